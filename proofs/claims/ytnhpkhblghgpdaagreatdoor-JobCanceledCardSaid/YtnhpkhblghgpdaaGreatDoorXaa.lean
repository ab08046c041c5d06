/- A part. Conditions: none. -/
import Derived.Below
import Derived.CallsIn
import Derived.Laws.AppendOwn
import Derived.Laws.AppendOwnNone
import Derived.Laws.MakeOwn
import Derived.Laws.World
import Derived.Laws.Cells
import Derived.Laws.Small
import Derived.Laws.Entries
import Derived.Laws.Strings
import Derived.Laws.StructEq
import Derived.Laws.Shifts
set_option linter.unusedSectionVars false
set_option linter.unusedSimpArgs false
set_option linter.unusedVariables false
set_option linter.defProp false
namespace Go.DM
def bb{α:Sort _}(a:α):∃b,a=b:=⟨a,rfl⟩
def Zaa:=@Option.some.injEq
def Zab:=@if_neg
def Zac:=@Option.map_eq_some_iff
def Zad:=@Option.bind_eq_some_iff
def Zae:=@Int.eq_ofNat_of_zero_le
def Zaf:=@Nat.le_refl
def Zag:=@Int.toNat_natCast
def Zah:=@List.mem_cons
def Zai:=@if_pos
def Zaj:=@Option.bind_eq_bind
def Zak:=@List.mem_map
def Zal:=@List.not_mem_nil
def Zam:=@Bool.and_eq_true
def Zan:=@List.mem_singleton
def Zao:=@Option.pure_def
def Zap:=@Array.getElem?_eq_some_iff
def Zaq:=@List.mem_append
def Zar:=@absurd
def Zas:=@List.getElem?_eq_getElem
def Zat:=@of_decide_eq_true
def Zau:=@decide_eq_true_eq
def Zav:=@Prod.mk.injEq
def Zaw:=@List.getElem?_eq_some_iff
def Zax:=@List.mem_of_getElem?
def Zay:=@of_decide_eq_false
def Zaz:=@decide_eq_false_iff_not
def ZaA:=@List.map_cons
def ZaB:=@List.length_take
def ZaC:=@List.append_nil
def ZaD:=@List.eq_nil_of_length_eq_zero
def ZaE:=@List.mem_of_mem_take
def ZaF:=@List.getElem?_cons_zero
def ZaG:=@List.nil_append
def ZaH:=@Array.getD_eq_getD_getElem?
def ZaI:=@List.foldl_append
def ZaJ:=@Nat.pos_iff_ne_zero
def ZaK:=@List.length_append
def ZaL:=@Bool.false_ne_true
def ZaM:=@List.cons_append
def ZaN:=@List.foldl_cons
def ZaO:=@List.getElem_of_mem
def ZaP:=@Nat.le_trans
def ZaQ:=@List.getElem?_take
def ZaR:=@List.range_succ
def ZaS:=@List.mem_or_eq_of_mem_set
def ZaT:=@List.length_pos_iff
def ZaU:=@List.all_eq_true
def ZaV:=@List.mem_flatMap
def ZaW:=@Bool.false_eq_true
def ZaX:=@List.take_of_length_le
def ZaY:=@List.replicate_succ
def ZaZ:=@List.map_append
def Za0:=@List.pairwise_cons
def Za1:=@List.cons.injEq
def Za2:=@List.mem_range
def Za3:=@Array.length_toList
def Za4:=@List.filter_cons
def Za5:=@List.length_cons
def Za6:=@List.find?_cons
def Za7:=@List.mapM_cons
def Za8:=@Option.map_some
def Za9:=@List.getElem?_append_right
def Zba:=@and_assoc
def Zbb:=@List.getElem?_cons_succ
def Zbc:=@List.getElem?_append_left
def Zbd:=@Option.getD_some
def Zbe:=@List.getElem_mem
def Zbf:=@Bool.not_eq_true'
def Zbg:=@List.mem_cons_of_mem
def Zbh:=@List.findIdx?_cons
def Zbi:=@Nat.zero_add
def Zbj:=@List.mem_filter
def Zbk:=@Nat.mul_le_mul_right
def Zbl:=@List.mem_cons_self
def Zbm:=@List.findIdx?_eq_some_iff_getElem
def Zbn:=@List.length_map
def Zbo:=@List.length_drop
def Zbp:=@Option.isSome_iff_exists
def Zbq:=@List.map_congr_left
def Zbr:=@List.take_append_drop
def Zbs:=@List.getElem?_eq_none
def Zbt:=@List.flatMap_cons
def Zbu:=@List.flatten_cons
def Zbv:=@List.drop_eq_nil_of_le
def Zbw:=@List.ext_getElem
def Zbx:=@List.getElem?_map
def Zby:=@List.length_replicate
def Zbz:=@Nat.lt_of_lt_of_le
def ZbA:=@List.mem_filterMap
def ZbB:=@Nat.zero_le
def ZbC:=@List.getElem?_set
def ZbD:=@Array.getElem?_eq_getElem
def ZbE:=@List.getElem?_eq_none_iff
def ZbF:=@List.drop_eq_getElem_cons
def ZbG:=@List.set_append_right
def ZbH:=@List.getElem?_drop
def ZbI:=@List.eq_of_mem_replicate
def ZbJ:=@Array.append_empty
def ZbK:=@Nat.lt_of_not_le
def ZbL:=@List.map_nil
def ZbM:=@List.take_length
def ZbN:=@List.ext_getElem?
def ZbO:=@List.take_add_one
def ZbP:=@Option.ne_none_iff_exists'
def ZbQ:=@List.getElem_map
def ZbR:=@List.set_cons_zero
def ZbS:=@List.getElem_range
def ZbT:=@List.contains_iff_mem
def ZbU:=@Option.some.inj
def ZbV:=@Nat.add_zero
def ZbW:=@List.mem_of_mem_drop
def ZbX:=@Bool.eq_iff_iff
def ZbY:=@List.getElem?_of_mem
def ZbZ:=@Array.getElem?_setIfInBounds
def Zb0:=@List.nodup_nil
def Zb1:=@List.getElem_set
def Zb2:=@List.set_cons_succ
def Zb3:=@List.mem_append_right
def Zb4:=@List.modify_succ_cons
def Zb5:=@List.length_range
def Zb6:=@List.mem_range'_1
def Zb7:=@List.nodup_append
def Zb8:=@List.mem_of_find?_eq_some
def Zb9:=@List.findIdx?_eq_none_iff
def Zca:=@List.foldl_nil
def Zcb:=@Nat.sub_zero
def Zcc:=@Nat.lt_succ_self
def Zcd:=@List.map_set
def Zce:=@List.any_eq_true
def Zcf:=@List.take_succ_cons
def Zcg:=@List.replicate_zero
def Zch:=@List.getElem?_replicate
def Zci:=@Bool.or_eq_true
def Zcj:=@List.length_nil
def Zck:=@Int.mul_le_mul_of_nonneg_right
def Zcl:=@List.any_eq_false
def Zcm:=@List.getElem_drop
def Zcn:=@List.drop_zero
def Zco:=@List.modify_zero_cons
def Zcp:=@Nat.sub_self
def Zcq:=@Int.mul_nonneg
def Zcr:=@Option.bind_some
def Zcs:=@Bool.not_true
def Zct:=@Int.le_refl
def Zcu:=@List.getD_cons_succ
def Zcv:=@List.flatMap_append
def Zcw:=@List.nodup_cons
def Zcx:=@Array.mapM_eq_mapM_toList
def Zcy:=@List.count_cons
def Zcz:=@Nat.add_sub_cancel
def ZcA:=@List.mem_of_mem_eraseIdx
def ZcB:=@Int.natCast_nonneg
def ZcC:=@List.foldl_map
def ZcD:=@List.pairwise_map
def ZcE:=@List.getElem_take
def ZcF:=@Bool.true_and
def ZcG:=@List.all_cons
def ZcH:=@Nat.mod_eq_of_lt
def ZcI:=@List.zipIdx_cons
def ZcJ:=@List.countP_cons
def ZcK:=@Nat.zero_mul
def ZcL:=@List.forIn_cons
def ZcM:=@List.getElem?_append
def ZcN:=@List.replicate_succ'
def ZcO:=@List.find?_eq_some_iff_getElem
def ZcP:=@Int.mul_le_mul_of_nonneg_left
def ZcQ:=@Array.toList_modify
def ZcR:=@List.filterMap_cons
def ZcS:=@List.take_take
def ZcT:=@dif_neg
def ZcU:=@Nat.mul_le_mul
def ZcV:=@dif_pos
def ZcW:=@Int.toNat_zero
def ZcX:=@List.find?_eq_none
def ZcY:=@Nat.eq_zero_or_pos
def ZcZ:=@Array.getElem?_append_left
def Zc0:=@List.pairwise_iff_getElem
def Zc1:=@List.take_append
def Zc2:=@List.range'_succ
def Zc3:=@Bool.not_eq_true
def Zc4:=@List.map_map
def Zc5:=@Nat.lt_or_ge
def Zc6:=@List.length_eq_zero_iff
def Zc7:=@List.find?_some
def Zc8:=@List.take_left'
def Zc9:=@Nat.min_eq_left
def Zda:=@List.range_zero
def Zdb:=@Nat.le_succ
def Zdc:=@List.Perm.refl
def Zdd:=@List.modify_id
section
abbrev fo:=Nat->Prop
abbrev bO:=List Int
abbrev cO:=List Nat
section
variable{w':World}{W':fo}
inductive T where
 |bool (b:Bool)
 |int (k:IntKind) (n:Int)
 |str (s:ByteArray)
 |sl (av:List (List T))
 |agg (cs:List T)
 |eo (vs:List T)
 |fn (f:Fn) (bY:List T)
 |box (cs:List T)
 |mg (v:Value)
abbrev aK:=List T
abbrev LstTT:=List aK
instance:Inhabited T:=⟨.bool false⟩
section
variable(w:World)(W:fo)
mutual
def bj:T->Value->Prop
 |.bool b,v=>v=.bool b
 |.int k n,v=>v=.int k n
 |.str s,v=>v=.string s
 |.sl av,v=>(av=[]/\∃(a:Option Addr) (cap:Nat),v=.slice a 0 cap)\/
   ∃b o cap sz,v=.slice (some ⟨b,o,none⟩) av.length cap/\b<w.heap.size/\¬W b/\av.length<=cap/\bw sz b o av
 |.agg cs,v=>∃vs,v=.agg vs/\du cs vs.toList
 |.eo ts,v=>∃vs,v=.tuple vs/\fN ts vs.toList
 |.fn f bY,v=>∃vs,v=.func f #[] vs/\du bY vs.toList
 |.box cs,v=>∃b o,v=.pointer (some ⟨b,o,none⟩)/\b<w.heap.size/\¬W b/\ed b o cs
 |.mg x,v=>v=x
def du:aK->List Value->Prop
 |[],vs=>vs=[]
 |t::ts,vs=>∃v EY,vs=v::EY/\v.oneCell'=true/\bj t v/\du ts EY
def fN:aK->List Value->Prop
 |[],vs=>vs=[]
 |t::ts,vs=>∃v EY,vs=v::EY/\bj t v/\fN ts EY
def ed:Nat->Nat->aK->Prop
 |_,_,[]=>True
 |b,o,t::ts=>(∃v,w.cell? ⟨b,o,none⟩=some v/\v.oneCell'=true/\bj t v)/\ed b (o+1) ts
def bw:Nat->Nat->Nat->List (aK)->Prop
 |_,_,_,[]=>True
 |sz,b,o,r::rs=>r.length=sz/\ed b o r/\bw sz b (o+sz) rs
end
end
structure KeepsC(W:fo)(w w':World):Prop where
 size:w.heap.size<=w'.heap.size
 I1:∀(b:Nat) c e fr,w.heap[b]? =some (.cells c e fr)->¬W b->w'.heap[b]? =some (.cells c e fr)
structure dg(W:fo)(w w':World):Prop extends KeepsC W w w' where
 W8:∀b:Nat,w.heap[b]? =some (Obj.deferred (some []))->w'.heap[b]? =some (Obj.deferred (some []))
 Xy:∀(b:Nat) r,w.heap[b]? =some (Obj.loop r)->w'.heap[b]? =some (Obj.loop r)
def KeepsC.cell{W:fo}{w:World}(h:KeepsC W w w'){b o:Nat}{v:Value}(hn:¬W b)(hc:w.cell? ⟨b,o,none⟩=some v):w'.cell? ⟨b,o,none⟩=some v:=by
 unfold World.cell? at hc⊢;simp only at hc⊢;split at hc
 ·rename_i c e fr hb;rw[h.I1 b c e fr hb hn];exact hc
 ·cases hc
def dg.refl(W:fo)(w:World):dg W w w:=⟨⟨Zaf _,λ_ _ _ _ h _=>h⟩,λ_ h=>h,λ_ _ h=>h⟩
def dg.mono{W:fo}{a b:World}(h:dg W a b)(hw:∀i,W i->W' i):dg W' a b:=
 ⟨⟨h.size,λi c e fr hi hn=>h.I1 i c e fr hi λx=>hn (hw i x)⟩,h.W8,h.Xy⟩
structure vO(B:Nat)(w w':World):Prop extends RowKit.Below B w w' where
 drawn:w.drawn<=w'.drawn
def dg.Xz{W:fo}{w:World}(h:RowKit.Below w.heap.size w w'):dg W w w':=
 ⟨⟨h.size,λb c e fr hb _=>(h.block b (Zap.1 hb).1).trans hb⟩,λb hb=>(h.block b (Zap.1 hb).1).trans hb,λb r hb=>(h.block b (Zap.1 hb).1).trans hb⟩
mutual
def bj.bi{w w':World}{W W':fo}(h:KeepsC W w w')(hW:∀b,b<w.heap.size->W' b->W b):∀(t:T) (v:Value),bj w W t v->bj w' W' t v
 |.bool b,v,r=>by simpa [bj]using r
 |.int k n,v,r=>by simpa [bj]using r
 |.mg x,v,r=>by simpa [bj]using r
 |.str s,v,r=>by simpa [bj]using r
 |.sl av,v,r=>by
  simp only[bj]at r⊢;rcases r with r|⟨b,o,cap,sz,hv,hb,hn,hc,hr⟩
  ·exact .inl r
  ·exact .inr ⟨b,o,cap,sz,hv,Zbz hb h.size,λx=>hn (hW b hb x),hc,bw.bi h hW hb hn sz o av hr⟩
 |.agg cs,v,r=>by
  simp only[bj]at r⊢;obtain⟨vs,hv,hr⟩:=r;exact⟨vs,hv,du.bi h hW cs _ hr⟩
 |.eo ts,v,r=>by
  simp only[bj]at r⊢;obtain⟨vs,hv,hr⟩:=r;exact⟨vs,hv,fN.bi h hW ts _ hr⟩
 |.fn f bY,v,r=>by
  simp only[bj]at r⊢;obtain⟨vs,hv,hr⟩:=r;exact⟨vs,hv,du.bi h hW bY _ hr⟩
 |.box cs,v,r=>by
  simp only[bj]at r⊢;obtain⟨b,o,hv,hb,hn,hr⟩:=r;exact⟨b,o,hv,Zbz hb h.size,λx=>hn (hW b hb x),ed.bi h hW hb hn o cs hr⟩
def du.bi{w w':World}{W W':fo}(h:KeepsC W w w')(hW:∀b,b<w.heap.size->W' b->W b):∀(ts:aK) (vs:List Value),du w W ts vs->du w' W' ts vs
 |[],vs,r=>by simpa [du]using r
 |t::ts,vs,r=>by
  simp only[du]at r⊢;obtain⟨v,EY,hv,h1,hr,mt⟩:=r;exact⟨v,EY,hv,h1,bj.bi h hW t v hr,du.bi h hW ts EY mt⟩
def fN.bi{w w':World}{W W':fo}(h:KeepsC W w w')(hW:∀b,b<w.heap.size->W' b->W b):∀(ts:aK) (vs:List Value),fN w W ts vs->fN w' W' ts vs
 |[],vs,r=>by simpa [fN]using r
 |t::ts,vs,r=>by
  simp only[fN]at r⊢;obtain⟨v,EY,hv,hr,mt⟩:=r;exact⟨v,EY,hv,bj.bi h hW t v hr,fN.bi h hW ts EY mt⟩
def ed.bi{w w':World}{W W':fo}(h:KeepsC W w w')(hW:∀b,b<w.heap.size->W' b->W b){b:Nat}(hb:b<w.heap.size)(hn:¬W b):∀(o:Nat) (ts:aK),ed w W b o ts->ed w' W' b o ts
 |_,[],_=>by simp[ed]
 |o,t::ts,r=>by
  simp only[ed]at r⊢;obtain⟨⟨v,hc,h1,hr⟩,mt⟩:=r;exact⟨⟨v,h.cell hn hc,h1,bj.bi h hW t v hr⟩,ed.bi h hW hb hn (o+1) ts mt⟩
def bw.bi{w w':World}{W W':fo}(h:KeepsC W w w')(hW:∀b,b<w.heap.size->W' b->W b){b:Nat}(hb:b<w.heap.size)(hn:¬W b)(sz:Nat):∀(o:Nat) (rs:List (aK)),bw w W sz b o rs->bw w' W' sz b o rs
 |_,[],_=>by simp[bw]
 |o,r::rs,x=>by
  simp only[bw]at x⊢;exact⟨x.1,ed.bi h hW hb hn o r x.2.1,bw.bi h hW hb hn sz (o+sz) rs x.2.2⟩
end
section
variable{w:World}{W:fo}
def bw.row{sz b:Nat}:∀{av:List (aK)} {o i:Nat} {r:aK},bw w W sz b o av->av[i]? =some r->r.length=sz/\ed w W b (o+i*sz) r
 |[],_,_,_,_,h=>by simp at h
 |x::xs,o,0,r,hr,h=>by
  simp only[bw]at hr;simp only[ZaF,Zaa]at h;subst h;simpa using⟨hr.1,hr.2.1⟩
 |x::xs,o,i+1,r,hr,h=>by
  simp only[bw]at hr;simp only[Zbb]at h;have:=bw.row hr.2.2 h;rw[show o+(i+1)*sz=o+sz+i*sz by rw[Nat.add_mul];omega];exact this
def ed.Da{b:Nat}:∀(ts:aK) (o:Nat),(∀j t,ts[j]? =some t->∃v,w.cell? ⟨b,o+j,none⟩=some v/\v.oneCell'=true/\bj w W t v)->ed w W b o ts
 |[],_,_=>by simp[ed]
 |t::ts,o,h=>by
  simp only[ed];refine⟨by simpa using h 0 t (by simp),ed.Da ts (o+1) λj u hu=>?_⟩;have:=h (j+1) u (by simpa using hu)
  rwa [show o+1+j=o+(j+1)by omega]
def bw.Ck{sz b:Nat}:∀(rs:List (aK)) (o:Nat),(∀i r,rs[i]? =some r->r.length=sz/\ed w W b (o+i*sz) r)->bw w W sz b o rs
 |[],_,_=>by simp[bw]
 |r::rs,o,h=>by
  simp only[bw];have h0:=h 0 r (by simp);refine⟨h0.1,by simpa using h0.2,bw.Ck rs (o+sz) λi u hu=>?_⟩;have:=h (i+1) u (by simpa using hu)
  rwa [show o+sz+i*sz=o+(i+1)*sz by rw[Nat.add_mul];omega]
def du.length:∀{ts:aK} {vs:List Value},du w W ts vs->vs.length=ts.length
 |[],_,h=>by simp only[du]at h;simp[h]
 |_::ts,_,h=>by
  simp only[du]at h;obtain⟨v,EY,rfl,_,_,hr⟩:=h;simp[du.length hr]
def fN.length:∀{ts:aK} {vs:List Value},fN w W ts vs->vs.length=ts.length
 |[],_,h=>by simp only[fN]at h;simp[h]
 |_::ts,_,h=>by
  simp only[fN]at h;obtain⟨v,EY,rfl,_,hr⟩:=h;simp[fN.length hr]
def du.get:∀{ts:aK} {vs:List Value} {i:Nat} {t:T},du w W ts vs->ts[i]? =some t->∃v,vs[i]? =some v/\v.oneCell'=true/\bj w W t v
 |[],_,_,_,_,h=>by simp at h
 |x::xs,_,0,t,hr,h=>by
  simp only[du]at hr;obtain⟨v,EY,rfl,h1,h2,_⟩:=hr;simp only[ZaF,Zaa]at h;subst h;exact⟨v,rfl,h1,h2⟩
 |x::xs,_,i+1,t,hr,h=>by
  simp only[du]at hr;obtain⟨v,EY,rfl,_,_,hr⟩:=hr;simpa using du.get hr (by simpa using h)
def fN.get:∀{ts:aK} {vs:List Value} {i:Nat} {t:T},fN w W ts vs->ts[i]? =some t->∃v,vs[i]? =some v/\bj w W t v
 |[],_,_,_,_,h=>by simp at h
 |x::xs,_,0,t,hr,h=>by
  simp only[fN]at hr;obtain⟨v,EY,rfl,h2,_⟩:=hr;simp only[ZaF,Zaa]at h;subst h;exact⟨v,rfl,h2⟩
 |x::xs,_,i+1,t,hr,h=>by
  simp only[fN]at hr;obtain⟨v,EY,rfl,_,hr⟩:=hr;simpa using fN.get hr (by simpa using h)
end
class bI where
 cells:List (Nat×aK)
abbrev bI.none:bI:=⟨[]⟩
def F2 [bI](w:World)(W:fo):Prop:=∀p∈bI.cells,p.1<w.heap.size/\¬W p.1/\ed w W p.1 0 p.2
def F2.bi [bI]{w:World}{W:fo}(h:F2 w W)(hk:KeepsC W w w')(hW:∀b,b<w.heap.size->W' b->W b):F2 w' W':=λp hp=>by
 obtain⟨h1,h2,h3⟩:=h p hp;exact⟨Zbz h1 hk.size,λx=>h2 (hW _ h1 x),ed.bi hk hW h1 h2 0 p.2 h3⟩
def F2.empty(w:World)(W:fo): @F2 bI.none w W:=λp hp=>by cases hp
end
end
section
inductive DV where
 |undef
 |skip
 |v (t:T)
 |aW
 |ptr (r off:Nat)
 |bA (r bD:Nat)
 |l7 (av:List (aK)) (i:Int) (off:Nat)
 |iD (cs:aK) (off:Nat)
 |ka (r bD:Nat) (i:Int) (off:Nat)
 |agg (cs:List DV)
 |NV
 |iE (r:Nat)
 |kc (r:Nat)
 |eo (ds:List DV)
 |u9 (r bD lo n:Nat)
 |nG (f:Fn) (bY:List DV)
 |F9 (r n:Nat)
abbrev dw:=Nat->DV
abbrev fA:=List (Nat×DV)
abbrev bB:=List DV
instance:Inhabited DV:=⟨.undef⟩
inductive Sh where
 |bool|int (k:IntKind)|str
def HI:Sh->T->Bool
 |.bool,.bool _=>true
 |.int k,.int k' _=>k==k'
 |.str,.str _=>true
 |_,_=>false
def eL:List Sh->aK->Prop
 |[],ts=>ts=[]
 |s::ss,t::ts=>HI s t=true/\eL ss ts
 |_::_,[]=>False
inductive Ob where
 |box (cs:bB)
 |dT (bD e sz:Nat) (av:List (aK))
 |map (cj:List Sh) (agg:Bool) (dv:Nat) (es:List (Nat×T×DV))
 |kc (m since:Nat) (seen:cO) (last:Nat)
abbrev cV:=List (Nat×Ob)
def Ob.kind:Ob->Nat
 |.box _=>0
 |.dT _ _ _ _=>1
 |.map _ _ _ _=>2
 |.kc _ _ _ _=>3
abbrev bq:=Nat->Option Ob
structure l8 where
 tmps:dw
 ab:bq
 aJ:Nat
 low:Nat
 todo:List (aK)
inductive bQ where
 |tmp (t:Nat)
 |gN (d:DV)
def bQ.ev(ρ:dw):bQ->DV
 |.tmp t=>ρ t
 |.gN d=>d
structure fI where
 ok:Prop
 val:DV
 ab:bq
structure Spec where
 pre:aK->Prop
 fn:aK->T
 jz:Bool
 st:Option (bB->bq->fI):=none
 fresh:Option (Nat×Nat):=none
 fY:Bool:=false
abbrev pI:=FuncId->Option Spec
inductive rO where
 |qu (x:bQ)
 |pick (c a b:bQ)
 |alloc (zero:bB)
 |box (x:bQ)
 |build (zero:bB) (parts:List (Nat×Nat×bQ))
 |bslice (len sz:Nat) (zero:bB) (parts:List (Nat×Nat×bQ))
 |load (n:Nat) (agg:Bool) (x:bQ)
 |store (n:Nat) (x y:bQ)
 |bin (op:BinOp) (x y:bQ)
 |eqT (neg agg:Bool) (cj:List Sh) (x y:bQ)
 |un (op:UnOp) (x:bQ)
 |conv (k:IntKind) (x:bQ)
 |addOff (k:Nat) (x:bQ)
 |nilCheck (x:bQ)
 |idxAddr (sz:Nat) (x i:bQ)
 |arrAddr (len sz:Nat) (x i:bQ)
 |field (off n:Nat) (agg:Bool) (x:bQ)
 |slice (sz:Nat) (x:bQ) (lo hi:Option bQ)
 |extract (i:Nat) (x:bQ)
 |call (f:FuncId) (args:List bQ)
 |callS (f:FuncId) (args:List bQ)
 |callF (f:FuncId) (args:List bQ)
 |callR (f:FuncId) (args:List bQ)
 |callv (x:bQ) (args:List bQ)
 |len (x:bQ)
 |lenS (x:bQ)
 |minmax (aaN:Bool) (x y:bQ)
 |append (e sz bytes:Nat) (x y:bQ)
 |mkSlice (e sz bytes:Nat) (zero:aK) (n:bQ)
 |mkSliceB (e sz bytes:Nat) (zero:aK) (n:bQ)
 |mkFn (f:Fn) (bY:List bQ)
 |mkMap (cj:List Sh) (agg:Bool)
 |lookup (cj:List Sh) (agg:Bool) (zero:DV) (ok:Bool) (x k:bQ)
 |mapUpd (cj:List Sh) (agg:Bool) (x k y:bQ)
 |mapDel (cj:List Sh) (agg:Bool) (x k:bQ)
 |mapEnt (cj:List Sh) (agg:Bool) (zero:DV) (x k:bQ)
 |entSt (x s y:bQ)
 |lenM (x:bQ)
 |rangeM (x:bQ)
 |entryM (x:bQ)
 |copy (sz:Nat) (x y:bQ)
 |isNil (kind:Nat) (neg:Bool) (x:bQ)
 |indexS (x i:bQ)
 |fail
structure qO where
 ok:Prop
 val:DV
 put:Option (Nat×Ob):=none
def cZ:qO:=⟨False,.undef,none⟩
def Db:T->Bool
 |.agg _|.eo _=>false
 |.mg v=>v.oneCell'
 |_=>true
def cellsOf:DV->bB
 |.v (.agg cs)=>cs.map .v
 |.agg cs=>cs
 |d=>[d]
def mO:DV->Prop
 |.undef=>False
 |.skip=>False
 |.v (.eo _)=>False
 |.v (.mg x)=>x.oneCell'=true
 |.eo _=>False
 |_=>True
mutual
def tz(ab:bq):DV->T
 |.v t=>t
 |.aW=>.sl []
 |.bA r _=>match ab r with|some (.dT _ _ _ av)=>.sl av|_=>.sl []
 |.agg cs=>.agg (ji ab cs)
 |.u9 r _ lo n=>match ab r with|some (.dT _ _ _ av)=>.sl ((av.drop lo).take n)|_=>.sl []
 |.nG f bY=>.fn f (ji ab bY)
 |_=>.mg undef
def ji(ab:bq):bB->aK
 |[]=>[]
 |d::ds=>tz ab d::ji ab ds
end
mutual
def F3(fY:Bool)(ab:bq):DV->Prop
 |.v _=>True
 |.aW=>True
 |.bA r bD=>fY=true/\match ab r with|some (.dT cg _ _ _)=>bD=cg|_=>False
 |.agg cs=>tA fY ab cs
 |.u9 r bD lo n=>fY=true/\match ab r with|some (.dT cg _ _ av)=>bD=cg/\lo+n<=av.length|_=>False
 |.nG _ bY=>tA fY ab bY
 |_=>False
def tA(fY:Bool)(ab:bq):bB->Prop
 |[]=>True
 |d::ds=>F3 fY ab d/\tA fY ab ds
end
def t7:DV->Prop
 |.v t=>Db t=true
 |.aW=>True
 |_=>False
def iZ:bB->Prop
 |[]=>True
 |d::ds=>t7 d/\iZ ds
def xU:bB->Bool
 |[]=>true
 |.v t::ds=>Db t&&xU ds
 |.aW::ds=>xU ds
 |_::_=>false
def kp:DV->Prop
 |.undef=>False
 |.skip=>False
 |.v t=>Db t=true
 |.agg _=>False
 |.eo _=>False
 |_=>True
def eX:bB->Prop
 |[]=>True
 |d::ds=>kp d/\eX ds
def cy{α:Type}(l:List α)(off:Nat)(new:List α):List α:=l.take off++new++l.drop (off+new.length)
def vZ(cells:bB):List (Nat×Nat×DV)->bB
 |[]=>cells
 |(off,_,d)::ps=>vZ (cy cells off (cellsOf d)) ps
def t8(n:Nat):List (Nat×Nat×DV)->Prop
 |[]=>True
 |(off,sz,d)::ps=>(cellsOf d).length=sz/\off+sz<=n/\eX (cellsOf d)/\t8 n ps
def rowAt(av:List (aK))(i:Int):aK:=av.getD i.toNat []
def fU(sz:Nat):Nat->aK->List (aK)
 |0,_=>[]
 |n+1,cs=>cs.take sz::fU sz n (cs.drop sz)
def iF(n:Nat)(agg:Bool)(ab:bq):DV->qO
 |.ptr r off=>match ab r with
  |some (.box cs)=>⟨off+n<=cs.length/\(agg=true\/n=1),if agg then .agg ((cs.drop off).take n)else cs.getD off .undef,none⟩
  |_=>cZ
 |.l7 av i off=>⟨off+n<=(rowAt av i).length/\(agg=true\/n=1),if agg then .v (.agg (((rowAt av i).drop off).take n))else .v ((rowAt av i).getD off default),none⟩
 |.iD cs off=>⟨off+n<=cs.length/\(agg=true\/n=1),if agg then .v (.agg ((cs.drop off).take n))else .v (cs.getD off default),none⟩
 |.v (.box cs)=>⟨n<=cs.length/\(agg=true\/n=1),if agg then .v (.agg (cs.take n))else .v (cs.getD 0 default),none⟩
 |.ka r bD i off=>match ab r with
  |some (.dT cg _ _ av)=>⟨bD=cg/\off+n<=(rowAt av i).length/\(agg=true\/n=1),if agg then .v (.agg (((rowAt av i).drop off).take n))else .v ((rowAt av i).getD off default),none⟩
  |_=>cZ
 |_=>cZ
def lG(n:Nat)(ab:bq)(y:DV):DV->qO
 |.ptr r off=>match ab r with
  |some (.box cs)=>⟨(cellsOf y).length=n/\off+n<=cs.length/\eX (cellsOf y),.undef,some (r,.box (cy cs off (cellsOf y)))⟩
  |_=>cZ
 |.ka r bD i off=>match ab r with
  |some (.dT cg e sz av)=>⟨bD=cg/\(cellsOf y).length=n/\off+n<=sz/\iZ (cellsOf y),.undef,
    some (r,.dT cg e sz (av.set i.toNat (cy (rowAt av i) off (ji ab (cellsOf y)))))⟩
  |_=>cZ
 |_=>cZ
def ua(op:BinOp):DV->DV->qO
 |.v (.int k a),.v (.int k' b)=>match op with
  |.add=>⟨k=k',.v (.int k (k.wrap (a+b))),none⟩
  |.sub=>⟨k=k',.v (.int k (k.wrap (a-b))),none⟩
  |.mul=>⟨k=k',.v (.int k (k.wrap (a*b))),none⟩
  |.quo=>⟨k=k'/\b≠0,.v (.int k (k.wrap (a.tdiv b))),none⟩
  |.rem=>⟨k=k'/\b≠0,.v (.int k (a.tmod b)),none⟩
  |.eql=>⟨k=k',.v (.bool (decide (a=b))),none⟩
  |.neq=>⟨k=k',.v (.bool (!decide (a=b))),none⟩
  |.lss=>⟨k=k',.v (.bool (decide (a<b))),none⟩
  |.leq=>⟨k=k',.v (.bool (decide (a<=b))),none⟩
  |.gtr=>⟨k=k',.v (.bool (decide (b<a))),none⟩
  |.geq=>⟨k=k',.v (.bool (decide (b<=a))),none⟩
  |.shl=>⟨0<=b,.v (.int k (k.wrap (a*2^min b.toNat k.bits))),none⟩
  |.shr=>⟨0<=b,.v (.int k (a/2^min b.toNat k.bits)),none⟩
  |.and=>⟨k=k',.v (.int k (k.wrap (BitVec.ofInt k.bits a&&&BitVec.ofInt k.bits b).toNat)),none⟩
  |.or=>⟨k=k',.v (.int k (k.wrap (BitVec.ofInt k.bits a|||BitVec.ofInt k.bits b).toNat)),none⟩
  |.xor=>⟨k=k',.v (.int k (k.wrap (BitVec.ofInt k.bits a^^^BitVec.ofInt k.bits b).toNat)),none⟩
  |_=>cZ
 |_,_=>cZ
mutual
def gO:T->T->Bool
 |.bool a,.bool b=>a==b
 |.int _ a,.int _ b=>decide (a=b)
 |.str a,.str b=>decide (a=b)
 |.agg as,.agg bs=>tl as bs
 |_,_=>false
def tl:aK->aK->Bool
 |[],[]=>true
 |a::as,b::bs=>gO a b&&tl as bs
 |_,_=>false
end
def Dc(neg agg:Bool)(cj:List Sh):T->T->qO
 |.agg as,.agg bs=>⟨agg=true/\eL cj as/\eL cj bs,.v (.bool (neg^^tl as bs)),none⟩
 |a,b=>⟨agg=false/\eL cj [a]/\eL cj [b],.v (.bool (neg^^gO a b)),none⟩
def Qq(op:UnOp):DV->qO
 |.v (.bool b)=>match op with
  |.not=>⟨True,.v (.bool (!b)),none⟩
  |_=>cZ
 |.v (.int k n)=>match op with
  |.neg=>⟨True,.v (.int k (k.wrap (-n))),none⟩
  |_=>cZ
 |_=>cZ
def iq(k:Nat):DV->qO
 |.ptr r off=>⟨True,.ptr r (off+k),none⟩
 |.l7 av i off=>⟨True,.l7 av i (off+k),none⟩
 |.iD cs off=>⟨True,.iD cs (off+k),none⟩
 |.v (.box cs)=>⟨True,.iD cs k,none⟩
 |.ka r bD i off=>⟨True,.ka r bD i (off+k),none⟩
 |_=>cZ
def kT:DV->qO
 |.ptr r off=>⟨True,.ptr r off,none⟩
 |.l7 av i off=>⟨True,.l7 av i off,none⟩
 |.iD cs off=>⟨True,.iD cs off,none⟩
 |.v (.box cs)=>⟨True,.v (.box cs),none⟩
 |.ka r bD i off=>⟨True,.ka r bD i off,none⟩
 |.v (.fn (.func f) bY)=>⟨True,.v (.fn (.func f) bY),none⟩
 |_=>cZ
def rZ(sz:Nat)(ab:bq):DV->DV->qO
 |.v (.sl av),.v (.int _ i)=>⟨0<=i/\i<av.length/\(rowAt av i).length=sz,.l7 av i 0,none⟩
 |.bA r bD,.v (.int _ i)=>match ab r with
  |some (.dT cg _ iG av)=>⟨bD=cg/\iG=sz/\0<=i/\i<av.length,.ka r bD i 0,none⟩
  |_=>cZ
 |.u9 r bD lo n,.v (.int _ i)=>match ab r with
  |some (.dT cg _ iG av)=>⟨bD=cg/\iG=sz/\0<=i/\i<n,.ka r bD (lo+i) 0,none⟩
  |_=>cZ
 |.F9 r n,.v (.int _ i)=>⟨0<=i/\i<n,.ptr r (i.toNat*sz),none⟩
 |_,_=>cZ
def kK(len sz:Nat):DV->DV->qO
 |.ptr r off,.v (.int _ i)=>⟨0<=i/\i<len,.ptr r (off+i.toNat*sz),none⟩
 |.l7 av j off,.v (.int _ i)=>⟨0<=i/\i<len,.l7 av j (off+i.toNat*sz),none⟩
 |.iD cs off,.v (.int _ i)=>⟨0<=i/\i<len,.iD cs (off+i.toNat*sz),none⟩
 |.v (.box cs),.v (.int _ i)=>⟨0<=i/\i<len,.iD cs (i.toNat*sz),none⟩
 |.ka r bD j off,.v (.int _ i)=>⟨0<=i/\i<len,.ka r bD j (off+i.toNat*sz),none⟩
 |_,_=>cZ
def mZ:DV->Option (bB)
 |.v (.agg cs)=>some (cs.map .v)
 |.agg cs=>some cs
 |_=>none
def oQ(off n:Nat)(agg:Bool)(x:DV):qO:=
 match mZ x with
 |some cs=>⟨off+n<=cs.length/\(agg=true\/n=1),if agg then .agg ((cs.drop off).take n)else cs.getD off .undef,none⟩
 |none=>cZ
def Dd :DV->Option Int
 |.v (.int _ n)=>some n
 |_=>none
def De:Option DV->Option Int
 |none=>some 0
 |some d=>Dd d
def Df(n:Int):Option DV->Option Int
 |none=>some n
 |some d=>Dd d
def jA(sz:Nat)(lo hi:Option DV)(ab:bq):DV->qO
 |.v (.sl av)=>
  match De lo,Df av.length hi with
  |some l,some h=>⟨0<=l/\l<=h/\h<=av.length/\(∀r∈av,r.length=sz),.v (.sl ((av.take h.toNat).drop l.toNat)),none⟩
  |_,_=>cZ
 |.aW=>
  match De lo,Df 0 hi with
  |some l,some h=>⟨l=0/\h=0,.aW,none⟩
  |_,_=>cZ
 |.bA r bD=>match ab r with
  |some (.dT cg _ iG av)=>match De lo,Df av.length hi with
   |some l,some h=>⟨bD=cg/\iG=sz/\0<=l/\l<=h/\h<=av.length,.u9 r bD l.toNat (h.toNat-l.toNat),none⟩
   |_,_=>cZ
  |_=>cZ
 |.u9 r bD lo' n=>match ab r with
  |some (.dT cg _ iG av)=>match De lo,Df n hi with
   |some l,some h=>⟨bD=cg/\iG=sz/\0<=l/\l<=h/\h<=n,.u9 r bD (lo'+l.toNat) (h.toNat-l.toNat),none⟩
   |_,_=>cZ
  |_=>cZ
 |_=>cZ
def r8(i:Nat):DV->qO
 |.v (.eo ts)=>⟨i<ts.length,.v (ts.getD i default),none⟩
 |.eo ds=>⟨i<ds.length,ds.getD i .undef,none⟩
 |_=>cZ
def wC(ab:bq):DV->qO
 |.v (.sl av)=>⟨True,.v (.int .i64 av.length),none⟩
 |.aW=>⟨True,.v (.int .i64 0),none⟩
 |.bA r bD=>match ab r with
  |some (.dT cg _ _ av)=>⟨bD=cg,.v (.int .i64 av.length),none⟩
  |_=>cZ
 |.u9 _ _ _ n=>⟨True,.v (.int .i64 n),none⟩
 |.F9 _ n=>⟨True,.v (.int .i64 n),none⟩
 |_=>cZ
def vd:DV->qO
 |.v (.str s)=>⟨True,.v (.int .i64 s.size),none⟩
 |_=>cZ
def oD(aaN:Bool):DV->DV->qO
 |.v (.int k a),.v (.int k' b)=>⟨k=k',.v (.int k (if aaN then max a b else min a b)),none⟩
 |_,_=>cZ
def fL(ab:bq):DV->Option (List (aK))
 |.v (.sl av)=>some av
 |.aW=>some []
 |.bA r bD=>match ab r with
  |some (.dT cg _ _ av)=>if bD=cg then some av else none
  |_=>none
 |.u9 r bD lo n=>match ab r with
  |some (.dT cg _ _ av)=>if bD=cg then some ((av.drop lo).take n)else none
  |_=>none
 |.v (.mg (.slice _ 0 _))=>some []
 |_=>none
def dK(bytes n:Nat):Prop:=n*bytes<=140737488355328/\n<=140737488355328
def wy(e sz bytes:Nat)(name:Nat)(ab:bq)(x y:DV):qO:=
 match fL ab y with
 |none=>cZ
 |some ys=>
  match x with
  |.aW=>⟨(∀r∈ys,r.length=sz)/\dK bytes ys.length,.bA name 0,some (name,.dT 0 e sz ys)⟩
  |.bA r bD=>match ab r with
   |some (.dT cg e' iG av)=>⟨bD=cg/\e'=e/\iG=sz/\(∀r∈ys,r.length=sz)/\dK bytes (av.length+ys.length),.bA r (bD+1),some (r,.dT (bD+1) e sz (av++ys))⟩
   |_=>cZ
  |.u9 r bD 0 n=>match ab r with
   |some (.dT cg e' iG av)=>⟨bD=cg/\e'=e/\iG=sz/\(∀r∈ys,r.length=sz)/\dK bytes (n+ys.length),.bA r (bD+1),some (r,.dT (bD+1) e sz (av.take n++ys))⟩
   |_=>cZ
  |_=>cZ
def lH(e sz bytes:Nat)(zero:aK)(name:Nat):DV->qO
 |.v (.int _ n)=>⟨0<=n/\zero.length=sz/\dK bytes n.toNat,.bA name 0,some (name,.dT 0 e sz (List.replicate n.toNat zero))⟩
 |_=>cZ
def Gx:T->DV
 |.sl []=>.aW
 |t=>.v t
def gh(sz bytes:Nat)(zero:aK)(name:Nat):DV->qO
 |.v (.int _ n)=>⟨0<=n/\zero.length=sz/\dK bytes n.toNat,.F9 name n.toNat,some (name,.box (List.replicate n.toNat (zero.map Gx)).flatten)⟩
 |_=>cZ
def jN(sz:Nat)(ab:bq)(x y:DV):qO:=
 match fL ab y with
 |none=>cZ
 |some ys=>
  match x with
  |.bA r bD=>match ab r with
   |some (.dT cg e iG av)=>⟨bD=cg/\iG=sz/\(∀r∈ys,r.length=sz),.v (.int .i64 (min ys.length av.length:Nat)),some (r,.dT bD e sz (cy av 0 (ys.take av.length)))⟩
   |_=>cZ
  |.u9 r bD lo n=>match ab r with
   |some (.dT cg e iG av)=>⟨bD=cg/\iG=sz/\(∀r∈ys,r.length=sz),.v (.int .i64 (min ys.length n:Nat)),some (r,.dT bD e sz (cy av lo (ys.take n)))⟩
   |_=>cZ
  |_=>cZ
def gj(kind:Nat)(neg:Bool)(ab:bq):DV->qO
 |.v (.mg (.slice p _ _))=>⟨kind=0,.v (.bool (neg^^p.isNone)),none⟩
 |.v (.mg (.pointer p))=>⟨kind=1,.v (.bool (neg^^p.isNone)),none⟩
 |.v (.mg .nilFunc)=>⟨kind=2,.v (.bool (neg^^true)),none⟩
 |.v (.sl av)=>⟨kind=0/\av≠[],.v (.bool (neg^^false)),none⟩
 |.v (.fn (.func _) _)=>⟨kind=2,.v (.bool (neg^^false)),none⟩
 |.v (.box _)=>⟨kind=1,.v (.bool (neg^^false)),none⟩
 |.ptr _ _|.iD _ _|.l7 _ _ _|.ka _ _ _ _=>⟨kind=1,.v (.bool (neg^^false)),none⟩
 |.nG (.func _) _=>⟨kind=2,.v (.bool (neg^^false)),none⟩
 |.bA r bD=>match ab r with
  |some (.dT cg _ _ av)=>⟨kind=0/\bD=cg/\av≠[],.v (.bool (neg^^false)),none⟩
  |_=>cZ
 |_=>cZ
def oE:DV->DV->qO
 |.v (.str s),.v (.int _ i)=>⟨0<=i/\i<s.size,.v (.int .u8 (s.data.getD i.toNat 0).toNat),none⟩
 |_,_=>cZ
def eM(cj:List Sh)(agg:Bool):T->Prop
 |.agg as=>agg=true/\eL cj as
 |t=>agg=false/\eL cj [t]
def NW:bB->Option (aK)
 |[]=>some []
 |.v t::ds=>(NW ds).map (t::·)
 |_::_=>none
def zV:DV->Option T
 |.v t=>some t
 |.agg cs=>(NW cs).map .agg
 |_=>none
def qP(k:T)(es:List (Nat×T×DV)):Option (Nat×T×DV):=es.find? λe=>gO k e.2.1
def HJ(k:T)(y:DV)(dv:Nat)(es:List (Nat×T×DV)):List (Nat×T×DV):=
 match es.findIdx? λe=>gO k e.2.1 with
 |some i=>es.modify i λe=>(e.1,e.2.1,y)
 |none=>es++[(dv,k,y)]
def oR(k:T)(dv:Nat)(es:List (Nat×T×DV)):Nat:=
 match es.findIdx? λe=>gO k e.2.1 with
 |some _=>dv
 |none=>dv+1
def delE(k:T)(es:List (Nat×T×DV)):List (Nat×T×DV):=
 match es.findIdx? λe=>gO k e.2.1 with
 |some i=>es.eraseIdx i
 |none=>es
def mw(cj:List Sh)(agg:Bool)(zero:DV)(ok:Bool)(ab:bq)(x k:DV):qO:=
 match x,zV k with
 |.iE r,some kt=>match ab r with
  |some (.map kq kr _ es)=>⟨kq=cj/\kr=agg/\eM cj agg kt,
    match qP kt es with
    |some e=>if ok then .eo [e.2.2,.v (.bool true)]else e.2.2
    |none=>if ok then .eo [zero,.v (.bool false)]else zero,none⟩
  |_=>cZ
 |_,_=>cZ
def ja(cj:List Sh)(agg:Bool)(ab:bq)(x k y:DV):qO:=
 match x,zV k with
 |.iE r,some kt=>match ab r with
  |some (.map kq kr c es)=>⟨kq=cj/\kr=agg/\eM cj agg kt/\mO y,.undef,some (r,.map cj agg (oR kt c es) (HJ kt y c es))⟩
  |_=>cZ
 |_,_=>cZ
def entE(k:T)(z:DV)(dv:Nat)(es:List (Nat×T×DV)):List (Nat×T×DV):=
 match es.findIdx? λe=>gO k e.2.1 with
 |some _=>es
 |none=>es++[(dv,k,z)]
def entV(k:T)(z:DV)(dv:Nat)(es:List (Nat×T×DV)):DV:=
 match qP k es with
 |some e=>.eo [e.2.2,.v (.int .i64 e.1)]
 |none=>.eo [z,.v (.int .i64 dv)]
def jd(cj:List Sh)(agg:Bool)(zero:DV)(ab:bq)(x k:DV):qO:=
 match x,zV k with
 |.iE r,some kt=>match ab r with
  |some (.map kq kr c es)=>⟨kq=cj/\kr=agg/\eM cj agg kt,
    entV kt zero c es,some (r,.map cj agg (oR kt c es) (entE kt zero c es))⟩
  |_=>cZ
 |_,_=>cZ
def setB(b:Int)(y:DV)(es:List (Nat×T×DV)):Option (List (Nat×T×DV)):=
 (es.findIdx? λe=>(e.1:Int)==b).map λi=>es.modify i λe=>(e.1,e.2.1,y)
def ku(ab:bq)(x s y:DV):qO:=
 match x,s with
 |.iE r,.v (.int _ b)=>match ab r with
  |some (.map cj agg c es)=>match setB b y es with
   |some m0=>⟨True,.undef,some (r,.map cj agg c m0)⟩
   |none=>cZ
  |_=>cZ
 |_,_=>cZ
def je(cj:List Sh)(agg:Bool)(ab:bq)(x k:DV):qO:=
 match x,zV k with
 |.iE r,some kt=>match ab r with
  |some (.map kq kr c es)=>⟨kq=cj/\kr=agg/\eM cj agg kt,.v (.eo []),some (r,.map cj agg c (delE kt es))⟩
  |_=>cZ
 |_,_=>cZ
def r9(ab:bq):DV->qO
 |.iE r=>match ab r with
  |some (.map _ _ _ es)=>⟨True,.v (.int .i64 es.length),none⟩
  |_=>cZ
 |_=>cZ
def kU(name:Nat)(ab:bq):DV->qO
 |.iE r=>match ab r with
  |some (.map _ _ c _)=>⟨True,.kc name,some (name,.kc r c [] c)⟩
  |_=>cZ
 |_=>cZ
def kV(ab:bq):DV->qO
 |.kc r=>match ab r with
  |some (.kc m _ seen last)=>match ab m,seen.getLast? with
   |some (.map _ _ c es),some b=>match es.find? λe=>e.1==b with
    |some e=>⟨c=last,.eo [.v e.2.1,e.2.2],none⟩
    |none=>cZ
   |_,_=>cZ
  |_=>cZ
 |_=>cZ
def pV(Γ:pI)(f:FuncId)(ab:bq)(args:bB):qO:=
 match Γ f with
 |some s=>⟨tA s.jz ab args/\s.pre (ji ab args),.v (s.fn (ji ab args)),none⟩
 |none=>cZ
mutual
def aN:DV->cO
 |.ptr r _|.bA r _|.ka r _ _ _|.iE r|.kc r|.u9 r _ _ _|.F9 r _=>[r]
 |.agg cs|.eo cs|.nG _ cs=>bM cs
 |_=>[]
def bM:bB->cO
 |[]=>[]
 |d::ds=>aN d++bM ds
end
def Bi(ab:bq)(args:bB):bq:=λn=>if n∈bM args then ab n else none
def wD(k:bB->bq->fI)(args:bB)(ab:bq):Prop:=
 ∀aI,(∀n∈bM args,aI n=ab n)->(k args aI).ok/\(k args aI).ab=aI/\(k args aI).val=(k args (Bi ab args)).val
def oS(Γ:pI)(f:FuncId)(ab:bq)(args:bB):qO:=
 match Γ f with
 |some s=>match s.st with
  |some k=>⟨wD k args ab,(k args (Bi ab args)).val,none⟩
  |none=>cZ
 |none=>cZ
def HK{Γ:pI}{f:FuncId}{ab aI:bq}{args:bB}(h:∀n∈bM args,aI n=ab n):oS Γ f aI args=oS Γ f ab args:=by
 have h1:Bi aI args=Bi ab args:=by
  funext n;unfold Bi;split
  ·rename_i hn;exact h n hn
  ·rfl
 have h2:∀k,wD k args aI=wD k args ab:=by
  intro k;unfold wD;rw[h1];apply propext;constructor
  ·exact λH o ho=>H o λn hn=>(ho n hn).trans (h n hn).symm
  ·exact λH o ho=>H o λn hn=>(ho n hn).trans (h n hn)
 unfold oS;simp only[h1,h2]
def oT(Γ:pI)(f:FuncId)(name:Nat)(ab:bq)(args:bB):qO:=
 match Γ f with
 |some s=>match s.fresh,s.fn (ji ab args)with
  |some (e,sz),.sl av=>⟨tA s.fY ab args/\s.pre (ji ab args),.bA name 0,some (name,.dT 0 e sz av)⟩
  |_,_=>cZ
 |none=>cZ
def dj(Γ:pI)(d:rO)(name:Nat)(ρ:dw)(ab:bq):qO:=
 match d with
 |.qu x=>⟨True,x.ev ρ,none⟩
 |.pick c a b=>match c.ev ρ with
  |.v (.bool t)=>⟨True,if t then a.ev ρ else b.ev ρ,none⟩
  |_=>cZ
 |.alloc zero=>⟨True,.ptr name 0,some (name,.box zero)⟩
 |.box x=>⟨mO (x.ev ρ),.ptr name 0,some (name,.box (cellsOf (x.ev ρ)))⟩
 |.build zero parts=>⟨t8 zero.length (parts.map λp=>(p.1,p.2.1,p.2.2.ev ρ)),.agg (vZ zero (parts.map λp=>(p.1,p.2.1,p.2.2.ev ρ))),none⟩
 |.bslice len sz zero parts=>
  if len=0 then⟨parts=[],.aW,none⟩else
  ⟨t8 (len*sz) (parts.map λp=>(p.1,p.2.1,p.2.2.ev ρ))/\iZ (vZ zero (parts.map λp=>(p.1,p.2.1,p.2.2.ev ρ))),
   .v (.sl (fU sz len (ji (λ_=>none) (vZ zero (parts.map λp=>(p.1,p.2.1,p.2.2.ev ρ)))))),none⟩
 |.load n agg x=>iF n agg ab (x.ev ρ)
 |.store n x y=>lG n ab (y.ev ρ) (x.ev ρ)
 |.bin op x y=>ua op (x.ev ρ) (y.ev ρ)
 |.eqT neg agg cj x y=>⟨F3 true ab (x.ev ρ)/\F3 true ab (y.ev ρ)/\(Dc neg agg cj (tz ab (x.ev ρ)) (tz ab (y.ev ρ))).ok,(Dc neg agg cj (tz ab (x.ev ρ)) (tz ab (y.ev ρ))).val,none⟩
 |.un op x=>Qq op (x.ev ρ)
 |.conv k x=>match x.ev ρ with
  |.v (.int _ n)=>⟨True,.v (.int k (k.wrap n)),none⟩
  |_=>cZ
 |.addOff k x=>iq k (x.ev ρ)
 |.nilCheck x=>kT (x.ev ρ)
 |.idxAddr sz x i=>rZ sz ab (x.ev ρ) (i.ev ρ)
 |.arrAddr len sz x i=>kK len sz (x.ev ρ) (i.ev ρ)
 |.field off n agg x=>oQ off n agg (x.ev ρ)
 |.slice sz x lo hi=>jA sz (lo.map (·.ev ρ)) (hi.map (·.ev ρ)) ab (x.ev ρ)
 |.extract i x=>r8 i (x.ev ρ)
 |.call f args=>pV Γ f ab (args.map (·.ev ρ))
 |.callF f args=>oT Γ f name ab (args.map (·.ev ρ))
 |.callR f args=>oS Γ f ab (args.map (·.ev ρ))
 |.callS _ _|.callv _ _|.entryM _=>cZ
 |.len x=>wC ab (x.ev ρ)
 |.lenS x=>vd (x.ev ρ)
 |.minmax m x y=>oD m (x.ev ρ) (y.ev ρ)
 |.append e sz bytes x y=>wy e sz bytes name ab (x.ev ρ) (y.ev ρ)
 |.mkSlice e sz bytes zero n=>lH e sz bytes zero name (n.ev ρ)
 |.mkSliceB e sz bytes zero n=>gh sz bytes zero name (n.ev ρ)
 |.mkFn f bY=>⟨eX (bY.map (·.ev ρ)),if xU (bY.map (·.ev ρ))then .v (.fn f (ji (λ_=>none) (bY.map (·.ev ρ))))else .nG f (bY.map (·.ev ρ)),none⟩
 |.mkMap cj agg=>⟨True,.iE name,some (name,.map cj agg 0 [])⟩
 |.lookup cj agg zero ok x k=>mw cj agg zero ok ab (x.ev ρ) (k.ev ρ)
 |.mapUpd cj agg x k y=>ja cj agg ab (x.ev ρ) (k.ev ρ) (y.ev ρ)
 |.mapDel cj agg x k=>je cj agg ab (x.ev ρ) (k.ev ρ)
 |.mapEnt cj agg z x k=>jd cj agg z ab (x.ev ρ) (k.ev ρ)
 |.entSt x s y=>ku ab (x.ev ρ) (s.ev ρ) (y.ev ρ)
 |.lenM x=>r9 ab (x.ev ρ)
 |.rangeM x=>kU name ab (x.ev ρ)
 |.copy sz x y=>jN sz ab (x.ev ρ) (y.ev ρ)
 |.isNil kind neg x=>gj kind neg ab (x.ev ρ)
 |.indexS x i=>oE (x.ev ρ) (i.ev ρ)
 |.fail=>cZ
def rP:rO->Bool
 |.callS _ _|.callv _ _|.entryM _=>true
 |_=>false
structure SEff where
 ok:Prop
 val:DV
 ab:bq
 todo:List (aK)
class dL where
 k:Option (Nat×(bB->bq->fI))
 aN:∀l k',k=some (l,k')->∀args ab,(k' args ab).ok->∀x,ab x=none->(k' args ab).ab x=none
instance(priority:=low)Qr:dL:=⟨none,λ_ _ h=>by cases h⟩
@[simp] def noYield_k: @dL.k Qr=none:=rfl
def yIs:DV->Prop
 |.v (.bool _)=>True
 |_=>False
def yGo:DV->Bool
 |.v (.bool b)=>b
 |_=>false
@[simp] def yIs_bool(b:Bool):yIs (.v (.bool b))=True:=rfl
@[simp] def XA(b:Bool):yGo (.v (.bool b))=b:=rfl
variable [dL]
def oi(Γ:pI)(d:rO)(ρ:dw)(ab:bq)(todo:List (aK)):SEff:=
 match d with
 |.callS f args=>match Γ f with
  |some s=>match s.st with
   |some k=>⟨(k (args.map (·.ev ρ)) ab).ok,(k (args.map (·.ev ρ)) ab).val,(k (args.map (·.ev ρ)) ab).ab,todo⟩
   |none=>⟨False,.undef,ab,todo⟩
  |none=>⟨False,.undef,ab,todo⟩
 |.callv x args=>match x.ev ρ with
  |.v (.fn (.func f) bY)=>match Γ f with
   |some s=>match s.st with
    |some k=>⟨(k (args.map (·.ev ρ)++bY.map .v) ab).ok,(k (args.map (·.ev ρ)++bY.map .v) ab).val,(k (args.map (·.ev ρ)++bY.map .v) ab).ab,todo⟩
    |none=>⟨(pV Γ f ab (args.map (·.ev ρ)++bY.map .v)).ok,(pV Γ f ab (args.map (·.ev ρ)++bY.map .v)).val,ab,todo⟩
   |none=>⟨False,.undef,ab,todo⟩
  |.nG (.func f) bY=>match Γ f with
   |some s=>match s.st with
    |some k=>⟨(k (args.map (·.ev ρ)++bY) ab).ok,(k (args.map (·.ev ρ)++bY) ab).val,(k (args.map (·.ev ρ)++bY) ab).ab,todo⟩
    |none=>⟨False,.undef,ab,todo⟩
   |none=>⟨False,.undef,ab,todo⟩
  |.NV=>match todo with
   |x::rest=>⟨dL.k=none/\tA false ab (args.map (·.ev ρ))/\ji ab (args.map (·.ev ρ))=x/\ab=(λ_=>none),.v (.bool true),ab,rest⟩
   |[]=>⟨False,.undef,ab,todo⟩
  |.v (.mg v)=>match dL.k with
   |some (l,k)=>⟨v=.func (.yield l) #[] #[]/\todo≠[]/\(k (args.map (·.ev ρ)) ab).ok/\yIs (k (args.map (·.ev ρ)) ab).val,(k (args.map (·.ev ρ)) ab).val,(k (args.map (·.ev ρ)) ab).ab,if yGo (k (args.map (·.ev ρ)) ab).val then todo else []⟩
   |none=>⟨False,.undef,ab,todo⟩
  |_=>⟨False,.undef,ab,todo⟩
 |.entryM x=>⟨(kV ab (x.ev ρ)).ok,(kV ab (x.ev ρ)).val,ab,todo⟩
 |_=>⟨False,.undef,ab,todo⟩
end
open Go.RowKit
section
variable{base r:Nat}{M:fo}{ds:bB}{vs:List Value}{w0:World}
structure Fr(base:Nat)(M:fo)(w0 w:World):Prop where
 os:w.os=w0.os
 tape:w.tape=w0.tape
 output:w.output=w0.output
 jq:base<=w0.heap.size
 size:w0.heap.size<=w.heap.size
 block:∀k,k<base->¬M k->w.heap[k]? =w0.heap[k]?
 drawn:w0.drawn<=w.drawn
def Fr.refl{w:World}(h:base<=w.heap.size):Fr base M w w:=⟨rfl,rfl,rfl,h,Zaf _,λ_ _ _=>rfl,Zaf _⟩
def Fr.trans{a b c:World}(h:Fr base M a b)(k:Fr base M b c):Fr base M a c:=
 ⟨k.os.trans h.os,k.tape.trans h.tape,k.output.trans h.output,h.jq,ZaP h.size k.size,λi hi hm=>(k.block i hi hm).trans (h.block i hi hm),ZaP h.drawn k.drawn⟩
structure Loc where
 I1:Nat->Nat
 sl:Nat->Value
 yl:Nat:=0
def aX:Value->Option Nat
 |.slice (some a) _ c=>if c=0 then none else some a.block
 |_=>none
def Loc.own(L:Loc)(r:Nat):Ob->Option Nat
 |.dT _ _ _ _=>aX (L.sl r)
 |_=>some (L.I1 r)
def WW(W:fo)(ab:bq)(L:Loc)(b:Nat):Prop:=W b\/∃r o,ab r=some o/\L.own r o=some b
section
variable(w:World)(W:fo)(ab:bq)(L:Loc)
mutual
def aA:DV->Value->Prop
 |.undef,_=>True
 |.skip,x=>x=Go.undef
 |.v t,x=>bj w (WW W ab L) t x
 |.aW,x=>∃a:Option Addr,x=.slice a 0 0
 |.ptr r off,x=>(∃cs,ab r=some (.box cs))/\x=.pointer (some ⟨L.I1 r,off,none⟩)
 |.bA r bD,x=>(∃(p:Option Addr) (n c:Nat),x=.slice p n c)/\∃cg e sz av,ab r=some (.dT cg e sz av)/\bD<=cg/\(bD=cg->x=L.sl r)
 |.l7 av i off,x=>∃b o sz,x=.pointer (some ⟨b,o+i.toNat*sz+off,none⟩)/\b<w.heap.size/\¬WW W ab L b/\bw w (WW W ab L) sz b o av/\0<=i/\i<av.length
 |.iD cs off,x=>∃b o,x=.pointer (some ⟨b,o+off,none⟩)/\b<w.heap.size/\¬WW W ab L b/\ed w (WW W ab L) b o cs
 |.ka r bD i off,x=>(∃b o,x=.pointer (some ⟨b,o,none⟩))/\∃cg e sz av,ab r=some (.dT cg e sz av)/\bD<=cg/\(bD=cg->∃g,aX (L.sl r)=some g/\x=.pointer (some ⟨g,i.toNat*sz+off,none⟩)/\0<=i/\i<av.length)
 |.agg cs,x=>∃vs,x=.agg vs/\aQ cs vs.toList
 |.NV,x=>x=.func (.yield L.yl) #[] #[]
 |.iE r,x=>(∃cj agg c es,ab r=some (.map cj agg c es))/\x=.map (some (L.I1 r))
 |.kc r,x=>(∃m s sn l,ab r=some (.kc m s sn l))/\x=.pointer (some ⟨L.I1 r,0,none⟩)
 |.eo ds,x=>∃vs,x=.tuple vs/\eE ds vs.toList
 |.u9 r bD lo n,x=>(∃(p:Option Addr) (c:Nat),x=.slice p n c)/\∃cg e sz av,ab r=some (.dT cg e sz av)/\bD<=cg/\(bD=cg->lo+n<=av.length/\∃p cap p2,L.sl r=.slice p av.length cap/\x=.slice p2 n (cap-lo)/\(lo<cap->p2=p.map (·.add (lo*sz))))
 |.nG f bY,x=>∃vs,x=.func f #[] vs/\aQ bY vs.toList
 |.F9 r n,x=>(∃cs,ab r=some (.box cs))/\x=.slice (some ⟨L.I1 r,0,none⟩) n n
def aQ:bB->List Value->Prop
 |[],vs=>vs=[]
 |d::ds,vs=>∃x EY,vs=x::EY/\x.oneCell'=true/\aA d x/\aQ ds EY
def eE:bB->List Value->Prop
 |[],vs=>vs=[]
 |d::ds,vs=>∃x EY,vs=x::EY/\aA d x/\eE ds EY
end
def bJ:List (Nat×T×DV)->List MapEntry->Prop
 |[],xs=>xs=[]
 |e::es,xs=>∃x lz,xs=x::lz/\x.born=e.1/\bj w (WW W ab L) e.2.1 x.key/\aA w W ab L e.2.2 x.val/\bJ es lz
def pL(base:Nat)(M:fo)(r:Nat):Ob->Prop
 |.box cs=>∃c e,w.heap[L.I1 r]? =some (.cells c e (0,0))/\aQ w W ab L cs c.toList/\(base<=L.I1 r\/M (L.I1 r))
 |.dT _ e sz av=>0<sz/\(∀x∈av,x.length=sz)/\(∀g,aX (L.sl r)=some g->base<=g\/M g)/\
   ((av=[]/\∃a:Option Addr,L.sl r=.slice a 0 0)\/
    ∃g cap pa,L.sl r=.slice (some ⟨g,0,none⟩) av.length cap/\0<cap/\w.heap[g]? =some (.cells pa e (0,0))/\av.length<=cap/\cap<=maxLen/\pa.size=cap*sz/\
     du w (WW W ab L) av.flatten (pa.toList.take (av.length*sz)))
 |.map cj agg c es=>∃dT,w.heap[L.I1 r]? =some (.map dT c)/\bJ w W ab L es dT.toList/\(∀e∈es,eM cj agg e.2.1)/\(∀e∈es,e.1<c)/\(es.map (·.1)).Nodup/\(base<=L.I1 r\/M (L.I1 r))
 |.kc m s sn l=>w.heap[L.I1 r]? =some (.mapIter (some (L.I1 m)) s sn.toArray l)/\(∃cj agg c es,ab m=some (.map cj agg c es))/\(base<=L.I1 r\/M (L.I1 r))
end
variable [bI]
structure ct(base:Nat)(W M:fo)(w0:World)(ab:bq)(w:World)(L:Loc):Prop where
 fr:Fr base M w0 w
 ob:∀r o,ab r=some o->pL w W ab L base M r o
 apart:∀r r' o o' b,r≠r'->ab r=some o->ab r'=some o'->L.own r o=some b->L.own r' o'≠some b
 qQ:∀r o b,ab r=some o->L.own r o=some b->¬W b
 under:∀b,W b->b<base
 gl:F2 w (WW W ab L)
structure B4(W W':fo)(ab:bq)(L:Loc)(w:World)(aI:bq)(L':Loc)(w':World):Prop where
 dx:dg (WW W ab L) w w'
 sub:∀b,b<w.heap.size->WW W' aI L' b->WW W ab L b
 fix:∀r o,ab r=some o->o.kind≠1->L'.I1 r=L.I1 r/\∃o',aI r=some o'/\o'.kind=o.kind
 dT:∀r bD e sz av,ab r=some (.dT bD e sz av)->∃cg e' iG eN,aI r=some (.dT cg e' iG eN)/\bD<=cg/\(cg=bD->L'.sl r=L.sl r/\iG=sz/\eN.length=av.length)
 yl:L'.yl=L.yl
def kind0{o:Ob}(h:o.kind=0):∃cs,o=.box cs:=by cases o<;>first|exact⟨_,rfl⟩|cases h
def kind2{o:Ob}(h:o.kind=2):∃cj agg c es,o=.map cj agg c es:=by cases o<;>first|exact⟨_,_,_,_,rfl⟩|cases h
def kind3{o:Ob}(h:o.kind=3):∃m s sn l,o=.kc m s sn l:=by cases o<;>first|exact⟨_,_,_,_,rfl⟩|cases h
section
variable{W W':fo}{ab:bq}{L:Loc}{w:World}{aI:bq}{L':Loc}{w':World}
def B4.box(h:B4 W W' ab L w aI L' w')(r:Nat)(cs:bB)(hr:ab r=some (.box cs)):L'.I1 r=L.I1 r/\∃iz,aI r=some (.box iz):=by
 obtain⟨h1,o',h2,h3⟩:=h.fix r _ hr (by simp[Ob.kind]);obtain⟨iz,rfl⟩:=kind0 h3;exact⟨h1,iz,h2⟩
def B4.mp(h:B4 W W' ab L w aI L' w')(r:Nat)(hr:∃cj agg c es,ab r=some (.map cj agg c es)):L'.I1 r=L.I1 r/\∃cj agg c es,aI r=some (.map cj agg c es):=by
 obtain⟨_,_,_,_,hr⟩:=hr;obtain⟨h1,o',h2,h3⟩:=h.fix r _ hr (by simp[Ob.kind]);obtain⟨a,b,c,d,rfl⟩:=kind2 h3;exact⟨h1,a,b,c,d,h2⟩
def B4.it(h:B4 W W' ab L w aI L' w')(r:Nat)(hr:∃m s sn l,ab r=some (.kc m s sn l)):L'.I1 r=L.I1 r/\∃m s sn l,aI r=some (.kc m s sn l):=by
 obtain⟨_,_,_,_,hr⟩:=hr;obtain⟨h1,o',h2,h3⟩:=h.fix r _ hr (by simp[Ob.kind]);obtain⟨a,b,c,d,rfl⟩:=kind3 h3;exact⟨h1,a,b,c,d,h2⟩
end
abbrev gP(W:fo)(ab:bq)(L:Loc)(w:World)(aI:bq)(L':Loc)(w':World):Prop:=B4 W W ab L w aI L' w'
def gP.cQ{W:fo}{ab:bq}{L:Loc}{w w':World}(h:dg (WW W ab L) w w'):gP W ab L w ab L w':=
 ⟨h,λ_ _ x=>x,λ_ o hr _=>⟨rfl,o,hr,rfl⟩,λ_ bD e sz av hr=>⟨bD,e,sz,av,hr,Zaf _,λ_=>⟨rfl,rfl,rfl⟩⟩,rfl⟩
mutual
def aA.eZ{W W':fo}{ab aI:bq}{L L':Loc}{w w':World}(h:B4 W W' ab L w aI L' w'):∀(d:DV) (x:Value),aA w W ab L d x->aA w' W' aI L' d x
 |.undef,x,r=>by simp[aA]
 |.skip,x,r=>by simpa [aA]using r
 |.v t,x,r=>by
  simp only[aA]at r⊢;exact bj.bi h.dx.toKeepsC h.sub t x r
 |.aW,x,r=>by simpa [aA]using r
 |.ptr n off,x,r=>by
  simp only[aA]at r⊢;obtain⟨⟨cs,hc⟩,hx⟩:=r;have hb:=h.box n cs hc;exact⟨hb.2,by rw[hb.1];exact hx⟩
 |.bA n bD,x,r=>by
  simp only[aA]at r⊢;obtain⟨Kl,cg,e,sz,av,ho,jy,hx⟩:=r;obtain⟨qw,e2,Gy,lI,nH,Km,hs⟩:=h.dT n cg e sz av ho;refine⟨Kl,qw,e2,Gy,lI,nH,ZaP jy Km,λhv=>?_⟩;have h1:qw=cg:=by omega
  rw[(hs h1).1];exact hx (by omega)
 |.l7 av i off,x,r=>by
  simp only[aA]at r⊢;obtain⟨b,o,sz,hx,hb,hn,hr,h0,h1⟩:=r;exact⟨b,o,sz,hx,Zbz hb h.dx.size,λc=>hn (h.sub b hb c),bw.bi h.dx.toKeepsC h.sub hb hn sz o av hr,h0,h1⟩
 |.iD cs off,x,r=>by
  simp only[aA]at r⊢;obtain⟨b,o,hx,hb,hn,hr⟩:=r;exact⟨b,o,hx,Zbz hb h.dx.size,λc=>hn (h.sub b hb c),ed.bi h.dx.toKeepsC h.sub hb hn o cs hr⟩
 |.ka n bD i off,x,r=>by
  simp only[aA]at r⊢;obtain⟨Kl,cg,e,sz,av,ho,jy,hx⟩:=r;obtain⟨qw,e2,Gy,lI,nH,Km,hs⟩:=h.dT n cg e sz av ho;refine⟨Kl,qw,e2,Gy,lI,nH,ZaP jy Km,λhv=>?_⟩;have h1:qw=cg:=by omega
  obtain⟨g,hg,hp,h0,hl⟩:=hx (by omega);obtain⟨s1,s2,s3⟩:=hs h1;exact⟨g,by rw[s1];exact hg,by rw[s2];exact hp,h0,by rw[s3];exact hl⟩
 |.agg cs,x,r=>by
  simp only[aA]at r⊢;obtain⟨vs,hv,hr⟩:=r;exact⟨vs,hv,aQ.eZ h cs _ hr⟩
 |.NV,x,r=>by simp only[aA]at r⊢;rw[h.yl];exact r
 |.iE n,x,r=>by
  simp only[aA]at r⊢;have:=h.mp n r.1;exact⟨this.2,by rw[this.1];exact r.2⟩
 |.kc n,x,r=>by
  simp only[aA]at r⊢;have:=h.it n r.1;exact⟨this.2,by rw[this.1];exact r.2⟩
 |.eo ds,x,r=>by
  simp only[aA]at r⊢;obtain⟨vs,hv,hr⟩:=r;exact⟨vs,hv,eE.eZ h ds _ hr⟩
 |.nG f ds,x,r=>by
  simp only[aA]at r⊢;obtain⟨vs,hv,hr⟩:=r;exact⟨vs,hv,aQ.eZ h ds _ hr⟩
 |.F9 n m,x,r=>by
  simp only[aA]at r⊢;obtain⟨⟨cs,hc⟩,hx⟩:=r;have hb:=h.box n cs hc;exact⟨hb.2,by rw[hb.1];exact hx⟩
 |.u9 n bD lo m,x,r=>by
  simp only[aA]at r⊢;obtain⟨Kl,cg,e,sz,av,ho,jy,hx⟩:=r;obtain⟨qw,e2,Gy,lI,nH,Km,hs⟩:=h.dT n cg e sz av ho;refine⟨Kl,qw,e2,Gy,lI,nH,ZaP jy Km,λhv=>?_⟩;have h1:qw=cg:=by omega
  obtain⟨k1,p,cap,p2,k2,k3,k4⟩:=hx (by omega);obtain⟨s1,s2,s3⟩:=hs h1;exact⟨by rw[s3];exact k1,p,cap,p2,by rw[s1,s3];exact k2,k3,by rw[s2];exact k4⟩
def aQ.eZ{W W':fo}{ab aI:bq}{L L':Loc}{w w':World}(h:B4 W W' ab L w aI L' w'):∀(ds:bB) (xs:List Value),aQ w W ab L ds xs->aQ w' W' aI L' ds xs
 |[],xs,r=>by simpa [aQ]using r
 |d::ds,xs,r=>by
  simp only[aQ]at r⊢;obtain⟨x,lz,hx,h1,hr,mt⟩:=r;exact⟨x,lz,hx,h1,aA.eZ h d x hr,aQ.eZ h ds lz mt⟩
def eE.eZ{W W':fo}{ab aI:bq}{L L':Loc}{w w':World}(h:B4 W W' ab L w aI L' w'):∀(ds:bB) (xs:List Value),eE w W ab L ds xs->eE w' W' aI L' ds xs
 |[],xs,r=>by simpa [eE]using r
 |d::ds,xs,r=>by
  simp only[eE]at r⊢;obtain⟨x,lz,hx,hr,mt⟩:=r;exact⟨x,lz,hx,aA.eZ h d x hr,eE.eZ h ds lz mt⟩
end
def bJ.eZ{W W':fo}{ab aI:bq}{L L':Loc}{w w':World}(h:B4 W W' ab L w aI L' w'):∀(es:List (Nat×T×DV)) (xs:List MapEntry),bJ w W ab L es xs->bJ w' W' aI L' es xs
 |[],xs,r=>by simpa [bJ]using r
 |e::es,xs,r=>by
  simp only[bJ]at r⊢;obtain⟨x,lz,hx,h0,h1,hr,mt⟩:=r;exact⟨x,lz,hx,h0,bj.bi h.dx.toKeepsC h.sub _ _ h1,aA.eZ h _ _ hr,bJ.eZ h es lz mt⟩
section
variable{w:World}{W:fo}{ab:bq}{L:Loc}
def aQ.length:∀{ds:bB} {vs:List Value},aQ w W ab L ds vs->vs.length=ds.length
 |[],_,h=>by simp only[aQ]at h;simp[h]
 |_::ds,_,h=>by
  simp only[aQ]at h;obtain⟨v,EY,rfl,_,_,hr⟩:=h;simp[aQ.length hr]
def aQ.get:∀{ds:bB} {vs:List Value} {i:Nat} {d:DV},aQ w W ab L ds vs->ds[i]? =some d->∃v,vs[i]? =some v/\v.oneCell'=true/\aA w W ab L d v
 |[],_,_,_,_,h=>by simp at h
 |x::xs,_,0,t,hr,h=>by
  simp only[aQ]at hr;obtain⟨v,EY,rfl,h1,h2,_⟩:=hr;simp only[ZaF,Zaa]at h;subst h;exact⟨v,rfl,h1,h2⟩
 |x::xs,_,i+1,t,hr,h=>by
  simp only[aQ]at hr;obtain⟨v,EY,rfl,_,_,hr⟩:=hr;simpa using aQ.get hr (by simpa using h)
def aQ.append:∀{ds ag:bB} {vs EY:List Value},aQ w W ab L ds vs->aQ w W ab L ag EY->aQ w W ab L (ds++ag) (vs++EY)
 |[],_,_,_,h,h'=>by simp only[aQ]at h;subst h;simpa using h'
 |d::ds,_,_,_,h,h'=>by
  simp only[aQ]at h;obtain⟨v,EY,rfl,h1,h2,hr⟩:=h;simp only[ZaM,aQ];exact⟨v,_,rfl,h1,h2,aQ.append hr h'⟩
def aQ.take(n:Nat)(h:aQ w W ab L ds vs):aQ w W ab L (ds.take n) (vs.take n):=by
 induction n generalizing ds vs with
 |zero=>simp[aQ]
 |succ n ih=>
  cases ds with
  |nil=>simp only[aQ]at h;subst h;simp[aQ]
  |cons d ds=>
   simp only[aQ]at h;obtain⟨v,EY,rfl,h1,h2,hr⟩:=h;simp only[Zcf,aQ];exact⟨v,_,rfl,h1,h2,ih hr⟩
def aQ.drop(n:Nat)(h:aQ w W ab L ds vs):aQ w W ab L (ds.drop n) (vs.drop n):=by
 induction n generalizing ds vs with
 |zero=>simpa using h
 |succ n ih=>
  cases ds with
  |nil=>simp only[aQ]at h;subst h;simp[aQ]
  |cons d ds=>
   simp only[aQ]at h;obtain⟨v,EY,rfl,h1,h2,hr⟩:=h;simpa using ih hr
def du.append{ts ts':aK}:∀{vs EY:List Value},du w W ts vs->du w W ts' EY->du w W (ts++ts') (vs++EY):=by
 induction ts with
 |nil=>intro vs EY h h';simp only[du]at h;subst h;simpa using h'
 |cons d ds ih=>
  intro vs EY h h';simp only[du]at h;obtain⟨v,EY,rfl,h1,h2,hr⟩:=h;simp only[ZaM,du];exact⟨v,_,rfl,h1,h2,ih hr h'⟩
def aQ.sa:∀{ts:aK} {vs:List Value},du w (WW W ab L) ts vs->aQ w W ab L (ts.map .v) vs
 |[],_,h=>by simpa [du,aQ]using h
 |t::ts,_,h=>by
  simp only[du]at h;obtain⟨v,EY,rfl,h1,h2,hr⟩:=h;simp only[ZaA,aQ];exact⟨v,EY,rfl,h1,by simpa [aA]using h2,aQ.sa hr⟩
def aA.cells{d:DV}{x:Value}(h:aA w W ab L d x)(hb:mO d):aQ w W ab L (cellsOf d) x.cells.toList:=by
 have one:∀{d:DV} {x:Value},cellsOf d=[d]->x.oneCell'=true->aA w W ab L d x->aQ w W ab L (cellsOf d) x.cells.toList:=by
  intro d x hc h1 h;rw[hc];simp only[aQ];refine⟨x,[], ?_,h1,h,rfl⟩;cases x<;>first|rfl|(simp[Value.oneCell']at h1)
 cases d with
 |undef=>exact hb.elim
 |skip=>exact hb.elim
 |aW=>obtain⟨a,rfl⟩:=(by simpa only[aA]using h);exact one rfl rfl (by simp only[aA];exact⟨a,rfl⟩)
 |ptr r off=>have h':=h;simp only[aA]at h';obtain⟨_,rfl⟩:=h';exact one rfl rfl h
 |bA r bD=>have h':=h;simp only[aA]at h';obtain⟨⟨p,n,c,rfl⟩,_⟩:=h';exact one rfl rfl h
 |l7 av i off=>have h':=h;simp only[aA]at h';obtain⟨b,o,sz,rfl,_⟩:=h';exact one rfl rfl h
 |iD cs off=>have h':=h;simp only[aA]at h';obtain⟨b,o,rfl,_⟩:=h';exact one rfl rfl h
 |ka r bD i off=>have h':=h;simp only[aA]at h';obtain⟨⟨b,o,rfl⟩,_⟩:=h';exact one rfl rfl h
 |agg cs=>simp only[aA]at h;obtain⟨vs,rfl,h⟩:=h;simpa [cellsOf,Value.cells]using h
 |NV=>have h':=h;simp only[aA]at h';subst h';exact one rfl rfl h
 |iE r=>have h':=h;simp only[aA]at h';obtain⟨_,rfl⟩:=h';exact one rfl rfl h
 |kc r=>have h':=h;simp only[aA]at h';obtain⟨_,rfl⟩:=h';exact one rfl rfl h
 |eo ds=>exact hb.elim
 |nG f ds=>have h':=h;simp only[aA]at h';obtain⟨vs,rfl,_⟩:=h';exact one rfl rfl h
 |u9 r bD lo n=>have h':=h;simp only[aA]at h';obtain⟨⟨p,c,rfl⟩,_⟩:=h';exact one rfl rfl h
 |F9 r n=>have h':=h;simp only[aA]at h';obtain⟨_,rfl⟩:=h';exact one rfl rfl h
 |v t=>
  cases t with
  |agg cs=>simp only[aA,bj]at h;obtain⟨vs,rfl,h⟩:=h;simpa [cellsOf,Value.cells]using aQ.sa h
  |eo ts=>exact hb.elim
  |bool b=>have h':=h;simp only[aA,bj]at h';subst h';exact one rfl rfl h
  |int k n=>have h':=h;simp only[aA,bj]at h';subst h';exact one rfl rfl h
  |str s=>have h':=h;simp only[aA,bj]at h';subst h';exact one rfl rfl h
  |sl av=>
   have h':=h;simp only[aA,bj]at h';rcases h' with⟨_,a,c,rfl⟩|⟨b,o,cap,sz,rfl,_⟩<;>exact one rfl rfl h
  |fn f bY=>have h':=h;simp only[aA,bj]at h';obtain⟨vs,rfl,_⟩:=h';exact one rfl rfl h
  |box cs=>have h':=h;simp only[aA,bj]at h';obtain⟨b,o,rfl,_⟩:=h';exact one rfl rfl h
  |mg y=>have h':=h;simp only[aA,bj]at h';subst h';exact one rfl hb h
end
def pL.lt{w:World}{W:fo}{ab:bq}{L:Loc}{o:Ob}(h:pL w W ab L base M r o){b:Nat}(hb:L.own r o=some b):b<w.heap.size:=by
 cases o with
 |box cs=>
  obtain⟨c,e,hc,_⟩:=h;simp only[Loc.own,Zaa]at hb;subst hb;exact(Zap.1 hc).1
 |dT bD e sz av=>
  obtain⟨_,_,_,h⟩:=h;simp only[Loc.own]at hb;rcases h with⟨_,a,ha⟩|⟨g,cap,pa,hv,hp,hg,_⟩
  ·rw[ha]at hb;cases a<;>simp[aX]at hb
  ·rw[hv]at hb;simp only[aX,Zab (ZaJ.1 hp),Zaa]at hb;subst hb;exact(Zap.1 hg).1
 |map cj agg c es=>
  obtain⟨dT,hc,_⟩:=h;simp only[Loc.own,Zaa]at hb;subst hb;exact(Zap.1 hc).1
 |kc m s sn l=>
  obtain⟨hc,_⟩:=h;simp only[Loc.own,Zaa]at hb;subst hb;exact(Zap.1 hc).1
def pL.reach{w:World}{W:fo}{ab:bq}{L:Loc}{o:Ob}(h:pL w W ab L base M r o){b:Nat}(hb:L.own r o=some b):base<=b\/M b:=by
 cases o with
 |box cs=>
  obtain⟨c,e,hc,_,hm⟩:=h;simp only[Loc.own,Zaa]at hb;subst hb;exact hm
 |dT bD e sz av=>
  obtain⟨_,_,hm,_⟩:=h;exact hm b hb
 |map cj agg c es=>
  obtain⟨dT,hc,_,_,_,_,hm⟩:=h;simp only[Loc.own,Zaa]at hb;subst hb;exact hm
 |kc m s sn l=>
  obtain⟨hc,_,hm⟩:=h;simp only[Loc.own,Zaa]at hb;subst hb;exact hm
def pL.bi{w w':World}{W:fo}{ab aI:bq}{L L':Loc}{o:Ob}(ha:gP W ab L w aI L' w')
  (h:pL w W ab L base M r o) (iu:L'.I1 r=L.I1 r/\L'.sl r=L.sl r) (hblk:∀b,L.own r o=some b->w'.heap[b]? =w.heap[b]?):pL w' W aI L' base M r o:=by
 cases o with
 |box cs=>
  obtain⟨c,e,hc,hr,hm⟩:=h;refine⟨c,e, ?_,aQ.eZ ha cs _ hr, ?_⟩
  ·rw[iu.1,hblk _ rfl];exact hc
  ·rw[iu.1];exact hm
 |dT bD e sz av=>
  obtain⟨yi,eF,hm,h⟩:=h;refine⟨yi,eF,by rw[iu.2];exact hm, ?_⟩;rw[iu.2];rcases h with h|⟨g,cap,pa,hv,hp,hg,h1,h2,h3,h4⟩
  ·exact .inl h
  ·refine .inr ⟨g,cap,pa,hv,hp, ?_,h1,h2,h3,du.bi ha.dx.toKeepsC ha.sub _ _ h4⟩;rw[hblk g (by simp[Loc.own,hv,aX,ZaJ.1 hp])];exact hg
 |map cj agg c es=>
  obtain⟨dT,hc,hr,k1,k2,k3,hm⟩:=h;refine⟨dT, ?_,bJ.eZ ha es _ hr,k1,k2,k3, ?_⟩
  ·rw[iu.1,hblk _ rfl];exact hc
  ·rw[iu.1];exact hm
 |kc m s sn l=>
  obtain⟨hc,Ny,hm⟩:=h;have:=ha.mp m Ny;refine⟨?_,this.2, ?_⟩
  ·rw[iu.1,this.1,hblk _ rfl];exact hc
  ·rw[iu.1];exact hm
def Obj.plain:Obj->Prop
 |.cells _ _ _|.map _ _|.mapIter _ _ _ _=>True
 |_=>False
def pL.cells{w:World}{W:fo}{ab:bq}{L:Loc}{o:Ob}(h:pL w W ab L base M r o){b:Nat}(hb:L.own r o=some b):∃x,w.heap[b]? =some x/\Obj.plain x:=by
 cases o with
 |box cs=>
  obtain⟨c,e,hc,_⟩:=h;simp only[Loc.own,Zaa]at hb;subst hb;exact⟨_,hc,trivial⟩
 |map cj agg c es=>
  obtain⟨dT,hc,_⟩:=h;simp only[Loc.own,Zaa]at hb;subst hb;exact⟨_,hc,trivial⟩
 |kc m s sn l=>
  obtain⟨hc,_⟩:=h;simp only[Loc.own,Zaa]at hb;subst hb;exact⟨_,hc,trivial⟩
 |dT bD e sz av=>
  obtain⟨_,_,_,h⟩:=h;simp only[Loc.own]at hb;rcases h with⟨_,a,ha⟩|⟨g,cap,pa,hv,hp,hg,_⟩
  ·rw[ha]at hb;cases a<;>simp[aX]at hb
  ·rw[hv]at hb;simp only[aX,Zab (ZaJ.1 hp),Zaa]at hb;subst hb;exact⟨_,hg,trivial⟩
def cG(ab:bq):Option (Nat×Ob)->bq
 |none=>ab
 |some (r,o)=>λx=>if x=r then some o else ab x
def ct.put{W:fo}{w w':World}{ab:bq}{L L':Loc}{o':Ob}(h:ct base W M w0 ab w L)
  (xK:Fr base M w0 w') (yi:w.heap.size<=w'.heap.size)
  (hL:∀x,x≠r->L'.I1 x=L.I1 x/\L'.sl x=L.sl x) (zW:L'.yl=L.yl)
  (Ko:∀b,b<w.heap.size->(∀o,ab r=some o->L.own r o≠some b)->w'.heap[b]? =w.heap[b]?)
  (ub:∀b,L'.own r o'=some b->(∃o,ab r=some o/\L.own r o=some b)\/w.heap.size<=b)
  (B5:∀o,ab r=some o->o.kind≠1->L'.I1 r=L.I1 r/\o'.kind=o.kind)
  (B6:∀bD e sz av,ab r=some (.dT bD e sz av)->∃cg e' iG eN,o'=.dT cg e' iG eN/\bD<=cg/\(cg=bD->L'.sl r=L.sl r/\iG=sz/\eN.length=av.length))
  (gH:gP W ab L w (cG ab (some (r,o'))) L' w'->pL w' W (cG ab (some (r,o'))) L' base M r o'):
  ct base W M w0 (cG ab (some (r,o'))) w' L'/\gP W ab L w (cG ab (some (r,o'))) L' w':=by
 have iu:∀x (o:Ob),x≠r->L'.own x o=L.own x o:=λx o hx=>by
  have:=hL x hx;cases o<;>simp[Loc.own,this.1,this.2]
 have hother:∀x o b,x≠r->ab x=some o->L.own x o=some b->w'.heap[b]? =w.heap[b]? :=λx o b hx ho hb=>
  Ko b ((h.ob x o ho).lt hb) λo2 nH fH=>h.apart x r o o2 b hx ho nH hb fH
 have hnon:∀(b:Nat) x,w.heap[b]? =some x->¬Obj.plain x->w'.heap[b]? =some x:=λb x hb hx=>by
  refine(Ko b (Zap.1 hb).1 λo ho fH=>?_).trans hb;obtain⟨y,hc,hy⟩:=(h.ob r o ho).cells fH;rw[hc]at hb;cases hb;exact hx hy
 have eZ:gP W ab L w (cG ab (some (r,o'))) L' w':=by
  refine⟨⟨⟨yi,λb c e fr hb hn=>?_⟩,λb hb=>hnon b _ hb (λe=>e),λb r hb=>hnon b _ hb (λe=>e)⟩,λb hb hw=>?_,λx o hx hk=>?_,λx bD e sz av hx=>?_,zW⟩
  ·exact(Ko b (Zap.1 hb).1 λo2 nH fH=>hn (.inr ⟨r,o2,nH,fH⟩)).trans hb
  ·rcases hw with hw|⟨x,o,ho,fH⟩
   ·exact .inl hw
   ·by_cases hx:x=r
    ·subst hx;simp only[cG,if_true]at ho;obtain rfl:o'=o:=by simpa using ho
     rcases ub b fH with⟨o2,nH,HL⟩|xL
     ·exact .inr ⟨x,o2,nH,HL⟩
     ·omega
    ·simp only[cG,Zab hx]at ho;exact .inr ⟨x,o,ho,by rw[<-iu x o hx];exact fH⟩
  ·by_cases Ga:x=r
   ·subst Ga;obtain⟨h1,h2⟩:=B5 o hx hk;exact⟨h1,o',by simp[cG],h2⟩
   ·exact⟨(hL x Ga).1,o,by simp[cG,Ga,hx],rfl⟩
  ·by_cases Ga:x=r
   ·subst Ga;obtain⟨cg,e',iG,eN,rfl,h2,h3⟩:=B6 bD e sz av hx;exact⟨cg,e',iG,eN,by simp[cG],h2,h3⟩
   ·exact⟨bD,e,sz,av,by simp[cG,Ga,hx],Zaf _,λ_=>⟨(hL x Ga).2,rfl,rfl⟩⟩
 refine⟨⟨xK,λx o ho=>?_,λx x' o o2 b bT ho nH hb fH=>?_,λx o b ho hb hw=>?_,h.under,h.gl.bi eZ.dx.toKeepsC eZ.sub⟩,eZ⟩
 ·by_cases hx:x=r
  ·subst hx;simp only[cG,if_true]at ho;obtain rfl:o'=o:=by simpa using ho
   exact gH eZ
  ·simp only[cG,Zab hx]at ho;exact pL.bi eZ (h.ob x o ho) (hL x hx) λb hb=>hother x o b hx ho hb
 ·by_cases hx:x=r
  ·subst hx;simp only[cG,if_true]at ho;obtain rfl:o'=o:=by simpa using ho
   have mh:x'≠x:=λe=>bT e.symm;simp only[cG,Zab mh]at nH;rw[iu x' o2 mh]at fH;rcases ub b hb with⟨o3,ho3,HL⟩|xL
   ·exact h.apart x' x o2 o3 b mh nH ho3 fH HL
   ·have:=(h.ob x' o2 nH).lt fH;omega
  ·simp only[cG,Zab hx]at ho;rw[iu x o hx]at hb;by_cases mh:x'=r
   ·subst mh;simp only[cG,if_true]at nH;obtain rfl:o'=o2:=by simpa using nH
    rcases ub b fH with⟨o3,ho3,HL⟩|xL
    ·exact h.apart x x' o o3 b bT ho ho3 hb HL
    ·have:=(h.ob x o ho).lt hb;omega
   ·simp only[cG,Zab mh]at nH;rw[iu x' o2 mh]at fH;exact h.apart x x' o o2 b bT ho nH hb fH
 ·by_cases hx:x=r
  ·subst hx;simp only[cG,if_true]at ho;obtain rfl:o'=o:=by simpa using ho
   rcases ub b hb with⟨o3,ho3,HL⟩|xL
   ·exact h.qQ x o3 b ho3 HL hw
   ·have h1:=h.under b hw;have h2:=h.fr.jq;have h3:=h.fr.size;omega
  ·simp only[cG,Zab hx]at ho;rw[iu x o hx]at hb;exact h.qQ x o b ho hb hw
def F2.start{w:World}{W:fo}{L:Loc}(h:F2 w W):F2 w (WW W (λ_=>none) L):=
 h.bi (dg.refl W w).toKeepsC λb _ hw=>by
  rcases hw with hw|⟨r,o,hr,_⟩
  ·exact hw
  ·cases hr
def ct.grow{W:fo}{w w':World}{ab:bq}{L:Loc}(h:ct base W M w0 ab w L)(hb:vO w.heap.size w w'):
  ct base W M w0 ab w' L/\gP W ab L w ab L w':=by
 have eZ:gP W ab L w ab L w':=gP.cQ (dg.Xz hb.toBelow);have jy:base<=w.heap.size:=ZaP h.fr.jq h.fr.size;refine⟨⟨h.fr.trans ⟨hb.os,hb.tape,hb.output,jy,hb.size,λk hk _=>hb.block k (by omega),hb.drawn⟩,λr o ho=>?_,h.apart,h.qQ,h.under,h.gl.bi eZ.dx.toKeepsC eZ.sub⟩,eZ⟩;exact pL.bi eZ (h.ob r o ho) ⟨rfl,rfl⟩ λb fH=>hb.block b ((h.ob r o ho).lt fH)
end
section
variable{P:Program}{vs:List Value}{d:TypeDesc}{ts ds:aK}{base:Nat}{M:fo}
def my:Value->Option DV
 |.int k n=>some (.v (.int k n))
 |.bool b=>some (.v (.bool b))
 |.string s=>some (.v (.str s))
 |.slice none 0 0=>some .aW
 |.pointer none=>some (.v (.mg (.pointer none)))
 |.nilFunc=>some (.v (.mg .nilFunc))
 |.nilIface=>some (.v (.mg .nilIface))
 |.map none=>some (.v (.mg (.map none)))
 |_=>none
def sb:Value->Option T
 |.int k n=>some (.int k n)
 |.bool b=>some (.bool b)
 |.string s=>some (.str s)
 |.slice none 0 0=>some (.sl [])
 |.pointer none=>some (.mg (.pointer none))
 |.nilFunc=>some (.mg .nilFunc)
 |.nilIface=>some (.mg .nilIface)
 |.map none=>some (.mg (.map none))
 |_=>none
variable [bI]
def bQ.of:Operand->Option bQ
 |.tmp t=>some (.tmp t)
 |.const v=>(my v).map .gN
 |.func f=>some (.gN (.v (.fn (.func f) [])))
 |.global g=>(bI.cells.find? λp=>p.1==g).map λp=>.gN (.iD p.2 0)
section
variable{w:World}{W:fo}{ab:bq}{L:Loc}
def wE:∀{x:Value} {d:DV},my x=some d->aA w W ab L d x/\x.oneCell'=true:=by
 intro x d h;unfold my at h;split at h<;>simp only[Zaa,reduceCtorEq]at h<;>subst h<;>simp[aA,bj,Value.oneCell']
def Dg:∀{x:Value} {t:T},sb x=some t->bj w W t x/\x.oneCell'=true/\Db t=true:=by
 intro x d h;unfold sb at h;split at h<;>simp only[Zaa,reduceCtorEq]at h<;>subst h<;>simp[bj,Value.oneCell',Db]
def iR:∀{xs:List Value} {ds:bB},xs.mapM my=some ds->aQ w W ab L ds xs
 |[],ds,h=>by simp at h;subst h;simp[aQ]
 |x::xs,ds,h=>by
  simp only[Za7,Zao,Zaj,Zad,Zaa]at h;obtain⟨d,hd,ag,hds,rfl⟩:=h;simp only[aQ];have:=wE (w:=w) (W:=W) (ab:=ab) (L:=L) hd;exact⟨x,xs,rfl,this.2,this.1,iR hds⟩
def tn:∀{xs:List Value} {ds:aK},xs.mapM sb=some ds->du w W ds xs
 |[],ds,h=>by simp at h;subst h;simp[du]
 |x::xs,ds,h=>by
  simp only[Za7,Zao,Zaj,Zad,Zaa]at h;obtain⟨d,hd,ag,hds,rfl⟩:=h;simp only[du];have:=Dg (w:=w) (W:=W) hd;exact⟨x,xs,rfl,this.2.1,this.1,tn hds⟩
def bQ.bP{a:Act}{ρ:dw}(hg:F2 w (WW W ab L))(jw:∀t,aA w W ab L (ρ t) (a.tmps.getD t Go.undef)){x:Operand}{y:bQ}(h:bQ.of x=some y):aA w W ab L (y.ev ρ) (a.eval x):=by
 cases x with
 |tmp t=>simp only[bQ.of,Zaa]at h;subst h;simpa [bQ.ev,Act.eval]using jw t
 |const v=>
  simp only[bQ.of,Zac]at h;obtain⟨d,hd,rfl⟩:=h;exact(wE hd).1
 |func f=>simp only[bQ.of,Zaa]at h;subst h;simp[bQ.ev,Act.eval,aA,bj,du]
 |global g=>
  simp only[bQ.of,Zac]at h;obtain⟨p,hp,rfl⟩:=h;have h1:=Zc7 hp;obtain rfl:p.1=g:=by simpa using h1
  obtain⟨h2,h3,h4⟩:=hg p (Zb8 hp);simp only[bQ.ev,Act.eval,aA];exact⟨p.1,0,rfl,h2,h3,h4⟩
def mP(b o n:Nat):(⟨b,o,none⟩:Addr).add n=⟨b,o+n,none⟩:=by unfold Addr.add;split<;>simp_all
def Bj{w:World}{b o:Nat}(h:∀j v,vs[j]? =some v->w.cell? ⟨b,o+j,none⟩=some v):
  (loadCells ⟨b,o,none⟩ vs.length).run P w=.ok vs.toArray w:=
 run_loadCells_list w _ vs λj v hv=>by rw[mP];exact h j v hv
def Gz{w:World}{t:TypeId}(h:P.underlying t=some d):(isAgg t).run P w=.ok (match d with|.struct _|.array _ _=>true|_=>false) w:=by
 simp only[isAgg,Sem.run_bind,run_underlying h,Result.andThen_ok];cases d<;>rfl
def run_sizeOf{w:World}{t:TypeId}{i:TypeInfo}(h:P.info? t=some i):(sizeOf t).run P w=.ok i.size w:=by
 simp[sizeOf,typeInfo,h]
def b8:TypeDesc->Bool
 |.struct _|.array _ _=>true
 |_=>false
def qR{w:World}{t:TypeId}{i:TypeInfo}(hd:P.underlying t=some d)(hi:P.info? t=some i){b o:Nat}
  (hl:vs.length=i.size) (h:∀j v,vs[j]? =some v->w.cell? ⟨b,o+j,none⟩=some v) (hs:b8 d=true\/i.size=1):
  (Instr.loadAt t (.pointer (some ⟨b,o,none⟩))).run P w=.ok (if b8 d then .agg vs.toArray else vs.getD 0 Go.undef) w:=by
 have h1:(isAgg t).run P w=.ok (b8 d) w:=by rw[Gz hd];cases d<;>rfl
 simp only[Instr.loadAt,Instr.sureAddr,loadVar,Sem.run_bind,Sem.run_pure,Result.andThen_ok,h1];by_cases ha:b8 d=true
 ·simp only[ha,if_true,Sem.run_bind,run_sizeOf hi,Result.andThen_ok];rw[<-hl,Bj h];rfl
 ·have h1:vs.length=1:=by rw[hl];exact hs.resolve_left ha
  match vs,h1 with
  |[v],_=>
   have:=h 0 v rfl;simp only[ZbV]at this;simp[ha,this]
def ed.cA{b:Nat}:∀{ts:aK} {o:Nat},ed w W b o ts->∃vs,du w W ts vs/\∀j v,vs[j]? =some v->w.cell? ⟨b,o+j,none⟩=some v
 |[],o,_=>⟨[],by simp[du],by simp⟩
 |t::ts,o,h=>by
  simp only[ed]at h;obtain⟨⟨v,hc,h1,hr⟩,mt⟩:=h;obtain⟨vs,hv,oj⟩:=ed.cA mt;refine⟨v::vs,by simp only[du];exact⟨v,vs,rfl,h1,hr,hv⟩,λj u hu=>?_⟩;cases j with
  |zero=>simp only[ZaF,Zaa]at hu;subst hu;simpa using hc
  |succ j=>
   have:=oj j u (by simpa using hu)
   rwa [show o+(j+1)=o+1+j by omega]
def du.split{ts':aK}:∀{vs:List Value},du w W (ts++ts') vs->∃v1 v2,vs=v1++v2/\du w W ts v1/\du w W ts' v2:=by
 induction ts with
 |nil=>intro vs h;exact⟨[],vs,rfl,by simp[du],h⟩
 |cons t ts ih=>
  intro vs h;simp only[ZaM,du]at h;obtain⟨v,EY,rfl,h1,h2,hr⟩:=h;obtain⟨v1,v2,rfl,ha,hb⟩:=ih hr;exact⟨v::v1,v2,rfl,by simp only[du];exact⟨v,v1,rfl,h1,h2,ha⟩,hb⟩
def ed.sa{b o:Nat}(h:du w W ts vs)(hc:∀j v,vs[j]? =some v->w.cell? ⟨b,o+j,none⟩=some v):ed w W b o ts:=
 ed.Da ts o λj t ht=>by
  obtain⟨v,hv,h1,hr⟩:=du.get h ht;exact⟨v,hc j v hv,h1,hr⟩
def bw.jB{sz b:Nat}:∀{av:List (aK)} {o:Nat} {vs:List Value},du w W av.flatten vs->(∀r∈av,r.length=sz)->(∀j v,vs[j]? =some v->w.cell? ⟨b,o+j,none⟩=some v)->bw w W sz b o av
 |[],_,_,_,_,_=>by simp[bw]
 |r::rs,o,vs,h,hl,hc=>by
  simp only[Zbu]at h;obtain⟨v1,v2,rfl,ha,hb⟩:=du.split h;have hr:r.length=sz:=hl r (by simp);have Bk:v1.length=sz:=by rw[du.length ha,hr]
  simp only[bw];refine⟨hr,ed.sa ha λj v hv=>hc j v ?_,bw.jB hb (λx hx=>hl x (by simp[hx])) λj v hv=>?_⟩
  ·rw[Zbc (Zaw.1 hv).1];exact hv
  ·have:=hc (sz+j) v (by rw[Za9 (by omega),Bk];simpa using hv)
   rwa [show o+sz+j=o+(sz+j)by omega]
def bw.flatten{sz b:Nat}:∀{av:List (aK)} {o:Nat},bw w W sz b o av->∃vs,vs.length=av.length*sz/\du w W av.flatten vs/\∀j v,vs[j]? =some v->w.cell? ⟨b,o+j,none⟩=some v
 |[],o,_=>⟨[],by simp,by simp[du],by simp⟩
 |r::rs,o,h=>by
  simp only[bw]at h;obtain⟨v1,h1,bU⟩:=ed.cA h.2.1;obtain⟨v2,Bl,h2,gI⟩:=bw.flatten h.2.2;have Bk:v1.length=sz:=by rw[du.length h1,h.1]
  refine⟨v1++v2,by simp[Bk,Bl,Nat.add_mul];omega,by simpa using du.append h1 h2,λj v hv=>?_⟩;by_cases hj:j<v1.length
  ·rw[Zbc hj]at hv;exact bU j v hv
  ·rw[Za9 (by omega)]at hv;have:=gI (j-v1.length) v hv
   rwa [show o+sz+(j-v1.length)=o+j by omega]at this
def pL.av{r bD e sz:Nat}{av:List (aK)}(h:pL w W ab L base M r (.dT bD e sz av)){g:Nat}(hg:aX (L.sl r)=some g):
  bw w (WW W ab L) sz g 0 av:=by
 obtain⟨_,hl,_,h⟩:=h;rcases h with⟨rfl,_⟩|⟨g',cap,pa,hv,hp,hh,h1,h2,h3,h4⟩
 ·simp[bw]
 ·rw[hv]at hg;simp only[aX,Zab (ZaJ.1 hp),Zaa]at hg;subst hg;refine bw.jB h4 hl λj v hv=>?_;rw[Zbi,cell_of_row w g' j pa e (0,0) hh];rw[ZaQ]at hv;split at hv
  ·simpa using hv
  ·cases hv
def zX{av:List (aK)}{i:Int}(h0:0<=i)(h1:i<av.length):av[i.toNat]? =some (rowAt av i):=by
 have:i.toNat<av.length:=by omega
 simp[rowAt,List.getD,this]
def du.take(n:Nat):∀{vs:List Value},du w W ds vs->du w W (ds.take n) (vs.take n):=by
 induction n generalizing ds with
 |zero=>intro vs h;simp[du]
 |succ n ih=>
  intro vs h;cases ds with
  |nil=>simp only[du]at h;subst h;simp[du]
  |cons d ds=>
   simp only[du]at h;obtain⟨v,EY,rfl,h1,h2,hr⟩:=h;simp only[Zcf,du];exact⟨v,_,rfl,h1,h2,ih hr⟩
def du.drop(n:Nat):∀{vs:List Value},du w W ds vs->du w W (ds.drop n) (vs.drop n):=by
 induction n generalizing ds with
 |zero=>intro vs h;simpa using h
 |succ n ih=>
  intro vs h;cases ds with
  |nil=>simp only[du]at h;subst h;simp[du]
  |cons d ds=>
   simp only[du]at h;obtain⟨v,EY,rfl,h1,h2,hr⟩:=h;simpa using ih hr
def ve{t:TypeId}{i:TypeInfo}(hd:P.underlying t=some d)(hi:P.info? t=some i){b o off:Nat}{cs:aK}
  (hr:ed w (WW W ab L) b o cs) (dq:off+i.size<=cs.length/\(b8 d=true\/i.size=1)):
  ∃v,(Instr.loadAt t (.pointer (some ⟨b,o+off,none⟩))).run P w=.ok v w/\
   aA w W ab L (if b8 d then .v (.agg ((cs.drop off).take i.size))else .v (cs.getD off default)) v:=by
 obtain⟨vs,hv,hc⟩:=ed.cA hr;have hl:=du.length hv;have mQ:=du.take i.size (du.drop off hv);refine⟨_,qR hd hi (vs:=(vs.drop off).take i.size) (by simp;omega) (λj v hj=>?_) dq.2, ?_⟩
 ·rw[ZaQ]at hj;split at hj
  ·rw[ZbH]at hj;have:=hc _ _ hj
   rwa [show o+off+j=o+(off+j)by omega]
  ·cases hj
 ·by_cases ha:b8 d=true
  ·simp only[ha,if_true,aA,bj];exact⟨_,rfl,by simpa using mQ⟩
  ·have h1:i.size=1:=dq.2.resolve_left ha;have ln:off<cs.length:=by omega
   obtain⟨v,tp,_,gD⟩:=du.get hv (i:=off) (t:=cs[off]) (by simp[ln]);have e1:(List.take i.size (List.drop off vs)).getD 0 Go.undef=v:=by
    rw[h1];simp only[List.getD,ZaQ,ZbH,ZbV,tp];simp
   have e2:cs.getD off default=cs[off]:=by simp[List.getD,ln]
   simp only[ha,e1,e2];exact gD
def wF{w0:World}(hO:ct base W M w0 ab w L){t:TypeId}{i:TypeInfo}(hd:P.underlying t=some d)(hi:P.info? t=some i)
  {x:DV} {xv:Value} (hx:aA w W ab L x xv) (dq:(iF i.size (b8 d) ab x).ok):
  (iF i.size (b8 d) ab x).put=none/\∃v,(Instr.loadAt t xv).run P w=.ok v w/\aA w W ab L (iF i.size (b8 d) ab x).val v:=by
 cases x with
 |ptr r off=>
  simp only[aA]at hx;obtain⟨⟨cs,hc⟩,rfl⟩:=hx;simp only[iF,hc]at dq⊢;refine⟨trivial, ?_⟩;obtain⟨c,e,hh,hr,_⟩:=hO.ob r _ hc;have hl:=aQ.length hr;have xV:=aQ.take i.size (aQ.drop off hr);refine⟨_,qR hd hi (vs:=(c.toList.drop off).take i.size) (by simp at hl⊢;omega) (λj v hj=>?_) dq.2, ?_⟩
  ·rw[ZaQ]at hj;split at hj
   ·rw[ZbH]at hj;rw[cell_of_row w _ _ c e (0,0) hh];simpa using hj
   ·cases hj
  ·by_cases ha:b8 d=true
   ·simp only[ha,if_true,aA];exact⟨_,rfl,by simpa using xV⟩
   ·have h1:i.size=1:=dq.2.resolve_left ha;have ln:off<cs.length:=by omega
    obtain⟨v,tp,_,gD⟩:=aQ.get hr (i:=off) (d:=cs[off]) (by simp[ln]);have e1:(List.take i.size (List.drop off c.toList)).getD 0 Go.undef=v:=by
     rw[h1];simp only[List.getD,ZaQ,ZbH,ZbV,tp];simp
    have e2:cs.getD off .undef=cs[off]:=by simp[List.getD,ln]
    simp only[ha,e1,e2];exact gD
 |l7 av j off=>
  simp only[aA]at hx;obtain⟨b,o,sz,rfl,hb,hn,hr,h0,h1⟩:=hx;simp only[iF]at dq⊢;exact⟨trivial,ve hd hi (bw.row hr (zX h0 h1)).2 dq⟩
 |iD cs off=>
  simp only[aA]at hx;obtain⟨b,o,rfl,hb,hn,hr⟩:=hx;simp only[iF]at dq⊢;exact⟨trivial,ve hd hi hr dq⟩
 |v t'=>
  cases t' with
  |box cs=>
   simp only[aA,bj]at hx;obtain⟨b,o,rfl,hb,hn,hr⟩:=hx;simp only[iF]at dq⊢;have:=ve (ab:=ab) (L:=L) (W:=W) hd hi (off:=0) hr (by simpa using dq);refine⟨trivial, ?_⟩;simpa using this
  |_=>simp[iF,cZ]at dq
 |ka r bD j off=>
  simp only[aA]at hx;obtain⟨_,cg,e,sz,av,ho,jy,hx⟩:=hx;simp only[iF,ho]at dq⊢;obtain⟨g,hg,rfl,h0,h1⟩:=hx dq.1;have B7:=pL.av (hO.ob r _ ho) hg;have:=(bw.row B7 (zX h0 h1)).2;rw[Zbi]at this;exact⟨trivial,ve hd hi this dq.2⟩
 |_=>simp[iF,cZ]at dq
end
end
section
variable{yv xv z:Value}{va vb xs vs:List Value}{base r off bD sz lo name:Nat}{M:fo}{w0 w':World}{P:Program}{cs:bB}{α:Type}{av ys:List (aK)}{t' ty:TypeId}{zero:aK}
variable [bI]
section
variable{w:World}{W:fo}{ab:bq}{L:Loc}
def zY{y:DV}(h:eX (cellsOf y))(hl:(cellsOf y).length≠0\/True):mO y:=by
 cases y with
 |undef=>simp[cellsOf,eX,kp]at h
 |skip=>simp[cellsOf,eX,kp]at h
 |v t=>
  cases t<;>simp_all [cellsOf,eX,kp,mO,Db]
 |eo ds=>simp[cellsOf,eX,kp]at h
 |_=>simp[mO]
def qx{y:DV}(hy:aA w W ab L y yv)(h:eX (cellsOf y)):aQ w W ab L (cellsOf y) yv.cells.toList:=
 aA.cells hy (zY h (.inr trivial))
def aQ.one{ds:bB}:∀{vs:List Value},aQ w W ab L ds vs->∀v∈vs,v.oneCell'=true:=by
 induction ds with
 |nil=>intro vs h;simp only[aQ]at h;subst h;simp
 |cons d ds ih=>
  intro vs h;simp only[aQ]at h;obtain⟨v,EY,rfl,h1,_,hr⟩:=h;intro u hu;rcases Zah.1 hu with rfl|hu
  ·exact h1
  ·exact ih hr u hu
def du.one{ds:aK}:∀{vs:List Value},du w W ds vs->∀v∈vs,v.oneCell'=true:=by
 induction ds with
 |nil=>intro vs h;simp only[du]at h;subst h;simp
 |cons d ds ih=>
  intro vs h;simp only[du]at h;obtain⟨v,EY,rfl,h1,_,hr⟩:=h;intro u hu;rcases Zah.1 hu with rfl|hu
  ·exact h1
  ·exact ih hr u hu
def aQ.cy{a b:bB}(off:Nat)(ha:aQ w W ab L a va)(hb:aQ w W ab L b vb):aQ w W ab L (cy a off b) (cy va off vb):=by
 unfold DM.cy;rw[<-aQ.length hb];exact aQ.append (aQ.append (aQ.take off ha) hb) (aQ.drop _ ha)
def du.cy{a b:aK}(off:Nat)(ha:du w W a va)(hb:du w W b vb):du w W (cy a off b) (cy va off vb):=by
 unfold DM.cy;rw[<-du.length hb];exact du.append (du.append (du.take off ha) hb) (du.drop _ ha)
def zZ{g:Nat}(cs:Array Value)(h:Fr base M w0 w)(hg:base<=g\/M g):Fr base M w0 (w.setRow g cs):=
 ⟨h.os,h.tape,h.output,h.jq,by simpa using h.size,λk hk hm=>by
  rw[setRow_other w g k cs (by rintro rfl;exact hg.elim (λh1=>by omega) hm)];exact h.block k hk hm,by simpa using h.drawn⟩
def GA{t:TypeId}{i:TypeInfo}(hi:P.info? t=some i){g o:Nat}{e:TypeId}{pa:Array Value}(hg:w.heap[g]? =some (.cells pa e (0,0)))
  (hl:yv.cells.size=i.size) (qe:o+i.size<=pa.size) (h1:∀v∈yv.cells.toList,v.oneCell'=true):
  (Instr.storeAt t (.pointer (some ⟨g,o,none⟩)) yv).run P w=.ok () (w.setRow g (cy pa.toList o yv.cells.toList).toArray):=by
 have hs:=run_storeCells_at P g o e yv.cells.toList 0 pa w hg (by simp[hl];omega) h1;simp only[ZbV]at hs;simp only[Instr.storeAt,Instr.sureAddr,storeVar,Sem.run_bind,Sem.run_pure,Result.andThen_ok,run_sizeOf hi,hl,ne_eq,not_true_eq_false,if_false];exact hs
def Vg(hO:ct base W M w0 ab w L){t:TypeId}{i:TypeInfo}(hi:P.info? t=some i)
   (hc:ab r=some (.box cs)) {y:DV} (hy:aA w W ab L y yv)
  (hn:(cellsOf y).length=i.size) (qe:off+i.size<=cs.length) (Cl:eX (cellsOf y)):
  ∃w',(Instr.storeAt t (.pointer (some ⟨L.I1 r,off,none⟩)) yv).run P w=.ok () w'/\
   ct base W M w0 (cG ab (some (r,.box (cy cs off (cellsOf y))))) w' L/\gP W ab L w (cG ab (some (r,.box (cy cs off (cellsOf y))))) L w':=by
 obtain⟨c,e,hh,hr,hm⟩:=hO.ob r _ hc;have pM:=qx hy Cl;have zW:yv.cells.size=i.size:=by have:=aQ.length pM;simpa [hn]using this
 have aT:c.size=cs.length:=by simpa using aQ.length hr
 refine⟨_,GA hi hh zW (by omega) (aQ.one pM), ?_⟩;refine ct.put hO (zZ _ hO.fr hm) (by simp) (λ_ _=>⟨rfl,rfl⟩) rfl (λb _ hb=>setRow_other w _ b _ (λx=>hb _ hc (by simp[Loc.own,x])))
  (λb hb=>.inl ⟨_,hc,hb⟩) (λo' iA _=>by rw[hc]at iA;cases iA;exact⟨rfl,rfl⟩) (λbD e sz av h=>by rw[hc]at h;cases h) (λeZ=>?_)
 refine⟨_,e,setRow_heap w _ c _ e _ hh, ?_,hm⟩;exact aQ.cy off (aQ.eZ eZ _ _ hr) (aQ.eZ eZ _ _ pM)
def g5{l new:List α}(h:off+new.length<=l.length):(cy l off new).length=l.length:=by
 simp[cy];omega
def Bm{l new:List α}{n:Nat}(h:off+new.length<=n)(hn:n<=l.length):(cy l off new).take n=cy (l.take n) off new:=by
 unfold cy;have e1:List.take off (List.take n l)=List.take off l:=by rw[ZcS];congr 1;omega
 have e2:(List.take off l++new).length=off+new.length:=by simp;omega
 rw[e1,List.drop_take,Zc1,e2,ZaX (by omega)]
def Bn{sz:Nat}:∀(av:List (aK)) (i off:Nat) (new:aK),(∀r∈av,r.length=sz)->i<av.length->off+new.length<=sz->
  (av.set i (cy (av.getD i []) off new)).flatten=cy av.flatten (i*sz+off) new
 |[],i,_,_,_,h,_=>by simp at h
 |r::rs,0,off,new,hl,_,hf=>by
  have hr:r.length=sz:=hl r (by simp);simp only[List.getD_cons_zero,ZbR,Zbu,cy,ZcK,Zbi];rw[List.take_append_of_le_length (by omega),List.drop_append_of_le_length (by omega)];simp
 |r::rs,i+1,off,new,hl,h,hf=>by
  have hr:r.length=sz:=hl r (by simp);have ih:=Bn rs i off new (λx hx=>hl x (by simp[hx])) (by simpa using h) hf;simp only[Zcu,Zb2,Zbu];rw[show∀(a b:aK),cy (a++b) ((i+1)*sz+off) new=(a++b).take ((i+1)*sz+off)++new++(a++b).drop ((i+1)*sz+off+new.length)from λ_ _=>rfl];have e:(i+1)*sz+off=r.length+(i*sz+off):=by rw[Nat.add_mul,hr];omega
  rw[e,Zc1,List.drop_append];have e1:r.length+(i*sz+off)-r.length=i*sz+off:=by omega
  have e2:r.length+(i*sz+off)+new.length-r.length=i*sz+off+new.length:=by omega
  rw[e1,e2,ZaX (l:=r) (by omega),Zbv (as:=r) (by omega)];simp only[ZaG,List.append_assoc];rw[ih];simp only[cy,List.append_assoc]
def HM{Qt:bq}{d:DV}{v:Value}(hp:t7 d)(h:aA w W ab L d v):bj w (WW W ab L) (tz Qt d) v:=by
 cases d with
 |v t=>simpa [tz,aA]using h
 |aW=>
  simp only[aA]at h;obtain⟨a,rfl⟩:=h;simp only[tz,bj];exact .inl ⟨trivial,a,0,rfl⟩
 |_=>exact hp.elim
def ol{Qt:bq}:∀{ds:bB} {vs:List Value},iZ ds->aQ w W ab L ds vs->du w (WW W ab L) (ji Qt ds) vs
 |[],vs,_,h=>by simpa [aQ,du,ji]using h
 |d::ds,vs,hp,h=>by
  simp only[iZ]at hp;simp only[aQ]at h;obtain⟨v,EY,rfl,h1,h2,hr⟩:=h;simp only[ji,du];exact⟨v,EY,rfl,h1,HM hp.1 h2,ol hp.2 hr⟩
def ud:∀{ds:bB},iZ ds->eX ds
 |[],_=>trivial
 |d::ds,h=>by
  simp only[iZ]at h;simp only[eX];refine⟨?_,ud h.2⟩;have:=h.1;cases d<;>simp_all [t7,kp]
def ue:∀(ds:bB),(ji ab ds).length=ds.length
 |[]=>rfl
 |_::ds=>by simp[ji,ue ds]
def Vh(hO:ct base W M w0 ab w L){t:TypeId}{i:TypeInfo}(hi:P.info? t=some i)
  {e:Nat} {j:Int} {g:Nat} (hc:ab r=some (.dT bD e sz av)) (hg:aX (L.sl r)=some g) (h0:0<=j) (h1:j<av.length)
  {y:DV} (hy:aA w W ab L y yv) (hn:(cellsOf y).length=i.size) (qe:off+i.size<=sz) (Cl:iZ (cellsOf y)):
  ∃w',(Instr.storeAt t (.pointer (some ⟨g,j.toNat*sz+off,none⟩)) yv).run P w=.ok () w'/\
   ct base W M w0 (cG ab (some (r,.dT bD e sz (av.set j.toNat (cy (rowAt av j) off (ji ab (cellsOf y))))))) w' L/\
   gP W ab L w (cG ab (some (r,.dT bD e sz (av.set j.toNat (cy (rowAt av j) off (ji ab (cellsOf y))))))) L w':=by
 have gH:=hO.ob r _ hc;obtain⟨yi,eF,hm,P1⟩:=gH;rcases P1 with⟨rfl,_⟩|⟨g',cap,pa,hv,hp,hh,jy,sc,HN,gQ⟩
 ·simp at h1;omega
 ·rw[hv]at hg;simp only[aX,Zab (ZaJ.1 hp),Zaa]at hg;subst hg;have pM:=qx hy (ud Cl);have zW:yv.cells.size=i.size:=by have:=aQ.length pM;simpa [hn]using this
  have hj:j.toNat<av.length:=by omega
  have hjs:j.toNat*sz+sz<=av.length*sz:=by
   have:=Zbk sz (show j.toNat+1<=av.length by omega)
   rwa [Nat.add_mul,Nat.one_mul]at this
  have oj:av.length*sz<=cap*sz:=Zbk sz jy;have XB:(ji ab (cellsOf y)).length=i.size:=by rw[ue];exact hn
  have xM:yv.cells.toList.length=i.size:=by simpa using zW
  have iu:L.own r (.dT bD e sz av)=some g':=by simp[Loc.own,hv,aX,ZaJ.1 hp]
  refine⟨_,GA hi hh zW (by omega) (aQ.one pM), ?_⟩;refine ct.put hO (zZ _ hO.fr (hm g' (by simp[hv,aX,ZaJ.1 hp]))) (by simp) (λ_ _=>⟨rfl,rfl⟩) rfl (λb _ hb=>setRow_other w _ b _ (λx=>hb _ hc (by rw[iu,x])))
   (λb hb=>.inl ⟨_,hc,hb⟩) (λo' iA hk=>by rw[hc]at iA;cases iA;exact Zar rfl hk) (λcg e' iG eN h=>?_) (λeZ=>?_)
  ·rw[hc]at h;cases h;exact⟨bD,e,sz,_,rfl,Zaf _,λ_=>⟨rfl,rfl,by simp⟩⟩
  ·refine⟨yi,λx hx=>?_,hm,.inr ⟨g',cap,_,by simpa using hv,hp,setRow_heap w _ pa _ e _ hh,by simpa using jy,sc, ?_, ?_⟩⟩
   ·rcases ZaS hx with hx|rfl
    ·exact eF x hx
    ·rw[g5]
     ·exact eF _ (by rw[rowAt,List.getD,Zas hj];simp)
     ·have:(rowAt av j).length=sz:=eF _ (by rw[rowAt,List.getD,Zas hj];simp);omega
   ·have:=g5 (l:=pa.toList) (new:=yv.cells.toList) (off:=j.toNat*sz+off) (by simp only[Za3]at xM⊢;omega);simpa using this.trans (by simpa using HN)
   ·rw[show rowAt av j=av.getD j.toNat []from rfl,Bn av j.toNat off _ eF hj (by omega)];simp only[List.length_set];have e1:(cy pa.toList (j.toNat*sz+off) yv.cells.toList).toArray.toList.take (av.length*sz)=cy (pa.toList.take (av.length*sz)) (j.toNat*sz+off) yv.cells.toList:=by
     rw[List.toList_toArray];exact Bm (by omega) (by simp;omega)
    rw[e1];exact du.cy _ (du.bi eZ.dx.toKeepsC eZ.sub _ _ gQ) (du.bi eZ.dx.toKeepsC eZ.sub _ _ (ol Cl pM))
def Loc.g6(L:Loc)(r b:Nat):Loc:=⟨λx=>if x=r then b else L.I1 x,L.sl,L.yl⟩
def Loc.iS(L:Loc)(r:Nat)(v:Value):Loc:=⟨L.I1,λx=>if x=r then v else L.sl x,L.yl⟩
def xW(h:Fr base M w0 w)(hb:vO w.heap.size w w'):Fr base M w0 w':=by
 have jy:base<=w.heap.size:=ZaP h.jq h.size;exact h.trans ⟨hb.os,hb.tape,hb.output,jy,hb.size,λk hk _=>hb.block k (by omega),hb.drawn⟩
def kW(o:Obj):vO w.heap.size w (w.alloc o):=⟨(Below.refl _ _).alloc (Zaf _) _,Zaf _⟩
def HO(hO:ct base W M w0 ab w L)(hr:ab r=none){c:Array Value}(e:TypeId)(hc:aQ w W ab L cs c.toList):
  ct base W M w0 (cG ab (some (r,.box cs))) (w.alloc (.cells c e)) (L.g6 r w.heap.size)/\
   gP W ab L w (cG ab (some (r,.box cs))) (L.g6 r w.heap.size) (w.alloc (.cells c e)):=by
 have hb:=kW (w:=w) (.cells c e);refine ct.put hO (xW hO.fr hb) hb.size (λx hx=>⟨by simp[Loc.g6,hx],rfl⟩) rfl (λb ln _=>hb.block b ln) (λb h=>.inr ?_)
  (λo' h _=>by rw[hr]at h;cases h) (λ_ _ _ _ h=>by rw[hr]at h;cases h) (λeZ=>?_)
 ·simp only[Loc.own,Loc.g6,if_true,Zaa]at h;omega
 ·refine⟨c,e, ?_,aQ.eZ eZ _ _ hc,.inl ?_⟩
  ·simp only[Loc.g6,if_true];exact heap_alloc_new w _
  ·simp only[Loc.g6,if_true];exact ZaP hO.fr.jq hO.fr.size
def uf(hO:ct base W M w0 ab w L){e n:Nat}(hc:ab r=some (.dT bD e sz av))
  (hx:lo+n<=av.length/\∃p cap p2,L.sl r=.slice p av.length cap/\xv=.slice p2 n (cap-lo)/\(lo<cap->p2=p.map (·.add (lo*sz)))):
  (n=0/\∃(a:Option Addr) (c:Nat),xv=.slice a 0 c)\/∃g c,aX (L.sl r)=some g/\xv=.slice (some ⟨g,lo*sz,none⟩) n c/\n<=c/\bw w (WW W ab L) sz g (lo*sz) ((av.drop lo).take n):=by
 obtain⟨Kp,p,cap,p2,vP,rfl,Qu⟩:=hx;by_cases hn:n=0
 ·subst hn;exact .inl ⟨rfl,p2,_,rfl⟩
 ·have gH:=hO.ob r _ hc;obtain⟨_,eF,hm,P1⟩:=gH;rcases P1 with⟨rfl,a,ha⟩|⟨g,cap',pa,h1,h2,h3,h4,h5,h6,h7⟩
  ·simp at Kp;omega
  ·have zO:aX (L.sl r)=some g:=by rw[h1];simp[aX,ZaJ.1 h2]
   have B7:=pL.av (hO.ob r _ hc) zO;rw[vP]at h1;simp only[Value.slice.injEq]at h1;obtain⟨rfl,_,rfl⟩:=h1;have:=Qu (by omega);subst this;refine .inr ⟨g,cap-lo,zO,by simp[mP],by omega,bw.Ck _ _ λj x hj=>?_⟩;rw[ZaQ]at hj;split at hj
   ·rw[ZbH]at hj;have:=bw.row B7 hj;rw[Zbi,Nat.add_mul]at this;exact this
   ·cases hj
structure XC(w:World)(W':fo)(ys:List (aK))(sz:Nat)(v:Value):Prop where
 it:(ys=[]/\∃(a:Option Addr) (c:Nat),v=.slice a 0 c)\/∃b o c,v=.slice (some ⟨b,o,none⟩) ys.length c/\bw w W' sz b o ys
def qS(hO:ct base W M w0 ab w L){y:DV}(hy:aA w W ab L y yv)(hs:fL ab y=some ys)(hl:∀r∈ys,r.length=sz):
  XC w (WW W ab L) ys sz yv:=by
 cases y with
 |v t=>
  cases t with
  |sl av=>
   simp only[fL,Zaa]at hs;subst hs;simp only[aA,bj]at hy;rcases hy with hy|⟨b,o,cap,iG,rfl,_,_,hc,hr⟩
   ·exact⟨.inl hy⟩
   ·refine⟨.inr ⟨b,o,cap,rfl, ?_⟩⟩
    match av,hr with
    |[],_=>simp[bw]
    |r::rs,hr=>
     have h1:=(bw.row hr (i:=0) (r:=r) rfl).1;have h2:=hl r (by simp);have:iG=sz:=by omega
     exact this▸hr
  |mg v=>
   unfold fL at hs;split at hs<;>simp_all
   simp only[aA,bj]at hy;exact⟨.inl ⟨rfl,_,_,hy⟩⟩
  |_=>simp[fL]at hs
 |aW=>
  simp only[fL,Zaa]at hs;subst hs;simp only[aA]at hy;obtain⟨a,rfl⟩:=hy;exact⟨.inl ⟨rfl,a,0,rfl⟩⟩
 |bA r bD=>
  simp only[fL]at hs;simp only[aA]at hy;obtain⟨_,cg,e,iG,av,ho,_,hx⟩:=hy;rw[ho]at hs;simp only at hs;split at hs
  ·rename_i hv;simp only[Zaa]at hs;subst hs;have gH:=hO.ob r _ ho;obtain⟨yi,eF,hm,P1⟩:=gH;rw[hx hv];rcases P1 with⟨rfl,a,ha⟩|⟨g',cap,pa,tp,hp,hh,jy,sc,HN,gQ⟩
   ·exact⟨.inl ⟨rfl,a,0,ha⟩⟩
   ·have B7:=pL.av (hO.ob r _ ho) (g:=g') (by simp[tp,aX,ZaJ.1 hp]);refine⟨.inr ⟨g',0,cap,tp, ?_⟩⟩
    match av,B7,hl,eF with
    |[],_,_,_=>simp[bw]
    |r::rs,hr,hl,eF=>
     have h1:=eF r (by simp);have h2:=hl r (by simp);have:iG=sz:=by omega
     exact this▸hr
  ·cases hs
 |u9 r bD lo n=>
  simp only[fL]at hs;simp only[aA]at hy;obtain⟨_,cg,e,iG,av,ho,_,hx⟩:=hy;rw[ho]at hs;simp only at hs;split at hs
  ·rename_i hv;subst hv;simp only[Zaa]at hs;subst hs;have Kp:=(hx rfl).1;have HG:((av.drop lo).take n).length=n:=by rw[ZaB,Zbo];omega
   rcases uf hO ho (hx rfl)with⟨rfl,a,c,rfl⟩|⟨g,c,_,rfl,_,hr⟩
   ·exact⟨.inl ⟨by simp,a,c,rfl⟩⟩
   ·refine⟨.inr ⟨g,lo*iG,c,by rw[HG], ?_⟩⟩;have eF:=(hO.ob r _ ho).2.1
    match hq:(av.drop lo).take n,hr,hl with
    |[],_,_=>simp[bw]
    |q::qs,hr,hl=>
     have h1:=eF q (ZbW (ZaE (by rw[hq];simp)));have h2:=hl q (by simp);have:iG=sz:=by omega
     exact this▸hr
  ·cases hs
 |_=>simp[fL]at hs
def kB(w:World)(t ty e:TypeId)(i:TypeInfo)(ht:P.underlying t=some (.slice e))(hi:P.info? e=some i)(a b:Option Addr)(n cap c:Nat)(hn:n<=cap):
  (Builtin.append_ #[t,t] ty #[.slice a n cap,.slice b 0 c]).run P w=.ok (.slice a n cap) w:=by
 have hf:(Builtin.firstCells i.size 0 (.slice b 0 c)).run P w=.ok #[] w:=by
  cases b<;>simp[Builtin.firstCells,loadCells,loadCellsFrom]
 cases a<;>simp[Builtin.append_,run_underlying ht,sizeOf,typeInfo,hi,Builtin.lenOf,hn,hf,storeCells]
def Dh{e:Nat}(J1:z.cells.size=sz){n m old:Nat}(hx:xs.length=n*sz)(hv:vs.length=m*sz)(h63:n+m<=maxLen):
  (w.drew.alloc (.cells (xs.toArray++vs.toArray++Builtin.zeroCells z.cells (grownCap w (n+m) old e-(n+m))) e)).ownsRow 0 e sz (.slice (some ⟨w.heap.size,0,none⟩) (n+m) (grownCap w (n+m) old e)) (n+m) (xs++vs)/\
   ∀row,w.grownBy (w.drew.alloc (.cells (xs.toArray++vs.toArray++Builtin.zeroCells z.cells (grownCap w (n+m) old e-(n+m))) e)) row:=by
 have xL:=grownCap_ge w (n+m) old e;have XD:grownCap w (n+m) old e<=maxLen:=grownCap_le_maxLen w (n+m) old e h63;have dM:(xs++vs).length=(n+m)*sz:=by rw[ZaK,hx,hv,Nat.add_mul]
 refine⟨⟨dM,.inr ⟨w.heap.size,_,_,rfl,ZbB _,heap_alloc_new w.drew _,xL,XD, ?_, ?_⟩⟩,λrow=>⟨rfl,rfl,rfl,by simp,λk hk _=>heap_alloc_old w.drew _ k hk⟩⟩
 ·simp only[Array.size_append,List.size_toArray,size_zeroCells,J1,hx,hv,<-Nat.add_mul]
  congr 1
  omega
 ·simp only[Array.toList_append,List.append_assoc];rw[<-List.append_assoc,<-dM];exact List.take_left
def Vi{o:Ob}(h:ab r=some o):cG ab (some (r,o))=ab:=by
 funext x;simp only[cG];split
 ·rename_i e;rw[e,h]
 ·rfl
def Di{new:List (aK)}(hr:∀r∈av,r.length=sz)(hn:∀r∈new,r.length=sz)(h:lo+new.length<=av.length):(cy av lo new).flatten=cy av.flatten (lo*sz) new.flatten:=by
 have key:∀(l:List (aK)),(∀r∈l,r.length=sz)->l.flatten.length=l.length*sz:=by
  intro l;induction l with
  |nil=>simp
  |cons r rs ih=>intro h;simp[ih (λx hx=>h x (by simp[hx])),h r (by simp),Nat.add_mul];omega
 have tk:∀(k:Nat),k<=av.length->(av.take k).flatten=av.flatten.take (k*sz)/\(av.drop k).flatten=av.flatten.drop (k*sz):=by
  intro k hk;have h8:av.flatten=(av.take k).flatten++(av.drop k).flatten:=by rw[<-List.flatten_append,Zbr]
  have h9:(av.take k).flatten.length=k*sz:=by rw[key _ (λr h=>hr r (ZaE h)),ZaB];congr 1;omega
  rw[h8,Zc8 h9,List.drop_left' h9];exact⟨rfl,rfl⟩
 unfold cy;rw[List.flatten_append,List.flatten_append,(tk lo (by omega)).1,(tk _ h).2,key new hn,Nat.add_mul]
def GB(hO:ct base W M w0 ab w L){t e0:TypeId}{i:TypeInfo}(ht:P.underlying t=some (.slice e0))(hi:P.info? e0=some i)
  {e n:Nat} (hc:ab r=some (.dT bD e i.size av)) (Kp:lo+n<=av.length)
  (kv:(n=0/\∃(a:Option Addr) (c:Nat),xv=.slice a 0 c)\/∃g c,aX (L.sl r)=some g/\xv=.slice (some ⟨g,lo*i.size,none⟩) n c) (hs:XC w (WW W ab L) ys i.size yv) (zW:∀r∈ys,r.length=i.size):
  ∃w',(Builtin.copy_ #[t,t'] ty #[xv,yv]).run P w=.ok (goInt (min ys.length n:Nat)) w'/\
   ct base W M w0 (cG ab (some (r,.dT bD e i.size (cy av lo (ys.take n))))) w' L/\gP W ab L w (cG ab (some (r,.dT bD e i.size (cy av lo (ys.take n))))) L w':=by
 have stay:ys.take n=[]->ct base W M w0 (cG ab (some (r,.dT bD e i.size (cy av lo (ys.take n))))) w L/\gP W ab L w (cG ab (some (r,.dT bD e i.size (cy av lo (ys.take n))))) L w:=by
  intro h0;have e1:cy av lo (ys.take n)=av:=by rw[h0];simp[cy]
  rw[e1,Vi hc];exact⟨hO,gP.cQ (dg.refl _ _)⟩
 have dM:∃(p:Option Addr) (c:Nat),yv=.slice p ys.length c:=by
  rcases hs.it with⟨rfl,a,c,rfl⟩|⟨b,o,c,rfl,_⟩
  ·exact⟨a,c,rfl⟩
  ·exact⟨_,c,rfl⟩
 have hf0:∀(v:Value) (p:Option Addr) (m c:Nat),v=.slice p m c->(Builtin.firstCells i.size 0 v).run P w=.ok #[] w:=by
  rintro v p m c rfl;cases p<;>simp[Builtin.firstCells,loadCells,loadCellsFrom]
 obtain⟨yp,yc,hyv⟩:=dM;rcases kv with⟨rfl,a,c,rfl⟩|⟨g,c,hg,rfl⟩
 ·refine⟨w, ?_,stay (by simp)⟩;have:=hf0 yv yp _ yc hyv;subst hyv;cases a<;>simp[Builtin.copy_,run_underlying ht,Builtin.lenOf,run_sizeOf hi,this,storeCells]
 ·by_cases hm:min ys.length n=0
  ·refine⟨w, ?_,stay ?_⟩
   ·have:=hf0 yv yp _ yc hyv;subst hyv;have HP:Nat.min ys.length n=0:=hm;simp[Builtin.copy_,run_underlying ht,Builtin.lenOf,run_sizeOf hi,hm,this,storeCells]
   ·by_cases h:ys.length=0
    ·rw[ZaD h];simp
    ·rw[show n=0 by omega];simp
  ·rcases hs.it with⟨rfl,_⟩|⟨b,o,c',hyv2,hr⟩
   ·simp at hm
   ·have gH:=hO.ob r _ hc;obtain⟨yi,eF,z7,P1⟩:=gH;rcases P1 with⟨rfl,_⟩|⟨g',cap,pa,h1,h2,h3,h4,h5,h6,h7⟩
    ·simp at Kp;omega
    ·have zO:aX (L.sl r)=some g':=by rw[h1];simp[aX,ZaJ.1 h2]
     rw[zO]at hg;cases hg;obtain⟨vs,xM,Cm,XE⟩:=bw.flatten hr;have NX:min ys.length n*i.size<=vs.length:=by rw[xM];exact Zbk _ (Nat.min_le_left _ _)
     have XF:(ys.take n).length=min ys.length n:=by rw[ZaB,Nat.min_comm]
     have HG:(vs.take (min ys.length n*i.size)).length=min ys.length n*i.size:=by rw[ZaB];omega
     have hload:(Builtin.firstCells i.size (min ys.length n) yv).run P w=.ok (vs.take (min ys.length n*i.size)).toArray w:=by
      rw[hyv2];simp only[Builtin.firstCells];have:=Bj (P:=P) (w:=w) (b:=b) (o:=o) (vs:=vs.take (min ys.length n*i.size)) (λj v hj=>XE j v (by
       rw[ZaQ]at hj;split at hj
       ·exact hj
       ·cases hj))
      rw[HG]at this;exact this
     have hfl:(ys.take n).flatten=ys.flatten.take (min ys.length n*i.size):=by
      have h8:ys.flatten=(ys.take n).flatten++(ys.drop n).flatten:=by rw[<-List.flatten_append,Zbr]
      rw[h8,Zc8];have key:∀(l:List (aK)),(∀r∈l,r.length=i.size)->l.flatten.length=l.length*i.size:=by
       intro l;induction l with
       |nil=>simp
       |cons r rs ih=>intro h;simp[ih (λx hx=>h x (by simp[hx])),h r (by simp),Nat.add_mul];omega
      rw[key _ (λr h=>zW r (ZaE h)),XF]
     have qe:lo*i.size+min ys.length n*i.size<=av.length*i.size:=by
      rw[<-Nat.add_mul];exact Zbk _ (by omega)
     have hcapr:av.length*i.size<=cap*i.size:=Zbk _ h4;have z8:du w (WW W ab L) (ys.take n).flatten (vs.take (min ys.length n*i.size)):=by rw[hfl];exact du.take _ Cm
     have la:=run_storeCells_at P g (lo*i.size) e (vs.take (min ys.length n*i.size)) 0 pa w h3 (by rw[HG,h6];omega) (du.one z8);have iu:L.own r (.dT bD e i.size av)=some g:=zO;refine⟨w.setRow g (cy pa.toList (lo*i.size) (vs.take (min ys.length n*i.size))).toArray, ?_, ?_⟩
     ·have HP:Nat.min ys.length n=min ys.length n:=rfl;rw[hyv2]at hload⊢;simp only[Builtin.copy_,Builtin.lenOf];simp only[ZbV]at la;simp[run_underlying ht,run_sizeOf hi,hload,la,cy]
     ·refine ct.put hO (zZ _ hO.fr (z7 g zO)) (by simp) (λ_ _=>⟨rfl,rfl⟩) rfl (λb _ hb=>setRow_other w _ b _ (λx=>hb _ hc (by rw[iu,x])))
       (λb hb=>.inl ⟨_,hc,hb⟩) (λo' iA hk=>by rw[hc]at iA;cases iA;exact Zar rfl hk) (λcg e' iG eN h=>?_) (λeZ=>?_)
      ·rw[hc]at h;cases h;exact⟨bD,e,i.size,_,rfl,Zaf _,λ_=>⟨rfl,rfl,g5 (by rw[XF];omega)⟩⟩
      ·have Bl:(cy av lo (ys.take n)).length=av.length:=g5 (by rw[XF];omega);refine⟨yi,λx hx=>?_,z7,.inr ⟨g,cap,_,by rw[Bl];exact h1,h2,setRow_heap w _ pa _ e _ h3,by rw[Bl];exact h4,h5, ?_, ?_⟩⟩
       ·simp only[cy,Zaq]at hx;rcases hx with(hx|hx)|hx
        ·exact eF x (ZaE hx)
        ·exact zW x (ZaE hx)
        ·exact eF x (ZbW hx)
       ·have:=g5 (l:=pa.toList) (new:=vs.take (min ys.length n*i.size)) (off:=lo*i.size) (by rw[HG];simp only[Za3,h6];omega);simpa using this.trans (by simpa using h6)
       ·rw[Bl,Di eF (λx hx=>zW x (ZaE hx)) (by rw[XF];omega)];rw[List.toList_toArray,Bm (by rw[HG];omega) (by simp only[Za3,h6];omega)];exact du.cy _ (du.bi eZ.dx.toKeepsC eZ.sub _ _ h7) (du.bi eZ.dx.toKeepsC eZ.sub _ _ z8)
def oU{t e:TypeId}{i:TypeInfo}(ht:P.underlying t=some (.slice e))(hi:P.info? e=some i)(hz:i.zero=some z)(qi:i.size=sz)(J1:z.cells.size=sz)
  {W':fo} {v:Value} {n:Nat} (iu:(n=0/\xs=[]/\∃a:Option Addr,v=.slice a 0 0)\/∃g cap pa,v=.slice (some ⟨g,0,none⟩) n cap/\0<cap/\w.heap[g]? =some (.cells pa e (0,0))/\n<=cap/\cap<=maxLen/\pa.size=cap*sz/\pa.toList.take (n*sz)=xs)
   (hs:XC w W' ys sz yv) (hyw:∀b o,bw w W' sz b o ys->∃vs,vs.length=ys.length*sz/\du w W' ys.flatten vs/\∀j v,vs[j]? =some v->w.cell? ⟨b,o+j,none⟩=some v) (TU:dK i.bytes (n+ys.length)):
  ∃v' w' vs,(Builtin.append_ #[t,t] ty #[v,yv]).run P w=.ok v' w'/\du w W' ys.flatten vs/\vs.length=ys.length*sz/\
   ((n+ys.length=0/\∃a:Option Addr,v'=.slice a 0 0)\/∃g cap pa,v'=.slice (some ⟨g,0,none⟩) (n+ys.length) cap/\0<cap/\w'.heap[g]? =some (.cells pa e (0,0))/\n+ys.length<=cap/\cap<=maxLen/\pa.size=cap*sz/\
     pa.toList.take ((n+ys.length)*sz)=xs++vs)/\
   w.grownBy w' (aX v)/\(∀b,aX v'=some b->aX v=some b\/w.heap.size<=b)/\w.drawn<=w'.drawn:=by
 have h63:n+ys.length<=maxLen:=by have:=TU.2;simp only[maxLen];omega
 have h63i:((n+ys.length:Nat):Int)<=9223372036854775807:=by have:=TU.2;omega
 have Qv:w.grownBy w (aX v):=⟨rfl,rfl,rfl,Zaf _,λ_ _ _=>rfl⟩;rcases hs.it with⟨rfl,b,c,rfl⟩|⟨b,o,c,rfl,hr⟩
 ·rcases iu with⟨rfl,rfl,a,rfl⟩|⟨g,cap,pa,rfl,hp,hg,h1,h2,h3,h4⟩
  ·exact⟨_,w,[],kB w t ty e i ht hi a b 0 0 c (Zaf _),by simp[du],by simp,.inl ⟨rfl,a,rfl⟩,Qv,λb hb=>.inl hb,Zaf _⟩
  ·exact⟨_,w,[],kB w t ty e i ht hi _ b n cap c h1,by simp[du],by simp,.inr ⟨g,cap,pa,rfl,hp,hg,h1,h2,h3,by simpa using h4⟩,Qv,λb hb=>.inl hb,Zaf _⟩
 ·obtain⟨vs,xM,Cm,XE⟩:=hyw b o hr;have hvc':∀j v,vs[j]? =some v->w.cell? ((⟨b,o,none⟩:Addr).add j)=some v:=λj v h=>by rw[mP];exact XE j v h
  by_cases hy0:ys.length=0
  ·have:ys=[]:=ZaD hy0;subst this;rcases iu with⟨rfl,rfl,a,rfl⟩|⟨g,cap,pa,rfl,hp,hg,h1,h2,h3,h4⟩
   ·exact⟨_,w,[],kB w t ty e i ht hi a _ 0 0 c (Zaf _),by simp[du],by simp,.inl ⟨rfl,a,rfl⟩,Qv,λb hb=>.inl hb,Zaf _⟩
   ·exact⟨_,w,[],kB w t ty e i ht hi _ _ n cap c h1,by simp[du],by simp,.inr ⟨g,cap,pa,rfl,hp,hg,h1,h2,h3,by simpa using h4⟩,Qv,λb hb=>.inl hb,Zaf _⟩
  ·have grow:∀(a:Addr) (old:Nat),old<n+ys.length->xs.length=n*sz->(∀j u,xs[j]? =some u->w.cell? (a.add j)=some u)->
     ∃v' w',(Builtin.append_ #[t,t] ty #[.slice (some a) n old,.slice (some ⟨b,o,none⟩) ys.length c]).run P w=.ok v' w'/\
      (∃g cap pa,v'=.slice (some ⟨g,0,none⟩) (n+ys.length) cap/\0<cap/\w'.heap[g]? =some (.cells pa e (0,0))/\n+ys.length<=cap/\cap<=maxLen/\pa.size=cap*sz/\pa.toList.take ((n+ys.length)*sz)=xs++vs)/\
      (∀row,w.grownBy w' row)/\(∀b,aX v'=some b->w.heap.size<=b)/\w.drawn<=w'.drawn:=by
    intro a old ho Gb hxc;have bW:=run_append_grow (P:=P) w t ty e i z ht hi hz a n old xs (by rw[qi];exact Gb) hxc ⟨b,o,none⟩ ys.length c vs (by rw[qi];exact xM) hvc' ho h63i (growslice_fits ho TU.1);have Bo:=Dh (w:=w) (e:=e) (old:=old) J1 Gb xM h63;obtain⟨dM,hor⟩:=Bo.1;rcases hor with⟨hn,_⟩|⟨g,cap,pa,hv,_,hg,h1,h2,h3,h4⟩
    ·cases hn
    ·refine⟨_,_,bW,⟨g,cap,pa,hv,by omega,hg,h1,h2,h3,h4⟩,Bo.2,λb hb=>?_,Zdb _⟩;have sc:grownCap w (n+ys.length) old e≠0:=by have:=grownCap_ge w (n+ys.length) old e;omega
     simp only[aX,Zab sc,Zaa]at hb;omega
   rcases iu with⟨rfl,rfl,a,rfl⟩|⟨g,cap,pa,rfl,hp,hg,h1,h2,h3,h4⟩
   ·cases a with
    |none=>
     have bW:=run_append_nil (P:=P) w t ty e i z ht hi hz ⟨b,o,none⟩ ys.length c vs (by rw[qi];exact xM) hvc' (by omega) (by omega) (by have:=growslice_fits (old:=0) (need:=ys.length) (by omega) (by simpa using TU.1);have h2:=TU.1;simp only[Zbi]at h2;omega);have Bo:=Dh (w:=w) (e:=e) (old:=0) (n:=0) (xs:=[]) J1 (by simp) xM (by simpa using h63);simp only[Zbi,ZaG,Array.empty_append]at Bo⊢;obtain⟨dM,hor⟩:=Bo.1;rcases hor with⟨hn,_⟩|⟨g,cap,pa,hv,_,hg,h1,h2,h3,h4⟩
     ·cases hn
     ·refine⟨_,_,vs,bW,Cm,xM,.inr ⟨g,cap,pa,hv,by omega,hg,h1,h2,h3,h4⟩,Bo.2 _,λb hb=>.inr ?_,Zdb _⟩;have sc:grownCap w ys.length 0 e≠0:=by have:=grownCap_ge w ys.length 0 e;omega
      simp only[aX,Zab sc,Zaa]at hb;omega
    |some a=>
     obtain⟨v',w',bW,xV,Bo,W9,Kq⟩:=grow a 0 (by omega) (by simp) (by simp);exact⟨v',w',vs,bW,Cm,xM,.inr xV,Bo _,λb hb=>.inr (W9 b hb),Kq⟩
   ·have Gb:xs.length=n*sz:=by
     rw[<-h4,ZaB,Za3,h3];exact Zc9 (Zbk sz h1)
    have XG:cap≠0:=ZaJ.1 hp;by_cases NY:n+ys.length<=cap
    ·have qe:n*i.size+vs.length<=pa.size:=by rw[xM,h3,qi,<-Nat.add_mul];exact Zbk _ NY
     have bW:=run_append_room (P:=P) w t ty e i ht hi g n cap pa hg ⟨b,o,none⟩ ys.length c vs (by rw[qi];exact xM) hvc' (du.one Cm) NY qe;refine⟨_,_,vs,bW,Cm,xM,.inr ⟨g,cap,_,rfl,hp,setRow_heap w g pa _ e _ hg,NY,h2, ?_, ?_⟩,⟨rfl,rfl,rfl,by simp,λk _ hk=>setRow_other w g k _ (λe=>hk (by simp[aX,XG,e]))⟩,λb hb=>.inl ?_,by simp⟩
     ·simp only[List.size_toArray,ZaK,ZaB,Zbo,Za3];rw[qi]at qe⊢;omega
     ·have dM:(xs++vs).length=(n+ys.length)*sz:=by rw[ZaK,Gb,xM,Nat.add_mul]
      rw[qi,h4,<-dM];exact List.take_left
     ·simpa [aX,XG]using hb
    ·obtain⟨v',w',bW,xV,Bo,W9,Kq⟩:=grow ⟨g,0,none⟩ cap (by omega) Gb (λj u hu=>by
      rw[mP,Zbi,cell_of_row w g j pa e (0,0) hg];rw[<-h4,ZaQ]at hu;split at hu
      ·simpa using hu
      ·cases hu)
     exact⟨v',w',vs,bW,Cm,xM,.inr xV,Bo _,λb hb=>.inr (W9 b hb),Kq⟩
def ug{sz:Nat}:∀{av:List (aK)},(∀r∈av,r.length=sz)->av.flatten.length=av.length*sz
 |[],_=>by simp
 |r::rs,h=>by
  have:=ug (av:=rs) (sz:=sz) λx hx=>h x (by simp[hx]);simp[this,h r (by simp),Nat.add_mul];omega
def sd(hO:ct base W M w0 ab w L){cg e:Nat}(yi:0<sz)
  {v v':Value} (z8:∀x∈av++ys,x.length=sz)
  {rows0:List (aK)} (HQ:(ab r=none/\av=[]/\aX v=none)\/(ab r=some (.dT bD e sz rows0)/\aX (L.sl r)=aX v/\bD<cg))
  (hxs:du w (WW W ab L) av.flatten xs) (hvs:du w (WW W ab L) ys.flatten vs)
  (ub:(av.length+ys.length=0/\∃a:Option Addr,v'=.slice a 0 0)\/∃g cap pa,v'=.slice (some ⟨g,0,none⟩) (av.length+ys.length) cap/\0<cap/\w'.heap[g]? =some (.cells pa e (0,0))/\av.length+ys.length<=cap/\cap<=maxLen/\pa.size=cap*sz/\
     pa.toList.take ((av.length+ys.length)*sz)=xs++vs)
  (Bo:w.grownBy w' (aX v)) (W9:∀b,aX v'=some b->aX v=some b\/w.heap.size<=b) (Kq:w.drawn<=w'.drawn):
  ct base W M w0 (cG ab (some (r,.dT cg e sz (av++ys)))) w' (L.iS r v')/\gP W ab L w (cG ab (some (r,.dT cg e sz (av++ys)))) (L.iS r v') w':=by
 have XH:∀g,aX v=some g->base<=g\/M g:=λg hg=>by
  rcases HQ with⟨_,_,h⟩|⟨ho,hv,_⟩
  ·rw[hg]at h;cases h
  ·exact(hO.ob r _ ho).reach (by simpa [Loc.own,hv]using hg)
 have jy:base<=w.heap.size:=ZaP hO.fr.jq hO.fr.size;have xK:Fr base M w0 w':=hO.fr.trans ⟨Bo.os,Bo.tape,Bo.output,jy,Bo.size,λk hk hm=>Bo.block k (by omega) λx=>by
  rcases XH k x.symm with h|h
  ·omega
  ·exact hm h,Kq⟩
 refine ct.put hO xK Bo.size (λx hx=>⟨rfl,by simp[Loc.iS,hx]⟩) rfl (λb ln hb=>Bo.block b ln λx=>?_) (λb hb=>?_) (λcs hc hk=>?_) (λqw e2 Gy lI hc=>?_) (λeZ=>?_)
 ·rcases HQ with⟨_,_,h⟩|⟨ho,hv,_⟩
  ·rw[h]at x;cases x
  ·exact hb _ ho (by simp[Loc.own,hv,<-x])
 ·simp only[Loc.own,Loc.iS,if_true]at hb;rcases W9 b hb with h|h
  ·rcases HQ with⟨_,_,h2⟩|⟨ho,hv,_⟩
   ·rw[h]at h2;cases h2
   ·exact .inl ⟨_,ho,by simp[Loc.own,hv,h]⟩
  ·exact .inr h
 ·rcases HQ with⟨h,_⟩|⟨h,_⟩<;>rw[hc]at h<;>cases h
  exact Zar rfl (by assumption)
 ·rcases HQ with⟨h,_⟩|⟨h,_,ln⟩
  ·rw[hc]at h;cases h
  ·rw[hc]at h;cases h;exact⟨cg,e,sz,_,rfl,by omega,λx=>by omega⟩
 ·refine⟨yi,z8,λg hg=>?_, ?_⟩
  ·simp only[Loc.iS,if_true]at hg;rcases W9 g hg with h|h
   ·exact XH g h
   ·exact .inl (ZaP jy h)
  ·simp only[Loc.iS,if_true,ZaK];rcases ub with⟨h0,ha⟩|⟨g,cap,pa,hv,hp,hg,h1,h2,h3,h4⟩
   ·refine .inl ⟨?_,ha⟩;have h1:av=[]:=ZaD (by omega);have h2:ys=[]:=ZaD (by omega);simp[h1,h2]
   ·refine .inr ⟨g,cap,pa,hv,hp,hg,h1,h2,h3, ?_⟩;rw[h4,List.flatten_append];exact du.append (du.bi eZ.dx.toKeepsC eZ.sub _ _ hxs) (du.bi eZ.dx.toKeepsC eZ.sub _ _ hvs)
def HR(hO:ct base W M w0 ab w L){t e:TypeId}{i:TypeInfo}(ht:P.underlying t=some (.slice e))(hi:P.info? e=some i)(hz:i.zero=some z)(J1:z.cells.size=i.size)(yi:0<i.size)
   (vx:ab name=none) {x y:DV} (hx:aA w W ab L x xv) (hy:aA w W ab L y yv) (dq:(wy e i.size i.bytes name ab x y).ok):
  ∃v w' L',(Builtin.append_ #[t,t] ty #[xv,yv]).run P w=.ok v w'/\ct base W M w0 (cG ab (wy e i.size i.bytes name ab x y).put) w' L'/\
   gP W ab L w (cG ab (wy e i.size i.bytes name ab x y).put) L' w'/\aA w' W (cG ab (wy e i.size i.bytes name ab x y).put) L' (wy e i.size i.bytes name ab x y).val v:=by
 unfold wy at dq⊢;cases hs:fL ab y with
 |none=>simp[hs,cZ]at dq
 |some ys=>
  simp only[hs]at dq⊢;have hyw:∀b o,bw w (WW W ab L) i.size b o ys->∃vs,vs.length=ys.length*i.size/\du w (WW W ab L) ys.flatten vs/\∀j v,vs[j]? =some v->w.cell? ⟨b,o+j,none⟩=some v:=λb o h=>bw.flatten h;cases x with
  |aW=>
   simp only at dq⊢;have mh:=hx;simp only[aA]at mh;obtain⟨a,rfl⟩:=mh;obtain⟨v',w',vs,bW,Cm,xM,ub,Bo,W9,Kq⟩:=oU (n:=0) (xs:=[]) ht hi hz rfl J1 (.inl ⟨rfl,rfl,a,rfl⟩) (ty:=ty) (qS hO hy hs dq.1) hyw (by simpa using dq.2);have zO:aX (.slice a 0 0)=none:=by cases a<;>simp[aX]
   have:=sd hO (r:=name) (bD:=0) (cg:=0) (rows0:=[]) (av:=[]) (ys:=ys) yi (by simpa using dq.1) (.inl ⟨vx,rfl,zO⟩) (xs:=[]) (by simp[du]) Cm (by simpa using ub) Bo W9 Kq;refine⟨v',w',_,bW,by simpa using this.1,by simpa using this.2, ?_⟩;simp only[aA];refine⟨?_,0,e,i.size,ys,by simp[cG],Zaf _,λ_=>by simp[Loc.iS]⟩;rcases ub with⟨_,a,rfl⟩|⟨g,cap,pa,rfl,_⟩<;>exact⟨_,_,_,rfl⟩
  |bA r bD=>
   cases ho:ab r with
   |none=>simp[ho,cZ]at dq
   |some o=>
    cases o with
    |box cs=>simp[ho,cZ]at dq
    |dT cg e' iG av=>
     simp only[ho]at dq⊢;obtain⟨rfl,rfl,rfl,hl,TU⟩:=dq;have mh:=hx;simp only[aA]at mh;obtain⟨_,qw,e2,Gy,lI,nH,_,mQ⟩:=mh;rw[ho]at nH;cases nH;have hv:=mQ rfl;have gH:=hO.ob r _ ho;obtain⟨_,eF,hm,P1⟩:=gH;have iu:∃xs,du w (WW W ab L) av.flatten xs/\((av.length=0/\xs=[]/\∃a:Option Addr,xv=.slice a 0 0)\/∃g cap pa,xv=.slice (some ⟨g,0,none⟩) av.length cap/\0<cap/\w.heap[g]? =some (.cells pa e' (0,0))/\av.length<=cap/\cap<=maxLen/\pa.size=cap*i.size/\pa.toList.take (av.length*i.size)=xs):=by
      rcases P1 with⟨rfl,a,ha⟩|⟨g,cap,pa,h1,h2,h3,h4,h5,h6,h7⟩
      ·exact⟨[],by simp[du],.inl ⟨rfl,rfl,a,by rw[hv,ha]⟩⟩
      ·exact⟨_,h7,.inr ⟨g,cap,pa,by rw[hv,h1],h2,h3,h4,h5,h6,rfl⟩⟩
     obtain⟨xs,Ga,iu⟩:=iu;obtain⟨v',w',vs,bW,Cm,xM,ub,Bo,W9,Kq⟩:=oU ht hi hz rfl J1 iu (ty:=ty) (qS hO hy hs hl) hyw TU;have:=sd hO (r:=r) (bD:=bD) (cg:=bD+1) (av:=av) (ys:=ys) yi (λx hx=>(Zaq.1 hx).elim (eF x) (hl x)) (.inr ⟨ho,by rw[hv],by omega⟩) Ga Cm ub Bo W9 Kq;refine⟨v',w',_,bW,this.1,this.2, ?_⟩;simp only[aA];refine⟨?_,bD+1,e',i.size,av++ys,by simp[cG],Zaf _,λ_=>by simp[Loc.iS]⟩;rcases ub with⟨_,a,rfl⟩|⟨g,cap,pa,rfl,_⟩<;>exact⟨_,_,_,rfl⟩
    |_=>simp[ho,cZ]at dq
  |u9 r bD lo n=>
   cases lo with
   |succ lo=>simp[cZ]at dq
   |zero=>
   cases ho:ab r with
   |none=>simp[ho,cZ]at dq
   |some o=>
    cases o with
    |dT cg e' iG av=>
     simp only[ho]at dq⊢;obtain⟨rfl,rfl,rfl,hl,TU⟩:=dq;have mh:=hx;simp only[aA]at mh;obtain⟨_,qw,e2,Gy,lI,nH,_,mQ⟩:=mh;rw[ho]at nH;cases nH;obtain⟨Kp,p,XI,p2,vP,rfl,Qu⟩:=mQ rfl;have gH:=hO.ob r _ ho;obtain⟨_,eF,hm,P1⟩:=gH;have HG:(av.take n).length=n:=by rw[ZaB];omega
     have zO:aX (L.sl r)=aX (.slice p2 n (XI-0)):=by
      rw[vP];simp only[Zcb];by_cases Xa:XI=0
      ·subst Xa;cases p<;>cases p2<;>simp[aX]
      ·have:=Qu (by omega);subst this;cases p with
       |none=>simp[aX]
       |some a=>
        obtain⟨b,o,ix⟩:=a;cases ix<;>simp[aX,Xa,Addr.add]
     have iu:∃xs,du w (WW W ab L) (av.take n).flatten xs/\((n=0/\xs=[]/\∃a:Option Addr,Value.slice p2 n (XI-0)=.slice a 0 0)\/∃g cap pa,Value.slice p2 n (XI-0)=.slice (some ⟨g,0,none⟩) n cap/\0<cap/\w.heap[g]? =some (.cells pa e' (0,0))/\n<=cap/\cap<=maxLen/\pa.size=cap*i.size/\pa.toList.take (n*i.size)=xs):=by
      rcases P1 with⟨rfl,a,ha⟩|⟨g,cap,pa,h1,h2,h3,h4,h5,h6,h7⟩
      ·rw[vP]at ha;simp only[Value.slice.injEq]at ha;obtain⟨_,_,rfl⟩:=ha;have:n=0:=by simp at Kp;omega
       subst this;exact⟨[],by simp[du],.inl ⟨rfl,rfl,p2,rfl⟩⟩
      ·rw[vP]at h1;simp only[Value.slice.injEq]at h1;obtain⟨rfl,_,rfl⟩:=h1;have:=Qu h2;subst this;refine⟨_, ?_,.inr ⟨g,XI,pa,by simp[mP],h2,h3,by omega,h5,h6,rfl⟩⟩;have e1:(av.take n).flatten=av.flatten.take (n*i.size):=by
        have h8:av.flatten=(av.take n).flatten++(av.drop n).flatten:=by rw[<-List.flatten_append,Zbr]
        rw[h8,Zc8 (by rw[ug (sz:=i.size) (λr hr=>eF r (ZaE hr)),HG])]
       have e2:pa.toList.take (n*i.size)=(pa.toList.take (av.length*i.size)).take (n*i.size):=by
        rw[ZcS];congr 1;have:=Zbk i.size (show n<=av.length by omega);omega
       rw[e1,e2];exact du.take _ h7
     obtain⟨xs,Ga,iu⟩:=iu;obtain⟨v',w',vs,bW,Cm,xM,ub,Bo,W9,Kq⟩:=oU ht hi hz rfl J1 iu (ty:=ty) (qS hO hy hs hl) hyw TU;have:=sd hO (r:=r) (bD:=bD) (cg:=bD+1) (av:=av.take n) (ys:=ys) yi (λx hx=>(Zaq.1 hx).elim (λh=>eF x (ZaE h)) (hl x)) (.inr ⟨ho,zO,by omega⟩) Ga Cm (by rw[HG];exact ub) Bo W9 Kq;refine⟨v',w',_,bW,this.1,this.2, ?_⟩;simp only[aA];refine⟨?_,bD+1,e',i.size,av.take n++ys,by simp[cG],Zaf _,λ_=>by simp[Loc.iS]⟩;rcases ub with⟨_,a,rfl⟩|⟨g,cap,pa,rfl,_⟩<;>exact⟨_,_,_,rfl⟩
    |_=>simp[ho,cZ]at dq
  |_=>simp[cZ]at dq
def NZ(hO:ct base W M w0 ab w L){t e0:TypeId}{i:TypeInfo}(ht:P.underlying t=some (.slice e0))(hi:P.info? e0=some i)
  {x y:DV} (hx:aA w W ab L x xv) (hy:aA w W ab L y yv) (dq:(jN i.size ab x y).ok):
  ∃v w',(Builtin.copy_ #[t,t'] ty #[xv,yv]).run P w=.ok v w'/\ct base W M w0 (cG ab (jN i.size ab x y).put) w' L/\
   gP W ab L w (cG ab (jN i.size ab x y).put) L w'/\aA w' W (cG ab (jN i.size ab x y).put) L (jN i.size ab x y).val v:=by
 unfold jN at dq⊢;cases hs:fL ab y with
 |none=>simp[hs,cZ]at dq
 |some ys=>
  simp only[hs]at dq⊢;cases x with
  |bA r bD=>
   cases ho:ab r with
   |none=>simp[ho,cZ]at dq
   |some o=>
    cases o with
    |dT cg e iG av=>
     simp only[ho]at dq⊢;obtain⟨rfl,rfl,hl⟩:=dq;simp only[aA]at hx;obtain⟨_,qw,e2,Gy,lI,nH,_,mQ⟩:=hx;rw[ho]at nH;cases nH;have hv:=mQ rfl;subst hv;have hd:(av.length=0/\∃(a:Option Addr) (c:Nat),L.sl r=.slice a 0 c)\/∃g c,aX (L.sl r)=some g/\L.sl r=.slice (some ⟨g,0*i.size,none⟩) av.length c:=by
      obtain⟨_,_,_,P1⟩:=hO.ob r _ ho;rcases P1 with⟨rfl,a,ha⟩|⟨g,cap,pa,h1,h2,_⟩
      ·exact .inl ⟨rfl,a,0,ha⟩
      ·exact .inr ⟨g,cap,by rw[h1];simp[aX,ZaJ.1 h2],by rw[h1,ZcK]⟩
     obtain⟨w',h1,h2,h3⟩:=GB hO ht hi (t':=t') (ty:=ty) ho (lo:=0) (n:=av.length) (by omega) hd (qS hO hy hs hl) hl;exact⟨_,w',h1,h2,h3,by simp[aA,bj,goInt]⟩
    |_=>simp[ho,cZ]at dq
  |u9 r bD lo n=>
   cases ho:ab r with
   |none=>simp[ho,cZ]at dq
   |some o=>
    cases o with
    |dT cg e iG av=>
     simp only[ho]at dq⊢;obtain⟨rfl,rfl,hl⟩:=dq;simp only[aA]at hx;obtain⟨_,qw,e2,Gy,lI,nH,_,mQ⟩:=hx;rw[ho]at nH;cases nH;have hv:=mQ rfl;have hd:(n=0/\∃(a:Option Addr) (c:Nat),xv=.slice a 0 c)\/∃g c,aX (L.sl r)=some g/\xv=.slice (some ⟨g,lo*i.size,none⟩) n c:=by
      rcases uf hO ho hv with h|⟨g,c,h1,h2,_⟩
      ·exact .inl h
      ·exact .inr ⟨g,c,h1,h2⟩
     obtain⟨w',h1,h2,h3⟩:=GB hO ht hi (t':=t') (ty:=ty) ho hv.1 hd (qS hO hy hs hl) hl;exact⟨_,w',h1,h2,h3,by simp[aA,bj,goInt]⟩
    |_=>simp[ho,cZ]at dq
  |_=>simp[cZ]at dq
def jC{α:Type}(l:List α):∀(n j:Nat),j<n*l.length->(List.replicate n l).flatten[j]? =l[j % l.length]?
 |0,j,h=>by simp at h
 |n+1,j,h=>by
  simp only[ZaY,Zbu];by_cases hj:j<l.length
  ·rw[Zbc hj,ZcH hj]
  ·rw[Za9 (by omega),jC l n (j-l.length) (by rw[Nat.add_mul]at h;omega)];rw[Nat.mod_eq_sub_mod (a:=j) (by omega)]
def xX(z:Array Value)(n:Nat):(madeCells z (n*z.size)).toList=(List.replicate n z.toList).flatten:=by
 apply ZbN;intro j;by_cases hj:j<n*z.size
 ·have hz:0<z.size:=by
   rcases ZcY z.size with h|h
   ·rw[h]at hj;simp at hj
   ·exact h
  rw[jC z.toList n j (by simpa using hj)];have hm:=Nat.mod_lt j hz;simp[madeCells,hj,hm]
 ·rw[Zbs (by simp[size_madeCells];omega),Zbs (by simp;omega)]
def uh{zero:aK}{zs:List Value}(h:du w W zero zs):∀n,du w W (List.replicate n zero).flatten (List.replicate n zs).flatten
 |0=>by simp[du]
 |n+1=>by simpa [ZaY]using du.append h (uh h n)
def new_arr(hO:ct base W M w0 ab w L)(hr:ab r=none){e:Nat}(yi:0<sz)(z8:∀x∈av,x.length=sz){c:Array Value}(oj:c.size=av.length*sz)
  (hc:du w (WW W ab L) av.flatten c.toList) (hmax:av.length<=maxLen):
  ct base W M w0 (cG ab (some (r,.dT 0 e sz av))) (w.alloc (.cells c e)) (L.iS r (.slice (some ⟨w.heap.size,0,none⟩) av.length av.length))/\
   gP W ab L w (cG ab (some (r,.dT 0 e sz av))) (L.iS r (.slice (some ⟨w.heap.size,0,none⟩) av.length av.length)) (w.alloc (.cells c e)):=by
 have hb:=kW (w:=w) (.cells c e);refine ct.put hO (xW hO.fr hb) hb.size (λx hx=>⟨rfl,by simp[Loc.iS,hx]⟩) rfl (λb ln _=>hb.block b ln) (λb h=>.inr ?_)
  (λo' h _=>by rw[hr]at h;cases h) (λ_ _ _ _ h=>by rw[hr]at h;cases h) (λeZ=>?_)
 ·simp only[Loc.own,Loc.iS,if_true,aX]at h;split at h
  ·cases h
  ·simp only[Zaa]at h;omega
 ·refine⟨yi,z8,λg hg=>?_, ?_⟩
  ·simp only[Loc.iS,if_true,aX]at hg;split at hg
   ·cases hg
   ·simp only[Zaa]at hg;subst hg;exact .inl (ZaP hO.fr.jq hO.fr.size)
  ·simp only[Loc.iS,if_true];by_cases h0:av.length=0
   ·refine .inl ⟨ZaD h0,some ⟨w.heap.size,0,none⟩,by rw[h0]⟩
   ·refine .inr ⟨w.heap.size,av.length,c,rfl,by omega,heap_alloc_new w _,Zaf _,hmax,oj, ?_⟩;rw[ZaX (by simp[oj])];exact du.bi eZ.dx.toKeepsC eZ.sub _ _ hc
def Dj(hO:ct base W M w0 ab w L){t e:TypeId}{i:TypeInfo}(ht:P.underlying t=some (.slice e))(hi:P.info? e=some i)(hz:i.zero=some z)(yi:0<i.size)
   (ui:z.cells.toList.mapM sb=some zero) (vx:ab name=none) {x:DV} (hx:aA w W ab L x xv) (dq:(lH e i.size i.bytes zero name x).ok):
  ∃v w' L',(Instr.makeSlice t xv xv).run P w=.ok v w'/\ct base W M w0 (cG ab (lH e i.size i.bytes zero name x).put) w' L'/\
   gP W ab L w (cG ab (lH e i.size i.bytes zero name x).put) L' w'/\aA w' W (cG ab (lH e i.size i.bytes zero name x).put) L' (lH e i.size i.bytes zero name x).val v:=by
 cases x with
 |v t'=>
  cases t' with
  |int k n=>
   simp only[aA,bj]at hx;subst hx;simp only[lH]at dq⊢;obtain⟨h0,XJ,hb,hm⟩:=dq;have hzz:=tn (w:=w) (W:=WW W ab L) ui;have J1:z.cells.size=i.size:=by have:=du.length hzz;simpa [XJ]using this
   have hbi:(i.bytes:Int)*n<=281474976710656:=by
    have e:(i.bytes:Int)*n=((n.toNat*i.bytes:Nat):Int):=by
     rw[Int.natCast_mul,Int.toNat_of_nonneg h0,Int.mul_comm]
    rw[e];omega
   have bW:=run_make (P:=P) w t e i z ht hi hz k k n n h0 (Zct _) hbi (by omega);have hc:(madeCells z.cells (n.toNat*i.size)).toList=(List.replicate n.toNat z.cells.toList).flatten:=by rw[<-J1];exact xX _ _
   have:=new_arr hO (e:=e) vx (av:=List.replicate n.toNat zero) yi (λx hx=>by rw[ZbI hx];exact XJ) (c:=madeCells z.cells (n.toNat*i.size)) (by simp[size_madeCells]) (by rw[hc];exact uh hzz _) (by simp only[Zby,maxLen];omega);simp only[Zby]at this;refine⟨_,_,_,bW,this.1,this.2, ?_⟩;simp only[aA];exact⟨⟨_,_,_,rfl⟩,0,e,i.size,List.replicate n.toNat zero,by simp[cG],Zaf _,λ_=>by simp[Loc.iS]⟩
  |_=>simp[lH,cZ]at dq
 |_=>simp[lH,cZ]at dq
def N1{ts:aK}:∀{zs:List Value},zs.mapM sb=some ts->aQ w W ab L (ts.map Gx) zs:=by
 induction ts with
 |nil=>
  intro zs h;cases zs with
  |nil=>simp[aQ]
  |cons z zs=>simp[Za7,Zad]at h
 |cons t ts ih=>
  intro zs h;cases zs with
  |nil=>simp at h
  |cons z zs=>
   simp only[Za7,Zao,Zaj,Zad,Zaa,Za1]at h;obtain⟨t',ht,ts',Kr,rfl,rfl⟩:=h;simp only[ZaA,aQ];have hr:=Dg (w:=w) (W:=WW W ab L) ht;refine⟨z,zs,rfl,hr.2.1, ?_,ih Kr⟩;unfold Gx;split
   ·unfold sb at ht;split at ht<;>first|(cases ht;done)|skip
    all_goals first
     |(simp only[aA];exact⟨_,rfl⟩)
     |(cases ht)
   ·simp only[aA];exact hr.1
def tq{zero:bB}{zs:List Value}(h:aQ w W ab L zero zs):∀n,aQ w W ab L (List.replicate n zero).flatten (List.replicate n zs).flatten
 |0=>by simp[aQ]
 |n+1=>by simpa [ZaY]using aQ.append h (tq h n)
def Bp(hO:ct base W M w0 ab w L){t e:TypeId}{i:TypeInfo}(ht:P.underlying t=some (.slice e))(hi:P.info? e=some i)(hz:i.zero=some z)
   (ui:z.cells.toList.mapM sb=some zero) (vx:ab name=none) {x:DV} (hx:aA w W ab L x xv) (dq:(gh i.size i.bytes zero name x).ok):
  ∃v w' L',(Instr.makeSlice t xv xv).run P w=.ok v w'/\ct base W M w0 (cG ab (gh i.size i.bytes zero name x).put) w' L'/\
   gP W ab L w (cG ab (gh i.size i.bytes zero name x).put) L' w'/\aA w' W (cG ab (gh i.size i.bytes zero name x).put) L' (gh i.size i.bytes zero name x).val v:=by
 cases x with
 |v t'=>
  cases t' with
  |int k n=>
   simp only[aA,bj]at hx;subst hx;simp only[gh]at dq⊢;obtain⟨h0,XJ,hb,hm⟩:=dq;have hzz:=N1 (w:=w) (W:=W) (ab:=ab) (L:=L) ui;have J1:z.cells.size=i.size:=by have:=aQ.length hzz;simpa [XJ]using this
   have hbi:(i.bytes:Int)*n<=281474976710656:=by
    have e:(i.bytes:Int)*n=((n.toNat*i.bytes:Nat):Int):=by
     rw[Int.natCast_mul,Int.toNat_of_nonneg h0,Int.mul_comm]
    rw[e];omega
   have bW:=run_make (P:=P) w t e i z ht hi hz k k n n h0 (Zct _) hbi (by omega);have hc:(madeCells z.cells (n.toNat*i.size)).toList=(List.replicate n.toNat z.cells.toList).flatten:=by rw[<-J1];exact xX _ _
   have:=HO hO vx (c:=madeCells z.cells (n.toNat*i.size)) e (cs:=(List.replicate n.toNat (zero.map Gx)).flatten) (by rw[hc];exact tq hzz _);refine⟨_,_,_,bW,this.1,this.2, ?_⟩;simp only[aA];exact⟨⟨(List.replicate n.toNat (zero.map Gx)).flatten,by simp[cG]⟩,by simp[Loc.g6]⟩
  |_=>simp[gh,cZ]at dq
 |_=>simp[gh,cZ]at dq
end
end
end Go.DM
namespace Go.DM
open Go.RowKit
variable [bI]
section
def iH(P:Program)(rec:TypeId->Option (List Sh))(off:Nat):List Field->Option (List Sh)
 |[]=>some []
 |f::fs=>
  match rec f.type,P.info? f.type with
  |some s,some i=>if f.name≠ "_" /\f.offset=off/\s.length=i.size then(iH P rec (off+s.length) fs).map (s++·)else none
  |_,_=>none
def lp(P:Program):Nat->TypeId->Option (List Sh)
 |0,_=>none
 |d+1,t=>
  match P.underlying t with
  |some .bool=>some [.bool]
  |some (.int k)=>some [.int k]
  |some .string=>some [.str]
  |some (.struct fs)=>if P.stoodInHeld t then none else iH P (lp P d) 0 fs.toList
  |some (.array n e)=>
   match lp P d e,P.info? e with
   |some s,some i=>if s.length=i.size/\0<i.size then some ((List.replicate n s).flatten)else none
   |_,_=>none
  |_=>none
def fit:Sh->Value->Bool
 |.bool,.bool _=>true
 |.int k,.int k' _=>k==k'
 |.str,.string _=>true
 |_,_=>false
def vy:List Sh->List Value->Prop
 |[],vs=>vs=[]
 |s::ss,vs=>∃v EY,vs=v::EY/\fit s v=true/\vy ss EY
def veq:Value->Value->Bool
 |.bool a,.bool b=>a==b
 |.int _ a,.int _ b=>a==b
 |.string a,.string b=>a.toList==b.toList
 |_,_=>false
def mz:List Value->List Value->Bool
 |[],[]=>true
 |a::as,b::bs=>veq a b&&mz as bs
 |_,_=>false
def vy.length:∀{ss:List Sh} {vs:List Value},vy ss vs->vs.length=ss.length
 |[],_,h=>by simp only[vy]at h;simp[h]
 |_::ss,_,h=>by
  simp only[vy]at h;obtain⟨v,EY,rfl,_,h⟩:=h;simp[vy.length h]
def vy.split:∀{s1 s2:List Sh} {vs:List Value},vy (s1++s2) vs->vy s1 (vs.take s1.length)/\vy s2 (vs.drop s1.length)
 |[],s2,vs,h=>by simpa [vy]using h
 |s::s1,s2,vs,h=>by
  simp only[ZaM,vy]at h;obtain⟨v,EY,rfl,h1,h⟩:=h;have:=vy.split h;simp only[Za5,Zcf,List.drop_succ_cons,vy];exact⟨⟨v,_,rfl,h1,this.1⟩,this.2⟩
def uj:∀{a b c d:List Value},a.length=c.length->mz (a++b) (c++d)=(mz a c&&mz b d)
 |[],b,[],d,_=>by simp[mz]
 |x::a,b,[],d,h=>by simp at h
 |[],b,y::c,d,h=>by simp at h
 |x::a,b,y::c,d,h=>by
  simp only[ZaM,mz];rw[uj (by simpa using h),Bool.and_assoc]
def zP(d:TypeDesc)(vs:List Value):Value:=if b8 d then .agg vs.toArray else vs.getD 0 Go.undef
section
variable{P:Program}
def m9(w:World){t:TypeId}{d:TypeDesc}{i:TypeInfo}(hd:P.underlying t=some d)(hi:P.info? t=some i){xs:List Value}{off:Nat}(h1:b8 d=true\/i.size=1)(hl:off+i.size<=xs.length):
  (part t xs.toArray off).run P w=.ok (zP d ((xs.drop off).take i.size)) w:=by
 have Nz:(isAgg t).run P w=.ok (b8 d) w:=by rw[Gz hd];cases d<;>rfl
 simp only[part,Sem.run_bind,Nz,Result.andThen_ok];by_cases ha:b8 d=true
 ·simp only[ha,if_true,Sem.run_bind,run_sizeOf hi,Result.andThen_ok,Sem.run_pure,zP]
  congr 3
  simp only[List.extract_toArray,List.extract_eq_take_drop]
  congr 2
  omega
 ·have h2:=h1.resolve_left ha;have ln:off<xs.length:=by omega
  simp only[ha,zP,h2];simp[ln]
def Cn{d:Nat}{t:TypeId}{cj:List Sh}(h:lp P (d+1) t=some cj):∃desc,P.underlying t=some desc/\(b8 desc=true\/cj.length=1):=by
 simp only[lp]at h;split at h
 ·rename_i hu;exact⟨_,hu,.inr (by simp at h;simp[<-h])⟩
 ·rename_i hu;exact⟨_,hu,.inr (by simp at h;simp[<-h])⟩
 ·rename_i hu;exact⟨_,hu,.inr (by simp at h;simp[<-h])⟩
 ·rename_i hu;exact⟨_,hu,.inl rfl⟩
 ·rename_i hu;exact⟨_,hu,.inl rfl⟩
 ·cases h
def XK{d:Nat}{e:TypeId}{de:TypeDesc}{s:List Sh}{i:TypeInfo}(hd:P.underlying e=some de)(hi:P.info? e=some i)(h1:b8 de=true\/i.size=1)(hs:s.length=i.size)(Gc:0<i.size)
  (ih:∀(xs ys:List Value) (w:World),vy s xs->vy s ys->(Op.equalIn d e (zP de xs) (zP de ys)).run P w=.ok (mz xs ys) w) (xs ys:List Value):
  ∀(n k:Nat) (w:World),vy ((List.replicate n s).flatten) (xs.drop (k*i.size))->vy ((List.replicate n s).flatten) (ys.drop (k*i.size))->
   (forIn (List.range' k n) (none,()) (λj (_:Option Bool×Unit)=>do
     let a<-part e xs.toArray (j*i.size)
     let b<-part e ys.toArray (j*i.size)
     let r<-Op.equalIn d e a b
     if(!r)=true then pure (ForInStep.done (some false,()))else pure (ForInStep.yield (none,()))):Sem (Option Bool×Unit)).run P w=
    .ok (if mz (xs.drop (k*i.size)) (ys.drop (k*i.size))then(none,())else(some false,())) w
 |0,k,w,hx,hy=>by
  simp only[Zcg,List.flatten_nil,vy]at hx hy;simp[hx,hy,mz]
 |n+1,k,w,hx,hy=>by
  simp only[ZaY,Zbu]at hx hy;have Gb:=vy.length hx;have zW:=vy.length hy;simp only[ZaK,Zbo]at Gb zW;obtain⟨HS,qr⟩:=vy.split hx;obtain⟨lq,fJ⟩:=vy.split hy;have e2:k*i.size+s.length=(k+1)*i.size:=by rw[Nat.add_mul,hs];omega
  rw[List.drop_drop,e2]at qr fJ;have P2:0<i.size:=Gc;have p1:=λw=>m9 (P:=P) w hd hi (xs:=xs) (off:=k*i.size) h1 (by omega);have p2:=λw=>m9 (P:=P) w hd hi (xs:=ys) (off:=k*i.size) h1 (by omega);rw[hs]at HS lq;have hr:=ih _ _ w HS lq;have Aa:mz (xs.drop (k*i.size)) (ys.drop (k*i.size))=(mz ((xs.drop (k*i.size)).take i.size) ((ys.drop (k*i.size)).take i.size)&&mz (xs.drop ((k+1)*i.size)) (ys.drop ((k+1)*i.size))):=by
   have a1:xs.drop (k*i.size)=(xs.drop (k*i.size)).take i.size++xs.drop ((k+1)*i.size):=by
    rw[<-e2,hs,<-List.drop_drop,Zbr]
   have a2:ys.drop (k*i.size)=(ys.drop (k*i.size)).take i.size++ys.drop ((k+1)*i.size):=by
    rw[<-e2,hs,<-List.drop_drop,Zbr]
   rw[a1,a2,uj (by simp;omega)];rw[<-a1,<-a2]
  simp only[Zc2,ZcL,Sem.run_bind,p1,p2,Result.andThen_ok,hr];rw[Aa];cases hb:mz ((xs.drop (k*i.size)).take i.size) ((ys.drop (k*i.size)).take i.size)
  ·simp
  ·have:=XK hd hi h1 hs Gc ih xs ys n (k+1) w qr fJ;simp only[Zcs,ZaW,if_false,Sem.run_pure,Result.andThen_ok,ZcF];exact this
def GC{d:Nat}(ih:∀(t:TypeId) (cj:List Sh) (desc:TypeDesc),lp P d t=some cj->P.underlying t=some desc->∀(xs ys:List Value) (w:World),vy cj xs->vy cj ys->(Op.equalIn d t (zP desc xs) (zP desc ys)).run P w=.ok (mz xs ys) w)
  (Ks:∀(t:TypeId) (cj:List Sh),lp P d t=some cj->∃desc,P.underlying t=some desc/\(b8 desc=true\/cj.length=1)) (xs ys:List Value):
  ∀(fs:List Field) (off:Nat) (cj:List Sh) (w:World),iH P (lp P d) off fs=some cj->vy cj (xs.drop off)->vy cj (ys.drop off)->off<=xs.length->off<=ys.length->
   (Op.eqFields d xs.toArray ys.toArray fs).run P w=.ok (mz (xs.drop off) (ys.drop off)) w
 |[],off,cj,w,h,hx,hy,_,_=>by
  simp only[iH,Zaa]at h;subst h;simp only[vy]at hx hy;simp[Op.eqFields,hx,hy,mz]
 |f::fs,off,cj,w,h,hx,hy,hox,hoy=>by
  simp only[iH]at h;split at h
  ·rename_i s i hs hi;split at h
   ·rename_i hc;obtain⟨hn,rfl,yi⟩:=hc;simp only[Zac]at h;obtain⟨rest,Kt,rfl⟩:=h;obtain⟨desc,hd,h1⟩:=Ks _ _ hs;have Gb:=vy.length hx;have zW:=vy.length hy;simp only[ZaK,Zbo]at Gb zW;obtain⟨HS,qr⟩:=vy.split hx;obtain⟨lq,fJ⟩:=vy.split hy;rw[List.drop_drop]at qr fJ;rw[yi]at h1;have p1:=λw=>m9 (P:=P) w hd hi (xs:=xs) (off:=f.offset) h1 (by omega);have p2:=λw=>m9 (P:=P) w hd hi (xs:=ys) (off:=f.offset) h1 (by omega);have hr:=ih _ _ _ hs hd _ _ w HS lq;rw[yi]at hr;have Aa:mz (xs.drop f.offset) (ys.drop f.offset)=(mz ((xs.drop f.offset).take i.size) ((ys.drop f.offset).take i.size)&&mz (xs.drop (f.offset+s.length)) (ys.drop (f.offset+s.length))):=by
     have a1:xs.drop f.offset=(xs.drop f.offset).take i.size++xs.drop (f.offset+s.length):=by rw[yi,<-List.drop_drop,Zbr]
     have a2:ys.drop f.offset=(ys.drop f.offset).take i.size++ys.drop (f.offset+s.length):=by rw[yi,<-List.drop_drop,Zbr]
     rw[a1,a2,uj (by simp;omega)];rw[<-a1,<-a2]
    simp only[Op.eqFields,hn,ne_eq,not_false_eq_true,if_true,Sem.run_bind,p1,p2,Result.andThen_ok,hr];rw[Aa];cases hb:mz ((xs.drop f.offset).take i.size) ((ys.drop f.offset).take i.size)
    ·simp
    ·simp only[Zcs,ZaW,if_false,ZcF];exact GC ih Ks xs ys fs _ rest w Kt qr fJ (by omega) (by omega)
   ·cases h
  ·cases h
def se:∀(d:Nat) (t:TypeId) (cj:List Sh) (desc:TypeDesc),lp P d t=some cj->P.underlying t=some desc->∀(xs ys:List Value) (w:World),vy cj xs->vy cj ys->
  (Op.equalIn d t (zP desc xs) (zP desc ys)).run P w=.ok (mz xs ys) w
 |0,t,cj,desc,h,_,_,_,_,_,_=>by simp[lp]at h
 |d+1,t,cj,desc,h,hu,xs,ys,w,hx,hy=>by
  simp only[lp,hu]at h;have one:∀{s:Sh} {zs:List Value},vy [s] zs->∃v,zs=[v]/\fit s v=true:=by
   intro s zs hz;simp only[vy]at hz;obtain⟨v,EY,rfl,h1,rfl⟩:=hz;exact⟨v,rfl,h1⟩
  cases desc;case bool=>
   simp only[Zaa]at h;subst h;obtain⟨x,rfl,gx⟩:=one hx;obtain⟨y,rfl,gy⟩:=one hy;cases x<;>first|exact Zar gx ZaL|skip
   cases y<;>first|exact Zar gy ZaL|skip
   simp[zP,b8,mz,veq,Op.equalIn,run_underlying hu]
  case int k=>
   simp only[Zaa]at h;subst h;obtain⟨x,rfl,gx⟩:=one hx;obtain⟨y,rfl,gy⟩:=one hy;cases x<;>first|exact Zar gx ZaL|skip
   simp only[fit,beq_iff_eq]at gx;cases y<;>first|exact Zar gy ZaL|skip
   simp only[fit,beq_iff_eq]at gy;subst gx gy;simp[zP,b8,mz,veq,Op.equalIn,run_underlying hu]
  case string=>
   simp only[Zaa]at h;subst h;obtain⟨x,rfl,gx⟩:=one hx;obtain⟨y,rfl,gy⟩:=one hy;cases x<;>first|exact Zar gx ZaL|skip
   cases y<;>first|exact Zar gy ZaL|skip
   simp[zP,b8,mz,veq,Op.equalIn,run_underlying hu,beq_toListBytes]
  case struct fs=>
   replace h:(if P.stoodInHeld t then none else iH P (lp P d) 0 fs.toList)=some cj:=h
   split at h
   ·cases h
   ·rename_i hp;have hfo:P.fieldsOf t=fs:=by simp[Program.fieldsOf,hu]
    simp only[zP,b8,if_true];rw[run_equalIn_struct w d t _ _ (by rw[hfo];exact hu) (by simpa using hp),hfo];have:=GC (λt cj desc=>se d t cj desc) (λt cj hs=>by
     cases d with
     |zero=>simp[lp]at hs
     |succ d=>exact Cn hs) xs ys fs.toList 0 cj w h (by simpa using hx) (by simpa using hy) (by omega) (by omega)
    simpa using this
  case array n e=>
   replace h:(match lp P d e,P.info? e with
    |some s,some i=>if s.length=i.size/\0<i.size then some ((List.replicate n s).flatten)else none
    |_,_=>none)=some cj:=h
   split at h
   ·rename_i s i hs hi;split at h
    ·rename_i hc;simp only[Zaa]at h;subst h;have hde:∃desc,P.underlying e=some desc/\(b8 desc=true\/s.length=1):=by
      cases d with
      |zero=>simp[lp]at hs
      |succ d=>exact Cn hs
     obtain⟨de,hd,h1⟩:=hde;rw[hc.1]at h1;have:=XK hd hi h1 hc.1 hc.2 (λxs ys w=>se d e s de hs hd xs ys w) xs ys n 0 w (by simpa using hx) (by simpa using hy);simp only[zP,b8,if_true,Op.equalIn,Sem.run_bind,run_underlying hu,Result.andThen_ok,run_sizeOf hi,Std.Legacy.Range.forIn_eq_forIn_range',Std.Legacy.Range.size,Zcb,Zcz,Nat.div_one];simp only[ZcK,Zcn]at this;refine(congrArg (λr=>Result.andThen r _) this).trans ?_;cases mz xs ys<;>rfl
    ·cases h
   ·cases h
  all_goals exact Zar h (by simp)
end
end
section
def sf(l:List (Nat×Operand))(place:Nat->Option (Nat×Nat)):Option (List (Nat×Nat×bQ)):=
 l.mapM λp=>do
  let q<-place p.1
  let x<-bQ.of p.2
  pure (q.1,q.2,x)
def qf(P:Program)(t:TypeId):Option (Nat->Option (Nat×Nat)):=
 match P.underlying t with
 |some (.struct fields)=>(fields.toList.mapM λf=>(P.info? f.type).map λi=>(f.offset,i.size)).map λpl k=>pl[k]?
 |some (.array _ e)=>(P.info? e).map λie k=>some (k*ie.size,ie.size)
 |_=>none
def Dk:Option Operand->Option (Option bQ)
 |none=>some none
 |some x=>(bQ.of x).map some
def xY:TypeDesc->bQ->Option Nat
 |.slice _,.gN .aW=>some 0
 |.pointer _,.gN (.v (.mg (.pointer none)))=>some 1
 |.func _ _ _,.gN (.v (.mg .nilFunc))=>some 2
 |_,_=>none
def il(P:Program)(k:TypeId):Option (List Sh×Bool):=
 match P.underlying k,lp P 10000 k with
 |some d,some s=>some (s,b8 d)
 |_,_=>none
def GD(P:Program)(e:TypeId):Option DV:=do
 let i<-P.info? e
 let z<-i.zero
 match z with
 |.agg cs=>(cs.toList.mapM my).map .agg
 |z=>my z
def mA(P:Program)(op:BinOp)(t:TypeId)(x y:bQ):Option rO:=
 match P.underlying t with
 |some (.int _)=>match op with
  |.add|.sub|.mul|.quo|.rem|.eql|.neq|.lss|.leq|.gtr|.geq|.shl|.shr|.and|.or|.xor=>some (.bin op x y)
  |_=>none
 |some d=>match op,lp P 10000 t with
  |.eql,some cj=>if P.eqGuardType P.depth t then none else some (.eqT false (b8 d) cj x y)
  |.neq,some cj=>if P.eqGuardType P.depth t then none else some (.eqT true (b8 d) cj x y)
  |.eql,none=>(xY d y).map λk=>.isNil k false x
  |.neq,none=>(xY d y).map λk=>.isNil k true x
  |_,_=>none
 |none=>none
def eG(P:Program)(c:Call):Option rO:=
 match c.callee with
 |.value (.func f)=>match P.funcs[f]? with
  |some fn=>if fn.name= "runtime.NumGoroutine" \/fn.body.isNone then none else(c.args.toList.mapM bQ.of).map (.call f)
  |none=>none
 |.value (.tmp t)=>(c.args.toList.mapM bQ.of).map (.callv (.tmp t))
 |.builtin .len=>match c.args.toList,c.argTypes.toList with
  |[x],[t]=>match P.underlying t with
   |some (.slice _)=>(bQ.of x).map .len
   |some .string=>(bQ.of x).map .lenS
   |some (.map _ _)=>(bQ.of x).map .lenM
   |_=>none
  |_,_=>none
 |.builtin .copy=>match c.args.toList,c.argTypes.toList with
  |[x,y],[t,_]=>match P.underlying t with
   |some (.slice e)=>match P.info? e with
    |some i=>do return .copy i.size (<-bQ.of x) (<-bQ.of y)
    |none=>none
   |_=>none
  |_,_=>none
 |.builtin .delete=>match c.args.toList,c.argTypes.toList with
  |[x,k],t::_=>match P.underlying t with
   |some (.map kt _)=>match il P kt with
    |some ki=>do return .mapDel ki.1 ki.2 (<-bQ.of x) (<-bQ.of k)
    |none=>none
   |_=>none
  |_,_=>none
 |.builtin .min=>match c.args.toList with
  |[x,y]=>do return .minmax false (<-bQ.of x) (<-bQ.of y)
  |_=>none
 |.builtin .max=>match c.args.toList with
  |[x,y]=>do return .minmax true (<-bQ.of x) (<-bQ.of y)
  |_=>none
 |.builtin .append=>match c.args.toList,c.argTypes.toList with
  |[x,y],[t,t']=>if t≠t' then none else match P.underlying t with
   |some (.slice e)=>match P.info? e with
    |some i=>match i.zero with
     |some z=>if z.cells.size=i.size/\0<i.size then do return .append e i.size i.bytes (<-bQ.of x) (<-bQ.of y)else none
     |none=>none
    |none=>none
   |_=>none
  |_,_=>none
 |_=>none
def dz(P:Program)(o:Oper):Option rO:=
 match o.op with
 |.move x|.assign x=>(bQ.of x).map .qu
 |.pick c a b=>do return .pick (<-bQ.of c) (<-bQ.of a) (<-bQ.of b)
 |.alloc e=>do
  let i<-P.info? e
  let z<-i.zero
  return .alloc (<-z.cells.toList.mapM my)
 |.box _ x=>(bQ.of x).map .box
 |.build t parts=>do
  let i<-P.info? t
  let z<-i.zero
  let zs<-z.cells.toList.mapM my
  let pl<-qf P t
  return .build zs (<-sf parts.toList pl)
 |.buildSlice t len parts=>
  match P.underlying t with
  |some (.slice e)=>do
   let ei<-P.info? e
   if len*ei.size>2^24\/ei.size=0 then none else
   let z<-ei.zero
   let zs<-(((Array.range (len*ei.size)).map (z.cells[· % z.cells.size]!)).toList).mapM my
   return .bslice len ei.size zs (<-sf parts.toList λk=>some (k*ei.size,ei.size))
  |_=>none
 |.load t a=>match P.underlying t,P.info? t with
  |some d,some i=>(bQ.of a).map (.load i.size (b8 d))
  |_,_=>none
 |.store t a x=>do
  let i<-P.info? t
  return .store i.size (<-bQ.of a) (<-bQ.of x)
 |.nilCheck x=>(bQ.of x).map .nilCheck
 |.binOp op t x y _=>do mA P op t (<-bQ.of x) (<-bQ.of y)
 |.unOp op _ x=>(bQ.of x).map (.un op)
 |.convert src dst x=>match P.underlying src,P.underlying dst with
  |some (.int _),some (.int k)=>(bQ.of x).map (.conv k)
  |_,_=>none
 |.fieldAddr s x f=>match P.underlying s with
  |some (.struct fs)=>match fs[f]? with
   |some fd=>match P.info? fd.type with
    |some fi=>if fi.size=0 then none else(bQ.of x).map (.addOff fd.offset)
    |none=>none
   |none=>none
  |_=>none
 |.field s x f=>match P.underlying s with
  |some (.struct fs)=>match fs[f]? with
   |some fd=>match P.info? fd.type,P.underlying fd.type with
    |some fi,some d=>(bQ.of x).map (.field fd.offset fi.size (b8 d))
    |_,_=>none
   |none=>none
  |_=>none
 |.indexAddr t x ix=>match P.underlying t with
  |some (.slice e)=>match P.info? e with
   |some i=>do return .idxAddr i.size (<-bQ.of x) (<-bQ.of ix)
   |none=>none
  |some (.array n e)=>match P.info? e with
   |some i=>do return .arrAddr n i.size (<-bQ.of x) (<-bQ.of ix)
   |none=>none
  |_=>none
 |.slice t x lo hi none=>match P.underlying t with
  |some (.slice e)=>match P.info? e with
   |some i=>do return .slice i.size (<-bQ.of x) (<-Dk lo) (<-Dk hi)
   |none=>none
  |_=>none
 |.extract t i=>(bQ.of t).map (.extract i)
 |.makeSlice t l c=>match P.underlying t with
  |some (.slice e)=>match P.info? e with
   |some i=>match i.zero with
    |some z=>match l,c with
     |.tmp a,.tmp b=>if a=b/\0<i.size then do return .mkSlice e i.size i.bytes (<-z.cells.toList.mapM sb) (.tmp a)else none
     |.const (.int k a),.const (.int k' b)=>if a=b/\k=k'/\0<i.size then do return .mkSlice e i.size i.bytes (<-z.cells.toList.mapM sb) (.gN (.v (.int k a)))else none
     |_,_=>none
    |none=>none
   |none=>none
  |_=>none
 |.makeFunc f first bY=>if first.isEmpty then do return .mkFn f (<-bY.toList.mapM bQ.of)else none
 |.call c=>eG P c
 |.makeMap t none=>match P.underlying t with
  |some (.map kt _)=>(il P kt).map λki=>.mkMap ki.1 ki.2
  |_=>none
 |.lookup t x k ok=>match P.underlying t with
  |some (.map kt e)=>match il P kt,GD P e with
   |some ki,some z=>do return .lookup ki.1 ki.2 z ok (<-bQ.of x) (<-bQ.of k)
   |_,_=>none
  |_=>none
 |.mapUpdate t x k y=>match P.underlying t with
  |some (.map kt _)=>match il P kt with
   |some ki=>do return .mapUpd ki.1 ki.2 (<-bQ.of x) (<-bQ.of k) (<-bQ.of y)
   |none=>none
  |_=>none
 |.mapEntry t x k=>match P.underlying t with
  |some (.map kt e)=>match il P kt,GD P e with
   |some ki,some z=>do return .mapEnt ki.1 ki.2 z (<-bQ.of x) (<-bQ.of k)
   |_,_=>none
  |_=>none
 |.entryStore _ x s y=>do return .entSt (<-bQ.of x) (<-bQ.of s) (<-bQ.of y)
 |.range t x=>match P.underlying t with
  |some (.map _ _)=>(bQ.of x).map .rangeM
  |_=>none
 |.entry x=>(bQ.of x).map .entryM
 |.index t x i=>match P.underlying t with
  |some .string=>do return .indexS (<-bQ.of x) (<-bQ.of i)
  |_=>none
 |.panic _|.makeInterface .. =>some .fail
 |_=>none
section
variable{w:World}{W:fo}{ab:bq}{L:Loc}
def GF(off:Nat):∀(vs:List Value) (j0:Nat) (cs:Array Value),off+j0+vs.length<=cs.size->
  (vs.zipIdx j0).foldl (λcs (x:Value×Nat)=>cs.setIfInBounds (off+x.2) x.1) cs=(cy cs.toList (off+j0) vs).toArray
 |[],j0,cs,_=>by simp[cy]
 |v::vs,j0,cs,h=>by
  simp only[Za5]at h;simp only[ZcI,ZaN];rw[GF off vs (j0+1) _ (by simp;omega)]
  congr 1
  simp only[cy,Array.toList_setIfInBounds,Za5];have e:=list_seg_step cs.toList (off+j0) v vs (by simp;omega);simpa [Nat.add_assoc]using e
def Dl{a:Act}{ρ:dw}(hg:F2 w (WW W ab L))(jw:∀t,aA w W ab L (ρ t) (a.tmps.getD t Go.undef)){place:Nat->Option (Nat×Nat)}:∀(ps:List (Nat×Operand)) (qs:List (Nat×Nat×bQ)),sf ps place=some qs->
  ∀(cells:Array Value) (ds:bB),aQ w W ab L ds cells.toList->t8 cells.size (qs.map λp=>(p.1,p.2.1,p.2.2.ev ρ))->
   ∃qg,Instr.fill place cells (ps.map λp=>(p.1,a.eval p.2))=some qg/\aQ w W ab L (vZ ds (qs.map λp=>(p.1,p.2.1,p.2.2.ev ρ))) qg.toList/\qg.size=cells.size
 |[],qs,h,cells,ds,hd,_=>by
  simp[sf]at h;subst h;exact⟨cells,rfl,by simpa [vZ]using hd,rfl⟩
 |p::ps,qs,h,cells,ds,hd,dq=>by
  simp only[sf,Za7,Zao,Zaj,Zad,Zaa]at h;obtain⟨q,⟨pl,Vj,x,hx,rfl⟩,qs',hqs,rfl⟩:=h;simp only[ZaA,t8]at dq;obtain⟨hl,qe,Cl,Kt⟩:=dq;have hv:=bQ.bP hg jw hx;have oj:=qx hv Cl;have aT:(a.eval p.2).cells.size=pl.2:=by have:=aQ.length oj;simpa [hl]using this
  have Dm:((a.eval p.2).cells.zipIdx.foldl (λcs (x:Value×Nat)=>cs.setIfInBounds (pl.1+x.2) x.1) cells)=(cy cells.toList pl.1 (a.eval p.2).cells.toList).toArray:=by
   rw[<-Array.foldl_toList,Array.toList_zipIdx];have:=GF pl.1 (a.eval p.2).cells.toList 0 cells (by simp[aT];omega);simpa using this
  have hd':aQ w W ab L (cy ds pl.1 (cellsOf (x.ev ρ))) (cy cells.toList pl.1 (a.eval p.2).cells.toList).toArray.toList:=by
   simpa using aQ.cy pl.1 hd oj
  have yi:(cy cells.toList pl.1 (a.eval p.2).cells.toList).toArray.size=cells.size:=by
   have:=g5 (l:=cells.toList) (new:=(a.eval p.2).cells.toList) (off:=pl.1) (by simp[aT];omega);simpa using this
  obtain⟨qg,h1,h2,h3⟩:=Dl hg jw ps qs' (by simpa [sf]using hqs) _ _ hd' (by rw[yi];exact Kt);refine⟨qg, ?_,by simpa only[ZaA,vZ]using h2,h3.trans yi⟩;simp only[ZaA,Instr.fill,Vj,aT];rw[Zab (by simp;omega),Dm];exact h1
def uk{P:Program}(w:World){t e:TypeId}{i:TypeInfo}{z:Value}(ht:P.underlying t=some (.slice e))(hi:P.info? e=some i)(hz:i.zero=some z)(len:Nat)(dM:¬len*i.size>2^24){parts:Array (Nat×Value)}{cells:Array Value}
  (h:Instr.fill (λk=>some (k*i.size,i.size)) ((Array.range (len*i.size)).map (z.cells[· % z.cells.size]!)) parts.toList=some cells):
  (Instr.buildSlice t len parts).run P w=.ok (.slice (some ⟨w.heap.size,0,none⟩) len len) (w.alloc (.cells cells e)):=by
 by_cases h0:len*i.size=0
 ·have h':Instr.fill (λk=>some (k*i.size,i.size)) #[] parts.toList=some cells:=by
   rw[h0]at h;simpa [Array.range_zero']using h
  simp[Instr.buildSlice,run_underlying ht,run_sizeOf hi,h0,h',newRow,Array.range_zero']
 ·simp[Instr.buildSlice,run_underlying ht,run_sizeOf hi,zeroValue,typeInfo,hi,hz,h0,dM,h,newRow]
end
end
end Go.DM
namespace Go.DM
open Go.RowKit
section
variable{d1 d2 d:DV}{xv yv:Value}
variable [bI]
def cH(P:Program)(base:Nat)(W M:fo)(w0:World)(ab:bq)(L:Loc)(w:World)(a:Act)(o:Oper)(e:qO):Prop:=
 ∃nx v w' L',(execOp a.eval o).run P w=.ok nx w'/\(nx=.value v\/(nx=.skip/\v=Go.undef))/\
  ct base W M w0 (cG ab e.put) w' L'/\gP W ab L w (cG ab e.put) L' w'/\aA w' W (cG ab e.put) L' e.val v
section
variable{P:Program}{base:Nat}{W M:fo}{w0:World}{ab:bq}{L:Loc}{w:World}{a:Act}{o:Oper}
def cH.lJ(hO:ct base W M w0 ab w L){e:qO}(oV:e.put=none){v:Value}(bW:(execOp a.eval o).run P w=.ok (.value v) w)(hv:aA w W ab L e.val v):cH P base W M w0 ab L w a o e:=
 ⟨.value v,v,w,L,bW,.inl rfl,by rw[oV];exact hO,by rw[oV];exact gP.cQ (dg.refl _ _),by rw[oV];exact hv⟩
def cH.int(hO:ct base W M w0 ab w L){e:qO}(oV:e.put=none){k:IntKind}{n:Int}(c7:e.val=.v (.int k n))(bW:(execOp a.eval o).run P w=.ok (.value (.int k n)) w):cH P base W M w0 ab L w a o e:=
 cH.lJ hO oV bW (by rw[c7];simp[aA,bj])
def cH.bool(hO:ct base W M w0 ab w L){e:qO}(oV:e.put=none){b:Bool}(c7:e.val=.v (.bool b))(bW:(execOp a.eval o).run P w=.ok (.value (.bool b)) w):cH P base W M w0 ab L w a o e:=
 cH.lJ hO oV bW (by rw[c7];simp[aA,bj])
def Vk(hO:ct base W M w0 ab w L){op:BinOp}{t:TypeId}{x y:Operand}{yt:TypeId}(ho:o.op=.binOp op t x y yt)(h1:aA w W ab L d1 (a.eval x))(h2:aA w W ab L d2 (a.eval y))(dq:(ua op d1 d2).ok):
  cH P base W M w0 ab L w a o (ua op d1 d2):=by
 have key:∀{k k':IntKind} {p q:Int},d1=.v (.int k p)->d2=.v (.int k' q)->cH P base W M w0 ab L w a o (ua op d1 d2):=by
  rintro k k' p q rfl rfl;simp only[aA,bj]at h1 h2;have Dn:∀(v:Value),(eqGuard op t x y (.int k p) (.int k' q)).run P w=.ok () w->(binOp op t (.int k p) (.int k' q)).run P w=.ok v w->(execOp a.eval o).run P w=.ok (.value v) w:=by
   intro v e1 e2;simp[execOp,ho,h1,h2,e1,e2]
  have hg:(eqGuard op t x y (.int k p) (.int k' q)).run P w=.ok () w:=by cases op<;>simp[eqGuard]
  cases op<;>simp only[ua,cZ]at dq⊢
  all_goals first
   |exact dq.elim
   |(subst dq;first
     |(refine cH.int hO rfl rfl (Dn _ hg ?_);simp[binOp,Op.intArith];done)
     |(refine cH.int hO rfl rfl (Dn _ hg ?_);simp[binOp,Op.intBits];done)
     |(refine cH.bool hO rfl rfl (Dn _ hg ?_);simp[binOp,Op.intCmp];done)
     |(refine cH.bool hO rfl rfl (Dn _ hg ?_);simp[binOp,Op.intCmp];rfl))
   |(refine cH.int hO rfl rfl (Dn _ hg ?_);simp[binOp,shift_shl_any _ _ _ _ dq,shift_shr_any _ _ _ _ dq];done)
   |(obtain⟨rfl,hq⟩:=dq;exact cH.int hO rfl rfl (Dn _ hg (by simp[binOp,Op.intDiv,hq])))
 unfold ua at dq;split at dq
 ·exact key rfl rfl
 ·exact dq.elim
def HT{x:Value}{cs:bB}(h:aA w W ab L d x)(hc:mZ d=some cs):∃vs:Array Value,x=.agg vs/\aQ w W ab L cs vs.toList:=by
 cases d with
 |v t=>
  cases t with
  |agg ts=>
   simp only[mZ,Zaa]at hc;subst hc;simp only[aA,bj]at h;obtain⟨vs,rfl,hr⟩:=h;exact⟨vs,rfl,aQ.sa hr⟩
  |_=>simp[mZ]at hc
 |agg ds=>
  simp only[mZ,Zaa]at hc;subst hc;simp only[aA]at h;exact h
 |_=>simp[mZ]at hc
def Ku{s:TypeId}{f:Nat}{fs:Array Field}{fd:Field}{i:TypeInfo}{desc:TypeDesc}(hs:P.underlying s=some (.struct fs))(hf:fs[f]? =some fd)(hi:P.info? fd.type=some i)(hd:P.underlying fd.type=some desc)
   (h:aA w W ab L d xv) (dq:(oQ fd.offset i.size (b8 desc) d).ok):
  (oQ fd.offset i.size (b8 desc) d).put=none/\∃v,(Instr.field s xv f).run P w=.ok v w/\aA w W ab L (oQ fd.offset i.size (b8 desc) d).val v:=by
 unfold oQ at dq⊢;cases hc:mZ d with
 |none=>simp[hc,cZ]at dq
 |some cs=>
  simp only[hc]at dq⊢;obtain⟨vs,rfl,hr⟩:=HT h hc;have hl:=aQ.length hr;have hp:=m9 (P:=P) w hd hi (xs:=vs.toList) (off:=fd.offset) dq.2 (by omega);simp only[Array.toArray_toList]at hp;refine⟨trivial,_,by simp[Instr.field,run_underlying hs,hf,asAgg,hp];rfl, ?_⟩;by_cases ha:b8 desc=true
  ·simp only[ha,if_true,zP,aA];exact⟨_,rfl,by simpa using aQ.take i.size (aQ.drop fd.offset hr)⟩
  ·have h1:i.size=1:=dq.2.resolve_left ha;have ln:fd.offset<cs.length:=by omega
   obtain⟨v,tp,_,gD⟩:=aQ.get hr (i:=fd.offset) (d:=cs[fd.offset]) (by simp[ln]);have e1:(List.take i.size (List.drop fd.offset vs.toList)).getD 0 Go.undef=v:=by
    rw[h1];simp only[List.getD,ZaQ,ZbH,ZbV,tp];simp
   have e2:cs.getD fd.offset .undef=cs[fd.offset]:=by simp[List.getD,ln]
   simp only[ha,zP,e1,e2];exact gD
def HU{k:Nat}(h:aA w W ab L d xv)(dq:(iq k d).ok):
  (iq k d).put=none/\∃b o,xv=.pointer (some ⟨b,o,none⟩)/\aA w W ab L (iq k d).val (.pointer (some ⟨b,o+k,none⟩)):=by
 cases d with
 |ptr r off=>
  simp only[aA]at h;obtain⟨hc,rfl⟩:=h;exact⟨rfl,_,_,rfl,by simp only[iq,aA];exact⟨hc,trivial⟩⟩
 |l7 av i off=>
  simp only[aA]at h;obtain⟨b,o,sz,rfl,rest⟩:=h;exact⟨rfl,_,_,rfl,by simp only[iq,aA];exact⟨b,o,sz,by rw[Nat.add_assoc],rest⟩⟩
 |iD cs off=>
  simp only[aA]at h;obtain⟨b,o,rfl,rest⟩:=h;exact⟨rfl,_,_,rfl,by simp only[iq,aA];exact⟨b,o,by rw[Nat.add_assoc],rest⟩⟩
 |ka r bD i off=>
  simp only[aA]at h;obtain⟨⟨b,o,rfl⟩,cg,e,sz,av,ho,jy,hx⟩:=h;refine⟨rfl,_,_,rfl, ?_⟩;simp only[iq,aA];refine⟨⟨_,_,rfl⟩,cg,e,sz,av,ho,jy,λhv=>?_⟩;obtain⟨g,hg,hp,h0,h1⟩:=hx hv;simp only[Value.pointer.injEq,Zaa,Addr.mk.injEq,and_true]at hp;exact⟨g,hg,by rw[hp.1,hp.2,Nat.add_assoc],h0,h1⟩
 |v t=>
  cases t with
  |box cs=>
   simp only[aA,bj]at h;obtain⟨b,o,rfl,rest⟩:=h;exact⟨rfl,_,_,rfl,by simp only[iq,aA];exact⟨b,o,rfl,rest⟩⟩
  |_=>exact dq.elim
 |_=>exact dq.elim
def Do(h:aA w W ab L d xv)(dq:(kT d).ok):
  (kT d).put=none/\(kT d).val=d/\((∃p,xv=.pointer (some p))\/∃f bY,xv=.func (.func f) #[] bY):=by
 cases d with
 |ptr r off=>simp only[aA]at h;obtain⟨_,rfl⟩:=h;exact⟨rfl,rfl,.inl ⟨_,rfl⟩⟩
 |l7 av i off=>simp only[aA]at h;obtain⟨b,o,sz,rfl,_⟩:=h;exact⟨rfl,rfl,.inl ⟨_,rfl⟩⟩
 |iD cs off=>simp only[aA]at h;obtain⟨b,o,rfl,_⟩:=h;exact⟨rfl,rfl,.inl ⟨_,rfl⟩⟩
 |ka r bD i off=>simp only[aA]at h;obtain⟨⟨b,o,rfl⟩,_⟩:=h;exact⟨rfl,rfl,.inl ⟨_,rfl⟩⟩
 |v t=>
  cases t with
  |box cs=>simp only[aA,bj]at h;obtain⟨b,o,rfl,_⟩:=h;exact⟨rfl,rfl,.inl ⟨_,rfl⟩⟩
  |fn f bY=>
   cases f with
   |func f=>simp only[aA,bj]at h;obtain⟨vs,rfl,_⟩:=h;exact⟨rfl,rfl,.inr ⟨_,_,rfl⟩⟩
   |_=>exact dq.elim
  |_=>exact dq.elim
 |_=>exact dq.elim
def Vl{t e:TypeId}{i:TypeInfo}(hO:ct base W M w0 ab w L)(ht:P.underlying t=some (.slice e))(hi:P.info? e=some i)(h:aA w W ab L d xv)(h2:aA w W ab L d2 yv)(dq:(rZ i.size ab d d2).ok):
  (rZ i.size ab d d2).put=none/\∃v,(Instr.indexAt t xv yv).run P w=.ok v w/\aA w W ab L (rZ i.size ab d d2).val v:=by
 have bW:∀(b o n c:Nat) (k:IntKind) (j:Int),0<=j->j<n->(Instr.indexAt t (.slice (some ⟨b,o,none⟩) n c) (.int k j)).run P w=.ok (.pointer (some ⟨b,o+j.toNat*i.size,none⟩)) w:=by
  intro b o n c k j h0 h1;simp[Instr.indexAt,asIntOf,run_underlying ht,h0,h1,run_sizeOf hi,mP]
 unfold rZ at dq⊢;split at dq
 ·rename_i av k j;simp only at dq⊢;obtain⟨h0,h1,yi⟩:=dq;simp only[aA,bj]at h h2;subst h2;rcases h with⟨rfl,_⟩|⟨b,o,cap,sz,rfl,hb,hn,hc,hr⟩
  ·simp at h1;omega
  ·have wp:=(bw.row hr (zX h0 h1)).1;have hsz':sz=i.size:=by omega
   subst hsz';refine⟨trivial,_,bW b o _ _ k j h0 h1, ?_⟩;simp only[aA];exact⟨b,o,_,by rw[ZbV],hb,hn,hr,h0,h1⟩
 ·rename_i r bD k j;cases hc:ab r with
  |none=>simp[hc,cZ]at dq
  |some ob=>
   cases ob with
   |box cs=>simp[hc,cZ]at dq
   |map _ _ _ _=>simp[hc,cZ]at dq
   |kc _ _ _ _=>simp[hc,cZ]at dq
   |dT cg e' iG av=>
    simp only[hc]at dq⊢;obtain⟨rfl,rfl,h0,h1⟩:=dq;simp only[aA,bj]at h h2;subst h2;obtain⟨_,qw,e2,Gy,lI,nH,_,hv⟩:=h;rw[hc]at nH;cases nH;have hv:=hv rfl;subst hv;have gH:=hO.ob r _ hc;obtain⟨yi,eF,hm,P1⟩:=gH;rcases P1 with⟨rfl,_⟩|⟨g',cap,pa,tp,hp,hh,jy,sc,HN,gQ⟩
    ·simp at h1;omega
    ·refine⟨trivial,_,by rw[tp];exact bW g' 0 _ _ k j h0 h1, ?_⟩;simp only[aA];exact⟨⟨_,_,rfl⟩,bD,e',_,av,hc,Zaf _,λ_=>⟨g',by simp[tp,aX,ZaJ.1 hp],by simp,h0,h1⟩⟩
 ·rename_i r bD lo n k j;cases hc:ab r with
  |none=>simp[hc,cZ]at dq
  |some ob=>
   cases ob with
   |box cs=>simp[hc,cZ]at dq
   |map _ _ _ _=>simp[hc,cZ]at dq
   |kc _ _ _ _=>simp[hc,cZ]at dq
   |dT cg e' iG av=>
    simp only[hc]at dq⊢;obtain⟨rfl,rfl,h0,h1⟩:=dq;simp only[aA,bj]at h h2;subst h2;obtain⟨_,qw,e2,Gy,lI,nH,_,hv⟩:=h;rw[hc]at nH;cases nH;have hv:=hv rfl;rcases uf hO hc hv with⟨rfl,_⟩|⟨g,c,zO,rfl,Lk,_⟩
    ·simp at h1;omega
    ·refine⟨trivial,_,bW g _ _ _ k j h0 h1, ?_⟩;have hl:=hv.1;have e1:((lo:Int)+j).toNat=lo+j.toNat:=by omega
     simp only[aA];exact⟨⟨_,_,rfl⟩,bD,e',_,av,hc,Zaf _,λ_=>⟨g,zO,by rw[e1,Nat.add_mul];simp,by omega,by omega⟩⟩
 ·rename_i r n k j;simp only[aA,bj]at h h2;subst h2;obtain⟨hc,rfl⟩:=h;obtain⟨h0,h1⟩:=dq;refine⟨rfl,_,bW _ _ _ _ k j h0 h1, ?_⟩;simp only[aA];exact⟨hc,by simp⟩
 ·exact dq.elim
def Gd{t e:TypeId}{i:TypeInfo}{n:Nat}(ht:P.underlying t=some (.array n e))(hi:P.info? e=some i)(h:aA w W ab L d xv)(h2:aA w W ab L d2 yv)(dq:(kK n i.size d d2).ok):
  (kK n i.size d d2).put=none/\∃v,(Instr.indexAt t xv yv).run P w=.ok v w/\aA w W ab L (kK n i.size d d2).val v:=by
 have bW:∀(b o:Nat) (k:IntKind) (j:Int),0<=j->j<n->(Instr.indexAt t (.pointer (some ⟨b,o,none⟩)) (.int k j)).run P w=.ok (.pointer (some ⟨b,o+j.toNat*i.size,none⟩)) w:=by
  intro b o k j h0 h1;by_cases hn:n<=1<;>simp[Instr.indexAt,asIntOf,run_underlying ht,h0,h1,run_sizeOf hi,mP,Instr.sureAddr]
 unfold kK at dq⊢;split at dq
 ·rename_i r off k j;simp only[aA,bj]at h h2;obtain⟨hc,rfl⟩:=h;subst h2;exact⟨rfl,_,bW _ _ k j dq.1 dq.2,by simp only[aA];exact⟨hc,trivial⟩⟩
 ·rename_i av q off k j;simp only[aA,bj]at h h2;obtain⟨b,o,sz,rfl,rest⟩:=h;subst h2;exact⟨rfl,_,bW _ _ k j dq.1 dq.2,by simp only[aA];exact⟨b,o,sz,by rw[Nat.add_assoc],rest⟩⟩
 ·rename_i cs off k j;simp only[aA,bj]at h h2;obtain⟨b,o,rfl,rest⟩:=h;subst h2;exact⟨rfl,_,bW _ _ k j dq.1 dq.2,by simp only[aA];exact⟨b,o,by rw[Nat.add_assoc],rest⟩⟩
 ·rename_i cs k j;simp only[aA,bj]at h h2;obtain⟨b,o,rfl,rest⟩:=h;subst h2;exact⟨rfl,_,bW _ _ k j dq.1 dq.2,by simp only[aA];exact⟨b,o,rfl,rest⟩⟩
 ·rename_i r bD q off k j;simp only[aA,bj]at h h2;obtain⟨⟨b,o,rfl⟩,cg,e,sz,av,ho,jy,hx⟩:=h;subst h2;refine⟨rfl,_,bW _ _ k j dq.1 dq.2, ?_⟩;simp only[aA];refine⟨⟨_,_,rfl⟩,cg,e,sz,av,ho,jy,λhv=>?_⟩;obtain⟨g,hg,hp,h0,h1⟩:=hx hv;simp only[Value.pointer.injEq,Zaa,Addr.mk.injEq,and_true]at hp;exact⟨g,hg,by rw[hp.1,hp.2,Nat.add_assoc],h0,h1⟩
 ·exact dq.elim
def Vm{x:Operand}{t e:TypeId}(hO:ct base W M w0 ab w L)(ho:o.op=.call {callee:=.builtin .len,args:= #[x],argTypes:= #[t]})(ht:P.underlying t=some (.slice e))(h:aA w W ab L d (a.eval x))(dq:(wC ab d).ok):
  cH P base W M w0 ab L w a o (wC ab d):=by
 have vP:∀(p:Option Addr) (n c:Nat),a.eval x=.slice p n c->(execOp a.eval o).run P w=.ok (.value (.int .i64 n)) w:=by
  rintro p n c hx;simp[execOp,ho,resolve,invoke,builtin,hx,Builtin.len_,run_underlying ht,goInt]
 cases d with
 |v t'=>
  cases t' with
  |sl av=>
   simp only[aA,bj]at h;rcases h with⟨rfl,p,c,hx⟩|⟨b,oo,cap,sz,hx,_⟩
   ·exact cH.int hO rfl rfl (vP _ _ _ hx)
   ·exact cH.int hO rfl rfl (vP _ _ _ hx)
  |_=>exact dq.elim
 |aW=>
  simp only[aA]at h;obtain⟨p,hx⟩:=h;exact cH.int hO rfl rfl (vP _ _ _ hx)
 |bA r bD=>
  simp only[aA]at h;obtain⟨_,cg,e',sz,av,hc,_,hv⟩:=h;simp only[wC,hc]at dq⊢;have hv:=hv dq;have gH:=hO.ob r _ hc;obtain⟨yi,eF,hm,P1⟩:=gH;rcases P1 with⟨rfl,p,hp⟩|⟨g',cap,pa,tp,hp,hh,jy,sc,HN,gQ⟩
  ·exact cH.int hO rfl rfl (vP _ _ _ (hv.trans hp))
  ·exact cH.int hO rfl rfl (vP _ _ _ (hv.trans tp))
 |u9 r bD lo n=>
  simp only[aA]at h;obtain⟨⟨p,c,hx⟩,_⟩:=h;exact cH.int hO rfl rfl (vP _ _ _ hx)
 |F9 r n=>
  simp only[aA]at h;obtain⟨_,hx⟩:=h;exact cH.int hO rfl rfl (vP _ _ _ hx)
 |_=>exact dq.elim
def N3{x:Operand}{t:TypeId}(hO:ct base W M w0 ab w L)(ho:o.op=.call {callee:=.builtin .len,args:= #[x],argTypes:= #[t]})(ht:P.underlying t=some .string)(h:aA w W ab L d (a.eval x))(dq:(vd d).ok):
  cH P base W M w0 ab L w a o (vd d):=by
 unfold vd at dq⊢;split at dq
 ·simp only[aA,bj]at h;refine cH.int hO rfl rfl ?_;simp[execOp,ho,resolve,invoke,builtin,h,Builtin.len_,run_underlying ht,goInt]
 ·exact dq.elim
def xZ{x y:Operand}{ts:Array TypeId}(m:Bool)(hO:ct base W M w0 ab w L)(ho:o.op=.call {callee:=.builtin (if m then .max else .min),args:= #[x,y],argTypes:=ts})(h1:aA w W ab L d1 (a.eval x))(h2:aA w W ab L d2 (a.eval y))(dq:(oD m d1 d2).ok):
  cH P base W M w0 ab L w a o (oD m d1 d2):=by
 unfold oD at dq⊢;split at dq
 ·rename_i k p k' q;simp only[aA,bj]at h1 h2;have hok':k=k':=dq;subst hok';cases m
  ·have e:(if q<p then q else p)=min p q:=by omega
   refine cH.int hO rfl rfl ?_;simp[execOp,ho,resolve,invoke,builtin,h1,h2,run_min_int2,e]
  ·have e:(if q>p then q else p)=max p q:=by omega
   refine cH.int hO rfl rfl ?_;simp only[gt_iff_lt]at e;simp[execOp,ho,resolve,invoke,builtin,h1,h2,run_max_int2,e]
 ·exact dq.elim
def GG{x:Value}{n:Int}(h:aA w W ab L d x)(hi:Dd d=some n):∃k,x=.int k n:=by
 unfold Dd at hi;split at hi
 ·simp only[Zaa]at hi;subst hi;simp only[aA,bj]at h;exact⟨_,h⟩
 ·cases hi
def Kv(hO:ct base W M w0 ab w L){t e:TypeId}{i:TypeInfo}(ht:P.underlying t=some (.slice e))(hi:P.info? e=some i)(h:aA w W ab L d xv){lo pW:Option DV}{lv hv:Option Value}
  (hlo:(lo=none/\lv=none)\/∃dl vl,lo=some dl/\lv=some vl/\aA w W ab L dl vl) (hhi:(pW=none/\hv=none)\/∃dl vl,pW=some dl/\hv=some vl/\aA w W ab L dl vl)
  (dq:(jA i.size lo pW ab d).ok):
  (jA i.size lo pW ab d).put=none/\∃v,(Instr.sliceAt t xv lv hv none).run P w=.ok v w/\aA w W ab L (jA i.size lo pW ab d).val v:=by
 have bW:∀(p:Option Addr) (n c:Nat) (l hh:Int),0<=l->l<=hh->hh<=n->n<=c->(lv=none/\l=0\/∃k,lv=some (.int k l))->(hv=none/\hh=n\/∃k,hv=some (.int k hh))->
   (Instr.sliceAt t (.slice p n c) lv hv none).run P w=.ok (.slice (if c=l.toNat then p else p.map (·.add (l.toNat*i.size))) (hh.toNat-l.toNat) (c-l.toNat)) w:=by
  intro p n c l hh h0 h1 h2 h3 hl hh';have b2:hh<=c:=by omega
  have b3:0<=hh:=by omega
  have b4:l<=(hh.toNat:Int):=by omega
  have b5:((hh.toNat:Nat):Int)=hh:=by omega
  rcases hl with⟨rfl,rfl⟩|⟨k,rfl⟩<;>rcases hh' with⟨rfl,rfl⟩|⟨k',rfl⟩
  ·simp[Instr.sliceAt,Instr.slice,run_underlying ht,Instr.sliceBounds,run_sizeOf hi]
  ·simp[Instr.sliceAt,Instr.slice,run_underlying ht,Instr.sliceBounds,run_sizeOf hi,Instr.sliceBound,asIntOf,b2,b3]
  ·have b6:l<=(n:Int):=h1;simp[Instr.sliceAt,Instr.slice,run_underlying ht,Instr.sliceBounds,run_sizeOf hi,Instr.sliceBound,asIntOf,b6,h0]
  ·simp[Instr.sliceAt,Instr.slice,run_underlying ht,Instr.sliceBounds,run_sizeOf hi,Instr.sliceBound,asIntOf,b2,b3,h0,b5,h1]
 have XL:∀{l:Int},De lo=some l->(lv=none/\l=0\/∃k,lv=some (.int k l)):=by
  intro l hl;rcases hlo with⟨rfl,rfl⟩|⟨dl,vl,rfl,rfl,hr⟩
  ·simp only[De,Zaa]at hl;exact .inl ⟨rfl,hl.symm⟩
  ·obtain⟨k,rfl⟩:=GG hr hl;exact .inr ⟨k,rfl⟩
 have c7:∀{n:Int} {l:Int},Df n pW=some l->(hv=none/\l=n\/∃k,hv=some (.int k l)):=by
  intro n l hl;rcases hhi with⟨rfl,rfl⟩|⟨dl,vl,rfl,rfl,hr⟩
  ·simp only[Df,Zaa]at hl;exact .inl ⟨rfl,hl.symm⟩
  ·obtain⟨k,rfl⟩:=GG hr hl;exact .inr ⟨k,rfl⟩
 cases d with
 |v t'=>
  cases t' with
  |sl av=>
   simp only[jA]at dq⊢;cases el:De lo with
   |none=>simp[el,cZ]at dq
   |some l=>
    cases eh:Df av.length pW with
    |none=>simp[el,eh,cZ]at dq
    |some hh=>
     simp only[el,eh]at dq⊢;obtain⟨h0,h1,h2,yi⟩:=dq;refine⟨trivial, ?_⟩;simp only[aA,bj]at h;have dM:((av.take hh.toNat).drop l.toNat).length=hh.toNat-l.toNat:=by simp;omega
     rcases h with⟨rfl,p,c,rfl⟩|⟨b,oo,cap,sz,rfl,hb,hn,hc,hr⟩
     ·have z1:hh=0:=by simp at h2;omega
      have z2:l=0:=by omega
      subst z1 z2;refine⟨_,bW p 0 c 0 0 h0 h1 (by omega) (by omega) (XL el) (c7 eh), ?_⟩;simp only[aA,bj];exact .inl ⟨by simp,_,_,rfl⟩
     ·refine⟨_,bW _ _ cap l hh h0 h1 h2 hc (XL el) (c7 eh), ?_⟩;simp only[aA,bj];by_cases Cl:cap=l.toNat
      ·refine .inl ⟨?_,_,_,by rw[show hh.toNat-l.toNat=0 by omega]⟩;apply ZaD;omega
      ·refine .inr ⟨b,oo+l.toNat*i.size,cap-l.toNat,i.size, ?_,hb,hn,by omega, ?_⟩
       ·rw[dM,Zab Cl];simp[mP]
       ·refine bw.Ck _ _ λj r hj=>?_;rw[ZbH,ZaQ]at hj;split at hj
        ·have wp:=bw.row hr hj;have z8:=yi r (Zax hj);have:sz=i.size:=by omega
         subst this;refine⟨z8, ?_⟩;have e2:oo+l.toNat*i.size+j*i.size=oo+(l.toNat+j)*i.size:=by rw[Nat.add_mul];omega
         rw[e2];exact wp.2
        ·cases hj
  |_=>exact dq.elim
 |aW=>
  simp only[jA]at dq⊢;cases el:De lo with
  |none=>simp[el,cZ]at dq
  |some l=>
   cases eh:Df 0 pW with
   |none=>simp[el,eh,cZ]at dq
   |some hh=>
    simp only[el,eh]at dq⊢;obtain⟨rfl,rfl⟩:=dq;refine⟨trivial, ?_⟩;simp only[aA]at h;obtain⟨p,rfl⟩:=h;refine⟨_,bW p 0 0 0 0 (Zct _) (Zct _) (by omega) (Zaf _) (XL el) (c7 eh), ?_⟩;simp[aA]
 |bA r bD=>
  simp only[jA]at dq⊢;cases hc:ab r with
  |none=>simp[hc,cZ]at dq
  |some ob=>
   cases ob with
   |dT cg e' iG av=>
    simp only[hc]at dq⊢;cases el:De lo with
    |none=>simp[el,cZ]at dq
    |some l=>
     cases eh:Df av.length pW with
     |none=>simp[el,eh,cZ]at dq
     |some hh=>
      simp only[el,eh]at dq⊢;obtain⟨rfl,rfl,h0,h1,h2⟩:=dq;refine⟨trivial, ?_⟩;simp only[aA]at h;obtain⟨_,qw,e2,Gy,lI,nH,_,mQ⟩:=h;rw[hc]at nH;cases nH;have mQ:=mQ rfl;subst mQ;obtain⟨_,_,_,P1⟩:=hO.ob r _ hc;have vP:∃p cap,L.sl r=.slice p av.length cap/\av.length<=cap:=by
       rcases P1 with⟨rfl,a,ha⟩|⟨g,cap,pa,k1,k2,k3,k4,_⟩
       ·exact⟨a,0,ha,Zaf _⟩
       ·exact⟨_,cap,k1,k4⟩
      obtain⟨p,cap,vP,sc⟩:=vP;refine⟨_,by rw[vP];exact bW p av.length cap l hh h0 h1 h2 sc (XL el) (c7 eh), ?_⟩;simp only[aA];exact⟨⟨_,_,rfl⟩,bD,e',_,av,hc,Zaf _,λ_=>⟨by omega,p,cap,_,vP,rfl,λln=>by rw[Zab (by omega)]⟩⟩
   |_=>simp[hc,cZ]at dq
 |u9 r bD lo0 n=>
  simp only[jA]at dq⊢;cases hc:ab r with
  |none=>simp[hc,cZ]at dq
  |some ob=>
   cases ob with
   |dT cg e' iG av=>
    simp only[hc]at dq⊢;cases el:De lo with
    |none=>simp[el,cZ]at dq
    |some l=>
     cases eh:Df n pW with
     |none=>simp[el,eh,cZ]at dq
     |some hh=>
      simp only[el,eh]at dq⊢;obtain⟨rfl,rfl,h0,h1,h2⟩:=dq;refine⟨trivial, ?_⟩;simp only[aA]at h;obtain⟨_,qw,e2,Gy,lI,nH,_,mQ⟩:=h;rw[hc]at nH;cases nH;obtain⟨Kp,p,cap,p2,vP,rfl,Qu⟩:=mQ rfl;obtain⟨_,_,_,P1⟩:=hO.ob r _ hc;have sc:av.length<=cap/\∀q,p=some q->0<cap->∃g,q=⟨g,0,none⟩:=by
       rcases P1 with⟨rfl,a,ha⟩|⟨g,cap',pa,k1,k2,k3,k4,_⟩
       ·exact⟨by simp,λq hq Xa=>by rw[vP]at ha;cases ha;omega⟩
       ·rw[vP]at k1;cases k1;exact⟨k4,λq hq _=>⟨g,by simpa using hq.symm⟩⟩
      refine⟨_,bW p2 n (cap-lo0) l hh h0 h1 h2 (by omega) (XL el) (c7 eh), ?_⟩;simp only[aA];refine⟨⟨_,_,rfl⟩,bD,e',_,av,hc,Zaf _,λ_=>⟨by omega,p,cap,_,vP,by rw[Nat.sub_sub],λln=>?_⟩⟩;rw[Zab (by omega),Qu (by omega)];cases p with
      |none=>rfl
      |some q=>
       obtain⟨g,rfl⟩:=sc.2 q rfl (by omega);simp[mP,Nat.add_mul]
   |_=>simp[hc,cZ]at dq
 |_=>exact dq.elim
end
end
section
variable{W':fo}{cj:List Sh}{agg:Bool}{es:List (Nat×T×DV)}
variable [bI]
section
variable{P:Program}{base:Nat}{W M:fo}{w0:World}{ab:bq}{L:Loc}{w:World}{a:Act}{o:Oper}
def jg{W':fo}:∀{cj:List Sh} {ts:aK} {vs:List Value},eL cj ts->du w W' ts vs->vy cj vs
 |[],ts,vs,h,hr=>by
  simp only[eL]at h;subst h;simpa [du,vy]using hr
 |s::ss,[],vs,h,_=>by simp[eL]at h
 |s::ss,t::ts,vs,h,hr=>by
  simp only[eL]at h;simp only[du]at hr;obtain⟨v,EY,rfl,_,h2,hr⟩:=hr;simp only[vy];refine⟨v,EY,rfl, ?_,jg h.2 hr⟩;have h1:=h.1;cases s<;>cases t<;>first|exact Zar h1 ZaL|skip
  all_goals (simp only[bj]at h2;subst h2;first|rfl|exact h1)
def Ky{s:Sh}{t u:T}{x y:Value}(ht:HI s t=true)(hu:HI s u=true)(hx:bj w W' t x)(hy:bj w W' u y):gO t u=veq x y:=by
 cases s<;>cases t<;>(first|exact Zar ht ZaL|skip)<;>cases u<;>(first|exact Zar hu ZaL|skip)
 all_goals (simp only[bj]at hx hy;subst hx hy;simp only[gO,veq])
 ·rfl
 ·rename_i s1 s2;by_cases h:s1=s2
  ·subst h;simp
  ·have bT:s1.toList≠s2.toList:=λe=>h (by
    rw[ByteArray.toList_eq,ByteArray.toList_eq]at e;obtain⟨d1⟩:=s1;obtain⟨d2⟩:=s2;exact congrArg ByteArray.mk (Array.ext' e))
   simp[h,bT]
def Ab{W':fo}:∀{cj:List Sh} {ts us:aK} {xs ys:List Value},eL cj ts->eL cj us->du w W' ts xs->du w W' us ys->tl ts us=mz xs ys
 |[],ts,us,xs,ys,h1,h2,hx,hy=>by
  simp only[eL]at h1 h2;subst h1 h2;simp only[du]at hx hy;subst hx hy;rfl
 |s::ss,[],_,_,_,h,_,_,_=>by simp[eL]at h
 |s::ss,_::_,[],_,_,_,h,_,_=>by simp[eL]at h
 |s::ss,t::ts,u::us,xs,ys,h1,h2,hx,hy=>by
  simp only[eL]at h1 h2;simp only[du]at hx hy;obtain⟨x,lz,rfl,_,HS,hx⟩:=hx;obtain⟨y,ys',rfl,_,lq,hy⟩:=hy;simp only[tl,mz];rw[Ky h1.1 h2.1 HS lq,Ab h1.2 h2.2 hx hy]
def oF{t:T}(h:eL cj [t]):∃s,cj=[s]/\HI s t=true:=by
 cases cj with
 |nil=>simp[eL]at h
 |cons s ss=>
  simp only[eL]at h;cases ss with
  |nil=>exact⟨s,rfl,h.1⟩
  |cons s2 ss=>simp[eL]at h
def yA{em:Bool}{d:Nat}(ih:∀(t:TypeId) (cj:List Sh) (desc:TypeDesc),lp P d t=some cj->P.underlying t=some desc->∀(xs:List Value) (w:World),vy cj xs->(Instr.checkKey em d t (zP desc xs)).run P w=.ok () w)
  (Ks:∀(t:TypeId) (cj:List Sh),lp P d t=some cj->∃desc,P.underlying t=some desc/\(b8 desc=true\/cj.length=1)) (xs:List Value):
  ∀(fs:List Field) (off:Nat) (cj:List Sh) (w:World),iH P (lp P d) off fs=some cj->vy cj (xs.drop off)->off<=xs.length->
   (forIn fs PUnit.unit (λf (_:PUnit)=>
      if f.name≠ "_" then do
       let x<-part f.type xs.toArray f.offset
       Instr.checkKey em d f.type x
       pure (ForInStep.yield PUnit.unit)
      else pure (ForInStep.yield PUnit.unit)):Sem PUnit).run P w=.ok PUnit.unit w
 |[],off,cj,w,h,hx,_=>by simp
 |f::fs,off,cj,w,h,hx,hox=>by
  simp only[iH]at h;split at h
  ·rename_i s i hs hi;split at h
   ·rename_i hc;obtain⟨hn,rfl,yi⟩:=hc;simp only[Zac]at h;obtain⟨rest,Kt,rfl⟩:=h;obtain⟨desc,hd,h1⟩:=Ks _ _ hs;have Gb:=vy.length hx;simp only[ZaK,Zbo]at Gb;obtain⟨HS,qr⟩:=vy.split hx;rw[List.drop_drop]at qr;rw[yi]at h1;have p1:=λw=>m9 (P:=P) w hd hi (xs:=xs) (off:=f.offset) h1 (by omega);have hr:=ih _ _ _ hs hd _ w HS;rw[yi]at hr;simp only[ZcL,hn,ne_eq,not_false_eq_true,if_true,Sem.run_bind,p1,Result.andThen_ok,hr,Sem.run_pure];exact yA ih Ks xs fs _ rest w Kt qr (by omega)
   ·cases h
  ·cases h
def Ao{em:Bool}{d:Nat}{e:TypeId}{de:TypeDesc}{s:List Sh}{i:TypeInfo}(hd:P.underlying e=some de)(hi:P.info? e=some i)(h1:b8 de=true\/i.size=1)(hs:s.length=i.size)
  (ih:∀(xs:List Value) (w:World),vy s xs->(Instr.checkKey em d e (zP de xs)).run P w=.ok () w) (xs:List Value):
  ∀(n k:Nat) (w:World),vy ((List.replicate n s).flatten) (xs.drop (k*i.size))->
   (forIn (List.range' k n) PUnit.unit (λj (_:PUnit)=>do
      let sz<-sizeOf e
      let x<-part e xs.toArray (j*sz)
      Instr.checkKey em d e x
      pure (ForInStep.yield PUnit.unit)):Sem PUnit).run P w=.ok PUnit.unit w
 |0,k,w,hx=>by simp
 |n+1,k,w,hx=>by
  simp only[ZaY,Zbu]at hx;have Gb:=vy.length hx;simp only[ZaK,Zbo]at Gb;obtain⟨HS,qr⟩:=vy.split hx;have e2:k*i.size+s.length=(k+1)*i.size:=by rw[Nat.add_mul,hs];omega
  rw[List.drop_drop,e2]at qr;by_cases hz:i.size=0
  ·have yi:∀(w:World),k*i.size+i.size<=xs.length\/xs.length<k*i.size:=λ_=>by omega
   have Nz:=h1.elim id (λh=>by omega);have p1:=λw=>m9 (P:=P) w hd hi (xs:=xs) (off:=k*i.size) h1 (by rw[hz];simp);rw[hs]at HS;have hr:=ih _ w HS;simp only[Zc2,ZcL,Sem.run_bind,run_sizeOf hi,p1,Result.andThen_ok,hr,Sem.run_pure];exact Ao hd hi h1 hs ih xs n (k+1) w qr
  ·have p1:=λw=>m9 (P:=P) w hd hi (xs:=xs) (off:=k*i.size) h1 (by omega);rw[hs]at HS;have hr:=ih _ w HS;simp only[Zc2,ZcL,Sem.run_bind,run_sizeOf hi,p1,Result.andThen_ok,hr,Sem.run_pure];exact Ao hd hi h1 hs ih xs n (k+1) w qr
def Ap(em:Bool):∀(d:Nat) (t:TypeId) (cj:List Sh) (desc:TypeDesc),lp P d t=some cj->P.underlying t=some desc->∀(xs:List Value) (w:World),vy cj xs->(Instr.checkKey em d t (zP desc xs)).run P w=.ok () w
 |0,t,cj,desc,h,_,_,_,_=>by simp[lp]at h
 |d+1,t,cj,desc,h,hu,xs,w,hx=>by
  simp only[lp,hu]at h;cases desc;case bool=>simp[zP,b8,Instr.checkKey,run_underlying hu]
  case int k=>simp[zP,b8,Instr.checkKey,run_underlying hu]
  case string=>simp[zP,b8,Instr.checkKey,run_underlying hu]
  case struct fs=>
   replace h:(if P.stoodInHeld t then none else iH P (lp P d) 0 fs.toList)=some cj:=h
   split at h
   ·cases h
   ·have:=yA (em:=em) (λt cj desc=>Ap em d t cj desc) (λt cj hs=>by
     cases d with
     |zero=>simp[lp]at hs
     |succ d=>exact Cn hs) xs fs.toList 0 cj w h (by simpa using hx) (by omega)
    simp only[zP,b8,if_true];rw[Instr.checkKey];simp only[Sem.run_bind,run_underlying hu,Result.andThen_ok];rw[<-Array.forIn_toList];refine(congrArg (λr=>Result.andThen r _) this).trans ?_;rfl
  case array n e=>
   replace h:(match lp P d e,P.info? e with
    |some s,some i=>if s.length=i.size/\0<i.size then some ((List.replicate n s).flatten)else none
    |_,_=>none)=some cj:=h
   split at h
   ·rename_i s i hs hi;split at h
    ·rename_i hc;simp only[Zaa]at h;subst h;have hde:∃desc,P.underlying e=some desc/\(b8 desc=true\/s.length=1):=by
      cases d with
      |zero=>simp[lp]at hs
      |succ d=>exact Cn hs
     obtain⟨de,hd,h1⟩:=hde;rw[hc.1]at h1;have:=Ao hd hi h1 hc.1 (λxs w=>Ap em d e s de hs hd xs w) xs n 0 w (by simpa using hx);simp only[zP,b8,if_true];rw[Instr.checkKey];simp only[Sem.run_bind,run_underlying hu,Result.andThen_ok,Std.Legacy.Range.forIn_eq_forIn_range',Std.Legacy.Range.size,Zcb,Zcz,Nat.div_one];refine(congrArg (λr=>Result.andThen r _) this).trans ?_;rfl
    ·cases h
   ·cases h
  all_goals exact Zar h (by simp)
def cu:T->aK
 |.agg as=>as
 |t=>[t]
def kM{t:T}(h:eM cj agg t):eL cj (cu t):=by
 cases t<;>simp only[eM]at h<;>exact h.2
def Aq{desc:TypeDesc}{t:T}{x:Value}(h:eM cj (b8 desc) t)(hr:bj w W' t x):∃vs,x=zP desc vs/\du w W' (cu t) vs:=by
 cases t with
 |agg as=>
  simp only[eM]at h;simp only[bj]at hr;obtain⟨vs,rfl,hr⟩:=hr;exact⟨vs.toList,by simp[zP,h.1],hr⟩
 |_=>
  simp only[eM]at h;refine⟨[x],by simp[zP,h.1], ?_⟩;simp only[cu,du];obtain⟨s,rfl,hs⟩:=oF h.2;refine⟨x,[],rfl, ?_,hr,rfl⟩;cases s<;>first|exact Zar hs ZaL|(simp only[bj]at hr;subst hr;rfl)
def D5{t u:T}(h:eM cj agg t)(k:eM cj agg u):gO t u=tl (cu t) (cu u):=by
 cases t with
 |agg as=>
  cases u with
  |agg bs=>rfl
  |_=>simp only[eM]at h k;rw[h.1]at k;exact Zar k.1 (by simp)
 |_=>
  cases u with
  |agg bs=>simp only[eM]at h k;rw[k.1]at h;exact Zar h.1 (by simp)
  |_=>simp[cu,tl]
def YB{s:Sh}{t u:T}(ht:HI s t=true)(hu:HI s u=true)(h:gO t u=true):t=u:=by
 cases s<;>cases t<;>(first|exact Zar ht ZaL|skip)<;>cases u<;>(first|exact Zar hu ZaL|skip)
 ·simp only[gO,beq_iff_eq]at h;rw[h]
 ·simp only[HI,beq_iff_eq]at ht hu;simp only[gO,Zau]at h;subst ht hu h;rfl
 ·simp only[gO,Zau]at h;rw[h]
def GP:∀{cj:List Sh} {ts us:aK},eL cj ts->eL cj us->tl ts us=true->ts=us
 |[],ts,us,h1,h2,_=>by simp only[eL]at h1 h2;rw[h1,h2]
 |s::ss,[],_,h,_,_=>by simp[eL]at h
 |s::ss,_::_,[],_,h,_=>by simp[eL]at h
 |s::ss,t::ts,u::us,h1,h2,h=>by
  simp only[eL]at h1 h2;simp only[tl,Zam]at h;rw[YB h1.1 h2.1 h.1,GP h1.2 h2.2 h.2]
def QO{t u:T}(h:eM cj agg t)(k:eM cj agg u)(e:gO t u=true):t=u:=by
 have h1:=kM h;have k1:=kM k;rw[D5 h k]at e;have:=GP h1 k1 e;cases t with
 |agg as=>
  cases u with
  |agg bs=>simpa [cu]using this
  |_=>simp only[eM]at h k;rw[h.1]at k;exact Zar k.1 (by simp)
 |_=>
  cases u with
  |agg bs=>simp only[eM]at h k;rw[k.1]at h;exact Zar h.1 (by simp)
  |_=>exact(List.cons.inj this).1
def VS{k:TypeId}(hk:il P k=some (cj,agg)){t u:T}{x y:Value}(ht:eM cj agg t)(hu:eM cj agg u)(hx:bj w W' t x)(hy:bj w W' u y):
  (Op.equal k x y).run P w=.ok (gO t u) w:=by
 unfold il at hk;split at hk
 ·rename_i d s hd hs;simp only[Zaa,Zav]at hk;obtain⟨rfl,rfl⟩:=hk;obtain⟨vs,rfl,h1⟩:=Aq ht hx;obtain⟨us,rfl,h2⟩:=Aq hu hy;rw[D5 ht hu,Ab (kM ht) (kM hu) h1 h2];exact se 10000 k s d hs hd vs us w (jg (kM ht) h1) (jg (kM hu) h2)
 ·cases hk
def sy{k:TypeId}(hk:il P k=some (cj,agg)){t:T}{x:Value}(ht:eM cj agg t)(hx:bj w W' t x)(em:Bool):
  (Instr.checkKey em 10000 k x).run P w=.ok () w:=by
 unfold il at hk;split at hk
 ·rename_i d s hd hs;simp only[Zaa,Zav]at hk;obtain⟨rfl,rfl⟩:=hk;obtain⟨vs,rfl,h1⟩:=Aq ht hx;exact Ap em 10000 k s d hs hd vs w (jg (kM ht) h1)
 ·cases hk
def QP{t:T}{v:Value}(hk:eM cj agg t)(hr:bj w W' t v):
  (∀k a,v=.int k a->t=.int k a)/\(∀s,v=.string s->t=.str s)/\(∀b,v=.bool b->t=.bool b):=by
 have cZ:∀{x:T},eL cj [x]->(∀s,HI s x=false)->False:=λh1 h2=>by
  obtain⟨s,_,hs⟩:=oF h1;rw[h2]at hs;cases hs
 cases t with
 |agg as=>simp only[bj]at hr;obtain⟨_,rfl,_⟩:=hr;exact⟨λ_ _ e=>(by cases e),λ_ e=>(by cases e),λ_ e=>(by cases e)⟩
 |int k a=>simp only[bj]at hr;subst hr;exact⟨λ_ _ e=>(by cases e;rfl),λ_ e=>(by cases e),λ_ e=>(by cases e)⟩
 |str a=>simp only[bj]at hr;subst hr;exact⟨λ_ _ e=>(by cases e),λ_ e=>(by cases e;rfl),λ_ e=>(by cases e)⟩
 |bool a=>simp only[bj]at hr;subst hr;exact⟨λ_ _ e=>(by cases e),λ_ e=>(by cases e),λ_ e=>(by cases e;rfl)⟩
 |_=>exact(cZ hk.2 (λs=>by cases s<;>rfl)).elim
def kD(t:T)(es:List (Nat×T×DV))(xs:List MapEntry)(i:Nat):Option (Nat×Value):=
 match es.findIdx? λe=>gO t e.2.1 with
 |some j=>(xs[j]?).map λe=>(i+j,e.val)
 |none=>none
def yB(t:T)(e:Nat×T×DV)(es:List (Nat×T×DV))(x:MapEntry)(xs:List MapEntry)(i:Nat):kD t (e::es) (x::xs) i=if gO t e.2.1 then some (i,x.val)else kD t es xs (i+1):=by
 simp only[kD,Zbh];by_cases h:gO t e.2.1=true
 ·simp[h]
 ·simp only[h];cases List.findIdx? (λe=>gO t e.2.1) es with
  |none=>simp
  |some j=>simp[show i+1+j=i+(j+1)by omega]
def BH{k:TypeId}{cj:List Sh}{agg:Bool}(hk:il P k=some (cj,agg)){t:T}{x:Value}(ht:eM cj agg t)(hx:bj w (WW W ab L) t x):∀(es:List (Nat×T×DV)) (xs:List MapEntry) (i:Nat),bJ w W ab L es xs->(∀e∈es,eM cj agg e.2.1)->
  (Instr.findAsking k x xs i).run P w=.ok (kD t es xs i) w
 |[],xs,i,h,_=>by simp only[bJ]at h;subst h;simp[Instr.findAsking,kD]
 |e::es,xs,i,h,d0=>by
  simp only[bJ]at h;obtain⟨y,ys,rfl,_,h2,_,h4⟩:=h;have:=VS hk ht (d0 e (by simp)) hx h2;rw[yB];simp only[Instr.findAsking,Sem.run_bind,this,Result.andThen_ok];cases gO t e.2.1
  ·simpa using BH hk ht hx es ys (i+1) h4 λe he=>d0 e (by simp[he])
  ·simp
def BI{k:TypeId}{cj:List Sh}{d:TypeDesc}(hd:P.underlying k=some d)(hs:lp P 10000 k=some cj){t:T}{x:Value}(ht:eM cj (b8 d) t)(hx:bj w (WW W ab L) t x):∀(es:List (Nat×T×DV)) (xs:List MapEntry) (i:Nat),bJ w W ab L es xs->(∀e∈es,eM cj (b8 d) e.2.1)->
  Instr.findNow d x xs i=some (kD t es xs i)\/Instr.findNow d x xs i=none
 |[],xs,i,h,_=>by simp only[bJ]at h;subst h;simp[Instr.findNow,kD]
 |e::es,xs,i,h,d0=>by
  simp only[bJ]at h;obtain⟨y,ys,rfl,_,h2,_,h4⟩:=h;rw[yB];simp only[Instr.findNow];cases YC:Instr.sameNow d x y.key with
  |none=>right;rfl
  |some r=>
   have hr:r=gO t e.2.1:=by
    have lx:=QP ht hx;have ly:=QP (d0 e (by simp)) h2;unfold Instr.sameNow at YC;split at YC
    ·rename_i k1 a1 k2 a2 e2;split at YC
     ·rename_i hkk;subst hkk;simp only[Zaa]at YC;rw[lx.1 _ _ rfl,ly.1 _ _ e2,<-YC];simp only[gO];by_cases h:a1=a2<;>simp[h]
     ·cases YC
    ·rename_i a1 a2 e2;simp only[Zaa]at YC;rw[lx.2.1 _ rfl,ly.2.1 _ e2,<-YC];simp only[gO];by_cases h:a1=a2
     ·subst h;obtain⟨x⟩:=a1;simp only[decide_true];exact(show(x==x)=true by simp)
     ·simp only[h,decide_false];cases hb:a1==a2 with
      |false=>rfl
      |true=>exact Zar (by
        obtain⟨x⟩:=a1;obtain⟨y⟩:=a2;have e:x=y:=by simpa using(show(x==y)=true from hb)
        rw[e]) h
    ·rename_i a1 a2 e2;simp only[Zaa]at YC;rw[lx.2.2 _ rfl,ly.2.2 _ e2,<-YC];rfl
    ·cases YC
   subst hr;cases gO t e.2.1
   ·exact BI hd hs ht hx es ys (i+1) h4 λe he=>d0 e (by simp[he])
   ·simp
def vt{k:TypeId}(hk:il P k=some (cj,agg)){t:T}{x:Value}(ht:eM cj agg t)(hx:bj w (WW W ab L) t x){xs:List MapEntry}(h:bJ w W ab L es xs)(d0:∀e∈es,eM cj agg e.2.1):
  (Instr.findKey k x xs).run P w=.ok (kD t es xs 0) w:=by
 have ha:=BH hk ht hx es xs 0 h d0;unfold il at hk;split at hk
 ·rename_i d s hd hs;simp only[Zaa,Zav]at hk;obtain⟨rfl,rfl⟩:=hk;unfold Instr.findKey;simp only[Sem.run_bind,run_underlying hd,Result.andThen_ok];rcases BI hd hs ht hx es xs 0 h d0 with h1|h1
  ·rw[h1];simp
  ·rw[h1];exact ha
 ·cases hk
def bJ.length:∀{es:List (Nat×T×DV)} {xs:List MapEntry},bJ w W ab L es xs->xs.length=es.length
 |[],_,h=>by simp only[bJ]at h;simp[h]
 |e::es,_,h=>by
  simp only[bJ]at h;obtain⟨x,lz,rfl,_,_,_,h4⟩:=h;simp[bJ.length h4]
def bJ.get:∀{es:List (Nat×T×DV)} {xs:List MapEntry} {i:Nat} {e:Nat×T×DV},bJ w W ab L es xs->es[i]? =some e->∃x,xs[i]? =some x/\x.born=e.1/\bj w (WW W ab L) e.2.1 x.key/\aA w W ab L e.2.2 x.val
 |[],_,_,_,_,h=>by simp at h
 |e::es,_,0,_,hr,h=>by
  simp only[bJ]at hr;obtain⟨x,lz,rfl,h1,h2,h3,_⟩:=hr;simp only[ZaF,Zaa]at h;subst h;exact⟨x,rfl,h1,h2,h3⟩
 |e::es,_,i+1,_,hr,h=>by
  simp only[bJ]at hr;obtain⟨x,lz,rfl,_,_,_,h4⟩:=hr;simpa using bJ.get h4 (by simpa using h)
def bJ.append:∀{es m0:List (Nat×T×DV)} {xs lz:List MapEntry},bJ w W ab L es xs->bJ w W ab L m0 lz->bJ w W ab L (es++m0) (xs++lz)
 |[],_,_,_,h,k=>by simp only[bJ]at h;subst h;simpa using k
 |e::es,_,_,_,h,k=>by
  simp only[bJ]at h;obtain⟨x,xs1,rfl,h1,h2,h3,h4⟩:=h;simp only[ZaM,bJ];exact⟨x,_,rfl,h1,h2,h3,bJ.append h4 k⟩
def bJ.modify{y:DV}{v:Value}(hy:aA w W ab L y v):∀{es:List (Nat×T×DV)} {xs:List MapEntry} (i:Nat),bJ w W ab L es xs->bJ w W ab L (es.modify i λe=>(e.1,e.2.1,y)) (xs.modify i λe=>{e with val:=v})
 |[],_,i,h=>by simp only[bJ]at h;subst h;simp[bJ]
 |e::es,_,0,h=>by
  simp only[bJ]at h;obtain⟨x,xs1,rfl,h1,h2,h3,h4⟩:=h;simp only[Zco,bJ];exact⟨_,_,rfl,h1,h2,hy,h4⟩
 |e::es,_,i+1,h=>by
  simp only[bJ]at h;obtain⟨x,xs1,rfl,h1,h2,h3,h4⟩:=h;simp only[Zb4,bJ];exact⟨_,_,rfl,h1,h2,h3,bJ.modify hy i h4⟩
def bJ.erase:∀{es:List (Nat×T×DV)} {xs:List MapEntry} (i:Nat),bJ w W ab L es xs->bJ w W ab L (es.eraseIdx i) (xs.eraseIdx i)
 |[],_,i,h=>by simp only[bJ]at h;subst h;simp[bJ]
 |e::es,_,0,h=>by
  simp only[bJ]at h;obtain⟨x,xs1,rfl,h1,h2,h3,h4⟩:=h;simpa using h4
 |e::es,_,i+1,h=>by
  simp only[bJ]at h;obtain⟨x,xs1,rfl,h1,h2,h3,h4⟩:=h;simp only[List.eraseIdx_cons_succ,bJ];exact⟨_,_,rfl,h1,h2,h3,bJ.erase i h4⟩
def yC{d:DV}{x:Value}{t:T}(h:aA w W ab L d x)(hk:zV d=some t):bj w (WW W ab L) t x:=by
 cases d with
 |v t'=>simp only[zV,Zaa]at hk;subst hk;simpa only[aA]using h
 |agg cs=>
  simp only[zV,Zac]at hk;obtain⟨ts,Kr,rfl⟩:=hk;simp only[aA]at h;obtain⟨vs,rfl,hr⟩:=h;simp only[bj];refine⟨vs,rfl, ?_⟩;have key:∀(cs:bB) (ts:aK) (vs:List Value),NW cs=some ts->aQ w W ab L cs vs->du w (WW W ab L) ts vs:=by
   intro cs;induction cs with
   |nil=>intro ts vs h1 h2;simp only[NW,Zaa]at h1;subst h1;simpa [aQ,du]using h2
   |cons c cs ih=>
    intro ts vs h1 h2;cases c with
    |v u=>
     simp only[NW,Zac]at h1;obtain⟨us,VT,rfl⟩:=h1;simp only[aQ]at h2;obtain⟨y,ys,rfl,k1,k2,k3⟩:=h2;simp only[du];exact⟨y,ys,rfl,k1,by simpa only[aA]using k2,ih us ys VT k3⟩
    |_=>simp[NW]at h1
  exact key cs ts _ Kr hr
 |_=>simp[zV]at hk
def Obj.noRow:Obj->Prop
 |.cells _ _ _=>False
 |_=>True
def ba_beq(s:ByteArray):(s==s)=true:=by
 obtain⟨x⟩:=s;exact(show(x==x)=true by simp)
def gp{b:Nat}{x:Obj}(h:w.heap[b]? =some x)(hx:Obj.noRow x):(getObj b).run P w=.ok x w:=by
 cases x<;>first|exact hx.elim|simp[getObj,Sem.run,h]
def _root_.Go.World.gT(w:World)(b:Nat)(x:Obj):World:={w with heap:=w.heap.setIfInBounds b x}
def pi{b:Nat}{x y:Obj}(h:w.heap[b]? =some x)(hx:Obj.noRow x):(setObj b y).run P w=.ok () (w.gT b y):=by
 cases x<;>first|exact hx.elim|simp[setObj,Sem.run,h,World.gT]
def BJ{b:Nat}{x y:Obj}(h:w.heap[b]? =some x):(w.gT b y).heap[b]? =some y:=by
 have ln:b<w.heap.size:=(Zap.1 h).1;simp[World.gT,ln]
def sA{b k:Nat}{y:Obj}(h:k≠b):(w.gT b y).heap[k]? =w.heap[k]? :=by simp[World.gT,Ne.symm h]
def uF{b:Nat}{y:Obj}:(w.gT b y).heap.size=w.heap.size:=by simp[World.gT]
def GQ{g:Nat}(x:Obj)(h:Fr base M w0 w)(hg:base<=g\/M g):Fr base M w0 (w.gT g x):=
 ⟨h.os,h.tape,h.output,h.jq,by rw[uF];exact h.size,λk hk hm=>by
  rw[sA (by
    rintro rfl;rcases hg with h1|h1;·omega
    exact hm h1)]
  exact h.block k hk hm,h.drawn⟩
def sC(hO:ct base W M w0 ab w L){r c c':Nat}{kq:List Sh}{kr:Bool}{m0:List (Nat×T×DV)}(hc:ab r=some (.map cj agg c es)){D6:Array MapEntry}
  (hr:bJ w W ab L m0 D6.toList) (h1:∀e∈m0,eM kq kr e.2.1) (h2:∀e∈m0,e.1<c') (h3:(m0.map (·.1)).Nodup):
  ct base W M w0 (cG ab (some (r,.map kq kr c' m0))) (w.gT (L.I1 r) (.map D6 c')) L/\gP W ab L w (cG ab (some (r,.map kq kr c' m0))) L (w.gT (L.I1 r) (.map D6 c')):=by
 obtain⟨dT,hh,_,_,_,_,hm⟩:=hO.ob r _ hc;refine ct.put hO (GQ _ hO.fr hm) (by rw[uF];exact Zaf _) (λ_ _=>⟨rfl,rfl⟩) rfl (λb _ hb=>sA (λx=>hb _ hc (by simp[Loc.own,x])))
  (λb hb=>.inl ⟨_,hc,hb⟩) (λo' iA _=>by rw[hc]at iA;cases iA;exact⟨rfl,rfl⟩) (λbD e sz av h=>by rw[hc]at h;cases h) (λeZ=>?_)
 exact⟨D6,BJ hh,bJ.eZ eZ _ _ hr,h1,h2,h3,hm⟩
def qD:∀{cj:List Sh} {ts:aK} {vs:List Value} {W':fo} (n:Nat),eL cj ts->du w W' ts vs->(vs.zip vs).all (λx=>Instr.sameBits n x.1 x.2)=true
 |[],ts,vs,W',n,h,hr=>by simp only[eL]at h;subst h;simp only[du]at hr;subst hr;rfl
 |s::ss,[],_,_,_,h,_=>by simp[eL]at h
 |s::ss,t::ts,vs,W',n,h,hr=>by
  simp only[eL]at h;simp only[du]at hr;obtain⟨v,EY,rfl,_,h1,h2⟩:=hr;simp only[List.zip_cons_cons,ZcG,Zam];refine⟨?_,qD n h.2 h2⟩;have hs:=h.1;cases s<;>cases t<;>first|exact Zar hs ZaL|skip
  all_goals (simp only[bj]at h1;subst h1;cases n<;>simp[Instr.sameBits,ba_beq])
def KW{t:T}{x:Value}(h:eM cj agg t)(hr:bj w W' t x):Instr.sameBits 10000 x x=true:=by
 cases t with
 |agg as=>
  simp only[eM]at h;simp only[bj]at hr;obtain⟨vs,rfl,hr⟩:=hr;simp only[Instr.sameBits,beq_self_eq_true,ZcF];exact qD 9999 h.2 hr
 |_=>
  simp only[eM]at h;obtain⟨s,rfl,hs⟩:=oF h.2;have h1:x.oneCell'=true:=by cases s<;>first|exact Zar hs ZaL|(simp only[bj]at hr;subst hr;rfl)
  have:=qD (w:=w) (W':=W') 10000 h.2 (vs:=[x]) (by simp only[du];exact⟨x,[],rfl,h1,hr,rfl⟩);simpa using this
def GR:∀{cj:List Sh} {ts:aK} {vs us:List Value} {W':fo},eL cj ts->du w W' ts vs->du w W' ts us->vs=us
 |[],ts,vs,us,W',h,h1,h2=>by simp only[eL]at h;subst h;simp only[du]at h1 h2;rw[h1,h2]
 |s::ss,[],_,_,_,h,_,_=>by simp[eL]at h
 |s::ss,t::ts,vs,us,W',h,h1,h2=>by
  simp only[eL]at h;simp only[du]at h1 h2;obtain⟨v,EY,rfl,_,k1,k2⟩:=h1;obtain⟨u,us',rfl,_,l1,l2⟩:=h2;have hs:=h.1;rw[GR h.2 k2 l2]
  congr 1
  cases s<;>cases t<;>first|exact Zar hs ZaL|skip
  all_goals (simp only[bj]at k1 l1;rw[k1,l1])
def QQ{t:T}{x y:Value}(h:eM cj agg t)(hx:bj w W' t x)(hy:bj w W' t y):x=y:=by
 cases t with
 |agg as=>
  simp only[eM]at h;simp only[bj]at hx hy;obtain⟨vs,rfl,hx⟩:=hx;obtain⟨us,rfl,hy⟩:=hy;have:=GR h.2 hx hy;rw[Array.toList_inj.1 this]
 |_=>
  simp only[eM]at h;obtain⟨s,rfl,hs⟩:=oF h.2;cases s<;>first|exact Zar hs ZaL|(simp only[bj]at hx hy;rw[hx,hy])
end
end
section
variable{et kt yt:TypeId}{z d1 d2 d3 d:DV}{es:List (Nat×T×DV)}{cj:List Sh}{agg neg:Bool}{xs:List MapEntry}{name:Nat}{op:BinOp}{y':bQ}
variable [bI]
section
variable{P:Program}{base:Nat}{W M:fo}{w0:World}{ab:bq}{L:Loc}{w:World}{a:Act}{o:Oper}
def GS(h:GD P et=some z):∃zv,(zeroValue et).run P w=.ok zv w/\aA w W ab L z zv:=by
 unfold GD at h;simp only[Zaj,Zad]at h;obtain⟨i,hi,zv,hz,h⟩:=h;refine⟨zv,by simp[zeroValue,typeInfo,hi,hz], ?_⟩;split at h
 ·rename_i cs;simp only[Zac]at h;obtain⟨ds,hds,rfl⟩:=h;simp only[aA];exact⟨cs,rfl,iR hds⟩
 ·exact(wE h).1
def yD(t:T)(es:List (Nat×T×DV)):qP t es=(es.findIdx? λe=>gO t e.2.1).bind (es[·]?):=by
 unfold qP;induction es with
 |nil=>rfl
 |cons e es ih=>
  simp only[Za6,Zbh];by_cases h:gO t e.2.1=true
  ·simp[h]
  ·simp only[h,ih];cases List.findIdx? (λe=>gO t e.2.1) es<;>simp
def In{t:T}{i:Nat}(h:(es.findIdx? λe=>gO t e.2.1)=some i):∃e,es[i]? =some e/\gO t e.2.1=true:=by
 induction es generalizing i with
 |nil=>simp at h
 |cons e es ih=>
  simp only[Zbh]at h;by_cases he:gO t e.2.1=true
  ·simp only[he,if_true,Zaa]at h;subst h;exact⟨e,rfl,he⟩
  ·rw[Zab he,Zac]at h;obtain⟨j,hj,rfl⟩:=h;simpa using ih hj
def HW(hO:ct base W M w0 ab w L){t:TypeId}{x k:Operand}{ok:Bool}(ho:o.op=.lookup t x k ok)(ht:P.underlying t=some (.map kt et))(hk:il P kt=some (cj,agg))(hz:GD P et=some z)
   (h1:aA w W ab L d1 (a.eval x)) (h2:aA w W ab L d2 (a.eval k)) (dq:(mw cj agg z ok ab d1 d2).ok):cH P base W M w0 ab L w a o (mw cj agg z ok ab d1 d2):=by
 unfold mw at dq⊢;split at dq
 ·rename_i r YD YE;cases hc:ab r with
  |none=>simp[hc,cZ]at dq
  |some ob=>
   cases ob with
   |map kq kr c es=>
    simp only[hc]at dq⊢;obtain⟨rfl,rfl,pN⟩:=dq;simp only[aA]at h1;obtain⟨_,hx⟩:=h1;have yE:=yC h2 YE;obtain⟨dT,hh,pP,d0,_,_,_⟩:=hO.ob r _ hc;have Cy:=λem=>sy (P:=P) (w:=w) hk pN yE em;have hf:=vt (P:=P) hk pN yE pP d0;have hg:=gp (P:=P) hh trivial;simp only[YE];rw[yD];unfold kD at hf;cases hi:es.findIdx? (λe=>gO YD e.2.1)with
    |none=>
     simp only[hi]at hf;obtain⟨zv,hzr,hzd⟩:=GS (P:=P) (w:=w) (W:=W) (ab:=ab) (L:=L) hz;simp only[Option.bind_none];have bW:(Instr.lookup t (.map (some (L.I1 r))) (a.eval k) ok).run P w=.ok (if ok then .tuple #[zv,.bool false]else zv) w:=by
      simp[Instr.lookup,run_underlying ht,hg,Cy,hf,hzr]
     refine cH.lJ hO rfl (v:=if ok then .tuple #[zv,.bool false]else zv) (by simp[execOp,ho,hx,bW]) ?_;cases ok
     ·simpa using hzd
     ·simp only[if_true,aA];exact⟨_,rfl,by simp only[eE];exact⟨zv,_,rfl,hzd,.bool false,[],rfl,by simp[aA,bj],rfl⟩⟩
    |some i=>
     obtain⟨e,he,hq⟩:=In hi;obtain⟨xe,F5,_,_,hv⟩:=bJ.get pP he;simp only[hi,F5,Za8]at hf;simp only[Zcr,he];have bW:(Instr.lookup t (.map (some (L.I1 r))) (a.eval k) ok).run P w=.ok (if ok then .tuple #[xe.val,.bool true]else xe.val) w:=by
      simp[Instr.lookup,run_underlying ht,hg,Cy,hf]
     refine cH.lJ hO rfl (v:=if ok then .tuple #[xe.val,.bool true]else xe.val) (by simp[execOp,ho,hx,bW]) ?_;cases ok
     ·simpa using hv
     ·simp only[if_true,aA];exact⟨_,rfl,by simp only[eE];exact⟨xe.val,_,rfl,hv,.bool true,[],rfl,by simp[aA,bj],rfl⟩⟩
   |_=>simp[hc,cZ]at dq
 ·exact dq.elim
def yF{y:DV}(i:Nat):(es.modify i λe=>(e.1,e.2.1,y)).map (·.1)=es.map (·.1):=by
 induction es generalizing i with
 |nil=>simp
 |cons e es ih=>cases i<;>simp[ih]
def p7{y:DV}(i:Nat){e:Nat×T×DV}(h:e∈es.modify i λe=>(e.1,e.2.1,y)):∃e'∈es,e.1=e'.1/\e.2.1=e'.2.1:=by
 induction es generalizing i with
 |nil=>simp at h
 |cons e0 es ih=>
  cases i with
  |zero=>
   simp only[Zco,Zah]at h;rcases h with rfl|h
   ·exact⟨e0,by simp,rfl,rfl⟩
   ·exact⟨e,by simp[h],rfl,rfl⟩
  |succ i=>
   simp only[Zb4,Zah]at h;rcases h with rfl|h
   ·exact⟨e,by simp,rfl,rfl⟩
   ·obtain⟨e',h1,h2⟩:=ih i h;exact⟨e',by simp[h1],h2⟩
def OD{es:List (Nat×T×DV)}{i:Nat}{v key:Value}{x:MapEntry}(hx:xs[i]? =some x)(hk:x.key=key):(xs.modify i λe=>{e with key:=key,val:=v})=xs.modify i λe=>{e with val:=v}:=by
 induction xs generalizing i with
 |nil=>simp
 |cons y ys ih=>
  cases i with
  |zero=>
   simp only[ZaF,Zaa]at hx;subst hx hk;simp
  |succ i=>
   simp only[Zb4,Za1,true_and];exact ih (by simpa using hx)
def HX(hO:ct base W M w0 ab w L){t:TypeId}{x k y:Operand}(ho:o.op=.mapUpdate t x k y)(ht:P.underlying t=some (.map kt et))(hk:il P kt=some (cj,agg))
   (h1:aA w W ab L d1 (a.eval x)) (h2:aA w W ab L d2 (a.eval k)) (h3:aA w W ab L d3 (a.eval y)) (dq:(ja cj agg ab d1 d2 d3).ok):cH P base W M w0 ab L w a o (ja cj agg ab d1 d2 d3):=by
 unfold ja at dq⊢;split at dq
 ·rename_i r YD YE;cases hc:ab r with
  |none=>simp[hc,cZ]at dq
  |some ob=>
   cases ob with
   |map kq kr c es=>
    simp only[hc]at dq⊢;obtain⟨rfl,rfl,pN,hb⟩:=dq;simp only[aA]at h1;obtain⟨_,hx⟩:=h1;have yE:=yC h2 YE;obtain⟨dT,hh,pP,d0,ln,yd,hm⟩:=hO.ob r _ hc;have Cy:=λem=>sy (P:=P) (w:=w) hk pN yE em;have hf:=vt (P:=P) hk pN yE pP d0;have hg:=gp (P:=P) hh trivial;have hs:=λy=>pi (P:=P) (y:=y) hh trivial;simp only[YE];unfold kD at hf;unfold HJ oR;cases hi:es.findIdx? (λe=>gO YD e.2.1)with
    |none=>
     simp only[hi]at hf;simp only;have bW:(Instr.mapUpdate t (.map (some (L.I1 r))) (a.eval k) (a.eval y)).run P w=.ok () (w.gT (L.I1 r) (.map (dT.push {key:=a.eval k,val:=a.eval y,born:=c}) (c+1))):=by
      simp[Instr.mapUpdate,run_underlying ht,hg,Cy,hf,hs]
     have:=sC hO hc (kq:=kq) (kr:=kr) (c':=c+1) (m0:=es++[(c,YD,d3)]) (D6:=dT.push {key:=a.eval k,val:=a.eval y,born:=c})
      (by rw[Array.toList_push];exact bJ.append pP (by simp only[bJ];exact⟨_,_,rfl,rfl,yE,h3,rfl⟩))
      (λe he=>by
        rcases Zaq.1 he with he|he;·exact d0 e he
        ·simp only[Zan]at he;subst he;exact pN)
      (λe he=>by
        rcases Zaq.1 he with he|he;·have:=ln e he;omega
        ·simp only[Zan]at he;subst he;simp)
      (by rw[ZaZ,Zb7];exact⟨yd,by simp,λb hb b2 fH=>by
         simp only[ZaA,ZbL,Zan]at fH;obtain⟨e,he,rfl⟩:=Zak.1 hb;have:=ln e he;omega⟩)
     exact⟨.skip,Go.undef,_,L,by simp[execOp,ho,hx,bW],.inr ⟨rfl,rfl⟩,this.1,this.2,by simp[aA]⟩
    |some i=>
     obtain⟨e,he,hq⟩:=In hi;obtain⟨xe,F5,_,hxk,hv⟩:=bJ.get pP he;simp only[hi,F5,Za8]at hf;have hte:YD=e.2.1:=QO pN (d0 e (Zax he)) hq;have OE:xe.key=a.eval k:=QQ pN (by rw[hte];exact hxk) yE;have hkts:(Instr.keyThatStays xe.key (a.eval k)).run P w=.ok (a.eval k) w:=by
      rw[OE];simp[Instr.keyThatStays,KW pN yE]
     have hai:dT[i]? =some xe:=by simpa using F5
     have bW:(Instr.mapUpdate t (.map (some (L.I1 r))) (a.eval k) (a.eval y)).run P w=.ok () (w.gT (L.I1 r) (.map (dT.modify i λe=>{e with key:=a.eval k,val:=a.eval y}) c)):=by
      simp[Instr.mapUpdate,run_underlying ht,hg,Cy,hf,hs,hai,hkts]
     have B6:(dT.modify i λe=>{e with key:=a.eval k,val:=a.eval y}).toList=dT.toList.modify i λe=>{e with val:=a.eval y}:=by
      rw[ZcQ];exact OD (es:=es) (by simpa using hai) OE
     simp only;have:=sC hO hc (kq:=kq) (kr:=kr) (c':=c) (m0:=es.modify i λe=>(e.1,e.2.1,d3)) (D6:=dT.modify i λe=>{e with key:=a.eval k,val:=a.eval y})
      (by rw[B6];exact bJ.modify h3 i pP)
      (λe he=>by obtain⟨e',h1,_,h2⟩:=p7 i he;rw[h2];exact d0 e' h1)
      (λe he=>by obtain⟨e',h1,h2,_⟩:=p7 i he;rw[h2];exact ln e' h1)
      (by rw[yF];exact yd)
     exact⟨.skip,Go.undef,_,L,by simp[execOp,ho,hx,bW],.inr ⟨rfl,rfl⟩,this.1,this.2,by simp[aA]⟩
   |_=>simp[hc,cZ]at dq
 ·exact dq.elim
def HY(hO:ct base W M w0 ab w L){t:TypeId}{x k:Operand}(ho:o.op=.mapEntry t x k)(ht:P.underlying t=some (.map kt et))(hk:il P kt=some (cj,agg))(hz:GD P et=some z)
   (h1:aA w W ab L d1 (a.eval x)) (h2:aA w W ab L d2 (a.eval k)) (dq:(jd cj agg z ab d1 d2).ok):cH P base W M w0 ab L w a o (jd cj agg z ab d1 d2):=by
 unfold jd at dq⊢;split at dq
 ·rename_i r YD YE;cases hc:ab r with
  |none=>simp[hc,cZ]at dq
  |some ob=>
   cases ob with
   |map kq kr c es=>
    simp only[hc]at dq⊢;obtain⟨rfl,rfl,pN⟩:=dq;simp only[aA]at h1;obtain⟨_,hx⟩:=h1;have yE:=yC h2 YE;obtain⟨dT,hh,pP,d0,ln,yd,hm⟩:=hO.ob r _ hc;have Cy:=λem=>sy (P:=P) (w:=w) hk pN yE em;have hf:=vt (P:=P) hk pN yE pP d0;have hg:=gp (P:=P) hh trivial;have hs:=λy=>pi (P:=P) (y:=y) hh trivial;simp only[YE];unfold entV;rw[yD];unfold kD at hf;unfold entE oR;cases hi:es.findIdx? (λe=>gO YD e.2.1)with
    |none=>
     simp only[hi]at hf;obtain⟨zv,hzr,hzd⟩:=GS (P:=P) (w:=w) (W:=W) (ab:=ab) (L:=L) hz;simp only[Option.bind_none];have bW:(Instr.mapEntry t (.map (some (L.I1 r))) (a.eval k)).run P w=.ok (.tuple #[zv,goInt c]) (w.gT (L.I1 r) (.map (dT.push {key:=a.eval k,val:=zv,born:=c}) (c+1))):=by
      simp[Instr.mapEntry,run_underlying ht,hg,Cy,hf,hs,hzr]
     have:=sC hO hc (kq:=kq) (kr:=kr) (c':=c+1) (m0:=es++[(c,YD,z)]) (D6:=dT.push {key:=a.eval k,val:=zv,born:=c})
      (by rw[Array.toList_push];exact bJ.append pP (by simp only[bJ];exact⟨_,_,rfl,rfl,yE,hzd,rfl⟩))
      (λe he=>by
        rcases Zaq.1 he with he|he;·exact d0 e he
        ·simp only[Zan]at he;subst he;exact pN)
      (λe he=>by
        rcases Zaq.1 he with he|he;·have:=ln e he;omega
        ·simp only[Zan]at he;subst he;simp)
      (by rw[ZaZ,Zb7];exact⟨yd,by simp,λb hb b2 fH=>by
         simp only[ZaA,ZbL,Zan]at fH;obtain⟨e,he,rfl⟩:=Zak.1 hb;have:=ln e he;omega⟩)
     refine⟨.value (.tuple #[zv,goInt c]),.tuple #[zv,goInt c],_,L,by simp[execOp,ho,hx,bW],.inl rfl,this.1,this.2, ?_⟩;have hz2:=aA.eZ this.2 _ _ hzd;simp only[aA];exact⟨_,rfl,by simp only[eE];exact⟨zv,_,rfl,hz2,goInt c,[],rfl,by simp[aA,bj,goInt],rfl⟩⟩
    |some i=>
     obtain⟨e,he,hq⟩:=In hi;obtain⟨xe,F5,NG,hxk,hv⟩:=bJ.get pP he;simp only[hi,F5,Za8]at hf;have hte:YD=e.2.1:=QO pN (d0 e (Zax he)) hq;have OE:xe.key=a.eval k:=QQ pN (by rw[hte];exact hxk) yE;have hkts:(Instr.keyThatStays xe.key (a.eval k)).run P w=.ok (a.eval k) w:=by
      rw[OE];simp[Instr.keyThatStays,KW pN yE]
     have hai:dT[i]? =some xe:=by simpa using F5
     have B6:(dT.modify i λe=>{e with key:=a.eval k}).toList=dT.toList:=by
      rw[ZcQ];apply ZbN;intro j;rw[List.getElem?_modify];split
      ·rename_i hj;subst hj;rw[F5];simp[<-OE]
      ·simp
     have bW:(Instr.mapEntry t (.map (some (L.I1 r))) (a.eval k)).run P w=.ok (.tuple #[xe.val,goInt xe.born]) (w.gT (L.I1 r) (.map (dT.modify i λe=>{e with key:=a.eval k}) c)):=by
      simp[Instr.mapEntry,run_underlying ht,hg,Cy,hf,hs,hai,hkts]
     have:=sC hO hc (kq:=kq) (kr:=kr) (c':=c) (m0:=es) (D6:=dT.modify i λe=>{e with key:=a.eval k})
      (by rw[B6];exact pP) d0 ln yd
     simp only[Zcr,he];refine⟨.value (.tuple #[xe.val,goInt xe.born]),.tuple #[xe.val,goInt xe.born],_,L,by simp[execOp,ho,hx,bW],.inl rfl,this.1,this.2, ?_⟩;have hz2:=aA.eZ this.2 _ _ hv;simp only[aA];exact⟨_,rfl,by simp only[eE];exact⟨xe.val,_,rfl,hz2,goInt xe.born,[],rfl,by simp[aA,bj,goInt,NG],rfl⟩⟩
   |_=>simp[hc,cZ]at dq
 ·exact dq.elim
def YF{b:Int}(h:bJ w W ab L es xs):xs.findIdx? (λe=>(e.born:Int)==b)=es.findIdx? (λe=>(e.1:Int)==b):=by
 induction es generalizing xs with
 |nil=>simp only[bJ]at h;subst h;rfl
 |cons e es ih=>
  simp only[bJ]at h;obtain⟨x,lz,rfl,hb,_,_,hr⟩:=h;simp only[Zbh,ih hr,hb]
def KA(hO:ct base W M w0 ab w L){t:TypeId}{x s y:Operand}(ho:o.op=.entryStore t x s y)
   (h1:aA w W ab L d1 (a.eval x)) (h2:aA w W ab L d2 (a.eval s)) (h3:aA w W ab L d3 (a.eval y)) (dq:(ku ab d1 d2 d3).ok):cH P base W M w0 ab L w a o (ku ab d1 d2 d3):=by
 unfold ku at dq⊢;split at dq
 ·rename_i r kk b;cases hc:ab r with
  |none=>simp[hc,cZ]at dq
  |some ob=>
   cases ob with
   |map cj agg c es=>
    simp only[hc]at dq⊢;simp only[aA,bj]at h1 h2;obtain⟨_,hx⟩:=h1;obtain⟨dT,hh,pP,d0,ln,yd,hm⟩:=hO.ob r _ hc;have hg:=gp (P:=P) hh trivial;have hs:=λy=>pi (P:=P) (y:=y) hh trivial;unfold setB at dq⊢;cases hi:es.findIdx? (λe=>(e.1:Int)==b)with
    |none=>simp[hi,cZ]at dq
    |some i=>
     simp only[Za8];have hbi:=(YF (b:=b) pP).trans hi;have hbi':dT.findIdx? (λe=>(e.born:Int)==b)=some i:=by rw[<-hbi];cases dT;simp
     have bW:(Instr.entryStore t (.map (some (L.I1 r))) (.int kk b) (a.eval y)).run P w=.ok () (w.gT (L.I1 r) (.map (dT.modify i λe=>{e with val:=a.eval y}) c)):=by
      simp[Instr.entryStore,hg,hs,asInt,asIntOf,hbi']
     have:=sC hO hc (kq:=cj) (kr:=agg) (c':=c) (m0:=es.modify i λe=>(e.1,e.2.1,d3)) (D6:=dT.modify i λe=>{e with val:=a.eval y})
      (by rw[ZcQ];exact bJ.modify h3 i pP)
      (λe he=>by obtain⟨e',h1,_,h2⟩:=p7 i he;rw[h2];exact d0 e' h1)
      (λe he=>by obtain⟨e',h1,h2,_⟩:=p7 i he;rw[h2];exact ln e' h1)
      (by rw[yF];exact yd)
     exact⟨.skip,Go.undef,_,L,by simp[execOp,ho,hx,h2,bW],.inr ⟨rfl,rfl⟩,this.1,this.2,by simp[aA]⟩
   |_=>simp[hc,cZ]at dq
 ·exact dq.elim
def H1(hO:ct base W M w0 ab w L){t:TypeId}{x k:Operand}{ts:Array TypeId}(Kr:ts[0]? =some t)(ho:o.op=.call {callee:=.builtin .delete,args:= #[x,k],argTypes:=ts})(ht:P.underlying t=some (.map kt et))(hk:il P kt=some (cj,agg))
   (h1:aA w W ab L d1 (a.eval x)) (h2:aA w W ab L d2 (a.eval k)) (dq:(je cj agg ab d1 d2).ok):cH P base W M w0 ab L w a o (je cj agg ab d1 d2):=by
 unfold je at dq⊢;split at dq
 ·rename_i r YD YE;cases hc:ab r with
  |none=>simp[hc,cZ]at dq
  |some ob=>
   cases ob with
   |map kq kr c es=>
    simp only[hc]at dq⊢;obtain⟨rfl,rfl,pN⟩:=dq;simp only[aA]at h1;obtain⟨_,hx⟩:=h1;have yE:=yC h2 YE;obtain⟨dT,hh,pP,d0,ln,yd,hm⟩:=hO.ob r _ hc;have Cy:=λem=>sy (P:=P) (w:=w) hk pN yE em;have hf:=vt (P:=P) hk pN yE pP d0;have hg:=gp (P:=P) hh trivial;have hs:=λy=>pi (P:=P) (y:=y) hh trivial;simp only[YE];unfold kD at hf;unfold delE;cases hi:es.findIdx? (λe=>gO YD e.2.1)with
    |none=>
     simp only[hi]at hf;simp only;have:=sC hO hc (kq:=kq) (kr:=kr) (c':=c) (m0:=es) (D6:=dT) pP d0 ln yd;refine⟨.value (.tuple #[]),.tuple #[],_,L, ?_,.inl rfl,this.1,this.2,by simp only[aA,bj,fN];exact⟨_,rfl,rfl⟩⟩;simp[execOp,ho,resolve,invoke,builtin,Builtin.delete_,Kr,hx,run_underlying ht,hg,Cy,hf,hs]
    |some i=>
     obtain⟨e,he,hq⟩:=In hi;obtain⟨xe,F5,_,hxk,hv⟩:=bJ.get pP he;simp only[hi,F5,Za8]at hf;have B6:(dT.eraseIdxIfInBounds i).toList=dT.toList.eraseIdx i:=by
      have:i<dT.size:=by have:=(Zaw.1 F5).1;simpa using this
      unfold Array.eraseIdxIfInBounds;simp[this]
     simp only;have:=sC hO hc (kq:=kq) (kr:=kr) (c':=c) (m0:=es.eraseIdx i) (D6:=dT.eraseIdxIfInBounds i)
      (by rw[B6];exact bJ.erase i pP)
      (λe he=>d0 e (ZcA he))
      (λe he=>ln e (ZcA he))
      (List.Sublist.nodup ((List.eraseIdx_sublist _ _).map _) yd)
     refine⟨.value (.tuple #[]),.tuple #[],_,L, ?_,.inl rfl,this.1,this.2,by simp only[aA,bj,fN];exact⟨_,rfl,rfl⟩⟩;simp[execOp,ho,resolve,invoke,builtin,Builtin.delete_,Kr,hx,run_underlying ht,hg,Cy,hf,hs]
   |_=>simp[hc,cZ]at dq
 ·exact dq.elim
def N6(hO:ct base W M w0 ab w L){x:Operand}{t:TypeId}(ho:o.op=.call {callee:=.builtin .len,args:= #[x],argTypes:= #[t]})(ht:P.underlying t=some (.map kt et))(h:aA w W ab L d (a.eval x))(dq:(r9 ab d).ok):
  cH P base W M w0 ab L w a o (r9 ab d):=by
 unfold r9 at dq⊢;split at dq
 ·rename_i r;cases hc:ab r with
  |none=>simp[hc,cZ]at dq
  |some ob=>
   cases ob with
   |map cj agg c es=>
    simp only[aA]at h;obtain⟨_,hx⟩:=h;obtain⟨dT,hh,pP,_⟩:=hO.ob r _ hc;have hg:=gp (P:=P) hh trivial;have hl:=bJ.length pP;simp only[Za3]at hl;refine cH.int hO rfl rfl ?_;simp[execOp,ho,resolve,invoke,builtin,hx,Builtin.len_,run_underlying ht,goInt,hg,hl]
   |_=>simp[hc,cZ]at dq
 ·exact dq.elim
def Kz(hO:ct base W M w0 ab w L)(vx:ab name=none){t:TypeId}(ho:o.op=.makeMap t none)(cj:List Sh)(agg:Bool):
  cH P base W M w0 ab L w a o ⟨True,.iE name,some (name,.map cj agg 0 [])⟩:=by
 have hb:=kW (w:=w) (.map #[] 0);have h:=ct.put hO (r:=name) (L':=L.g6 name w.heap.size) (o':=.map cj agg 0 []) (xW hO.fr hb) hb.size (λx hx=>⟨by simp[Loc.g6,hx],rfl⟩) rfl (λb ln _=>hb.block b ln) (λb h=>.inr (by
   simp only[Loc.own,Loc.g6,if_true,Zaa]at h;omega))
  (λo' h _=>by rw[vx]at h;cases h) (λ_ _ _ _ h=>by rw[vx]at h;cases h) (λeZ=>by
   refine⟨#[], ?_,by simp[bJ],by simp,by simp,by simp,.inl ?_⟩
   ·simp only[Loc.g6,if_true];exact heap_alloc_new w _
   ·simp only[Loc.g6,if_true];exact ZaP hO.fr.jq hO.fr.size)
 refine⟨_,.map (some w.heap.size),_,_, ?_,.inl rfl,h.1,h.2, ?_⟩
 ·simp[execOp,ho,Instr.makeMap]
 ·simp only[aA];exact⟨⟨cj,agg,0,[],by simp[cG]⟩,by simp[Loc.g6]⟩
def HZ(hO:ct base W M w0 ab w L)(vx:ab name=none){x:Operand}{t:TypeId}(ho:o.op=.range t x)(ht:P.underlying t=some (.map kt et))(h:aA w W ab L d (a.eval x))(dq:(kU name ab d).ok):
  cH P base W M w0 ab L w a o (kU name ab d):=by
 unfold kU at dq⊢;split at dq
 ·rename_i r;cases hc:ab r with
  |none=>simp[hc,cZ]at dq
  |some ob=>
   cases ob with
   |map cj agg c es=>
    simp only[aA]at h;obtain⟨Ny,hx⟩:=h;obtain⟨dT,hh,pP,_⟩:=hO.ob r _ hc;have hg:=gp (P:=P) hh trivial;have bT:r≠name:=λe=>by rw[e,vx]at hc;cases hc
    have hb:=kW (w:=w) (.mapIter (some (L.I1 r)) c #[] c);have h:=ct.put hO (r:=name) (L':=L.g6 name w.heap.size) (o':=.kc r c [] c) (xW hO.fr hb) hb.size (λx hx=>⟨by simp[Loc.g6,hx],rfl⟩) rfl (λb ln _=>hb.block b ln) (λb h=>.inr (by
      simp only[Loc.own,Loc.g6,if_true,Zaa]at h;omega))
     (λo' h _=>by rw[vx]at h;cases h) (λ_ _ _ _ h=>by rw[vx]at h;cases h) (λeZ=>by
      refine⟨?_,⟨cj,agg,c,es,by simp[cG,bT,hc]⟩,.inl ?_⟩
      ·simp only[Loc.g6,if_true,bT,if_false];exact heap_alloc_new w _
      ·simp only[Loc.g6,if_true];exact ZaP hO.fr.jq hO.fr.size)
    simp only[];refine⟨_,.pointer (some ⟨w.heap.size,0,none⟩),_,_, ?_,.inl rfl,h.1,h.2, ?_⟩
    ·simp[execOp,ho,Instr.range,hx,run_underlying ht,hg]
    ·simp only[aA];exact⟨⟨r,c,[],c,by simp[cG]⟩,by simp[Loc.g6]⟩
   |_=>simp[hc,cZ]at dq
 ·exact dq.elim
def D7{b:Nat}:∀{es:List (Nat×T×DV)} {xs:List MapEntry},bJ w W ab L es xs->∀{e:Nat×T×DV},(es.find? λe=>e.1==b)=some e->∃x,(xs.find? λx=>x.born==b)=some x/\bj w (WW W ab L) e.2.1 x.key/\aA w W ab L e.2.2 x.val
 |[],_,_,e,h=>by simp at h
 |e0::es,xs,hr,e,h=>by
  simp only[bJ]at hr;obtain⟨x,lz,rfl,h1,h2,h3,h4⟩:=hr;simp only[Za6,h1]at h⊢;by_cases hb:(e0.1==b)=true
  ·simp only[hb]at h⊢;cases h;exact⟨x,rfl,h2,h3⟩
  ·simp only[hb]at h⊢;exact D7 h4 h
def H6(hO:ct base W M w0 ab w L){x:Operand}(ho:o.op=.entry x)(h:aA w W ab L d (a.eval x))(dq:(kV ab d).ok):
  cH P base W M w0 ab L w a o (kV ab d):=by
 unfold kV at dq⊢;split at dq
 ·rename_i r;cases hc:ab r with
  |none=>simp[hc,cZ]at dq
  |some ob=>
   cases ob with
   |kc m s sn l=>
    simp only[hc]at dq⊢;cases hm:ab m with
    |none=>simp[hm,cZ]at dq
    |some om=>
     cases om with
     |map cj agg c es=>
      simp only[hm]at dq⊢;cases hl:sn.getLast? with
      |none=>simp[hl,cZ]at dq
      |some b=>
       simp only[hl]at dq⊢;cases hf:es.find? (λe=>e.1==b)with
       |none=>simp[hf,cZ]at dq
       |some e=>
        simp only[hf]at dq⊢;subst dq;simp only[aA]at h;obtain⟨_,hx⟩:=h;obtain⟨hh,_,_⟩:=hO.ob r _ hc;obtain⟨dT,hh2,pP,_⟩:=hO.ob m _ hm;have hg:=gp (P:=P) hh trivial;have hg2:=gp (P:=P) hh2 trivial;obtain⟨xe,F5,k1,k2⟩:=D7 pP hf;have hback:sn.toArray.back? =some b:=by rw[List.back?_toArray];exact hl
        have Vq:dT.find? (λx=>x.born==b)=some xe:=by rw[<-Array.find?_toList];exact F5
        refine cH.lJ hO rfl (v:=.tuple #[xe.key,xe.val]) ?_ ?_
        ·simp[execOp,ho,Instr.entry,hx,hg,hback,hg2,Vq]
        ·simp only[aA];exact⟨_,rfl,by simp only[eE];exact⟨_,_,rfl,by simpa [aA]using k1,_,_,rfl,k2,rfl⟩⟩
     |_=>simp[hm,cZ]at dq
   |_=>simp[hc,cZ]at dq
 ·exact dq.elim
def H0(hO:ct base W M w0 ab w L){t:TypeId}{x i:Operand}(ho:o.op=.index t x i)(ht:P.underlying t=some .string)(h1:aA w W ab L d1 (a.eval x))(h2:aA w W ab L d2 (a.eval i))(dq:(oE d1 d2).ok):
  cH P base W M w0 ab L w a o (oE d1 d2):=by
 unfold oE at dq⊢;split at dq
 ·rename_i s k j;simp only[aA,bj]at h1 h2;obtain⟨h0,ln⟩:=dq;have hj:j.toNat<s.size:=by omega
  have hj':j.toNat<s.data.size:=hj;have mF:s[j.toNat]? =some (s.data.getD j.toNat 0):=by
   rw[getElem?_pos s j.toNat hj];simp[Array.getD,ByteArray.getElem_eq_getElem_data];intro h;omega
  refine cH.int hO rfl rfl ?_;simp[execOp,ho,Instr.index,h1,h2,asIntOf,run_underlying ht,h0,mF]
 ·exact dq.elim
def Io(NA:op=if neg then .neq else .eql){t:TypeId}{x y:Operand}(ho:o.op=.binOp op t x y yt){r:Bool}(bT:∀k n,a.eval x≠ .int k n)(hni:a.eval x≠ .nilIface)(hna:∀cs,a.eval x≠ .agg cs)(hnf:∀k b,a.eval x≠ .float k b)(Lk:∀k b c,a.eval x≠ .complex k b c)(hns:∀s,a.eval x≠ .string s)
  (he:(Op.equal t (a.eval x) (a.eval y)).run P w=.ok r w) (hg:(eqGuard op t x y (a.eval x) (a.eval y)).run P w=.ok () w):(execOp a.eval o).run P w=.ok (.value (.bool (neg^^r))) w:=by
 have hb:(binOp op t (a.eval x) (a.eval y)).run P w=.ok (.bool (neg^^r)) w:=by
  generalize a.eval x=xv at*
  subst NA;cases neg<;>cases xv<;>first|exact Zar rfl (bT _ _)|exact Zar rfl hni|exact Zar rfl (hna _)|exact Zar rfl (hnf _ _)|exact Zar rfl (Lk _ _ _)|exact Zar rfl (hns _)|simp[binOp,he]
 simp[execOp,ho,hg,hb]
def KX{d:TypeDesc}{y:Operand}{k:Nat}(hy:bQ.of y=some y')(h:xY d y'=some k):
  (k=0/\(∃e,d=.slice e)/\a.eval y=.slice none 0 0)\/(k=1/\(∃e,d=.pointer e)/\a.eval y=.pointer none)\/(k=2/\(∃p r v,d=.func p r v)/\a.eval y=.nilFunc):=by
 unfold xY at h;have key:∀{z:DV},bQ.of y=some (.gN z)->∃v,a.eval y=v/\(my v=some z\/(∃f,z=.v (.fn f []))\/∃c,z=.iD c 0):=by
  intro z hz;cases y with
  |tmp t=>simp[bQ.of]at hz
  |const v=>simp only[bQ.of,Zac,bQ.gN.injEq]at hz;obtain⟨d,hd,rfl⟩:=hz;exact⟨v,rfl,.inl hd⟩
  |func f=>simp only[bQ.of,Zaa,bQ.gN.injEq]at hz;subst hz;exact⟨_,rfl,.inr (.inl ⟨_,rfl⟩)⟩
  |global g=>
   simp only[bQ.of,Zac,bQ.gN.injEq]at hz;obtain⟨p,_,rfl⟩:=hz;exact⟨_,rfl,.inr (.inr ⟨_,rfl⟩)⟩
 split at h
 ·obtain⟨v,hv,hc|⟨f,hf⟩|⟨f,hf⟩⟩:=key hy
  ·unfold my at hc;split at hc<;>simp at hc
   exact .inl ⟨by simpa using h.symm,⟨_,rfl⟩,hv⟩
  ·cases hf
  ·cases hf
 ·obtain⟨v,hv,hc|⟨f,hf⟩|⟨f,hf⟩⟩:=key hy
  ·unfold my at hc;split at hc<;>simp at hc
   exact .inr (.inl ⟨by simpa using h.symm,⟨_,rfl⟩,hv⟩)
  ·cases hf
  ·cases hf
 ·obtain⟨v,hv,hc|⟨f,hf⟩|⟨f,hf⟩⟩:=key hy
  ·unfold my at hc;split at hc<;>simp at hc
   exact .inr (.inr ⟨by simpa using h.symm,⟨_,_,_,rfl⟩,hv⟩)
  ·cases hf
  ·cases hf
 ·cases h
def wQ(d:Nat)(hd:d=9999)(t:TypeId)(x y:Value):(Op.equal t x y)=Op.equalIn (d+1) t x y:=by subst hd;rfl
def Ar(t e:TypeId)(p:Option Addr)(n c:Nat)(h:P.underlying t=some (.slice e)):(Op.equal t (.slice p n c) (.slice none 0 0)).run P w=.ok p.isNone w:=by
 obtain⟨d,hd⟩:∃d,d=9999:=⟨_,rfl⟩;rw[wQ d hd,Op.equalIn];cases p<;>simp[run_underlying h]
def D8(t e:TypeId)(p:Option Addr)(h:P.underlying t=some (.pointer e)):(Op.equal t (.pointer p) (.pointer none)).run P w=.ok p.isNone w:=by
 obtain⟨d,hd⟩:∃d,d=9999:=⟨_,rfl⟩;rw[wQ d hd,Op.equalIn];cases p<;>simp[run_underlying h]
def Gi(t:TypeId){q1 q2 q3}(v:Value)(r:Bool)(h:P.underlying t=some (.func q1 q2 q3))(hv:(v=.nilFunc/\r=true)\/(∃f b c,v=.func f b c)/\r=false):(Op.equal t v .nilFunc).run P w=.ok r w:=by
 obtain⟨d,hd⟩:∃d,d=9999:=⟨_,rfl⟩;rw[wQ d hd,Op.equalIn];rcases hv with⟨rfl,rfl⟩|⟨⟨f,b,c,rfl⟩,rfl⟩<;>simp[run_underlying h]
def Bs(hO:ct base W M w0 ab w L)(NA:op=if neg then .neq else .eql){t:TypeId}{x y:Operand}(ho:o.op=.binOp op t x y yt){d:TypeDesc}(hd:P.underlying t=some d)(hy:bQ.of y=some y'){k:Nat}(hk:xY d y'=some k)
   (h1:aA w W ab L d1 (a.eval x)) (dq:(gj k neg ab d1).ok):cH P base W M w0 ab L w a o (gj k neg ab d1):=by
 have hv:=KX (a:=a) hy hk;have bZ:∀{r:Bool},gj k neg ab d1=⟨(gj k neg ab d1).ok,.v (.bool (neg^^r)),none⟩->(execOp a.eval o).run P w=.ok (.value (.bool (neg^^r))) w->cH P base W M w0 ab L w a o (gj k neg ab d1):=by
  intro r e h;rw[e];exact cH.bool hO rfl rfl h
 have sl:∀{p:Option Addr} {n c:Nat},k=0->a.eval x=.slice p n c->(execOp a.eval o).run P w=.ok (.value (.bool (neg^^p.isNone))) w:=by
  intro p n c h0 hx;rcases hv with⟨_,⟨e,rfl⟩,NB⟩|⟨h,_⟩|⟨h,_⟩
  ·refine Io NA ho (by simp[hx]) (by simp[hx]) (by simp[hx]) (by simp[hx]) (by simp[hx]) (by simp[hx]) (by rw[hx,NB];exact Ar t e p n c hd) ?_;rw[hx,NB,NA];cases neg<;>simp[eqGuard]
  ·omega
  ·omega
 have pt:∀{p:Option Addr},k=1->a.eval x=.pointer p->(execOp a.eval o).run P w=.ok (.value (.bool (neg^^p.isNone))) w:=by
  intro p h0 hx;rcases hv with⟨h,_⟩|⟨_,⟨e,rfl⟩,NB⟩|⟨h,_⟩
  ·omega
  ·refine Io NA ho (by simp[hx]) (by simp[hx]) (by simp[hx]) (by simp[hx]) (by simp[hx]) (by simp[hx]) (by rw[hx,NB];exact D8 t e p hd) ?_;rw[hx,NB,NA];cases neg<;>simp[eqGuard]
  ·omega
 have fn:∀{v:Value} {r:Bool},k=2->a.eval x=v->(v=.nilFunc/\r=true)\/(∃f b c,v=.func f b c)/\r=false->(execOp a.eval o).run P w=.ok (.value (.bool (neg^^r))) w:=by
  intro v r h0 hx Cm;rcases hv with⟨h,_⟩|⟨h,_⟩|⟨_,⟨q1,q2,q3,rfl⟩,NB⟩
  ·omega
  ·omega
  ·have he:=Gi (w:=w) t v r hd Cm;subst hx;refine Io NA ho ?_ ?_ ?_ ?_ ?_ ?_ (by rw[NB];exact he) ?_;all_goals rcases Cm with⟨hx,rfl⟩|⟨⟨f,b,c,hx⟩,rfl⟩<;>first|(simp[hx];done)|(rw[hx,NB,NA];cases neg<;>simp[eqGuard])
 cases d1 with
 |v t'=>
  cases t' with
  |sl av=>
   simp only[gj]at dq;obtain⟨h0,bT⟩:=dq;simp only[aA,bj]at h1;rcases h1 with⟨rfl,_⟩|⟨b,oo,c,sz,hx,_⟩
   ·exact Zar rfl bT
   ·exact bZ (r:=false) rfl (sl h0 hx)
  |fn f bY=>
   cases f with
   |func f=>simp only[aA,bj]at h1;obtain⟨vs,hx,_⟩:=h1;exact bZ (r:=false) rfl (fn dq hx (.inr ⟨⟨_,_,_,rfl⟩,rfl⟩))
   |_=>exact dq.elim
  |box cs=>simp only[aA,bj]at h1;obtain⟨b,oo,hx,_⟩:=h1;exact bZ (r:=false) rfl (pt dq hx)
  |mg v=>
   simp only[aA,bj]at h1;cases v with
   |slice p n c=>exact bZ (r:=p.isNone) rfl (sl dq h1)
   |pointer p=>exact bZ (r:=p.isNone) rfl (pt dq h1)
   |nilFunc=>exact bZ (r:=true) rfl (fn dq h1 (.inl ⟨rfl,rfl⟩))
   |_=>exact dq.elim
  |_=>exact dq.elim
 |ptr r off=>simp only[aA]at h1;exact bZ (r:=false) rfl (pt dq h1.2)
 |iD cs off=>simp only[aA]at h1;obtain⟨b,oo,hx,_⟩:=h1;exact bZ (r:=false) rfl (pt dq hx)
 |l7 av i off=>simp only[aA]at h1;obtain⟨b,oo,sz,hx,_⟩:=h1;exact bZ (r:=false) rfl (pt dq hx)
 |ka r bD i off=>simp only[aA]at h1;obtain⟨⟨b,oo,hx⟩,_⟩:=h1;exact bZ (r:=false) rfl (pt dq hx)
 |nG f bY=>
  cases f with
  |func f=>simp only[aA]at h1;obtain⟨vs,hx,_⟩:=h1;exact bZ (r:=false) rfl (fn dq hx (.inr ⟨⟨_,_,_,rfl⟩,rfl⟩))
  |_=>exact dq.elim
 |bA r bD=>
  cases hc:ab r with
  |none=>simp[gj,hc,cZ]at dq
  |some ob=>
   cases ob with
   |dT cg e' iG av=>
    have e1:gj k neg ab (.bA r bD)=⟨k=0/\bD=cg/\av≠[],.v (.bool (neg^^false)),none⟩:=by simp only[gj,hc]
    rw[e1]at dq;obtain⟨h0,rfl,bT⟩:=dq;simp only[aA]at h1;obtain⟨_,qw,e2,Gy,lI,nH,_,mQ⟩:=h1;rw[hc]at nH;cases nH;have hx:=mQ rfl;obtain⟨_,_,_,P1⟩:=hO.ob r _ hc;rcases P1 with⟨rfl,_⟩|⟨g,cap,pa,k1,_⟩
    ·exact Zar rfl bT
    ·exact bZ (r:=false) (by rw[e1]) (sl h0 (hx.trans k1))
   |_=>simp[gj,hc,cZ]at dq
 |_=>exact dq.elim
def Ol(hO:ct base W M w0 ab w L){r m s l c:Nat}{sn:cO}(hr:ab r=some (.kc m s sn l))(hm:ab m=some (.map cj agg c es))(ln:∀e∈es,e.1<s)(hl:s<=l)(ty:TypeId):
  ((∀e∈es,e.1∈sn)/\(Instr.next (.pointer (some ⟨L.I1 r,0,none⟩)) false ty).run P w=.ok (.tuple #[.bool false]) w)\/
  ∃e∈es,e.1∉sn/\∃k v w',(Instr.next (.pointer (some ⟨L.I1 r,0,none⟩)) false ty).run P w=.ok (.tuple #[.bool true,k,v]) w'/\
   ct base W M w0 (cG ab (some (r,.kc m s (sn++[e.1]) c))) w' L/\gP W ab L w (cG ab (some (r,.kc m s (sn++[e.1]) c))) L w':=by
 obtain⟨hh,_,z7⟩:=hO.ob r _ hr;obtain⟨dT,hh2,pP,_⟩:=hO.ob m _ hm;have hg:=gp (P:=P) hh trivial;have hg2:=gp (P:=P) hh2 trivial;have hborn:∀x∈dT.toList,x.born<s:=by
  intro x hx;obtain⟨i,hi⟩:=ZbY hx;have As:i<es.length:=by rw[<-bJ.length pP];exact(Zaw.1 hi).1
  obtain⟨x',mh,hb,_⟩:=bJ.get pP (Zas As);rw[hi]at mh;cases mh;rw[hb];exact ln _ (Zbe As)
 have htest:(!(sn.toArray).isEmpty&& !dT.isEmpty&&dT.all (λx=>decide (x.born>=l)))=false:=by
  cases he:dT.isEmpty with
  |true=>simp
  |false=>
   have d0:dT.all (λx=>decide (x.born>=l))=false:=by
    rw[Bool.eq_false_iff];intro h;rw[Array.all_eq_true_iff_forall_mem]at h;have h0:0<dT.size:=by
     rcases ZcY dT.size with h0|h0
     ·simp[Array.isEmpty,h0]at he
     ·exact h0
    have h1:=h _ (Array.getElem_mem h0);have h2:=hborn dT[0] (by simp);simp at h1;omega
   simp[d0]
 have yG:∀x,x∈dT.filter (λe=> !sn.toArray.contains e.born)↔x∈dT.toList/\x.born∉sn:=by
  intro x;simp
 have kx:∀x∈(dT.filter (λe=> !sn.toArray.contains e.born)),x.born<s:=λx hx=>hborn x ((yG x).1 hx).1;simp only[Instr.next,Sem.run_bind,hg,hg2,Result.andThen_ok,htest,ZaW,if_false];generalize hL:dT.filter (λe=> !sn.toArray.contains e.born)=A at yG kx⊢;have e1:A.filter (λx=>decide (x.born<s))=A:=Array.filter_eq_self.2 (λx hx=>by simpa using kx x hx);have e2:A.filter (λx=>decide (x.born>=s))= #[]:=by
  rw[Array.filter_eq_empty_iff];intro x hx;have:=kx x hx;simp;omega
 simp only[e1,e2,ZbJ];by_cases h0:A.size=0
 ·left;have:A= #[]:=Array.eq_empty_of_size_eq_zero h0;subst this;refine⟨λe he=>?_, ?_⟩
  ·obtain⟨i,hi⟩:=ZbY he;obtain⟨x,hx,hb,_⟩:=bJ.get pP hi;by_cases h:e.1∈sn
   ·exact h
   ·have:=(yG x).2 ⟨Zax hx,by rw[hb];exact h⟩;simp at this
  ·simp[choose,Sem.run,Question.forced]
 ·right;have bT:A.isEmpty=false:=by simp[Array.isEmpty,h0]
  simp only[bT,ZaW,if_false,Array.empty_append,Array.size_map];have hch:∃(j:Nat) (w1:World),j<A.size/\(w1=w\/w1=w.drew)/\(choose (Question.mapNext A.size)).run P w=.ok j w1:=by
   by_cases hf:A.size<=1
   ·exact⟨0,w,by omega,.inl rfl,by simp[choose,Sem.run,Question.forced,hf]⟩
   ·exact⟨_,w.drew,Nat.mod_lt _ (by omega),.inr rfl,by
     simp only[choose,Sem.run,Question.forced,Zau,hf,if_false,Question.cut];rfl⟩
  obtain⟨j,w1,hj,Xd,bW⟩:=hch;have ic:=(yG A[j]).1 (Array.getElem_mem hj);obtain⟨i,hi⟩:=ZbY ic.1;have As:i<es.length:=by rw[<-bJ.length pP];exact(Zaw.1 hi).1
  obtain⟨x',mh,hb,_⟩:=bJ.get pP (Zas As);rw[hi]at mh;cases mh;have hhe:w1.heap=w.heap:=by rcases Xd with rfl|rfl<;>rfl
  have hh1:w1.heap[L.I1 r]? =some (.mapIter (some (L.I1 m)) s sn.toArray l):=by rw[hhe];exact hh
  have hfr1:Fr base M w0 w1:=by
   rcases Xd with rfl|rfl
   ·exact hO.fr
   ·exact⟨hO.fr.os,hO.fr.tape,hO.fr.output,hO.fr.jq,hO.fr.size,hO.fr.block,Nat.le_succ_of_le hO.fr.drawn⟩
  refine⟨es[i],Zbe As,by rw[<-hb];exact ic.2,A[j].key,A[j].val,w1.gT (L.I1 r) (.mapIter (some (L.I1 m)) s (sn.toArray.push A[j].born) c), ?_, ?_⟩
  ·simp only[bW,Array.getElem?_map,ZbD hj,Za8,Sem.run_bind,pi (P:=P) hh1 trivial,Result.andThen_ok,Sem.run_pure]
  ·rw[hb];refine ct.put hO (GQ _ hfr1 z7) (by rw[uF,hhe];exact Zaf _) (λ_ _=>⟨rfl,rfl⟩) rfl (λb _ hb=>(sA (λx=>hb _ hr (by simp[Loc.own,x]))).trans (by rw[hhe]))
    (λb hb=>.inl ⟨_,hr,hb⟩) (λo' iA _=>by rw[hr]at iA;cases iA;exact⟨rfl,rfl⟩) (λbD e sz av h=>by rw[hr]at h;cases h) (λeZ=>?_)
   refine⟨?_, ?_,z7⟩
   ·rw[BJ hh1];simp
   ·have bT:m≠r:=λe=>by rw[e,hr]at hm;cases hm
    exact⟨cj,agg,c,es,by simp[cG,bT,hm]⟩
end
end
section
variable{neg:Bool}{cj:List Sh}{desc:TypeDesc}{sz N4:Nat}{zero:aK}
variable [bI]
section
variable{P:Program}{base:Nat}{W M:fo}{w0:World}{ab:bq}{L:Loc}{w:World}{a:Act}{o:Oper}{Γ:pI}{name:Nat}{ρ:dw}{d:rO}
def x6{fY:Bool}(W':fo)(hO:ct base W M w0 ab w L)(hW:fY=true->∀r o b,ab r=some o->L.own r o=some b->¬W' b)(Vn:∀b,W' b->WW W ab L b):
  (∀(d:DV) (x:Value),aA w W ab L d x->F3 fY ab d->bj w W' (tz ab d) x)/\(∀(ds:bB) (xs:List Value),aQ w W ab L ds xs->tA fY ab ds->du w W' (ji ab ds) xs):=by
 have hk:dg (WW W ab L) w w:=dg.refl _ _;have one:∀(n:Nat),(∀(d:DV) (x:Value),SizeOf.sizeOf d<n->aA w W ab L d x->F3 fY ab d->bj w W' (tz ab d) x)/\(∀(ds:bB) (xs:List Value),SizeOf.sizeOf ds<n->aQ w W ab L ds xs->tA fY ab ds->du w W' (ji ab ds) xs):=by
  intro n;induction n with
  |zero=>exact⟨λ_ _ h=>by omega,λ_ _ h=>by omega⟩
  |succ n ih=>
   refine⟨λd x hn h dq=>?_,λds xs hn h dq=>?_⟩
   ·cases d with
    |v t=>simp only[aA]at h;simp only[tz];exact bj.bi hk.toKeepsC (λb _ hb=>Vn b hb) t x h
    |aW=>
     simp only[aA]at h;obtain⟨p,rfl⟩:=h;simp only[tz,bj];exact .inl ⟨trivial,p,0,rfl⟩
    |bA r bD=>
     simp only[F3]at dq;obtain⟨hl,dq⟩:=dq;simp only[aA]at h;obtain⟨_,cg,e,sz,av,hc,_,hv⟩:=h;simp only[hc]at dq;have hv:=hv dq;subst hv;simp only[tz,hc,bj];have gH:=hO.ob r _ hc;obtain⟨yi,eF,hm,P1⟩:=gH;rcases P1 with⟨rfl,p,hp⟩|⟨g',cap,pa,tp,hp,hh,jy,sc,HN,gQ⟩
     ·exact .inl ⟨rfl,p,0,hp⟩
     ·have zO:aX (L.sl r)=some g':=by simp[tp,aX,ZaJ.1 hp]
      refine .inr ⟨g',0,cap,sz,tp,(Zap.1 hh).1,hW hl r _ g' hc (by simpa [Loc.own]using zO),jy, ?_⟩;have B7:=pL.av (hO.ob r _ hc) (g:=g') (by simp[tp,aX,ZaJ.1 hp]);by_cases hg:g'<w.heap.size
      ·obtain⟨vs,xM,Cm,XE⟩:=bw.flatten B7;exact bw.jB (du.bi hk.toKeepsC (λb _ hb=>Vn b hb) _ _ Cm) eF XE
      ·exact Zar (Zap.1 hh).1 hg
    |agg cs=>
     simp only[aA]at h;obtain⟨vs,rfl,hr⟩:=h;simp only[tz,bj];simp only[F3]at dq;exact⟨vs,rfl,ih.2 cs _ (by simp at hn⊢;omega) hr dq⟩
    |nG f cs=>
     simp only[aA]at h;obtain⟨vs,rfl,hr⟩:=h;simp only[tz,bj];simp only[F3]at dq;exact⟨vs,rfl,ih.2 cs _ (by simp at hn⊢;omega) hr dq⟩
    |u9 r bD lo m=>
     simp only[F3]at dq;obtain⟨hl,dq⟩:=dq;simp only[aA]at h;obtain⟨_,cg,e,sz,av,hc,_,hv⟩:=h;simp only[hc]at dq;have hv:=hv dq.1;simp only[tz,hc,bj];have HG:((av.drop lo).take m).length=m:=by rw[ZaB,Zbo];omega
     rcases uf hO hc hv with⟨rfl,a,c,rfl⟩|⟨g,c,zO,rfl,Lk,hr⟩
     ·exact .inl ⟨by simp,a,c,rfl⟩
     ·refine .inr ⟨g,lo*sz,c,sz,by rw[HG],(hO.ob r _ hc).lt (by simpa [Loc.own]using zO),hW hl r _ g hc (by simpa [Loc.own]using zO),by omega, ?_⟩;obtain⟨vs,xM,Cm,XE⟩:=bw.flatten hr;exact bw.jB (du.bi hk.toKeepsC (λb _ hb=>Vn b hb) _ _ Cm) (λx hx=>(hO.ob r _ hc).2.1 x (ZbW (ZaE hx))) XE
    |_=>exact dq.elim
   ·cases ds with
    |nil=>simpa [aQ,du,ji]using h
    |cons d ds=>
     simp only[aQ]at h;obtain⟨x,lz,rfl,h1,h2,hr⟩:=h;simp only[tA]at dq;simp only[ji,du];exact⟨x,lz,rfl,h1,ih.1 d x (by simp at hn⊢;omega) h2 dq.1,ih.2 ds lz (by simp at hn⊢;omega) hr dq.2⟩
 exact⟨λd x=>(one (SizeOf.sizeOf d+1)).1 d x (by omega),λds xs=>(one (SizeOf.sizeOf ds+1)).2 ds xs (by omega)⟩
def N5{agg:Bool}{t u:T}(h:¬((∃as,t=.agg as)/\∃bs,u=.agg bs)):Dc neg agg cj t u=⟨agg=false/\eL cj [t]/\eL cj [u],.v (.bool (neg^^gO t u)),none⟩:=by
 cases t<;>first|rfl|(cases u<;>first|rfl|exact Zar ⟨⟨_,rfl⟩,⟨_,rfl⟩⟩ h)
def Qw{n:Nat}{t:TypeId}{s:Sh}(hs:lp P (n+1) t=some [s])(hd:P.underlying t=some desc)(ha:b8 desc=false):(s=.bool/\desc=.bool)\/(s=.str/\desc=.string)\/∃k,s=.int k/\desc=.int k:=by
 simp only[lp,hd]at hs;cases desc;case bool=>simp at hs;exact .inl ⟨hs.symm,rfl⟩
 case int k=>simp at hs;exact .inr (.inr ⟨k,hs.symm,rfl⟩)
 case string=>simp at hs;exact .inr (.inl ⟨hs.symm,rfl⟩)
 case struct=>exact Zar ha (by simp[b8])
 case array=>exact Zar ha (by simp[b8])
 all_goals exact Zar hs (by simp)
def Kw{op:BinOp}{t:TypeId}{x y:Operand}{yt:TypeId}(NA:op=if neg then .neq else .eql)(ho:o.op=.binOp op t x y yt)(hd:P.underlying t=some desc)(Qx:∀k,desc≠ .int k)(hs:lp P 10000 t=some cj)(hg:P.eqGuardType P.depth t=false)
  (hO:ct base W M w0 ab w L) {d1 d2:DV} (h1:aA w W ab L d1 (a.eval x)) (h2:aA w W ab L d2 (a.eval y)) (k1:F3 true ab d1) (k2:F3 true ab d2) (dq:(Dc neg (b8 desc) cj (tz ab d1) (tz ab d2)).ok):
  cH P base W M w0 ab L w a o ⟨True,(Dc neg (b8 desc) cj (tz ab d1) (tz ab d2)).val,none⟩:=by
 have r1:=(x6 (fY:=true) (λ_=>False) hO (λ_ _ _ _ _ _ h=>h) (λ_ h=>h.elim)).1 d1 _ h1 k1;have r2:=(x6 (fY:=true) (λ_=>False) hO (λ_ _ _ _ _ _ h=>h) (λ_ h=>h.elim)).1 d2 _ h2 k2;by_cases hagg:(∃as,tz ab d1=.agg as)/\∃bs,tz ab d2=.agg bs
 ·obtain⟨⟨as,t1⟩,bs,t2⟩:=hagg;simp only[t1,t2,Dc]at dq⊢;obtain⟨ha,f1,f2⟩:=dq;rw[t1]at r1;rw[t2]at r2;simp only[bj]at r1 r2;obtain⟨xs,e1,g1⟩:=r1;obtain⟨ys,e2,g2⟩:=r2;have hq:(Op.equal t (.agg xs) (.agg ys)).run P w=.ok (tl as bs) w:=by
   have:=se 10000 t cj desc hs hd xs.toList ys.toList w (jg f1 g1) (jg f2 g2);simp only[zP,ha,if_true,Array.toArray_toList]at this;rw[Ab f1 f2 g1 g2];exact this
  have XM:=run_eqGuard_agg w op t x y xs ys hg;refine cH.bool hO rfl rfl ?_;subst NA;cases neg<;>simp only[if_true,if_false,ZaW]at ho XM<;>simp[execOp,ho,e1,e2,XM,binOp,hq]
 ·rw[N5 hagg]at dq⊢;obtain⟨ha,f1,f2⟩:=dq;obtain⟨s,rfl,g1⟩:=oF f1;obtain⟨s2,hs2,g2⟩:=oF f2;obtain rfl:s=s2:=by simpa using hs2
  refine cH.bool hO rfl rfl ?_;rw[Ky g1 g2 r1 r2];subst NA;cases s with
  |bool=>
   have hdb:P.underlying t=some .bool:=by
    rcases Qw (n:=9999) hs hd ha with⟨_,rfl⟩|⟨h,_⟩|⟨k,h,_⟩
    ·exact hd
    ·cases h
    ·cases h
   cases Nz:tz ab d1<;>rw[Nz]at g1 r1<;>first|exact Zar g1 ZaL|skip
   cases h2':tz ab d2<;>rw[h2']at g2 r2<;>first|exact Zar g2 ZaL|skip
   simp only[bj]at r1 r2;cases neg<;>simp[execOp,ho,r1,r2,eqGuard,run_eql_bool,run_neq_bool,hdb,veq]
  |str=>
   cases Nz:tz ab d1<;>rw[Nz]at g1 r1<;>first|exact Zar g1 ZaL|skip
   cases h2':tz ab d2<;>rw[h2']at g2 r2<;>first|exact Zar g2 ZaL|skip
   simp only[bj]at r1 r2;cases neg<;>simp[execOp,ho,r1,r2,eqGuard,binOp,Op.stringOp,veq]
  |int k=>
   rcases Qw (n:=9999) hs hd ha with⟨h,_⟩|⟨h,_⟩|⟨k',_,h⟩
   ·cases h
   ·cases h
   ·exact Zar h (Qx k')
def Bq{W':fo}{sz:Nat}:∀(n:Nat) (cs:aK) (vs:List Value) (b o:Nat),cs.length=n*sz->du w W' cs vs->(∀j v,vs[j]? =some v->w.cell? ⟨b,o+j,none⟩=some v)->bw w W' sz b o (fU sz n cs)
 |0,_,_,_,_,_,_,_=>by simp[fU,bw]
 |n+1,cs,vs,b,o,hl,hr,hc=>by
  have yi:sz<=cs.length:=by rw[hl,Nat.add_mul];omega
  have xM:=du.length hr;simp only[fU,bw];refine⟨by simp;omega, ?_, ?_⟩
  ·refine ed.sa (du.take sz hr) λj v hj=>hc j v ?_;rw[ZaQ]at hj;split at hj
   ·exact hj
   ·cases hj
  ·refine Bq n _ (vs.drop sz) b (o+sz) (by rw[Zbo,hl,Nat.add_mul];omega) (du.drop sz hr) λj v hj=>?_;rw[ZbH]at hj;have:=hc (sz+j) v hj
   rwa [show o+sz+j=o+(sz+j)by omega]
def x7(sz:Nat):∀(n:Nat) (cs:aK),(fU sz n cs).length=n
 |0,_=>rfl
 |n+1,cs=>by simp[fU,x7 sz n]
def x8:∀(ps:List (Nat×Nat×DV)) (ds:bB),t8 ds.length ps->(vZ ds ps).length=ds.length
 |[],ds,_=>rfl
 |(off,sz,d)::ps,ds,h=>by
  simp only[t8]at h;obtain⟨h1,h2,h3,h4⟩:=h;have hl:(cy ds off (cellsOf d)).length=ds.length:=g5 (by omega);simp only[vZ];rw[x8 ps _ (by rw[hl];exact h4),hl]
def Br(hg:F2 w (WW W ab L))(jw:∀t,aA w W ab L (ρ t) (a.tmps.getD t Go.undef)):∀{xs:List Operand} {ys:List bQ},xs.mapM bQ.of=some ys->∀(i:Nat) (x:Operand) (y:bQ),xs[i]? =some x->ys[i]? =some y->aA w W ab L (y.ev ρ) (a.eval x)
 |[],ys,h,i,x,y,hx,_=>by simp at hx
 |x::xs,ys,h,i,p,q,hp,hq=>by
  simp only[Za7,Zao,Zaj,Zad,Zaa]at h;obtain⟨y,hy,ys',pM,rfl⟩:=h;cases i with
  |zero=>
   simp only[ZaF,Zaa]at hp hq;subst hp hq;exact bQ.bP hg jw hy
  |succ i=>exact Br hg jw pM i p q (by simpa using hp) (by simpa using hq)
def ul:∀{xs:List Operand} {ys:List bQ},xs.mapM bQ.of=some ys->ys.length=xs.length
 |[],ys,h=>by simp at h;simp[h]
 |x::xs,ys,h=>by
  simp only[Za7,Zao,Zaj,Zad,Zaa]at h;obtain⟨y,hy,ys',pM,rfl⟩:=h;simp[ul pM]
def Dp(hg:F2 w (WW W ab L))(jw:∀t,aA w W ab L (ρ t) (a.tmps.getD t Go.undef)){x:Option Operand}{y:Option bQ}(h:Dk x=some y):(y.map (·.ev ρ)=none/\x.map a.eval=none)\/∃dl vl,y.map (·.ev ρ)=some dl/\x.map a.eval=some vl/\aA w W ab L dl vl:=by
 cases x with
 |none=>simp only[Dk,Zaa]at h;subst h;exact .inl ⟨rfl,rfl⟩
 |some x=>
  simp only[Dk,Zac]at h;obtain⟨z,hz,rfl⟩:=h;exact .inr ⟨_,_,rfl,rfl,bQ.bP hg jw hz⟩
def XN{d:DV}{v:Value}(hp:t7 d)(h:aA w W ab L d v):v.oneCell'=true:=by
 cases d with
 |aW=>simp only[aA]at h;obtain⟨p,rfl⟩:=h;rfl
 |v t=>
  simp only[aA]at h;cases t with
  |agg ts=>exact Zar hp ZaL
  |eo ts=>exact Zar hp ZaL
  |mg x=>simp only[bj]at h;subst h;exact hp
  |sl av=>simp only[bj]at h;rcases h with⟨_,_,_,rfl⟩|⟨_,_,_,_,rfl,_⟩<;>rfl
  |fn f bY=>simp only[bj]at h;obtain⟨_,rfl,_⟩:=h;rfl
  |box cs=>simp only[bj]at h;obtain⟨_,_,rfl,_⟩:=h;rfl
  |bool b=>simp only[bj]at h;subst h;rfl
  |int k n=>simp only[bj]at h;subst h;rfl
  |str k=>simp only[bj]at h;subst h;rfl
 |_=>exact hp.elim
def XO{d:DV}{v:Value}(hp:kp d)(h:aA w W ab L d v):v.oneCell'=true:=by
 cases d with
 |undef=>exact hp.elim
 |skip=>exact hp.elim
 |agg cs=>exact hp.elim
 |eo cs=>exact hp.elim
 |v t=>exact XN (d:=.v t) hp h
 |aW=>simp only[aA]at h;obtain⟨p,rfl⟩:=h;rfl
 |ptr r off=>simp only[aA]at h;obtain⟨_,rfl⟩:=h;rfl
 |bA r bD=>simp only[aA]at h;obtain⟨⟨_,_,_,rfl⟩,_⟩:=h;rfl
 |l7 av i off=>simp only[aA]at h;obtain⟨_,_,_,rfl,_⟩:=h;rfl
 |iD cs off=>simp only[aA]at h;obtain⟨_,_,rfl,_⟩:=h;rfl
 |ka r bD i off=>simp only[aA]at h;obtain⟨⟨_,_,rfl⟩,_⟩:=h;rfl
 |NV=>simp only[aA]at h;subst h;rfl
 |iE r=>simp only[aA]at h;obtain⟨_,rfl⟩:=h;rfl
 |kc r=>simp only[aA]at h;obtain⟨_,rfl⟩:=h;rfl
 |u9 r bD lo n=>simp only[aA]at h;obtain⟨⟨_,_,rfl⟩,_⟩:=h;rfl
 |F9 r n=>simp only[aA]at h;obtain⟨_,rfl⟩:=h;rfl
 |nG f cs=>simp only[aA]at h;obtain⟨_,rfl,_⟩:=h;rfl
def GH(hg:F2 w (WW W ab L))(jw:∀t,aA w W ab L (ρ t) (a.tmps.getD t Go.undef)):∀{xs:List Operand} {ys:List bQ},xs.mapM bQ.of=some ys->eX (ys.map (·.ev ρ))->aQ w W ab L (ys.map (·.ev ρ)) (xs.map a.eval)
 |[],ys,h,_=>by simp at h;subst h;simp[aQ]
 |x::xs,ys,h,hp=>by
  simp only[Za7,Zao,Zaj,Zad,Zaa]at h;obtain⟨y,hy,ys',pM,rfl⟩:=h;simp only[ZaA,eX]at hp;simp only[ZaA,aQ];have r:=bQ.bP hg jw hy;exact⟨_,_,rfl,XO hp.1 r,r,GH hg jw pM hp.2⟩
def Ac:∀{ds:bB},xU ds=true->iZ ds
 |[],_=>trivial
 |d::ds,h=>by
  cases d with
  |v t=>simp only[xU,Zam]at h;exact⟨h.1,Ac h.2⟩
  |aW=>simp only[xU]at h;exact⟨trivial,Ac h⟩
  |_=>simp[xU]at h
def XP(hc:dz P o=some d)(nP:∀f args,d≠ .call f args)(jw:∀t,aA w W ab L (ρ t) (a.tmps.getD t Go.undef))(hO:ct base W M w0 ab w L)(vx:ab name=none)(dq:(dj Γ d name ρ ab).ok):
  cH P base W M w0 ab L w a o (dj Γ d name ρ ab):=by
 unfold dz at hc;cases ho:o.op<;>simp only[ho,reduceCtorEq]at hc
 case move x=>
  simp only[Zac]at hc;obtain⟨y,hy,rfl⟩:=hc;exact cH.lJ hO rfl (v:=a.eval x) (by simp[execOp,ho]) (bQ.bP hO.gl jw hy)
 case assign x=>
  simp only[Zac]at hc;obtain⟨y,hy,rfl⟩:=hc;exact cH.lJ hO rfl (v:=a.eval x) (by simp[execOp,ho]) (bQ.bP hO.gl jw hy)
 case pick c x y=>
  simp only[Zao,Zaj,Zad,Zaa]at hc;obtain⟨c',Xb,x',hx,y',hy,rfl⟩:=hc;have r:=bQ.bP hO.gl jw Xb;unfold dj at dq⊢;simp only at dq⊢;split at dq
  ·rename_i t ht;rw[ht]at r;simp only[aA,bj]at r;refine cH.lJ hO rfl (v:=if t then a.eval x else a.eval y) (by simp[execOp,ho,r,asBool]) ?_;cases t
   ·exact bQ.bP hO.gl jw hy
   ·exact bQ.bP hO.gl jw hx
  ·exact dq.elim
 case alloc e=>
  simp only[Zao,Zaj,Zad,Zaa]at hc;obtain⟨i,hi,z,hz,zs,J1,rfl⟩:=hc;have h:=HO hO vx e (iR J1);refine⟨_,.pointer (some ⟨w.heap.size,0,none⟩),_,_, ?_,.inl rfl,h.1,h.2, ?_⟩
  ·simp[execOp,ho,Instr.alloc,zeroValue,typeInfo,hi,hz,newVar,newRow]
  ·simp only[dj,aA];exact⟨⟨zs,by simp[cG]⟩,by simp[Loc.g6]⟩
 case box e x=>
  simp only[Zac]at hc;obtain⟨y,hy,rfl⟩:=hc;have h:=HO hO vx e (aA.cells (bQ.bP hO.gl jw hy) dq);refine⟨_,.pointer (some ⟨w.heap.size,0,none⟩),_,_, ?_,.inl rfl,h.1,h.2, ?_⟩
  ·simp[execOp,ho,Instr.box,newVar,newRow]
  ·simp only[dj,aA];exact⟨⟨cellsOf (y.ev ρ),by simp[cG]⟩,by simp[Loc.g6]⟩
 case build t parts=>
  simp only[Zao,Zaj,Zad,Zaa]at hc;obtain⟨i,hi,z,hz,zs,J1,pl,Vj,ps,Vo,rfl⟩:=hc;have hzr:=iR (w:=w) (W:=W) (ab:=ab) (L:=L) J1;have XJ:=aQ.length hzr;simp only[Za3]at XJ;simp only[dj]at dq⊢;obtain⟨cells,h1,h2,h3⟩:=Dl hO.gl jw parts.toList ps Vo z.cells zs hzr (by rw[XJ];exact dq);have hb:P.built t (parts.map λx=>(x.1,a.eval x.2)).toList=some cells:=by
   unfold Program.built;unfold qf at Vj;cases hu:P.underlying t with
   |none=>simp[hu]at Vj
   |some desc=>
    cases desc<;>simp only[hu,reduceCtorEq]at Vj
    case array n e=>
     simp only[Zac]at Vj;obtain⟨ie,hie,rfl⟩:=Vj;simpa [hi,hz,hie]using h1
    case struct fields=>
     simp only[Zac]at Vj;obtain⟨pl',hpl',rfl⟩:=Vj;simp only[hi,hz,hpl',Array.toList_map];simpa using h1
  refine cH.lJ hO rfl (v:=.agg cells) ?_ (by simp only[aA];exact⟨cells,rfl,h2⟩);have:=run_build w t (parts.map λx=>(x.1,a.eval x.2)) cells hb;simp[execOp,ho,this]
 case buildSlice t len parts=>
  split at hc
  ·rename_i e hu;simp only[Zao,Zaj,Zad]at hc;obtain⟨i,hi,hc⟩:=hc;split at hc
   ·cases hc
   ·rename_i yi;simp only[Zad,Zaa]at hc;obtain⟨z,hz,zs,J1,ps,Vo,rfl⟩:=hc;have hzr:=iR (w:=w) (W:=W) (ab:=ab) (L:=L) J1;have XJ:=aQ.length hzr;have dM:¬len*i.size>2^24:=λh=>yi (.inl h);have Gc:i.size≠0:=λh=>yi (.inr h);simp only[Za3,Array.size_map,Array.size_range]at XJ;simp only[dj]at dq⊢;by_cases h0:len=0
    ·subst h0;simp only[if_true]at dq⊢;subst dq;have hp0:parts.toList=[]:=by
      cases hp:parts.toList with
      |nil=>rfl
      |cons p ps'=>
       rw[hp]at Vo;simp only[sf,Za7,Zao,Zaj,Zad,Zaa,reduceCtorEq,and_false,exists_false]at Vo
     have hp1:parts= #[]:=by cases parts;simp_all
     have hr:=uk (P:=P) w hu hi hz 0 (by simp) (parts:= #[]) (cells:= #[]) (by simp[Instr.fill,Array.range_zero']);have hg:=ct.grow hO (kW (w:=w) (.cells #[] e));refine⟨_,.slice (some ⟨w.heap.size,0,none⟩) 0 0,_,L, ?_,.inl rfl,hg.1,hg.2,by simp only[aA];exact⟨_,rfl⟩⟩;simp[execOp,ho,hp1,hr]
    ·simp only[h0,if_false]at dq⊢;obtain⟨hf,XQ⟩:=dq;obtain⟨cells,h1,h2,h3⟩:=Dl hO.gl jw parts.toList ps Vo _ zs hzr (by simpa using hf);have hr:=uk (P:=P) w hu hi hz len dM (parts:=parts.map λx=>(x.1,a.eval x.2)) (cells:=cells) (by simpa using h1);have hg:=ct.grow hO (kW (w:=w) (.cells cells e));refine⟨_,.slice (some ⟨w.heap.size,0,none⟩) len len,_,L, ?_,.inl rfl,hg.1,hg.2, ?_⟩
     ·simp[execOp,ho,hr]
     ·have Bl:=ol (Qt:=λ_=>none) XQ (aQ.eZ hg.2 _ _ h2);simp only[cG,aA,bj,x7];refine .inr ⟨w.heap.size,0,len,i.size,rfl,by simp, ?_,Zaf _, ?_⟩
      ·rintro(hw|⟨r,ob,sg,xV⟩)
       ·have h1:=hO.under _ hw;have h2:=hO.fr.jq;have h3:=hO.fr.size;omega
       ·have:=(hO.ob r ob sg).lt xV;omega
      ·refine Bq len _ cells.toList _ _ ?_ Bl λj v hj=>?_
       ·rw[ue,x8 _ _ (by rw[<-XJ];exact hf),<-XJ]
       ·rw[Zbi,cell_of_row (w.alloc (.cells cells e)) w.heap.size j cells e (0,0) (heap_alloc_new w _)];simpa using hj
  ·cases hc
 case load t x=>
  split at hc
  ·rename_i desc i hd hi;simp only[Zac]at hc;obtain⟨y,hy,rfl⟩:=hc;simp only[dj]at dq⊢;obtain⟨hp,v,bW,hv⟩:=wF hO hd hi (bQ.bP hO.gl jw hy) dq;exact cH.lJ hO hp (v:=v) (by simp[execOp,ho,bW]) hv
  ·cases hc
 case store t x y=>
  simp only[Zao,Zaj,Zad,Zaa]at hc;obtain⟨i,hi,x',hx,y',hy,rfl⟩:=hc;have rx:=bQ.bP hO.gl jw hx;have ry:=bQ.bP hO.gl jw hy;simp only[dj]at dq⊢;cases hd:x'.ev ρ with
  |ptr r off=>
   rw[hd]at rx;simp only[aA]at rx;obtain⟨⟨cs,oj⟩,Qy⟩:=rx;simp only[hd,lG,oj]at dq⊢;obtain⟨w',h1,h2,h3⟩:=Vg hO hi oj ry dq.1 dq.2.1 dq.2.2;exact⟨.skip,Go.undef,w',L,by simp[execOp,ho,Qy,h1],.inr ⟨rfl,rfl⟩,h2,h3,by simp[aA]⟩
  |ka r bD j off=>
   rw[hd]at rx;simp only[aA]at rx;obtain⟨_,cg,e,sz,av,oj,_,qr⟩:=rx;simp only[hd,lG,oj]at dq⊢;obtain⟨rfl,hn,qe,XQ⟩:=dq;obtain⟨g,hg,Qy,h0,h1⟩:=qr rfl;obtain⟨w',h1,h2,h3⟩:=Vh hO hi oj hg h0 h1 ry hn qe XQ;exact⟨.skip,Go.undef,w',L,by simp[execOp,ho,Qy,h1],.inr ⟨rfl,rfl⟩,h2,h3,by simp[aA]⟩
  |_=>rw[hd]at dq;exact dq.elim
 case nilCheck x=>
  simp only[Zac]at hc;obtain⟨y,hy,rfl⟩:=hc;have rx:=bQ.bP hO.gl jw hy;simp only[dj]at dq⊢;obtain⟨h1,h2,h3⟩:=Do rx dq;refine cH.lJ hO h1 (v:=a.eval x) ?_ (by rw[h2];exact rx);rcases h3 with⟨p,hp⟩|⟨f,bY,hp⟩
  ·simp only[execOp,ho,hp];simp
  ·simp only[execOp,ho,hp];simp
 case binOp op t x y yt=>
  simp only[Zaj,Zad]at hc;obtain⟨x',hx,y',hy,hc⟩:=hc;have rx:=bQ.bP hO.gl jw hx;have ry:=bQ.bP hO.gl jw hy;unfold mA at hc;split at hc
  ·split at hc;all_goals first
    |(simp only[Zaa]at hc;subst hc;exact Vk hO ho rx ry dq)
    |cases hc
  ·rename_i desc Qx hd;split at hc
   ·rename_i cj hs;split at hc
    ·cases hc
    ·rename_i hg;simp only[Zaa]at hc;subst hc;simp only[dj]at dq⊢;obtain⟨k1,k2,dq⟩:=dq;exact Kw (neg:=false) rfl ho hd (λk hk=>Qx k hk) hs (by simpa using hg) hO rx ry k1 k2 dq
   ·rename_i cj hs;split at hc
    ·cases hc
    ·rename_i hg;simp only[Zaa]at hc;subst hc;simp only[dj]at dq⊢;obtain⟨k1,k2,dq⟩:=dq;exact Kw (neg:=true) rfl ho hd (λk hk=>Qx k hk) hs (by simpa using hg) hO rx ry k1 k2 dq
   ·simp only[Zac]at hc;obtain⟨k,hk,rfl⟩:=hc;exact Bs (neg:=false) hO rfl ho hd hy hk rx dq
   ·simp only[Zac]at hc;obtain⟨k,hk,rfl⟩:=hc;exact Bs (neg:=true) hO rfl ho hd hy hk rx dq
   ·cases hc
  ·cases hc
 case makeMap t hint=>
  cases hint with
  |some h=>cases hc
  |none=>
   simp only at hc;split at hc
   ·simp only[Zac]at hc;obtain⟨ki,_,rfl⟩:=hc;exact Kz hO vx ho _ _
   ·cases hc
 case lookup t x k ok=>
  split at hc
  ·rename_i kt et ht;split at hc
   ·rename_i ki z HV hz;simp only[Zao,Zaj,Zad,Zaa]at hc;obtain⟨x',hx,k',hk,rfl⟩:=hc;exact HW hO ho ht HV hz (bQ.bP hO.gl jw hx) (bQ.bP hO.gl jw hk) dq
   ·cases hc
  ·cases hc
 case mapUpdate t x k y=>
  split at hc
  ·rename_i kt et ht;split at hc
   ·rename_i ki HV;simp only[Zao,Zaj,Zad,Zaa]at hc;obtain⟨x',hx,k',hk,y',hy,rfl⟩:=hc;exact HX hO ho ht HV (bQ.bP hO.gl jw hx) (bQ.bP hO.gl jw hk) (bQ.bP hO.gl jw hy) dq
   ·cases hc
  ·cases hc
 case mapEntry t x k=>
  split at hc
  ·rename_i kt et ht;split at hc
   ·rename_i ki z HV hz;simp only[Zao,Zaj,Zad,Zaa]at hc;obtain⟨x',hx,k',hk,rfl⟩:=hc;exact HY hO ho ht HV hz (bQ.bP hO.gl jw hx) (bQ.bP hO.gl jw hk) dq
   ·cases hc
  ·cases hc
 case entryStore t x s y=>
  simp only[Zao,Zaj,Zad,Zaa]at hc;obtain⟨x',hx,k',hk,y',hy,rfl⟩:=hc;exact KA hO ho (bQ.bP hO.gl jw hx) (bQ.bP hO.gl jw hk) (bQ.bP hO.gl jw hy) dq
 case range t x=>
  split at hc
  ·rename_i kt et ht;simp only[Zac]at hc;obtain⟨x',hx,rfl⟩:=hc;exact HZ hO vx ho ht (bQ.bP hO.gl jw hx) dq
  ·cases hc
 case entry x=>
  simp only[Zac]at hc;obtain⟨x',hx,rfl⟩:=hc;exact dq.elim
 case index t x i=>
  split at hc
  ·rename_i ht;simp only[Zao,Zaj,Zad,Zaa]at hc;obtain⟨x',hx,i',hi,rfl⟩:=hc;exact H0 hO ho ht (bQ.bP hO.gl jw hx) (bQ.bP hO.gl jw hi) dq
  ·cases hc
 case panic x=>simp only[Zaa]at hc;subst hc;exact dq.elim
 case makeInterface _ _=>simp only[Zaa]at hc;subst hc;exact dq.elim
 case unOp op t x=>
  simp only[Zac]at hc;obtain⟨y,hy,rfl⟩:=hc;have rx:=bQ.bP hO.gl jw hy;unfold dj Qq at dq⊢;simp only at dq⊢;split at dq
  ·rename_i b hb;rw[hb]at rx;simp only[aA,bj]at rx;split at dq
   ·exact cH.bool hO rfl rfl (by simp[execOp,ho,rx,Op.unary])
   ·exact dq.elim
  ·rename_i k n hb;rw[hb]at rx;simp only[aA,bj]at rx;split at dq
   ·exact cH.int hO rfl rfl (by simp[execOp,ho,rx,Op.unary,Op.intArith])
   ·exact dq.elim
  ·exact dq.elim
 case convert src dst x=>
  split at hc
  ·rename_i k0 k hs hd;simp only[Zac]at hc;obtain⟨y,hy,rfl⟩:=hc;have rx:=bQ.bP hO.gl jw hy;unfold dj at dq⊢;simp only at dq⊢;split at dq
   ·rename_i k1 n hb;rw[hb]at rx;simp only[aA,bj]at rx;exact cH.int hO rfl rfl (by simp[execOp,ho,rx,convert,run_underlying hs,run_underlying hd,Conv.intToInt])
   ·exact dq.elim
  ·cases hc
 case fieldAddr s x f=>
  split at hc
  ·rename_i fs hs;split at hc
   ·rename_i fd hf;split at hc
    ·rename_i fi hi;split at hc
     ·cases hc
     ·rename_i yi;simp only[Zac]at hc;obtain⟨y,hy,rfl⟩:=hc;have rx:=bQ.bP hO.gl jw hy;simp only[dj]at dq⊢;obtain⟨hp,b,oo,Qy,hv⟩:=HU rx dq;refine cH.lJ hO hp (v:=.pointer (some ⟨b,oo+fd.offset,none⟩)) ?_ hv;simp[execOp,ho,Qy,Instr.fieldAt,run_underlying hs,hf,Instr.sureAddr,fieldPlace,run_sizeOf hi,yi,mP]
    ·cases hc
   ·cases hc
  ·cases hc
 case field s x f=>
  split at hc
  ·rename_i fs hs;split at hc
   ·rename_i fd hf;split at hc
    ·rename_i fi desc hi hd;simp only[Zac]at hc;obtain⟨y,hy,rfl⟩:=hc;have rx:=bQ.bP hO.gl jw hy;simp only[dj]at dq⊢;obtain⟨hp,v,bW,hv⟩:=Ku hs hf hi hd rx dq;exact cH.lJ hO hp (v:=v) (by simp[execOp,ho,bW]) hv
    ·cases hc
   ·cases hc
  ·cases hc
 case indexAddr t x ix=>
  split at hc
  ·rename_i e ht;split at hc
   ·rename_i i hi;simp only[Zao,Zaj,Zad,Zaa]at hc;obtain⟨x',hx,y',hy,rfl⟩:=hc;simp only[dj]at dq⊢;obtain⟨hp,v,bW,hv⟩:=Vl hO ht hi (bQ.bP hO.gl jw hx) (bQ.bP hO.gl jw hy) dq;exact cH.lJ hO hp (v:=v) (by simp[execOp,ho,bW]) hv
   ·cases hc
  ·rename_i n e ht;split at hc
   ·rename_i i hi;simp only[Zao,Zaj,Zad,Zaa]at hc;obtain⟨x',hx,y',hy,rfl⟩:=hc;simp only[dj]at dq⊢;obtain⟨hp,v,bW,hv⟩:=Gd ht hi (bQ.bP hO.gl jw hx) (bQ.bP hO.gl jw hy) dq;exact cH.lJ hO hp (v:=v) (by simp[execOp,ho,bW]) hv
   ·cases hc
  ·cases hc
 case slice t x lo pW mx=>
  cases mx with
  |some m=>cases hc
  |none=>
   simp only at hc;split at hc
   ·rename_i e ht;split at hc
    ·rename_i i hi;simp only[Zao,Zaj,Zad,Zaa]at hc;obtain⟨x',hx,lo',hlo,hi2,hhi,rfl⟩:=hc;simp only[dj]at dq⊢;obtain⟨hp,v,bW,hv⟩:=Kv hO ht hi (bQ.bP hO.gl jw hx) (Dp hO.gl jw hlo) (Dp hO.gl jw hhi) dq;exact cH.lJ hO hp (v:=v) (by simp[execOp,ho,bW]) hv
    ·cases hc
   ·cases hc
 case extract x i=>
  simp only[Zac]at hc;obtain⟨y,hy,rfl⟩:=hc;have rx:=bQ.bP hO.gl jw hy;unfold dj r8 at dq⊢;simp only at dq⊢;split at dq
  ·rename_i ts hb;rw[hb]at rx;simp only[aA,bj]at rx;obtain⟨vs,hv,hr⟩:=rx;obtain⟨v,mQ,xV⟩:=fN.get hr (i:=i) (t:=ts.getD i default) (by simp[List.getD,show i<ts.length from dq]);refine cH.lJ hO rfl (v:=v) ?_ (by simp only[aA];exact xV);have:vs[i]? =some v:=by simpa using mQ
   simp[execOp,ho,hv,Instr.extract,this]
  ·rename_i ds hb;rw[hb]at rx;simp only[aA]at rx;obtain⟨vs,hv,hr⟩:=rx;have key:∀(ds:bB) (vs:List Value) (i:Nat),eE w W ab L ds vs->i<ds.length->∃v,vs[i]? =some v/\aA w W ab L (ds.getD i .undef) v:=by
    intro ds;induction ds with
    |nil=>intro vs i _ h;simp at h
    |cons d ds ih=>
     intro vs i h hi;simp only[eE]at h;obtain⟨v,EY,rfl,h1,h2⟩:=h;cases i with
     |zero=>exact⟨v,rfl,h1⟩
     |succ i=>simpa using ih EY i h2 (by simpa using hi)
   obtain⟨v,mQ,xV⟩:=key ds _ i hr dq;refine cH.lJ hO rfl (v:=v) ?_ xV;have:vs[i]? =some v:=by simpa using mQ
   simp[execOp,ho,hv,Instr.extract,this]
  ·exact dq.elim
 case makeSlice t l c=>
  split at hc
  ·rename_i e ht;split at hc
   ·rename_i i hi;split at hc
    ·rename_i z hz;split at hc
     ·rename_i p q;split at hc
      ·rename_i hpq;obtain⟨rfl,yi⟩:=hpq;simp only[Zao,Zaj,Zad,Zaa]at hc;obtain⟨zero,ui,rfl⟩:=hc;simp only[dj]at dq⊢;obtain⟨v,w',L',h1,h2,h3,h4⟩:=Dj hO ht hi hz yi ui vx (bQ.bP hO.gl jw (x:=.tmp p) rfl) dq;exact⟨.value v,v,w',L',by simp[execOp,ho,h1],.inl rfl,h2,h3,h4⟩
      ·cases hc
     ·rename_i k p k' q;split at hc
      ·rename_i hpq;obtain⟨rfl,rfl,yi⟩:=hpq;simp only[Zao,Zaj,Zad,Zaa]at hc;obtain⟨zero,ui,rfl⟩:=hc;simp only[dj]at dq⊢;obtain⟨v,w',L',h1,h2,h3,h4⟩:=Dj hO ht hi hz yi ui vx (bQ.bP (ρ:=ρ) hO.gl jw (x:=.const (.int k p)) rfl) dq;exact⟨.value v,v,w',L',by simp[execOp,ho,h1],.inl rfl,h2,h3,h4⟩
      ·cases hc
     ·cases hc
    ·cases hc
   ·cases hc
  ·cases hc
 case makeFunc f first bY=>
  split at hc
  ·rename_i hf;simp only[Zao,Zaj,Zad,Zaa]at hc;obtain⟨cs,oj,rfl⟩:=hc;simp only[dj]at dq⊢;have hr:aQ w W ab L (cs.map (·.ev ρ)) (bY.map a.eval).toList:=by
    simpa using GH hO.gl jw oj dq
   refine cH.lJ hO rfl (v:=.func f #[] (bY.map a.eval)) ?_ ?_
   ·have:first= #[]:=by simpa using hf
    simp[execOp,ho,this,Instr.makeFunc]
   ·by_cases hpb:xU (cs.map (·.ev ρ))=true
    ·simp only[hpb,if_true,aA,bj];exact⟨_,rfl,ol (Ac hpb) hr⟩
    ·simp only[hpb];exact⟨_,rfl,hr⟩
  ·cases hc
 case call c=>
  have x9:∀{xs:List Operand},c.args.toList=xs->c.args=xs.toArray:=λh=>by rw[<-h,Array.toArray_toList]
  have htys:∀{xs:List TypeId},c.argTypes.toList=xs->c.argTypes=xs.toArray:=λh=>by rw[<-h,Array.toArray_toList]
  unfold eG at hc;split at hc
  ·split at hc
   ·split at hc
    ·cases hc
    ·simp only[Zac]at hc;obtain⟨y,_,rfl⟩:=hc;exact Zar rfl (nP _ _)
   ·cases hc
  ·obtain⟨ys,_,rfl⟩:=Zac.1 hc;exact dq.elim
  ·rename_i jx;split at hc
   ·rename_i x t hx ht;have Cl:c={callee:=.builtin .len,args:= #[x],argTypes:= #[t]}:=by
     have h1:=x9 hx;have h2:=htys ht;cases c
     simp_all
    subst Cl;split at hc
    ·rename_i e hu;simp only[Zac]at hc;obtain⟨y,hy,rfl⟩:=hc;exact Vm hO ho hu (bQ.bP hO.gl jw hy) dq
    ·rename_i hu;simp only[Zac]at hc;obtain⟨y,hy,rfl⟩:=hc;exact N3 hO ho hu (bQ.bP hO.gl jw hy) dq
    ·rename_i kt et hu;simp only[Zac]at hc;obtain⟨y,hy,rfl⟩:=hc;exact N6 hO ho hu (bQ.bP hO.gl jw hy) dq
    ·cases hc
   ·cases hc
  ·rename_i jx;split at hc
   ·rename_i x y t t' hx ht;have Cl:c={callee:=.builtin .copy,args:= #[x,y],argTypes:= #[t,t']}:=by
     have h1:=x9 hx;have h2:=htys ht;cases c
     simp_all
    subst Cl;split at hc
    ·rename_i e hu;split at hc
     ·rename_i i hi;simp only[Zao,Zaj,Zad,Zaa]at hc;obtain⟨x',mh,y',NB,rfl⟩:=hc;simp only[dj]at dq⊢;obtain⟨v,w',h1,h2,h3,h4⟩:=NZ (t:=t) (t':=t') (ty:=o.type) hO hu hi (bQ.bP hO.gl jw mh) (bQ.bP hO.gl jw NB) dq;exact⟨.value v,v,w',L,by simp[execOp,ho,resolve,invoke,builtin,h1],.inl rfl,h2,h3,h4⟩
     ·cases hc
    ·cases hc
   ·cases hc
  ·rename_i jx;split at hc
   ·rename_i x k t ts' hx ht;have Cl:c={callee:=.builtin .delete,args:= #[x,k],argTypes:=c.argTypes}:=by
     have h1:=x9 hx;cases c
     simp_all
    have Kr:c.argTypes[0]? =some t:=by rw[<-Array.getElem?_toList,ht];rfl
    split at hc
    ·rename_i kt et hu;split at hc
     ·rename_i ki HV;simp only[Zao,Zaj,Zad,Zaa]at hc;obtain⟨x',mh,k',tU,rfl⟩:=hc;exact H1 hO Kr (by rw[ho,<-Cl]) hu HV (bQ.bP hO.gl jw mh) (bQ.bP hO.gl jw tU) dq
     ·cases hc
    ·cases hc
   ·cases hc
  ·rename_i jx;split at hc
   ·rename_i x y hx;have Cl:c={callee:=.builtin .min,args:= #[x,y],argTypes:=c.argTypes}:=by
     have h1:=x9 hx;cases c
     simp_all
    simp only[Zao,Zaj,Zad,Zaa]at hc;obtain⟨x',mh,y',NB,rfl⟩:=hc;exact xZ false hO (by rw[ho,Cl];rfl) (bQ.bP hO.gl jw mh) (bQ.bP hO.gl jw NB) dq
   ·cases hc
  ·rename_i jx;split at hc
   ·rename_i x y hx;have Cl:c={callee:=.builtin .max,args:= #[x,y],argTypes:=c.argTypes}:=by
     have h1:=x9 hx;cases c
     simp_all
    simp only[Zao,Zaj,Zad,Zaa]at hc;obtain⟨x',mh,y',NB,rfl⟩:=hc;exact xZ true hO (by rw[ho,Cl];rfl) (bQ.bP hO.gl jw mh) (bQ.bP hO.gl jw NB) dq
   ·cases hc
  ·rename_i jx;split at hc
   ·rename_i x y t t' hx ht;have Cl:c={callee:=.builtin .append,args:= #[x,y],argTypes:= #[t,t']}:=by
     have h1:=x9 hx;have h2:=htys ht;cases c
     simp_all
    subst Cl;split at hc
    ·cases hc
    ·rename_i KB;have KB:t=t':=by simpa using KB
     subst KB;split at hc
     ·rename_i e hu;split at hc
      ·rename_i i hi;split at hc
       ·rename_i z hz;split at hc
        ·rename_i yi;simp only[Zao,Zaj,Zad,Zaa]at hc;obtain⟨x',mh,y',NB,rfl⟩:=hc;simp only[dj]at dq⊢;obtain⟨v,w',L',h1,h2,h3,h4⟩:=HR (ty:=o.type) hO hu hi hz yi.1 yi.2 vx (bQ.bP hO.gl jw mh) (bQ.bP hO.gl jw NB) dq;exact⟨.value v,v,w',L',by simp[execOp,ho,resolve,invoke,builtin,h1],.inl rfl,h2,h3,h4⟩
        ·cases hc
       ·cases hc
      ·cases hc
     ·cases hc
   ·cases hc
  ·cases hc
def Vp(hO:ct base W M w0 ab w L){e:Nat}{n:bQ}(hc:dz P o=some (.mkSlice e sz N4 zero n))(jw:∀t,aA w W ab L (ρ t) (a.tmps.getD t Go.undef))(vx:ab name=none)
  (dq:(gh sz N4 zero name (n.ev ρ)).ok):cH P base W M w0 ab L w a o (gh sz N4 zero name (n.ev ρ)):=by
 unfold dz at hc;cases ho:o.op<;>simp only[ho,reduceCtorEq]at hc
 case makeSlice t l c=>
  split at hc
  ·rename_i e' ht;split at hc
   ·rename_i i hi;split at hc
    ·rename_i z hz;split at hc
     ·rename_i p q;split at hc
      ·rename_i hpq;obtain⟨rfl,yi⟩:=hpq;simp only[Zao,Zaj,Zad,Zaa,rO.mkSlice.injEq]at hc;obtain⟨zero',ui,rfl,rfl,rfl,rfl,rfl⟩:=hc;obtain⟨v,w',L',h1,h2,h3,h4⟩:=Bp hO ht hi hz ui vx (bQ.bP hO.gl jw (x:=.tmp p) rfl) dq;exact⟨.value v,v,w',L',by simp[execOp,ho,h1],.inl rfl,h2,h3,h4⟩
      ·cases hc
     ·rename_i k p k' q;split at hc
      ·rename_i hpq;obtain⟨rfl,rfl,yi⟩:=hpq;simp only[Zao,Zaj,Zad,Zaa,rO.mkSlice.injEq]at hc;obtain⟨zero',ui,rfl,rfl,rfl,rfl,rfl⟩:=hc;obtain⟨v,w',L',h1,h2,h3,h4⟩:=Bp hO ht hi hz ui vx (bQ.bP (ρ:=ρ) hO.gl jw (x:=.const (.int k p)) rfl) dq;exact⟨.value v,v,w',L',by simp[execOp,ho,h1],.inl rfl,h2,h3,h4⟩
      ·cases hc
     ·cases hc
    ·cases hc
   ·cases hc
  ·cases hc
 case binOp op t x y yt=>
  exfalso;simp only[Zaj,Zad]at hc;obtain⟨x',hx,y',hy,hc⟩:=hc;unfold mA at hc;repeat' split at hc
  all_goals first|(cases hc;done)|(simp only[Zac,reduceCtorEq,and_false,exists_false]at hc;done)
 case makeMap t h=>
  exfalso;cases h with
  |some m=>cases hc
  |none=>
   simp only at hc;split at hc
   ·simp only[Zac,reduceCtorEq,and_false,exists_false]at hc
   ·cases hc
 case slice t x lo hi mx=>
  exfalso;cases mx with
  |some m=>cases hc
  |none=>
   simp only at hc;repeat' split at hc
   all_goals simp only[Zac,Zao,Zaj,Zad,Zaa,reduceCtorEq,and_false,exists_false]at hc
 case call c=>
  exfalso;unfold eG at hc;repeat' split at hc
  all_goals first
   |(cases hc;done)
   |(simp only[Zac,Zao,Zaj,Zad,Zaa,reduceCtorEq,and_false,exists_false]at hc;done)
   |skip
 all_goals exfalso
 all_goals first
  |(simp only[Zac,reduceCtorEq,and_false,exists_false]at hc;done)
  |(simp only[Zao,Zaj,Zad,Zaa,reduceCtorEq,and_false,exists_false]at hc;done)
  |(repeat' split at hc)<;>first
    |(simp only[Zac,Zao,Zaj,Zad,Zaa,reduceCtorEq,and_false,exists_false]at hc;done)
    |(simp[Zad]at hc;done)
def no_mkB{e:Nat}{n:bQ}(hc:dz P o=some (.mkSliceB e sz N4 zero n)):False:=by
 unfold dz at hc;cases ho:o.op<;>simp only[ho,reduceCtorEq]at hc
 case makeSlice t l c=>
  repeat' split at hc
  all_goals first
   |(cases hc;done)
   |(simp only[Zao,Zaj,Zad,Zaa,reduceCtorEq,and_false,exists_false]at hc;done)
 case binOp op t x y yt=>
  simp only[Zaj,Zad]at hc;obtain⟨x',hx,y',hy,hc⟩:=hc;unfold mA at hc;repeat' split at hc
  all_goals first|(cases hc;done)|(simp only[Zac,reduceCtorEq,and_false,exists_false]at hc;done)
 case makeMap t h=>
  cases h with
  |some m=>cases hc
  |none=>
   simp only at hc;split at hc
   ·simp only[Zac,reduceCtorEq,and_false,exists_false]at hc
   ·cases hc
 case slice t x lo hi mx=>
  cases mx with
  |some m=>cases hc
  |none=>
   simp only at hc;repeat' split at hc
   all_goals simp only[Zac,Zao,Zaj,Zad,Zaa,reduceCtorEq,and_false,exists_false]at hc
 case call c=>
  unfold eG at hc;repeat' split at hc
  all_goals first
   |(cases hc;done)
   |(simp only[Zac,Zao,Zaj,Zad,Zaa,reduceCtorEq,and_false,exists_false]at hc;done)
 all_goals first
  |(simp only[Zac,reduceCtorEq,and_false,exists_false]at hc;done)
  |(simp only[Zao,Zaj,Zad,Zaa,reduceCtorEq,and_false,exists_false]at hc;done)
  |(repeat' split at hc)<;>first
    |(simp only[Zac,Zao,Zaj,Zad,Zaa,reduceCtorEq,and_false,exists_false]at hc;done)
    |(simp[Zad]at hc;done)
end
end
end Go.DM
