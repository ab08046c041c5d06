/- Part. Conditions: none. -/
import Derived.Below
import Derived.CallsIn
import Derived.Laws.AppendOwn
import Derived.Laws.AppendOwnNone
import Derived.Laws.MakeOwn
import Derived.Laws.World
import Derived.Laws.Cells
import Derived.Laws.Small
import Derived.Laws.Entries
import Derived.Laws.Strings
import Derived.Laws.StructEq
import Derived.Laws.Shifts
set_option linter.all false
namespace Go.DM
def be{α:Sort _}(a:α):∃b,a=b:=⟨a,rfl⟩
def cu:=@Option.some.injEq
def aZ:=@if_neg
def iV:=@Option.map_eq_some_iff
def jG:=@Option.bind_eq_some_iff
def kK:=@Int.eq_ofNat_of_zero_le
def fq:=@Nat.add_assoc
def ed:=@Nat.le_refl
def fN:=@List.mem_cons
def iQ:=@Int.toNat_natCast
def cF:=@if_pos
def kP:=@Option.bind_eq_bind
def g9:=@List.mem_map
def lq:=@List.not_mem_nil
def mD:=@Bool.and_eq_true
def oO:=@List.mem_singleton
def mb:=@Option.pure_def
def v8:=@Array.getElem?_eq_some_iff
def oi:=@List.mem_append
def eB:=@absurd
def w8:=@List.getElem?_eq_getElem
def qW:=@of_decide_eq_true
def oS:=@Prod.mk.injEq
def tD:=@decide_eq_true_eq
def Db:=@List.getElem?_eq_some_iff
def xL:=@List.mem_of_getElem?
def qD:=@List.map_cons
def wQ:=@of_decide_eq_false
def Dm:=@decide_eq_false_iff_not
def we:=@List.length_take
def ld:=@or_false
def jP:=@if_true
def vZ:=@List.append_nil
def LS:=@List.eq_nil_of_length_eq_zero
def HN:=@List.getElem?_cons_zero
def Ew:=@List.mem_of_mem_take
def yN:=@List.nil_append
def O1:=@Array.getD_eq_getD_getElem?
def Dk:=@List.foldl_append
def Hm:=@Nat.pos_iff_ne_zero
def Ey:=@List.length_append
def EB:=@Bool.false_ne_true
def wh:=@exists_false
def C9:=@List.cons_append
def Ca:=@List.foldl_cons
def If:=@List.getElem_of_mem
def xI:=@Nat.le_trans
def HR:=@List.getElem?_take
def qI:=@true_and
def Hy:=@List.all_eq_true
def Ho:=@List.range_succ
def Xf:=@List.mem_or_eq_of_mem_set
def NT:=@List.length_pos_iff
def wg:=@and_false
def Ln:=@List.mem_flatMap
def Lr:=@List.length_cons
def OX:=@Bool.false_eq_true
def Xd:=@List.take_of_length_le
def Pu:=@List.replicate_succ
def JI:=@List.map_append
def Zb:=@List.getElem?_cons_succ
def C7:=@Nat.add_mul
def Ph:=@List.pairwise_cons
def I4:=@List.mem_range
def Si:=@Array.length_toList
def OU:=@List.filter_cons
def w7:=@if_false
def LF:=@List.find?_cons
def LW:=@List.cons.injEq
def Lp:=@List.mapM_cons
def Zm:=@List.mem_cons_of_mem
def O5:=@Option.map_some
def Zbj:=@List.getElem?_append_right
def CT:=@and_assoc
def Zbl:=@List.getElem?_append_left
def St:=@Option.getD_some
def SK:=@List.getElem_mem
def Xr:=@Bool.not_eq_true'
def Y8:=@List.findIdx?_cons
def Y9:=@List.filter_append
def Lo:=@Nat.zero_add
def Zl:=@List.mem_cons_self
def Su:=@List.mem_filter
def Zbu:=@Nat.mul_le_mul_right
def Zbv:=@List.findIdx?_eq_some_iff_getElem
def XP:=@List.length_map
def Zc:=@List.length_drop
def Zby:=@Option.isSome_iff_exists
def Zbz:=@List.map_congr_left
def ZbA:=@List.take_append_drop
def ZbB:=@List.getElem?_eq_none
def Zz:=@List.flatMap_cons
def ZJ:=@List.flatten_cons
def ZbE:=@List.drop_eq_nil_of_le
def ZbF:=@List.ext_getElem
def ZbG:=@List.getElem?_map
def ZbH:=@List.length_replicate
def SJ:=@List.map_nil
def ZbJ:=@Nat.lt_of_lt_of_le
def ZbK:=@List.mem_filterMap
def Sj:=@Nat.zero_le
def Mf:=@forall_eq
def ZbN:=@List.getElem?_set
def JN:=@false_or
def ZbP:=@Array.getElem?_eq_getElem
def ZbQ:=@List.getElem?_eq_none_iff
def ZbR:=@List.drop_eq_getElem_cons
def ZbS:=@List.set_append_right
def ZbT:=@List.getElem?_drop
def ZbU:=@List.eq_of_mem_replicate
def ZbV:=@Array.append_empty
def ZbW:=@Nat.lt_of_not_le
def ZbX:=@List.take_length
def ZbY:=@List.append_assoc
def ZbZ:=@List.ext_getElem?
def Zb0:=@List.take_add_one
def ZA:=@Nat.add_zero
def Zb2:=@Option.ne_none_iff_exists'
def OY:=@and_true
def Zb4:=@List.getElem_map
def Zb5:=@List.set_cons_zero
def Zb6:=@List.getElem_range
def Zb7:=@Array.getElem?_toList
def Zb8:=@List.contains_iff_mem
def Zb9:=@Option.some.inj
def Zca:=@List.mem_of_mem_drop
def Zcb:=@Bool.eq_iff_iff
def Zcc:=@List.getElem?_of_mem
def Zcd:=@Array.getElem?_setIfInBounds
def Zce:=@List.nodup_nil
def Zcf:=@List.getElem_set
def Zcg:=@List.set_cons_succ
def Zch:=@List.mem_append_right
def Zci:=@List.modify_succ_cons
def Zcj:=@List.length_range
def Zck:=@List.mem_range'_1
def Zcl:=@List.nodup_append
def Zcm:=@List.mem_of_find?_eq_some
def Zcn:=@beq_iff_eq
def Zco:=@List.findIdx?_eq_none_iff
def Zcp:=@List.foldl_nil
def Zcq:=@Nat.sub_zero
def Zcr:=@Nat.lt_succ_self
def Zcs:=@List.map_set
def Zct:=@List.any_eq_true
def Zcu:=@List.take_succ_cons
def Zcv:=@List.replicate_zero
def Zcw:=@List.getElem?_replicate
def Zcx:=@List.map_take
def Zcy:=@Bool.or_eq_true
def Zcz:=@List.length_nil
def ZcA:=@Int.mul_le_mul_of_nonneg_right
def ZcB:=@List.any_eq_false
def ZcC:=@List.getElem_drop
def ZcD:=@List.drop_zero
def ZcE:=@List.modify_zero_cons
def ZcF:=@Nat.sub_self
def ZcG:=@Int.mul_nonneg
def ZcH:=@Array.toArray_toList
def ZcI:=@Option.bind_some
def ZcJ:=@Bool.not_true
def ZcK:=@Int.le_refl
def ZcL:=@List.getD_cons_succ
def ZcM:=@List.flatMap_append
def ZcN:=@List.nodup_cons
def ZcO:=@Array.mapM_eq_mapM_toList
def ZcP:=@List.count_cons
def ZcQ:=@Nat.add_sub_cancel
def ZcR:=@List.mem_of_mem_eraseIdx
def ZcS:=@Int.natCast_nonneg
def ZcT:=@List.count_pos_iff
def ZcU:=@List.foldl_map
def ZcV:=@Nat.mul_le_mul
def ZcW:=@List.pairwise_map
def ZcX:=@List.getElem_take
def ZcY:=@Bool.true_and
def ZcZ:=@List.all_cons
def Zc0:=@Nat.mod_eq_of_lt
def Zc1:=@List.range'_succ
def Zc2:=@List.zipIdx_cons
def Zc3:=@List.countP_cons
def Zc4:=@Nat.zero_mul
def Zc5:=@List.forIn_cons
def Zc6:=@List.getElem?_append
def Zc7:=@not_or
def Zc8:=@List.replicate_succ'
def Zc9:=@List.find?_eq_some_iff_getElem
def Zda:=@Int.mul_le_mul_of_nonneg_left
def Zdb:=@List.flatten_append
def Zdc:=@Array.toList_modify
def Zdd:=@List.filterMap_cons
def Zde:=@List.take_take
def Zdf:=@List.drop_drop
def Zdg:=@dif_neg
def Zdh:=@dif_pos
def Zdi:=@Int.toNat_zero
def Zdj:=@List.find?_eq_none
def Zdk:=@Nat.eq_zero_or_pos
def Zdl:=@Array.getElem?_append_left
def Zdm:=@bne_iff_ne
def Zdn:=@List.pairwise_iff_getElem
def Zdo:=@List.take_append
def Zdp:=@Bool.not_eq_true
def Zdq:=@List.map_map
def Zdr:=@Nat.lt_or_ge
def Zds:=@List.length_eq_zero_iff
def Zdt:=@List.find?_some
def Zdu:=@List.take_left'
def Zdv:=@Nat.min_eq_left
def Zdw:=@List.range_zero
def Zdx:=@Nat.le_succ
def Zdy:=@List.Perm.refl
def Zdz:=@List.modify_id
def ZdA:=@false_implies
section
abbrev fH:=Nat->Prop
abbrev bT:=List Int
abbrev cQ:=List Nat
section
variable{w':World}{W':fH}
inductive T where
 |bool (b:Bool)
 |int (k:IntKind) (n:Int)
 |str (s:ByteArray)
 |sl (av:List (List T))
 |agg (cs:List T)
 |ew (vs:List T)
 |fn (f:Fn) (ch:List T)
 |box (cs:List T)
 |pO (v:Value)
abbrev aL:=List T
abbrev avo:=List aL
instance:Inhabited T:=⟨.bool false⟩
section
variable(w:World)(W:fH)
mutual
def bm:T->Value->Prop
 |.bool b,v=>v=.bool b
 |.int k n,v=>v=.int k n
 |.str s,v=>v=.string s
 |.sl av,v=>(av=[]/\∃(a:Option Addr) (cap:Nat),v=.slice a 0 cap)\/
   ∃b o cap sz,v=.slice (some ⟨b,o,none⟩) av.length cap/\b<w.heap.size/\¬W b/\av.length<=cap/\bD sz b o av
 |.agg cs,v=>∃vs,v=.agg vs/\bl cs vs.toList
 |.ew ts,v=>∃vs,v=.tuple vs/\ga ts vs.toList
 |.fn f ch,v=>∃vs,v=.func f #[] vs/\bl ch vs.toList
 |.box cs,v=>∃b o,v=.pointer (some ⟨b,o,none⟩)/\b<w.heap.size/\¬W b/\eD b o cs
 |.pO x,v=>v=x
def bl:aL->List Value->Prop
 |[],vs=>vs=[]
 |t::ts,vs=>∃v jN,vs=v::jN/\v.oneCell'=true/\bm t v/\bl ts jN
def ga:aL->List Value->Prop
 |[],vs=>vs=[]
 |t::ts,vs=>∃v jN,vs=v::jN/\bm t v/\ga ts jN
def eD:Nat->Nat->aL->Prop
 |_,_,[]=>True
 |b,o,t::ts=>(∃v,w.cell? ⟨b,o,none⟩=some v/\v.oneCell'=true/\bm t v)/\eD b (o+1) ts
def bD:Nat->Nat->Nat->List (aL)->Prop
 |_,_,_,[]=>True
 |sz,b,o,r::rs=>r.length=sz/\eD b o r/\bD sz b (o+sz) rs
end
end
structure KeepsC(W:fH)(w w':World):Prop where
 size:w.heap.size<=w'.heap.size
 jX:∀(b:Nat) c e fr,w.heap[b]? =some (.cells c e fr)->¬W b->w'.heap[b]? =some (.cells c e fr)
structure dv(W:fH)(w w':World):Prop extends KeepsC W w w' where
 Za:∀b:Nat,w.heap[b]? =some (Obj.deferred (some []))->w'.heap[b]? =some (Obj.deferred (some []))
 ZG:∀(b:Nat) r,w.heap[b]? =some (Obj.loop r)->w'.heap[b]? =some (Obj.loop r)
def KeepsC.cell{W:fH}{w:World}(h:KeepsC W w w'){b o:Nat}{v:Value}(hn:¬W b)(hc:w.cell? ⟨b,o,none⟩=some v):w'.cell? ⟨b,o,none⟩=some v:=by
 unfold World.cell? at hc⊢;simp only at hc⊢;split at hc
 ·rename_i c e fr hb;rw[h.jX b c e fr hb hn];exact hc
 ·cases hc
def dv.refl(W:fH)(w:World):dv W w w:=⟨⟨ed _,λ_ _ _ _ h _=>h⟩,λ_ h=>h,λ_ _ h=>h⟩
def dv.mono{W:fH}{a b:World}(h:dv W a b)(hw:∀i,W i->W' i):dv W' a b:=
 ⟨⟨h.size,λi c e fr hi hn=>h.jX i c e fr hi λx=>hn (hw i x)⟩,h.Za,h.ZG⟩
structure wL(B:Nat)(w w':World):Prop extends RowKit.Below B w w' where
 drawn:w.drawn<=w'.drawn
def dv.ZH{W:fH}{w:World}(h:RowKit.Below w.heap.size w w'):dv W w w':=
 ⟨⟨h.size,λb c e fr hb _=>(h.block b (v8.1 hb).1).trans hb⟩,λb hb=>(h.block b (v8.1 hb).1).trans hb,λb r hb=>(h.block b (v8.1 hb).1).trans hb⟩
mutual
def bm.bH{w w':World}{W W':fH}(h:KeepsC W w w')(hW:∀b,b<w.heap.size->W' b->W b):∀(t:T) (v:Value),bm w W t v->bm w' W' t v
 |.bool b,v,r=>by simpa [bm]using r
 |.int k n,v,r=>by simpa [bm]using r
 |.pO x,v,r=>by simpa [bm]using r
 |.str s,v,r=>by simpa [bm]using r
 |.sl av,v,r=>by
  simp only[bm]at r⊢;rcases r with r|⟨b,o,cap,sz,hv,hb,hn,hc,hr⟩
  ·exact .inl r
  ·exact .inr ⟨b,o,cap,sz,hv,ZbJ hb h.size,λx=>hn (hW b hb x),hc,bD.bH h hW hb hn sz o av hr⟩
 |.agg cs,v,r=>by
  simp only[bm]at r⊢;obtain⟨vs,hv,hr⟩:=r;exact⟨vs,hv,bl.bH h hW cs _ hr⟩
 |.ew ts,v,r=>by
  simp only[bm]at r⊢;obtain⟨vs,hv,hr⟩:=r;exact⟨vs,hv,ga.bH h hW ts _ hr⟩
 |.fn f ch,v,r=>by
  simp only[bm]at r⊢;obtain⟨vs,hv,hr⟩:=r;exact⟨vs,hv,bl.bH h hW ch _ hr⟩
 |.box cs,v,r=>by
  simp only[bm]at r⊢;obtain⟨b,o,hv,hb,hn,hr⟩:=r;exact⟨b,o,hv,ZbJ hb h.size,λx=>hn (hW b hb x),eD.bH h hW hb hn o cs hr⟩
def bl.bH{w w':World}{W W':fH}(h:KeepsC W w w')(hW:∀b,b<w.heap.size->W' b->W b):∀(ts:aL) (vs:List Value),bl w W ts vs->bl w' W' ts vs
 |[],vs,r=>by simpa [bl]using r
 |t::ts,vs,r=>by
  simp only[bl]at r⊢;obtain⟨v,jN,hv,h1,hr,nw⟩:=r;exact⟨v,jN,hv,h1,bm.bH h hW t v hr,bl.bH h hW ts jN nw⟩
def ga.bH{w w':World}{W W':fH}(h:KeepsC W w w')(hW:∀b,b<w.heap.size->W' b->W b):∀(ts:aL) (vs:List Value),ga w W ts vs->ga w' W' ts vs
 |[],vs,r=>by simpa [ga]using r
 |t::ts,vs,r=>by
  simp only[ga]at r⊢;obtain⟨v,jN,hv,hr,nw⟩:=r;exact⟨v,jN,hv,bm.bH h hW t v hr,ga.bH h hW ts jN nw⟩
def eD.bH{w w':World}{W W':fH}(h:KeepsC W w w')(hW:∀b,b<w.heap.size->W' b->W b){b:Nat}(hb:b<w.heap.size)(hn:¬W b):∀(o:Nat) (ts:aL),eD w W b o ts->eD w' W' b o ts
 |_,[],_=>by simp[eD]
 |o,t::ts,r=>by
  simp only[eD]at r⊢;obtain⟨⟨v,hc,h1,hr⟩,nw⟩:=r;exact⟨⟨v,h.cell hn hc,h1,bm.bH h hW t v hr⟩,eD.bH h hW hb hn (o+1) ts nw⟩
def bD.bH{w w':World}{W W':fH}(h:KeepsC W w w')(hW:∀b,b<w.heap.size->W' b->W b){b:Nat}(hb:b<w.heap.size)(hn:¬W b)(sz:Nat):∀(o:Nat) (rs:List (aL)),bD w W sz b o rs->bD w' W' sz b o rs
 |_,[],_=>by simp[bD]
 |o,r::rs,x=>by
  simp only[bD]at x⊢;exact⟨x.1,eD.bH h hW hb hn o r x.2.1,bD.bH h hW hb hn sz (o+sz) rs x.2.2⟩
end
section
variable{w:World}{W:fH}
def bD.row{sz b:Nat}:∀{av:List (aL)} {o i:Nat} {r:aL},bD w W sz b o av->av[i]? =some r->r.length=sz/\eD w W b (o+i*sz) r
 |[],_,_,_,_,h=>by simp at h
 |x::xs,o,0,r,hr,h=>by
  simp only[bD]at hr;simp only[HN,cu]at h;subst h;simpa using⟨hr.1,hr.2.1⟩
 |x::xs,o,i+1,r,hr,h=>by
  simp only[bD]at hr;simp only[Zb]at h;have:=bD.row hr.2.2 h;rw[show o+(i+1)*sz=o+sz+i*sz by rw[C7];omega];exact this
def eD.En{b:Nat}:∀(ts:aL) (o:Nat),(∀j t,ts[j]? =some t->∃v,w.cell? ⟨b,o+j,none⟩=some v/\v.oneCell'=true/\bm w W t v)->eD w W b o ts
 |[],_,_=>by simp[eD]
 |t::ts,o,h=>by
  simp only[eD];refine⟨by simpa using h 0 t (by simp),eD.En ts (o+1) λj u hu=>?_⟩;have:=h (j+1) u (by simpa using hu)
  rwa [show o+1+j=o+(j+1)by omega]
def bD.Dr{sz b:Nat}:∀(rs:List (aL)) (o:Nat),(∀i r,rs[i]? =some r->r.length=sz/\eD w W b (o+i*sz) r)->bD w W sz b o rs
 |[],_,_=>by simp[bD]
 |r::rs,o,h=>by
  simp only[bD];have h0:=h 0 r (by simp);refine⟨h0.1,by simpa using h0.2,bD.Dr rs (o+sz) λi u hu=>?_⟩;have:=h (i+1) u (by simpa using hu)
  rwa [show o+sz+i*sz=o+(i+1)*sz by rw[C7];omega]
def bl.length:∀{ts:aL} {vs:List Value},bl w W ts vs->vs.length=ts.length
 |[],_,h=>by simp only[bl]at h;simp[h]
 |_::ts,_,h=>by
  simp only[bl]at h;obtain⟨v,jN,rfl,_,_,hr⟩:=h;simp[bl.length hr]
def ga.length:∀{ts:aL} {vs:List Value},ga w W ts vs->vs.length=ts.length
 |[],_,h=>by simp only[ga]at h;simp[h]
 |_::ts,_,h=>by
  simp only[ga]at h;obtain⟨v,jN,rfl,_,hr⟩:=h;simp[ga.length hr]
def bl.get:∀{ts:aL} {vs:List Value} {i:Nat} {t:T},bl w W ts vs->ts[i]? =some t->∃v,vs[i]? =some v/\v.oneCell'=true/\bm w W t v
 |[],_,_,_,_,h=>by simp at h
 |x::xs,_,0,t,hr,h=>by
  simp only[bl]at hr;obtain⟨v,jN,rfl,h1,h2,_⟩:=hr;simp only[HN,cu]at h;subst h;exact⟨v,rfl,h1,h2⟩
 |x::xs,_,i+1,t,hr,h=>by
  simp only[bl]at hr;obtain⟨v,jN,rfl,_,_,hr⟩:=hr;simpa using bl.get hr (by simpa using h)
def ga.get:∀{ts:aL} {vs:List Value} {i:Nat} {t:T},ga w W ts vs->ts[i]? =some t->∃v,vs[i]? =some v/\bm w W t v
 |[],_,_,_,_,h=>by simp at h
 |x::xs,_,0,t,hr,h=>by
  simp only[ga]at hr;obtain⟨v,jN,rfl,h2,_⟩:=hr;simp only[HN,cu]at h;subst h;exact⟨v,rfl,h2⟩
 |x::xs,_,i+1,t,hr,h=>by
  simp only[ga]at hr;obtain⟨v,jN,rfl,_,hr⟩:=hr;simpa using ga.get hr (by simpa using h)
end
class bM where
 cells:List (Nat×aL)
abbrev bM.none:bM:=⟨[]⟩
def Hk [bM](w:World)(W:fH):Prop:=∀p∈bM.cells,p.1<w.heap.size/\¬W p.1/\eD w W p.1 0 p.2
def Hk.bH [bM]{w:World}{W:fH}(h:Hk w W)(hk:KeepsC W w w')(hW:∀b,b<w.heap.size->W' b->W b):Hk w' W':=λp hp=>by
 obtain⟨h1,h2,h3⟩:=h p hp;exact⟨ZbJ h1 hk.size,λx=>h2 (hW _ h1 x),eD.bH hk hW h1 h2 0 p.2 h3⟩
def Hk.empty(w:World)(W:fH): @Hk bM.none w W:=λp hp=>by cases hp
end
end
section
inductive DV where
 |undef
 |skip
 |v (t:T)
 |aX
 |ptr (r off:Nat)
 |bC (r bJ:Nat)
 |mV (av:List (aL)) (i:Int) (off:Nat)
 |jd (cs:aL) (off:Nat)
 |kO (r bJ:Nat) (i:Int) (off:Nat)
 |agg (cs:List DV)
 |Po
 |je (r:Nat)
 |cm (r:Nat)
 |ew (ds:List DV)
 |wa (r bJ lo n:Nat)
 |oP (f:Fn) (ch:List DV)
 |Hq (r n:Nat)
abbrev dj:=Nat->DV
abbrev eO:=List (Nat×DV)
abbrev bF:=List DV
instance:Inhabited DV:=⟨.undef⟩
inductive Sh where
 |bool|int (k:IntKind)|str
def I9:Sh->T->Bool
 |.bool,.bool _=>true
 |.int k,.int k' _=>k==k'
 |.str,.str _=>true
 |_,_=>false
def eZ:List Sh->aL->Prop
 |[],ts=>ts=[]
 |s::ss,t::ts=>I9 s t=true/\eZ ss ts
 |_::_,[]=>False
inductive Ob where
 |box (cs:bF)
 |bE (bJ e sz:Nat) (av:List (aL))
 |map (cy:List Sh) (agg:Bool) (bA:Nat) (es:List (Nat×T×DV))
 |cm (m avp:Nat) (seen:cQ) (aoM:Nat)
abbrev c7:=List (Nat×Ob)
def Ob.kind:Ob->Nat
 |.box _=>0
 |.bE _ _ _ _=>1
 |.map _ _ _ _=>2
 |.cm _ _ _ _=>3
abbrev bq:=Nat->Option Ob
structure ma where
 tmps:dj
 ab:bq
 aK:Nat
 low:Nat
 todo:List (aL)
inductive bW where
 |tmp (t:Nat)
 |ia (d:DV)
def bW.ev(ρ:dj):bW->DV
 |.tmp t=>ρ t
 |.ia d=>d
structure fV where
 ok:Prop
 val:DV
 ab:bq
structure Spec where
 pre:aL->Prop
 fn:aL->T
 jY:Bool
 st:Option (bF->bq->fV):=none
 fresh:Option (Nat×Nat):=none
 gu:Bool:=false
abbrev pk:=FuncId->Option Spec
inductive sV where
 |sh (x:bW)
 |pick (c a b:bW)
 |alloc (zero:bF)
 |box (x:bW)
 |build (zero:bF) (parts:List (Nat×Nat×bW))
 |bslice (len sz:Nat) (zero:bF) (parts:List (Nat×Nat×bW))
 |load (n:Nat) (agg:Bool) (x:bW)
 |store (n:Nat) (x y:bW)
 |bin (op:BinOp) (x y:bW)
 |eqT (neg agg:Bool) (cy:List Sh) (x y:bW)
 |un (op:UnOp) (x:bW)
 |conv (k:IntKind) (x:bW)
 |addOff (k:Nat) (x:bW)
 |nilCheck (x:bW)
 |idxAddr (sz:Nat) (x i:bW)
 |arrAddr (len sz:Nat) (x i:bW)
 |field (off n:Nat) (agg:Bool) (x:bW)
 |slice (sz:Nat) (x:bW) (lo hi:Option bW)
 |extract (i:Nat) (x:bW)
 |call (f:FuncId) (args:List bW)
 |callS (f:FuncId) (args:List bW)
 |callF (f:FuncId) (args:List bW)
 |callR (f:FuncId) (args:List bW)
 |callv (x:bW) (args:List bW)
 |len (x:bW)
 |lenS (x:bW)
 |minmax (LN:Bool) (x y:bW)
 |append (e sz bytes:Nat) (x y:bW)
 |mkSlice (e sz bytes:Nat) (zero:aL) (n:bW)
 |mkSliceB (e sz bytes:Nat) (zero:aL) (n:bW)
 |mkFn (f:Fn) (ch:List bW)
 |mkMap (cy:List Sh) (agg:Bool)
 |lookup (cy:List Sh) (agg:Bool) (zero:DV) (ok:Bool) (x k:bW)
 |mapUpd (cy:List Sh) (agg:Bool) (x k y:bW)
 |mapDel (cy:List Sh) (agg:Bool) (x k:bW)
 |mapEnt (cy:List Sh) (agg:Bool) (zero:DV) (x k:bW)
 |entSt (x s y:bW)
 |lenM (x:bW)
 |rangeM (x:bW)
 |entryM (x:bW)
 |copy (sz:Nat) (x y:bW)
 |isNil (kind:Nat) (neg:Bool) (x:bW)
 |indexS (x i:bW)
 |fail
structure si where
 ok:Prop
 val:DV
 put:Option (Nat×Ob):=none
def da:si:=⟨False,.undef,none⟩
def Eo:T->Bool
 |.agg _|.ew _=>false
 |.pO v=>v.oneCell'
 |_=>true
def cellsOf:DV->bF
 |.v (.agg cs)=>cs.map .v
 |.agg cs=>cs
 |d=>[d]
def nS:DV->Prop
 |.undef=>False
 |.skip=>False
 |.v (.ew _)=>False
 |.v (.pO x)=>x.oneCell'=true
 |.ew _=>False
 |_=>True
mutual
def uD(ab:bq):DV->T
 |.v t=>t
 |.aX=>.sl []
 |.bC r _=>match ab r with|some (.bE _ _ _ av)=>.sl av|_=>.sl []
 |.agg cs=>.agg (jF ab cs)
 |.wa r _ lo n=>match ab r with|some (.bE _ _ _ av)=>.sl ((av.drop lo).take n)|_=>.sl []
 |.oP f ch=>.fn f (jF ab ch)
 |_=>.pO undef
def jF(ab:bq):bF->aL
 |[]=>[]
 |d::ds=>uD ab d::jF ab ds
end
mutual
def Hl(gu:Bool)(ab:bq):DV->Prop
 |.v _=>True
 |.aX=>True
 |.bC r bJ=>gu=true/\match ab r with|some (.bE cw _ _ _)=>bJ=cw|_=>False
 |.agg cs=>uE gu ab cs
 |.wa r bJ lo n=>gu=true/\match ab r with|some (.bE cw _ _ av)=>bJ=cw/\lo+n<=av.length|_=>False
 |.oP _ ch=>uE gu ab ch
 |_=>False
def uE(gu:Bool)(ab:bq):bF->Prop
 |[]=>True
 |d::ds=>Hl gu ab d/\uE gu ab ds
end
def u5:DV->Prop
 |.v t=>Eo t=true
 |.aX=>True
 |_=>False
def jz:bF->Prop
 |[]=>True
 |d::ds=>u5 d/\jz ds
def yX:bF->Bool
 |[]=>true
 |.v t::ds=>Eo t&&yX ds
 |.aX::ds=>yX ds
 |_::_=>false
def kY:DV->Prop
 |.undef=>False
 |.skip=>False
 |.v t=>Eo t=true
 |.agg _=>False
 |.ew _=>False
 |_=>True
def fp:bF->Prop
 |[]=>True
 |d::ds=>kY d/\fp ds
def cG{α:Type}(l:List α)(off:Nat)(new:List α):List α:=l.take off++new++l.drop (off+new.length)
def wY(cells:bF):List (Nat×Nat×DV)->bF
 |[]=>cells
 |(off,_,d)::ps=>wY (cG cells off (cellsOf d)) ps
def u6(n:Nat):List (Nat×Nat×DV)->Prop
 |[]=>True
 |(off,sz,d)::ps=>(cellsOf d).length=sz/\off+sz<=n/\fp (cellsOf d)/\u6 n ps
def rowAt(av:List (aL))(i:Int):aL:=av.getD i.toNat []
def gn(sz:Nat):Nat->aL->List (aL)
 |0,_=>[]
 |n+1,cs=>cs.take sz::gn sz n (cs.drop sz)
def jg(n:Nat)(agg:Bool)(ab:bq):DV->si
 |.ptr r off=>match ab r with
  |some (.box cs)=>⟨off+n<=cs.length/\(agg=true\/n=1),if agg then .agg ((cs.drop off).take n)else cs.getD off .undef,none⟩
  |_=>da
 |.mV av i off=>⟨off+n<=(rowAt av i).length/\(agg=true\/n=1),if agg then .v (.agg (((rowAt av i).drop off).take n))else .v ((rowAt av i).getD off default),none⟩
 |.jd cs off=>⟨off+n<=cs.length/\(agg=true\/n=1),if agg then .v (.agg ((cs.drop off).take n))else .v (cs.getD off default),none⟩
 |.v (.box cs)=>⟨n<=cs.length/\(agg=true\/n=1),if agg then .v (.agg (cs.take n))else .v (cs.getD 0 default),none⟩
 |.kO r bJ i off=>match ab r with
  |some (.bE cw _ _ av)=>⟨bJ=cw/\off+n<=(rowAt av i).length/\(agg=true\/n=1),if agg then .v (.agg (((rowAt av i).drop off).take n))else .v ((rowAt av i).getD off default),none⟩
  |_=>da
 |_=>da
def my(n:Nat)(ab:bq)(y:DV):DV->si
 |.ptr r off=>match ab r with
  |some (.box cs)=>⟨(cellsOf y).length=n/\off+n<=cs.length/\fp (cellsOf y),.undef,some (r,.box (cG cs off (cellsOf y)))⟩
  |_=>da
 |.kO r bJ i off=>match ab r with
  |some (.bE cw e sz av)=>⟨bJ=cw/\(cellsOf y).length=n/\off+n<=sz/\jz (cellsOf y),.undef,
    some (r,.bE cw e sz (av.set i.toNat (cG (rowAt av i) off (jF ab (cellsOf y)))))⟩
  |_=>da
 |_=>da
def u7(op:BinOp):DV->DV->si
 |.v (.int k a),.v (.int k' b)=>match op with
  |.add=>⟨k=k',.v (.int k (k.wrap (a+b))),none⟩
  |.sub=>⟨k=k',.v (.int k (k.wrap (a-b))),none⟩
  |.mul=>⟨k=k',.v (.int k (k.wrap (a*b))),none⟩
  |.quo=>⟨k=k'/\b≠0,.v (.int k (k.wrap (a.tdiv b))),none⟩
  |.rem=>⟨k=k'/\b≠0,.v (.int k (a.tmod b)),none⟩
  |.eql=>⟨k=k',.v (.bool (decide (a=b))),none⟩
  |.neq=>⟨k=k',.v (.bool (!decide (a=b))),none⟩
  |.lss=>⟨k=k',.v (.bool (decide (a<b))),none⟩
  |.leq=>⟨k=k',.v (.bool (decide (a<=b))),none⟩
  |.gtr=>⟨k=k',.v (.bool (decide (b<a))),none⟩
  |.geq=>⟨k=k',.v (.bool (decide (b<=a))),none⟩
  |.shl=>⟨0<=b,.v (.int k (k.wrap (a*2^min b.toNat k.bits))),none⟩
  |.shr=>⟨0<=b,.v (.int k (a/2^min b.toNat k.bits)),none⟩
  |.and=>⟨k=k',.v (.int k (k.wrap (BitVec.ofInt k.bits a&&&BitVec.ofInt k.bits b).toNat)),none⟩
  |.or=>⟨k=k',.v (.int k (k.wrap (BitVec.ofInt k.bits a|||BitVec.ofInt k.bits b).toNat)),none⟩
  |.xor=>⟨k=k',.v (.int k (k.wrap (BitVec.ofInt k.bits a^^^BitVec.ofInt k.bits b).toNat)),none⟩
  |_=>da
 |_,_=>da
mutual
def ib:T->T->Bool
 |.bool a,.bool b=>a==b
 |.int _ a,.int _ b=>decide (a=b)
 |.str a,.str b=>decide (a=b)
 |.agg as,.agg bs=>uu as bs
 |_,_=>false
def uu:aL->aL->Bool
 |[],[]=>true
 |a::as,b::bs=>ib a b&&uu as bs
 |_,_=>false
end
def Ep(neg agg:Bool)(cy:List Sh):T->T->si
 |.agg as,.agg bs=>⟨agg=true/\eZ cy as/\eZ cy bs,.v (.bool (neg^^uu as bs)),none⟩
 |a,b=>⟨agg=false/\eZ cy [a]/\eZ cy [b],.v (.bool (neg^^ib a b)),none⟩
def Se(op:UnOp):DV->si
 |.v (.bool b)=>match op with
  |.not=>⟨True,.v (.bool (!b)),none⟩
  |_=>da
 |.v (.int k n)=>match op with
  |.neg=>⟨True,.v (.int k (k.wrap (-n))),none⟩
  |_=>da
 |_=>da
def iK(k:Nat):DV->si
 |.ptr r off=>⟨True,.ptr r (off+k),none⟩
 |.mV av i off=>⟨True,.mV av i (off+k),none⟩
 |.jd cs off=>⟨True,.jd cs (off+k),none⟩
 |.v (.box cs)=>⟨True,.jd cs k,none⟩
 |.kO r bJ i off=>⟨True,.kO r bJ i (off+k),none⟩
 |_=>da
def lP:DV->si
 |.ptr r off=>⟨True,.ptr r off,none⟩
 |.mV av i off=>⟨True,.mV av i off,none⟩
 |.jd cs off=>⟨True,.jd cs off,none⟩
 |.v (.box cs)=>⟨True,.v (.box cs),none⟩
 |.kO r bJ i off=>⟨True,.kO r bJ i off,none⟩
 |.v (.fn (.func f) ch)=>⟨True,.v (.fn (.func f) ch),none⟩
 |_=>da
def tg(sz:Nat)(ab:bq):DV->DV->si
 |.v (.sl av),.v (.int _ i)=>⟨0<=i/\i<av.length/\(rowAt av i).length=sz,.mV av i 0,none⟩
 |.bC r bJ,.v (.int _ i)=>match ab r with
  |some (.bE cw _ jh av)=>⟨bJ=cw/\jh=sz/\0<=i/\i<av.length,.kO r bJ i 0,none⟩
  |_=>da
 |.wa r bJ lo n,.v (.int _ i)=>match ab r with
  |some (.bE cw _ jh av)=>⟨bJ=cw/\jh=sz/\0<=i/\i<n,.kO r bJ (lo+i) 0,none⟩
  |_=>da
 |.Hq r n,.v (.int _ i)=>⟨0<=i/\i<n,.ptr r (i.toNat*sz),none⟩
 |_,_=>da
def lF(len sz:Nat):DV->DV->si
 |.ptr r off,.v (.int _ i)=>⟨0<=i/\i<len,.ptr r (off+i.toNat*sz),none⟩
 |.mV av j off,.v (.int _ i)=>⟨0<=i/\i<len,.mV av j (off+i.toNat*sz),none⟩
 |.jd cs off,.v (.int _ i)=>⟨0<=i/\i<len,.jd cs (off+i.toNat*sz),none⟩
 |.v (.box cs),.v (.int _ i)=>⟨0<=i/\i<len,.jd cs (i.toNat*sz),none⟩
 |.kO r bJ j off,.v (.int _ i)=>⟨0<=i/\i<len,.kO r bJ j (off+i.toNat*sz),none⟩
 |_,_=>da
def oj:DV->Option (bF)
 |.v (.agg cs)=>some (cs.map .v)
 |.agg cs=>some cs
 |_=>none
def pP(off n:Nat)(agg:Bool)(x:DV):si:=
 match oj x with
 |some cs=>⟨off+n<=cs.length/\(agg=true\/n=1),if agg then .agg ((cs.drop off).take n)else cs.getD off .undef,none⟩
 |none=>da
def Er :DV->Option Int
 |.v (.int _ n)=>some n
 |_=>none
def Es:Option DV->Option Int
 |none=>some 0
 |some d=>Er d
def Et(n:Int):Option DV->Option Int
 |none=>some n
 |some d=>Er d
def jZ(sz:Nat)(lo hi:Option DV)(ab:bq):DV->si
 |.v (.sl av)=>
  match Es lo,Et av.length hi with
  |some l,some h=>⟨0<=l/\l<=h/\h<=av.length/\(∀r∈av,r.length=sz),.v (.sl ((av.take h.toNat).drop l.toNat)),none⟩
  |_,_=>da
 |.aX=>
  match Es lo,Et 0 hi with
  |some l,some h=>⟨l=0/\h=0,.aX,none⟩
  |_,_=>da
 |.bC r bJ=>match ab r with
  |some (.bE cw _ jh av)=>match Es lo,Et av.length hi with
   |some l,some h=>⟨bJ=cw/\jh=sz/\0<=l/\l<=h/\h<=av.length,.wa r bJ l.toNat (h.toNat-l.toNat),none⟩
   |_,_=>da
  |_=>da
 |.wa r bJ lo' n=>match ab r with
  |some (.bE cw _ jh av)=>match Es lo,Et n hi with
   |some l,some h=>⟨bJ=cw/\jh=sz/\0<=l/\l<=h/\h<=n,.wa r bJ (lo'+l.toNat) (h.toNat-l.toNat),none⟩
   |_,_=>da
  |_=>da
 |_=>da
def th(i:Nat):DV->si
 |.v (.ew ts)=>⟨i<ts.length,.v (ts.getD i default),none⟩
 |.ew ds=>⟨i<ds.length,ds.getD i .undef,none⟩
 |_=>da
def xG(ab:bq):DV->si
 |.v (.sl av)=>⟨True,.v (.int .i64 av.length),none⟩
 |.aX=>⟨True,.v (.int .i64 0),none⟩
 |.bC r bJ=>match ab r with
  |some (.bE cw _ _ av)=>⟨bJ=cw,.v (.int .i64 av.length),none⟩
  |_=>da
 |.wa _ _ _ n=>⟨True,.v (.int .i64 n),none⟩
 |.Hq _ n=>⟨True,.v (.int .i64 n),none⟩
 |_=>da
def wb:DV->si
 |.v (.str s)=>⟨True,.v (.int .i64 s.size),none⟩
 |_=>da
def pC(LN:Bool):DV->DV->si
 |.v (.int k a),.v (.int k' b)=>⟨k=k',.v (.int k (if LN then max a b else min a b)),none⟩
 |_,_=>da
def fY(ab:bq):DV->Option (List (aL))
 |.v (.sl av)=>some av
 |.aX=>some []
 |.bC r bJ=>match ab r with
  |some (.bE cw _ _ av)=>if bJ=cw then some av else none
  |_=>none
 |.wa r bJ lo n=>match ab r with
  |some (.bE cw _ _ av)=>if bJ=cw then some ((av.drop lo).take n)else none
  |_=>none
 |.v (.pO (.slice _ 0 _))=>some []
 |_=>none
def dR(bytes n:Nat):Prop:=n*bytes<=140737488355328/\n<=140737488355328
def iL(e sz bytes:Nat)(name:Nat)(ab:bq)(x y:DV):si:=
 match fY ab y with
 |none=>da
 |some ys=>
  match x with
  |.aX=>⟨(∀r∈ys,r.length=sz)/\dR bytes ys.length,.bC name 0,some (name,.bE 0 e sz ys)⟩
  |.bC r bJ=>match ab r with
   |some (.bE cw e' jh av)=>⟨bJ=cw/\e'=e/\jh=sz/\(∀r∈ys,r.length=sz)/\dR bytes (av.length+ys.length),.bC r (bJ+1),some (r,.bE (bJ+1) e sz (av++ys))⟩
   |_=>da
  |.wa r bJ 0 n=>match ab r with
   |some (.bE cw e' jh av)=>⟨bJ=cw/\e'=e/\jh=sz/\(∀r∈ys,r.length=sz)/\dR bytes (n+ys.length),.bC r (bJ+1),some (r,.bE (bJ+1) e sz (av.take n++ys))⟩
   |_=>da
  |_=>da
def mz(e sz bytes:Nat)(zero:aL)(name:Nat):DV->si
 |.v (.int _ n)=>⟨0<=n/\zero.length=sz/\dR bytes n.toNat,.bC name 0,some (name,.bE 0 e sz (List.replicate n.toNat zero))⟩
 |_=>da
def HO:T->DV
 |.sl []=>.aX
 |t=>.v t
def gF(sz bytes:Nat)(zero:aL)(name:Nat):DV->si
 |.v (.int _ n)=>⟨0<=n/\zero.length=sz/\dR bytes n.toNat,.Hq name n.toNat,some (name,.box (List.replicate n.toNat (zero.map HO)).flatten)⟩
 |_=>da
def ko(sz:Nat)(ab:bq)(x y:DV):si:=
 match fY ab y with
 |none=>da
 |some ys=>
  match x with
  |.bC r bJ=>match ab r with
   |some (.bE cw e jh av)=>⟨bJ=cw/\jh=sz/\(∀r∈ys,r.length=sz),.v (.int .i64 (min ys.length av.length:Nat)),some (r,.bE bJ e sz (cG av 0 (ys.take av.length)))⟩
   |_=>da
  |.wa r bJ lo n=>match ab r with
   |some (.bE cw e jh av)=>⟨bJ=cw/\jh=sz/\(∀r∈ys,r.length=sz),.v (.int .i64 (min ys.length n:Nat)),some (r,.bE bJ e sz (cG av lo (ys.take n)))⟩
   |_=>da
  |_=>da
def gG(kind:Nat)(neg:Bool)(ab:bq):DV->si
 |.v (.pO (.slice p _ _))=>⟨kind=0,.v (.bool (neg^^p.isNone)),none⟩
 |.v (.pO (.pointer p))=>⟨kind=1,.v (.bool (neg^^p.isNone)),none⟩
 |.v (.pO .nilFunc)=>⟨kind=2,.v (.bool (neg^^true)),none⟩
 |.v (.sl av)=>⟨kind=0/\av≠[],.v (.bool (neg^^false)),none⟩
 |.v (.fn (.func _) _)=>⟨kind=2,.v (.bool (neg^^false)),none⟩
 |.v (.box _)=>⟨kind=1,.v (.bool (neg^^false)),none⟩
 |.ptr _ _|.jd _ _|.mV _ _ _|.kO _ _ _ _=>⟨kind=1,.v (.bool (neg^^false)),none⟩
 |.oP (.func _) _=>⟨kind=2,.v (.bool (neg^^false)),none⟩
 |.bC r bJ=>match ab r with
  |some (.bE cw _ _ av)=>⟨kind=0/\bJ=cw/\av≠[],.v (.bool (neg^^false)),none⟩
  |_=>da
 |_=>da
def pD:DV->DV->si
 |.v (.str s),.v (.int _ i)=>⟨0<=i/\i<s.size,.v (.int .u8 (s.data.getD i.toNat 0).toNat),none⟩
 |_,_=>da
def fa(cy:List Sh)(agg:Bool):T->Prop
 |.agg as=>agg=true/\eZ cy as
 |t=>agg=false/\eZ cy [t]
def Pp:bF->Option (aL)
 |[]=>some []
 |.v t::ds=>(Pp ds).map (t::·)
 |_::_=>none
def AV:DV->Option T
 |.v t=>some t
 |.agg cs=>(Pp cs).map .agg
 |_=>none
def sj(k:T)(es:List (Nat×T×DV)):Option (Nat×T×DV):=es.find? λe=>ib k e.2.1
def Jd(k:T)(y:DV)(bA:Nat)(es:List (Nat×T×DV)):List (Nat×T×DV):=
 match es.findIdx? λe=>ib k e.2.1 with
 |some i=>es.modify i λe=>(e.1,e.2.1,y)
 |none=>es++[(bA,k,y)]
def pQ(k:T)(bA:Nat)(es:List (Nat×T×DV)):Nat:=
 match es.findIdx? λe=>ib k e.2.1 with
 |some _=>bA
 |none=>bA+1
def aeq(k:T)(es:List (Nat×T×DV)):List (Nat×T×DV):=
 match es.findIdx? λe=>ib k e.2.1 with
 |some i=>es.eraseIdx i
 |none=>es
def nz(cy:List Sh)(agg:Bool)(zero:DV)(ok:Bool)(ab:bq)(x k:DV):si:=
 match x,AV k with
 |.je r,some kt=>match ab r with
  |some (.map kZ k9 _ es)=>⟨kZ=cy/\k9=agg/\fa cy agg kt,
    match sj kt es with
    |some e=>if ok then .ew [e.2.2,.v (.bool true)]else e.2.2
    |none=>if ok then .ew [zero,.v (.bool false)]else zero,none⟩
  |_=>da
 |_,_=>da
def jA(cy:List Sh)(agg:Bool)(ab:bq)(x k y:DV):si:=
 match x,AV k with
 |.je r,some kt=>match ab r with
  |some (.map kZ k9 c es)=>⟨kZ=cy/\k9=agg/\fa cy agg kt/\nS y,.undef,some (r,.map cy agg (pQ kt c es) (Jd kt y c es))⟩
  |_=>da
 |_,_=>da
def aer(k:T)(z:DV)(bA:Nat)(es:List (Nat×T×DV)):List (Nat×T×DV):=
 match es.findIdx? λe=>ib k e.2.1 with
 |some _=>es
 |none=>es++[(bA,k,z)]
def aes(k:T)(z:DV)(bA:Nat)(es:List (Nat×T×DV)):DV:=
 match sj k es with
 |some e=>.ew [e.2.2,.v (.int .i64 e.1)]
 |none=>.ew [z,.v (.int .i64 bA)]
def jB(cy:List Sh)(agg:Bool)(zero:DV)(ab:bq)(x k:DV):si:=
 match x,AV k with
 |.je r,some kt=>match ab r with
  |some (.map kZ k9 c es)=>⟨kZ=cy/\k9=agg/\fa cy agg kt,
    aes kt zero c es,some (r,.map cy agg (pQ kt c es) (aer kt zero c es))⟩
  |_=>da
 |_,_=>da
def aet(b:Int)(y:DV)(es:List (Nat×T×DV)):Option (List (Nat×T×DV)):=
 (es.findIdx? λe=>(e.1:Int)==b).map λi=>es.modify i λe=>(e.1,e.2.1,y)
def la(ab:bq)(x s y:DV):si:=
 match x,s with
 |.je r,.v (.int _ b)=>match ab r with
  |some (.map cy agg c es)=>match aet b y es with
   |some ol=>⟨True,.undef,some (r,.map cy agg c ol)⟩
   |none=>da
  |_=>da
 |_,_=>da
def jC(cy:List Sh)(agg:Bool)(ab:bq)(x k:DV):si:=
 match x,AV k with
 |.je r,some kt=>match ab r with
  |some (.map kZ k9 c es)=>⟨kZ=cy/\k9=agg/\fa cy agg kt,.v (.ew []),some (r,.map cy agg c (aeq kt es))⟩
  |_=>da
 |_,_=>da
def tj(ab:bq):DV->si
 |.je r=>match ab r with
  |some (.map _ _ _ es)=>⟨True,.v (.int .i64 es.length),none⟩
  |_=>da
 |_=>da
def lQ(name:Nat)(ab:bq):DV->si
 |.je r=>match ab r with
  |some (.map _ _ c _)=>⟨True,.cm name,some (name,.cm r c [] c)⟩
  |_=>da
 |_=>da
def lR(ab:bq):DV->si
 |.cm r=>match ab r with
  |some (.cm m _ seen aoM)=>match ab m,seen.getLast? with
   |some (.map _ _ c es),some b=>match es.find? λe=>e.1==b with
    |some e=>⟨c=aoM,.ew [.v e.2.1,e.2.2],none⟩
    |none=>da
   |_,_=>da
  |_=>da
 |_=>da
def qN(Γ:pk)(f:FuncId)(ab:bq)(args:bF):si:=
 match Γ f with
 |some s=>⟨uE s.jY ab args/\s.pre (jF ab args),.v (s.fn (jF ab args)),none⟩
 |none=>da
mutual
def aP:DV->cQ
 |.ptr r _|.bC r _|.kO r _ _ _|.je r|.cm r|.wa r _ _ _|.Hq r _=>[r]
 |.agg cs|.ew cs|.oP _ cs=>bQ cs
 |_=>[]
def bQ:bF->cQ
 |[]=>[]
 |d::ds=>aP d++bQ ds
end
def Cj(ab:bq)(args:bF):bq:=λn=>if n∈bQ args then ab n else none
def xH(k:bF->bq->fV)(args:bF)(ab:bq):Prop:=
 ∀aJ,(∀n∈bQ args,aJ n=ab n)->(k args aJ).ok/\(k args aJ).ab=aJ/\(k args aJ).val=(k args (Cj ab args)).val
def pR(Γ:pk)(f:FuncId)(ab:bq)(args:bF):si:=
 match Γ f with
 |some s=>match s.st with
  |some k=>⟨xH k args ab,(k args (Cj ab args)).val,none⟩
  |none=>da
 |none=>da
def Je{Γ:pk}{f:FuncId}{ab aJ:bq}{args:bF}(h:∀n∈bQ args,aJ n=ab n):pR Γ f aJ args=pR Γ f ab args:=by
 have h1:Cj aJ args=Cj ab args:=by
  funext n;unfold Cj;split
  ·rename_i hn;exact h n hn
  ·rfl
 have h2:∀k,xH k args aJ=xH k args ab:=by
  intro k;unfold xH;rw[h1];apply propext;constructor
  ·exact λH o ho=>H o λn hn=>(ho n hn).trans (h n hn).symm
  ·exact λH o ho=>H o λn hn=>(ho n hn).trans (h n hn)
 unfold pR;simp only[h1,h2]
def pS(Γ:pk)(f:FuncId)(name:Nat)(ab:bq)(args:bF):si:=
 match Γ f with
 |some s=>match s.fresh,s.fn (jF ab args)with
  |some (e,sz),.sl av=>⟨uE s.gu ab args/\s.pre (jF ab args),.bC name 0,some (name,.bE 0 e sz av)⟩
  |_,_=>da
 |none=>da
def dw(Γ:pk)(d:sV)(name:Nat)(ρ:dj)(ab:bq):si:=
 match d with
 |.sh x=>⟨True,x.ev ρ,none⟩
 |.pick c a b=>match c.ev ρ with
  |.v (.bool t)=>⟨True,if t then a.ev ρ else b.ev ρ,none⟩
  |_=>da
 |.alloc zero=>⟨True,.ptr name 0,some (name,.box zero)⟩
 |.box x=>⟨nS (x.ev ρ),.ptr name 0,some (name,.box (cellsOf (x.ev ρ)))⟩
 |.build zero parts=>⟨u6 zero.length (parts.map λp=>(p.1,p.2.1,p.2.2.ev ρ)),.agg (wY zero (parts.map λp=>(p.1,p.2.1,p.2.2.ev ρ))),none⟩
 |.bslice len sz zero parts=>
  if len=0 then⟨parts=[],.aX,none⟩else
  ⟨u6 (len*sz) (parts.map λp=>(p.1,p.2.1,p.2.2.ev ρ))/\jz (wY zero (parts.map λp=>(p.1,p.2.1,p.2.2.ev ρ))),
   .v (.sl (gn sz len (jF (λ_=>none) (wY zero (parts.map λp=>(p.1,p.2.1,p.2.2.ev ρ)))))),none⟩
 |.load n agg x=>jg n agg ab (x.ev ρ)
 |.store n x y=>my n ab (y.ev ρ) (x.ev ρ)
 |.bin op x y=>u7 op (x.ev ρ) (y.ev ρ)
 |.eqT neg agg cy x y=>⟨Hl true ab (x.ev ρ)/\Hl true ab (y.ev ρ)/\(Ep neg agg cy (uD ab (x.ev ρ)) (uD ab (y.ev ρ))).ok,(Ep neg agg cy (uD ab (x.ev ρ)) (uD ab (y.ev ρ))).val,none⟩
 |.un op x=>Se op (x.ev ρ)
 |.conv k x=>match x.ev ρ with
  |.v (.int _ n)=>⟨True,.v (.int k (k.wrap n)),none⟩
  |_=>da
 |.addOff k x=>iK k (x.ev ρ)
 |.nilCheck x=>lP (x.ev ρ)
 |.idxAddr sz x i=>tg sz ab (x.ev ρ) (i.ev ρ)
 |.arrAddr len sz x i=>lF len sz (x.ev ρ) (i.ev ρ)
 |.field off n agg x=>pP off n agg (x.ev ρ)
 |.slice sz x lo hi=>jZ sz (lo.map (·.ev ρ)) (hi.map (·.ev ρ)) ab (x.ev ρ)
 |.extract i x=>th i (x.ev ρ)
 |.call f args=>qN Γ f ab (args.map (·.ev ρ))
 |.callF f args=>pS Γ f name ab (args.map (·.ev ρ))
 |.callR f args=>pR Γ f ab (args.map (·.ev ρ))
 |.callS _ _|.callv _ _|.entryM _=>da
 |.len x=>xG ab (x.ev ρ)
 |.lenS x=>wb (x.ev ρ)
 |.minmax m x y=>pC m (x.ev ρ) (y.ev ρ)
 |.append e sz bytes x y=>iL e sz bytes name ab (x.ev ρ) (y.ev ρ)
 |.mkSlice e sz bytes zero n=>mz e sz bytes zero name (n.ev ρ)
 |.mkSliceB e sz bytes zero n=>gF sz bytes zero name (n.ev ρ)
 |.mkFn f ch=>⟨fp (ch.map (·.ev ρ)),if yX (ch.map (·.ev ρ))then .v (.fn f (jF (λ_=>none) (ch.map (·.ev ρ))))else .oP f (ch.map (·.ev ρ)),none⟩
 |.mkMap cy agg=>⟨True,.je name,some (name,.map cy agg 0 [])⟩
 |.lookup cy agg zero ok x k=>nz cy agg zero ok ab (x.ev ρ) (k.ev ρ)
 |.mapUpd cy agg x k y=>jA cy agg ab (x.ev ρ) (k.ev ρ) (y.ev ρ)
 |.mapDel cy agg x k=>jC cy agg ab (x.ev ρ) (k.ev ρ)
 |.mapEnt cy agg z x k=>jB cy agg z ab (x.ev ρ) (k.ev ρ)
 |.entSt x s y=>la ab (x.ev ρ) (s.ev ρ) (y.ev ρ)
 |.lenM x=>tj ab (x.ev ρ)
 |.rangeM x=>lQ name ab (x.ev ρ)
 |.copy sz x y=>ko sz ab (x.ev ρ) (y.ev ρ)
 |.isNil kind neg x=>gG kind neg ab (x.ev ρ)
 |.indexS x i=>pD (x.ev ρ) (i.ev ρ)
 |.fail=>da
def sW:sV->Bool
 |.callS _ _|.callv _ _|.entryM _=>true
 |_=>false
structure alA where
 ok:Prop
 val:DV
 ab:bq
 todo:List (aL)
class dM where
 k:Option (Nat×(bF->bq->fV))
 aP:∀l k',k=some (l,k')->∀args ab,(k' args ab).ok->∀x,ab x=none->(k' args ab).ab x=none
instance(priority:=low)Sf:dM:=⟨none,λ_ _ h=>by cases h⟩
@[simp] def an9: @dM.k Sf=none:=rfl
def yIs:DV->Prop
 |.v (.bool _)=>True
 |_=>False
def yGo:DV->Bool
 |.v (.bool b)=>b
 |_=>false
@[simp] def aoN(b:Bool):yIs (.v (.bool b))=True:=rfl
@[simp] def ZI(b:Bool):yGo (.v (.bool b))=b:=rfl
variable [dM]
def pn(Γ:pk)(d:sV)(ρ:dj)(ab:bq)(todo:List (aL)):alA:=
 match d with
 |.callS f args=>match Γ f with
  |some s=>match s.st with
   |some k=>⟨(k (args.map (·.ev ρ)) ab).ok,(k (args.map (·.ev ρ)) ab).val,(k (args.map (·.ev ρ)) ab).ab,todo⟩
   |none=>⟨False,.undef,ab,todo⟩
  |none=>⟨False,.undef,ab,todo⟩
 |.callv x args=>match x.ev ρ with
  |.v (.fn (.func f) ch)=>match Γ f with
   |some s=>match s.st with
    |some k=>⟨(k (args.map (·.ev ρ)++ch.map .v) ab).ok,(k (args.map (·.ev ρ)++ch.map .v) ab).val,(k (args.map (·.ev ρ)++ch.map .v) ab).ab,todo⟩
    |none=>⟨(qN Γ f ab (args.map (·.ev ρ)++ch.map .v)).ok,(qN Γ f ab (args.map (·.ev ρ)++ch.map .v)).val,ab,todo⟩
   |none=>⟨False,.undef,ab,todo⟩
  |.oP (.func f) ch=>match Γ f with
   |some s=>match s.st with
    |some k=>⟨(k (args.map (·.ev ρ)++ch) ab).ok,(k (args.map (·.ev ρ)++ch) ab).val,(k (args.map (·.ev ρ)++ch) ab).ab,todo⟩
    |none=>⟨False,.undef,ab,todo⟩
   |none=>⟨False,.undef,ab,todo⟩
  |.Po=>match todo with
   |x::rest=>⟨dM.k=none/\uE false ab (args.map (·.ev ρ))/\jF ab (args.map (·.ev ρ))=x/\ab=(λ_=>none),.v (.bool true),ab,rest⟩
   |[]=>⟨False,.undef,ab,todo⟩
  |.v (.pO v)=>match dM.k with
   |some (l,k)=>⟨v=.func (.yield l) #[] #[]/\todo≠[]/\(k (args.map (·.ev ρ)) ab).ok/\yIs (k (args.map (·.ev ρ)) ab).val,(k (args.map (·.ev ρ)) ab).val,(k (args.map (·.ev ρ)) ab).ab,if yGo (k (args.map (·.ev ρ)) ab).val then todo else []⟩
   |none=>⟨False,.undef,ab,todo⟩
  |_=>⟨False,.undef,ab,todo⟩
 |.entryM x=>⟨(lR ab (x.ev ρ)).ok,(lR ab (x.ev ρ)).val,ab,todo⟩
 |_=>⟨False,.undef,ab,todo⟩
end
open Go.RowKit
section
variable{base r:Nat}{M:fH}{ds:bF}{vs:List Value}{w0:World}
structure Fr(base:Nat)(M:fH)(w0 w:World):Prop where
 os:w.os=w0.os
 tape:w.tape=w0.tape
 output:w.output=w0.output
 jO:base<=w0.heap.size
 size:w0.heap.size<=w.heap.size
 block:∀k,k<base->¬M k->w.heap[k]? =w0.heap[k]?
 drawn:w0.drawn<=w.drawn
def Fr.refl{w:World}(h:base<=w.heap.size):Fr base M w w:=⟨rfl,rfl,rfl,h,ed _,λ_ _ _=>rfl,ed _⟩
def Fr.trans{a b c:World}(h:Fr base M a b)(k:Fr base M b c):Fr base M a c:=
 ⟨k.os.trans h.os,k.tape.trans h.tape,k.output.trans h.output,h.jO,xI h.size k.size,λi hi hm=>(k.block i hi hm).trans (h.block i hi hm),xI h.drawn k.drawn⟩
structure Loc where
 jX:Nat->Nat
 sl:Nat->Value
 yl:Nat:=0
def bi:Value->Option Nat
 |.slice (some a) _ c=>if c=0 then none else some a.block
 |_=>none
def Loc.own(L:Loc)(r:Nat):Ob->Option Nat
 |.bE _ _ _ _=>bi (L.sl r)
 |_=>some (L.jX r)
def WW(W:fH)(ab:bq)(L:Loc)(b:Nat):Prop:=W b\/∃r o,ab r=some o/\L.own r o=some b
section
variable(w:World)(W:fH)(ab:bq)(L:Loc)
mutual
def aA:DV->Value->Prop
 |.undef,_=>True
 |.skip,x=>x=Go.undef
 |.v t,x=>bm w (WW W ab L) t x
 |.aX,x=>∃a:Option Addr,x=.slice a 0 0
 |.ptr r off,x=>(∃cs,ab r=some (.box cs))/\x=.pointer (some ⟨L.jX r,off,none⟩)
 |.bC r bJ,x=>(∃(p:Option Addr) (n c:Nat),x=.slice p n c)/\∃cw e sz av,ab r=some (.bE cw e sz av)/\bJ<=cw/\(bJ=cw->x=L.sl r)
 |.mV av i off,x=>∃b o sz,x=.pointer (some ⟨b,o+i.toNat*sz+off,none⟩)/\b<w.heap.size/\¬WW W ab L b/\bD w (WW W ab L) sz b o av/\0<=i/\i<av.length
 |.jd cs off,x=>∃b o,x=.pointer (some ⟨b,o+off,none⟩)/\b<w.heap.size/\¬WW W ab L b/\eD w (WW W ab L) b o cs
 |.kO r bJ i off,x=>(∃b o,x=.pointer (some ⟨b,o,none⟩))/\∃cw e sz av,ab r=some (.bE cw e sz av)/\bJ<=cw/\(bJ=cw->∃g,bi (L.sl r)=some g/\x=.pointer (some ⟨g,i.toNat*sz+off,none⟩)/\0<=i/\i<av.length)
 |.agg cs,x=>∃vs,x=.agg vs/\aR cs vs.toList
 |.Po,x=>x=.func (.yield L.yl) #[] #[]
 |.je r,x=>(∃cy agg c es,ab r=some (.map cy agg c es))/\x=.map (some (L.jX r))
 |.cm r,x=>(∃m s sn l,ab r=some (.cm m s sn l))/\x=.pointer (some ⟨L.jX r,0,none⟩)
 |.ew ds,x=>∃vs,x=.tuple vs/\eP ds vs.toList
 |.wa r bJ lo n,x=>(∃(p:Option Addr) (c:Nat),x=.slice p n c)/\∃cw e sz av,ab r=some (.bE cw e sz av)/\bJ<=cw/\(bJ=cw->lo+n<=av.length/\∃p cap p2,L.sl r=.slice p av.length cap/\x=.slice p2 n (cap-lo)/\(lo<cap->p2=p.map (·.add (lo*sz))))
 |.oP f ch,x=>∃vs,x=.func f #[] vs/\aR ch vs.toList
 |.Hq r n,x=>(∃cs,ab r=some (.box cs))/\x=.slice (some ⟨L.jX r,0,none⟩) n n
def aR:bF->List Value->Prop
 |[],vs=>vs=[]
 |d::ds,vs=>∃x jN,vs=x::jN/\x.oneCell'=true/\aA d x/\aR ds jN
def eP:bF->List Value->Prop
 |[],vs=>vs=[]
 |d::ds,vs=>∃x jN,vs=x::jN/\aA d x/\eP ds jN
end
def bP:List (Nat×T×DV)->List MapEntry->Prop
 |[],xs=>xs=[]
 |e::es,xs=>∃x mq,xs=x::mq/\x.born=e.1/\bm w (WW W ab L) e.2.1 x.key/\aA w W ab L e.2.2 x.val/\bP es mq
def qF(base:Nat)(M:fH)(r:Nat):Ob->Prop
 |.box cs=>∃c e,w.heap[L.jX r]? =some (.cells c e (0,0))/\aR w W ab L cs c.toList/\(base<=L.jX r\/M (L.jX r))
 |.bE _ e sz av=>0<sz/\(∀x∈av,x.length=sz)/\(∀g,bi (L.sl r)=some g->base<=g\/M g)/\
   ((av=[]/\∃a:Option Addr,L.sl r=.slice a 0 0)\/
    ∃g cap eH,L.sl r=.slice (some ⟨g,0,none⟩) av.length cap/\0<cap/\w.heap[g]? =some (.cells eH e (0,0))/\av.length<=cap/\cap<=maxLen/\eH.size=cap*sz/\
     bl w (WW W ab L) av.flatten (eH.toList.take (av.length*sz)))
 |.map cy agg c es=>∃bE,w.heap[L.jX r]? =some (.map bE c)/\bP w W ab L es bE.toList/\(∀e∈es,fa cy agg e.2.1)/\(∀e∈es,e.1<c)/\(es.map (·.1)).Nodup/\(base<=L.jX r\/M (L.jX r))
 |.cm m s sn l=>w.heap[L.jX r]? =some (.mapIter (some (L.jX m)) s sn.toArray l)/\(∃cy agg c es,ab m=some (.map cy agg c es))/\(base<=L.jX r\/M (L.jX r))
end
variable [bM]
structure cC(base:Nat)(W M:fH)(w0:World)(ab:bq)(w:World)(L:Loc):Prop where
 fr:Fr base M w0 w
 ob:∀r o,ab r=some o->qF w W ab L base M r o
 apart:∀r r' o o' b,r≠r'->ab r=some o->ab r'=some o'->L.own r o=some b->L.own r' o'≠some b
 sk:∀r o b,ab r=some o->L.own r o=some b->¬W b
 under:∀b,W b->b<base
 gl:Hk w (WW W ab L)
structure C8(W W':fH)(ab:bq)(L:Loc)(w:World)(aJ:bq)(L':Loc)(w':World):Prop where
 dG:dv (WW W ab L) w w'
 sub:∀b,b<w.heap.size->WW W' aJ L' b->WW W ab L b
 fix:∀r o,ab r=some o->o.kind≠1->L'.jX r=L.jX r/\∃o',aJ r=some o'/\o'.kind=o.kind
 bE:∀r bJ e sz av,ab r=some (.bE bJ e sz av)->∃cw e' jh fc,aJ r=some (.bE cw e' jh fc)/\bJ<=cw/\(cw=bJ->L'.sl r=L.sl r/\jh=sz/\fc.length=av.length)
 yl:L'.yl=L.yl
def aoO{o:Ob}(h:o.kind=0):∃cs,o=.box cs:=by cases o<;>first|exact⟨_,rfl⟩|cases h
def aoP{o:Ob}(h:o.kind=2):∃cy agg c es,o=.map cy agg c es:=by cases o<;>first|exact⟨_,_,_,_,rfl⟩|cases h
def aoQ{o:Ob}(h:o.kind=3):∃m s sn l,o=.cm m s sn l:=by cases o<;>first|exact⟨_,_,_,_,rfl⟩|cases h
section
variable{W W':fH}{ab:bq}{L:Loc}{w:World}{aJ:bq}{L':Loc}{w':World}
def C8.box(h:C8 W W' ab L w aJ L' w')(r:Nat)(cs:bF)(hr:ab r=some (.box cs)):L'.jX r=L.jX r/\∃wZ,aJ r=some (.box wZ):=by
 obtain⟨h1,o',h2,h3⟩:=h.fix r _ hr (by simp[Ob.kind]);obtain⟨wZ,rfl⟩:=aoO h3;exact⟨h1,wZ,h2⟩
def C8.mp(h:C8 W W' ab L w aJ L' w')(r:Nat)(hr:∃cy agg c es,ab r=some (.map cy agg c es)):L'.jX r=L.jX r/\∃cy agg c es,aJ r=some (.map cy agg c es):=by
 obtain⟨_,_,_,_,hr⟩:=hr;obtain⟨h1,o',h2,h3⟩:=h.fix r _ hr (by simp[Ob.kind]);obtain⟨a,b,c,d,rfl⟩:=aoP h3;exact⟨h1,a,b,c,d,h2⟩
def C8.it(h:C8 W W' ab L w aJ L' w')(r:Nat)(hr:∃m s sn l,ab r=some (.cm m s sn l)):L'.jX r=L.jX r/\∃m s sn l,aJ r=some (.cm m s sn l):=by
 obtain⟨_,_,_,_,hr⟩:=hr;obtain⟨h1,o',h2,h3⟩:=h.fix r _ hr (by simp[Ob.kind]);obtain⟨a,b,c,d,rfl⟩:=aoQ h3;exact⟨h1,a,b,c,d,h2⟩
end
abbrev ic(W:fH)(ab:bq)(L:Loc)(w:World)(aJ:bq)(L':Loc)(w':World):Prop:=C8 W W ab L w aJ L' w'
def ic.cZ{W:fH}{ab:bq}{L:Loc}{w w':World}(h:dv (WW W ab L) w w'):ic W ab L w ab L w':=
 ⟨h,λ_ _ x=>x,λ_ o hr _=>⟨rfl,o,hr,rfl⟩,λ_ bJ e sz av hr=>⟨bJ,e,sz,av,hr,ed _,λ_=>⟨rfl,rfl,rfl⟩⟩,rfl⟩
mutual
def aA.fu{W W':fH}{ab aJ:bq}{L L':Loc}{w w':World}(h:C8 W W' ab L w aJ L' w'):∀(d:DV) (x:Value),aA w W ab L d x->aA w' W' aJ L' d x
 |.undef,x,r=>by simp[aA]
 |.skip,x,r=>by simpa [aA]using r
 |.v t,x,r=>by
  simp only[aA]at r⊢;exact bm.bH h.dG.toKeepsC h.sub t x r
 |.aX,x,r=>by simpa [aA]using r
 |.ptr n off,x,r=>by
  simp only[aA]at r⊢;obtain⟨⟨cs,hc⟩,hx⟩:=r;have hb:=h.box n cs hc;exact⟨hb.2,by rw[hb.1];exact hx⟩
 |.bC n bJ,x,r=>by
  simp only[aA]at r⊢;obtain⟨LO,cw,e,sz,av,ho,jW,hx⟩:=r;obtain⟨rO,e2,HP,mA,nA,LP,hs⟩:=h.bE n cw e sz av ho;refine⟨LO,rO,e2,HP,mA,nA,xI jW LP,λhv=>?_⟩;have h1:rO=cw:=by omega
  rw[(hs h1).1];exact hx (by omega)
 |.mV av i off,x,r=>by
  simp only[aA]at r⊢;obtain⟨b,o,sz,hx,hb,hn,hr,h0,h1⟩:=r;exact⟨b,o,sz,hx,ZbJ hb h.dG.size,λc=>hn (h.sub b hb c),bD.bH h.dG.toKeepsC h.sub hb hn sz o av hr,h0,h1⟩
 |.jd cs off,x,r=>by
  simp only[aA]at r⊢;obtain⟨b,o,hx,hb,hn,hr⟩:=r;exact⟨b,o,hx,ZbJ hb h.dG.size,λc=>hn (h.sub b hb c),eD.bH h.dG.toKeepsC h.sub hb hn o cs hr⟩
 |.kO n bJ i off,x,r=>by
  simp only[aA]at r⊢;obtain⟨LO,cw,e,sz,av,ho,jW,hx⟩:=r;obtain⟨rO,e2,HP,mA,nA,LP,hs⟩:=h.bE n cw e sz av ho;refine⟨LO,rO,e2,HP,mA,nA,xI jW LP,λhv=>?_⟩;have h1:rO=cw:=by omega
  obtain⟨g,hg,hp,h0,hl⟩:=hx (by omega);obtain⟨s1,s2,s3⟩:=hs h1;exact⟨g,by rw[s1];exact hg,by rw[s2];exact hp,h0,by rw[s3];exact hl⟩
 |.agg cs,x,r=>by
  simp only[aA]at r⊢;obtain⟨vs,hv,hr⟩:=r;exact⟨vs,hv,aR.fu h cs _ hr⟩
 |.Po,x,r=>by simp only[aA]at r⊢;rw[h.yl];exact r
 |.je n,x,r=>by
  simp only[aA]at r⊢;have:=h.mp n r.1;exact⟨this.2,by rw[this.1];exact r.2⟩
 |.cm n,x,r=>by
  simp only[aA]at r⊢;have:=h.it n r.1;exact⟨this.2,by rw[this.1];exact r.2⟩
 |.ew ds,x,r=>by
  simp only[aA]at r⊢;obtain⟨vs,hv,hr⟩:=r;exact⟨vs,hv,eP.fu h ds _ hr⟩
 |.oP f ds,x,r=>by
  simp only[aA]at r⊢;obtain⟨vs,hv,hr⟩:=r;exact⟨vs,hv,aR.fu h ds _ hr⟩
 |.Hq n m,x,r=>by
  simp only[aA]at r⊢;obtain⟨⟨cs,hc⟩,hx⟩:=r;have hb:=h.box n cs hc;exact⟨hb.2,by rw[hb.1];exact hx⟩
 |.wa n bJ lo m,x,r=>by
  simp only[aA]at r⊢;obtain⟨LO,cw,e,sz,av,ho,jW,hx⟩:=r;obtain⟨rO,e2,HP,mA,nA,LP,hs⟩:=h.bE n cw e sz av ho;refine⟨LO,rO,e2,HP,mA,nA,xI jW LP,λhv=>?_⟩;have h1:rO=cw:=by omega
  obtain⟨k1,p,cap,p2,k2,k3,k4⟩:=hx (by omega);obtain⟨s1,s2,s3⟩:=hs h1;exact⟨by rw[s3];exact k1,p,cap,p2,by rw[s1,s3];exact k2,k3,by rw[s2];exact k4⟩
def aR.fu{W W':fH}{ab aJ:bq}{L L':Loc}{w w':World}(h:C8 W W' ab L w aJ L' w'):∀(ds:bF) (xs:List Value),aR w W ab L ds xs->aR w' W' aJ L' ds xs
 |[],xs,r=>by simpa [aR]using r
 |d::ds,xs,r=>by
  simp only[aR]at r⊢;obtain⟨x,mq,hx,h1,hr,nw⟩:=r;exact⟨x,mq,hx,h1,aA.fu h d x hr,aR.fu h ds mq nw⟩
def eP.fu{W W':fH}{ab aJ:bq}{L L':Loc}{w w':World}(h:C8 W W' ab L w aJ L' w'):∀(ds:bF) (xs:List Value),eP w W ab L ds xs->eP w' W' aJ L' ds xs
 |[],xs,r=>by simpa [eP]using r
 |d::ds,xs,r=>by
  simp only[eP]at r⊢;obtain⟨x,mq,hx,hr,nw⟩:=r;exact⟨x,mq,hx,aA.fu h d x hr,eP.fu h ds mq nw⟩
end
def bP.fu{W W':fH}{ab aJ:bq}{L L':Loc}{w w':World}(h:C8 W W' ab L w aJ L' w'):∀(es:List (Nat×T×DV)) (xs:List MapEntry),bP w W ab L es xs->bP w' W' aJ L' es xs
 |[],xs,r=>by simpa [bP]using r
 |e::es,xs,r=>by
  simp only[bP]at r⊢;obtain⟨x,mq,hx,h0,h1,hr,nw⟩:=r;exact⟨x,mq,hx,h0,bm.bH h.dG.toKeepsC h.sub _ _ h1,aA.fu h _ _ hr,bP.fu h es mq nw⟩
section
variable{w:World}{W:fH}{ab:bq}{L:Loc}
def aR.length:∀{ds:bF} {vs:List Value},aR w W ab L ds vs->vs.length=ds.length
 |[],_,h=>by simp only[aR]at h;simp[h]
 |_::ds,_,h=>by
  simp only[aR]at h;obtain⟨v,jN,rfl,_,_,hr⟩:=h;simp[aR.length hr]
def aR.get:∀{ds:bF} {vs:List Value} {i:Nat} {d:DV},aR w W ab L ds vs->ds[i]? =some d->∃v,vs[i]? =some v/\v.oneCell'=true/\aA w W ab L d v
 |[],_,_,_,_,h=>by simp at h
 |x::xs,_,0,t,hr,h=>by
  simp only[aR]at hr;obtain⟨v,jN,rfl,h1,h2,_⟩:=hr;simp only[HN,cu]at h;subst h;exact⟨v,rfl,h1,h2⟩
 |x::xs,_,i+1,t,hr,h=>by
  simp only[aR]at hr;obtain⟨v,jN,rfl,_,_,hr⟩:=hr;simpa using aR.get hr (by simpa using h)
def aR.append:∀{ds rP:bF} {vs jN:List Value},aR w W ab L ds vs->aR w W ab L rP jN->aR w W ab L (ds++rP) (vs++jN)
 |[],_,_,_,h,h'=>by simp only[aR]at h;subst h;simpa using h'
 |d::ds,_,_,_,h,h'=>by
  simp only[aR]at h;obtain⟨v,jN,rfl,h1,h2,hr⟩:=h;simp only[C9,aR];exact⟨v,_,rfl,h1,h2,aR.append hr h'⟩
def aR.take(n:Nat)(h:aR w W ab L ds vs):aR w W ab L (ds.take n) (vs.take n):=by
 induction n generalizing ds vs with
 |zero=>simp[aR]
 |succ n ih=>
  cases ds with
  |nil=>simp only[aR]at h;subst h;simp[aR]
  |cons d ds=>
   simp only[aR]at h;obtain⟨v,jN,rfl,h1,h2,hr⟩:=h;simp only[Zcu,aR];exact⟨v,_,rfl,h1,h2,ih hr⟩
def aR.drop(n:Nat)(h:aR w W ab L ds vs):aR w W ab L (ds.drop n) (vs.drop n):=by
 induction n generalizing ds vs with
 |zero=>simpa using h
 |succ n ih=>
  cases ds with
  |nil=>simp only[aR]at h;subst h;simp[aR]
  |cons d ds=>
   simp only[aR]at h;obtain⟨v,jN,rfl,h1,h2,hr⟩:=h;simpa using ih hr
def bl.append{ts ts':aL}:∀{vs jN:List Value},bl w W ts vs->bl w W ts' jN->bl w W (ts++ts') (vs++jN):=by
 induction ts with
 |nil=>intro vs jN h h';simp only[bl]at h;subst h;simpa using h'
 |cons d ds ih=>
  intro vs jN h h';simp only[bl]at h;obtain⟨v,jN,rfl,h1,h2,hr⟩:=h;simp only[C9,bl];exact⟨v,_,rfl,h1,h2,ih hr h'⟩
def aR.tl:∀{ts:aL} {vs:List Value},bl w (WW W ab L) ts vs->aR w W ab L (ts.map .v) vs
 |[],_,h=>by simpa [bl,aR]using h
 |t::ts,_,h=>by
  simp only[bl]at h;obtain⟨v,jN,rfl,h1,h2,hr⟩:=h;simp only[qD,aR];exact⟨v,jN,rfl,h1,by simpa [aA]using h2,aR.tl hr⟩
def aA.cells{d:DV}{x:Value}(h:aA w W ab L d x)(hb:nS d):aR w W ab L (cellsOf d) x.cells.toList:=by
 have one:∀{d:DV} {x:Value},cellsOf d=[d]->x.oneCell'=true->aA w W ab L d x->aR w W ab L (cellsOf d) x.cells.toList:=by
  intro d x hc h1 h;rw[hc];simp only[aR];refine⟨x,[], ?_,h1,h,rfl⟩;cases x<;>first|rfl|(simp[Value.oneCell']at h1)
 cases d with
 |undef=>exact hb.elim
 |skip=>exact hb.elim
 |aX=>obtain⟨a,rfl⟩:=(by simpa only[aA]using h);exact one rfl rfl (by simp only[aA];exact⟨a,rfl⟩)
 |ptr r off=>have h':=h;simp only[aA]at h';obtain⟨_,rfl⟩:=h';exact one rfl rfl h
 |bC r bJ=>have h':=h;simp only[aA]at h';obtain⟨⟨p,n,c,rfl⟩,_⟩:=h';exact one rfl rfl h
 |mV av i off=>have h':=h;simp only[aA]at h';obtain⟨b,o,sz,rfl,_⟩:=h';exact one rfl rfl h
 |jd cs off=>have h':=h;simp only[aA]at h';obtain⟨b,o,rfl,_⟩:=h';exact one rfl rfl h
 |kO r bJ i off=>have h':=h;simp only[aA]at h';obtain⟨⟨b,o,rfl⟩,_⟩:=h';exact one rfl rfl h
 |agg cs=>simp only[aA]at h;obtain⟨vs,rfl,h⟩:=h;simpa [cellsOf,Value.cells]using h
 |Po=>have h':=h;simp only[aA]at h';subst h';exact one rfl rfl h
 |je r=>have h':=h;simp only[aA]at h';obtain⟨_,rfl⟩:=h';exact one rfl rfl h
 |cm r=>have h':=h;simp only[aA]at h';obtain⟨_,rfl⟩:=h';exact one rfl rfl h
 |ew ds=>exact hb.elim
 |oP f ds=>have h':=h;simp only[aA]at h';obtain⟨vs,rfl,_⟩:=h';exact one rfl rfl h
 |wa r bJ lo n=>have h':=h;simp only[aA]at h';obtain⟨⟨p,c,rfl⟩,_⟩:=h';exact one rfl rfl h
 |Hq r n=>have h':=h;simp only[aA]at h';obtain⟨_,rfl⟩:=h';exact one rfl rfl h
 |v t=>
  cases t with
  |agg cs=>simp only[aA,bm]at h;obtain⟨vs,rfl,h⟩:=h;simpa [cellsOf,Value.cells]using aR.tl h
  |ew ts=>exact hb.elim
  |bool b=>have h':=h;simp only[aA,bm]at h';subst h';exact one rfl rfl h
  |int k n=>have h':=h;simp only[aA,bm]at h';subst h';exact one rfl rfl h
  |str s=>have h':=h;simp only[aA,bm]at h';subst h';exact one rfl rfl h
  |sl av=>
   have h':=h;simp only[aA,bm]at h';rcases h' with⟨_,a,c,rfl⟩|⟨b,o,cap,sz,rfl,_⟩<;>exact one rfl rfl h
  |fn f ch=>have h':=h;simp only[aA,bm]at h';obtain⟨vs,rfl,_⟩:=h';exact one rfl rfl h
  |box cs=>have h':=h;simp only[aA,bm]at h';obtain⟨b,o,rfl,_⟩:=h';exact one rfl rfl h
  |pO y=>have h':=h;simp only[aA,bm]at h';subst h';exact one rfl hb h
end
def qF.lt{w:World}{W:fH}{ab:bq}{L:Loc}{o:Ob}(h:qF w W ab L base M r o){b:Nat}(hb:L.own r o=some b):b<w.heap.size:=by
 cases o with
 |box cs=>
  obtain⟨c,e,hc,_⟩:=h;simp only[Loc.own,cu]at hb;subst hb;exact(v8.1 hc).1
 |bE bJ e sz av=>
  obtain⟨_,_,_,h⟩:=h;simp only[Loc.own]at hb;rcases h with⟨_,a,ha⟩|⟨g,cap,eH,hv,hp,hg,_⟩
  ·rw[ha]at hb;cases a<;>simp[bi]at hb
  ·rw[hv]at hb;simp only[bi,aZ (Hm.1 hp),cu]at hb;subst hb;exact(v8.1 hg).1
 |map cy agg c es=>
  obtain⟨bE,hc,_⟩:=h;simp only[Loc.own,cu]at hb;subst hb;exact(v8.1 hc).1
 |cm m s sn l=>
  obtain⟨hc,_⟩:=h;simp only[Loc.own,cu]at hb;subst hb;exact(v8.1 hc).1
def qF.aoR{w:World}{W:fH}{ab:bq}{L:Loc}{o:Ob}(h:qF w W ab L base M r o){b:Nat}(hb:L.own r o=some b):base<=b\/M b:=by
 cases o with
 |box cs=>
  obtain⟨c,e,hc,_,hm⟩:=h;simp only[Loc.own,cu]at hb;subst hb;exact hm
 |bE bJ e sz av=>
  obtain⟨_,_,hm,_⟩:=h;exact hm b hb
 |map cy agg c es=>
  obtain⟨bE,hc,_,_,_,_,hm⟩:=h;simp only[Loc.own,cu]at hb;subst hb;exact hm
 |cm m s sn l=>
  obtain⟨hc,_,hm⟩:=h;simp only[Loc.own,cu]at hb;subst hb;exact hm
def qF.bH{w w':World}{W:fH}{ab aJ:bq}{L L':Loc}{o:Ob}(ha:ic W ab L w aJ L' w')
  (h:qF w W ab L base M r o) (iN:L'.jX r=L.jX r/\L'.sl r=L.sl r) (aeu:∀b,L.own r o=some b->w'.heap[b]? =w.heap[b]?):qF w' W aJ L' base M r o:=by
 cases o with
 |box cs=>
  obtain⟨c,e,hc,hr,hm⟩:=h;refine⟨c,e, ?_,aR.fu ha cs _ hr, ?_⟩
  ·rw[iN.1,aeu _ rfl];exact hc
  ·rw[iN.1];exact hm
 |bE bJ e sz av=>
  obtain⟨ji,eQ,hm,h⟩:=h;refine⟨ji,eQ,by rw[iN.2];exact hm, ?_⟩;rw[iN.2];rcases h with h|⟨g,cap,eH,hv,hp,hg,h1,h2,h3,h4⟩
  ·exact .inl h
  ·refine .inr ⟨g,cap,eH,hv,hp, ?_,h1,h2,h3,bl.bH ha.dG.toKeepsC ha.sub _ _ h4⟩;rw[aeu g (by simp[Loc.own,hv,bi,Hm.1 hp])];exact hg
 |map cy agg c es=>
  obtain⟨bE,hc,hr,k1,k2,k3,hm⟩:=h;refine⟨bE, ?_,bP.fu ha es _ hr,k1,k2,k3, ?_⟩
  ·rw[iN.1,aeu _ rfl];exact hc
  ·rw[iN.1];exact hm
 |cm m s sn l=>
  obtain⟨hc,OW,hm⟩:=h;have:=ha.mp m OW;refine⟨?_,this.2, ?_⟩
  ·rw[iN.1,this.1,aeu _ rfl];exact hc
  ·rw[iN.1];exact hm
def Obj.plain:Obj->Prop
 |.cells _ _ _|.map _ _|.mapIter _ _ _ _=>True
 |_=>False
def qF.cells{w:World}{W:fH}{ab:bq}{L:Loc}{o:Ob}(h:qF w W ab L base M r o){b:Nat}(hb:L.own r o=some b):∃x,w.heap[b]? =some x/\Obj.plain x:=by
 cases o with
 |box cs=>
  obtain⟨c,e,hc,_⟩:=h;simp only[Loc.own,cu]at hb;subst hb;exact⟨_,hc,trivial⟩
 |map cy agg c es=>
  obtain⟨bE,hc,_⟩:=h;simp only[Loc.own,cu]at hb;subst hb;exact⟨_,hc,trivial⟩
 |cm m s sn l=>
  obtain⟨hc,_⟩:=h;simp only[Loc.own,cu]at hb;subst hb;exact⟨_,hc,trivial⟩
 |bE bJ e sz av=>
  obtain⟨_,_,_,h⟩:=h;simp only[Loc.own]at hb;rcases h with⟨_,a,ha⟩|⟨g,cap,eH,hv,hp,hg,_⟩
  ·rw[ha]at hb;cases a<;>simp[bi]at hb
  ·rw[hv]at hb;simp only[bi,aZ (Hm.1 hp),cu]at hb;subst hb;exact⟨_,hg,trivial⟩
def cN(ab:bq):Option (Nat×Ob)->bq
 |none=>ab
 |some (r,o)=>λx=>if x=r then some o else ab x
def cC.put{W:fH}{w w':World}{ab:bq}{L L':Loc}{o':Ob}(h:cC base W M w0 ab w L)
  (w6:Fr base M w0 w') (ji:w.heap.size<=w'.heap.size)
  (hL:∀x,x≠r->L'.jX x=L.jX x/\L'.sl x=L.sl x) (AW:L'.yl=L.yl)
  (LQ:∀b,b<w.heap.size->(∀o,ab r=some o->L.own r o≠some b)->w'.heap[b]? =w.heap[b]?)
  (u9:∀b,L'.own r o'=some b->(∃o,ab r=some o/\L.own r o=some b)\/w.heap.size<=b)
  (Da:∀o,ab r=some o->o.kind≠1->L'.jX r=L.jX r/\o'.kind=o.kind)
  (uF:∀bJ e sz av,ab r=some (.bE bJ e sz av)->∃cw e' jh fc,o'=.bE cw e' jh fc/\bJ<=cw/\(cw=bJ->L'.sl r=L.sl r/\jh=sz/\fc.length=av.length))
  (gP:ic W ab L w (cN ab (some (r,o'))) L' w'->qF w' W (cN ab (some (r,o'))) L' base M r o'):
  cC base W M w0 (cN ab (some (r,o'))) w' L'/\ic W ab L w (cN ab (some (r,o'))) L' w':=by
 have iN:∀x (o:Ob),x≠r->L'.own x o=L.own x o:=λx o hx=>by
  have:=hL x hx;cases o<;>simp[Loc.own,this.1,this.2]
 have alB:∀x o b,x≠r->ab x=some o->L.own x o=some b->w'.heap[b]? =w.heap[b]? :=λx o b hx ho hb=>
  LQ b ((h.ob x o ho).lt hb) λo2 nA gm=>h.apart x r o o2 b hx ho nA hb gm
 have aoS:∀(b:Nat) x,w.heap[b]? =some x->¬Obj.plain x->w'.heap[b]? =some x:=λb x hb hx=>by
  refine(LQ b (v8.1 hb).1 λo ho gm=>?_).trans hb;obtain⟨y,hc,hy⟩:=(h.ob r o ho).cells gm;rw[hc]at hb;cases hb;exact hx hy
 have fu:ic W ab L w (cN ab (some (r,o'))) L' w':=by
  refine⟨⟨⟨ji,λb c e fr hb hn=>?_⟩,λb hb=>aoS b _ hb (λe=>e),λb r hb=>aoS b _ hb (λe=>e)⟩,λb hb hw=>?_,λx o hx hk=>?_,λx bJ e sz av hx=>?_,AW⟩
  ·exact(LQ b (v8.1 hb).1 λo2 nA gm=>hn (.inr ⟨r,o2,nA,gm⟩)).trans hb
  ·rcases hw with hw|⟨x,o,ho,gm⟩
   ·exact .inl hw
   ·by_cases hx:x=r
    ·subst hx;simp only[cN,jP]at ho;obtain rfl:o'=o:=by simpa using ho
     rcases u9 b gm with⟨o2,nA,Pq⟩|yO
     ·exact .inr ⟨x,o2,nA,Pq⟩
     ·omega
    ·simp only[cN,aZ hx]at ho;exact .inr ⟨x,o,ho,by rw[<-iN x o hx];exact gm⟩
  ·by_cases Hr:x=r
   ·subst Hr;obtain⟨h1,h2⟩:=Da o hx hk;exact⟨h1,o',by simp[cN],h2⟩
   ·exact⟨(hL x Hr).1,o,by simp[cN,Hr,hx],rfl⟩
  ·by_cases Hr:x=r
   ·subst Hr;obtain⟨cw,e',jh,fc,rfl,h2,h3⟩:=uF bJ e sz av hx;exact⟨cw,e',jh,fc,by simp[cN],h2,h3⟩
   ·exact⟨bJ,e,sz,av,by simp[cN,Hr,hx],ed _,λ_=>⟨(hL x Hr).2,rfl,rfl⟩⟩
 refine⟨⟨w6,λx o ho=>?_,λx x' o o2 b b7 ho nA hb gm=>?_,λx o b ho hb hw=>?_,h.under,h.gl.bH fu.dG.toKeepsC fu.sub⟩,fu⟩
 ·by_cases hx:x=r
  ·subst hx;simp only[cN,jP]at ho;obtain rfl:o'=o:=by simpa using ho
   exact gP fu
  ·simp only[cN,aZ hx]at ho;exact qF.bH fu (h.ob x o ho) (hL x hx) λb hb=>alB x o b hx ho hb
 ·by_cases hx:x=r
  ·subst hx;simp only[cN,jP]at ho;obtain rfl:o'=o:=by simpa using ho
   have m0:x'≠x:=λe=>b7 e.symm;simp only[cN,aZ m0]at nA;rw[iN x' o2 m0]at gm;rcases u9 b hb with⟨o3,ho3,Pq⟩|yO
   ·exact h.apart x' x o2 o3 b m0 nA ho3 gm Pq
   ·have:=(h.ob x' o2 nA).lt gm;omega
  ·simp only[cN,aZ hx]at ho;rw[iN x o hx]at hb;by_cases m0:x'=r
   ·subst m0;simp only[cN,jP]at nA;obtain rfl:o'=o2:=by simpa using nA
    rcases u9 b gm with⟨o3,ho3,Pq⟩|yO
    ·exact h.apart x x' o o3 b b7 ho ho3 hb Pq
    ·have:=(h.ob x o ho).lt hb;omega
   ·simp only[cN,aZ m0]at nA;rw[iN x' o2 m0]at gm;exact h.apart x x' o o2 b b7 ho nA hb gm
 ·by_cases hx:x=r
  ·subst hx;simp only[cN,jP]at ho;obtain rfl:o'=o:=by simpa using ho
   rcases u9 b hb with⟨o3,ho3,Pq⟩|yO
   ·exact h.sk x o3 b ho3 Pq hw
   ·have h1:=h.under b hw;have h2:=h.fr.jO;have h3:=h.fr.size;omega
  ·simp only[cN,aZ hx]at ho;rw[iN x o hx]at hb;exact h.sk x o b ho hb hw
def Hk.start{w:World}{W:fH}{L:Loc}(h:Hk w W):Hk w (WW W (λ_=>none) L):=
 h.bH (dv.refl W w).toKeepsC λb _ hw=>by
  rcases hw with hw|⟨r,o,hr,_⟩
  ·exact hw
  ·cases hr
def cC.grow{W:fH}{w w':World}{ab:bq}{L:Loc}(h:cC base W M w0 ab w L)(hb:wL w.heap.size w w'):
  cC base W M w0 ab w' L/\ic W ab L w ab L w':=by
 have fu:ic W ab L w ab L w':=ic.cZ (dv.ZH hb.toBelow);have jW:base<=w.heap.size:=xI h.fr.jO h.fr.size;refine⟨⟨h.fr.trans ⟨hb.os,hb.tape,hb.output,jW,hb.size,λk hk _=>hb.block k (by omega),hb.drawn⟩,λr o ho=>?_,h.apart,h.sk,h.under,h.gl.bH fu.dG.toKeepsC fu.sub⟩,fu⟩;exact qF.bH fu (h.ob r o ho) ⟨rfl,rfl⟩ λb gm=>hb.block b ((h.ob r o ho).lt gm)
end
section
variable{P:Program}{vs:List Value}{d:TypeDesc}{ts ds:aL}{base:Nat}{M:fH}
def nC:Value->Option DV
 |.int k n=>some (.v (.int k n))
 |.bool b=>some (.v (.bool b))
 |.string s=>some (.v (.str s))
 |.slice none 0 0=>some .aX
 |.pointer none=>some (.v (.pO (.pointer none)))
 |.nilFunc=>some (.v (.pO .nilFunc))
 |.nilIface=>some (.v (.pO .nilIface))
 |.map none=>some (.v (.pO (.map none)))
 |_=>none
def tn:Value->Option T
 |.int k n=>some (.int k n)
 |.bool b=>some (.bool b)
 |.string s=>some (.str s)
 |.slice none 0 0=>some (.sl [])
 |.pointer none=>some (.pO (.pointer none))
 |.nilFunc=>some (.pO .nilFunc)
 |.nilIface=>some (.pO .nilIface)
 |.map none=>some (.pO (.map none))
 |_=>none
variable [bM]
def bW.of:Operand->Option bW
 |.tmp t=>some (.tmp t)
 |.const v=>(nC v).map .ia
 |.func f=>some (.ia (.v (.fn (.func f) [])))
 |.global g=>(bM.cells.find? λp=>p.1==g).map λp=>.ia (.jd p.2 0)
section
variable{w:World}{W:fH}{ab:bq}{L:Loc}
def xJ:∀{x:Value} {d:DV},nC x=some d->aA w W ab L d x/\x.oneCell'=true:=by
 intro x d h;unfold nC at h;split at h<;>simp only[cu,reduceCtorEq]at h<;>subst h<;>simp[aA,bm,Value.oneCell']
def Eu:∀{x:Value} {t:T},tn x=some t->bm w W t x/\x.oneCell'=true/\Eo t=true:=by
 intro x d h;unfold tn at h;split at h<;>simp only[cu,reduceCtorEq]at h<;>subst h<;>simp[bm,Value.oneCell',Eo]
def jt:∀{xs:List Value} {ds:bF},xs.mapM nC=some ds->aR w W ab L ds xs
 |[],ds,h=>by simp at h;subst h;simp[aR]
 |x::xs,ds,h=>by
  simp only[Lp,mb,kP,jG,cu]at h;obtain⟨d,hd,rP,hds,rfl⟩:=h;simp only[aR];have:=xJ (w:=w) (W:=W) (ab:=ab) (L:=L) hd;exact⟨x,xs,rfl,this.2,this.1,jt hds⟩
def uw:∀{xs:List Value} {ds:aL},xs.mapM tn=some ds->bl w W ds xs
 |[],ds,h=>by simp at h;subst h;simp[bl]
 |x::xs,ds,h=>by
  simp only[Lp,mb,kP,jG,cu]at h;obtain⟨d,hd,rP,hds,rfl⟩:=h;simp only[bl];have:=Eu (w:=w) (W:=W) hd;exact⟨x,xs,rfl,this.2.1,this.1,uw hds⟩
def bW.bX{a:Act}{ρ:dj}(hg:Hk w (WW W ab L))(jU:∀t,aA w W ab L (ρ t) (a.tmps.getD t Go.undef)){x:Operand}{y:bW}(h:bW.of x=some y):aA w W ab L (y.ev ρ) (a.eval x):=by
 cases x with
 |tmp t=>simp only[bW.of,cu]at h;subst h;simpa [bW.ev,Act.eval]using jU t
 |const v=>
  simp only[bW.of,iV]at h;obtain⟨d,hd,rfl⟩:=h;exact(xJ hd).1
 |func f=>simp only[bW.of,cu]at h;subst h;simp[bW.ev,Act.eval,aA,bm,bl]
 |global g=>
  simp only[bW.of,iV]at h;obtain⟨p,hp,rfl⟩:=h;have h1:=Zdt hp;obtain rfl:p.1=g:=by simpa using h1
  obtain⟨h2,h3,h4⟩:=hg p (Zcm hp);simp only[bW.ev,Act.eval,aA];exact⟨p.1,0,rfl,h2,h3,h4⟩
def nT(b o n:Nat):(⟨b,o,none⟩:Addr).add n=⟨b,o+n,none⟩:=by unfold Addr.add;split<;>simp_all
def Ck{w:World}{b o:Nat}(h:∀j v,vs[j]? =some v->w.cell? ⟨b,o+j,none⟩=some v):
  (loadCells ⟨b,o,none⟩ vs.length).run P w=.ok vs.toArray w:=
 run_loadCells_list w _ vs λj v hv=>by rw[nT];exact h j v hv
def HQ{w:World}{t:TypeId}(h:P.underlying t=some d):(isAgg t).run P w=.ok (match d with|.struct _|.array _ _=>true|_=>false) w:=by
 simp only[isAgg,Sem.run_bind,run_underlying h,Result.andThen_ok];cases d<;>rfl
def run_sizeOf{w:World}{t:TypeId}{i:TypeInfo}(h:P.info? t=some i):(sizeOf t).run P w=.ok i.size w:=by
 simp[sizeOf,typeInfo,h]
def cq:TypeDesc->Bool
 |.struct _|.array _ _=>true
 |_=>false
def sr{w:World}{t:TypeId}{i:TypeInfo}(hd:P.underlying t=some d)(hi:P.info? t=some i){b o:Nat}
  (hl:vs.length=i.size) (h:∀j v,vs[j]? =some v->w.cell? ⟨b,o+j,none⟩=some v) (hs:cq d=true\/i.size=1):
  (Instr.loadAt t (.pointer (some ⟨b,o,none⟩))).run P w=.ok (if cq d then .agg vs.toArray else vs.getD 0 Go.undef) w:=by
 have h1:(isAgg t).run P w=.ok (cq d) w:=by rw[HQ hd];cases d<;>rfl
 simp only[Instr.loadAt,Instr.sureAddr,loadVar,Sem.run_bind,Sem.run_pure,Result.andThen_ok,h1];by_cases ha:cq d=true
 ·simp only[ha,jP,Sem.run_bind,run_sizeOf hi,Result.andThen_ok];rw[<-hl,Ck h];rfl
 ·have h1:vs.length=1:=by rw[hl];exact hs.resolve_left ha
  match vs,h1 with
  |[v],_=>
   have:=h 0 v rfl;simp only[ZA]at this;simp[ha,this]
def eD.cI{b:Nat}:∀{ts:aL} {o:Nat},eD w W b o ts->∃vs,bl w W ts vs/\∀j v,vs[j]? =some v->w.cell? ⟨b,o+j,none⟩=some v
 |[],o,_=>⟨[],by simp[bl],by simp⟩
 |t::ts,o,h=>by
  simp only[eD]at h;obtain⟨⟨v,hc,h1,hr⟩,nw⟩:=h;obtain⟨vs,hv,oT⟩:=eD.cI nw;refine⟨v::vs,by simp only[bl];exact⟨v,vs,rfl,h1,hr,hv⟩,λj u hu=>?_⟩;cases j with
  |zero=>simp only[HN,cu]at hu;subst hu;simpa using hc
  |succ j=>
   have:=oT j u (by simpa using hu)
   rwa [show o+(j+1)=o+1+j by omega]
def bl.split{ts':aL}:∀{vs:List Value},bl w W (ts++ts') vs->∃v1 v2,vs=v1++v2/\bl w W ts v1/\bl w W ts' v2:=by
 induction ts with
 |nil=>intro vs h;exact⟨[],vs,rfl,by simp[bl],h⟩
 |cons t ts ih=>
  intro vs h;simp only[C9,bl]at h;obtain⟨v,jN,rfl,h1,h2,hr⟩:=h;obtain⟨v1,v2,rfl,ha,hb⟩:=ih hr;exact⟨v::v1,v2,rfl,by simp only[bl];exact⟨v,v1,rfl,h1,h2,ha⟩,hb⟩
def eD.tl{b o:Nat}(h:bl w W ts vs)(hc:∀j v,vs[j]? =some v->w.cell? ⟨b,o+j,none⟩=some v):eD w W b o ts:=
 eD.En ts o λj t ht=>by
  obtain⟨v,hv,h1,hr⟩:=bl.get h ht;exact⟨v,hc j v hv,h1,hr⟩
def bD.j5{sz b:Nat}:∀{av:List (aL)} {o:Nat} {vs:List Value},bl w W av.flatten vs->(∀r∈av,r.length=sz)->(∀j v,vs[j]? =some v->w.cell? ⟨b,o+j,none⟩=some v)->bD w W sz b o av
 |[],_,_,_,_,_=>by simp[bD]
 |r::rs,o,vs,h,hl,hc=>by
  simp only[ZJ]at h;obtain⟨v1,v2,rfl,ha,hb⟩:=bl.split h;have hr:r.length=sz:=hl r (by simp);have Cl:v1.length=sz:=by rw[bl.length ha,hr]
  simp only[bD];refine⟨hr,eD.tl ha λj v hv=>hc j v ?_,bD.j5 hb (λx hx=>hl x (by simp[hx])) λj v hv=>?_⟩
  ·rw[Zbl (Db.1 hv).1];exact hv
  ·have:=hc (sz+j) v (by rw[Zbj (by omega),Cl];simpa using hv)
   rwa [show o+sz+j=o+(sz+j)by omega]
def bD.flatten{sz b:Nat}:∀{av:List (aL)} {o:Nat},bD w W sz b o av->∃vs,vs.length=av.length*sz/\bl w W av.flatten vs/\∀j v,vs[j]? =some v->w.cell? ⟨b,o+j,none⟩=some v
 |[],o,_=>⟨[],by simp,by simp[bl],by simp⟩
 |r::rs,o,h=>by
  simp only[bD]at h;obtain⟨v1,h1,b8⟩:=eD.cI h.2.1;obtain⟨v2,Cm,h2,gZ⟩:=bD.flatten h.2.2;have Cl:v1.length=sz:=by rw[bl.length h1,h.1]
  refine⟨v1++v2,by simp[Cl,Cm,C7];omega,by simpa using bl.append h1 h2,λj v hv=>?_⟩;by_cases hj:j<v1.length
  ·rw[Zbl hj]at hv;exact b8 j v hv
  ·rw[Zbj (by omega)]at hv;have:=gZ (j-v1.length) v hv
   rwa [show o+sz+(j-v1.length)=o+j by omega]at this
def qF.av{r bJ e sz:Nat}{av:List (aL)}(h:qF w W ab L base M r (.bE bJ e sz av)){g:Nat}(hg:bi (L.sl r)=some g):
  bD w (WW W ab L) sz g 0 av:=by
 obtain⟨_,hl,_,h⟩:=h;rcases h with⟨rfl,_⟩|⟨g',cap,eH,hv,hp,hh,h1,h2,h3,h4⟩
 ·simp[bD]
 ·rw[hv]at hg;simp only[bi,aZ (Hm.1 hp),cu]at hg;subst hg;refine bD.j5 h4 hl λj v hv=>?_;rw[Lo,cell_of_row w g' j eH e (0,0) hh];rw[HR]at hv;split at hv
  ·simpa using hv
  ·cases hv
def AX{av:List (aL)}{i:Int}(h0:0<=i)(h1:i<av.length):av[i.toNat]? =some (rowAt av i):=by
 have:i.toNat<av.length:=by omega
 simp[rowAt,List.getD,this]
def bl.take(n:Nat):∀{vs:List Value},bl w W ds vs->bl w W (ds.take n) (vs.take n):=by
 induction n generalizing ds with
 |zero=>intro vs h;simp[bl]
 |succ n ih=>
  intro vs h;cases ds with
  |nil=>simp only[bl]at h;subst h;simp[bl]
  |cons d ds=>
   simp only[bl]at h;obtain⟨v,jN,rfl,h1,h2,hr⟩:=h;simp only[Zcu,bl];exact⟨v,_,rfl,h1,h2,ih hr⟩
def bl.drop(n:Nat):∀{vs:List Value},bl w W ds vs->bl w W (ds.drop n) (vs.drop n):=by
 induction n generalizing ds with
 |zero=>intro vs h;simpa using h
 |succ n ih=>
  intro vs h;cases ds with
  |nil=>simp only[bl]at h;subst h;simp[bl]
  |cons d ds=>
   simp only[bl]at h;obtain⟨v,jN,rfl,h1,h2,hr⟩:=h;simpa using ih hr
def wd{t:TypeId}{i:TypeInfo}(hd:P.underlying t=some d)(hi:P.info? t=some i){b o off:Nat}{cs:aL}
  (hr:eD w (WW W ab L) b o cs) (aN:off+i.size<=cs.length/\(cq d=true\/i.size=1)):
  ∃v,(Instr.loadAt t (.pointer (some ⟨b,o+off,none⟩))).run P w=.ok v w/\
   aA w W ab L (if cq d then .v (.agg ((cs.drop off).take i.size))else .v (cs.getD off default)) v:=by
 obtain⟨vs,hv,hc⟩:=eD.cI hr;have hl:=bl.length hv;have nU:=bl.take i.size (bl.drop off hv);refine⟨_,sr hd hi (vs:=(vs.drop off).take i.size) (by simp;omega) (λj v hj=>?_) aN.2, ?_⟩
 ·rw[HR]at hj;split at hj
  ·rw[ZbT]at hj;have:=hc _ _ hj
   rwa [show o+off+j=o+(off+j)by omega]
  ·cases hj
 ·by_cases ha:cq d=true
  ·simp only[ha,jP,aA,bm];exact⟨_,rfl,by simpa using nU⟩
  ·have h1:i.size=1:=aN.2.resolve_left ha;have ef:off<cs.length:=by omega
   obtain⟨v,ux,_,gS⟩:=bl.get hv (i:=off) (t:=cs[off]) (by simp[ef]);have e1:(List.take i.size (List.drop off vs)).getD 0 Go.undef=v:=by
    rw[h1];simp only[List.getD,HR,ZbT,ZA,ux];simp
   have e2:cs.getD off default=cs[off]:=by simp[List.getD,ef]
   simp only[ha,e1,e2];exact gS
def xK{w0:World}(hO:cC base W M w0 ab w L){t:TypeId}{i:TypeInfo}(hd:P.underlying t=some d)(hi:P.info? t=some i)
  {x:DV} {xv:Value} (hx:aA w W ab L x xv) (aN:(jg i.size (cq d) ab x).ok):
  (jg i.size (cq d) ab x).put=none/\∃v,(Instr.loadAt t xv).run P w=.ok v w/\aA w W ab L (jg i.size (cq d) ab x).val v:=by
 cases x with
 |ptr r off=>
  simp only[aA]at hx;obtain⟨⟨cs,hc⟩,rfl⟩:=hx;simp only[jg,hc]at aN⊢;refine⟨trivial, ?_⟩;obtain⟨c,e,hh,hr,_⟩:=hO.ob r _ hc;have hl:=aR.length hr;have yY:=aR.take i.size (aR.drop off hr);refine⟨_,sr hd hi (vs:=(c.toList.drop off).take i.size) (by simp at hl⊢;omega) (λj v hj=>?_) aN.2, ?_⟩
  ·rw[HR]at hj;split at hj
   ·rw[ZbT]at hj;rw[cell_of_row w _ _ c e (0,0) hh];simpa using hj
   ·cases hj
  ·by_cases ha:cq d=true
   ·simp only[ha,jP,aA];exact⟨_,rfl,by simpa using yY⟩
   ·have h1:i.size=1:=aN.2.resolve_left ha;have ef:off<cs.length:=by omega
    obtain⟨v,ux,_,gS⟩:=aR.get hr (i:=off) (d:=cs[off]) (by simp[ef]);have e1:(List.take i.size (List.drop off c.toList)).getD 0 Go.undef=v:=by
     rw[h1];simp only[List.getD,HR,ZbT,ZA,ux];simp
    have e2:cs.getD off .undef=cs[off]:=by simp[List.getD,ef]
    simp only[ha,e1,e2];exact gS
 |mV av j off=>
  simp only[aA]at hx;obtain⟨b,o,sz,rfl,hb,hn,hr,h0,h1⟩:=hx;simp only[jg]at aN⊢;exact⟨trivial,wd hd hi (bD.row hr (AX h0 h1)).2 aN⟩
 |jd cs off=>
  simp only[aA]at hx;obtain⟨b,o,rfl,hb,hn,hr⟩:=hx;simp only[jg]at aN⊢;exact⟨trivial,wd hd hi hr aN⟩
 |v t'=>
  cases t' with
  |box cs=>
   simp only[aA,bm]at hx;obtain⟨b,o,rfl,hb,hn,hr⟩:=hx;simp only[jg]at aN⊢;have:=wd (ab:=ab) (L:=L) (W:=W) hd hi (off:=0) hr (by simpa using aN);refine⟨trivial, ?_⟩;simpa using this
  |_=>simp[jg,da]at aN
 |kO r bJ j off=>
  simp only[aA]at hx;obtain⟨_,cw,e,sz,av,ho,jW,hx⟩:=hx;simp only[jg,ho]at aN⊢;obtain⟨g,hg,rfl,h0,h1⟩:=hx aN.1;have AM:=qF.av (hO.ob r _ ho) hg;have:=(bD.row AM (AX h0 h1)).2;rw[Lo]at this;exact⟨trivial,wd hd hi this aN.2⟩
 |_=>simp[jg,da]at aN
end
end
section
variable{yv xv z:Value}{va vb xs vs:List Value}{base r off bJ sz lo name:Nat}{M:fH}{w0 w':World}{P:Program}{cs:bF}{α:Type}{av ys:List (aL)}{t' ty:TypeId}{zero:aL}
variable [bM]
section
variable{w:World}{W:fH}{ab:bq}{L:Loc}
def AY{y:DV}(h:fp (cellsOf y))(hl:(cellsOf y).length≠0\/True):nS y:=by
 cases y with
 |undef=>simp[cellsOf,fp,kY]at h
 |skip=>simp[cellsOf,fp,kY]at h
 |v t=>
  cases t<;>simp_all [cellsOf,fp,kY,nS,Eo]
 |ew ds=>simp[cellsOf,fp,kY]at h
 |_=>simp[nS]
def rQ{y:DV}(hy:aA w W ab L y yv)(h:fp (cellsOf y)):aR w W ab L (cellsOf y) yv.cells.toList:=
 aA.cells hy (AY h (.inr trivial))
def aR.one{ds:bF}:∀{vs:List Value},aR w W ab L ds vs->∀v∈vs,v.oneCell'=true:=by
 induction ds with
 |nil=>intro vs h;simp only[aR]at h;subst h;simp
 |cons d ds ih=>
  intro vs h;simp only[aR]at h;obtain⟨v,jN,rfl,h1,_,hr⟩:=h;intro u hu;rcases fN.1 hu with rfl|hu
  ·exact h1
  ·exact ih hr u hu
def bl.one{ds:aL}:∀{vs:List Value},bl w W ds vs->∀v∈vs,v.oneCell'=true:=by
 induction ds with
 |nil=>intro vs h;simp only[bl]at h;subst h;simp
 |cons d ds ih=>
  intro vs h;simp only[bl]at h;obtain⟨v,jN,rfl,h1,_,hr⟩:=h;intro u hu;rcases fN.1 hu with rfl|hu
  ·exact h1
  ·exact ih hr u hu
def aR.cG{a b:bF}(off:Nat)(ha:aR w W ab L a va)(hb:aR w W ab L b vb):aR w W ab L (cG a off b) (cG va off vb):=by
 unfold DM.cG;rw[<-aR.length hb];exact aR.append (aR.append (aR.take off ha) hb) (aR.drop _ ha)
def bl.cG{a b:aL}(off:Nat)(ha:bl w W a va)(hb:bl w W b vb):bl w W (cG a off b) (cG va off vb):=by
 unfold DM.cG;rw[<-bl.length hb];exact bl.append (bl.append (bl.take off ha) hb) (bl.drop _ ha)
def AZ{g:Nat}(cs:Array Value)(h:Fr base M w0 w)(hg:base<=g\/M g):Fr base M w0 (w.setRow g cs):=
 ⟨h.os,h.tape,h.output,h.jO,by simpa using h.size,λk hk hm=>by
  rw[setRow_other w g k cs (by rintro rfl;exact hg.elim (λh1=>by omega) hm)];exact h.block k hk hm,by simpa using h.drawn⟩
def HS{t:TypeId}{i:TypeInfo}(hi:P.info? t=some i){g o:Nat}{e:TypeId}{eH:Array Value}(hg:w.heap[g]? =some (.cells eH e (0,0)))
  (hl:yv.cells.size=i.size) (Ev:o+i.size<=eH.size) (h1:∀v∈yv.cells.toList,v.oneCell'=true):
  (Instr.storeAt t (.pointer (some ⟨g,o,none⟩)) yv).run P w=.ok () (w.setRow g (cG eH.toList o yv.cells.toList).toArray):=by
 have hs:=run_storeCells_at P g o e yv.cells.toList 0 eH w hg (by simp[hl];omega) h1;simp only[ZA]at hs;simp only[Instr.storeAt,Instr.sureAddr,storeVar,Sem.run_bind,Sem.run_pure,Result.andThen_ok,run_sizeOf hi,hl,ne_eq,not_true_eq_false,w7];exact hs
def Xc(hO:cC base W M w0 ab w L){t:TypeId}{i:TypeInfo}(hi:P.info? t=some i)
   (hc:ab r=some (.box cs)) {y:DV} (hy:aA w W ab L y yv)
  (hn:(cellsOf y).length=i.size) (Ev:off+i.size<=cs.length) (Dt:fp (cellsOf y)):
  ∃w',(Instr.storeAt t (.pointer (some ⟨L.jX r,off,none⟩)) yv).run P w=.ok () w'/\
   cC base W M w0 (cN ab (some (r,.box (cG cs off (cellsOf y))))) w' L/\ic W ab L w (cN ab (some (r,.box (cG cs off (cellsOf y))))) L w':=by
 obtain⟨c,e,hh,hr,hm⟩:=hO.ob r _ hc;have qG:=rQ hy Dt;have AW:yv.cells.size=i.size:=by have:=aR.length qG;simpa [hn]using this
 have aV:c.size=cs.length:=by simpa using aR.length hr
 refine⟨_,HS hi hh AW (by omega) (aR.one qG), ?_⟩;refine cC.put hO (AZ _ hO.fr hm) (by simp) (λ_ _=>⟨rfl,rfl⟩) rfl (λb _ hb=>setRow_other w _ b _ (λx=>hb _ hc (by simp[Loc.own,x])))
  (λb hb=>.inl ⟨_,hc,hb⟩) (λo' iW _=>by rw[hc]at iW;cases iW;exact⟨rfl,rfl⟩) (λbJ e sz av h=>by rw[hc]at h;cases h) (λfu=>?_)
 refine⟨_,e,setRow_heap w _ c _ e _ hh, ?_,hm⟩;exact aR.cG off (aR.fu fu _ _ hr) (aR.fu fu _ _ qG)
def iv{l new:List α}(h:off+new.length<=l.length):(cG l off new).length=l.length:=by
 simp[cG];omega
def Cn{l new:List α}{n:Nat}(h:off+new.length<=n)(hn:n<=l.length):(cG l off new).take n=cG (l.take n) off new:=by
 unfold cG;have e1:List.take off (List.take n l)=List.take off l:=by rw[Zde];congr 1;omega
 have e2:(List.take off l++new).length=off+new.length:=by simp;omega
 rw[e1,List.drop_take,Zdo,e2,Xd (by omega)]
def Co{sz:Nat}:∀(av:List (aL)) (i off:Nat) (new:aL),(∀r∈av,r.length=sz)->i<av.length->off+new.length<=sz->
  (av.set i (cG (av.getD i []) off new)).flatten=cG av.flatten (i*sz+off) new
 |[],i,_,_,_,h,_=>by simp at h
 |r::rs,0,off,new,hl,_,hf=>by
  have hr:r.length=sz:=hl r (by simp);simp only[List.getD_cons_zero,Zb5,ZJ,cG,Zc4,Lo];rw[List.take_append_of_le_length (by omega),List.drop_append_of_le_length (by omega)];simp
 |r::rs,i+1,off,new,hl,h,hf=>by
  have hr:r.length=sz:=hl r (by simp);have ih:=Co rs i off new (λx hx=>hl x (by simp[hx])) (by simpa using h) hf;simp only[ZcL,Zcg,ZJ];rw[show∀(a b:aL),cG (a++b) ((i+1)*sz+off) new=(a++b).take ((i+1)*sz+off)++new++(a++b).drop ((i+1)*sz+off+new.length)from λ_ _=>rfl];have e:(i+1)*sz+off=r.length+(i*sz+off):=by rw[C7,hr];omega
  rw[e,Zdo,List.drop_append];have e1:r.length+(i*sz+off)-r.length=i*sz+off:=by omega
  have e2:r.length+(i*sz+off)+new.length-r.length=i*sz+off+new.length:=by omega
  rw[e1,e2,Xd (l:=r) (by omega),ZbE (as:=r) (by omega)];simp only[yN,ZbY];rw[ih];simp only[cG,ZbY]
def Jf{Sg:bq}{d:DV}{v:Value}(hp:u5 d)(h:aA w W ab L d v):bm w (WW W ab L) (uD Sg d) v:=by
 cases d with
 |v t=>simpa [uD,aA]using h
 |aX=>
  simp only[aA]at h;obtain⟨a,rfl⟩:=h;simp only[uD,bm];exact .inl ⟨trivial,a,0,rfl⟩
 |_=>exact hp.elim
def pp{Sg:bq}:∀{ds:bF} {vs:List Value},jz ds->aR w W ab L ds vs->bl w (WW W ab L) (jF Sg ds) vs
 |[],vs,_,h=>by simpa [aR,bl,jF]using h
 |d::ds,vs,hp,h=>by
  simp only[jz]at hp;simp only[aR]at h;obtain⟨v,jN,rfl,h1,h2,hr⟩:=h;simp only[jF,bl];exact⟨v,jN,rfl,h1,Jf hp.1 h2,pp hp.2 hr⟩
def vd:∀{ds:bF},jz ds->fp ds
 |[],_=>trivial
 |d::ds,h=>by
  simp only[jz]at h;simp only[fp];refine⟨?_,vd h.2⟩;have:=h.1;cases d<;>simp_all [u5,kY]
def ve:∀(ds:bF),(jF ab ds).length=ds.length
 |[]=>rfl
 |_::ds=>by simp[jF,ve ds]
def Xe(hO:cC base W M w0 ab w L){t:TypeId}{i:TypeInfo}(hi:P.info? t=some i)
  {e:Nat} {j:Int} {g:Nat} (hc:ab r=some (.bE bJ e sz av)) (hg:bi (L.sl r)=some g) (h0:0<=j) (h1:j<av.length)
  {y:DV} (hy:aA w W ab L y yv) (hn:(cellsOf y).length=i.size) (Ev:off+i.size<=sz) (Dt:jz (cellsOf y)):
  ∃w',(Instr.storeAt t (.pointer (some ⟨g,j.toNat*sz+off,none⟩)) yv).run P w=.ok () w'/\
   cC base W M w0 (cN ab (some (r,.bE bJ e sz (av.set j.toNat (cG (rowAt av j) off (jF ab (cellsOf y))))))) w' L/\
   ic W ab L w (cN ab (some (r,.bE bJ e sz (av.set j.toNat (cG (rowAt av j) off (jF ab (cellsOf y))))))) L w':=by
 have gP:=hO.ob r _ hc;obtain⟨ji,eQ,hm,oQ⟩:=gP;rcases oQ with⟨rfl,_⟩|⟨g',cap,eH,hv,hp,hh,jW,tp,Jg,ig⟩
 ·simp at h1;omega
 ·rw[hv]at hg;simp only[bi,aZ (Hm.1 hp),cu]at hg;subst hg;have qG:=rQ hy (vd Dt);have AW:yv.cells.size=i.size:=by have:=aR.length qG;simpa [hn]using this
  have hj:j.toNat<av.length:=by omega
  have hjs:j.toNat*sz+sz<=av.length*sz:=by
   have:=Zbu sz (show j.toNat+1<=av.length by omega)
   rwa [C7,Nat.one_mul]at this
  have oT:av.length*sz<=cap*sz:=Zbu sz jW;have ZK:(jF ab (cellsOf y)).length=i.size:=by rw[ve];exact hn
  have yP:yv.cells.toList.length=i.size:=by simpa using AW
  have iN:L.own r (.bE bJ e sz av)=some g':=by simp[Loc.own,hv,bi,Hm.1 hp]
  refine⟨_,HS hi hh AW (by omega) (aR.one qG), ?_⟩;refine cC.put hO (AZ _ hO.fr (hm g' (by simp[hv,bi,Hm.1 hp]))) (by simp) (λ_ _=>⟨rfl,rfl⟩) rfl (λb _ hb=>setRow_other w _ b _ (λx=>hb _ hc (by rw[iN,x])))
   (λb hb=>.inl ⟨_,hc,hb⟩) (λo' iW hk=>by rw[hc]at iW;cases iW;exact eB rfl hk) (λcw e' jh fc h=>?_) (λfu=>?_)
  ·rw[hc]at h;cases h;exact⟨bJ,e,sz,_,rfl,ed _,λ_=>⟨rfl,rfl,by simp⟩⟩
  ·refine⟨ji,λx hx=>?_,hm,.inr ⟨g',cap,_,by simpa using hv,hp,setRow_heap w _ eH _ e _ hh,by simpa using jW,tp, ?_, ?_⟩⟩
   ·rcases Xf hx with hx|rfl
    ·exact eQ x hx
    ·rw[iv]
     ·exact eQ _ (by rw[rowAt,List.getD,w8 hj];simp)
     ·have:(rowAt av j).length=sz:=eQ _ (by rw[rowAt,List.getD,w8 hj];simp);omega
   ·have:=iv (l:=eH.toList) (new:=yv.cells.toList) (off:=j.toNat*sz+off) (by simp only[Si]at yP⊢;omega);simpa using this.trans (by simpa using Jg)
   ·rw[show rowAt av j=av.getD j.toNat []from rfl,Co av j.toNat off _ eQ hj (by omega)];simp only[List.length_set];have e1:(cG eH.toList (j.toNat*sz+off) yv.cells.toList).toArray.toList.take (av.length*sz)=cG (eH.toList.take (av.length*sz)) (j.toNat*sz+off) yv.cells.toList:=by
     rw[List.toList_toArray];exact Cn (by omega) (by simp;omega)
    rw[e1];exact bl.cG _ (bl.bH fu.dG.toKeepsC fu.sub _ _ ig) (bl.bH fu.dG.toKeepsC fu.sub _ _ (pp Dt qG))
def Loc.iw(L:Loc)(r b:Nat):Loc:=⟨λx=>if x=r then b else L.jX x,L.sl,L.yl⟩
def Loc.ju(L:Loc)(r:Nat)(v:Value):Loc:=⟨L.jX,λx=>if x=r then v else L.sl x,L.yl⟩
def yZ(h:Fr base M w0 w)(hb:wL w.heap.size w w'):Fr base M w0 w':=by
 have jW:base<=w.heap.size:=xI h.jO h.size;exact h.trans ⟨hb.os,hb.tape,hb.output,jW,hb.size,λk hk _=>hb.block k (by omega),hb.drawn⟩
def lS(o:Obj):wL w.heap.size w (w.alloc o):=⟨(Below.refl _ _).alloc (ed _) _,ed _⟩
def Jh(hO:cC base W M w0 ab w L)(hr:ab r=none){c:Array Value}(e:TypeId)(hc:aR w W ab L cs c.toList):
  cC base W M w0 (cN ab (some (r,.box cs))) (w.alloc (.cells c e)) (L.iw r w.heap.size)/\
   ic W ab L w (cN ab (some (r,.box cs))) (L.iw r w.heap.size) (w.alloc (.cells c e)):=by
 have hb:=lS (w:=w) (.cells c e);refine cC.put hO (yZ hO.fr hb) hb.size (λx hx=>⟨by simp[Loc.iw,hx],rfl⟩) rfl (λb ef _=>hb.block b ef) (λb h=>.inr ?_)
  (λo' h _=>by rw[hr]at h;cases h) (λ_ _ _ _ h=>by rw[hr]at h;cases h) (λfu=>?_)
 ·simp only[Loc.own,Loc.iw,jP,cu]at h;omega
 ·refine⟨c,e, ?_,aR.fu fu _ _ hc,.inl ?_⟩
  ·simp only[Loc.iw,jP];exact heap_alloc_new w _
  ·simp only[Loc.iw,jP];exact xI hO.fr.jO hO.fr.size
def vf(hO:cC base W M w0 ab w L){e n:Nat}(hc:ab r=some (.bE bJ e sz av))
  (hx:lo+n<=av.length/\∃p cap p2,L.sl r=.slice p av.length cap/\xv=.slice p2 n (cap-lo)/\(lo<cap->p2=p.map (·.add (lo*sz)))):
  (n=0/\∃(a:Option Addr) (c:Nat),xv=.slice a 0 c)\/∃g c,bi (L.sl r)=some g/\xv=.slice (some ⟨g,lo*sz,none⟩) n c/\n<=c/\bD w (WW W ab L) sz g (lo*sz) ((av.drop lo).take n):=by
 obtain⟨LR,p,cap,p2,wM,rfl,Ji⟩:=hx;by_cases hn:n=0
 ·subst hn;exact .inl ⟨rfl,p2,_,rfl⟩
 ·have gP:=hO.ob r _ hc;obtain⟨_,eQ,hm,oQ⟩:=gP;rcases oQ with⟨rfl,a,ha⟩|⟨g,aoT,eH,h1,h2,h3,h4,h5,h6,h7⟩
  ·simp at LR;omega
  ·have AN:bi (L.sl r)=some g:=by rw[h1];simp[bi,Hm.1 h2]
   have AM:=qF.av (hO.ob r _ hc) AN;rw[wM]at h1;simp only[Value.slice.injEq]at h1;obtain⟨rfl,_,rfl⟩:=h1;have:=Ji (by omega);subst this;refine .inr ⟨g,cap-lo,AN,by simp[nT],by omega,bD.Dr _ _ λj x hj=>?_⟩;rw[HR]at hj;split at hj
   ·rw[ZbT]at hj;have:=bD.row AM hj;rw[Lo,C7]at this;exact this
   ·cases hj
structure ZL(w:World)(W':fH)(ys:List (aL))(sz:Nat)(v:Value):Prop where
 it:(ys=[]/\∃(a:Option Addr) (c:Nat),v=.slice a 0 c)\/∃b o c,v=.slice (some ⟨b,o,none⟩) ys.length c/\bD w W' sz b o ys
def su(hO:cC base W M w0 ab w L){y:DV}(hy:aA w W ab L y yv)(hs:fY ab y=some ys)(hl:∀r∈ys,r.length=sz):
  ZL w (WW W ab L) ys sz yv:=by
 cases y with
 |v t=>
  cases t with
  |sl av=>
   simp only[fY,cu]at hs;subst hs;simp only[aA,bm]at hy;rcases hy with hy|⟨b,o,cap,jh,rfl,_,_,hc,hr⟩
   ·exact⟨.inl hy⟩
   ·refine⟨.inr ⟨b,o,cap,rfl, ?_⟩⟩
    match av,hr with
    |[],_=>simp[bD]
    |r::rs,hr=>
     have h1:=(bD.row hr (i:=0) (r:=r) rfl).1;have h2:=hl r (by simp);have:jh=sz:=by omega
     exact this▸hr
  |pO v=>
   unfold fY at hs;split at hs<;>simp_all
   simp only[aA,bm]at hy;exact⟨.inl ⟨rfl,_,_,hy⟩⟩
  |_=>simp[fY]at hs
 |aX=>
  simp only[fY,cu]at hs;subst hs;simp only[aA]at hy;obtain⟨a,rfl⟩:=hy;exact⟨.inl ⟨rfl,a,0,rfl⟩⟩
 |bC r bJ=>
  simp only[fY]at hs;simp only[aA]at hy;obtain⟨_,cw,e,jh,av,ho,_,hx⟩:=hy;rw[ho]at hs;simp only at hs;split at hs
  ·rename_i hv;simp only[cu]at hs;subst hs;have gP:=hO.ob r _ ho;obtain⟨ji,eQ,hm,oQ⟩:=gP;rw[hx hv];rcases oQ with⟨rfl,a,ha⟩|⟨g',cap,eH,ux,hp,hh,jW,tp,Jg,ig⟩
   ·exact⟨.inl ⟨rfl,a,0,ha⟩⟩
   ·have AM:=qF.av (hO.ob r _ ho) (g:=g') (by simp[ux,bi,Hm.1 hp]);refine⟨.inr ⟨g',0,cap,ux, ?_⟩⟩
    match av,AM,hl,eQ with
    |[],_,_,_=>simp[bD]
    |r::rs,hr,hl,eQ=>
     have h1:=eQ r (by simp);have h2:=hl r (by simp);have:jh=sz:=by omega
     exact this▸hr
  ·cases hs
 |wa r bJ lo n=>
  simp only[fY]at hs;simp only[aA]at hy;obtain⟨_,cw,e,jh,av,ho,_,hx⟩:=hy;rw[ho]at hs;simp only at hs;split at hs
  ·rename_i hv;subst hv;simp only[cu]at hs;subst hs;have LR:=(hx rfl).1;have I7:((av.drop lo).take n).length=n:=by rw[we,Zc];omega
   rcases vf hO ho (hx rfl)with⟨rfl,a,c,rfl⟩|⟨g,c,_,rfl,_,hr⟩
   ·exact⟨.inl ⟨by simp,a,c,rfl⟩⟩
   ·refine⟨.inr ⟨g,lo*jh,c,by rw[I7], ?_⟩⟩;have eQ:=(hO.ob r _ ho).2.1
    match hq:(av.drop lo).take n,hr,hl with
    |[],_,_=>simp[bD]
    |q::qs,hr,hl=>
     have h1:=eQ q (Zca (Ew (by rw[hq];simp)));have h2:=hl q (by simp);have:jh=sz:=by omega
     exact this▸hr
  ·cases hs
 |_=>simp[fY]at hs
def lp(w:World)(t ty e:TypeId)(i:TypeInfo)(ht:P.underlying t=some (.slice e))(hi:P.info? e=some i)(a b:Option Addr)(n cap c:Nat)(hn:n<=cap):
  (Builtin.append_ #[t,t] ty #[.slice a n cap,.slice b 0 c]).run P w=.ok (.slice a n cap) w:=by
 have hf:(Builtin.firstCells i.size 0 (.slice b 0 c)).run P w=.ok #[] w:=by
  cases b<;>simp[Builtin.firstCells,loadCells,loadCellsFrom]
 cases a<;>simp[Builtin.append_,run_underlying ht,sizeOf,typeInfo,hi,Builtin.lenOf,hn,hf,storeCells]
def Ex{e:Nat}(Lq:z.cells.size=sz){n m old:Nat}(hx:xs.length=n*sz)(hv:vs.length=m*sz)(h63:n+m<=maxLen):
  (w.drew.alloc (.cells (xs.toArray++vs.toArray++Builtin.zeroCells z.cells (grownCap w (n+m) old e-(n+m))) e)).ownsRow 0 e sz (.slice (some ⟨w.heap.size,0,none⟩) (n+m) (grownCap w (n+m) old e)) (n+m) (xs++vs)/\
   ∀row,w.grownBy (w.drew.alloc (.cells (xs.toArray++vs.toArray++Builtin.zeroCells z.cells (grownCap w (n+m) old e-(n+m))) e)) row:=by
 have yO:=grownCap_ge w (n+m) old e;have ZM:grownCap w (n+m) old e<=maxLen:=grownCap_le_maxLen w (n+m) old e h63;have dN:(xs++vs).length=(n+m)*sz:=by rw[Ey,hx,hv,C7]
 refine⟨⟨dN,.inr ⟨w.heap.size,_,_,rfl,Sj _,heap_alloc_new w.drew _,yO,ZM, ?_, ?_⟩⟩,λrow=>⟨rfl,rfl,rfl,by simp,λk hk _=>heap_alloc_old w.drew _ k hk⟩⟩
 ·simp only[Array.size_append,List.size_toArray,size_zeroCells,Lq,hx,hv,<-Nat.add_mul]
  congr 1
  omega
 ·simp only[Array.toList_append,ZbY];rw[<-List.append_assoc,<-dN];exact List.take_left
def Xg{o:Ob}(h:ab r=some o):cN ab (some (r,o))=ab:=by
 funext x;simp only[cN];split
 ·rename_i e;rw[e,h]
 ·rfl
def Ez{new:List (aL)}(hr:∀r∈av,r.length=sz)(hn:∀r∈new,r.length=sz)(h:lo+new.length<=av.length):(cG av lo new).flatten=cG av.flatten (lo*sz) new.flatten:=by
 have key:∀(l:List (aL)),(∀r∈l,r.length=sz)->l.flatten.length=l.length*sz:=by
  intro l;induction l with
  |nil=>simp
  |cons r rs ih=>intro h;simp[ih (λx hx=>h x (by simp[hx])),h r (by simp),C7];omega
 have tk:∀(k:Nat),k<=av.length->(av.take k).flatten=av.flatten.take (k*sz)/\(av.drop k).flatten=av.flatten.drop (k*sz):=by
  intro k hk;have h8:av.flatten=(av.take k).flatten++(av.drop k).flatten:=by rw[<-List.flatten_append,ZbA]
  have h9:(av.take k).flatten.length=k*sz:=by rw[key _ (λr h=>hr r (Ew h)),we];congr 1;omega
  rw[h8,Zdu h9,List.drop_left' h9];exact⟨rfl,rfl⟩
 unfold cG;rw[Zdb,Zdb,(tk lo (by omega)).1,(tk _ h).2,key new hn,C7]
def HT(hO:cC base W M w0 ab w L){t e0:TypeId}{i:TypeInfo}(ht:P.underlying t=some (.slice e0))(hi:P.info? e0=some i)
  {e n:Nat} (hc:ab r=some (.bE bJ e i.size av)) (LR:lo+n<=av.length)
  (lc:(n=0/\∃(a:Option Addr) (c:Nat),xv=.slice a 0 c)\/∃g c,bi (L.sl r)=some g/\xv=.slice (some ⟨g,lo*i.size,none⟩) n c) (hs:ZL w (WW W ab L) ys i.size yv) (AW:∀r∈ys,r.length=i.size):
  ∃w',(Builtin.copy_ #[t,t'] ty #[xv,yv]).run P w=.ok (goInt (min ys.length n:Nat)) w'/\
   cC base W M w0 (cN ab (some (r,.bE bJ e i.size (cG av lo (ys.take n))))) w' L/\ic W ab L w (cN ab (some (r,.bE bJ e i.size (cG av lo (ys.take n))))) L w':=by
 have aoU:ys.take n=[]->cC base W M w0 (cN ab (some (r,.bE bJ e i.size (cG av lo (ys.take n))))) w L/\ic W ab L w (cN ab (some (r,.bE bJ e i.size (cG av lo (ys.take n))))) L w:=by
  intro h0;have e1:cG av lo (ys.take n)=av:=by rw[h0];simp[cG]
  rw[e1,Xg hc];exact⟨hO,ic.cZ (dv.refl _ _)⟩
 have dN:∃(p:Option Addr) (c:Nat),yv=.slice p ys.length c:=by
  rcases hs.it with⟨rfl,a,c,rfl⟩|⟨b,o,c,rfl,_⟩
  ·exact⟨a,c,rfl⟩
  ·exact⟨_,c,rfl⟩
 have hf0:∀(v:Value) (p:Option Addr) (m c:Nat),v=.slice p m c->(Builtin.firstCells i.size 0 v).run P w=.ok #[] w:=by
  rintro v p m c rfl;cases p<;>simp[Builtin.firstCells,loadCells,loadCellsFrom]
 obtain⟨yp,yc,hyv⟩:=dN;rcases lc with⟨rfl,a,c,rfl⟩|⟨g,c,hg,rfl⟩
 ·refine⟨w, ?_,aoU (by simp)⟩;have:=hf0 yv yp _ yc hyv;subst hyv;cases a<;>simp[Builtin.copy_,run_underlying ht,Builtin.lenOf,run_sizeOf hi,this,storeCells]
 ·by_cases hm:min ys.length n=0
  ·refine⟨w, ?_,aoU ?_⟩
   ·have:=hf0 yv yp _ yc hyv;subst hyv;have Jj:Nat.min ys.length n=0:=hm;simp[Builtin.copy_,run_underlying ht,Builtin.lenOf,run_sizeOf hi,hm,this,storeCells]
   ·by_cases h:ys.length=0
    ·rw[LS h];simp
    ·rw[show n=0 by omega];simp
  ·rcases hs.it with⟨rfl,_⟩|⟨b,o,c',aoV,hr⟩
   ·simp at hm
   ·have gP:=hO.ob r _ hc;obtain⟨ji,eQ,A0,oQ⟩:=gP;rcases oQ with⟨rfl,_⟩|⟨g',cap,eH,h1,h2,h3,h4,h5,h6,h7⟩
    ·simp at LR;omega
    ·have AN:bi (L.sl r)=some g':=by rw[h1];simp[bi,Hm.1 h2]
     rw[AN]at hg;cases hg;obtain⟨vs,yP,Du,ZN⟩:=bD.flatten hr;have Pr:min ys.length n*i.size<=vs.length:=by rw[yP];exact Zbu _ (Nat.min_le_left _ _)
     have ZO:(ys.take n).length=min ys.length n:=by rw[we,Nat.min_comm]
     have I7:(vs.take (min ys.length n*i.size)).length=min ys.length n*i.size:=by rw[we];omega
     have ags:(Builtin.firstCells i.size (min ys.length n) yv).run P w=.ok (vs.take (min ys.length n*i.size)).toArray w:=by
      rw[aoV];simp only[Builtin.firstCells];have:=Ck (P:=P) (w:=w) (b:=b) (o:=o) (vs:=vs.take (min ys.length n*i.size)) (λj v hj=>ZN j v (by
       rw[HR]at hj;split at hj
       ·exact hj
       ·cases hj))
      rw[I7]at this;exact this
     have hfl:(ys.take n).flatten=ys.flatten.take (min ys.length n*i.size):=by
      have h8:ys.flatten=(ys.take n).flatten++(ys.drop n).flatten:=by rw[<-List.flatten_append,ZbA]
      rw[h8,Zdu];have key:∀(l:List (aL)),(∀r∈l,r.length=i.size)->l.flatten.length=l.length*i.size:=by
       intro l;induction l with
       |nil=>simp
       |cons r rs ih=>intro h;simp[ih (λx hx=>h x (by simp[hx])),h r (by simp),C7];omega
      rw[key _ (λr h=>AW r (Ew h)),ZO]
     have Ev:lo*i.size+min ys.length n*i.size<=av.length*i.size:=by
      rw[<-Nat.add_mul];exact Zbu _ (by omega)
     have avq:av.length*i.size<=cap*i.size:=Zbu _ h4;have A1:bl w (WW W ab L) (ys.take n).flatten (vs.take (min ys.length n*i.size)):=by rw[hfl];exact bl.take _ Du
     have yQ:=run_storeCells_at P g (lo*i.size) e (vs.take (min ys.length n*i.size)) 0 eH w h3 (by rw[I7,h6];omega) (bl.one A1);have iN:L.own r (.bE bJ e i.size av)=some g:=AN;refine⟨w.setRow g (cG eH.toList (lo*i.size) (vs.take (min ys.length n*i.size))).toArray, ?_, ?_⟩
     ·have Jj:Nat.min ys.length n=min ys.length n:=rfl;rw[aoV]at ags⊢;simp only[Builtin.copy_,Builtin.lenOf];simp only[ZA]at yQ;simp[run_underlying ht,run_sizeOf hi,ags,yQ,cG]
     ·refine cC.put hO (AZ _ hO.fr (A0 g AN)) (by simp) (λ_ _=>⟨rfl,rfl⟩) rfl (λb _ hb=>setRow_other w _ b _ (λx=>hb _ hc (by rw[iN,x])))
       (λb hb=>.inl ⟨_,hc,hb⟩) (λo' iW hk=>by rw[hc]at iW;cases iW;exact eB rfl hk) (λcw e' jh fc h=>?_) (λfu=>?_)
      ·rw[hc]at h;cases h;exact⟨bJ,e,i.size,_,rfl,ed _,λ_=>⟨rfl,rfl,iv (by rw[ZO];omega)⟩⟩
      ·have Cm:(cG av lo (ys.take n)).length=av.length:=iv (by rw[ZO];omega);refine⟨ji,λx hx=>?_,A0,.inr ⟨g,cap,_,by rw[Cm];exact h1,h2,setRow_heap w _ eH _ e _ h3,by rw[Cm];exact h4,h5, ?_, ?_⟩⟩
       ·simp only[cG,oi]at hx;rcases hx with(hx|hx)|hx
        ·exact eQ x (Ew hx)
        ·exact AW x (Ew hx)
        ·exact eQ x (Zca hx)
       ·have:=iv (l:=eH.toList) (new:=vs.take (min ys.length n*i.size)) (off:=lo*i.size) (by rw[I7];simp only[Si,h6];omega);simpa using this.trans (by simpa using h6)
       ·rw[Cm,Ez eQ (λx hx=>AW x (Ew hx)) (by rw[ZO];omega)];rw[List.toList_toArray,Cn (by rw[I7];omega) (by simp only[Si,h6];omega)];exact bl.cG _ (bl.bH fu.dG.toKeepsC fu.sub _ _ h7) (bl.bH fu.dG.toKeepsC fu.sub _ _ A1)
def pT{t e:TypeId}{i:TypeInfo}(ht:P.underlying t=some (.slice e))(hi:P.info? e=some i)(hz:i.zero=some z)(w9:i.size=sz)(Lq:z.cells.size=sz)
  {W':fH} {v:Value} {n:Nat} (iN:(n=0/\xs=[]/\∃a:Option Addr,v=.slice a 0 0)\/∃g cap eH,v=.slice (some ⟨g,0,none⟩) n cap/\0<cap/\w.heap[g]? =some (.cells eH e (0,0))/\n<=cap/\cap<=maxLen/\eH.size=cap*sz/\eH.toList.take (n*sz)=xs)
   (hs:ZL w W' ys sz yv) (hyw:∀b o,bD w W' sz b o ys->∃vs,vs.length=ys.length*sz/\bl w W' ys.flatten vs/\∀j v,vs[j]? =some v->w.cell? ⟨b,o+j,none⟩=some v) (pU:dR i.bytes (n+ys.length)):
  ∃v' w' vs,(Builtin.append_ #[t,t] ty #[v,yv]).run P w=.ok v' w'/\bl w W' ys.flatten vs/\vs.length=ys.length*sz/\
   ((n+ys.length=0/\∃a:Option Addr,v'=.slice a 0 0)\/∃g cap eH,v'=.slice (some ⟨g,0,none⟩) (n+ys.length) cap/\0<cap/\w'.heap[g]? =some (.cells eH e (0,0))/\n+ys.length<=cap/\cap<=maxLen/\eH.size=cap*sz/\
     eH.toList.take ((n+ys.length)*sz)=xs++vs)/\
   w.grownBy w' (bi v)/\(∀b,bi v'=some b->bi v=some b\/w.heap.size<=b)/\w.drawn<=w'.drawn:=by
 have h63:n+ys.length<=maxLen:=by have:=pU.2;simp only[maxLen];omega
 have atA:((n+ys.length:Nat):Int)<=9223372036854775807:=by have:=pU.2;omega
 have Sk:w.grownBy w (bi v):=⟨rfl,rfl,rfl,ed _,λ_ _ _=>rfl⟩;rcases hs.it with⟨rfl,b,c,rfl⟩|⟨b,o,c,rfl,hr⟩
 ·rcases iN with⟨rfl,rfl,a,rfl⟩|⟨g,cap,eH,rfl,hp,hg,h1,h2,h3,h4⟩
  ·exact⟨_,w,[],lp w t ty e i ht hi a b 0 0 c (ed _),by simp[bl],by simp,.inl ⟨rfl,a,rfl⟩,Sk,λb hb=>.inl hb,ed _⟩
  ·exact⟨_,w,[],lp w t ty e i ht hi _ b n cap c h1,by simp[bl],by simp,.inr ⟨g,cap,eH,rfl,hp,hg,h1,h2,h3,by simpa using h4⟩,Sk,λb hb=>.inl hb,ed _⟩
 ·obtain⟨vs,yP,Du,ZN⟩:=hyw b o hr;have alC:∀j v,vs[j]? =some v->w.cell? ((⟨b,o,none⟩:Addr).add j)=some v:=λj v h=>by rw[nT];exact ZN j v h
  by_cases hy0:ys.length=0
  ·have:ys=[]:=LS hy0;subst this;rcases iN with⟨rfl,rfl,a,rfl⟩|⟨g,cap,eH,rfl,hp,hg,h1,h2,h3,h4⟩
   ·exact⟨_,w,[],lp w t ty e i ht hi a _ 0 0 c (ed _),by simp[bl],by simp,.inl ⟨rfl,a,rfl⟩,Sk,λb hb=>.inl hb,ed _⟩
   ·exact⟨_,w,[],lp w t ty e i ht hi _ _ n cap c h1,by simp[bl],by simp,.inr ⟨g,cap,eH,rfl,hp,hg,h1,h2,h3,by simpa using h4⟩,Sk,λb hb=>.inl hb,ed _⟩
  ·have grow:∀(a:Addr) (old:Nat),old<n+ys.length->xs.length=n*sz->(∀j u,xs[j]? =some u->w.cell? (a.add j)=some u)->
     ∃v' w',(Builtin.append_ #[t,t] ty #[.slice (some a) n old,.slice (some ⟨b,o,none⟩) ys.length c]).run P w=.ok v' w'/\
      (∃g cap eH,v'=.slice (some ⟨g,0,none⟩) (n+ys.length) cap/\0<cap/\w'.heap[g]? =some (.cells eH e (0,0))/\n+ys.length<=cap/\cap<=maxLen/\eH.size=cap*sz/\eH.toList.take ((n+ys.length)*sz)=xs++vs)/\
      (∀row,w.grownBy w' row)/\(∀b,bi v'=some b->w.heap.size<=b)/\w.drawn<=w'.drawn:=by
    intro a old ho Hs hxc;have ce:=run_append_grow (P:=P) w t ty e i z ht hi hz a n old xs (by rw[w9];exact Hs) hxc ⟨b,o,none⟩ ys.length c vs (by rw[w9];exact yP) alC ho atA (growslice_fits ho pU.1);have Cp:=Ex (w:=w) (e:=e) (old:=old) Lq Hs yP h63;obtain⟨dN,hor⟩:=Cp.1;rcases hor with⟨hn,_⟩|⟨g,cap,eH,hv,_,hg,h1,h2,h3,h4⟩
    ·cases hn
    ·refine⟨_,_,ce,⟨g,cap,eH,hv,by omega,hg,h1,h2,h3,h4⟩,Cp.2,λb hb=>?_,Zdx _⟩;have tp:grownCap w (n+ys.length) old e≠0:=by have:=grownCap_ge w (n+ys.length) old e;omega
     simp only[bi,aZ tp,cu]at hb;omega
   rcases iN with⟨rfl,rfl,a,rfl⟩|⟨g,cap,eH,rfl,hp,hg,h1,h2,h3,h4⟩
   ·cases a with
    |none=>
     have ce:=run_append_nil (P:=P) w t ty e i z ht hi hz ⟨b,o,none⟩ ys.length c vs (by rw[w9];exact yP) alC (by omega) (by omega) (by have:=growslice_fits (old:=0) (need:=ys.length) (by omega) (by simpa using pU.1);have h2:=pU.1;simp only[Lo]at h2;omega);have Cp:=Ex (w:=w) (e:=e) (old:=0) (n:=0) (xs:=[]) Lq (by simp) yP (by simpa using h63);simp only[Lo,yN,Array.empty_append]at Cp⊢;obtain⟨dN,hor⟩:=Cp.1;rcases hor with⟨hn,_⟩|⟨g,cap,eH,hv,_,hg,h1,h2,h3,h4⟩
     ·cases hn
     ·refine⟨_,_,vs,ce,Du,yP,.inr ⟨g,cap,eH,hv,by omega,hg,h1,h2,h3,h4⟩,Cp.2 _,λb hb=>.inr ?_,Zdx _⟩;have tp:grownCap w ys.length 0 e≠0:=by have:=grownCap_ge w ys.length 0 e;omega
      simp only[bi,aZ tp,cu]at hb;omega
    |some a=>
     obtain⟨v',w',ce,yY,Cp,Zd,LU⟩:=grow a 0 (by omega) (by simp) (by simp);exact⟨v',w',vs,ce,Du,yP,.inr yY,Cp _,λb hb=>.inr (Zd b hb),LU⟩
   ·have Hs:xs.length=n*sz:=by
     rw[<-h4,we,Si,h3];exact Zdv (Zbu sz h1)
    have ZP:cap≠0:=Hm.1 hp;by_cases Ps:n+ys.length<=cap
    ·have Ev:n*i.size+vs.length<=eH.size:=by rw[yP,h3,w9,<-Nat.add_mul];exact Zbu _ Ps
     have ce:=run_append_room (P:=P) w t ty e i ht hi g n cap eH hg ⟨b,o,none⟩ ys.length c vs (by rw[w9];exact yP) alC (bl.one Du) Ps Ev;refine⟨_,_,vs,ce,Du,yP,.inr ⟨g,cap,_,rfl,hp,setRow_heap w g eH _ e _ hg,Ps,h2, ?_, ?_⟩,⟨rfl,rfl,rfl,by simp,λk _ hk=>setRow_other w g k _ (λe=>hk (by simp[bi,ZP,e]))⟩,λb hb=>.inl ?_,by simp⟩
     ·simp only[List.size_toArray,Ey,we,Zc,Si];rw[w9]at Ev⊢;omega
     ·have dN:(xs++vs).length=(n+ys.length)*sz:=by rw[Ey,Hs,yP,C7]
      rw[w9,h4,<-dN];exact List.take_left
     ·simpa [bi,ZP]using hb
    ·obtain⟨v',w',ce,yY,Cp,Zd,LU⟩:=grow ⟨g,0,none⟩ cap (by omega) Hs (λj u hu=>by
      rw[nT,Lo,cell_of_row w g j eH e (0,0) hg];rw[<-h4,HR]at hu;split at hu
      ·simpa using hu
      ·cases hu)
     exact⟨v',w',vs,ce,Du,yP,.inr yY,Cp _,λb hb=>.inr (Zd b hb),LU⟩
def vg{sz:Nat}:∀{av:List (aL)},(∀r∈av,r.length=sz)->av.flatten.length=av.length*sz
 |[],_=>by simp
 |r::rs,h=>by
  have:=vg (av:=rs) (sz:=sz) λx hx=>h x (by simp[hx]);simp[this,h r (by simp),C7];omega
def tq(hO:cC base W M w0 ab w L){cw e:Nat}(ji:0<sz)
  {v v':Value} (A1:∀x∈av++ys,x.length=sz)
  {agt:List (aL)} (Jk:(ab r=none/\av=[]/\bi v=none)\/(ab r=some (.bE bJ e sz agt)/\bi (L.sl r)=bi v/\bJ<cw))
  (hxs:bl w (WW W ab L) av.flatten xs) (hvs:bl w (WW W ab L) ys.flatten vs)
  (u9:(av.length+ys.length=0/\∃a:Option Addr,v'=.slice a 0 0)\/∃g cap eH,v'=.slice (some ⟨g,0,none⟩) (av.length+ys.length) cap/\0<cap/\w'.heap[g]? =some (.cells eH e (0,0))/\av.length+ys.length<=cap/\cap<=maxLen/\eH.size=cap*sz/\
     eH.toList.take ((av.length+ys.length)*sz)=xs++vs)
  (Cp:w.grownBy w' (bi v)) (Zd:∀b,bi v'=some b->bi v=some b\/w.heap.size<=b) (LU:w.drawn<=w'.drawn):
  cC base W M w0 (cN ab (some (r,.bE cw e sz (av++ys)))) w' (L.ju r v')/\ic W ab L w (cN ab (some (r,.bE cw e sz (av++ys)))) (L.ju r v') w':=by
 have ZQ:∀g,bi v=some g->base<=g\/M g:=λg hg=>by
  rcases Jk with⟨_,_,h⟩|⟨ho,hv,_⟩
  ·rw[hg]at h;cases h
  ·exact(hO.ob r _ ho).aoR (by simpa [Loc.own,hv]using hg)
 have jW:base<=w.heap.size:=xI hO.fr.jO hO.fr.size;have w6:Fr base M w0 w':=hO.fr.trans ⟨Cp.os,Cp.tape,Cp.output,jW,Cp.size,λk hk hm=>Cp.block k (by omega) λx=>by
  rcases ZQ k x.symm with h|h
  ·omega
  ·exact hm h,LU⟩
 refine cC.put hO w6 Cp.size (λx hx=>⟨rfl,by simp[Loc.ju,hx]⟩) rfl (λb ef hb=>Cp.block b ef λx=>?_) (λb hb=>?_) (λcs hc hk=>?_) (λrO e2 HP mA hc=>?_) (λfu=>?_)
 ·rcases Jk with⟨_,_,h⟩|⟨ho,hv,_⟩
  ·rw[h]at x;cases x
  ·exact hb _ ho (by simp[Loc.own,hv,<-x])
 ·simp only[Loc.own,Loc.ju,jP]at hb;rcases Zd b hb with h|h
  ·rcases Jk with⟨_,_,h2⟩|⟨ho,hv,_⟩
   ·rw[h]at h2;cases h2
   ·exact .inl ⟨_,ho,by simp[Loc.own,hv,h]⟩
  ·exact .inr h
 ·rcases Jk with⟨h,_⟩|⟨h,_⟩<;>rw[hc]at h<;>cases h
  exact eB rfl (by assumption)
 ·rcases Jk with⟨h,_⟩|⟨h,_,ef⟩
  ·rw[hc]at h;cases h
  ·rw[hc]at h;cases h;exact⟨cw,e,sz,_,rfl,by omega,λx=>by omega⟩
 ·refine⟨ji,A1,λg hg=>?_, ?_⟩
  ·simp only[Loc.ju,jP]at hg;rcases Zd g hg with h|h
   ·exact ZQ g h
   ·exact .inl (xI jW h)
  ·simp only[Loc.ju,jP,Ey];rcases u9 with⟨h0,ha⟩|⟨g,cap,eH,hv,hp,hg,h1,h2,h3,h4⟩
   ·refine .inl ⟨?_,ha⟩;have h1:av=[]:=LS (by omega);have h2:ys=[]:=LS (by omega);simp[h1,h2]
   ·refine .inr ⟨g,cap,eH,hv,hp,hg,h1,h2,h3, ?_⟩;rw[h4,Zdb];exact bl.append (bl.bH fu.dG.toKeepsC fu.sub _ _ hxs) (bl.bH fu.dG.toKeepsC fu.sub _ _ hvs)
def Jl(hO:cC base W M w0 ab w L){t e:TypeId}{i:TypeInfo}(ht:P.underlying t=some (.slice e))(hi:P.info? e=some i)(hz:i.zero=some z)(Lq:z.cells.size=i.size)(ji:0<i.size)
   (ff:ab name=none) {x y:DV} (hx:aA w W ab L x xv) (hy:aA w W ab L y yv) (aN:(iL e i.size i.bytes name ab x y).ok):
  ∃v w' L',(Builtin.append_ #[t,t] ty #[xv,yv]).run P w=.ok v w'/\cC base W M w0 (cN ab (iL e i.size i.bytes name ab x y).put) w' L'/\
   ic W ab L w (cN ab (iL e i.size i.bytes name ab x y).put) L' w'/\aA w' W (cN ab (iL e i.size i.bytes name ab x y).put) L' (iL e i.size i.bytes name ab x y).val v:=by
 unfold iL at aN⊢;cases hs:fY ab y with
 |none=>simp[hs,da]at aN
 |some ys=>
  simp only[hs]at aN⊢;have hyw:∀b o,bD w (WW W ab L) i.size b o ys->∃vs,vs.length=ys.length*i.size/\bl w (WW W ab L) ys.flatten vs/\∀j v,vs[j]? =some v->w.cell? ⟨b,o+j,none⟩=some v:=λb o h=>bD.flatten h;cases x with
  |aX=>
   simp only at aN⊢;have m0:=hx;simp only[aA]at m0;obtain⟨a,rfl⟩:=m0;obtain⟨v',w',vs,ce,Du,yP,u9,Cp,Zd,LU⟩:=pT (n:=0) (xs:=[]) ht hi hz rfl Lq (.inl ⟨rfl,rfl,a,rfl⟩) (ty:=ty) (su hO hy hs aN.1) hyw (by simpa using aN.2);have AN:bi (.slice a 0 0)=none:=by cases a<;>simp[bi]
   have:=tq hO (r:=name) (bJ:=0) (cw:=0) (agt:=[]) (av:=[]) (ys:=ys) ji (by simpa using aN.1) (.inl ⟨ff,rfl,AN⟩) (xs:=[]) (by simp[bl]) Du (by simpa using u9) Cp Zd LU;refine⟨v',w',_,ce,by simpa using this.1,by simpa using this.2, ?_⟩;simp only[aA];refine⟨?_,0,e,i.size,ys,by simp[cN],ed _,λ_=>by simp[Loc.ju]⟩;rcases u9 with⟨_,a,rfl⟩|⟨g,cap,eH,rfl,_⟩<;>exact⟨_,_,_,rfl⟩
  |bC r bJ=>
   cases ho:ab r with
   |none=>simp[ho,da]at aN
   |some o=>
    cases o with
    |box cs=>simp[ho,da]at aN
    |bE cw e' jh av=>
     simp only[ho]at aN⊢;obtain⟨rfl,rfl,rfl,hl,pU⟩:=aN;have m0:=hx;simp only[aA]at m0;obtain⟨_,rO,e2,HP,mA,nA,_,nU⟩:=m0;rw[ho]at nA;cases nA;have hv:=nU rfl;have gP:=hO.ob r _ ho;obtain⟨_,eQ,hm,oQ⟩:=gP;have iN:∃xs,bl w (WW W ab L) av.flatten xs/\((av.length=0/\xs=[]/\∃a:Option Addr,xv=.slice a 0 0)\/∃g cap eH,xv=.slice (some ⟨g,0,none⟩) av.length cap/\0<cap/\w.heap[g]? =some (.cells eH e' (0,0))/\av.length<=cap/\cap<=maxLen/\eH.size=cap*i.size/\eH.toList.take (av.length*i.size)=xs):=by
      rcases oQ with⟨rfl,a,ha⟩|⟨g,cap,eH,h1,h2,h3,h4,h5,h6,h7⟩
      ·exact⟨[],by simp[bl],.inl ⟨rfl,rfl,a,by rw[hv,ha]⟩⟩
      ·exact⟨_,h7,.inr ⟨g,cap,eH,by rw[hv,h1],h2,h3,h4,h5,h6,rfl⟩⟩
     obtain⟨xs,Hr,iN⟩:=iN;obtain⟨v',w',vs,ce,Du,yP,u9,Cp,Zd,LU⟩:=pT ht hi hz rfl Lq iN (ty:=ty) (su hO hy hs hl) hyw pU;have:=tq hO (r:=r) (bJ:=bJ) (cw:=bJ+1) (av:=av) (ys:=ys) ji (λx hx=>(oi.1 hx).elim (eQ x) (hl x)) (.inr ⟨ho,by rw[hv],by omega⟩) Hr Du u9 Cp Zd LU;refine⟨v',w',_,ce,this.1,this.2, ?_⟩;simp only[aA];refine⟨?_,bJ+1,e',i.size,av++ys,by simp[cN],ed _,λ_=>by simp[Loc.ju]⟩;rcases u9 with⟨_,a,rfl⟩|⟨g,cap,eH,rfl,_⟩<;>exact⟨_,_,_,rfl⟩
    |_=>simp[ho,da]at aN
  |wa r bJ lo n=>
   cases lo with
   |succ lo=>simp[da]at aN
   |zero=>
   cases ho:ab r with
   |none=>simp[ho,da]at aN
   |some o=>
    cases o with
    |bE cw e' jh av=>
     simp only[ho]at aN⊢;obtain⟨rfl,rfl,rfl,hl,pU⟩:=aN;have m0:=hx;simp only[aA]at m0;obtain⟨_,rO,e2,HP,mA,nA,_,nU⟩:=m0;rw[ho]at nA;cases nA;obtain⟨LR,p,ZR,p2,wM,rfl,Ji⟩:=nU rfl;have gP:=hO.ob r _ ho;obtain⟨_,eQ,hm,oQ⟩:=gP;have I7:(av.take n).length=n:=by rw[we];omega
     have AN:bi (L.sl r)=bi (.slice p2 n (ZR-0)):=by
      rw[wM];simp only[Zcq];by_cases Ze:ZR=0
      ·subst Ze;cases p<;>cases p2<;>simp[bi]
      ·have:=Ji (by omega);subst this;cases p with
       |none=>simp[bi]
       |some a=>
        obtain⟨b,o,ix⟩:=a;cases ix<;>simp[bi,Ze,Addr.add]
     have iN:∃xs,bl w (WW W ab L) (av.take n).flatten xs/\((n=0/\xs=[]/\∃a:Option Addr,Value.slice p2 n (ZR-0)=.slice a 0 0)\/∃g cap eH,Value.slice p2 n (ZR-0)=.slice (some ⟨g,0,none⟩) n cap/\0<cap/\w.heap[g]? =some (.cells eH e' (0,0))/\n<=cap/\cap<=maxLen/\eH.size=cap*i.size/\eH.toList.take (n*i.size)=xs):=by
      rcases oQ with⟨rfl,a,ha⟩|⟨g,cap,eH,h1,h2,h3,h4,h5,h6,h7⟩
      ·rw[wM]at ha;simp only[Value.slice.injEq]at ha;obtain⟨_,_,rfl⟩:=ha;have:n=0:=by simp at LR;omega
       subst this;exact⟨[],by simp[bl],.inl ⟨rfl,rfl,p2,rfl⟩⟩
      ·rw[wM]at h1;simp only[Value.slice.injEq]at h1;obtain⟨rfl,_,rfl⟩:=h1;have:=Ji h2;subst this;refine⟨_, ?_,.inr ⟨g,ZR,eH,by simp[nT],h2,h3,by omega,h5,h6,rfl⟩⟩;have e1:(av.take n).flatten=av.flatten.take (n*i.size):=by
        have h8:av.flatten=(av.take n).flatten++(av.drop n).flatten:=by rw[<-List.flatten_append,ZbA]
        rw[h8,Zdu (by rw[vg (sz:=i.size) (λr hr=>eQ r (Ew hr)),I7])]
       have e2:eH.toList.take (n*i.size)=(eH.toList.take (av.length*i.size)).take (n*i.size):=by
        rw[Zde];congr 1;have:=Zbu i.size (show n<=av.length by omega);omega
       rw[e1,e2];exact bl.take _ h7
     obtain⟨xs,Hr,iN⟩:=iN;obtain⟨v',w',vs,ce,Du,yP,u9,Cp,Zd,LU⟩:=pT ht hi hz rfl Lq iN (ty:=ty) (su hO hy hs hl) hyw pU;have:=tq hO (r:=r) (bJ:=bJ) (cw:=bJ+1) (av:=av.take n) (ys:=ys) ji (λx hx=>(oi.1 hx).elim (λh=>eQ x (Ew h)) (hl x)) (.inr ⟨ho,AN,by omega⟩) Hr Du (by rw[I7];exact u9) Cp Zd LU;refine⟨v',w',_,ce,this.1,this.2, ?_⟩;simp only[aA];refine⟨?_,bJ+1,e',i.size,av.take n++ys,by simp[cN],ed _,λ_=>by simp[Loc.ju]⟩;rcases u9 with⟨_,a,rfl⟩|⟨g,cap,eH,rfl,_⟩<;>exact⟨_,_,_,rfl⟩
    |_=>simp[ho,da]at aN
  |_=>simp[da]at aN
def Pt(hO:cC base W M w0 ab w L){t e0:TypeId}{i:TypeInfo}(ht:P.underlying t=some (.slice e0))(hi:P.info? e0=some i)
  {x y:DV} (hx:aA w W ab L x xv) (hy:aA w W ab L y yv) (aN:(ko i.size ab x y).ok):
  ∃v w',(Builtin.copy_ #[t,t'] ty #[xv,yv]).run P w=.ok v w'/\cC base W M w0 (cN ab (ko i.size ab x y).put) w' L/\
   ic W ab L w (cN ab (ko i.size ab x y).put) L w'/\aA w' W (cN ab (ko i.size ab x y).put) L (ko i.size ab x y).val v:=by
 unfold ko at aN⊢;cases hs:fY ab y with
 |none=>simp[hs,da]at aN
 |some ys=>
  simp only[hs]at aN⊢;cases x with
  |bC r bJ=>
   cases ho:ab r with
   |none=>simp[ho,da]at aN
   |some o=>
    cases o with
    |bE cw e jh av=>
     simp only[ho]at aN⊢;obtain⟨rfl,rfl,hl⟩:=aN;simp only[aA]at hx;obtain⟨_,rO,e2,HP,mA,nA,_,nU⟩:=hx;rw[ho]at nA;cases nA;have hv:=nU rfl;subst hv;have hd:(av.length=0/\∃(a:Option Addr) (c:Nat),L.sl r=.slice a 0 c)\/∃g c,bi (L.sl r)=some g/\L.sl r=.slice (some ⟨g,0*i.size,none⟩) av.length c:=by
      obtain⟨_,_,_,oQ⟩:=hO.ob r _ ho;rcases oQ with⟨rfl,a,ha⟩|⟨g,cap,eH,h1,h2,_⟩
      ·exact .inl ⟨rfl,a,0,ha⟩
      ·exact .inr ⟨g,cap,by rw[h1];simp[bi,Hm.1 h2],by rw[h1,Zc4]⟩
     obtain⟨w',h1,h2,h3⟩:=HT hO ht hi (t':=t') (ty:=ty) ho (lo:=0) (n:=av.length) (by omega) hd (su hO hy hs hl) hl;exact⟨_,w',h1,h2,h3,by simp[aA,bm,goInt]⟩
    |_=>simp[ho,da]at aN
  |wa r bJ lo n=>
   cases ho:ab r with
   |none=>simp[ho,da]at aN
   |some o=>
    cases o with
    |bE cw e jh av=>
     simp only[ho]at aN⊢;obtain⟨rfl,rfl,hl⟩:=aN;simp only[aA]at hx;obtain⟨_,rO,e2,HP,mA,nA,_,nU⟩:=hx;rw[ho]at nA;cases nA;have hv:=nU rfl;have hd:(n=0/\∃(a:Option Addr) (c:Nat),xv=.slice a 0 c)\/∃g c,bi (L.sl r)=some g/\xv=.slice (some ⟨g,lo*i.size,none⟩) n c:=by
      rcases vf hO ho hv with h|⟨g,c,h1,h2,_⟩
      ·exact .inl h
      ·exact .inr ⟨g,c,h1,h2⟩
     obtain⟨w',h1,h2,h3⟩:=HT hO ht hi (t':=t') (ty:=ty) ho hv.1 hd (su hO hy hs hl) hl;exact⟨_,w',h1,h2,h3,by simp[aA,bm,goInt]⟩
    |_=>simp[ho,da]at aN
  |_=>simp[da]at aN
def j6{α:Type}(l:List α):∀(n j:Nat),j<n*l.length->(List.replicate n l).flatten[j]? =l[j % l.length]?
 |0,j,h=>by simp at h
 |n+1,j,h=>by
  simp only[Pu,ZJ];by_cases hj:j<l.length
  ·rw[Zbl hj,Zc0 hj]
  ·rw[Zbj (by omega),j6 l n (j-l.length) (by rw[C7]at h;omega)];rw[Nat.mod_eq_sub_mod (a:=j) (by omega)]
def za(z:Array Value)(n:Nat):(madeCells z (n*z.size)).toList=(List.replicate n z.toList).flatten:=by
 apply ZbZ;intro j;by_cases hj:j<n*z.size
 ·have hz:0<z.size:=by
   rcases Zdk z.size with h|h
   ·rw[h]at hj;simp at hj
   ·exact h
  rw[j6 z.toList n j (by simpa using hj)];have hm:=Nat.mod_lt j hz;simp[madeCells,hj,hm]
 ·rw[ZbB (by simp[size_madeCells];omega),ZbB (by simp;omega)]
def vh{zero:aL}{zs:List Value}(h:bl w W zero zs):∀n,bl w W (List.replicate n zero).flatten (List.replicate n zs).flatten
 |0=>by simp[bl]
 |n+1=>by simpa [Pu]using bl.append h (vh h n)
def aev(hO:cC base W M w0 ab w L)(hr:ab r=none){e:Nat}(ji:0<sz)(A1:∀x∈av,x.length=sz){c:Array Value}(oT:c.size=av.length*sz)
  (hc:bl w (WW W ab L) av.flatten c.toList) (atB:av.length<=maxLen):
  cC base W M w0 (cN ab (some (r,.bE 0 e sz av))) (w.alloc (.cells c e)) (L.ju r (.slice (some ⟨w.heap.size,0,none⟩) av.length av.length))/\
   ic W ab L w (cN ab (some (r,.bE 0 e sz av))) (L.ju r (.slice (some ⟨w.heap.size,0,none⟩) av.length av.length)) (w.alloc (.cells c e)):=by
 have hb:=lS (w:=w) (.cells c e);refine cC.put hO (yZ hO.fr hb) hb.size (λx hx=>⟨rfl,by simp[Loc.ju,hx]⟩) rfl (λb ef _=>hb.block b ef) (λb h=>.inr ?_)
  (λo' h _=>by rw[hr]at h;cases h) (λ_ _ _ _ h=>by rw[hr]at h;cases h) (λfu=>?_)
 ·simp only[Loc.own,Loc.ju,jP,bi]at h;split at h
  ·cases h
  ·simp only[cu]at h;omega
 ·refine⟨ji,A1,λg hg=>?_, ?_⟩
  ·simp only[Loc.ju,jP,bi]at hg;split at hg
   ·cases hg
   ·simp only[cu]at hg;subst hg;exact .inl (xI hO.fr.jO hO.fr.size)
  ·simp only[Loc.ju,jP];by_cases h0:av.length=0
   ·refine .inl ⟨LS h0,some ⟨w.heap.size,0,none⟩,by rw[h0]⟩
   ·refine .inr ⟨w.heap.size,av.length,c,rfl,by omega,heap_alloc_new w _,ed _,atB,oT, ?_⟩;rw[Xd (by simp[oT])];exact bl.bH fu.dG.toKeepsC fu.sub _ _ hc
def EA(hO:cC base W M w0 ab w L){t e:TypeId}{i:TypeInfo}(ht:P.underlying t=some (.slice e))(hi:P.info? e=some i)(hz:i.zero=some z)(ji:0<i.size)
   (vi:z.cells.toList.mapM tn=some zero) (ff:ab name=none) {x:DV} (hx:aA w W ab L x xv) (aN:(mz e i.size i.bytes zero name x).ok):
  ∃v w' L',(Instr.makeSlice t xv xv).run P w=.ok v w'/\cC base W M w0 (cN ab (mz e i.size i.bytes zero name x).put) w' L'/\
   ic W ab L w (cN ab (mz e i.size i.bytes zero name x).put) L' w'/\aA w' W (cN ab (mz e i.size i.bytes zero name x).put) L' (mz e i.size i.bytes zero name x).val v:=by
 cases x with
 |v t'=>
  cases t' with
  |int k n=>
   simp only[aA,bm]at hx;subst hx;simp only[mz]at aN⊢;obtain⟨h0,ZS,hb,hm⟩:=aN;have hzz:=uw (w:=w) (W:=WW W ab L) vi;have Lq:z.cells.size=i.size:=by have:=bl.length hzz;simpa [ZS]using this
   have hbi:(i.bytes:Int)*n<=281474976710656:=by
    have e:(i.bytes:Int)*n=((n.toNat*i.bytes:Nat):Int):=by
     rw[Int.natCast_mul,Int.toNat_of_nonneg h0,Int.mul_comm]
    rw[e];omega
   have ce:=run_make (P:=P) w t e i z ht hi hz k k n n h0 (ZcK _) hbi (by omega);have hc:(madeCells z.cells (n.toNat*i.size)).toList=(List.replicate n.toNat z.cells.toList).flatten:=by rw[<-Lq];exact za _ _
   have:=aev hO (e:=e) ff (av:=List.replicate n.toNat zero) ji (λx hx=>by rw[ZbU hx];exact ZS) (c:=madeCells z.cells (n.toNat*i.size)) (by simp[size_madeCells]) (by rw[hc];exact vh hzz _) (by simp only[ZbH,maxLen];omega);simp only[ZbH]at this;refine⟨_,_,_,ce,this.1,this.2, ?_⟩;simp only[aA];exact⟨⟨_,_,_,rfl⟩,0,e,i.size,List.replicate n.toNat zero,by simp[cN],ed _,λ_=>by simp[Loc.ju]⟩
  |_=>simp[mz,da]at aN
 |_=>simp[mz,da]at aN
def Pv{ts:aL}:∀{zs:List Value},zs.mapM tn=some ts->aR w W ab L (ts.map HO) zs:=by
 induction ts with
 |nil=>
  intro zs h;cases zs with
  |nil=>simp[aR]
  |cons z zs=>simp[Lp,jG]at h
 |cons t ts ih=>
  intro zs h;cases zs with
  |nil=>simp at h
  |cons z zs=>
   simp only[Lp,mb,kP,jG,cu,LW]at h;obtain⟨t',ht,ts',LX,rfl,rfl⟩:=h;simp only[qD,aR];have hr:=Eu (w:=w) (W:=WW W ab L) ht;refine⟨z,zs,rfl,hr.2.1, ?_,ih LX⟩;unfold HO;split
   ·unfold tn at ht;split at ht<;>first|(cases ht;done)|skip
    all_goals first
     |(simp only[aA];exact⟨_,rfl⟩)
     |(cases ht)
   ·simp only[aA];exact hr.1
def uy{zero:bF}{zs:List Value}(h:aR w W ab L zero zs):∀n,aR w W ab L (List.replicate n zero).flatten (List.replicate n zs).flatten
 |0=>by simp[aR]
 |n+1=>by simpa [Pu]using aR.append h (uy h n)
def Cq(hO:cC base W M w0 ab w L){t e:TypeId}{i:TypeInfo}(ht:P.underlying t=some (.slice e))(hi:P.info? e=some i)(hz:i.zero=some z)
   (vi:z.cells.toList.mapM tn=some zero) (ff:ab name=none) {x:DV} (hx:aA w W ab L x xv) (aN:(gF i.size i.bytes zero name x).ok):
  ∃v w' L',(Instr.makeSlice t xv xv).run P w=.ok v w'/\cC base W M w0 (cN ab (gF i.size i.bytes zero name x).put) w' L'/\
   ic W ab L w (cN ab (gF i.size i.bytes zero name x).put) L' w'/\aA w' W (cN ab (gF i.size i.bytes zero name x).put) L' (gF i.size i.bytes zero name x).val v:=by
 cases x with
 |v t'=>
  cases t' with
  |int k n=>
   simp only[aA,bm]at hx;subst hx;simp only[gF]at aN⊢;obtain⟨h0,ZS,hb,hm⟩:=aN;have hzz:=Pv (w:=w) (W:=W) (ab:=ab) (L:=L) vi;have Lq:z.cells.size=i.size:=by have:=aR.length hzz;simpa [ZS]using this
   have hbi:(i.bytes:Int)*n<=281474976710656:=by
    have e:(i.bytes:Int)*n=((n.toNat*i.bytes:Nat):Int):=by
     rw[Int.natCast_mul,Int.toNat_of_nonneg h0,Int.mul_comm]
    rw[e];omega
   have ce:=run_make (P:=P) w t e i z ht hi hz k k n n h0 (ZcK _) hbi (by omega);have hc:(madeCells z.cells (n.toNat*i.size)).toList=(List.replicate n.toNat z.cells.toList).flatten:=by rw[<-Lq];exact za _ _
   have:=Jh hO ff (c:=madeCells z.cells (n.toNat*i.size)) e (cs:=(List.replicate n.toNat (zero.map HO)).flatten) (by rw[hc];exact uy hzz _);refine⟨_,_,_,ce,this.1,this.2, ?_⟩;simp only[aA];exact⟨⟨(List.replicate n.toNat (zero.map HO)).flatten,by simp[cN]⟩,by simp[Loc.iw]⟩
  |_=>simp[gF,da]at aN
 |_=>simp[gF,da]at aN
end
end
end Go.DM
namespace Go.DM
open Go.RowKit
variable [bM]
section
def jj(P:Program)(rec:TypeId->Option (List Sh))(off:Nat):List Field->Option (List Sh)
 |[]=>some []
 |f::fs=>
  match rec f.type,P.info? f.type with
  |some s,some i=>if f.name≠ "_" /\f.offset=off/\s.length=i.size then(jj P rec (off+s.length) fs).map (s++·)else none
  |_,_=>none
def me(P:Program):Nat->TypeId->Option (List Sh)
 |0,_=>none
 |d+1,t=>
  match P.underlying t with
  |some .bool=>some [.bool]
  |some (.int k)=>some [.int k]
  |some .string=>some [.str]
  |some (.struct fs)=>if P.stoodInHeld t then none else jj P (me P d) 0 fs.toList
  |some (.array n e)=>
   match me P d e,P.info? e with
   |some s,some i=>if s.length=i.size/\0<i.size then some ((List.replicate n s).flatten)else none
   |_,_=>none
  |_=>none
def fit:Sh->Value->Bool
 |.bool,.bool _=>true
 |.int k,.int k' _=>k==k'
 |.str,.string _=>true
 |_,_=>false
def gB:List Sh->List Value->Prop
 |[],vs=>vs=[]
 |s::ss,vs=>∃v jN,vs=v::jN/\fit s v=true/\gB ss jN
def veq:Value->Value->Bool
 |.bool a,.bool b=>a==b
 |.int _ a,.int _ b=>a==b
 |.string a,.string b=>a.toList==b.toList
 |_,_=>false
def nD:List Value->List Value->Bool
 |[],[]=>true
 |a::as,b::bs=>veq a b&&nD as bs
 |_,_=>false
def gB.length:∀{ss:List Sh} {vs:List Value},gB ss vs->vs.length=ss.length
 |[],_,h=>by simp only[gB]at h;simp[h]
 |_::ss,_,h=>by
  simp only[gB]at h;obtain⟨v,jN,rfl,_,h⟩:=h;simp[gB.length h]
def gB.split:∀{s1 s2:List Sh} {vs:List Value},gB (s1++s2) vs->gB s1 (vs.take s1.length)/\gB s2 (vs.drop s1.length)
 |[],s2,vs,h=>by simpa [gB]using h
 |s::s1,s2,vs,h=>by
  simp only[C9,gB]at h;obtain⟨v,jN,rfl,h1,h⟩:=h;have:=gB.split h;simp only[Lr,Zcu,List.drop_succ_cons,gB];exact⟨⟨v,_,rfl,h1,this.1⟩,this.2⟩
def vj:∀{a b c d:List Value},a.length=c.length->nD (a++b) (c++d)=(nD a c&&nD b d)
 |[],b,[],d,_=>by simp[nD]
 |x::a,b,[],d,h=>by simp at h
 |[],b,y::c,d,h=>by simp at h
 |x::a,b,y::c,d,h=>by
  simp only[C9,nD];rw[vj (by simpa using h),Bool.and_assoc]
def AO(d:TypeDesc)(vs:List Value):Value:=if cq d then .agg vs.toArray else vs.getD 0 Go.undef
section
variable{P:Program}
def oq(w:World){t:TypeId}{d:TypeDesc}{i:TypeInfo}(hd:P.underlying t=some d)(hi:P.info? t=some i){xs:List Value}{off:Nat}(h1:cq d=true\/i.size=1)(hl:off+i.size<=xs.length):
  (part t xs.toArray off).run P w=.ok (AO d ((xs.drop off).take i.size)) w:=by
 have Ls:(isAgg t).run P w=.ok (cq d) w:=by rw[HQ hd];cases d<;>rfl
 simp only[part,Sem.run_bind,Ls,Result.andThen_ok];by_cases ha:cq d=true
 ·simp only[ha,jP,Sem.run_bind,run_sizeOf hi,Result.andThen_ok,Sem.run_pure,AO]
  congr 3
  simp only[List.extract_toArray,List.extract_eq_take_drop]
  congr 2
  omega
 ·have h2:=h1.resolve_left ha;have ef:off<xs.length:=by omega
  simp only[ha,AO,h2];simp[ef]
def Dv{d:Nat}{t:TypeId}{cy:List Sh}(h:me P (d+1) t=some cy):∃desc,P.underlying t=some desc/\(cq desc=true\/cy.length=1):=by
 simp only[me]at h;split at h
 ·rename_i hu;exact⟨_,hu,.inr (by simp at h;simp[<-h])⟩
 ·rename_i hu;exact⟨_,hu,.inr (by simp at h;simp[<-h])⟩
 ·rename_i hu;exact⟨_,hu,.inr (by simp at h;simp[<-h])⟩
 ·rename_i hu;exact⟨_,hu,.inl rfl⟩
 ·rename_i hu;exact⟨_,hu,.inl rfl⟩
 ·cases h
def ZT{d:Nat}{e:TypeId}{de:TypeDesc}{s:List Sh}{i:TypeInfo}(hd:P.underlying e=some de)(hi:P.info? e=some i)(h1:cq de=true\/i.size=1)(hs:s.length=i.size)(Ht:0<i.size)
  (ih:∀(xs ys:List Value) (w:World),gB s xs->gB s ys->(Op.equalIn d e (AO de xs) (AO de ys)).run P w=.ok (nD xs ys) w) (xs ys:List Value):
  ∀(n k:Nat) (w:World),gB ((List.replicate n s).flatten) (xs.drop (k*i.size))->gB ((List.replicate n s).flatten) (ys.drop (k*i.size))->
   (forIn (List.range' k n) (none,()) (λj (_:Option Bool×Unit)=>do
     let a<-part e xs.toArray (j*i.size)
     let b<-part e ys.toArray (j*i.size)
     let r<-Op.equalIn d e a b
     if(!r)=true then pure (ForInStep.done (some false,()))else pure (ForInStep.yield (none,()))):Sem (Option Bool×Unit)).run P w=
    .ok (if nD (xs.drop (k*i.size)) (ys.drop (k*i.size))then(none,())else(some false,())) w
 |0,k,w,hx,hy=>by
  simp only[Zcv,List.flatten_nil,gB]at hx hy;simp[hx,hy,nD]
 |n+1,k,w,hx,hy=>by
  simp only[Pu,ZJ]at hx hy;have Hs:=gB.length hx;have AW:=gB.length hy;simp only[Ey,Zc]at Hs AW;obtain⟨Jm,xb⟩:=gB.split hx;obtain⟨mf,fW⟩:=gB.split hy;have e2:k*i.size+s.length=(k+1)*i.size:=by rw[C7,hs];omega
  rw[Zdf,e2]at xb fW;have ou:0<i.size:=Ht;have p1:=λw=>oq (P:=P) w hd hi (xs:=xs) (off:=k*i.size) h1 (by omega);have p2:=λw=>oq (P:=P) w hd hi (xs:=ys) (off:=k*i.size) h1 (by omega);rw[hs]at Jm mf;have hr:=ih _ _ w Jm mf;have A2:nD (xs.drop (k*i.size)) (ys.drop (k*i.size))=(nD ((xs.drop (k*i.size)).take i.size) ((ys.drop (k*i.size)).take i.size)&&nD (xs.drop ((k+1)*i.size)) (ys.drop ((k+1)*i.size))):=by
   have a1:xs.drop (k*i.size)=(xs.drop (k*i.size)).take i.size++xs.drop ((k+1)*i.size):=by
    rw[<-e2,hs,<-List.drop_drop,ZbA]
   have a2:ys.drop (k*i.size)=(ys.drop (k*i.size)).take i.size++ys.drop ((k+1)*i.size):=by
    rw[<-e2,hs,<-List.drop_drop,ZbA]
   rw[a1,a2,vj (by simp;omega)];rw[<-a1,<-a2]
  simp only[Zc1,Zc5,Sem.run_bind,p1,p2,Result.andThen_ok,hr];rw[A2];cases hb:nD ((xs.drop (k*i.size)).take i.size) ((ys.drop (k*i.size)).take i.size)
  ·simp
  ·have:=ZT hd hi h1 hs Ht ih xs ys n (k+1) w xb fW;simp only[ZcJ,OX,w7,Sem.run_pure,Result.andThen_ok,ZcY];exact this
def HU{d:Nat}(ih:∀(t:TypeId) (cy:List Sh) (desc:TypeDesc),me P d t=some cy->P.underlying t=some desc->∀(xs ys:List Value) (w:World),gB cy xs->gB cy ys->(Op.equalIn d t (AO desc xs) (AO desc ys)).run P w=.ok (nD xs ys) w)
  (LY:∀(t:TypeId) (cy:List Sh),me P d t=some cy->∃desc,P.underlying t=some desc/\(cq desc=true\/cy.length=1)) (xs ys:List Value):
  ∀(fs:List Field) (off:Nat) (cy:List Sh) (w:World),jj P (me P d) off fs=some cy->gB cy (xs.drop off)->gB cy (ys.drop off)->off<=xs.length->off<=ys.length->
   (Op.eqFields d xs.toArray ys.toArray fs).run P w=.ok (nD (xs.drop off) (ys.drop off)) w
 |[],off,cy,w,h,hx,hy,_,_=>by
  simp only[jj,cu]at h;subst h;simp only[gB]at hx hy;simp[Op.eqFields,hx,hy,nD]
 |f::fs,off,cy,w,h,hx,hy,hox,hoy=>by
  simp only[jj]at h;split at h
  ·rename_i s i hs hi;split at h
   ·rename_i hc;obtain⟨hn,rfl,ji⟩:=hc;simp only[iV]at h;obtain⟨rest,LZ,rfl⟩:=h;obtain⟨desc,hd,h1⟩:=LY _ _ hs;have Hs:=gB.length hx;have AW:=gB.length hy;simp only[Ey,Zc]at Hs AW;obtain⟨Jm,xb⟩:=gB.split hx;obtain⟨mf,fW⟩:=gB.split hy;rw[Zdf]at xb fW;rw[ji]at h1;have p1:=λw=>oq (P:=P) w hd hi (xs:=xs) (off:=f.offset) h1 (by omega);have p2:=λw=>oq (P:=P) w hd hi (xs:=ys) (off:=f.offset) h1 (by omega);have hr:=ih _ _ _ hs hd _ _ w Jm mf;rw[ji]at hr;have A2:nD (xs.drop f.offset) (ys.drop f.offset)=(nD ((xs.drop f.offset).take i.size) ((ys.drop f.offset).take i.size)&&nD (xs.drop (f.offset+s.length)) (ys.drop (f.offset+s.length))):=by
     have a1:xs.drop f.offset=(xs.drop f.offset).take i.size++xs.drop (f.offset+s.length):=by rw[ji,<-List.drop_drop,ZbA]
     have a2:ys.drop f.offset=(ys.drop f.offset).take i.size++ys.drop (f.offset+s.length):=by rw[ji,<-List.drop_drop,ZbA]
     rw[a1,a2,vj (by simp;omega)];rw[<-a1,<-a2]
    simp only[Op.eqFields,hn,ne_eq,not_false_eq_true,jP,Sem.run_bind,p1,p2,Result.andThen_ok,hr];rw[A2];cases hb:nD ((xs.drop f.offset).take i.size) ((ys.drop f.offset).take i.size)
    ·simp
    ·simp only[ZcJ,OX,w7,ZcY];exact HU ih LY xs ys fs _ rest w LZ xb fW (by omega) (by omega)
   ·cases h
  ·cases h
def tr:∀(d:Nat) (t:TypeId) (cy:List Sh) (desc:TypeDesc),me P d t=some cy->P.underlying t=some desc->∀(xs ys:List Value) (w:World),gB cy xs->gB cy ys->
  (Op.equalIn d t (AO desc xs) (AO desc ys)).run P w=.ok (nD xs ys) w
 |0,t,cy,desc,h,_,_,_,_,_,_=>by simp[me]at h
 |d+1,t,cy,desc,h,hu,xs,ys,w,hx,hy=>by
  simp only[me,hu]at h;have one:∀{s:Sh} {zs:List Value},gB [s] zs->∃v,zs=[v]/\fit s v=true:=by
   intro s zs hz;simp only[gB]at hz;obtain⟨v,jN,rfl,h1,rfl⟩:=hz;exact⟨v,rfl,h1⟩
  cases desc;case bool=>
   simp only[cu]at h;subst h;obtain⟨x,rfl,gx⟩:=one hx;obtain⟨y,rfl,gy⟩:=one hy;cases x<;>first|exact eB gx EB|skip
   cases y<;>first|exact eB gy EB|skip
   simp[AO,cq,nD,veq,Op.equalIn,run_underlying hu]
  case int k=>
   simp only[cu]at h;subst h;obtain⟨x,rfl,gx⟩:=one hx;obtain⟨y,rfl,gy⟩:=one hy;cases x<;>first|exact eB gx EB|skip
   simp only[fit,Zcn]at gx;cases y<;>first|exact eB gy EB|skip
   simp only[fit,Zcn]at gy;subst gx gy;simp[AO,cq,nD,veq,Op.equalIn,run_underlying hu]
  case string=>
   simp only[cu]at h;subst h;obtain⟨x,rfl,gx⟩:=one hx;obtain⟨y,rfl,gy⟩:=one hy;cases x<;>first|exact eB gx EB|skip
   cases y<;>first|exact eB gy EB|skip
   simp[AO,cq,nD,veq,Op.equalIn,run_underlying hu,beq_toListBytes]
  case struct fs=>
   replace h:(if P.stoodInHeld t then none else jj P (me P d) 0 fs.toList)=some cy:=h
   split at h
   ·cases h
   ·rename_i hp;have hfo:P.fieldsOf t=fs:=by simp[Program.fieldsOf,hu]
    simp only[AO,cq,jP];rw[run_equalIn_struct w d t _ _ (by rw[hfo];exact hu) (by simpa using hp),hfo];have:=HU (λt cy desc=>tr d t cy desc) (λt cy hs=>by
     cases d with
     |zero=>simp[me]at hs
     |succ d=>exact Dv hs) xs ys fs.toList 0 cy w h (by simpa using hx) (by simpa using hy) (by omega) (by omega)
    simpa using this
  case array n e=>
   replace h:(match me P d e,P.info? e with
    |some s,some i=>if s.length=i.size/\0<i.size then some ((List.replicate n s).flatten)else none
    |_,_=>none)=some cy:=h
   split at h
   ·rename_i s i hs hi;split at h
    ·rename_i hc;simp only[cu]at h;subst h;have hde:∃desc,P.underlying e=some desc/\(cq desc=true\/s.length=1):=by
      cases d with
      |zero=>simp[me]at hs
      |succ d=>exact Dv hs
     obtain⟨de,hd,h1⟩:=hde;rw[hc.1]at h1;have:=ZT hd hi h1 hc.1 hc.2 (λxs ys w=>tr d e s de hs hd xs ys w) xs ys n 0 w (by simpa using hx) (by simpa using hy);simp only[AO,cq,jP,Op.equalIn,Sem.run_bind,run_underlying hu,Result.andThen_ok,run_sizeOf hi,Std.Legacy.Range.forIn_eq_forIn_range',Std.Legacy.Range.size,Zcq,ZcQ,Nat.div_one];simp only[Zc4,ZcD]at this;refine(congrArg (λr=>Result.andThen r _) this).trans ?_;cases nD xs ys<;>rfl
    ·cases h
   ·cases h
  all_goals exact eB h (by simp)
end
end
section
def tu(l:List (Nat×Operand))(Sl:Nat->Option (Nat×Nat)):Option (List (Nat×Nat×bW)):=
 l.mapM λp=>do
  let q<-Sl p.1
  let x<-bW.of p.2
  pure (q.1,q.2,x)
def EC(P:Program)(t:TypeId):Option (Nat->Option (Nat×Nat)):=
 match P.underlying t with
 |some (.struct ZU)=>(ZU.toList.mapM λf=>(P.info? f.type).map λi=>(f.offset,i.size)).map λpl k=>pl[k]?
 |some (.array _ e)=>(P.info? e).map λie k=>some (k*ie.size,ie.size)
 |_=>none
def ED:Option Operand->Option (Option bW)
 |none=>some none
 |some x=>(bW.of x).map some
def zb:TypeDesc->bW->Option Nat
 |.slice _,.ia .aX=>some 0
 |.pointer _,.ia (.v (.pO (.pointer none)))=>some 1
 |.func _ _ _,.ia (.v (.pO .nilFunc))=>some 2
 |_,_=>none
def iG(P:Program)(k:TypeId):Option (List Sh×Bool):=
 match P.underlying k,me P 10000 k with
 |some d,some s=>some (s,cq d)
 |_,_=>none
def HV(P:Program)(e:TypeId):Option DV:=do
 let i<-P.info? e
 let z<-i.zero
 match z with
 |.agg cs=>(cs.toList.mapM nC).map .agg
 |z=>nC z
def nE(P:Program)(op:BinOp)(t:TypeId)(x y:bW):Option sV:=
 match P.underlying t with
 |some (.int _)=>match op with
  |.add|.sub|.mul|.quo|.rem|.eql|.neq|.lss|.leq|.gtr|.geq|.shl|.shr|.and|.or|.xor=>some (.bin op x y)
  |_=>none
 |some d=>match op,me P 10000 t with
  |.eql,some cy=>if P.eqGuardType P.depth t then none else some (.eqT false (cq d) cy x y)
  |.neq,some cy=>if P.eqGuardType P.depth t then none else some (.eqT true (cq d) cy x y)
  |.eql,none=>(zb d y).map λk=>.isNil k false x
  |.neq,none=>(zb d y).map λk=>.isNil k true x
  |_,_=>none
 |none=>none
def eR(P:Program)(c:Call):Option sV:=
 match c.callee with
 |.value (.func f)=>match P.funcs[f]? with
  |some fn=>if fn.name= "runtime.NumGoroutine" \/fn.body.isNone then none else(c.args.toList.mapM bW.of).map (.call f)
  |none=>none
 |.value (.tmp t)=>(c.args.toList.mapM bW.of).map (.callv (.tmp t))
 |.builtin .len=>match c.args.toList,c.argTypes.toList with
  |[x],[t]=>match P.underlying t with
   |some (.slice _)=>(bW.of x).map .len
   |some .string=>(bW.of x).map .lenS
   |some (.map _ _)=>(bW.of x).map .lenM
   |_=>none
  |_,_=>none
 |.builtin .copy=>match c.args.toList,c.argTypes.toList with
  |[x,y],[t,_]=>match P.underlying t with
   |some (.slice e)=>match P.info? e with
    |some i=>do return .copy i.size (<-bW.of x) (<-bW.of y)
    |none=>none
   |_=>none
  |_,_=>none
 |.builtin .delete=>match c.args.toList,c.argTypes.toList with
  |[x,k],t::_=>match P.underlying t with
   |some (.map kt _)=>match iG P kt with
    |some ki=>do return .mapDel ki.1 ki.2 (<-bW.of x) (<-bW.of k)
    |none=>none
   |_=>none
  |_,_=>none
 |.builtin .min=>match c.args.toList with
  |[x,y]=>do return .minmax false (<-bW.of x) (<-bW.of y)
  |_=>none
 |.builtin .max=>match c.args.toList with
  |[x,y]=>do return .minmax true (<-bW.of x) (<-bW.of y)
  |_=>none
 |.builtin .append=>match c.args.toList,c.argTypes.toList with
  |[x,y],[t,t']=>if t≠t' then none else match P.underlying t with
   |some (.slice e)=>match P.info? e with
    |some i=>match i.zero with
     |some z=>if z.cells.size=i.size/\0<i.size then do return .append e i.size i.bytes (<-bW.of x) (<-bW.of y)else none
     |none=>none
    |none=>none
   |_=>none
  |_,_=>none
 |_=>none
def dI(P:Program)(o:Oper):Option sV:=
 match o.op with
 |.move x|.assign x=>(bW.of x).map .sh
 |.pick c a b=>do return .pick (<-bW.of c) (<-bW.of a) (<-bW.of b)
 |.alloc e=>do
  let i<-P.info? e
  let z<-i.zero
  return .alloc (<-z.cells.toList.mapM nC)
 |.box _ x=>(bW.of x).map .box
 |.build t parts=>do
  let i<-P.info? t
  let z<-i.zero
  let zs<-z.cells.toList.mapM nC
  let pl<-EC P t
  return .build zs (<-tu parts.toList pl)
 |.buildSlice t len parts=>
  match P.underlying t with
  |some (.slice e)=>do
   let ei<-P.info? e
   if len*ei.size>2^24\/ei.size=0 then none else
   let z<-ei.zero
   let zs<-(((Array.range (len*ei.size)).map (z.cells[· % z.cells.size]!)).toList).mapM nC
   return .bslice len ei.size zs (<-tu parts.toList λk=>some (k*ei.size,ei.size))
  |_=>none
 |.load t a=>match P.underlying t,P.info? t with
  |some d,some i=>(bW.of a).map (.load i.size (cq d))
  |_,_=>none
 |.store t a x=>do
  let i<-P.info? t
  return .store i.size (<-bW.of a) (<-bW.of x)
 |.nilCheck x=>(bW.of x).map .nilCheck
 |.binOp op t x y _=>do nE P op t (<-bW.of x) (<-bW.of y)
 |.unOp op _ x=>(bW.of x).map (.un op)
 |.convert src dst x=>match P.underlying src,P.underlying dst with
  |some (.int _),some (.int k)=>(bW.of x).map (.conv k)
  |_,_=>none
 |.fieldAddr s x f=>match P.underlying s with
  |some (.struct fs)=>match fs[f]? with
   |some fd=>match P.info? fd.type with
    |some fi=>if fi.size=0 then none else(bW.of x).map (.addOff fd.offset)
    |none=>none
   |none=>none
  |_=>none
 |.field s x f=>match P.underlying s with
  |some (.struct fs)=>match fs[f]? with
   |some fd=>match P.info? fd.type,P.underlying fd.type with
    |some fi,some d=>(bW.of x).map (.field fd.offset fi.size (cq d))
    |_,_=>none
   |none=>none
  |_=>none
 |.indexAddr t x ix=>match P.underlying t with
  |some (.slice e)=>match P.info? e with
   |some i=>do return .idxAddr i.size (<-bW.of x) (<-bW.of ix)
   |none=>none
  |some (.array n e)=>match P.info? e with
   |some i=>do return .arrAddr n i.size (<-bW.of x) (<-bW.of ix)
   |none=>none
  |_=>none
 |.slice t x lo hi none=>match P.underlying t with
  |some (.slice e)=>match P.info? e with
   |some i=>do return .slice i.size (<-bW.of x) (<-ED lo) (<-ED hi)
   |none=>none
  |_=>none
 |.extract t i=>(bW.of t).map (.extract i)
 |.makeSlice t l c=>match P.underlying t with
  |some (.slice e)=>match P.info? e with
   |some i=>match i.zero with
    |some z=>match l,c with
     |.tmp a,.tmp b=>if a=b/\0<i.size then do return .mkSlice e i.size i.bytes (<-z.cells.toList.mapM tn) (.tmp a)else none
     |.const (.int k a),.const (.int k' b)=>if a=b/\k=k'/\0<i.size then do return .mkSlice e i.size i.bytes (<-z.cells.toList.mapM tn) (.ia (.v (.int k a)))else none
     |_,_=>none
    |none=>none
   |none=>none
  |_=>none
 |.makeFunc f first ch=>if first.isEmpty then do return .mkFn f (<-ch.toList.mapM bW.of)else none
 |.call c=>eR P c
 |.makeMap t none=>match P.underlying t with
  |some (.map kt _)=>(iG P kt).map λki=>.mkMap ki.1 ki.2
  |_=>none
 |.lookup t x k ok=>match P.underlying t with
  |some (.map kt e)=>match iG P kt,HV P e with
   |some ki,some z=>do return .lookup ki.1 ki.2 z ok (<-bW.of x) (<-bW.of k)
   |_,_=>none
  |_=>none
 |.mapUpdate t x k y=>match P.underlying t with
  |some (.map kt _)=>match iG P kt with
   |some ki=>do return .mapUpd ki.1 ki.2 (<-bW.of x) (<-bW.of k) (<-bW.of y)
   |none=>none
  |_=>none
 |.mapEntry t x k=>match P.underlying t with
  |some (.map kt e)=>match iG P kt,HV P e with
   |some ki,some z=>do return .mapEnt ki.1 ki.2 z (<-bW.of x) (<-bW.of k)
   |_,_=>none
  |_=>none
 |.entryStore _ x s y=>do return .entSt (<-bW.of x) (<-bW.of s) (<-bW.of y)
 |.range t x=>match P.underlying t with
  |some (.map _ _)=>(bW.of x).map .rangeM
  |_=>none
 |.entry x=>(bW.of x).map .entryM
 |.index t x i=>match P.underlying t with
  |some .string=>do return .indexS (<-bW.of x) (<-bW.of i)
  |_=>none
 |.panic _|.makeInterface .. =>some .fail
 |_=>none
section
variable{w:World}{W:fH}{ab:bq}{L:Loc}
def HW(off:Nat):∀(vs:List Value) (j0:Nat) (cs:Array Value),off+j0+vs.length<=cs.size->
  (vs.zipIdx j0).foldl (λcs (x:Value×Nat)=>cs.setIfInBounds (off+x.2) x.1) cs=(cG cs.toList (off+j0) vs).toArray
 |[],j0,cs,_=>by simp[cG]
 |v::vs,j0,cs,h=>by
  simp only[Lr]at h;simp only[Zc2,Ca];rw[HW off vs (j0+1) _ (by simp;omega)]
  congr 1
  simp only[cG,Array.toList_setIfInBounds,Lr];have e:=list_seg_step cs.toList (off+j0) v vs (by simp;omega);simpa [fq]using e
def EE{a:Act}{ρ:dj}(hg:Hk w (WW W ab L))(jU:∀t,aA w W ab L (ρ t) (a.tmps.getD t Go.undef)){Sl:Nat->Option (Nat×Nat)}:∀(ps:List (Nat×Operand)) (qs:List (Nat×Nat×bW)),tu ps Sl=some qs->
  ∀(cells:Array Value) (ds:bF),aR w W ab L ds cells.toList->u6 cells.size (qs.map λp=>(p.1,p.2.1,p.2.2.ev ρ))->
   ∃EF,Instr.fill Sl cells (ps.map λp=>(p.1,a.eval p.2))=some EF/\aR w W ab L (wY ds (qs.map λp=>(p.1,p.2.1,p.2.2.ev ρ))) EF.toList/\EF.size=cells.size
 |[],qs,h,cells,ds,hd,_=>by
  simp[tu]at h;subst h;exact⟨cells,rfl,by simpa [wY]using hd,rfl⟩
 |p::ps,qs,h,cells,ds,hd,aN=>by
  simp only[tu,Lp,mb,kP,jG,cu]at h;obtain⟨q,⟨pl,Xh,x,hx,rfl⟩,qs',hqs,rfl⟩:=h;simp only[qD,u6]at aN;obtain⟨hl,Ev,Dt,LZ⟩:=aN;have hv:=bW.bX hg jU hx;have oT:=rQ hv Dt;have aV:(a.eval p.2).cells.size=pl.2:=by have:=aR.length oT;simpa [hl]using this
  have EG:((a.eval p.2).cells.zipIdx.foldl (λcs (x:Value×Nat)=>cs.setIfInBounds (pl.1+x.2) x.1) cells)=(cG cells.toList pl.1 (a.eval p.2).cells.toList).toArray:=by
   rw[<-Array.foldl_toList,Array.toList_zipIdx];have:=HW pl.1 (a.eval p.2).cells.toList 0 cells (by simp[aV];omega);simpa using this
  have hd':aR w W ab L (cG ds pl.1 (cellsOf (x.ev ρ))) (cG cells.toList pl.1 (a.eval p.2).cells.toList).toArray.toList:=by
   simpa using aR.cG pl.1 hd oT
  have ji:(cG cells.toList pl.1 (a.eval p.2).cells.toList).toArray.size=cells.size:=by
   have:=iv (l:=cells.toList) (new:=(a.eval p.2).cells.toList) (off:=pl.1) (by simp[aV];omega);simpa using this
  obtain⟨EF,h1,h2,h3⟩:=EE hg jU ps qs' (by simpa [tu]using hqs) _ _ hd' (by rw[ji];exact LZ);refine⟨EF, ?_,by simpa only[qD,wY]using h2,h3.trans ji⟩;simp only[qD,Instr.fill,Xh,aV];rw[aZ (by simp;omega),EG];exact h1
def vk{P:Program}(w:World){t e:TypeId}{i:TypeInfo}{z:Value}(ht:P.underlying t=some (.slice e))(hi:P.info? e=some i)(hz:i.zero=some z)(len:Nat)(dN:¬len*i.size>2^24){parts:Array (Nat×Value)}{cells:Array Value}
  (h:Instr.fill (λk=>some (k*i.size,i.size)) ((Array.range (len*i.size)).map (z.cells[· % z.cells.size]!)) parts.toList=some cells):
  (Instr.buildSlice t len parts).run P w=.ok (.slice (some ⟨w.heap.size,0,none⟩) len len) (w.alloc (.cells cells e)):=by
 by_cases h0:len*i.size=0
 ·have h':Instr.fill (λk=>some (k*i.size,i.size)) #[] parts.toList=some cells:=by
   rw[h0]at h;simpa [Array.range_zero']using h
  simp[Instr.buildSlice,run_underlying ht,run_sizeOf hi,h0,h',newRow,Array.range_zero']
 ·simp[Instr.buildSlice,run_underlying ht,run_sizeOf hi,zeroValue,typeInfo,hi,hz,h0,dN,h,newRow]
end
end
end Go.DM
namespace Go.DM
open Go.RowKit
section
variable{d1 d2 d:DV}{xv yv:Value}
variable [bM]
def cO(P:Program)(base:Nat)(W M:fH)(w0:World)(ab:bq)(L:Loc)(w:World)(a:Act)(o:Oper)(e:si):Prop:=
 ∃nx v w' L',(execOp a.eval o).run P w=.ok nx w'/\(nx=.value v\/(nx=.skip/\v=Go.undef))/\
  cC base W M w0 (cN ab e.put) w' L'/\ic W ab L w (cN ab e.put) L' w'/\aA w' W (cN ab e.put) L' e.val v
section
variable{P:Program}{base:Nat}{W M:fH}{w0:World}{ab:bq}{L:Loc}{w:World}{a:Act}{o:Oper}
def cO.mC(hO:cC base W M w0 ab w L){e:si}(pV:e.put=none){v:Value}(ce:(execOp a.eval o).run P w=.ok (.value v) w)(hv:aA w W ab L e.val v):cO P base W M w0 ab L w a o e:=
 ⟨.value v,v,w,L,ce,.inl rfl,by rw[pV];exact hO,by rw[pV];exact ic.cZ (dv.refl _ _),by rw[pV];exact hv⟩
def cO.int(hO:cC base W M w0 ab w L){e:si}(pV:e.put=none){k:IntKind}{n:Int}(dd:e.val=.v (.int k n))(ce:(execOp a.eval o).run P w=.ok (.value (.int k n)) w):cO P base W M w0 ab L w a o e:=
 cO.mC hO pV ce (by rw[dd];simp[aA,bm])
def cO.bool(hO:cC base W M w0 ab w L){e:si}(pV:e.put=none){b:Bool}(dd:e.val=.v (.bool b))(ce:(execOp a.eval o).run P w=.ok (.value (.bool b)) w):cO P base W M w0 ab L w a o e:=
 cO.mC hO pV ce (by rw[dd];simp[aA,bm])
def Xi(hO:cC base W M w0 ab w L){op:BinOp}{t:TypeId}{x y:Operand}{yt:TypeId}(ho:o.op=.binOp op t x y yt)(h1:aA w W ab L d1 (a.eval x))(h2:aA w W ab L d2 (a.eval y))(aN:(u7 op d1 d2).ok):
  cO P base W M w0 ab L w a o (u7 op d1 d2):=by
 have key:∀{k k':IntKind} {p q:Int},d1=.v (.int k p)->d2=.v (.int k' q)->cO P base W M w0 ab L w a o (u7 op d1 d2):=by
  rintro k k' p q rfl rfl;simp only[aA,bm]at h1 h2;have EH:∀(v:Value),(eqGuard op t x y (.int k p) (.int k' q)).run P w=.ok () w->(binOp op t (.int k p) (.int k' q)).run P w=.ok v w->(execOp a.eval o).run P w=.ok (.value v) w:=by
   intro v e1 e2;simp[execOp,ho,h1,h2,e1,e2]
  have hg:(eqGuard op t x y (.int k p) (.int k' q)).run P w=.ok () w:=by cases op<;>simp[eqGuard]
  cases op<;>simp only[u7,da]at aN⊢
  all_goals first
   |exact aN.elim
   |(subst aN;first
     |(refine cO.int hO rfl rfl (EH _ hg ?_);simp[binOp,Op.intArith];done)
     |(refine cO.int hO rfl rfl (EH _ hg ?_);simp[binOp,Op.intBits];done)
     |(refine cO.bool hO rfl rfl (EH _ hg ?_);simp[binOp,Op.intCmp];done)
     |(refine cO.bool hO rfl rfl (EH _ hg ?_);simp[binOp,Op.intCmp];rfl))
   |(refine cO.int hO rfl rfl (EH _ hg ?_);simp[binOp,shift_shl_any _ _ _ _ aN,shift_shr_any _ _ _ _ aN];done)
   |(obtain⟨rfl,hq⟩:=aN;exact cO.int hO rfl rfl (EH _ hg (by simp[binOp,Op.intDiv,hq])))
 unfold u7 at aN;split at aN
 ·exact key rfl rfl
 ·exact aN.elim
def Jn{x:Value}{cs:bF}(h:aA w W ab L d x)(hc:oj d=some cs):∃vs:Array Value,x=.agg vs/\aR w W ab L cs vs.toList:=by
 cases d with
 |v t=>
  cases t with
  |agg ts=>
   simp only[oj,cu]at hc;subst hc;simp only[aA,bm]at h;obtain⟨vs,rfl,hr⟩:=h;exact⟨vs,rfl,aR.tl hr⟩
  |_=>simp[oj]at hc
 |agg ds=>
  simp only[oj,cu]at hc;subst hc;simp only[aA]at h;exact h
 |_=>simp[oj]at hc
def L5{s:TypeId}{f:Nat}{fs:Array Field}{fd:Field}{i:TypeInfo}{desc:TypeDesc}(hs:P.underlying s=some (.struct fs))(hf:fs[f]? =some fd)(hi:P.info? fd.type=some i)(hd:P.underlying fd.type=some desc)
   (h:aA w W ab L d xv) (aN:(pP fd.offset i.size (cq desc) d).ok):
  (pP fd.offset i.size (cq desc) d).put=none/\∃v,(Instr.field s xv f).run P w=.ok v w/\aA w W ab L (pP fd.offset i.size (cq desc) d).val v:=by
 unfold pP at aN⊢;cases hc:oj d with
 |none=>simp[hc,da]at aN
 |some cs=>
  simp only[hc]at aN⊢;obtain⟨vs,rfl,hr⟩:=Jn h hc;have hl:=aR.length hr;have hp:=oq (P:=P) w hd hi (xs:=vs.toList) (off:=fd.offset) aN.2 (by omega);simp only[ZcH]at hp;refine⟨trivial,_,by simp[Instr.field,run_underlying hs,hf,asAgg,hp];rfl, ?_⟩;by_cases ha:cq desc=true
  ·simp only[ha,jP,AO,aA];exact⟨_,rfl,by simpa using aR.take i.size (aR.drop fd.offset hr)⟩
  ·have h1:i.size=1:=aN.2.resolve_left ha;have ef:fd.offset<cs.length:=by omega
   obtain⟨v,ux,_,gS⟩:=aR.get hr (i:=fd.offset) (d:=cs[fd.offset]) (by simp[ef]);have e1:(List.take i.size (List.drop fd.offset vs.toList)).getD 0 Go.undef=v:=by
    rw[h1];simp only[List.getD,HR,ZbT,ZA,ux];simp
   have e2:cs.getD fd.offset .undef=cs[fd.offset]:=by simp[List.getD,ef]
   simp only[ha,AO,e1,e2];exact gS
def Jo{k:Nat}(h:aA w W ab L d xv)(aN:(iK k d).ok):
  (iK k d).put=none/\∃b o,xv=.pointer (some ⟨b,o,none⟩)/\aA w W ab L (iK k d).val (.pointer (some ⟨b,o+k,none⟩)):=by
 cases d with
 |ptr r off=>
  simp only[aA]at h;obtain⟨hc,rfl⟩:=h;exact⟨rfl,_,_,rfl,by simp only[iK,aA];exact⟨hc,trivial⟩⟩
 |mV av i off=>
  simp only[aA]at h;obtain⟨b,o,sz,rfl,rest⟩:=h;exact⟨rfl,_,_,rfl,by simp only[iK,aA];exact⟨b,o,sz,by rw[fq],rest⟩⟩
 |jd cs off=>
  simp only[aA]at h;obtain⟨b,o,rfl,rest⟩:=h;exact⟨rfl,_,_,rfl,by simp only[iK,aA];exact⟨b,o,by rw[fq],rest⟩⟩
 |kO r bJ i off=>
  simp only[aA]at h;obtain⟨⟨b,o,rfl⟩,cw,e,sz,av,ho,jW,hx⟩:=h;refine⟨rfl,_,_,rfl, ?_⟩;simp only[iK,aA];refine⟨⟨_,_,rfl⟩,cw,e,sz,av,ho,jW,λhv=>?_⟩;obtain⟨g,hg,hp,h0,h1⟩:=hx hv;simp only[Value.pointer.injEq,cu,Addr.mk.injEq,OY]at hp;exact⟨g,hg,by rw[hp.1,hp.2,fq],h0,h1⟩
 |v t=>
  cases t with
  |box cs=>
   simp only[aA,bm]at h;obtain⟨b,o,rfl,rest⟩:=h;exact⟨rfl,_,_,rfl,by simp only[iK,aA];exact⟨b,o,rfl,rest⟩⟩
  |_=>exact aN.elim
 |_=>exact aN.elim
def EI(h:aA w W ab L d xv)(aN:(lP d).ok):
  (lP d).put=none/\(lP d).val=d/\((∃p,xv=.pointer (some p))\/∃f ch,xv=.func (.func f) #[] ch):=by
 cases d with
 |ptr r off=>simp only[aA]at h;obtain⟨_,rfl⟩:=h;exact⟨rfl,rfl,.inl ⟨_,rfl⟩⟩
 |mV av i off=>simp only[aA]at h;obtain⟨b,o,sz,rfl,_⟩:=h;exact⟨rfl,rfl,.inl ⟨_,rfl⟩⟩
 |jd cs off=>simp only[aA]at h;obtain⟨b,o,rfl,_⟩:=h;exact⟨rfl,rfl,.inl ⟨_,rfl⟩⟩
 |kO r bJ i off=>simp only[aA]at h;obtain⟨⟨b,o,rfl⟩,_⟩:=h;exact⟨rfl,rfl,.inl ⟨_,rfl⟩⟩
 |v t=>
  cases t with
  |box cs=>simp only[aA,bm]at h;obtain⟨b,o,rfl,_⟩:=h;exact⟨rfl,rfl,.inl ⟨_,rfl⟩⟩
  |fn f ch=>
   cases f with
   |func f=>simp only[aA,bm]at h;obtain⟨vs,rfl,_⟩:=h;exact⟨rfl,rfl,.inr ⟨_,_,rfl⟩⟩
   |_=>exact aN.elim
  |_=>exact aN.elim
 |_=>exact aN.elim
def Xj{t e:TypeId}{i:TypeInfo}(hO:cC base W M w0 ab w L)(ht:P.underlying t=some (.slice e))(hi:P.info? e=some i)(h:aA w W ab L d xv)(h2:aA w W ab L d2 yv)(aN:(tg i.size ab d d2).ok):
  (tg i.size ab d d2).put=none/\∃v,(Instr.indexAt t xv yv).run P w=.ok v w/\aA w W ab L (tg i.size ab d d2).val v:=by
 have ce:∀(b o n c:Nat) (k:IntKind) (j:Int),0<=j->j<n->(Instr.indexAt t (.slice (some ⟨b,o,none⟩) n c) (.int k j)).run P w=.ok (.pointer (some ⟨b,o+j.toNat*i.size,none⟩)) w:=by
  intro b o n c k j h0 h1;simp[Instr.indexAt,asIntOf,run_underlying ht,h0,h1,run_sizeOf hi,nT]
 unfold tg at aN⊢;split at aN
 ·rename_i av k j;simp only at aN⊢;obtain⟨h0,h1,ji⟩:=aN;simp only[aA,bm]at h h2;subst h2;rcases h with⟨rfl,_⟩|⟨b,o,cap,sz,rfl,hb,hn,hc,hr⟩
  ·simp at h1;omega
  ·have jH:=(bD.row hr (AX h0 h1)).1;have atC:sz=i.size:=by omega
   subst atC;refine⟨trivial,_,ce b o _ _ k j h0 h1, ?_⟩;simp only[aA];exact⟨b,o,_,by rw[ZA],hb,hn,hr,h0,h1⟩
 ·rename_i r bJ k j;cases hc:ab r with
  |none=>simp[hc,da]at aN
  |some ob=>
   cases ob with
   |box cs=>simp[hc,da]at aN
   |map _ _ _ _=>simp[hc,da]at aN
   |cm _ _ _ _=>simp[hc,da]at aN
   |bE cw e' jh av=>
    simp only[hc]at aN⊢;obtain⟨rfl,rfl,h0,h1⟩:=aN;simp only[aA,bm]at h h2;subst h2;obtain⟨_,rO,e2,HP,mA,nA,_,hv⟩:=h;rw[hc]at nA;cases nA;have hv:=hv rfl;subst hv;have gP:=hO.ob r _ hc;obtain⟨ji,eQ,hm,oQ⟩:=gP;rcases oQ with⟨rfl,_⟩|⟨g',cap,eH,ux,hp,hh,jW,tp,Jg,ig⟩
    ·simp at h1;omega
    ·refine⟨trivial,_,by rw[ux];exact ce g' 0 _ _ k j h0 h1, ?_⟩;simp only[aA];exact⟨⟨_,_,rfl⟩,bJ,e',_,av,hc,ed _,λ_=>⟨g',by simp[ux,bi,Hm.1 hp],by simp,h0,h1⟩⟩
 ·rename_i r bJ lo n k j;cases hc:ab r with
  |none=>simp[hc,da]at aN
  |some ob=>
   cases ob with
   |box cs=>simp[hc,da]at aN
   |map _ _ _ _=>simp[hc,da]at aN
   |cm _ _ _ _=>simp[hc,da]at aN
   |bE cw e' jh av=>
    simp only[hc]at aN⊢;obtain⟨rfl,rfl,h0,h1⟩:=aN;simp only[aA,bm]at h h2;subst h2;obtain⟨_,rO,e2,HP,mA,nA,_,hv⟩:=h;rw[hc]at nA;cases nA;have hv:=hv rfl;rcases vf hO hc hv with⟨rfl,_⟩|⟨g,c,AN,rfl,Jp,_⟩
    ·simp at h1;omega
    ·refine⟨trivial,_,ce g _ _ _ k j h0 h1, ?_⟩;have hl:=hv.1;have e1:((lo:Int)+j).toNat=lo+j.toNat:=by omega
     simp only[aA];exact⟨⟨_,_,rfl⟩,bJ,e',_,av,hc,ed _,λ_=>⟨g,AN,by rw[e1,C7];simp,by omega,by omega⟩⟩
 ·rename_i r n k j;simp only[aA,bm]at h h2;subst h2;obtain⟨hc,rfl⟩:=h;obtain⟨h0,h1⟩:=aN;refine⟨rfl,_,ce _ _ _ _ k j h0 h1, ?_⟩;simp only[aA];exact⟨hc,by simp⟩
 ·exact aN.elim
def Hu{t e:TypeId}{i:TypeInfo}{n:Nat}(ht:P.underlying t=some (.array n e))(hi:P.info? e=some i)(h:aA w W ab L d xv)(h2:aA w W ab L d2 yv)(aN:(lF n i.size d d2).ok):
  (lF n i.size d d2).put=none/\∃v,(Instr.indexAt t xv yv).run P w=.ok v w/\aA w W ab L (lF n i.size d d2).val v:=by
 have ce:∀(b o:Nat) (k:IntKind) (j:Int),0<=j->j<n->(Instr.indexAt t (.pointer (some ⟨b,o,none⟩)) (.int k j)).run P w=.ok (.pointer (some ⟨b,o+j.toNat*i.size,none⟩)) w:=by
  intro b o k j h0 h1;by_cases hn:n<=1<;>simp[Instr.indexAt,asIntOf,run_underlying ht,h0,h1,run_sizeOf hi,nT,Instr.sureAddr]
 unfold lF at aN⊢;split at aN
 ·rename_i r off k j;simp only[aA,bm]at h h2;obtain⟨hc,rfl⟩:=h;subst h2;exact⟨rfl,_,ce _ _ k j aN.1 aN.2,by simp only[aA];exact⟨hc,trivial⟩⟩
 ·rename_i av q off k j;simp only[aA,bm]at h h2;obtain⟨b,o,sz,rfl,rest⟩:=h;subst h2;exact⟨rfl,_,ce _ _ k j aN.1 aN.2,by simp only[aA];exact⟨b,o,sz,by rw[fq],rest⟩⟩
 ·rename_i cs off k j;simp only[aA,bm]at h h2;obtain⟨b,o,rfl,rest⟩:=h;subst h2;exact⟨rfl,_,ce _ _ k j aN.1 aN.2,by simp only[aA];exact⟨b,o,by rw[fq],rest⟩⟩
 ·rename_i cs k j;simp only[aA,bm]at h h2;obtain⟨b,o,rfl,rest⟩:=h;subst h2;exact⟨rfl,_,ce _ _ k j aN.1 aN.2,by simp only[aA];exact⟨b,o,rfl,rest⟩⟩
 ·rename_i r bJ q off k j;simp only[aA,bm]at h h2;obtain⟨⟨b,o,rfl⟩,cw,e,sz,av,ho,jW,hx⟩:=h;subst h2;refine⟨rfl,_,ce _ _ k j aN.1 aN.2, ?_⟩;simp only[aA];refine⟨⟨_,_,rfl⟩,cw,e,sz,av,ho,jW,λhv=>?_⟩;obtain⟨g,hg,hp,h0,h1⟩:=hx hv;simp only[Value.pointer.injEq,cu,Addr.mk.injEq,OY]at hp;exact⟨g,hg,by rw[hp.1,hp.2,fq],h0,h1⟩
 ·exact aN.elim
def Xk{x:Operand}{t e:TypeId}(hO:cC base W M w0 ab w L)(ho:o.op=.call {callee:=.builtin .len,args:= #[x],argTypes:= #[t]})(ht:P.underlying t=some (.slice e))(h:aA w W ab L d (a.eval x))(aN:(xG ab d).ok):
  cO P base W M w0 ab L w a o (xG ab d):=by
 have wM:∀(p:Option Addr) (n c:Nat),a.eval x=.slice p n c->(execOp a.eval o).run P w=.ok (.value (.int .i64 n)) w:=by
  rintro p n c hx;simp[execOp,ho,resolve,invoke,builtin,hx,Builtin.len_,run_underlying ht,goInt]
 cases d with
 |v t'=>
  cases t' with
  |sl av=>
   simp only[aA,bm]at h;rcases h with⟨rfl,p,c,hx⟩|⟨b,oo,cap,sz,hx,_⟩
   ·exact cO.int hO rfl rfl (wM _ _ _ hx)
   ·exact cO.int hO rfl rfl (wM _ _ _ hx)
  |_=>exact aN.elim
 |aX=>
  simp only[aA]at h;obtain⟨p,hx⟩:=h;exact cO.int hO rfl rfl (wM _ _ _ hx)
 |bC r bJ=>
  simp only[aA]at h;obtain⟨_,cw,e',sz,av,hc,_,hv⟩:=h;simp only[xG,hc]at aN⊢;have hv:=hv aN;have gP:=hO.ob r _ hc;obtain⟨ji,eQ,hm,oQ⟩:=gP;rcases oQ with⟨rfl,p,hp⟩|⟨g',cap,eH,ux,hp,hh,jW,tp,Jg,ig⟩
  ·exact cO.int hO rfl rfl (wM _ _ _ (hv.trans hp))
  ·exact cO.int hO rfl rfl (wM _ _ _ (hv.trans ux))
 |wa r bJ lo n=>
  simp only[aA]at h;obtain⟨⟨p,c,hx⟩,_⟩:=h;exact cO.int hO rfl rfl (wM _ _ _ hx)
 |Hq r n=>
  simp only[aA]at h;obtain⟨_,hx⟩:=h;exact cO.int hO rfl rfl (wM _ _ _ hx)
 |_=>exact aN.elim
def Pw{x:Operand}{t:TypeId}(hO:cC base W M w0 ab w L)(ho:o.op=.call {callee:=.builtin .len,args:= #[x],argTypes:= #[t]})(ht:P.underlying t=some .string)(h:aA w W ab L d (a.eval x))(aN:(wb d).ok):
  cO P base W M w0 ab L w a o (wb d):=by
 unfold wb at aN⊢;split at aN
 ·simp only[aA,bm]at h;refine cO.int hO rfl rfl ?_;simp[execOp,ho,resolve,invoke,builtin,h,Builtin.len_,run_underlying ht,goInt]
 ·exact aN.elim
def zc{x y:Operand}{ts:Array TypeId}(m:Bool)(hO:cC base W M w0 ab w L)(ho:o.op=.call {callee:=.builtin (if m then .max else .min),args:= #[x,y],argTypes:=ts})(h1:aA w W ab L d1 (a.eval x))(h2:aA w W ab L d2 (a.eval y))(aN:(pC m d1 d2).ok):
  cO P base W M w0 ab L w a o (pC m d1 d2):=by
 unfold pC at aN⊢;split at aN
 ·rename_i k p k' q;simp only[aA,bm]at h1 h2;have alD:k=k':=aN;subst alD;cases m
  ·have e:(if q<p then q else p)=min p q:=by omega
   refine cO.int hO rfl rfl ?_;simp[execOp,ho,resolve,invoke,builtin,h1,h2,run_min_int2,e]
  ·have e:(if q>p then q else p)=max p q:=by omega
   refine cO.int hO rfl rfl ?_;simp only[gt_iff_lt]at e;simp[execOp,ho,resolve,invoke,builtin,h1,h2,run_max_int2,e]
 ·exact aN.elim
def HX{x:Value}{n:Int}(h:aA w W ab L d x)(hi:Er d=some n):∃k,x=.int k n:=by
 unfold Er at hi;split at hi
 ·simp only[cu]at hi;subst hi;simp only[aA,bm]at h;exact⟨_,h⟩
 ·cases hi
def L6(hO:cC base W M w0 ab w L){t e:TypeId}{i:TypeInfo}(ht:P.underlying t=some (.slice e))(hi:P.info? e=some i)(h:aA w W ab L d xv){lo qO:Option DV}{lv hv:Option Value}
  (hlo:(lo=none/\lv=none)\/∃dl vl,lo=some dl/\lv=some vl/\aA w W ab L dl vl) (hhi:(qO=none/\hv=none)\/∃dl vl,qO=some dl/\hv=some vl/\aA w W ab L dl vl)
  (aN:(jZ i.size lo qO ab d).ok):
  (jZ i.size lo qO ab d).put=none/\∃v,(Instr.sliceAt t xv lv hv none).run P w=.ok v w/\aA w W ab L (jZ i.size lo qO ab d).val v:=by
 have ce:∀(p:Option Addr) (n c:Nat) (l hh:Int),0<=l->l<=hh->hh<=n->n<=c->(lv=none/\l=0\/∃k,lv=some (.int k l))->(hv=none/\hh=n\/∃k,hv=some (.int k hh))->
   (Instr.sliceAt t (.slice p n c) lv hv none).run P w=.ok (.slice (if c=l.toNat then p else p.map (·.add (l.toNat*i.size))) (hh.toNat-l.toNat) (c-l.toNat)) w:=by
  intro p n c l hh h0 h1 h2 h3 hl hh';have b2:hh<=c:=by omega
  have b3:0<=hh:=by omega
  have b4:l<=(hh.toNat:Int):=by omega
  have b5:((hh.toNat:Nat):Int)=hh:=by omega
  rcases hl with⟨rfl,rfl⟩|⟨k,rfl⟩<;>rcases hh' with⟨rfl,rfl⟩|⟨k',rfl⟩
  ·simp[Instr.sliceAt,Instr.slice,run_underlying ht,Instr.sliceBounds,run_sizeOf hi]
  ·simp[Instr.sliceAt,Instr.slice,run_underlying ht,Instr.sliceBounds,run_sizeOf hi,Instr.sliceBound,asIntOf,b2,b3]
  ·have b6:l<=(n:Int):=h1;simp[Instr.sliceAt,Instr.slice,run_underlying ht,Instr.sliceBounds,run_sizeOf hi,Instr.sliceBound,asIntOf,b6,h0]
  ·simp[Instr.sliceAt,Instr.slice,run_underlying ht,Instr.sliceBounds,run_sizeOf hi,Instr.sliceBound,asIntOf,b2,b3,h0,b5,h1]
 have ZV:∀{l:Int},Es lo=some l->(lv=none/\l=0\/∃k,lv=some (.int k l)):=by
  intro l hl;rcases hlo with⟨rfl,rfl⟩|⟨dl,vl,rfl,rfl,hr⟩
  ·simp only[Es,cu]at hl;exact .inl ⟨rfl,hl.symm⟩
  ·obtain⟨k,rfl⟩:=HX hr hl;exact .inr ⟨k,rfl⟩
 have dd:∀{n:Int} {l:Int},Et n qO=some l->(hv=none/\l=n\/∃k,hv=some (.int k l)):=by
  intro n l hl;rcases hhi with⟨rfl,rfl⟩|⟨dl,vl,rfl,rfl,hr⟩
  ·simp only[Et,cu]at hl;exact .inl ⟨rfl,hl.symm⟩
  ·obtain⟨k,rfl⟩:=HX hr hl;exact .inr ⟨k,rfl⟩
 cases d with
 |v t'=>
  cases t' with
  |sl av=>
   simp only[jZ]at aN⊢;cases el:Es lo with
   |none=>simp[el,da]at aN
   |some l=>
    cases eh:Et av.length qO with
    |none=>simp[el,eh,da]at aN
    |some hh=>
     simp only[el,eh]at aN⊢;obtain⟨h0,h1,h2,ji⟩:=aN;refine⟨trivial, ?_⟩;simp only[aA,bm]at h;have dN:((av.take hh.toNat).drop l.toNat).length=hh.toNat-l.toNat:=by simp;omega
     rcases h with⟨rfl,p,c,rfl⟩|⟨b,oo,cap,sz,rfl,hb,hn,hc,hr⟩
     ·have z1:hh=0:=by simp at h2;omega
      have z2:l=0:=by omega
      subst z1 z2;refine⟨_,ce p 0 c 0 0 h0 h1 (by omega) (by omega) (ZV el) (dd eh), ?_⟩;simp only[aA,bm];exact .inl ⟨by simp,_,_,rfl⟩
     ·refine⟨_,ce _ _ cap l hh h0 h1 h2 hc (ZV el) (dd eh), ?_⟩;simp only[aA,bm];by_cases Dt:cap=l.toNat
      ·refine .inl ⟨?_,_,_,by rw[show hh.toNat-l.toNat=0 by omega]⟩;apply LS;omega
      ·refine .inr ⟨b,oo+l.toNat*i.size,cap-l.toNat,i.size, ?_,hb,hn,by omega, ?_⟩
       ·rw[dN,aZ Dt];simp[nT]
       ·refine bD.Dr _ _ λj r hj=>?_;rw[ZbT,HR]at hj;split at hj
        ·have jH:=bD.row hr hj;have A1:=ji r (xL hj);have:sz=i.size:=by omega
         subst this;refine⟨A1, ?_⟩;have e2:oo+l.toNat*i.size+j*i.size=oo+(l.toNat+j)*i.size:=by rw[C7];omega
         rw[e2];exact jH.2
        ·cases hj
  |_=>exact aN.elim
 |aX=>
  simp only[jZ]at aN⊢;cases el:Es lo with
  |none=>simp[el,da]at aN
  |some l=>
   cases eh:Et 0 qO with
   |none=>simp[el,eh,da]at aN
   |some hh=>
    simp only[el,eh]at aN⊢;obtain⟨rfl,rfl⟩:=aN;refine⟨trivial, ?_⟩;simp only[aA]at h;obtain⟨p,rfl⟩:=h;refine⟨_,ce p 0 0 0 0 (ZcK _) (ZcK _) (by omega) (ed _) (ZV el) (dd eh), ?_⟩;simp[aA]
 |bC r bJ=>
  simp only[jZ]at aN⊢;cases hc:ab r with
  |none=>simp[hc,da]at aN
  |some ob=>
   cases ob with
   |bE cw e' jh av=>
    simp only[hc]at aN⊢;cases el:Es lo with
    |none=>simp[el,da]at aN
    |some l=>
     cases eh:Et av.length qO with
     |none=>simp[el,eh,da]at aN
     |some hh=>
      simp only[el,eh]at aN⊢;obtain⟨rfl,rfl,h0,h1,h2⟩:=aN;refine⟨trivial, ?_⟩;simp only[aA]at h;obtain⟨_,rO,e2,HP,mA,nA,_,nU⟩:=h;rw[hc]at nA;cases nA;have nU:=nU rfl;subst nU;obtain⟨_,_,_,oQ⟩:=hO.ob r _ hc;have wM:∃p cap,L.sl r=.slice p av.length cap/\av.length<=cap:=by
       rcases oQ with⟨rfl,a,ha⟩|⟨g,cap,eH,k1,k2,k3,k4,_⟩
       ·exact⟨a,0,ha,ed _⟩
       ·exact⟨_,cap,k1,k4⟩
      obtain⟨p,cap,wM,tp⟩:=wM;refine⟨_,by rw[wM];exact ce p av.length cap l hh h0 h1 h2 tp (ZV el) (dd eh), ?_⟩;simp only[aA];exact⟨⟨_,_,rfl⟩,bJ,e',_,av,hc,ed _,λ_=>⟨by omega,p,cap,_,wM,rfl,λef=>by rw[aZ (by omega)]⟩⟩
   |_=>simp[hc,da]at aN
 |wa r bJ lo0 n=>
  simp only[jZ]at aN⊢;cases hc:ab r with
  |none=>simp[hc,da]at aN
  |some ob=>
   cases ob with
   |bE cw e' jh av=>
    simp only[hc]at aN⊢;cases el:Es lo with
    |none=>simp[el,da]at aN
    |some l=>
     cases eh:Et n qO with
     |none=>simp[el,eh,da]at aN
     |some hh=>
      simp only[el,eh]at aN⊢;obtain⟨rfl,rfl,h0,h1,h2⟩:=aN;refine⟨trivial, ?_⟩;simp only[aA]at h;obtain⟨_,rO,e2,HP,mA,nA,_,nU⟩:=h;rw[hc]at nA;cases nA;obtain⟨LR,p,cap,p2,wM,rfl,Ji⟩:=nU rfl;obtain⟨_,_,_,oQ⟩:=hO.ob r _ hc;have tp:av.length<=cap/\∀q,p=some q->0<cap->∃g,q=⟨g,0,none⟩:=by
       rcases oQ with⟨rfl,a,ha⟩|⟨g,aoT,eH,k1,k2,k3,k4,_⟩
       ·exact⟨by simp,λq hq Ze=>by rw[wM]at ha;cases ha;omega⟩
       ·rw[wM]at k1;cases k1;exact⟨k4,λq hq _=>⟨g,by simpa using hq.symm⟩⟩
      refine⟨_,ce p2 n (cap-lo0) l hh h0 h1 h2 (by omega) (ZV el) (dd eh), ?_⟩;simp only[aA];refine⟨⟨_,_,rfl⟩,bJ,e',_,av,hc,ed _,λ_=>⟨by omega,p,cap,_,wM,by rw[Nat.sub_sub],λef=>?_⟩⟩;rw[aZ (by omega),Ji (by omega)];cases p with
      |none=>rfl
      |some q=>
       obtain⟨g,rfl⟩:=tp.2 q rfl (by omega);simp[nT,C7]
   |_=>simp[hc,da]at aN
 |_=>exact aN.elim
end
end
section
variable{W':fH}{cy:List Sh}{agg:Bool}{es:List (Nat×T×DV)}
variable [bM]
section
variable{P:Program}{base:Nat}{W M:fH}{w0:World}{ab:bq}{L:Loc}{w:World}{a:Act}{o:Oper}
def jD{W':fH}:∀{cy:List Sh} {ts:aL} {vs:List Value},eZ cy ts->bl w W' ts vs->gB cy vs
 |[],ts,vs,h,hr=>by
  simp only[eZ]at h;subst h;simpa [bl,gB]using hr
 |s::ss,[],vs,h,_=>by simp[eZ]at h
 |s::ss,t::ts,vs,h,hr=>by
  simp only[eZ]at h;simp only[bl]at hr;obtain⟨v,jN,rfl,_,h2,hr⟩:=hr;simp only[gB];refine⟨v,jN,rfl, ?_,jD h.2 hr⟩;have h1:=h.1;cases s<;>cases t<;>first|exact eB h1 EB|skip
  all_goals (simp only[bm]at h2;subst h2;first|rfl|exact h1)
def L8{s:Sh}{t u:T}{x y:Value}(ht:I9 s t=true)(hu:I9 s u=true)(hx:bm w W' t x)(hy:bm w W' u y):ib t u=veq x y:=by
 cases s<;>cases t<;>(first|exact eB ht EB|skip)<;>cases u<;>(first|exact eB hu EB|skip)
 all_goals (simp only[bm]at hx hy;subst hx hy;simp only[ib,veq])
 ·rfl
 ·rename_i s1 s2;by_cases h:s1=s2
  ·subst h;simp
  ·have b7:s1.toList≠s2.toList:=λe=>h (by
    rw[ByteArray.toList_eq,ByteArray.toList_eq]at e;obtain⟨d1⟩:=s1;obtain⟨d2⟩:=s2;exact congrArg ByteArray.mk (Array.ext' e))
   simp[h,b7]
def A3{W':fH}:∀{cy:List Sh} {ts us:aL} {xs ys:List Value},eZ cy ts->eZ cy us->bl w W' ts xs->bl w W' us ys->uu ts us=nD xs ys
 |[],ts,us,xs,ys,h1,h2,hx,hy=>by
  simp only[eZ]at h1 h2;subst h1 h2;simp only[bl]at hx hy;subst hx hy;rfl
 |s::ss,[],_,_,_,h,_,_,_=>by simp[eZ]at h
 |s::ss,_::_,[],_,_,_,h,_,_=>by simp[eZ]at h
 |s::ss,t::ts,u::us,xs,ys,h1,h2,hx,hy=>by
  simp only[eZ]at h1 h2;simp only[bl]at hx hy;obtain⟨x,mq,rfl,_,Jm,hx⟩:=hx;obtain⟨y,ys',rfl,_,mf,hy⟩:=hy;simp only[uu,nD];rw[L8 h1.1 h2.1 Jm mf,A3 h1.2 h2.2 hx hy]
def pE{t:T}(h:eZ cy [t]):∃s,cy=[s]/\I9 s t=true:=by
 cases cy with
 |nil=>simp[eZ]at h
 |cons s ss=>
  simp only[eZ]at h;cases ss with
  |nil=>exact⟨s,rfl,h.1⟩
  |cons s2 ss=>simp[eZ]at h
def zz{em:Bool}{d:Nat}(ih:∀(t:TypeId) (cy:List Sh) (desc:TypeDesc),me P d t=some cy->P.underlying t=some desc->∀(xs:List Value) (w:World),gB cy xs->(Instr.checkKey em d t (AO desc xs)).run P w=.ok () w)
  (LY:∀(t:TypeId) (cy:List Sh),me P d t=some cy->∃desc,P.underlying t=some desc/\(cq desc=true\/cy.length=1)) (xs:List Value):
  ∀(fs:List Field) (off:Nat) (cy:List Sh) (w:World),jj P (me P d) off fs=some cy->gB cy (xs.drop off)->off<=xs.length->
   (forIn fs PUnit.unit (λf (_:PUnit)=>
      if f.name≠ "_" then do
       let x<-part f.type xs.toArray f.offset
       Instr.checkKey em d f.type x
       pure (ForInStep.yield PUnit.unit)
      else pure (ForInStep.yield PUnit.unit)):Sem PUnit).run P w=.ok PUnit.unit w
 |[],off,cy,w,h,hx,_=>by simp
 |f::fs,off,cy,w,h,hx,hox=>by
  simp only[jj]at h;split at h
  ·rename_i s i hs hi;split at h
   ·rename_i hc;obtain⟨hn,rfl,ji⟩:=hc;simp only[iV]at h;obtain⟨rest,LZ,rfl⟩:=h;obtain⟨desc,hd,h1⟩:=LY _ _ hs;have Hs:=gB.length hx;simp only[Ey,Zc]at Hs;obtain⟨Jm,xb⟩:=gB.split hx;rw[Zdf]at xb;rw[ji]at h1;have p1:=λw=>oq (P:=P) w hd hi (xs:=xs) (off:=f.offset) h1 (by omega);have hr:=ih _ _ _ hs hd _ w Jm;rw[ji]at hr;simp only[Zc5,hn,ne_eq,not_false_eq_true,jP,Sem.run_bind,p1,Result.andThen_ok,hr,Sem.run_pure];exact zz ih LY xs fs _ rest w LZ xb (by omega)
   ·cases h
  ·cases h
def Bj{em:Bool}{d:Nat}{e:TypeId}{de:TypeDesc}{s:List Sh}{i:TypeInfo}(hd:P.underlying e=some de)(hi:P.info? e=some i)(h1:cq de=true\/i.size=1)(hs:s.length=i.size)
  (ih:∀(xs:List Value) (w:World),gB s xs->(Instr.checkKey em d e (AO de xs)).run P w=.ok () w) (xs:List Value):
  ∀(n k:Nat) (w:World),gB ((List.replicate n s).flatten) (xs.drop (k*i.size))->
   (forIn (List.range' k n) PUnit.unit (λj (_:PUnit)=>do
      let sz<-sizeOf e
      let x<-part e xs.toArray (j*sz)
      Instr.checkKey em d e x
      pure (ForInStep.yield PUnit.unit)):Sem PUnit).run P w=.ok PUnit.unit w
 |0,k,w,hx=>by simp
 |n+1,k,w,hx=>by
  simp only[Pu,ZJ]at hx;have Hs:=gB.length hx;simp only[Ey,Zc]at Hs;obtain⟨Jm,xb⟩:=gB.split hx;have e2:k*i.size+s.length=(k+1)*i.size:=by rw[C7,hs];omega
  rw[Zdf,e2]at xb;by_cases hz:i.size=0
  ·have ji:∀(w:World),k*i.size+i.size<=xs.length\/xs.length<k*i.size:=λ_=>by omega
   have Ls:=h1.elim id (λh=>by omega);have p1:=λw=>oq (P:=P) w hd hi (xs:=xs) (off:=k*i.size) h1 (by rw[hz];simp);rw[hs]at Jm;have hr:=ih _ w Jm;simp only[Zc1,Zc5,Sem.run_bind,run_sizeOf hi,p1,Result.andThen_ok,hr,Sem.run_pure];exact Bj hd hi h1 hs ih xs n (k+1) w xb
  ·have p1:=λw=>oq (P:=P) w hd hi (xs:=xs) (off:=k*i.size) h1 (by omega);rw[hs]at Jm;have hr:=ih _ w Jm;simp only[Zc1,Zc5,Sem.run_bind,run_sizeOf hi,p1,Result.andThen_ok,hr,Sem.run_pure];exact Bj hd hi h1 hs ih xs n (k+1) w xb
def Bk(em:Bool):∀(d:Nat) (t:TypeId) (cy:List Sh) (desc:TypeDesc),me P d t=some cy->P.underlying t=some desc->∀(xs:List Value) (w:World),gB cy xs->(Instr.checkKey em d t (AO desc xs)).run P w=.ok () w
 |0,t,cy,desc,h,_,_,_,_=>by simp[me]at h
 |d+1,t,cy,desc,h,hu,xs,w,hx=>by
  simp only[me,hu]at h;cases desc;case bool=>simp[AO,cq,Instr.checkKey,run_underlying hu]
  case int k=>simp[AO,cq,Instr.checkKey,run_underlying hu]
  case string=>simp[AO,cq,Instr.checkKey,run_underlying hu]
  case struct fs=>
   replace h:(if P.stoodInHeld t then none else jj P (me P d) 0 fs.toList)=some cy:=h
   split at h
   ·cases h
   ·have:=zz (em:=em) (λt cy desc=>Bk em d t cy desc) (λt cy hs=>by
     cases d with
     |zero=>simp[me]at hs
     |succ d=>exact Dv hs) xs fs.toList 0 cy w h (by simpa using hx) (by omega)
    simp only[AO,cq,jP];rw[Instr.checkKey];simp only[Sem.run_bind,run_underlying hu,Result.andThen_ok];rw[<-Array.forIn_toList];refine(congrArg (λr=>Result.andThen r _) this).trans ?_;rfl
  case array n e=>
   replace h:(match me P d e,P.info? e with
    |some s,some i=>if s.length=i.size/\0<i.size then some ((List.replicate n s).flatten)else none
    |_,_=>none)=some cy:=h
   split at h
   ·rename_i s i hs hi;split at h
    ·rename_i hc;simp only[cu]at h;subst h;have hde:∃desc,P.underlying e=some desc/\(cq desc=true\/s.length=1):=by
      cases d with
      |zero=>simp[me]at hs
      |succ d=>exact Dv hs
     obtain⟨de,hd,h1⟩:=hde;rw[hc.1]at h1;have:=Bj hd hi h1 hc.1 (λxs w=>Bk em d e s de hs hd xs w) xs n 0 w (by simpa using hx);simp only[AO,cq,jP];rw[Instr.checkKey];simp only[Sem.run_bind,run_underlying hu,Result.andThen_ok,Std.Legacy.Range.forIn_eq_forIn_range',Std.Legacy.Range.size,Zcq,ZcQ,Nat.div_one];refine(congrArg (λr=>Result.andThen r _) this).trans ?_;rfl
    ·cases h
   ·cases h
  all_goals exact eB h (by simp)
def bR:T->aL
 |.agg as=>as
 |t=>[t]
def lI{t:T}(h:fa cy agg t):eZ cy (bR t):=by
 cases t<;>simp only[fa]at h<;>exact h.2
def Bl{desc:TypeDesc}{t:T}{x:Value}(h:fa cy (cq desc) t)(hr:bm w W' t x):∃vs,x=AO desc vs/\bl w W' (bR t) vs:=by
 cases t with
 |agg as=>
  simp only[fa]at h;simp only[bm]at hr;obtain⟨vs,rfl,hr⟩:=hr;exact⟨vs.toList,by simp[AO,h.1],hr⟩
 |_=>
  simp only[fa]at h;refine⟨[x],by simp[AO,h.1], ?_⟩;simp only[bR,bl];obtain⟨s,rfl,hs⟩:=pE h.2;refine⟨x,[],rfl, ?_,hr,rfl⟩;cases s<;>first|exact eB hs EB|(simp only[bm]at hr;subst hr;rfl)
def Fl{t u:T}(h:fa cy agg t)(k:fa cy agg u):ib t u=uu (bR t) (bR u):=by
 cases t with
 |agg as=>
  cases u with
  |agg bs=>rfl
  |_=>simp only[fa]at h k;rw[h.1]at k;exact eB k.1 (by simp)
 |_=>
  cases u with
  |agg bs=>simp only[fa]at h k;rw[k.1]at h;exact eB h.1 (by simp)
  |_=>simp[bR,uu]
def aaJ{s:Sh}{t u:T}(ht:I9 s t=true)(hu:I9 s u=true)(h:ib t u=true):t=u:=by
 cases s<;>cases t<;>(first|exact eB ht EB|skip)<;>cases u<;>(first|exact eB hu EB|skip)
 ·simp only[ib,Zcn]at h;rw[h]
 ·simp only[I9,Zcn]at ht hu;simp only[ib,tD]at h;subst ht hu h;rfl
 ·simp only[ib,tD]at h;rw[h]
def Ia:∀{cy:List Sh} {ts us:aL},eZ cy ts->eZ cy us->uu ts us=true->ts=us
 |[],ts,us,h1,h2,_=>by simp only[eZ]at h1 h2;rw[h1,h2]
 |s::ss,[],_,h,_,_=>by simp[eZ]at h
 |s::ss,_::_,[],_,h,_=>by simp[eZ]at h
 |s::ss,t::ts,u::us,h1,h2,h=>by
  simp only[eZ]at h1 h2;simp only[uu,mD]at h;rw[aaJ h1.1 h2.1 h.1,Ia h1.2 h2.2 h.2]
def SG{t u:T}(h:fa cy agg t)(k:fa cy agg u)(e:ib t u=true):t=u:=by
 have h1:=lI h;have k1:=lI k;rw[Fl h k]at e;have:=Ia h1 k1 e;cases t with
 |agg as=>
  cases u with
  |agg bs=>simpa [bR]using this
  |_=>simp only[fa]at h k;rw[h.1]at k;exact eB k.1 (by simp)
 |_=>
  cases u with
  |agg bs=>simp only[fa]at h k;rw[k.1]at h;exact eB h.1 (by simp)
  |_=>exact(List.cons.inj this).1
def XS{k:TypeId}(hk:iG P k=some (cy,agg)){t u:T}{x y:Value}(ht:fa cy agg t)(hu:fa cy agg u)(hx:bm w W' t x)(hy:bm w W' u y):
  (Op.equal k x y).run P w=.ok (ib t u) w:=by
 unfold iG at hk;split at hk
 ·rename_i d s hd hs;simp only[cu,oS]at hk;obtain⟨rfl,rfl⟩:=hk;obtain⟨vs,rfl,h1⟩:=Bl ht hx;obtain⟨us,rfl,h2⟩:=Bl hu hy;rw[Fl ht hu,A3 (lI ht) (lI hu) h1 h2];exact tr 10000 k s d hs hd vs us w (jD (lI ht) h1) (jD (lI hu) h2)
 ·cases hk
def tK{k:TypeId}(hk:iG P k=some (cy,agg)){t:T}{x:Value}(ht:fa cy agg t)(hx:bm w W' t x)(em:Bool):
  (Instr.checkKey em 10000 k x).run P w=.ok () w:=by
 unfold iG at hk;split at hk
 ·rename_i d s hd hs;simp only[cu,oS]at hk;obtain⟨rfl,rfl⟩:=hk;obtain⟨vs,rfl,h1⟩:=Bl ht hx;exact Bk em 10000 k s d hs hd vs w (jD (lI ht) h1)
 ·cases hk
def SH{t:T}{v:Value}(hk:fa cy agg t)(hr:bm w W' t v):
  (∀k a,v=.int k a->t=.int k a)/\(∀s,v=.string s->t=.str s)/\(∀b,v=.bool b->t=.bool b):=by
 have da:∀{x:T},eZ cy [x]->(∀s,I9 s x=false)->False:=λh1 h2=>by
  obtain⟨s,_,hs⟩:=pE h1;rw[h2]at hs;cases hs
 cases t with
 |agg as=>simp only[bm]at hr;obtain⟨_,rfl,_⟩:=hr;exact⟨λ_ _ e=>(by cases e),λ_ e=>(by cases e),λ_ e=>(by cases e)⟩
 |int k a=>simp only[bm]at hr;subst hr;exact⟨λ_ _ e=>(by cases e;rfl),λ_ e=>(by cases e),λ_ e=>(by cases e)⟩
 |str a=>simp only[bm]at hr;subst hr;exact⟨λ_ _ e=>(by cases e),λ_ e=>(by cases e;rfl),λ_ e=>(by cases e)⟩
 |bool a=>simp only[bm]at hr;subst hr;exact⟨λ_ _ e=>(by cases e),λ_ e=>(by cases e),λ_ e=>(by cases e;rfl)⟩
 |_=>exact(da hk.2 (λs=>by cases s<;>rfl)).elim
def lu(t:T)(es:List (Nat×T×DV))(xs:List MapEntry)(i:Nat):Option (Nat×Value):=
 match es.findIdx? λe=>ib t e.2.1 with
 |some j=>(xs[j]?).map λe=>(i+j,e.val)
 |none=>none
def zA(t:T)(e:Nat×T×DV)(es:List (Nat×T×DV))(x:MapEntry)(xs:List MapEntry)(i:Nat):lu t (e::es) (x::xs) i=if ib t e.2.1 then some (i,x.val)else lu t es xs (i+1):=by
 simp only[lu,Y8];by_cases h:ib t e.2.1=true
 ·simp[h]
 ·simp only[h];cases List.findIdx? (λe=>ib t e.2.1) es with
  |none=>simp
  |some j=>simp[show i+1+j=i+(j+1)by omega]
def CJ{k:TypeId}{cy:List Sh}{agg:Bool}(hk:iG P k=some (cy,agg)){t:T}{x:Value}(ht:fa cy agg t)(hx:bm w (WW W ab L) t x):∀(es:List (Nat×T×DV)) (xs:List MapEntry) (i:Nat),bP w W ab L es xs->(∀e∈es,fa cy agg e.2.1)->
  (Instr.findAsking k x xs i).run P w=.ok (lu t es xs i) w
 |[],xs,i,h,_=>by simp only[bP]at h;subst h;simp[Instr.findAsking,lu]
 |e::es,xs,i,h,eF=>by
  simp only[bP]at h;obtain⟨y,ys,rfl,_,h2,_,h4⟩:=h;have:=XS hk ht (eF e (by simp)) hx h2;rw[zA];simp only[Instr.findAsking,Sem.run_bind,this,Result.andThen_ok];cases ib t e.2.1
  ·simpa using CJ hk ht hx es ys (i+1) h4 λe he=>eF e (by simp[he])
  ·simp
def CK{k:TypeId}{cy:List Sh}{d:TypeDesc}(hd:P.underlying k=some d)(hs:me P 10000 k=some cy){t:T}{x:Value}(ht:fa cy (cq d) t)(hx:bm w (WW W ab L) t x):∀(es:List (Nat×T×DV)) (xs:List MapEntry) (i:Nat),bP w W ab L es xs->(∀e∈es,fa cy (cq d) e.2.1)->
  Instr.findNow d x xs i=some (lu t es xs i)\/Instr.findNow d x xs i=none
 |[],xs,i,h,_=>by simp only[bP]at h;subst h;simp[Instr.findNow,lu]
 |e::es,xs,i,h,eF=>by
  simp only[bP]at h;obtain⟨y,ys,rfl,_,h2,_,h4⟩:=h;rw[zA];simp only[Instr.findNow];cases hsn:Instr.sameNow d x y.key with
  |none=>right;rfl
  |some r=>
   have hr:r=ib t e.2.1:=by
    have lx:=SH ht hx;have ly:=SH (eF e (by simp)) h2;unfold Instr.sameNow at hsn;split at hsn
    ·rename_i k1 a1 k2 a2 e2;split at hsn
     ·rename_i hkk;subst hkk;simp only[cu]at hsn;rw[lx.1 _ _ rfl,ly.1 _ _ e2,<-hsn];simp only[ib];by_cases h:a1=a2<;>simp[h]
     ·cases hsn
    ·rename_i a1 a2 e2;simp only[cu]at hsn;rw[lx.2.1 _ rfl,ly.2.1 _ e2,<-hsn];simp only[ib];by_cases h:a1=a2
     ·subst h;obtain⟨x⟩:=a1;simp only[decide_true];exact(show(x==x)=true by simp)
     ·simp only[h,decide_false];cases hb:a1==a2 with
      |false=>rfl
      |true=>exact eB (by
        obtain⟨x⟩:=a1;obtain⟨y⟩:=a2;have e:x=y:=by simpa using(show(x==y)=true from hb)
        rw[e]) h
    ·rename_i a1 a2 e2;simp only[cu]at hsn;rw[lx.2.2 _ rfl,ly.2.2 _ e2,<-hsn];rfl
    ·cases hsn
   subst hr;cases ib t e.2.1
   ·exact CK hd hs ht hx es ys (i+1) h4 λe he=>eF e (by simp[he])
   ·simp
def wt{k:TypeId}(hk:iG P k=some (cy,agg)){t:T}{x:Value}(ht:fa cy agg t)(hx:bm w (WW W ab L) t x){xs:List MapEntry}(h:bP w W ab L es xs)(eF:∀e∈es,fa cy agg e.2.1):
  (Instr.findKey k x xs).run P w=.ok (lu t es xs 0) w:=by
 have ha:=CJ hk ht hx es xs 0 h eF;unfold iG at hk;split at hk
 ·rename_i d s hd hs;simp only[cu,oS]at hk;obtain⟨rfl,rfl⟩:=hk;unfold Instr.findKey;simp only[Sem.run_bind,run_underlying hd,Result.andThen_ok];rcases CK hd hs ht hx es xs 0 h eF with h1|h1
  ·rw[h1];simp
  ·rw[h1];exact ha
 ·cases hk
def bP.length:∀{es:List (Nat×T×DV)} {xs:List MapEntry},bP w W ab L es xs->xs.length=es.length
 |[],_,h=>by simp only[bP]at h;simp[h]
 |e::es,_,h=>by
  simp only[bP]at h;obtain⟨x,mq,rfl,_,_,_,h4⟩:=h;simp[bP.length h4]
def bP.get:∀{es:List (Nat×T×DV)} {xs:List MapEntry} {i:Nat} {e:Nat×T×DV},bP w W ab L es xs->es[i]? =some e->∃x,xs[i]? =some x/\x.born=e.1/\bm w (WW W ab L) e.2.1 x.key/\aA w W ab L e.2.2 x.val
 |[],_,_,_,_,h=>by simp at h
 |e::es,_,0,_,hr,h=>by
  simp only[bP]at hr;obtain⟨x,mq,rfl,h1,h2,h3,_⟩:=hr;simp only[HN,cu]at h;subst h;exact⟨x,rfl,h1,h2,h3⟩
 |e::es,_,i+1,_,hr,h=>by
  simp only[bP]at hr;obtain⟨x,mq,rfl,_,_,_,h4⟩:=hr;simpa using bP.get h4 (by simpa using h)
def bP.append:∀{es ol:List (Nat×T×DV)} {xs mq:List MapEntry},bP w W ab L es xs->bP w W ab L ol mq->bP w W ab L (es++ol) (xs++mq)
 |[],_,_,_,h,k=>by simp only[bP]at h;subst h;simpa using k
 |e::es,_,_,_,h,k=>by
  simp only[bP]at h;obtain⟨x,xs1,rfl,h1,h2,h3,h4⟩:=h;simp only[C9,bP];exact⟨x,_,rfl,h1,h2,h3,bP.append h4 k⟩
def bP.modify{y:DV}{v:Value}(hy:aA w W ab L y v):∀{es:List (Nat×T×DV)} {xs:List MapEntry} (i:Nat),bP w W ab L es xs->bP w W ab L (es.modify i λe=>(e.1,e.2.1,y)) (xs.modify i λe=>{e with val:=v})
 |[],_,i,h=>by simp only[bP]at h;subst h;simp[bP]
 |e::es,_,0,h=>by
  simp only[bP]at h;obtain⟨x,xs1,rfl,h1,h2,h3,h4⟩:=h;simp only[ZcE,bP];exact⟨_,_,rfl,h1,h2,hy,h4⟩
 |e::es,_,i+1,h=>by
  simp only[bP]at h;obtain⟨x,xs1,rfl,h1,h2,h3,h4⟩:=h;simp only[Zci,bP];exact⟨_,_,rfl,h1,h2,h3,bP.modify hy i h4⟩
def bP.erase:∀{es:List (Nat×T×DV)} {xs:List MapEntry} (i:Nat),bP w W ab L es xs->bP w W ab L (es.eraseIdx i) (xs.eraseIdx i)
 |[],_,i,h=>by simp only[bP]at h;subst h;simp[bP]
 |e::es,_,0,h=>by
  simp only[bP]at h;obtain⟨x,xs1,rfl,h1,h2,h3,h4⟩:=h;simpa using h4
 |e::es,_,i+1,h=>by
  simp only[bP]at h;obtain⟨x,xs1,rfl,h1,h2,h3,h4⟩:=h;simp only[List.eraseIdx_cons_succ,bP];exact⟨_,_,rfl,h1,h2,h3,bP.erase i h4⟩
def zB{d:DV}{x:Value}{t:T}(h:aA w W ab L d x)(hk:AV d=some t):bm w (WW W ab L) t x:=by
 cases d with
 |v t'=>simp only[AV,cu]at hk;subst hk;simpa only[aA]using h
 |agg cs=>
  simp only[AV,iV]at hk;obtain⟨ts,LX,rfl⟩:=hk;simp only[aA]at h;obtain⟨vs,rfl,hr⟩:=h;simp only[bm];refine⟨vs,rfl, ?_⟩;have key:∀(cs:bF) (ts:aL) (vs:List Value),Pp cs=some ts->aR w W ab L cs vs->bl w (WW W ab L) ts vs:=by
   intro cs;induction cs with
   |nil=>intro ts vs h1 h2;simp only[Pp,cu]at h1;subst h1;simpa [aR,bl]using h2
   |cons c cs ih=>
    intro ts vs h1 h2;cases c with
    |v u=>
     simp only[Pp,iV]at h1;obtain⟨us,XT,rfl⟩:=h1;simp only[aR]at h2;obtain⟨y,ys,rfl,k1,k2,k3⟩:=h2;simp only[bl];exact⟨y,ys,rfl,k1,by simpa only[aA]using k2,ih us ys XT k3⟩
    |_=>simp[Pp]at h1
  exact key cs ts _ LX hr
 |_=>simp[AV]at hk
def Obj.agJ:Obj->Prop
 |.cells _ _ _=>False
 |_=>True
def al5(s:ByteArray):(s==s)=true:=by
 obtain⟨x⟩:=s;exact(show(x==x)=true by simp)
def gJ{b:Nat}{x:Obj}(h:w.heap[b]? =some x)(hx:Obj.agJ x):(getObj b).run P w=.ok x w:=by
 cases x<;>first|exact hx.elim|simp[getObj,Sem.run,h]
def _root_.Go.World.ik(w:World)(b:Nat)(x:Obj):World:={w with heap:=w.heap.setIfInBounds b x}
def qe{b:Nat}{x y:Obj}(h:w.heap[b]? =some x)(hx:Obj.agJ x):(setObj b y).run P w=.ok () (w.ik b y):=by
 cases x<;>first|exact hx.elim|simp[setObj,Sem.run,h,World.ik]
def CL{b:Nat}{x y:Obj}(h:w.heap[b]? =some x):(w.ik b y).heap[b]? =some y:=by
 have ef:b<w.heap.size:=(v8.1 h).1;simp[World.ik,ef]
def tM{b k:Nat}{y:Obj}(h:k≠b):(w.ik b y).heap[k]? =w.heap[k]? :=by simp[World.ik,Ne.symm h]
def vC{b:Nat}{y:Obj}:(w.ik b y).heap.size=w.heap.size:=by simp[World.ik]
def Ib{g:Nat}(x:Obj)(h:Fr base M w0 w)(hg:base<=g\/M g):Fr base M w0 (w.ik g x):=
 ⟨h.os,h.tape,h.output,h.jO,by rw[vC];exact h.size,λk hk hm=>by
  rw[tM (by
    rintro rfl;rcases hg with h1|h1;·omega
    exact hm h1)]
  exact h.block k hk hm,h.drawn⟩
def tN(hO:cC base W M w0 ab w L){r c c':Nat}{kZ:List Sh}{k9:Bool}{ol:List (Nat×T×DV)}(hc:ab r=some (.map cy agg c es)){Fm:Array MapEntry}
  (hr:bP w W ab L ol Fm.toList) (h1:∀e∈ol,fa kZ k9 e.2.1) (h2:∀e∈ol,e.1<c') (h3:(ol.map (·.1)).Nodup):
  cC base W M w0 (cN ab (some (r,.map kZ k9 c' ol))) (w.ik (L.jX r) (.map Fm c')) L/\ic W ab L w (cN ab (some (r,.map kZ k9 c' ol))) L (w.ik (L.jX r) (.map Fm c')):=by
 obtain⟨bE,hh,_,_,_,_,hm⟩:=hO.ob r _ hc;refine cC.put hO (Ib _ hO.fr hm) (by rw[vC];exact ed _) (λ_ _=>⟨rfl,rfl⟩) rfl (λb _ hb=>tM (λx=>hb _ hc (by simp[Loc.own,x])))
  (λb hb=>.inl ⟨_,hc,hb⟩) (λo' iW _=>by rw[hc]at iW;cases iW;exact⟨rfl,rfl⟩) (λbJ e sz av h=>by rw[hc]at h;cases h) (λfu=>?_)
 exact⟨Fm,CL hh,bP.fu fu _ _ hr,h1,h2,h3,hm⟩
def rY:∀{cy:List Sh} {ts:aL} {vs:List Value} {W':fH} (n:Nat),eZ cy ts->bl w W' ts vs->(vs.zip vs).all (λx=>Instr.sameBits n x.1 x.2)=true
 |[],ts,vs,W',n,h,hr=>by simp only[eZ]at h;subst h;simp only[bl]at hr;subst hr;rfl
 |s::ss,[],_,_,_,h,_=>by simp[eZ]at h
 |s::ss,t::ts,vs,W',n,h,hr=>by
  simp only[eZ]at h;simp only[bl]at hr;obtain⟨v,jN,rfl,_,h1,h2⟩:=hr;simp only[List.zip_cons_cons,ZcZ,mD];refine⟨?_,rY n h.2 h2⟩;have hs:=h.1;cases s<;>cases t<;>first|exact eB hs EB|skip
  all_goals (simp only[bm]at h1;subst h1;cases n<;>simp[Instr.sameBits,al5])
def Mx{t:T}{x:Value}(h:fa cy agg t)(hr:bm w W' t x):Instr.sameBits 10000 x x=true:=by
 cases t with
 |agg as=>
  simp only[fa]at h;simp only[bm]at hr;obtain⟨vs,rfl,hr⟩:=hr;simp only[Instr.sameBits,beq_self_eq_true,ZcY];exact rY 9999 h.2 hr
 |_=>
  simp only[fa]at h;obtain⟨s,rfl,hs⟩:=pE h.2;have h1:x.oneCell'=true:=by cases s<;>first|exact eB hs EB|(simp only[bm]at hr;subst hr;rfl)
  have:=rY (w:=w) (W':=W') 10000 h.2 (vs:=[x]) (by simp only[bl];exact⟨x,[],rfl,h1,hr,rfl⟩);simpa using this
def Ic:∀{cy:List Sh} {ts:aL} {vs us:List Value} {W':fH},eZ cy ts->bl w W' ts vs->bl w W' ts us->vs=us
 |[],ts,vs,us,W',h,h1,h2=>by simp only[eZ]at h;subst h;simp only[bl]at h1 h2;rw[h1,h2]
 |s::ss,[],_,_,_,h,_,_=>by simp[eZ]at h
 |s::ss,t::ts,vs,us,W',h,h1,h2=>by
  simp only[eZ]at h;simp only[bl]at h1 h2;obtain⟨v,jN,rfl,_,k1,k2⟩:=h1;obtain⟨u,us',rfl,_,l1,l2⟩:=h2;have hs:=h.1;rw[Ic h.2 k2 l2]
  congr 1
  cases s<;>cases t<;>first|exact eB hs EB|skip
  all_goals (simp only[bm]at k1 l1;rw[k1,l1])
def SI{t:T}{x y:Value}(h:fa cy agg t)(hx:bm w W' t x)(hy:bm w W' t y):x=y:=by
 cases t with
 |agg as=>
  simp only[fa]at h;simp only[bm]at hx hy;obtain⟨vs,rfl,hx⟩:=hx;obtain⟨us,rfl,hy⟩:=hy;have:=Ic h.2 hx hy;rw[Array.toList_inj.1 this]
 |_=>
  simp only[fa]at h;obtain⟨s,rfl,hs⟩:=pE h.2;cases s<;>first|exact eB hs EB|(simp only[bm]at hx hy;rw[hx,hy])
end
end
section
variable{et kt yt:TypeId}{z d1 d2 d3 d:DV}{es:List (Nat×T×DV)}{cy:List Sh}{agg neg:Bool}{xs:List MapEntry}{name:Nat}{op:BinOp}{y':bW}
variable [bM]
section
variable{P:Program}{base:Nat}{W M:fH}{w0:World}{ab:bq}{L:Loc}{w:World}{a:Act}{o:Oper}
def Id(h:HV P et=some z):∃zv,(zeroValue et).run P w=.ok zv w/\aA w W ab L z zv:=by
 unfold HV at h;simp only[kP,jG]at h;obtain⟨i,hi,zv,hz,h⟩:=h;refine⟨zv,by simp[zeroValue,typeInfo,hi,hz], ?_⟩;split at h
 ·rename_i cs;simp only[iV]at h;obtain⟨ds,hds,rfl⟩:=h;simp only[aA];exact⟨cs,rfl,jt hds⟩
 ·exact(xJ h).1
def zC(t:T)(es:List (Nat×T×DV)):sj t es=(es.findIdx? λe=>ib t e.2.1).bind (es[·]?):=by
 unfold sj;induction es with
 |nil=>rfl
 |cons e es ih=>
  simp only[LF,Y8];by_cases h:ib t e.2.1=true
  ·simp[h]
  ·simp only[h,ih];cases List.findIdx? (λe=>ib t e.2.1) es<;>simp
def JU{t:T}{i:Nat}(h:(es.findIdx? λe=>ib t e.2.1)=some i):∃e,es[i]? =some e/\ib t e.2.1=true:=by
 induction es generalizing i with
 |nil=>simp at h
 |cons e es ih=>
  simp only[Y8]at h;by_cases he:ib t e.2.1=true
  ·simp only[he,jP,cu]at h;subst h;exact⟨e,rfl,he⟩
  ·rw[aZ he,iV]at h;obtain⟨j,hj,rfl⟩:=h;simpa using ih hj
def Jr(hO:cC base W M w0 ab w L){t:TypeId}{x k:Operand}{ok:Bool}(ho:o.op=.lookup t x k ok)(ht:P.underlying t=some (.map kt et))(hk:iG P kt=some (cy,agg))(hz:HV P et=some z)
   (h1:aA w W ab L d1 (a.eval x)) (h2:aA w W ab L d2 (a.eval k)) (aN:(nz cy agg z ok ab d1 d2).ok):cO P base W M w0 ab L w a o (nz cy agg z ok ab d1 d2):=by
 unfold nz at aN⊢;split at aN
 ·rename_i r kt' hkt;cases hc:ab r with
  |none=>simp[hc,da]at aN
  |some ob=>
   cases ob with
   |map kZ k9 c es=>
    simp only[hc]at aN⊢;obtain⟨rfl,rfl,qH⟩:=aN;simp only[aA]at h1;obtain⟨_,hx⟩:=h1;have zD:=zB h2 hkt;obtain⟨bE,hh,qK,eF,_,_,_⟩:=hO.ob r _ hc;have DI:=λem=>tK (P:=P) (w:=w) hk qH zD em;have hf:=wt (P:=P) hk qH zD qK eF;have hg:=gJ (P:=P) hh trivial;simp only[hkt];rw[zC];unfold lu at hf;cases hi:es.findIdx? (λe=>ib kt' e.2.1)with
    |none=>
     simp only[hi]at hf;obtain⟨zv,hzr,hzd⟩:=Id (P:=P) (w:=w) (W:=W) (ab:=ab) (L:=L) hz;simp only[Option.bind_none];have ce:(Instr.lookup t (.map (some (L.jX r))) (a.eval k) ok).run P w=.ok (if ok then .tuple #[zv,.bool false]else zv) w:=by
      simp[Instr.lookup,run_underlying ht,hg,DI,hf,hzr]
     refine cO.mC hO rfl (v:=if ok then .tuple #[zv,.bool false]else zv) (by simp[execOp,ho,hx,ce]) ?_;cases ok
     ·simpa using hzd
     ·simp only[jP,aA];exact⟨_,rfl,by simp only[eP];exact⟨zv,_,rfl,hzd,.bool false,[],rfl,by simp[aA,bm],rfl⟩⟩
    |some i=>
     obtain⟨e,he,hq⟩:=JU hi;obtain⟨xe,DE,_,_,hv⟩:=bP.get qK he;simp only[hi,DE,O5]at hf;simp only[ZcI,he];have ce:(Instr.lookup t (.map (some (L.jX r))) (a.eval k) ok).run P w=.ok (if ok then .tuple #[xe.val,.bool true]else xe.val) w:=by
      simp[Instr.lookup,run_underlying ht,hg,DI,hf]
     refine cO.mC hO rfl (v:=if ok then .tuple #[xe.val,.bool true]else xe.val) (by simp[execOp,ho,hx,ce]) ?_;cases ok
     ·simpa using hv
     ·simp only[jP,aA];exact⟨_,rfl,by simp only[eP];exact⟨xe.val,_,rfl,hv,.bool true,[],rfl,by simp[aA,bm],rfl⟩⟩
   |_=>simp[hc,da]at aN
 ·exact aN.elim
def zF{y:DV}(i:Nat):(es.modify i λe=>(e.1,e.2.1,y)).map (·.1)=es.map (·.1):=by
 induction es generalizing i with
 |nil=>simp
 |cons e es ih=>cases i<;>simp[ih]
def qT{y:DV}(i:Nat){e:Nat×T×DV}(h:e∈es.modify i λe=>(e.1,e.2.1,y)):∃e'∈es,e.1=e'.1/\e.2.1=e'.2.1:=by
 induction es generalizing i with
 |nil=>simp at h
 |cons e0 es ih=>
  cases i with
  |zero=>
   simp only[ZcE,fN]at h;rcases h with rfl|h
   ·exact⟨e0,by simp,rfl,rfl⟩
   ·exact⟨e,by simp[h],rfl,rfl⟩
  |succ i=>
   simp only[Zci,fN]at h;rcases h with rfl|h
   ·exact⟨e,by simp,rfl,rfl⟩
   ·obtain⟨e',h1,h2⟩:=ih i h;exact⟨e',by simp[h1],h2⟩
def P5{es:List (Nat×T×DV)}{i:Nat}{v key:Value}{x:MapEntry}(hx:xs[i]? =some x)(hk:x.key=key):(xs.modify i λe=>{e with key:=key,val:=v})=xs.modify i λe=>{e with val:=v}:=by
 induction xs generalizing i with
 |nil=>simp
 |cons y ys ih=>
  cases i with
  |zero=>
   simp only[HN,cu]at hx;subst hx hk;simp
  |succ i=>
   simp only[Zci,LW,qI];exact ih (by simpa using hx)
def Js(hO:cC base W M w0 ab w L){t:TypeId}{x k y:Operand}(ho:o.op=.mapUpdate t x k y)(ht:P.underlying t=some (.map kt et))(hk:iG P kt=some (cy,agg))
   (h1:aA w W ab L d1 (a.eval x)) (h2:aA w W ab L d2 (a.eval k)) (h3:aA w W ab L d3 (a.eval y)) (aN:(jA cy agg ab d1 d2 d3).ok):cO P base W M w0 ab L w a o (jA cy agg ab d1 d2 d3):=by
 unfold jA at aN⊢;split at aN
 ·rename_i r kt' hkt;cases hc:ab r with
  |none=>simp[hc,da]at aN
  |some ob=>
   cases ob with
   |map kZ k9 c es=>
    simp only[hc]at aN⊢;obtain⟨rfl,rfl,qH,hb⟩:=aN;simp only[aA]at h1;obtain⟨_,hx⟩:=h1;have zD:=zB h2 hkt;obtain⟨bE,hh,qK,eF,ef,zi,hm⟩:=hO.ob r _ hc;have DI:=λem=>tK (P:=P) (w:=w) hk qH zD em;have hf:=wt (P:=P) hk qH zD qK eF;have hg:=gJ (P:=P) hh trivial;have hs:=λy=>qe (P:=P) (y:=y) hh trivial;simp only[hkt];unfold lu at hf;unfold Jd pQ;cases hi:es.findIdx? (λe=>ib kt' e.2.1)with
    |none=>
     simp only[hi]at hf;simp only;have ce:(Instr.mapUpdate t (.map (some (L.jX r))) (a.eval k) (a.eval y)).run P w=.ok () (w.ik (L.jX r) (.map (bE.push {key:=a.eval k,val:=a.eval y,born:=c}) (c+1))):=by
      simp[Instr.mapUpdate,run_underlying ht,hg,DI,hf,hs]
     have:=tN hO hc (kZ:=kZ) (k9:=k9) (c':=c+1) (ol:=es++[(c,kt',d3)]) (Fm:=bE.push {key:=a.eval k,val:=a.eval y,born:=c})
      (by rw[Array.toList_push];exact bP.append qK (by simp only[bP];exact⟨_,_,rfl,rfl,zD,h3,rfl⟩))
      (λe he=>by
        rcases oi.1 he with he|he;·exact eF e he
        ·simp only[oO]at he;subst he;exact qH)
      (λe he=>by
        rcases oi.1 he with he|he;·have:=ef e he;omega
        ·simp only[oO]at he;subst he;simp)
      (by rw[JI,Zcl];exact⟨zi,by simp,λb hb b2 gm=>by
         simp only[qD,SJ,oO]at gm;obtain⟨e,he,rfl⟩:=g9.1 hb;have:=ef e he;omega⟩)
     exact⟨.skip,Go.undef,_,L,by simp[execOp,ho,hx,ce],.inr ⟨rfl,rfl⟩,this.1,this.2,by simp[aA]⟩
    |some i=>
     obtain⟨e,he,hq⟩:=JU hi;obtain⟨xe,DE,_,hxk,hv⟩:=bP.get qK he;simp only[hi,DE,O5]at hf;have hte:kt'=e.2.1:=SG qH (eF e (xL he)) hq;have P6:xe.key=a.eval k:=SI qH (by rw[hte];exact hxk) zD;have al6:(Instr.keyThatStays xe.key (a.eval k)).run P w=.ok (a.eval k) w:=by
      rw[P6];simp[Instr.keyThatStays,Mx qH zD]
     have hai:bE[i]? =some xe:=by simpa using DE
     have ce:(Instr.mapUpdate t (.map (some (L.jX r))) (a.eval k) (a.eval y)).run P w=.ok () (w.ik (L.jX r) (.map (bE.modify i λe=>{e with key:=a.eval k,val:=a.eval y}) c)):=by
      simp[Instr.mapUpdate,run_underlying ht,hg,DI,hf,hs,hai,al6]
     have uF:(bE.modify i λe=>{e with key:=a.eval k,val:=a.eval y}).toList=bE.toList.modify i λe=>{e with val:=a.eval y}:=by
      rw[Zdc];exact P5 (es:=es) (by simpa using hai) P6
     simp only;have:=tN hO hc (kZ:=kZ) (k9:=k9) (c':=c) (ol:=es.modify i λe=>(e.1,e.2.1,d3)) (Fm:=bE.modify i λe=>{e with key:=a.eval k,val:=a.eval y})
      (by rw[uF];exact bP.modify h3 i qK)
      (λe he=>by obtain⟨e',h1,_,h2⟩:=qT i he;rw[h2];exact eF e' h1)
      (λe he=>by obtain⟨e',h1,h2,_⟩:=qT i he;rw[h2];exact ef e' h1)
      (by rw[zF];exact zi)
     exact⟨.skip,Go.undef,_,L,by simp[execOp,ho,hx,ce],.inr ⟨rfl,rfl⟩,this.1,this.2,by simp[aA]⟩
   |_=>simp[hc,da]at aN
 ·exact aN.elim
def Jt(hO:cC base W M w0 ab w L){t:TypeId}{x k:Operand}(ho:o.op=.mapEntry t x k)(ht:P.underlying t=some (.map kt et))(hk:iG P kt=some (cy,agg))(hz:HV P et=some z)
   (h1:aA w W ab L d1 (a.eval x)) (h2:aA w W ab L d2 (a.eval k)) (aN:(jB cy agg z ab d1 d2).ok):cO P base W M w0 ab L w a o (jB cy agg z ab d1 d2):=by
 unfold jB at aN⊢;split at aN
 ·rename_i r kt' hkt;cases hc:ab r with
  |none=>simp[hc,da]at aN
  |some ob=>
   cases ob with
   |map kZ k9 c es=>
    simp only[hc]at aN⊢;obtain⟨rfl,rfl,qH⟩:=aN;simp only[aA]at h1;obtain⟨_,hx⟩:=h1;have zD:=zB h2 hkt;obtain⟨bE,hh,qK,eF,ef,zi,hm⟩:=hO.ob r _ hc;have DI:=λem=>tK (P:=P) (w:=w) hk qH zD em;have hf:=wt (P:=P) hk qH zD qK eF;have hg:=gJ (P:=P) hh trivial;have hs:=λy=>qe (P:=P) (y:=y) hh trivial;simp only[hkt];unfold aes;rw[zC];unfold lu at hf;unfold aer pQ;cases hi:es.findIdx? (λe=>ib kt' e.2.1)with
    |none=>
     simp only[hi]at hf;obtain⟨zv,hzr,hzd⟩:=Id (P:=P) (w:=w) (W:=W) (ab:=ab) (L:=L) hz;simp only[Option.bind_none];have ce:(Instr.mapEntry t (.map (some (L.jX r))) (a.eval k)).run P w=.ok (.tuple #[zv,goInt c]) (w.ik (L.jX r) (.map (bE.push {key:=a.eval k,val:=zv,born:=c}) (c+1))):=by
      simp[Instr.mapEntry,run_underlying ht,hg,DI,hf,hs,hzr]
     have:=tN hO hc (kZ:=kZ) (k9:=k9) (c':=c+1) (ol:=es++[(c,kt',z)]) (Fm:=bE.push {key:=a.eval k,val:=zv,born:=c})
      (by rw[Array.toList_push];exact bP.append qK (by simp only[bP];exact⟨_,_,rfl,rfl,zD,hzd,rfl⟩))
      (λe he=>by
        rcases oi.1 he with he|he;·exact eF e he
        ·simp only[oO]at he;subst he;exact qH)
      (λe he=>by
        rcases oi.1 he with he|he;·have:=ef e he;omega
        ·simp only[oO]at he;subst he;simp)
      (by rw[JI,Zcl];exact⟨zi,by simp,λb hb b2 gm=>by
         simp only[qD,SJ,oO]at gm;obtain⟨e,he,rfl⟩:=g9.1 hb;have:=ef e he;omega⟩)
     refine⟨.value (.tuple #[zv,goInt c]),.tuple #[zv,goInt c],_,L,by simp[execOp,ho,hx,ce],.inl rfl,this.1,this.2, ?_⟩;have hz2:=aA.fu this.2 _ _ hzd;simp only[aA];exact⟨_,rfl,by simp only[eP];exact⟨zv,_,rfl,hz2,goInt c,[],rfl,by simp[aA,bm,goInt],rfl⟩⟩
    |some i=>
     obtain⟨e,he,hq⟩:=JU hi;obtain⟨xe,DE,O7,hxk,hv⟩:=bP.get qK he;simp only[hi,DE,O5]at hf;have hte:kt'=e.2.1:=SG qH (eF e (xL he)) hq;have P6:xe.key=a.eval k:=SI qH (by rw[hte];exact hxk) zD;have al6:(Instr.keyThatStays xe.key (a.eval k)).run P w=.ok (a.eval k) w:=by
      rw[P6];simp[Instr.keyThatStays,Mx qH zD]
     have hai:bE[i]? =some xe:=by simpa using DE
     have uF:(bE.modify i λe=>{e with key:=a.eval k}).toList=bE.toList:=by
      rw[Zdc];apply ZbZ;intro j;rw[List.getElem?_modify];split
      ·rename_i hj;subst hj;rw[DE];simp[<-P6]
      ·simp
     have ce:(Instr.mapEntry t (.map (some (L.jX r))) (a.eval k)).run P w=.ok (.tuple #[xe.val,goInt xe.born]) (w.ik (L.jX r) (.map (bE.modify i λe=>{e with key:=a.eval k}) c)):=by
      simp[Instr.mapEntry,run_underlying ht,hg,DI,hf,hs,hai,al6]
     have:=tN hO hc (kZ:=kZ) (k9:=k9) (c':=c) (ol:=es) (Fm:=bE.modify i λe=>{e with key:=a.eval k})
      (by rw[uF];exact qK) eF ef zi
     simp only[ZcI,he];refine⟨.value (.tuple #[xe.val,goInt xe.born]),.tuple #[xe.val,goInt xe.born],_,L,by simp[execOp,ho,hx,ce],.inl rfl,this.1,this.2, ?_⟩;have hz2:=aA.fu this.2 _ _ hv;simp only[aA];exact⟨_,rfl,by simp only[eP];exact⟨xe.val,_,rfl,hz2,goInt xe.born,[],rfl,by simp[aA,bm,goInt,O7],rfl⟩⟩
   |_=>simp[hc,da]at aN
 ·exact aN.elim
def aaK{b:Int}(h:bP w W ab L es xs):xs.findIdx? (λe=>(e.born:Int)==b)=es.findIdx? (λe=>(e.1:Int)==b):=by
 induction es generalizing xs with
 |nil=>simp only[bP]at h;subst h;rfl
 |cons e es ih=>
  simp only[bP]at h;obtain⟨x,mq,rfl,hb,_,_,hr⟩:=h;simp only[Y8,ih hr,hb]
def Ma(hO:cC base W M w0 ab w L){t:TypeId}{x s y:Operand}(ho:o.op=.entryStore t x s y)
   (h1:aA w W ab L d1 (a.eval x)) (h2:aA w W ab L d2 (a.eval s)) (h3:aA w W ab L d3 (a.eval y)) (aN:(la ab d1 d2 d3).ok):cO P base W M w0 ab L w a o (la ab d1 d2 d3):=by
 unfold la at aN⊢;split at aN
 ·rename_i r kk b;cases hc:ab r with
  |none=>simp[hc,da]at aN
  |some ob=>
   cases ob with
   |map cy agg c es=>
    simp only[hc]at aN⊢;simp only[aA,bm]at h1 h2;obtain⟨_,hx⟩:=h1;obtain⟨bE,hh,qK,eF,ef,zi,hm⟩:=hO.ob r _ hc;have hg:=gJ (P:=P) hh trivial;have hs:=λy=>qe (P:=P) (y:=y) hh trivial;unfold aet at aN⊢;cases hi:es.findIdx? (λe=>(e.1:Int)==b)with
    |none=>simp[hi,da]at aN
    |some i=>
     simp only[O5];have hbi:=(aaK (b:=b) qK).trans hi;have atT:bE.findIdx? (λe=>(e.born:Int)==b)=some i:=by rw[<-hbi];cases bE;simp
     have ce:(Instr.entryStore t (.map (some (L.jX r))) (.int kk b) (a.eval y)).run P w=.ok () (w.ik (L.jX r) (.map (bE.modify i λe=>{e with val:=a.eval y}) c)):=by
      simp[Instr.entryStore,hg,hs,asInt,asIntOf,atT]
     have:=tN hO hc (kZ:=cy) (k9:=agg) (c':=c) (ol:=es.modify i λe=>(e.1,e.2.1,d3)) (Fm:=bE.modify i λe=>{e with val:=a.eval y})
      (by rw[Zdc];exact bP.modify h3 i qK)
      (λe he=>by obtain⟨e',h1,_,h2⟩:=qT i he;rw[h2];exact eF e' h1)
      (λe he=>by obtain⟨e',h1,h2,_⟩:=qT i he;rw[h2];exact ef e' h1)
      (by rw[zF];exact zi)
     exact⟨.skip,Go.undef,_,L,by simp[execOp,ho,hx,h2,ce],.inr ⟨rfl,rfl⟩,this.1,this.2,by simp[aA]⟩
   |_=>simp[hc,da]at aN
 ·exact aN.elim
def Jw(hO:cC base W M w0 ab w L){t:TypeId}{x k:Operand}{ts:Array TypeId}(LX:ts[0]? =some t)(ho:o.op=.call {callee:=.builtin .delete,args:= #[x,k],argTypes:=ts})(ht:P.underlying t=some (.map kt et))(hk:iG P kt=some (cy,agg))
   (h1:aA w W ab L d1 (a.eval x)) (h2:aA w W ab L d2 (a.eval k)) (aN:(jC cy agg ab d1 d2).ok):cO P base W M w0 ab L w a o (jC cy agg ab d1 d2):=by
 unfold jC at aN⊢;split at aN
 ·rename_i r kt' hkt;cases hc:ab r with
  |none=>simp[hc,da]at aN
  |some ob=>
   cases ob with
   |map kZ k9 c es=>
    simp only[hc]at aN⊢;obtain⟨rfl,rfl,qH⟩:=aN;simp only[aA]at h1;obtain⟨_,hx⟩:=h1;have zD:=zB h2 hkt;obtain⟨bE,hh,qK,eF,ef,zi,hm⟩:=hO.ob r _ hc;have DI:=λem=>tK (P:=P) (w:=w) hk qH zD em;have hf:=wt (P:=P) hk qH zD qK eF;have hg:=gJ (P:=P) hh trivial;have hs:=λy=>qe (P:=P) (y:=y) hh trivial;simp only[hkt];unfold lu at hf;unfold aeq;cases hi:es.findIdx? (λe=>ib kt' e.2.1)with
    |none=>
     simp only[hi]at hf;simp only;have:=tN hO hc (kZ:=kZ) (k9:=k9) (c':=c) (ol:=es) (Fm:=bE) qK eF ef zi;refine⟨.value (.tuple #[]),.tuple #[],_,L, ?_,.inl rfl,this.1,this.2,by simp only[aA,bm,ga];exact⟨_,rfl,rfl⟩⟩;simp[execOp,ho,resolve,invoke,builtin,Builtin.delete_,LX,hx,run_underlying ht,hg,DI,hf,hs]
    |some i=>
     obtain⟨e,he,hq⟩:=JU hi;obtain⟨xe,DE,_,hxk,hv⟩:=bP.get qK he;simp only[hi,DE,O5]at hf;have uF:(bE.eraseIdxIfInBounds i).toList=bE.toList.eraseIdx i:=by
      have:i<bE.size:=by have:=(Db.1 DE).1;simpa using this
      unfold Array.eraseIdxIfInBounds;simp[this]
     simp only;have:=tN hO hc (kZ:=kZ) (k9:=k9) (c':=c) (ol:=es.eraseIdx i) (Fm:=bE.eraseIdxIfInBounds i)
      (by rw[uF];exact bP.erase i qK)
      (λe he=>eF e (ZcR he))
      (λe he=>ef e (ZcR he))
      (List.Sublist.nodup ((List.eraseIdx_sublist _ _).map _) zi)
     refine⟨.value (.tuple #[]),.tuple #[],_,L, ?_,.inl rfl,this.1,this.2,by simp only[aA,bm,ga];exact⟨_,rfl,rfl⟩⟩;simp[execOp,ho,resolve,invoke,builtin,Builtin.delete_,LX,hx,run_underlying ht,hg,DI,hf,hs]
   |_=>simp[hc,da]at aN
 ·exact aN.elim
def Pz(hO:cC base W M w0 ab w L){x:Operand}{t:TypeId}(ho:o.op=.call {callee:=.builtin .len,args:= #[x],argTypes:= #[t]})(ht:P.underlying t=some (.map kt et))(h:aA w W ab L d (a.eval x))(aN:(tj ab d).ok):
  cO P base W M w0 ab L w a o (tj ab d):=by
 unfold tj at aN⊢;split at aN
 ·rename_i r;cases hc:ab r with
  |none=>simp[hc,da]at aN
  |some ob=>
   cases ob with
   |map cy agg c es=>
    simp only[aA]at h;obtain⟨_,hx⟩:=h;obtain⟨bE,hh,qK,_⟩:=hO.ob r _ hc;have hg:=gJ (P:=P) hh trivial;have hl:=bP.length qK;simp only[Si]at hl;refine cO.int hO rfl rfl ?_;simp[execOp,ho,resolve,invoke,builtin,hx,Builtin.len_,run_underlying ht,goInt,hg,hl]
   |_=>simp[hc,da]at aN
 ·exact aN.elim
def L9(hO:cC base W M w0 ab w L)(ff:ab name=none){t:TypeId}(ho:o.op=.makeMap t none)(cy:List Sh)(agg:Bool):
  cO P base W M w0 ab L w a o ⟨True,.je name,some (name,.map cy agg 0 [])⟩:=by
 have hb:=lS (w:=w) (.map #[] 0);have h:=cC.put hO (r:=name) (L':=L.iw name w.heap.size) (o':=.map cy agg 0 []) (yZ hO.fr hb) hb.size (λx hx=>⟨by simp[Loc.iw,hx],rfl⟩) rfl (λb ef _=>hb.block b ef) (λb h=>.inr (by
   simp only[Loc.own,Loc.iw,jP,cu]at h;omega))
  (λo' h _=>by rw[ff]at h;cases h) (λ_ _ _ _ h=>by rw[ff]at h;cases h) (λfu=>by
   refine⟨#[], ?_,by simp[bP],by simp,by simp,by simp,.inl ?_⟩
   ·simp only[Loc.iw,jP];exact heap_alloc_new w _
   ·simp only[Loc.iw,jP];exact xI hO.fr.jO hO.fr.size)
 refine⟨_,.map (some w.heap.size),_,_, ?_,.inl rfl,h.1,h.2, ?_⟩
 ·simp[execOp,ho,Instr.makeMap]
 ·simp only[aA];exact⟨⟨cy,agg,0,[],by simp[cN]⟩,by simp[Loc.iw]⟩
def Ju(hO:cC base W M w0 ab w L)(ff:ab name=none){x:Operand}{t:TypeId}(ho:o.op=.range t x)(ht:P.underlying t=some (.map kt et))(h:aA w W ab L d (a.eval x))(aN:(lQ name ab d).ok):
  cO P base W M w0 ab L w a o (lQ name ab d):=by
 unfold lQ at aN⊢;split at aN
 ·rename_i r;cases hc:ab r with
  |none=>simp[hc,da]at aN
  |some ob=>
   cases ob with
   |map cy agg c es=>
    simp only[aA]at h;obtain⟨OW,hx⟩:=h;obtain⟨bE,hh,qK,_⟩:=hO.ob r _ hc;have hg:=gJ (P:=P) hh trivial;have b7:r≠name:=λe=>by rw[e,ff]at hc;cases hc
    have hb:=lS (w:=w) (.mapIter (some (L.jX r)) c #[] c);have h:=cC.put hO (r:=name) (L':=L.iw name w.heap.size) (o':=.cm r c [] c) (yZ hO.fr hb) hb.size (λx hx=>⟨by simp[Loc.iw,hx],rfl⟩) rfl (λb ef _=>hb.block b ef) (λb h=>.inr (by
      simp only[Loc.own,Loc.iw,jP,cu]at h;omega))
     (λo' h _=>by rw[ff]at h;cases h) (λ_ _ _ _ h=>by rw[ff]at h;cases h) (λfu=>by
      refine⟨?_,⟨cy,agg,c,es,by simp[cN,b7,hc]⟩,.inl ?_⟩
      ·simp only[Loc.iw,jP,b7,w7];exact heap_alloc_new w _
      ·simp only[Loc.iw,jP];exact xI hO.fr.jO hO.fr.size)
    simp only[];refine⟨_,.pointer (some ⟨w.heap.size,0,none⟩),_,_, ?_,.inl rfl,h.1,h.2, ?_⟩
    ·simp[execOp,ho,Instr.range,hx,run_underlying ht,hg]
    ·simp only[aA];exact⟨⟨r,c,[],c,by simp[cN]⟩,by simp[Loc.iw]⟩
   |_=>simp[hc,da]at aN
 ·exact aN.elim
def Fo{b:Nat}:∀{es:List (Nat×T×DV)} {xs:List MapEntry},bP w W ab L es xs->∀{e:Nat×T×DV},(es.find? λe=>e.1==b)=some e->∃x,(xs.find? λx=>x.born==b)=some x/\bm w (WW W ab L) e.2.1 x.key/\aA w W ab L e.2.2 x.val
 |[],_,_,e,h=>by simp at h
 |e0::es,xs,hr,e,h=>by
  simp only[bP]at hr;obtain⟨x,mq,rfl,h1,h2,h3,h4⟩:=hr;simp only[LF,h1]at h⊢;by_cases hb:(e0.1==b)=true
  ·simp only[hb]at h⊢;cases h;exact⟨x,rfl,h2,h3⟩
  ·simp only[hb]at h⊢;exact Fo h4 h
def JB(hO:cC base W M w0 ab w L){x:Operand}(ho:o.op=.entry x)(h:aA w W ab L d (a.eval x))(aN:(lR ab d).ok):
  cO P base W M w0 ab L w a o (lR ab d):=by
 unfold lR at aN⊢;split at aN
 ·rename_i r;cases hc:ab r with
  |none=>simp[hc,da]at aN
  |some ob=>
   cases ob with
   |cm m s sn l=>
    simp only[hc]at aN⊢;cases hm:ab m with
    |none=>simp[hm,da]at aN
    |some om=>
     cases om with
     |map cy agg c es=>
      simp only[hm]at aN⊢;cases hl:sn.getLast? with
      |none=>simp[hl,da]at aN
      |some b=>
       simp only[hl]at aN⊢;cases hf:es.find? (λe=>e.1==b)with
       |none=>simp[hf,da]at aN
       |some e=>
        simp only[hf]at aN⊢;subst aN;simp only[aA]at h;obtain⟨_,hx⟩:=h;obtain⟨hh,_,_⟩:=hO.ob r _ hc;obtain⟨bE,hh2,qK,_⟩:=hO.ob m _ hm;have hg:=gJ (P:=P) hh trivial;have Sq:=gJ (P:=P) hh2 trivial;obtain⟨xe,DE,k1,k2⟩:=Fo qK hf;have apr:sn.toArray.back? =some b:=by rw[List.back?_toArray];exact hl
        have Xo:bE.find? (λx=>x.born==b)=some xe:=by rw[<-Array.find?_toList];exact DE
        refine cO.mC hO rfl (v:=.tuple #[xe.key,xe.val]) ?_ ?_
        ·simp[execOp,ho,Instr.entry,hx,hg,apr,Sq,Xo]
        ·simp only[aA];exact⟨_,rfl,by simp only[eP];exact⟨_,_,rfl,by simpa [aA]using k1,_,_,rfl,k2,rfl⟩⟩
     |_=>simp[hm,da]at aN
   |_=>simp[hc,da]at aN
 ·exact aN.elim
def Jv(hO:cC base W M w0 ab w L){t:TypeId}{x i:Operand}(ho:o.op=.index t x i)(ht:P.underlying t=some .string)(h1:aA w W ab L d1 (a.eval x))(h2:aA w W ab L d2 (a.eval i))(aN:(pD d1 d2).ok):
  cO P base W M w0 ab L w a o (pD d1 d2):=by
 unfold pD at aN⊢;split at aN
 ·rename_i s k j;simp only[aA,bm]at h1 h2;obtain⟨h0,ef⟩:=aN;have hj:j.toNat<s.size:=by omega
  have hj':j.toNat<s.data.size:=hj;have mF:s[j.toNat]? =some (s.data.getD j.toNat 0):=by
   rw[getElem?_pos s j.toNat hj];simp[Array.getD,ByteArray.getElem_eq_getElem_data];intro h;omega
  refine cO.int hO rfl rfl ?_;simp[execOp,ho,Instr.index,h1,h2,asIntOf,run_underlying ht,h0,mF]
 ·exact aN.elim
def JV(HY:op=if neg then .neq else .eql){t:TypeId}{x y:Operand}(ho:o.op=.binOp op t x y yt){r:Bool}(b7:∀k n,a.eval x≠ .int k n)(hni:a.eval x≠ .nilIface)(hna:∀cs,a.eval x≠ .agg cs)(hnf:∀k b,a.eval x≠ .float k b)(Jp:∀k b c,a.eval x≠ .complex k b c)(hns:∀s,a.eval x≠ .string s)
  (he:(Op.equal t (a.eval x) (a.eval y)).run P w=.ok r w) (hg:(eqGuard op t x y (a.eval x) (a.eval y)).run P w=.ok () w):(execOp a.eval o).run P w=.ok (.value (.bool (neg^^r))) w:=by
 have hb:(binOp op t (a.eval x) (a.eval y)).run P w=.ok (.bool (neg^^r)) w:=by
  generalize a.eval x=xv at*
  subst HY;cases neg<;>cases xv<;>first|exact eB rfl (b7 _ _)|exact eB rfl hni|exact eB rfl (hna _)|exact eB rfl (hnf _ _)|exact eB rfl (Jp _ _ _)|exact eB rfl (hns _)|simp[binOp,he]
 simp[execOp,ho,hg,hb]
def My{d:TypeDesc}{y:Operand}{k:Nat}(hy:bW.of y=some y')(h:zb d y'=some k):
  (k=0/\(∃e,d=.slice e)/\a.eval y=.slice none 0 0)\/(k=1/\(∃e,d=.pointer e)/\a.eval y=.pointer none)\/(k=2/\(∃p r v,d=.func p r v)/\a.eval y=.nilFunc):=by
 unfold zb at h;have key:∀{z:DV},bW.of y=some (.ia z)->∃v,a.eval y=v/\(nC v=some z\/(∃f,z=.v (.fn f []))\/∃c,z=.jd c 0):=by
  intro z hz;cases y with
  |tmp t=>simp[bW.of]at hz
  |const v=>simp only[bW.of,iV,bW.ia.injEq]at hz;obtain⟨d,hd,rfl⟩:=hz;exact⟨v,rfl,.inl hd⟩
  |func f=>simp only[bW.of,cu,bW.ia.injEq]at hz;subst hz;exact⟨_,rfl,.inr (.inl ⟨_,rfl⟩)⟩
  |global g=>
   simp only[bW.of,iV,bW.ia.injEq]at hz;obtain⟨p,_,rfl⟩:=hz;exact⟨_,rfl,.inr (.inr ⟨_,rfl⟩)⟩
 split at h
 ·obtain⟨v,hv,hc|⟨f,hf⟩|⟨f,hf⟩⟩:=key hy
  ·unfold nC at hc;split at hc<;>simp at hc
   exact .inl ⟨by simpa using h.symm,⟨_,rfl⟩,hv⟩
  ·cases hf
  ·cases hf
 ·obtain⟨v,hv,hc|⟨f,hf⟩|⟨f,hf⟩⟩:=key hy
  ·unfold nC at hc;split at hc<;>simp at hc
   exact .inr (.inl ⟨by simpa using h.symm,⟨_,rfl⟩,hv⟩)
  ·cases hf
  ·cases hf
 ·obtain⟨v,hv,hc|⟨f,hf⟩|⟨f,hf⟩⟩:=key hy
  ·unfold nC at hc;split at hc<;>simp at hc
   exact .inr (.inr ⟨by simpa using h.symm,⟨_,_,_,rfl⟩,hv⟩)
  ·cases hf
  ·cases hf
 ·cases h
def xW(d:Nat)(hd:d=9999)(t:TypeId)(x y:Value):(Op.equal t x y)=Op.equalIn (d+1) t x y:=by subst hd;rfl
def Bm(t e:TypeId)(p:Option Addr)(n c:Nat)(h:P.underlying t=some (.slice e)):(Op.equal t (.slice p n c) (.slice none 0 0)).run P w=.ok p.isNone w:=by
 obtain⟨d,hd⟩:∃d,d=9999:=⟨_,rfl⟩;rw[xW d hd,Op.equalIn];cases p<;>simp[run_underlying h]
def Fp(t e:TypeId)(p:Option Addr)(h:P.underlying t=some (.pointer e)):(Op.equal t (.pointer p) (.pointer none)).run P w=.ok p.isNone w:=by
 obtain⟨d,hd⟩:∃d,d=9999:=⟨_,rfl⟩;rw[xW d hd,Op.equalIn];cases p<;>simp[run_underlying h]
def HA(t:TypeId){q1 q2 q3}(v:Value)(r:Bool)(h:P.underlying t=some (.func q1 q2 q3))(hv:(v=.nilFunc/\r=true)\/(∃f b c,v=.func f b c)/\r=false):(Op.equal t v .nilFunc).run P w=.ok r w:=by
 obtain⟨d,hd⟩:∃d,d=9999:=⟨_,rfl⟩;rw[xW d hd,Op.equalIn];rcases hv with⟨rfl,rfl⟩|⟨⟨f,b,c,rfl⟩,rfl⟩<;>simp[run_underlying h]
def Ct(hO:cC base W M w0 ab w L)(HY:op=if neg then .neq else .eql){t:TypeId}{x y:Operand}(ho:o.op=.binOp op t x y yt){d:TypeDesc}(hd:P.underlying t=some d)(hy:bW.of y=some y'){k:Nat}(hk:zb d y'=some k)
   (h1:aA w W ab L d1 (a.eval x)) (aN:(gG k neg ab d1).ok):cO P base W M w0 ab L w a o (gG k neg ab d1):=by
 have hv:=My (a:=a) hy hk;have cj:∀{r:Bool},gG k neg ab d1=⟨(gG k neg ab d1).ok,.v (.bool (neg^^r)),none⟩->(execOp a.eval o).run P w=.ok (.value (.bool (neg^^r))) w->cO P base W M w0 ab L w a o (gG k neg ab d1):=by
  intro r e h;rw[e];exact cO.bool hO rfl rfl h
 have sl:∀{p:Option Addr} {n c:Nat},k=0->a.eval x=.slice p n c->(execOp a.eval o).run P w=.ok (.value (.bool (neg^^p.isNone))) w:=by
  intro p n c h0 hx;rcases hv with⟨_,⟨e,rfl⟩,OZ⟩|⟨h,_⟩|⟨h,_⟩
  ·refine JV HY ho (by simp[hx]) (by simp[hx]) (by simp[hx]) (by simp[hx]) (by simp[hx]) (by simp[hx]) (by rw[hx,OZ];exact Bm t e p n c hd) ?_;rw[hx,OZ,HY];cases neg<;>simp[eqGuard]
  ·omega
  ·omega
 have pt:∀{p:Option Addr},k=1->a.eval x=.pointer p->(execOp a.eval o).run P w=.ok (.value (.bool (neg^^p.isNone))) w:=by
  intro p h0 hx;rcases hv with⟨h,_⟩|⟨_,⟨e,rfl⟩,OZ⟩|⟨h,_⟩
  ·omega
  ·refine JV HY ho (by simp[hx]) (by simp[hx]) (by simp[hx]) (by simp[hx]) (by simp[hx]) (by simp[hx]) (by rw[hx,OZ];exact Fp t e p hd) ?_;rw[hx,OZ,HY];cases neg<;>simp[eqGuard]
  ·omega
 have fn:∀{v:Value} {r:Bool},k=2->a.eval x=v->(v=.nilFunc/\r=true)\/(∃f b c,v=.func f b c)/\r=false->(execOp a.eval o).run P w=.ok (.value (.bool (neg^^r))) w:=by
  intro v r h0 hx Du;rcases hv with⟨h,_⟩|⟨h,_⟩|⟨_,⟨q1,q2,q3,rfl⟩,OZ⟩
  ·omega
  ·omega
  ·have he:=HA (w:=w) t v r hd Du;subst hx;refine JV HY ho ?_ ?_ ?_ ?_ ?_ ?_ (by rw[OZ];exact he) ?_;all_goals rcases Du with⟨hx,rfl⟩|⟨⟨f,b,c,hx⟩,rfl⟩<;>first|(simp[hx];done)|(rw[hx,OZ,HY];cases neg<;>simp[eqGuard])
 cases d1 with
 |v t'=>
  cases t' with
  |sl av=>
   simp only[gG]at aN;obtain⟨h0,b7⟩:=aN;simp only[aA,bm]at h1;rcases h1 with⟨rfl,_⟩|⟨b,oo,c,sz,hx,_⟩
   ·exact eB rfl b7
   ·exact cj (r:=false) rfl (sl h0 hx)
  |fn f ch=>
   cases f with
   |func f=>simp only[aA,bm]at h1;obtain⟨vs,hx,_⟩:=h1;exact cj (r:=false) rfl (fn aN hx (.inr ⟨⟨_,_,_,rfl⟩,rfl⟩))
   |_=>exact aN.elim
  |box cs=>simp only[aA,bm]at h1;obtain⟨b,oo,hx,_⟩:=h1;exact cj (r:=false) rfl (pt aN hx)
  |pO v=>
   simp only[aA,bm]at h1;cases v with
   |slice p n c=>exact cj (r:=p.isNone) rfl (sl aN h1)
   |pointer p=>exact cj (r:=p.isNone) rfl (pt aN h1)
   |nilFunc=>exact cj (r:=true) rfl (fn aN h1 (.inl ⟨rfl,rfl⟩))
   |_=>exact aN.elim
  |_=>exact aN.elim
 |ptr r off=>simp only[aA]at h1;exact cj (r:=false) rfl (pt aN h1.2)
 |jd cs off=>simp only[aA]at h1;obtain⟨b,oo,hx,_⟩:=h1;exact cj (r:=false) rfl (pt aN hx)
 |mV av i off=>simp only[aA]at h1;obtain⟨b,oo,sz,hx,_⟩:=h1;exact cj (r:=false) rfl (pt aN hx)
 |kO r bJ i off=>simp only[aA]at h1;obtain⟨⟨b,oo,hx⟩,_⟩:=h1;exact cj (r:=false) rfl (pt aN hx)
 |oP f ch=>
  cases f with
  |func f=>simp only[aA]at h1;obtain⟨vs,hx,_⟩:=h1;exact cj (r:=false) rfl (fn aN hx (.inr ⟨⟨_,_,_,rfl⟩,rfl⟩))
  |_=>exact aN.elim
 |bC r bJ=>
  cases hc:ab r with
  |none=>simp[gG,hc,da]at aN
  |some ob=>
   cases ob with
   |bE cw e' jh av=>
    have e1:gG k neg ab (.bC r bJ)=⟨k=0/\bJ=cw/\av≠[],.v (.bool (neg^^false)),none⟩:=by simp only[gG,hc]
    rw[e1]at aN;obtain⟨h0,rfl,b7⟩:=aN;simp only[aA]at h1;obtain⟨_,rO,e2,HP,mA,nA,_,nU⟩:=h1;rw[hc]at nA;cases nA;have hx:=nU rfl;obtain⟨_,_,_,oQ⟩:=hO.ob r _ hc;rcases oQ with⟨rfl,_⟩|⟨g,cap,eH,k1,_⟩
    ·exact eB rfl b7
    ·exact cj (r:=false) (by rw[e1]) (sl h0 (hx.trans k1))
   |_=>simp[gG,hc,da]at aN
 |_=>exact aN.elim
def PO(hO:cC base W M w0 ab w L){r m s l c:Nat}{sn:cQ}(hr:ab r=some (.cm m s sn l))(hm:ab m=some (.map cy agg c es))(ef:∀e∈es,e.1<s)(hl:s<=l)(ty:TypeId):
  ((∀e∈es,e.1∈sn)/\(Instr.next (.pointer (some ⟨L.jX r,0,none⟩)) false ty).run P w=.ok (.tuple #[.bool false]) w)\/
  ∃e∈es,e.1∉sn/\∃k v w',(Instr.next (.pointer (some ⟨L.jX r,0,none⟩)) false ty).run P w=.ok (.tuple #[.bool true,k,v]) w'/\
   cC base W M w0 (cN ab (some (r,.cm m s (sn++[e.1]) c))) w' L/\ic W ab L w (cN ab (some (r,.cm m s (sn++[e.1]) c))) L w':=by
 obtain⟨hh,_,A0⟩:=hO.ob r _ hr;obtain⟨bE,hh2,qK,_⟩:=hO.ob m _ hm;have hg:=gJ (P:=P) hh trivial;have Sq:=gJ (P:=P) hh2 trivial;have agK:∀x∈bE.toList,x.born<s:=by
  intro x hx;obtain⟨i,hi⟩:=Zcc hx;have Bn:i<es.length:=by rw[<-bP.length qK];exact(Db.1 hi).1
  obtain⟨x',m0,hb,_⟩:=bP.get qK (w8 Bn);rw[hi]at m0;cases m0;rw[hb];exact ef _ (SK Bn)
 have aps:(!(sn.toArray).isEmpty&& !bE.isEmpty&&bE.all (λx=>decide (x.born>=l)))=false:=by
  cases he:bE.isEmpty with
  |true=>simp
  |false=>
   have eF:bE.all (λx=>decide (x.born>=l))=false:=by
    rw[Bool.eq_false_iff];intro h;rw[Array.all_eq_true_iff_forall_mem]at h;have h0:0<bE.size:=by
     rcases Zdk bE.size with h0|h0
     ·simp[Array.isEmpty,h0]at he
     ·exact h0
    have h1:=h _ (Array.getElem_mem h0);have h2:=agK bE[0] (by simp);simp at h1;omega
   simp[eF]
 have zG:∀x,x∈bE.filter (λe=> !sn.toArray.contains e.born)↔x∈bE.toList/\x.born∉sn:=by
  intro x;simp
 have li:∀x∈(bE.filter (λe=> !sn.toArray.contains e.born)),x.born<s:=λx hx=>agK x ((zG x).1 hx).1;simp only[Instr.next,Sem.run_bind,hg,Sq,Result.andThen_ok,aps,OX,w7];generalize hL:bE.filter (λe=> !sn.toArray.contains e.born)=A at zG li⊢;have e1:A.filter (λx=>decide (x.born<s))=A:=Array.filter_eq_self.2 (λx hx=>by simpa using li x hx);have e2:A.filter (λx=>decide (x.born>=s))= #[]:=by
  rw[Array.filter_eq_empty_iff];intro x hx;have:=li x hx;simp;omega
 simp only[e1,e2,ZbV];by_cases h0:A.size=0
 ·left;have:A= #[]:=Array.eq_empty_of_size_eq_zero h0;subst this;refine⟨λe he=>?_, ?_⟩
  ·obtain⟨i,hi⟩:=Zcc he;obtain⟨x,hx,hb,_⟩:=bP.get qK hi;by_cases h:e.1∈sn
   ·exact h
   ·have:=(zG x).2 ⟨xL hx,by rw[hb];exact h⟩;simp at this
  ·simp[choose,Sem.run,Question.forced]
 ·right;have b7:A.isEmpty=false:=by simp[Array.isEmpty,h0]
  simp only[b7,OX,w7,Array.empty_append,Array.size_map];have O8:∃(j:Nat) (w1:World),j<A.size/\(w1=w\/w1=w.drew)/\(choose (Question.mapNext A.size)).run P w=.ok j w1:=by
   by_cases hf:A.size<=1
   ·exact⟨0,w,by omega,.inl rfl,by simp[choose,Sem.run,Question.forced,hf]⟩
   ·exact⟨_,w.drew,Nat.mod_lt _ (by omega),.inr rfl,by
     simp only[choose,Sem.run,Question.forced,tD,hf,w7,Question.cut];rfl⟩
  obtain⟨j,w1,hj,Zi,ce⟩:=O8;have ut:=(zG A[j]).1 (Array.getElem_mem hj);obtain⟨i,hi⟩:=Zcc ut.1;have Bn:i<es.length:=by rw[<-bP.length qK];exact(Db.1 hi).1
  obtain⟨x',m0,hb,_⟩:=bP.get qK (w8 Bn);rw[hi]at m0;cases m0;have hhe:w1.heap=w.heap:=by rcases Zi with rfl|rfl<;>rfl
  have hh1:w1.heap[L.jX r]? =some (.mapIter (some (L.jX m)) s sn.toArray l):=by rw[hhe];exact hh
  have atU:Fr base M w0 w1:=by
   rcases Zi with rfl|rfl
   ·exact hO.fr
   ·exact⟨hO.fr.os,hO.fr.tape,hO.fr.output,hO.fr.jO,hO.fr.size,hO.fr.block,Nat.le_succ_of_le hO.fr.drawn⟩
  refine⟨es[i],SK Bn,by rw[<-hb];exact ut.2,A[j].key,A[j].val,w1.ik (L.jX r) (.mapIter (some (L.jX m)) s (sn.toArray.push A[j].born) c), ?_, ?_⟩
  ·simp only[ce,Array.getElem?_map,ZbP hj,O5,Sem.run_bind,qe (P:=P) hh1 trivial,Result.andThen_ok,Sem.run_pure]
  ·rw[hb];refine cC.put hO (Ib _ atU A0) (by rw[vC,hhe];exact ed _) (λ_ _=>⟨rfl,rfl⟩) rfl (λb _ hb=>(tM (λx=>hb _ hr (by simp[Loc.own,x]))).trans (by rw[hhe]))
    (λb hb=>.inl ⟨_,hr,hb⟩) (λo' iW _=>by rw[hr]at iW;cases iW;exact⟨rfl,rfl⟩) (λbJ e sz av h=>by rw[hr]at h;cases h) (λfu=>?_)
   refine⟨?_, ?_,A0⟩
   ·rw[CL hh1];simp
   ·have b7:m≠r:=λe=>by rw[e,hr]at hm;cases hm
    exact⟨cy,agg,c,es,by simp[cN,b7,hm]⟩
end
end
section
variable{neg:Bool}{cy:List Sh}{desc:TypeDesc}{sz Px:Nat}{zero:aL}
variable [bM]
section
variable{P:Program}{base:Nat}{W M:fH}{w0:World}{ab:bq}{L:Loc}{w:World}{a:Act}{o:Oper}{Γ:pk}{name:Nat}{ρ:dj}{d:sV}
def zd{gu:Bool}(W':fH)(hO:cC base W M w0 ab w L)(hW:gu=true->∀r o b,ab r=some o->L.own r o=some b->¬W' b)(Xl:∀b,W' b->WW W ab L b):
  (∀(d:DV) (x:Value),aA w W ab L d x->Hl gu ab d->bm w W' (uD ab d) x)/\(∀(ds:bF) (xs:List Value),aR w W ab L ds xs->uE gu ab ds->bl w W' (jF ab ds) xs):=by
 have hk:dv (WW W ab L) w w:=dv.refl _ _;have one:∀(n:Nat),(∀(d:DV) (x:Value),SizeOf.sizeOf d<n->aA w W ab L d x->Hl gu ab d->bm w W' (uD ab d) x)/\(∀(ds:bF) (xs:List Value),SizeOf.sizeOf ds<n->aR w W ab L ds xs->uE gu ab ds->bl w W' (jF ab ds) xs):=by
  intro n;induction n with
  |zero=>exact⟨λ_ _ h=>by omega,λ_ _ h=>by omega⟩
  |succ n ih=>
   refine⟨λd x hn h aN=>?_,λds xs hn h aN=>?_⟩
   ·cases d with
    |v t=>simp only[aA]at h;simp only[uD];exact bm.bH hk.toKeepsC (λb _ hb=>Xl b hb) t x h
    |aX=>
     simp only[aA]at h;obtain⟨p,rfl⟩:=h;simp only[uD,bm];exact .inl ⟨trivial,p,0,rfl⟩
    |bC r bJ=>
     simp only[Hl]at aN;obtain⟨hl,aN⟩:=aN;simp only[aA]at h;obtain⟨_,cw,e,sz,av,hc,_,hv⟩:=h;simp only[hc]at aN;have hv:=hv aN;subst hv;simp only[uD,hc,bm];have gP:=hO.ob r _ hc;obtain⟨ji,eQ,hm,oQ⟩:=gP;rcases oQ with⟨rfl,p,hp⟩|⟨g',cap,eH,ux,hp,hh,jW,tp,Jg,ig⟩
     ·exact .inl ⟨rfl,p,0,hp⟩
     ·have AN:bi (L.sl r)=some g':=by simp[ux,bi,Hm.1 hp]
      refine .inr ⟨g',0,cap,sz,ux,(v8.1 hh).1,hW hl r _ g' hc (by simpa [Loc.own]using AN),jW, ?_⟩;have AM:=qF.av (hO.ob r _ hc) (g:=g') (by simp[ux,bi,Hm.1 hp]);by_cases hg:g'<w.heap.size
      ·obtain⟨vs,yP,Du,ZN⟩:=bD.flatten AM;exact bD.j5 (bl.bH hk.toKeepsC (λb _ hb=>Xl b hb) _ _ Du) eQ ZN
      ·exact eB (v8.1 hh).1 hg
    |agg cs=>
     simp only[aA]at h;obtain⟨vs,rfl,hr⟩:=h;simp only[uD,bm];simp only[Hl]at aN;exact⟨vs,rfl,ih.2 cs _ (by simp at hn⊢;omega) hr aN⟩
    |oP f cs=>
     simp only[aA]at h;obtain⟨vs,rfl,hr⟩:=h;simp only[uD,bm];simp only[Hl]at aN;exact⟨vs,rfl,ih.2 cs _ (by simp at hn⊢;omega) hr aN⟩
    |wa r bJ lo m=>
     simp only[Hl]at aN;obtain⟨hl,aN⟩:=aN;simp only[aA]at h;obtain⟨_,cw,e,sz,av,hc,_,hv⟩:=h;simp only[hc]at aN;have hv:=hv aN.1;simp only[uD,hc,bm];have I7:((av.drop lo).take m).length=m:=by rw[we,Zc];omega
     rcases vf hO hc hv with⟨rfl,a,c,rfl⟩|⟨g,c,AN,rfl,Jp,hr⟩
     ·exact .inl ⟨by simp,a,c,rfl⟩
     ·refine .inr ⟨g,lo*sz,c,sz,by rw[I7],(hO.ob r _ hc).lt (by simpa [Loc.own]using AN),hW hl r _ g hc (by simpa [Loc.own]using AN),by omega, ?_⟩;obtain⟨vs,yP,Du,ZN⟩:=bD.flatten hr;exact bD.j5 (bl.bH hk.toKeepsC (λb _ hb=>Xl b hb) _ _ Du) (λx hx=>(hO.ob r _ hc).2.1 x (Zca (Ew hx))) ZN
    |_=>exact aN.elim
   ·cases ds with
    |nil=>simpa [aR,bl,jF]using h
    |cons d ds=>
     simp only[aR]at h;obtain⟨x,mq,rfl,h1,h2,hr⟩:=h;simp only[uE]at aN;simp only[jF,bl];exact⟨x,mq,rfl,h1,ih.1 d x (by simp at hn⊢;omega) h2 aN.1,ih.2 ds mq (by simp at hn⊢;omega) hr aN.2⟩
 exact⟨λd x=>(one (SizeOf.sizeOf d+1)).1 d x (by omega),λds xs=>(one (SizeOf.sizeOf ds+1)).2 ds xs (by omega)⟩
def Py{agg:Bool}{t u:T}(h:¬((∃as,t=.agg as)/\∃bs,u=.agg bs)):Ep neg agg cy t u=⟨agg=false/\eZ cy [t]/\eZ cy [u],.v (.bool (neg^^ib t u)),none⟩:=by
 cases t<;>first|rfl|(cases u<;>first|rfl|exact eB ⟨⟨_,rfl⟩,⟨_,rfl⟩⟩ h)
def Sm{n:Nat}{t:TypeId}{s:Sh}(hs:me P (n+1) t=some [s])(hd:P.underlying t=some desc)(ha:cq desc=false):(s=.bool/\desc=.bool)\/(s=.str/\desc=.string)\/∃k,s=.int k/\desc=.int k:=by
 simp only[me,hd]at hs;cases desc;case bool=>simp at hs;exact .inl ⟨hs.symm,rfl⟩
 case int k=>simp at hs;exact .inr (.inr ⟨k,hs.symm,rfl⟩)
 case string=>simp at hs;exact .inr (.inl ⟨hs.symm,rfl⟩)
 case struct=>exact eB ha (by simp[cq])
 case array=>exact eB ha (by simp[cq])
 all_goals exact eB hs (by simp)
def L7{op:BinOp}{t:TypeId}{x y:Operand}{yt:TypeId}(HY:op=if neg then .neq else .eql)(ho:o.op=.binOp op t x y yt)(hd:P.underlying t=some desc)(Sn:∀k,desc≠ .int k)(hs:me P 10000 t=some cy)(hg:P.eqGuardType P.depth t=false)
  (hO:cC base W M w0 ab w L) {d1 d2:DV} (h1:aA w W ab L d1 (a.eval x)) (h2:aA w W ab L d2 (a.eval y)) (k1:Hl true ab d1) (k2:Hl true ab d2) (aN:(Ep neg (cq desc) cy (uD ab d1) (uD ab d2)).ok):
  cO P base W M w0 ab L w a o ⟨True,(Ep neg (cq desc) cy (uD ab d1) (uD ab d2)).val,none⟩:=by
 have r1:=(zd (gu:=true) (λ_=>False) hO (λ_ _ _ _ _ _ h=>h) (λ_ h=>h.elim)).1 d1 _ h1 k1;have r2:=(zd (gu:=true) (λ_=>False) hO (λ_ _ _ _ _ _ h=>h) (λ_ h=>h.elim)).1 d2 _ h2 k2;by_cases aoW:(∃as,uD ab d1=.agg as)/\∃bs,uD ab d2=.agg bs
 ·obtain⟨⟨as,t1⟩,bs,t2⟩:=aoW;simp only[t1,t2,Ep]at aN⊢;obtain⟨ha,f1,f2⟩:=aN;rw[t1]at r1;rw[t2]at r2;simp only[bm]at r1 r2;obtain⟨xs,e1,g1⟩:=r1;obtain⟨ys,e2,g2⟩:=r2;have hq:(Op.equal t (.agg xs) (.agg ys)).run P w=.ok (uu as bs) w:=by
   have:=tr 10000 t cy desc hs hd xs.toList ys.toList w (jD f1 g1) (jD f2 g2);simp only[AO,ha,jP,ZcH]at this;rw[A3 f1 f2 g1 g2];exact this
  have ZW:=run_eqGuard_agg w op t x y xs ys hg;refine cO.bool hO rfl rfl ?_;subst HY;cases neg<;>simp only[jP,w7,OX]at ho ZW<;>simp[execOp,ho,e1,e2,ZW,binOp,hq]
 ·rw[Py aoW]at aN⊢;obtain⟨ha,f1,f2⟩:=aN;obtain⟨s,rfl,g1⟩:=pE f1;obtain⟨s2,hs2,g2⟩:=pE f2;obtain rfl:s=s2:=by simpa using hs2
  refine cO.bool hO rfl rfl ?_;rw[L8 g1 g2 r1 r2];subst HY;cases s with
  |bool=>
   have hdb:P.underlying t=some .bool:=by
    rcases Sm (n:=9999) hs hd ha with⟨_,rfl⟩|⟨h,_⟩|⟨k,h,_⟩
    ·exact hd
    ·cases h
    ·cases h
   cases Ls:uD ab d1<;>rw[Ls]at g1 r1<;>first|exact eB g1 EB|skip
   cases h2':uD ab d2<;>rw[h2']at g2 r2<;>first|exact eB g2 EB|skip
   simp only[bm]at r1 r2;cases neg<;>simp[execOp,ho,r1,r2,eqGuard,run_eql_bool,run_neq_bool,hdb,veq]
  |str=>
   cases Ls:uD ab d1<;>rw[Ls]at g1 r1<;>first|exact eB g1 EB|skip
   cases h2':uD ab d2<;>rw[h2']at g2 r2<;>first|exact eB g2 EB|skip
   simp only[bm]at r1 r2;cases neg<;>simp[execOp,ho,r1,r2,eqGuard,binOp,Op.stringOp,veq]
  |int k=>
   rcases Sm (n:=9999) hs hd ha with⟨h,_⟩|⟨h,_⟩|⟨k',_,h⟩
   ·cases h
   ·cases h
   ·exact eB h (Sn k')
def Cr{W':fH}{sz:Nat}:∀(n:Nat) (cs:aL) (vs:List Value) (b o:Nat),cs.length=n*sz->bl w W' cs vs->(∀j v,vs[j]? =some v->w.cell? ⟨b,o+j,none⟩=some v)->bD w W' sz b o (gn sz n cs)
 |0,_,_,_,_,_,_,_=>by simp[gn,bD]
 |n+1,cs,vs,b,o,hl,hr,hc=>by
  have ji:sz<=cs.length:=by rw[hl,C7];omega
  have yP:=bl.length hr;simp only[gn,bD];refine⟨by simp;omega, ?_, ?_⟩
  ·refine eD.tl (bl.take sz hr) λj v hj=>hc j v ?_;rw[HR]at hj;split at hj
   ·exact hj
   ·cases hj
  ·refine Cr n _ (vs.drop sz) b (o+sz) (by rw[Zc,hl,C7];omega) (bl.drop sz hr) λj v hj=>?_;rw[ZbT]at hj;have:=hc (sz+j) v hj
   rwa [show o+sz+j=o+(sz+j)by omega]
def ze(sz:Nat):∀(n:Nat) (cs:aL),(gn sz n cs).length=n
 |0,_=>rfl
 |n+1,cs=>by simp[gn,ze sz n]
def zf:∀(ps:List (Nat×Nat×DV)) (ds:bF),u6 ds.length ps->(wY ds ps).length=ds.length
 |[],ds,_=>rfl
 |(off,sz,d)::ps,ds,h=>by
  simp only[u6]at h;obtain⟨h1,h2,h3,h4⟩:=h;have hl:(cG ds off (cellsOf d)).length=ds.length:=iv (by omega);simp only[wY];rw[zf ps _ (by rw[hl];exact h4),hl]
def Cs(hg:Hk w (WW W ab L))(jU:∀t,aA w W ab L (ρ t) (a.tmps.getD t Go.undef)):∀{xs:List Operand} {ys:List bW},xs.mapM bW.of=some ys->∀(i:Nat) (x:Operand) (y:bW),xs[i]? =some x->ys[i]? =some y->aA w W ab L (y.ev ρ) (a.eval x)
 |[],ys,h,i,x,y,hx,_=>by simp at hx
 |x::xs,ys,h,i,p,q,hp,hq=>by
  simp only[Lp,mb,kP,jG,cu]at h;obtain⟨y,hy,ys',qG,rfl⟩:=h;cases i with
  |zero=>
   simp only[HN,cu]at hp hq;subst hp hq;exact bW.bX hg jU hy
  |succ i=>exact Cs hg jU qG i p q (by simpa using hp) (by simpa using hq)
def vm:∀{xs:List Operand} {ys:List bW},xs.mapM bW.of=some ys->ys.length=xs.length
 |[],ys,h=>by simp at h;simp[h]
 |x::xs,ys,h=>by
  simp only[Lp,mb,kP,jG,cu]at h;obtain⟨y,hy,ys',qG,rfl⟩:=h;simp[vm qG]
def EJ(hg:Hk w (WW W ab L))(jU:∀t,aA w W ab L (ρ t) (a.tmps.getD t Go.undef)){x:Option Operand}{y:Option bW}(h:ED x=some y):(y.map (·.ev ρ)=none/\x.map a.eval=none)\/∃dl vl,y.map (·.ev ρ)=some dl/\x.map a.eval=some vl/\aA w W ab L dl vl:=by
 cases x with
 |none=>simp only[ED,cu]at h;subst h;exact .inl ⟨rfl,rfl⟩
 |some x=>
  simp only[ED,iV]at h;obtain⟨z,hz,rfl⟩:=h;exact .inr ⟨_,_,rfl,rfl,bW.bX hg jU hz⟩
def ZX{d:DV}{v:Value}(hp:u5 d)(h:aA w W ab L d v):v.oneCell'=true:=by
 cases d with
 |aX=>simp only[aA]at h;obtain⟨p,rfl⟩:=h;rfl
 |v t=>
  simp only[aA]at h;cases t with
  |agg ts=>exact eB hp EB
  |ew ts=>exact eB hp EB
  |pO x=>simp only[bm]at h;subst h;exact hp
  |sl av=>simp only[bm]at h;rcases h with⟨_,_,_,rfl⟩|⟨_,_,_,_,rfl,_⟩<;>rfl
  |fn f ch=>simp only[bm]at h;obtain⟨_,rfl,_⟩:=h;rfl
  |box cs=>simp only[bm]at h;obtain⟨_,_,rfl,_⟩:=h;rfl
  |bool b=>simp only[bm]at h;subst h;rfl
  |int k n=>simp only[bm]at h;subst h;rfl
  |str k=>simp only[bm]at h;subst h;rfl
 |_=>exact hp.elim
def ZY{d:DV}{v:Value}(hp:kY d)(h:aA w W ab L d v):v.oneCell'=true:=by
 cases d with
 |undef=>exact hp.elim
 |skip=>exact hp.elim
 |agg cs=>exact hp.elim
 |ew cs=>exact hp.elim
 |v t=>exact ZX (d:=.v t) hp h
 |aX=>simp only[aA]at h;obtain⟨p,rfl⟩:=h;rfl
 |ptr r off=>simp only[aA]at h;obtain⟨_,rfl⟩:=h;rfl
 |bC r bJ=>simp only[aA]at h;obtain⟨⟨_,_,_,rfl⟩,_⟩:=h;rfl
 |mV av i off=>simp only[aA]at h;obtain⟨_,_,_,rfl,_⟩:=h;rfl
 |jd cs off=>simp only[aA]at h;obtain⟨_,_,rfl,_⟩:=h;rfl
 |kO r bJ i off=>simp only[aA]at h;obtain⟨⟨_,_,rfl⟩,_⟩:=h;rfl
 |Po=>simp only[aA]at h;subst h;rfl
 |je r=>simp only[aA]at h;obtain⟨_,rfl⟩:=h;rfl
 |cm r=>simp only[aA]at h;obtain⟨_,rfl⟩:=h;rfl
 |wa r bJ lo n=>simp only[aA]at h;obtain⟨⟨_,_,rfl⟩,_⟩:=h;rfl
 |Hq r n=>simp only[aA]at h;obtain⟨_,rfl⟩:=h;rfl
 |oP f cs=>simp only[aA]at h;obtain⟨_,rfl,_⟩:=h;rfl
def HZ(hg:Hk w (WW W ab L))(jU:∀t,aA w W ab L (ρ t) (a.tmps.getD t Go.undef)):∀{xs:List Operand} {ys:List bW},xs.mapM bW.of=some ys->fp (ys.map (·.ev ρ))->aR w W ab L (ys.map (·.ev ρ)) (xs.map a.eval)
 |[],ys,h,_=>by simp at h;subst h;simp[aR]
 |x::xs,ys,h,hp=>by
  simp only[Lp,mb,kP,jG,cu]at h;obtain⟨y,hy,ys',qG,rfl⟩:=h;simp only[qD,fp]at hp;simp only[qD,aR];have r:=bW.bX hg jU hy;exact⟨_,_,rfl,ZY hp.1 r,r,HZ hg jU qG hp.2⟩
def A4:∀{ds:bF},yX ds=true->jz ds
 |[],_=>trivial
 |d::ds,h=>by
  cases d with
  |v t=>simp only[yX,mD]at h;exact⟨h.1,A4 h.2⟩
  |aX=>simp only[yX]at h;exact⟨trivial,A4 h⟩
  |_=>simp[yX]at h
def ZZ(hc:dI P o=some d)(m9:∀f args,d≠ .call f args)(jU:∀t,aA w W ab L (ρ t) (a.tmps.getD t Go.undef))(hO:cC base W M w0 ab w L)(ff:ab name=none)(aN:(dw Γ d name ρ ab).ok):
  cO P base W M w0 ab L w a o (dw Γ d name ρ ab):=by
 unfold dI at hc;cases ho:o.op<;>simp only[ho,reduceCtorEq]at hc
 case move x=>
  simp only[iV]at hc;obtain⟨y,hy,rfl⟩:=hc;exact cO.mC hO rfl (v:=a.eval x) (by simp[execOp,ho]) (bW.bX hO.gl jU hy)
 case assign x=>
  simp only[iV]at hc;obtain⟨y,hy,rfl⟩:=hc;exact cO.mC hO rfl (v:=a.eval x) (by simp[execOp,ho]) (bW.bX hO.gl jU hy)
 case pick c x y=>
  simp only[mb,kP,jG,cu]at hc;obtain⟨c',Zf,x',hx,y',hy,rfl⟩:=hc;have r:=bW.bX hO.gl jU Zf;unfold dw at aN⊢;simp only at aN⊢;split at aN
  ·rename_i t ht;rw[ht]at r;simp only[aA,bm]at r;refine cO.mC hO rfl (v:=if t then a.eval x else a.eval y) (by simp[execOp,ho,r,asBool]) ?_;cases t
   ·exact bW.bX hO.gl jU hy
   ·exact bW.bX hO.gl jU hx
  ·exact aN.elim
 case alloc e=>
  simp only[mb,kP,jG,cu]at hc;obtain⟨i,hi,z,hz,zs,Lq,rfl⟩:=hc;have h:=Jh hO ff e (jt Lq);refine⟨_,.pointer (some ⟨w.heap.size,0,none⟩),_,_, ?_,.inl rfl,h.1,h.2, ?_⟩
  ·simp[execOp,ho,Instr.alloc,zeroValue,typeInfo,hi,hz,newVar,newRow]
  ·simp only[dw,aA];exact⟨⟨zs,by simp[cN]⟩,by simp[Loc.iw]⟩
 case box e x=>
  simp only[iV]at hc;obtain⟨y,hy,rfl⟩:=hc;have h:=Jh hO ff e (aA.cells (bW.bX hO.gl jU hy) aN);refine⟨_,.pointer (some ⟨w.heap.size,0,none⟩),_,_, ?_,.inl rfl,h.1,h.2, ?_⟩
  ·simp[execOp,ho,Instr.box,newVar,newRow]
  ·simp only[dw,aA];exact⟨⟨cellsOf (y.ev ρ),by simp[cN]⟩,by simp[Loc.iw]⟩
 case build t parts=>
  simp only[mb,kP,jG,cu]at hc;obtain⟨i,hi,z,hz,zs,Lq,pl,Xh,ps,Xm,rfl⟩:=hc;have hzr:=jt (w:=w) (W:=W) (ab:=ab) (L:=L) Lq;have ZS:=aR.length hzr;simp only[Si]at ZS;simp only[dw]at aN⊢;obtain⟨cells,h1,h2,h3⟩:=EE hO.gl jU parts.toList ps Xm z.cells zs hzr (by rw[ZS];exact aN);have hb:P.built t (parts.map λx=>(x.1,a.eval x.2)).toList=some cells:=by
   unfold Program.built;unfold EC at Xh;cases hu:P.underlying t with
   |none=>simp[hu]at Xh
   |some desc=>
    cases desc<;>simp only[hu,reduceCtorEq]at Xh
    case array n e=>
     simp only[iV]at Xh;obtain⟨ie,hie,rfl⟩:=Xh;simpa [hi,hz,hie]using h1
    case struct ZU=>
     simp only[iV]at Xh;obtain⟨pl',atD,rfl⟩:=Xh;simp only[hi,hz,atD,Array.toList_map];simpa using h1
  refine cO.mC hO rfl (v:=.agg cells) ?_ (by simp only[aA];exact⟨cells,rfl,h2⟩);have:=run_build w t (parts.map λx=>(x.1,a.eval x.2)) cells hb;simp[execOp,ho,this]
 case buildSlice t len parts=>
  split at hc
  ·rename_i e hu;simp only[mb,kP,jG]at hc;obtain⟨i,hi,hc⟩:=hc;split at hc
   ·cases hc
   ·rename_i ji;simp only[jG,cu]at hc;obtain⟨z,hz,zs,Lq,ps,Xm,rfl⟩:=hc;have hzr:=jt (w:=w) (W:=W) (ab:=ab) (L:=L) Lq;have ZS:=aR.length hzr;have dN:¬len*i.size>2^24:=λh=>ji (.inl h);have Ht:i.size≠0:=λh=>ji (.inr h);simp only[Si,Array.size_map,Array.size_range]at ZS;simp only[dw]at aN⊢;by_cases h0:len=0
    ·subst h0;simp only[jP]at aN⊢;subst aN;have hp0:parts.toList=[]:=by
      cases hp:parts.toList with
      |nil=>rfl
      |cons p ps'=>
       rw[hp]at Xm;simp only[tu,Lp,mb,kP,jG,cu,reduceCtorEq,wg,wh]at Xm
     have hp1:parts= #[]:=by cases parts;simp_all
     have hr:=vk (P:=P) w hu hi hz 0 (by simp) (parts:= #[]) (cells:= #[]) (by simp[Instr.fill,Array.range_zero']);have hg:=cC.grow hO (lS (w:=w) (.cells #[] e));refine⟨_,.slice (some ⟨w.heap.size,0,none⟩) 0 0,_,L, ?_,.inl rfl,hg.1,hg.2,by simp only[aA];exact⟨_,rfl⟩⟩;simp[execOp,ho,hp1,hr]
    ·simp only[h0,w7]at aN⊢;obtain⟨hf,Z0⟩:=aN;obtain⟨cells,h1,h2,h3⟩:=EE hO.gl jU parts.toList ps Xm _ zs hzr (by simpa using hf);have hr:=vk (P:=P) w hu hi hz len dN (parts:=parts.map λx=>(x.1,a.eval x.2)) (cells:=cells) (by simpa using h1);have hg:=cC.grow hO (lS (w:=w) (.cells cells e));refine⟨_,.slice (some ⟨w.heap.size,0,none⟩) len len,_,L, ?_,.inl rfl,hg.1,hg.2, ?_⟩
     ·simp[execOp,ho,hr]
     ·have Cm:=pp (Sg:=λ_=>none) Z0 (aR.fu hg.2 _ _ h2);simp only[cN,aA,bm,ze];refine .inr ⟨w.heap.size,0,len,i.size,rfl,by simp, ?_,ed _, ?_⟩
      ·rintro(hw|⟨r,ob,tw,yY⟩)
       ·have h1:=hO.under _ hw;have h2:=hO.fr.jO;have h3:=hO.fr.size;omega
       ·have:=(hO.ob r ob tw).lt yY;omega
      ·refine Cr len _ cells.toList _ _ ?_ Cm λj v hj=>?_
       ·rw[ve,zf _ _ (by rw[<-ZS];exact hf),<-ZS]
       ·rw[Lo,cell_of_row (w.alloc (.cells cells e)) w.heap.size j cells e (0,0) (heap_alloc_new w _)];simpa using hj
  ·cases hc
 case load t x=>
  split at hc
  ·rename_i desc i hd hi;simp only[iV]at hc;obtain⟨y,hy,rfl⟩:=hc;simp only[dw]at aN⊢;obtain⟨hp,v,ce,hv⟩:=xK hO hd hi (bW.bX hO.gl jU hy) aN;exact cO.mC hO hp (v:=v) (by simp[execOp,ho,ce]) hv
  ·cases hc
 case store t x y=>
  simp only[mb,kP,jG,cu]at hc;obtain⟨i,hi,x',hx,y',hy,rfl⟩:=hc;have rx:=bW.bX hO.gl jU hx;have ry:=bW.bX hO.gl jU hy;simp only[dw]at aN⊢;cases hd:x'.ev ρ with
  |ptr r off=>
   rw[hd]at rx;simp only[aA]at rx;obtain⟨⟨cs,oT⟩,So⟩:=rx;simp only[hd,my,oT]at aN⊢;obtain⟨w',h1,h2,h3⟩:=Xc hO hi oT ry aN.1 aN.2.1 aN.2.2;exact⟨.skip,Go.undef,w',L,by simp[execOp,ho,So,h1],.inr ⟨rfl,rfl⟩,h2,h3,by simp[aA]⟩
  |kO r bJ j off=>
   rw[hd]at rx;simp only[aA]at rx;obtain⟨_,cw,e,sz,av,oT,_,xb⟩:=rx;simp only[hd,my,oT]at aN⊢;obtain⟨rfl,hn,Ev,Z0⟩:=aN;obtain⟨g,hg,So,h0,h1⟩:=xb rfl;obtain⟨w',h1,h2,h3⟩:=Xe hO hi oT hg h0 h1 ry hn Ev Z0;exact⟨.skip,Go.undef,w',L,by simp[execOp,ho,So,h1],.inr ⟨rfl,rfl⟩,h2,h3,by simp[aA]⟩
  |_=>rw[hd]at aN;exact aN.elim
 case nilCheck x=>
  simp only[iV]at hc;obtain⟨y,hy,rfl⟩:=hc;have rx:=bW.bX hO.gl jU hy;simp only[dw]at aN⊢;obtain⟨h1,h2,h3⟩:=EI rx aN;refine cO.mC hO h1 (v:=a.eval x) ?_ (by rw[h2];exact rx);rcases h3 with⟨p,hp⟩|⟨f,ch,hp⟩
  ·simp only[execOp,ho,hp];simp
  ·simp only[execOp,ho,hp];simp
 case binOp op t x y yt=>
  simp only[kP,jG]at hc;obtain⟨x',hx,y',hy,hc⟩:=hc;have rx:=bW.bX hO.gl jU hx;have ry:=bW.bX hO.gl jU hy;unfold nE at hc;split at hc
  ·split at hc;all_goals first
    |(simp only[cu]at hc;subst hc;exact Xi hO ho rx ry aN)
    |cases hc
  ·rename_i desc Sn hd;split at hc
   ·rename_i cy hs;split at hc
    ·cases hc
    ·rename_i hg;simp only[cu]at hc;subst hc;simp only[dw]at aN⊢;obtain⟨k1,k2,aN⟩:=aN;exact L7 (neg:=false) rfl ho hd (λk hk=>Sn k hk) hs (by simpa using hg) hO rx ry k1 k2 aN
   ·rename_i cy hs;split at hc
    ·cases hc
    ·rename_i hg;simp only[cu]at hc;subst hc;simp only[dw]at aN⊢;obtain⟨k1,k2,aN⟩:=aN;exact L7 (neg:=true) rfl ho hd (λk hk=>Sn k hk) hs (by simpa using hg) hO rx ry k1 k2 aN
   ·simp only[iV]at hc;obtain⟨k,hk,rfl⟩:=hc;exact Ct (neg:=false) hO rfl ho hd hy hk rx aN
   ·simp only[iV]at hc;obtain⟨k,hk,rfl⟩:=hc;exact Ct (neg:=true) hO rfl ho hd hy hk rx aN
   ·cases hc
  ·cases hc
 case makeMap t atE=>
  cases atE with
  |some h=>cases hc
  |none=>
   simp only at hc;split at hc
   ·simp only[iV]at hc;obtain⟨ki,_,rfl⟩:=hc;exact L9 hO ff ho _ _
   ·cases hc
 case lookup t x k ok=>
  split at hc
  ·rename_i kt et ht;split at hc
   ·rename_i ki z Jq hz;simp only[mb,kP,jG,cu]at hc;obtain⟨x',hx,k',hk,rfl⟩:=hc;exact Jr hO ho ht Jq hz (bW.bX hO.gl jU hx) (bW.bX hO.gl jU hk) aN
   ·cases hc
  ·cases hc
 case mapUpdate t x k y=>
  split at hc
  ·rename_i kt et ht;split at hc
   ·rename_i ki Jq;simp only[mb,kP,jG,cu]at hc;obtain⟨x',hx,k',hk,y',hy,rfl⟩:=hc;exact Js hO ho ht Jq (bW.bX hO.gl jU hx) (bW.bX hO.gl jU hk) (bW.bX hO.gl jU hy) aN
   ·cases hc
  ·cases hc
 case mapEntry t x k=>
  split at hc
  ·rename_i kt et ht;split at hc
   ·rename_i ki z Jq hz;simp only[mb,kP,jG,cu]at hc;obtain⟨x',hx,k',hk,rfl⟩:=hc;exact Jt hO ho ht Jq hz (bW.bX hO.gl jU hx) (bW.bX hO.gl jU hk) aN
   ·cases hc
  ·cases hc
 case entryStore t x s y=>
  simp only[mb,kP,jG,cu]at hc;obtain⟨x',hx,k',hk,y',hy,rfl⟩:=hc;exact Ma hO ho (bW.bX hO.gl jU hx) (bW.bX hO.gl jU hk) (bW.bX hO.gl jU hy) aN
 case range t x=>
  split at hc
  ·rename_i kt et ht;simp only[iV]at hc;obtain⟨x',hx,rfl⟩:=hc;exact Ju hO ff ho ht (bW.bX hO.gl jU hx) aN
  ·cases hc
 case entry x=>
  simp only[iV]at hc;obtain⟨x',hx,rfl⟩:=hc;exact aN.elim
 case index t x i=>
  split at hc
  ·rename_i ht;simp only[mb,kP,jG,cu]at hc;obtain⟨x',hx,i',hi,rfl⟩:=hc;exact Jv hO ho ht (bW.bX hO.gl jU hx) (bW.bX hO.gl jU hi) aN
  ·cases hc
 case panic x=>simp only[cu]at hc;subst hc;exact aN.elim
 case makeInterface _ _=>simp only[cu]at hc;subst hc;exact aN.elim
 case unOp op t x=>
  simp only[iV]at hc;obtain⟨y,hy,rfl⟩:=hc;have rx:=bW.bX hO.gl jU hy;unfold dw Se at aN⊢;simp only at aN⊢;split at aN
  ·rename_i b hb;rw[hb]at rx;simp only[aA,bm]at rx;split at aN
   ·exact cO.bool hO rfl rfl (by simp[execOp,ho,rx,Op.unary])
   ·exact aN.elim
  ·rename_i k n hb;rw[hb]at rx;simp only[aA,bm]at rx;split at aN
   ·exact cO.int hO rfl rfl (by simp[execOp,ho,rx,Op.unary,Op.intArith])
   ·exact aN.elim
  ·exact aN.elim
 case convert src dst x=>
  split at hc
  ·rename_i k0 k hs hd;simp only[iV]at hc;obtain⟨y,hy,rfl⟩:=hc;have rx:=bW.bX hO.gl jU hy;unfold dw at aN⊢;simp only at aN⊢;split at aN
   ·rename_i k1 n hb;rw[hb]at rx;simp only[aA,bm]at rx;exact cO.int hO rfl rfl (by simp[execOp,ho,rx,convert,run_underlying hs,run_underlying hd,Conv.intToInt])
   ·exact aN.elim
  ·cases hc
 case fieldAddr s x f=>
  split at hc
  ·rename_i fs hs;split at hc
   ·rename_i fd hf;split at hc
    ·rename_i fi hi;split at hc
     ·cases hc
     ·rename_i ji;simp only[iV]at hc;obtain⟨y,hy,rfl⟩:=hc;have rx:=bW.bX hO.gl jU hy;simp only[dw]at aN⊢;obtain⟨hp,b,oo,So,hv⟩:=Jo rx aN;refine cO.mC hO hp (v:=.pointer (some ⟨b,oo+fd.offset,none⟩)) ?_ hv;simp[execOp,ho,So,Instr.fieldAt,run_underlying hs,hf,Instr.sureAddr,fieldPlace,run_sizeOf hi,ji,nT]
    ·cases hc
   ·cases hc
  ·cases hc
 case field s x f=>
  split at hc
  ·rename_i fs hs;split at hc
   ·rename_i fd hf;split at hc
    ·rename_i fi desc hi hd;simp only[iV]at hc;obtain⟨y,hy,rfl⟩:=hc;have rx:=bW.bX hO.gl jU hy;simp only[dw]at aN⊢;obtain⟨hp,v,ce,hv⟩:=L5 hs hf hi hd rx aN;exact cO.mC hO hp (v:=v) (by simp[execOp,ho,ce]) hv
    ·cases hc
   ·cases hc
  ·cases hc
 case indexAddr t x ix=>
  split at hc
  ·rename_i e ht;split at hc
   ·rename_i i hi;simp only[mb,kP,jG,cu]at hc;obtain⟨x',hx,y',hy,rfl⟩:=hc;simp only[dw]at aN⊢;obtain⟨hp,v,ce,hv⟩:=Xj hO ht hi (bW.bX hO.gl jU hx) (bW.bX hO.gl jU hy) aN;exact cO.mC hO hp (v:=v) (by simp[execOp,ho,ce]) hv
   ·cases hc
  ·rename_i n e ht;split at hc
   ·rename_i i hi;simp only[mb,kP,jG,cu]at hc;obtain⟨x',hx,y',hy,rfl⟩:=hc;simp only[dw]at aN⊢;obtain⟨hp,v,ce,hv⟩:=Hu ht hi (bW.bX hO.gl jU hx) (bW.bX hO.gl jU hy) aN;exact cO.mC hO hp (v:=v) (by simp[execOp,ho,ce]) hv
   ·cases hc
  ·cases hc
 case slice t x lo qO mx=>
  cases mx with
  |some m=>cases hc
  |none=>
   simp only at hc;split at hc
   ·rename_i e ht;split at hc
    ·rename_i i hi;simp only[mb,kP,jG,cu]at hc;obtain⟨x',hx,lo',hlo,Zg,hhi,rfl⟩:=hc;simp only[dw]at aN⊢;obtain⟨hp,v,ce,hv⟩:=L6 hO ht hi (bW.bX hO.gl jU hx) (EJ hO.gl jU hlo) (EJ hO.gl jU hhi) aN;exact cO.mC hO hp (v:=v) (by simp[execOp,ho,ce]) hv
    ·cases hc
   ·cases hc
 case extract x i=>
  simp only[iV]at hc;obtain⟨y,hy,rfl⟩:=hc;have rx:=bW.bX hO.gl jU hy;unfold dw th at aN⊢;simp only at aN⊢;split at aN
  ·rename_i ts hb;rw[hb]at rx;simp only[aA,bm]at rx;obtain⟨vs,hv,hr⟩:=rx;obtain⟨v,nU,yY⟩:=ga.get hr (i:=i) (t:=ts.getD i default) (by simp[List.getD,show i<ts.length from aN]);refine cO.mC hO rfl (v:=v) ?_ (by simp only[aA];exact yY);have:vs[i]? =some v:=by simpa using nU
   simp[execOp,ho,hv,Instr.extract,this]
  ·rename_i ds hb;rw[hb]at rx;simp only[aA]at rx;obtain⟨vs,hv,hr⟩:=rx;have key:∀(ds:bF) (vs:List Value) (i:Nat),eP w W ab L ds vs->i<ds.length->∃v,vs[i]? =some v/\aA w W ab L (ds.getD i .undef) v:=by
    intro ds;induction ds with
    |nil=>intro vs i _ h;simp at h
    |cons d ds ih=>
     intro vs i h hi;simp only[eP]at h;obtain⟨v,jN,rfl,h1,h2⟩:=h;cases i with
     |zero=>exact⟨v,rfl,h1⟩
     |succ i=>simpa using ih jN i h2 (by simpa using hi)
   obtain⟨v,nU,yY⟩:=key ds _ i hr aN;refine cO.mC hO rfl (v:=v) ?_ yY;have:vs[i]? =some v:=by simpa using nU
   simp[execOp,ho,hv,Instr.extract,this]
  ·exact aN.elim
 case makeSlice t l c=>
  split at hc
  ·rename_i e ht;split at hc
   ·rename_i i hi;split at hc
    ·rename_i z hz;split at hc
     ·rename_i p q;split at hc
      ·rename_i hpq;obtain⟨rfl,ji⟩:=hpq;simp only[mb,kP,jG,cu]at hc;obtain⟨zero,vi,rfl⟩:=hc;simp only[dw]at aN⊢;obtain⟨v,w',L',h1,h2,h3,h4⟩:=EA hO ht hi hz ji vi ff (bW.bX hO.gl jU (x:=.tmp p) rfl) aN;exact⟨.value v,v,w',L',by simp[execOp,ho,h1],.inl rfl,h2,h3,h4⟩
      ·cases hc
     ·rename_i k p k' q;split at hc
      ·rename_i hpq;obtain⟨rfl,rfl,ji⟩:=hpq;simp only[mb,kP,jG,cu]at hc;obtain⟨zero,vi,rfl⟩:=hc;simp only[dw]at aN⊢;obtain⟨v,w',L',h1,h2,h3,h4⟩:=EA hO ht hi hz ji vi ff (bW.bX (ρ:=ρ) hO.gl jU (x:=.const (.int k p)) rfl) aN;exact⟨.value v,v,w',L',by simp[execOp,ho,h1],.inl rfl,h2,h3,h4⟩
      ·cases hc
     ·cases hc
    ·cases hc
   ·cases hc
  ·cases hc
 case makeFunc f first ch=>
  split at hc
  ·rename_i hf;simp only[mb,kP,jG,cu]at hc;obtain⟨cs,oT,rfl⟩:=hc;simp only[dw]at aN⊢;have hr:aR w W ab L (cs.map (·.ev ρ)) (ch.map a.eval).toList:=by
    simpa using HZ hO.gl jU oT aN
   refine cO.mC hO rfl (v:=.func f #[] (ch.map a.eval)) ?_ ?_
   ·have:first= #[]:=by simpa using hf
    simp[execOp,ho,this,Instr.makeFunc]
   ·by_cases hpb:yX (cs.map (·.ev ρ))=true
    ·simp only[hpb,jP,aA,bm];exact⟨_,rfl,pp (A4 hpb) hr⟩
    ·simp only[hpb];exact⟨_,rfl,hr⟩
  ·cases hc
 case call c=>
  have zg:∀{xs:List Operand},c.args.toList=xs->c.args=xs.toArray:=λh=>by rw[<-h,ZcH]
  have alE:∀{xs:List TypeId},c.argTypes.toList=xs->c.argTypes=xs.toArray:=λh=>by rw[<-h,ZcH]
  unfold eR at hc;split at hc
  ·split at hc
   ·split at hc
    ·cases hc
    ·simp only[iV]at hc;obtain⟨y,_,rfl⟩:=hc;exact eB rfl (m9 _ _)
   ·cases hc
  ·obtain⟨ys,_,rfl⟩:=iV.1 hc;exact aN.elim
  ·rename_i jV;split at hc
   ·rename_i x t hx ht;have Dt:c={callee:=.builtin .len,args:= #[x],argTypes:= #[t]}:=by
     have h1:=zg hx;have h2:=alE ht;cases c
     simp_all
    subst Dt;split at hc
    ·rename_i e hu;simp only[iV]at hc;obtain⟨y,hy,rfl⟩:=hc;exact Xk hO ho hu (bW.bX hO.gl jU hy) aN
    ·rename_i hu;simp only[iV]at hc;obtain⟨y,hy,rfl⟩:=hc;exact Pw hO ho hu (bW.bX hO.gl jU hy) aN
    ·rename_i kt et hu;simp only[iV]at hc;obtain⟨y,hy,rfl⟩:=hc;exact Pz hO ho hu (bW.bX hO.gl jU hy) aN
    ·cases hc
   ·cases hc
  ·rename_i jV;split at hc
   ·rename_i x y t t' hx ht;have Dt:c={callee:=.builtin .copy,args:= #[x,y],argTypes:= #[t,t']}:=by
     have h1:=zg hx;have h2:=alE ht;cases c
     simp_all
    subst Dt;split at hc
    ·rename_i e hu;split at hc
     ·rename_i i hi;simp only[mb,kP,jG,cu]at hc;obtain⟨x',m0,y',OZ,rfl⟩:=hc;simp only[dw]at aN⊢;obtain⟨v,w',h1,h2,h3,h4⟩:=Pt (t:=t) (t':=t') (ty:=o.type) hO hu hi (bW.bX hO.gl jU m0) (bW.bX hO.gl jU OZ) aN;exact⟨.value v,v,w',L,by simp[execOp,ho,resolve,invoke,builtin,h1],.inl rfl,h2,h3,h4⟩
     ·cases hc
    ·cases hc
   ·cases hc
  ·rename_i jV;split at hc
   ·rename_i x k t ts' hx ht;have Dt:c={callee:=.builtin .delete,args:= #[x,k],argTypes:=c.argTypes}:=by
     have h1:=zg hx;cases c
     simp_all
    have LX:c.argTypes[0]? =some t:=by rw[<-Array.getElem?_toList,ht];rfl
    split at hc
    ·rename_i kt et hu;split at hc
     ·rename_i ki Jq;simp only[mb,kP,jG,cu]at hc;obtain⟨x',m0,k',uW,rfl⟩:=hc;exact Jw hO LX (by rw[ho,<-Dt]) hu Jq (bW.bX hO.gl jU m0) (bW.bX hO.gl jU uW) aN
     ·cases hc
    ·cases hc
   ·cases hc
  ·rename_i jV;split at hc
   ·rename_i x y hx;have Dt:c={callee:=.builtin .min,args:= #[x,y],argTypes:=c.argTypes}:=by
     have h1:=zg hx;cases c
     simp_all
    simp only[mb,kP,jG,cu]at hc;obtain⟨x',m0,y',OZ,rfl⟩:=hc;exact zc false hO (by rw[ho,Dt];rfl) (bW.bX hO.gl jU m0) (bW.bX hO.gl jU OZ) aN
   ·cases hc
  ·rename_i jV;split at hc
   ·rename_i x y hx;have Dt:c={callee:=.builtin .max,args:= #[x,y],argTypes:=c.argTypes}:=by
     have h1:=zg hx;cases c
     simp_all
    simp only[mb,kP,jG,cu]at hc;obtain⟨x',m0,y',OZ,rfl⟩:=hc;exact zc true hO (by rw[ho,Dt];rfl) (bW.bX hO.gl jU m0) (bW.bX hO.gl jU OZ) aN
   ·cases hc
  ·rename_i jV;split at hc
   ·rename_i x y t t' hx ht;have Dt:c={callee:=.builtin .append,args:= #[x,y],argTypes:= #[t,t']}:=by
     have h1:=zg hx;have h2:=alE ht;cases c
     simp_all
    subst Dt;split at hc
    ·cases hc
    ·rename_i Mb;have Mb:t=t':=by simpa using Mb
     subst Mb;split at hc
     ·rename_i e hu;split at hc
      ·rename_i i hi;split at hc
       ·rename_i z hz;split at hc
        ·rename_i ji;simp only[mb,kP,jG,cu]at hc;obtain⟨x',m0,y',OZ,rfl⟩:=hc;simp only[dw]at aN⊢;obtain⟨v,w',L',h1,h2,h3,h4⟩:=Jl (ty:=o.type) hO hu hi hz ji.1 ji.2 ff (bW.bX hO.gl jU m0) (bW.bX hO.gl jU OZ) aN;exact⟨.value v,v,w',L',by simp[execOp,ho,resolve,invoke,builtin,h1],.inl rfl,h2,h3,h4⟩
        ·cases hc
       ·cases hc
      ·cases hc
     ·cases hc
   ·cases hc
  ·cases hc
def Xn(hO:cC base W M w0 ab w L){e:Nat}{n:bW}(hc:dI P o=some (.mkSlice e sz Px zero n))(jU:∀t,aA w W ab L (ρ t) (a.tmps.getD t Go.undef))(ff:ab name=none)
  (aN:(gF sz Px zero name (n.ev ρ)).ok):cO P base W M w0 ab L w a o (gF sz Px zero name (n.ev ρ)):=by
 unfold dI at hc;cases ho:o.op<;>simp only[ho,reduceCtorEq]at hc
 case makeSlice t l c=>
  split at hc
  ·rename_i e' ht;split at hc
   ·rename_i i hi;split at hc
    ·rename_i z hz;split at hc
     ·rename_i p q;split at hc
      ·rename_i hpq;obtain⟨rfl,ji⟩:=hpq;simp only[mb,kP,jG,cu,sV.mkSlice.injEq]at hc;obtain⟨aoX,vi,rfl,rfl,rfl,rfl,rfl⟩:=hc;obtain⟨v,w',L',h1,h2,h3,h4⟩:=Cq hO ht hi hz vi ff (bW.bX hO.gl jU (x:=.tmp p) rfl) aN;exact⟨.value v,v,w',L',by simp[execOp,ho,h1],.inl rfl,h2,h3,h4⟩
      ·cases hc
     ·rename_i k p k' q;split at hc
      ·rename_i hpq;obtain⟨rfl,rfl,ji⟩:=hpq;simp only[mb,kP,jG,cu,sV.mkSlice.injEq]at hc;obtain⟨aoX,vi,rfl,rfl,rfl,rfl,rfl⟩:=hc;obtain⟨v,w',L',h1,h2,h3,h4⟩:=Cq hO ht hi hz vi ff (bW.bX (ρ:=ρ) hO.gl jU (x:=.const (.int k p)) rfl) aN;exact⟨.value v,v,w',L',by simp[execOp,ho,h1],.inl rfl,h2,h3,h4⟩
      ·cases hc
     ·cases hc
    ·cases hc
   ·cases hc
  ·cases hc
 case binOp op t x y yt=>
  exfalso;simp only[kP,jG]at hc;obtain⟨x',hx,y',hy,hc⟩:=hc;unfold nE at hc;repeat' split at hc
  all_goals first|(cases hc;done)|(simp only[iV,reduceCtorEq,wg,wh]at hc;done)
 case makeMap t h=>
  exfalso;cases h with
  |some m=>cases hc
  |none=>
   simp only at hc;split at hc
   ·simp only[iV,reduceCtorEq,wg,wh]at hc
   ·cases hc
 case slice t x lo hi mx=>
  exfalso;cases mx with
  |some m=>cases hc
  |none=>
   simp only at hc;repeat' split at hc
   all_goals simp only[iV,mb,kP,jG,cu,reduceCtorEq,wg,wh]at hc
 case call c=>
  exfalso;unfold eR at hc;repeat' split at hc
  all_goals first
   |(cases hc;done)
   |(simp only[iV,mb,kP,jG,cu,reduceCtorEq,wg,wh]at hc;done)
   |skip
 all_goals exfalso
 all_goals first
  |(simp only[iV,reduceCtorEq,wg,wh]at hc;done)
  |(simp only[mb,kP,jG,cu,reduceCtorEq,wg,wh]at hc;done)
  |(repeat' split at hc)<;>first
    |(simp only[iV,mb,kP,jG,cu,reduceCtorEq,wg,wh]at hc;done)
    |(simp[jG]at hc;done)
def alF{e:Nat}{n:bW}(hc:dI P o=some (.mkSliceB e sz Px zero n)):False:=by
 unfold dI at hc;cases ho:o.op<;>simp only[ho,reduceCtorEq]at hc
 case makeSlice t l c=>
  repeat' split at hc
  all_goals first
   |(cases hc;done)
   |(simp only[mb,kP,jG,cu,reduceCtorEq,wg,wh]at hc;done)
 case binOp op t x y yt=>
  simp only[kP,jG]at hc;obtain⟨x',hx,y',hy,hc⟩:=hc;unfold nE at hc;repeat' split at hc
  all_goals first|(cases hc;done)|(simp only[iV,reduceCtorEq,wg,wh]at hc;done)
 case makeMap t h=>
  cases h with
  |some m=>cases hc
  |none=>
   simp only at hc;split at hc
   ·simp only[iV,reduceCtorEq,wg,wh]at hc
   ·cases hc
 case slice t x lo hi mx=>
  cases mx with
  |some m=>cases hc
  |none=>
   simp only at hc;repeat' split at hc
   all_goals simp only[iV,mb,kP,jG,cu,reduceCtorEq,wg,wh]at hc
 case call c=>
  unfold eR at hc;repeat' split at hc
  all_goals first
   |(cases hc;done)
   |(simp only[iV,mb,kP,jG,cu,reduceCtorEq,wg,wh]at hc;done)
 all_goals first
  |(simp only[iV,reduceCtorEq,wg,wh]at hc;done)
  |(simp only[mb,kP,jG,cu,reduceCtorEq,wg,wh]at hc;done)
  |(repeat' split at hc)<;>first
    |(simp only[iV,mb,kP,jG,cu,reduceCtorEq,wg,wh]at hc;done)
    |(simp[jG]at hc;done)
end
end
end Go.DM
