/- Part of the proof. Conditions: none. -/
import Derived.Below
import Derived.CallsIn
import Derived.Laws.AppendOwn
import Derived.Laws.AppendOwnNone
import Derived.Laws.MakeOwn
import Derived.Laws.World
import Derived.Laws.Cells
import Derived.Laws.Small
import Derived.Laws.Entries
import Derived.Laws.Strings
import Derived.Laws.StructEq
set_option linter.unusedSectionVars false
set_option linter.unusedSimpArgs false
set_option linter.unusedVariables false
namespace Go.DM
abbrev Zaa:=@Option.some.injEq
abbrev Zab:=@Option.map_eq_some_iff
abbrev Zac:=@Option.bind_eq_some_iff
abbrev Zad:=@Int.eq_ofNat_of_zero_le
abbrev Zae:=@Nat.le_refl
abbrev Zaf:=@Option.bind_eq_bind
abbrev Zag:=@List.mem_cons
abbrev Zah:=@List.mem_singleton
abbrev Zai:=@Int.toNat_natCast
abbrev Zaj:=@Array.getElem?_eq_some_iff
abbrev Zak:=@Option.pure_def
abbrev Zal:=@List.mem_map
abbrev Zam:=@Bool.and_eq_true
abbrev Zan:=@List.getElem?_eq_getElem
abbrev Zao:=@List.mem_append
abbrev Zap:=@List.not_mem_nil
abbrev Zaq:=@List.mem_of_getElem?
abbrev Zar:=@Prod.mk.injEq
abbrev Zas:=@List.getElem?_eq_some_iff
abbrev Zat:=@List.foldl_append
abbrev Zau:=@List.map_cons
abbrev Zav:=@List.mem_of_mem_take
abbrev Zaw:=@List.length_take
abbrev Zax:=@List.range_succ
abbrev Zay:=@Array.getD_eq_getD_getElem?
abbrev Zaz:=@List.foldl_cons
abbrev ZaA:=@Nat.pos_iff_ne_zero
abbrev ZaB:=@List.length_append
abbrev ZaC:=@Bool.false_ne_true
abbrev ZaD:=@List.eq_nil_of_length_eq_zero
abbrev ZaE:=@Nat.le_trans
abbrev ZaF:=@List.getElem?_take
abbrev ZaG:=@List.getElem?_cons_zero
abbrev ZaH:=@List.cons_append
abbrev ZaI:=@List.all_eq_true
abbrev ZaJ:=@List.append_nil
abbrev ZaK:=@Bool.false_eq_true
abbrev ZaL:=@List.nil_append
abbrev ZaM:=@List.mem_range
abbrev ZaN:=@List.pairwise_cons
abbrev ZaO:=@List.find?_cons
abbrev ZaP:=@List.mem_filter
abbrev ZaQ:=@List.map_append
abbrev ZaR:=@Nat.lt_of_lt_of_le
abbrev ZaS:=@List.getElem?_eq_none
abbrev ZaT:=@Array.length_toList
abbrev ZaU:=@List.mem_flatMap
abbrev ZaV:=@List.mem_cons_of_mem
abbrev ZaW:=@List.getElem?_cons_succ
abbrev ZaX:=@Nat.zero_add
abbrev ZaY:=@List.getElem_of_mem
abbrev ZaZ:=@List.mem_or_eq_of_mem_set
abbrev Za0:=@Option.map_some
abbrev Za1:=@List.mapM_cons
abbrev Za2:=@List.take_of_length_le
abbrev Za3:=@List.findIdx?_cons
abbrev Za4:=@List.mem_cons_self
abbrev Za5:=@List.cons.injEq
abbrev Za6:=@List.replicate_succ
abbrev Za7:=@List.filter_cons
abbrev Za8:=@List.length_drop
abbrev Za9:=@List.length_cons
abbrev Zba:=@Nat.mul_le_mul_right
abbrev Zbb:=@List.getElem?_drop
abbrev Zbc:=@Option.getD_some
abbrev Zbd:=@List.take_length
abbrev Zbe:=@List.take_append_drop
abbrev Zbf:=@List.flatten_cons
abbrev Zbg:=@Nat.zero_le
abbrev Zbh:=@List.mem_range'_1
abbrev Zbi:=@List.getElem?_append_right
abbrev Zbj:=@List.getElem_mem
abbrev Zbk:=@List.getElem?_append_left
abbrev Zbl:=@List.ext_getElem?
abbrev Zbm:=@Bool.not_eq_true'
abbrev Zbn:=@List.mem_filterMap
abbrev Zbo:=@List.flatMap_cons
abbrev Zbp:=@List.getElem?_map
abbrev Zbq:=@List.map_congr_left
abbrev Zbr:=@List.length_pos_iff
abbrev Zbs:=@Array.getElem?_eq_getElem
abbrev Zbt:=@List.length_map
abbrev Zbu:=@Option.isSome_iff_exists
abbrev Zbv:=@List.mem_of_mem_drop
abbrev Zbw:=@List.take_add_one
abbrev Zbx:=@List.getElem?_set
abbrev Zby:=@List.drop_eq_nil_of_le
abbrev Zbz:=@Nat.lt_or_ge
abbrev ZbA:=@List.findIdx?_eq_some_iff_getElem
abbrev ZbB:=@List.ext_getElem
abbrev ZbC:=@List.length_replicate
abbrev ZbD:=@Array.append_empty
abbrev ZbE:=@List.contains_iff_mem
abbrev ZbF:=@List.getElem?_eq_none_iff
abbrev ZbG:=@Nat.add_zero
abbrev ZbH:=@List.eq_of_mem_replicate
abbrev ZbI:=@List.getElem?_of_mem
abbrev ZbJ:=@List.map_set
abbrev ZbK:=@Option.some.inj
abbrev ZbL:=@Bool.or_eq_true
abbrev ZbM:=@List.nodup_cons
abbrev ZbN:=@List.modify_succ_cons
abbrev ZbO:=@Option.ne_none_iff_exists'
abbrev ZbP:=@List.nodup_append
abbrev ZbQ:=@List.mem_of_find?_eq_some
abbrev ZbR:=@List.replicate_succ'
abbrev ZbS:=@List.drop_eq_getElem_cons
abbrev ZbT:=@List.nodup_nil
abbrev ZbU:=@Int.mul_nonneg
abbrev ZbV:=@List.foldl_nil
abbrev ZbW:=@Nat.lt_succ_self
abbrev ZbX:=@Nat.lt_of_not_le
abbrev ZbY:=@List.map_nil
abbrev ZbZ:=@List.take_succ_cons
abbrev Zb0:=@Int.mul_le_mul_of_nonneg_right
abbrev Zb1:=@List.getElem_drop
abbrev Zb2:=@Nat.sub_zero
abbrev Zb3:=@Array.getElem?_setIfInBounds
abbrev Zb4:=@List.modify_zero_cons
abbrev Zb5:=@List.foldl_map
abbrev Zb6:=@List.set_append_right
abbrev Zb7:=@List.zipIdx_cons
abbrev Zb8:=@Option.bind_some
abbrev Zb9:=@List.getElem?_append
abbrev Zca:=@List.getElem_set
abbrev Zcb:=@List.any_eq_true
abbrev Zcc:=@List.length_nil
abbrev Zcd:=@Nat.add_sub_cancel
abbrev Zce:=@List.set_cons_zero
abbrev Zcf:=@List.mem_of_mem_eraseIdx
abbrev Zcg:=@Int.natCast_nonneg
abbrev Zch:=@List.pairwise_map
abbrev Zci:=@Bool.not_true
abbrev Zcj:=@Bool.true_and
abbrev Zck:=@Nat.mod_eq_of_lt
abbrev Zcl:=@List.getElem_map
abbrev Zcm:=@Nat.zero_mul
abbrev Zcn:=@List.length_set
abbrev Zco:=@List.take_left'
abbrev Zcp:=@List.forIn_cons
abbrev Zcq:=@List.range_eq_range'
abbrev Zcr:=@List.find?_eq_some_iff_getElem
abbrev Zcs:=@Int.mul_le_mul_of_nonneg_left
abbrev Zct:=@Array.toList_modify
abbrev Zcu:=@List.flatMap_append
abbrev Zcv:=@List.filterMap_cons
abbrev Zcw:=@List.take_take
abbrev Zcx:=@Int.le_refl
abbrev Zcy:=@List.find?_eq_none
abbrev Zcz:=@List.set_cons_succ
abbrev ZcA:=@Nat.eq_zero_or_pos
abbrev ZcB:=@List.getElem_range
abbrev ZcC:=@List.all_cons
abbrev ZcD:=@Array.getElem?_append_left
abbrev ZcE:=@List.length_range
abbrev ZcF:=@List.pairwise_iff_getElem
abbrev ZcG:=@Array.mapM_eq_mapM_toList
abbrev ZcH:=@List.findIdx?_eq_none_iff
abbrev ZcI:=@List.take_append
abbrev ZcJ:=@Int.mul_comm
abbrev ZcK:=@List.range'_succ
abbrev ZcL:=@Bool.not_eq_true
abbrev ZcM:=@List.map_map
abbrev ZcN:=@List.find?_some
abbrev ZcO:=@Nat.min_eq_left
abbrev ZcP:=@Bool.eq_iff_iff
abbrev ZcQ:=@Nat.le_succ
abbrev ZcR:=@List.Perm.refl
abbrev ZcS:=@Nat.mul_le_mul
abbrev ZcT:=@List.modify_id
end Go.DM
namespace Go.DM
inductive T where
 |bool (b:Bool)
 |int (k:IntKind) (n:Int)
 |str (s:ByteArray)
 |sl (rows:List (List T))
 |agg (cs:List T)
 |eC (vs:List T)
 |fn (f:Fn) (caps:List T)
 |box (cs:List T)
 |raw (v:Value)
instance:Inhabited T:=⟨.bool false⟩
section
variable(w:World)(W:Nat->Prop)
mutual
def aS:T->Value->Prop
 |.bool b,v=>v=.bool b
 |.int k n,v=>v=.int k n
 |.str s,v=>v=.string s
 |.sl rows,v=>(rows=[]/\∃(a:Option Addr) (cap:Nat),v=.slice a 0 cap)\/
   ∃b o cap sz,v=.slice (some ⟨b,o,none⟩) rows.length cap/\b<w.heap.size/\¬W b/\rows.length<=cap/\aY sz b o rows
 |.agg cs,v=>∃vs,v=.agg vs/\aR cs vs.toList
 |.eC ts,v=>∃vs,v=.tuple vs/\dx ts vs.toList
 |.fn f caps,v=>∃vs,v=.func f #[] vs/\aR caps vs.toList
 |.box cs,v=>∃b o,v=.pointer (some ⟨b,o,none⟩)/\b<w.heap.size/\¬W b/\cY b o cs
 |.raw x,v=>v=x
def aR:List T->List Value->Prop
 |[],vs=>vs=[]
 |t::ts,vs=>∃v ia,vs=v::ia/\v.oneCell'=true/\aS t v/\aR ts ia
def dx:List T->List Value->Prop
 |[],vs=>vs=[]
 |t::ts,vs=>∃v ia,vs=v::ia/\aS t v/\dx ts ia
def cY:Nat->Nat->List T->Prop
 |_,_,[]=>True
 |b,o,t::ts=>(∃v,w.cell? ⟨b,o,none⟩=some v/\v.oneCell'=true/\aS t v)/\cY b (o+1) ts
def aY:Nat->Nat->Nat->List (List T)->Prop
 |_,_,_,[]=>True
 |sz,b,o,r::rs=>r.length=sz/\cY b o r/\aY sz b (o+sz) rs
end
end
structure KeepsC(W:Nat->Prop)(w w':World):Prop where
 size:w.heap.size<=w'.heap.size
 hY:∀(b:Nat) c e fr,w.heap[b]? =some (.cells c e fr)->¬W b->w'.heap[b]? =some (.cells c e fr)
structure cq(W:Nat->Prop)(w w':World):Prop extends KeepsC W w w' where
 OA:∀b:Nat,w.heap[b]? =some (Obj.deferred (some []))->w'.heap[b]? =some (Obj.deferred (some []))
 Xu:∀(b:Nat) r,w.heap[b]? =some (Obj.loop r)->w'.heap[b]? =some (Obj.loop r)
theorem KeepsC.cell{W:Nat->Prop}{w w':World}(h:KeepsC W w w'){b o:Nat}{v:Value}(hn:¬W b)(hc:w.cell? ⟨b,o,none⟩=some v):w'.cell? ⟨b,o,none⟩=some v:=by
 unfold World.cell? at hc⊢;simp only at hc⊢;split at hc
 ·rename_i c e fr hb;rw[h.hY b c e fr hb hn];exact hc
 ·cases hc
theorem cq.refl(W:Nat->Prop)(w:World):cq W w w:=⟨⟨Zae _,λ_ _ _ _ h _=>h⟩,λ_ h=>h,λ_ _ h=>h⟩
theorem cq.mono{W W':Nat->Prop}{a b:World}(h:cq W a b)(hw:∀i,W i->W' i):cq W' a b:=
 ⟨⟨h.size,λi c e fr hi hn=>h.hY i c e fr hi λx=>hn (hw i x)⟩,h.OA,h.Xu⟩
structure tP(B:Nat)(w w':World):Prop extends RowKit.Below B w w' where
 drawn:w.drawn<=w'.drawn
theorem cq.GG{W:Nat->Prop}{w w':World}(h:RowKit.Below w.heap.size w w'):cq W w w':=
 ⟨⟨h.size,λb c e fr hb _=>(h.block b (Zaj.1 hb).1).trans hb⟩,λb hb=>(h.block b (Zaj.1 hb).1).trans hb,λb r hb=>(h.block b (Zaj.1 hb).1).trans hb⟩
mutual
theorem aS.aD{w w':World}{W W':Nat->Prop}(h:KeepsC W w w')(hW:∀b,b<w.heap.size->W' b->W b):∀(t:T) (v:Value),aS w W t v->aS w' W' t v
 |.bool b,v,r=>by simpa [aS]using r
 |.int k n,v,r=>by simpa [aS]using r
 |.raw x,v,r=>by simpa [aS]using r
 |.str s,v,r=>by simpa [aS]using r
 |.sl rows,v,r=>by
  simp only[aS]at r⊢;rcases r with r|⟨b,o,cap,sz,hv,hb,hn,hc,hr⟩
  ·exact .inl r
  ·exact .inr ⟨b,o,cap,sz,hv,ZaR hb h.size,λx=>hn (hW b hb x),hc,aY.aD h hW hb hn sz o rows hr⟩
 |.agg cs,v,r=>by
  simp only[aS]at r⊢;obtain⟨vs,hv,hr⟩:=r;exact⟨vs,hv,aR.aD h hW cs _ hr⟩
 |.eC ts,v,r=>by
  simp only[aS]at r⊢;obtain⟨vs,hv,hr⟩:=r;exact⟨vs,hv,dx.aD h hW ts _ hr⟩
 |.fn f caps,v,r=>by
  simp only[aS]at r⊢;obtain⟨vs,hv,hr⟩:=r;exact⟨vs,hv,aR.aD h hW caps _ hr⟩
 |.box cs,v,r=>by
  simp only[aS]at r⊢;obtain⟨b,o,hv,hb,hn,hr⟩:=r;exact⟨b,o,hv,ZaR hb h.size,λx=>hn (hW b hb x),cY.aD h hW hb hn o cs hr⟩
theorem aR.aD{w w':World}{W W':Nat->Prop}(h:KeepsC W w w')(hW:∀b,b<w.heap.size->W' b->W b):∀(ts:List T) (vs:List Value),aR w W ts vs->aR w' W' ts vs
 |[],vs,r=>by simpa [aR]using r
 |t::ts,vs,r=>by
  simp only[aR]at r⊢;obtain⟨v,ia,hv,h1,hr,jM⟩:=r;exact⟨v,ia,hv,h1,aS.aD h hW t v hr,aR.aD h hW ts ia jM⟩
theorem dx.aD{w w':World}{W W':Nat->Prop}(h:KeepsC W w w')(hW:∀b,b<w.heap.size->W' b->W b):∀(ts:List T) (vs:List Value),dx w W ts vs->dx w' W' ts vs
 |[],vs,r=>by simpa [dx]using r
 |t::ts,vs,r=>by
  simp only[dx]at r⊢;obtain⟨v,ia,hv,hr,jM⟩:=r;exact⟨v,ia,hv,aS.aD h hW t v hr,dx.aD h hW ts ia jM⟩
theorem cY.aD{w w':World}{W W':Nat->Prop}(h:KeepsC W w w')(hW:∀b,b<w.heap.size->W' b->W b){b:Nat}(hb:b<w.heap.size)(hn:¬W b):∀(o:Nat) (ts:List T),cY w W b o ts->cY w' W' b o ts
 |_,[],_=>by simp[cY]
 |o,t::ts,r=>by
  simp only[cY]at r⊢;obtain⟨⟨v,hc,h1,hr⟩,jM⟩:=r;exact⟨⟨v,h.cell hn hc,h1,aS.aD h hW t v hr⟩,cY.aD h hW hb hn (o+1) ts jM⟩
theorem aY.aD{w w':World}{W W':Nat->Prop}(h:KeepsC W w w')(hW:∀b,b<w.heap.size->W' b->W b){b:Nat}(hb:b<w.heap.size)(hn:¬W b)(sz:Nat):∀(o:Nat) (rs:List (List T)),aY w W sz b o rs->aY w' W' sz b o rs
 |_,[],_=>by simp[aY]
 |o,r::rs,x=>by
  simp only[aY]at x⊢;exact⟨x.1,cY.aD h hW hb hn o r x.2.1,aY.aD h hW hb hn sz (o+sz) rs x.2.2⟩
end
section
variable{w:World}{W:Nat->Prop}
theorem aY.row{sz b:Nat}:∀{rows:List (List T)} {o i:Nat} {r:List T},aY w W sz b o rows->rows[i]? =some r->r.length=sz/\cY w W b (o+i*sz) r
 |[],_,_,_,_,h=>by simp at h
 |x::xs,o,0,r,hr,h=>by
  simp only[aY]at hr;simp only[ZaG,Zaa]at h;subst h;simpa using⟨hr.1,hr.2.1⟩
 |x::xs,o,i+1,r,hr,h=>by
  simp only[aY]at hr;simp only[ZaW]at h;have:=aY.row hr.2.2 h;rw[show o+(i+1)*sz=o+sz+i*sz by rw[Nat.add_mul];omega];exact this
theorem cY.Aa{b:Nat}:∀(ts:List T) (o:Nat),(∀j t,ts[j]? =some t->∃v,w.cell? ⟨b,o+j,none⟩=some v/\v.oneCell'=true/\aS w W t v)->cY w W b o ts
 |[],_,_=>by simp[cY]
 |t::ts,o,h=>by
  simp only[cY];refine⟨by simpa using h 0 t (by simp),cY.Aa ts (o+1) λj u hu=>?_⟩;have:=h (j+1) u (by simpa using hu)
  rwa [show o+1+j=o+(j+1)by omega]
theorem aY.zw{sz b:Nat}:∀(rs:List (List T)) (o:Nat),(∀i r,rs[i]? =some r->r.length=sz/\cY w W b (o+i*sz) r)->aY w W sz b o rs
 |[],_,_=>by simp[aY]
 |r::rs,o,h=>by
  simp only[aY];have h0:=h 0 r (by simp);refine⟨h0.1,by simpa using h0.2,aY.zw rs (o+sz) λi u hu=>?_⟩;have:=h (i+1) u (by simpa using hu)
  rwa [show o+sz+i*sz=o+(i+1)*sz by rw[Nat.add_mul];omega]
theorem aR.length:∀{ts:List T} {vs:List Value},aR w W ts vs->vs.length=ts.length
 |[],_,h=>by simp only[aR]at h;simp[h]
 |_::ts,_,h=>by
  simp only[aR]at h;obtain⟨v,ia,rfl,_,_,hr⟩:=h;simp[aR.length hr]
theorem dx.length:∀{ts:List T} {vs:List Value},dx w W ts vs->vs.length=ts.length
 |[],_,h=>by simp only[dx]at h;simp[h]
 |_::ts,_,h=>by
  simp only[dx]at h;obtain⟨v,ia,rfl,_,hr⟩:=h;simp[dx.length hr]
theorem aR.get:∀{ts:List T} {vs:List Value} {i:Nat} {t:T},aR w W ts vs->ts[i]? =some t->∃v,vs[i]? =some v/\v.oneCell'=true/\aS w W t v
 |[],_,_,_,_,h=>by simp at h
 |x::xs,_,0,t,hr,h=>by
  simp only[aR]at hr;obtain⟨v,ia,rfl,h1,h2,_⟩:=hr;simp only[ZaG,Zaa]at h;subst h;exact⟨v,rfl,h1,h2⟩
 |x::xs,_,i+1,t,hr,h=>by
  simp only[aR]at hr;obtain⟨v,ia,rfl,_,_,hr⟩:=hr;simpa using aR.get hr (by simpa using h)
theorem dx.get:∀{ts:List T} {vs:List Value} {i:Nat} {t:T},dx w W ts vs->ts[i]? =some t->∃v,vs[i]? =some v/\aS w W t v
 |[],_,_,_,_,h=>by simp at h
 |x::xs,_,0,t,hr,h=>by
  simp only[dx]at hr;obtain⟨v,ia,rfl,h2,_⟩:=hr;simp only[ZaG,Zaa]at h;subst h;exact⟨v,rfl,h2⟩
 |x::xs,_,i+1,t,hr,h=>by
  simp only[dx]at hr;obtain⟨v,ia,rfl,_,hr⟩:=hr;simpa using dx.get hr (by simpa using h)
end
class Laid where
 cells:List (Nat×List T)
abbrev Laid.none:Laid:=⟨[]⟩
def Ab [Laid](w:World)(W:Nat->Prop):Prop:=∀p∈Laid.cells,p.1<w.heap.size/\¬W p.1/\cY w W p.1 0 p.2
theorem Ab.aD [Laid]{w w':World}{W W':Nat->Prop}(h:Ab w W)(hk:KeepsC W w w')(hW:∀b,b<w.heap.size->W' b->W b):Ab w' W':=λp hp=>by
 obtain⟨h1,h2,h3⟩:=h p hp;exact⟨ZaR h1 hk.size,λx=>h2 (hW _ h1 x),cY.aD hk hW h1 h2 0 p.2 h3⟩
theorem Ab.empty(w:World)(W:Nat->Prop): @Ab Laid.none w W:=λp hp=>by cases hp
end Go.DM
namespace Go.DM
inductive DV where
 |undef
 |skip
 |v (t:T)
 |aJ
 |ptr (r off:Nat)
 |bd (r ver:Nat)
 |kL (rows:List (List T)) (i:Int) (off:Nat)
 |gE (cs:List T) (off:Nat)
 |jh (r ver:Nat) (i:Int) (off:Nat)
 |agg (cs:List DV)
 |C1
 |iC (r:Nat)
 |iter (r:Nat)
 |eC (ds:List DV)
 |s8 (r ver lo n:Nat)
 |mF (f:Fn) (caps:List DV)
 |Es (r n:Nat)
instance:Inhabited DV:=⟨.undef⟩
inductive Sh where
 |bool|int (k:IntKind)|str
def Et:Sh->T->Bool
 |.bool,.bool _=>true
 |.int k,.int k' _=>k==k'
 |.str,.str _=>true
 |_,_=>false
def dj:List Sh->List T->Prop
 |[],ts=>ts=[]
 |s::ss,t::ts=>Et s t=true/\dj ss ts
 |_::_,[]=>False
inductive Ob where
 |box (cs:List DV)
 |arr (ver e sz:Nat) (rows:List (List T))
 |map (shs:List Sh) (agg:Bool) (clock:Nat) (es:List (Nat×T×DV))
 |iter (m since:Nat) (seen:List Nat) (last:Nat)
def Ob.kind:Ob->Nat
 |.box _=>0
 |.arr _ _ _ _=>1
 |.map _ _ _ _=>2
 |.iter _ _ _ _=>3
abbrev aU:=Nat->Option Ob
structure lj where
 tmps:Nat->DV
 objs:aU
 nxt:Nat
 low:Nat
 todo:List (List T)
inductive bp where
 |tmp (t:Nat)
 |cm (d:DV)
def bp.ev(ρ:Nat->DV):bp->DV
 |.tmp t=>ρ t
 |.cm d=>d
structure iD where
 ok:Prop
 val:DV
 objs:aU
structure Spec where
 pre:List T->Prop
 fn:List T->T
 scalar:Bool
 st:Option (List DV->aU->iD):=none
 fresh:Option (Nat×Nat):=none
 lend:Bool:=false
abbrev Env:=FuncId->Option Spec
inductive nO where
 |bL (x:bp)
 |pick (c a b:bp)
 |alloc (zero:List DV)
 |box (x:bp)
 |build (zero:List DV) (parts:List (Nat×Nat×bp))
 |bslice (len sz:Nat) (zero:List DV) (parts:List (Nat×Nat×bp))
 |load (n:Nat) (agg:Bool) (x:bp)
 |store (n:Nat) (x y:bp)
 |bin (op:BinOp) (x y:bp)
 |eqT (neg agg:Bool) (shs:List Sh) (x y:bp)
 |un (op:UnOp) (x:bp)
 |conv (k:IntKind) (x:bp)
 |addOff (k:Nat) (x:bp)
 |nilCheck (x:bp)
 |idxAddr (sz:Nat) (x i:bp)
 |arrAddr (len sz:Nat) (x i:bp)
 |field (off n:Nat) (agg:Bool) (x:bp)
 |slice (sz:Nat) (x:bp) (lo hi:Option bp)
 |extract (i:Nat) (x:bp)
 |call (f:FuncId) (args:List bp)
 |callS (f:FuncId) (args:List bp)
 |callF (f:FuncId) (args:List bp)
 |callR (f:FuncId) (args:List bp)
 |callv (x:bp) (args:List bp)
 |len (x:bp)
 |lenS (x:bp)
 |minmax (isMax:Bool) (x y:bp)
 |append (e sz bytes:Nat) (x y:bp)
 |mkSlice (e sz bytes:Nat) (zero:List T) (n:bp)
 |mkSliceB (e sz bytes:Nat) (zero:List T) (n:bp)
 |mkFn (f:Fn) (caps:List bp)
 |mkMap (shs:List Sh) (agg:Bool)
 |lookup (shs:List Sh) (agg:Bool) (zero:DV) (ok:Bool) (x k:bp)
 |mapUpd (shs:List Sh) (agg:Bool) (x k y:bp)
 |mapDel (shs:List Sh) (agg:Bool) (x k:bp)
 |mapEnt (shs:List Sh) (agg:Bool) (zero:DV) (x k:bp)
 |entSt (x s y:bp)
 |lenM (x:bp)
 |rangeM (x:bp)
 |entryM (x:bp)
 |copy (sz:Nat) (x y:bp)
 |isNil (kind:Nat) (neg:Bool) (x:bp)
 |indexS (x i:bp)
 |fail
structure oF where
 ok:Prop
 val:DV
 put:Option (Nat×Ob):=none
def bad:oF:=⟨False,.undef,none⟩
def Ac:T->Bool
 |.agg _|.eC _=>false
 |.raw v=>v.oneCell'
 |_=>true
def cellsOf:DV->List DV
 |.v (.agg cs)=>cs.map .v
 |.agg cs=>cs
 |d=>[d]
def lk:DV->Prop
 |.undef=>False
 |.skip=>False
 |.v (.eC _)=>False
 |.v (.raw x)=>x.oneCell'=true
 |.eC _=>False
 |_=>True
mutual
def qw(objs:aU):DV->T
 |.v t=>t
 |.aJ=>.sl []
 |.bd r _=>match objs r with|some (.arr _ _ _ rows)=>.sl rows|_=>.sl []
 |.agg cs=>.agg (gR objs cs)
 |.s8 r _ lo n=>match objs r with|some (.arr _ _ _ rows)=>.sl ((rows.drop lo).take n)|_=>.sl []
 |.mF f caps=>.fn f (gR objs caps)
 |_=>.raw undef
def gR(objs:aU):List DV->List T
 |[]=>[]
 |d::ds=>qw objs d::gR objs ds
end
mutual
def Cv(lend:Bool)(objs:aU):DV->Prop
 |.v _=>True
 |.aJ=>True
 |.bd r ver=>lend=true/\match objs r with|some (.arr ver' _ _ _)=>ver=ver'|_=>False
 |.agg cs=>qQ lend objs cs
 |.s8 r ver lo n=>lend=true/\match objs r with|some (.arr ver' _ _ rows)=>ver=ver'/\lo+n<=rows.length|_=>False
 |.mF _ caps=>qQ lend objs caps
 |_=>False
def qQ(lend:Bool)(objs:aU):List DV->Prop
 |[]=>True
 |d::ds=>Cv lend objs d/\qQ lend objs ds
end
def qR:DV->Prop
 |.v t=>Ac t=true
 |.aJ=>True
 |_=>False
def gM:List DV->Prop
 |[]=>True
 |d::ds=>qR d/\gM ds
def uV:List DV->Bool
 |[]=>true
 |.v t::ds=>Ac t&&uV ds
 |.aJ::ds=>uV ds
 |_::_=>false
def ji:DV->Prop
 |.undef=>False
 |.skip=>False
 |.v t=>Ac t=true
 |.agg _=>False
 |.eC _=>False
 |_=>True
def dw:List DV->Prop
 |[]=>True
 |d::ds=>ji d/\dw ds
def bI{α:Type}(l:List α)(off:Nat)(new:List α):List α:=l.take off++new++l.drop (off+new.length)
def tn(cells:List DV):List (Nat×Nat×DV)->List DV
 |[]=>cells
 |(off,_,d)::ps=>tn (bI cells off (cellsOf d)) ps
def qS(n:Nat):List (Nat×Nat×DV)->Prop
 |[]=>True
 |(off,sz,d)::ps=>(cellsOf d).length=sz/\off+sz<=n/\dw (cellsOf d)/\qS n ps
def rowAt(rows:List (List T))(i:Int):List T:=rows.getD i.toNat []
def chunk(sz:Nat):Nat->List T->List (List T)
 |0,_=>[]
 |n+1,cs=>cs.take sz::chunk sz n (cs.drop sz)
def ga(n:Nat)(agg:Bool)(objs:aU):DV->oF
 |.ptr r off=>match objs r with
  |some (.box cs)=>⟨off+n<=cs.length/\(agg=true\/n=1),if agg then .agg ((cs.drop off).take n)else cs.getD off .undef,none⟩
  |_=>bad
 |.kL rows i off=>⟨off+n<=(rowAt rows i).length/\(agg=true\/n=1),if agg then .v (.agg (((rowAt rows i).drop off).take n))else .v ((rowAt rows i).getD off default),none⟩
 |.gE cs off=>⟨off+n<=cs.length/\(agg=true\/n=1),if agg then .v (.agg ((cs.drop off).take n))else .v (cs.getD off default),none⟩
 |.v (.box cs)=>⟨n<=cs.length/\(agg=true\/n=1),if agg then .v (.agg (cs.take n))else .v (cs.getD 0 default),none⟩
 |.jh r ver i off=>match objs r with
  |some (.arr ver' _ _ rows)=>⟨ver=ver'/\off+n<=(rowAt rows i).length/\(agg=true\/n=1),if agg then .v (.agg (((rowAt rows i).drop off).take n))else .v ((rowAt rows i).getD off default),none⟩
  |_=>bad
 |_=>bad
def jR(n:Nat)(objs:aU)(y:DV):DV->oF
 |.ptr r off=>match objs r with
  |some (.box cs)=>⟨(cellsOf y).length=n/\off+n<=cs.length/\dw (cellsOf y),.undef,some (r,.box (bI cs off (cellsOf y)))⟩
  |_=>bad
 |.jh r ver i off=>match objs r with
  |some (.arr ver' e sz rows)=>⟨ver=ver'/\(cellsOf y).length=n/\off+n<=sz/\gM (cellsOf y),.undef,
    some (r,.arr ver' e sz (rows.set i.toNat (bI (rowAt rows i) off (gR objs (cellsOf y)))))⟩
  |_=>bad
 |_=>bad
def qT(op:BinOp):DV->DV->oF
 |.v (.int k a),.v (.int k' b)=>match op with
  |.add=>⟨k=k',.v (.int k (k.wrap (a+b))),none⟩
  |.sub=>⟨k=k',.v (.int k (k.wrap (a-b))),none⟩
  |.mul=>⟨k=k',.v (.int k (k.wrap (a*b))),none⟩
  |.quo=>⟨k=k'/\b≠0,.v (.int k (k.wrap (a.tdiv b))),none⟩
  |.rem=>⟨k=k'/\b≠0,.v (.int k (a.tmod b)),none⟩
  |.eql=>⟨k=k',.v (.bool (decide (a=b))),none⟩
  |.neq=>⟨k=k',.v (.bool (!decide (a=b))),none⟩
  |.lss=>⟨k=k',.v (.bool (decide (a<b))),none⟩
  |.leq=>⟨k=k',.v (.bool (decide (a<=b))),none⟩
  |.gtr=>⟨k=k',.v (.bool (decide (b<a))),none⟩
  |.geq=>⟨k=k',.v (.bool (decide (b<=a))),none⟩
  |.shl=>⟨0<=b,.v (.int k (k.wrap (a*2^min b.toNat k.bits))),none⟩
  |.shr=>⟨0<=b,.v (.int k (a/2^min b.toNat k.bits)),none⟩
  |.and=>⟨k=k',.v (.int k (k.wrap (BitVec.ofInt k.bits a&&&BitVec.ofInt k.bits b).toNat)),none⟩
  |.or=>⟨k=k',.v (.int k (k.wrap (BitVec.ofInt k.bits a|||BitVec.ofInt k.bits b).toNat)),none⟩
  |.xor=>⟨k=k',.v (.int k (k.wrap (BitVec.ofInt k.bits a^^^BitVec.ofInt k.bits b).toNat)),none⟩
  |_=>bad
 |_,_=>bad
mutual
def fe:T->T->Bool
 |.bool a,.bool b=>a==b
 |.int _ a,.int _ b=>decide (a=b)
 |.str a,.str b=>decide (a=b)
 |.agg as,.agg bs=>oG as bs
 |_,_=>false
def oG:List T->List T->Bool
 |[],[]=>true
 |a::as,b::bs=>fe a b&&oG as bs
 |_,_=>false
end
def Ad(neg agg:Bool)(shs:List Sh):T->T->oF
 |.agg as,.agg bs=>⟨agg=true/\dj shs as/\dj shs bs,.v (.bool (neg^^oG as bs)),none⟩
 |a,b=>⟨agg=false/\dj shs [a]/\dj shs [b],.v (.bool (neg^^fe a b)),none⟩
def MS(op:UnOp):DV->oF
 |.v (.bool b)=>match op with
  |.not=>⟨True,.v (.bool (!b)),none⟩
  |_=>bad
 |.v (.int k n)=>match op with
  |.neg=>⟨True,.v (.int k (k.wrap (-n))),none⟩
  |_=>bad
 |_=>bad
def fR(k:Nat):DV->oF
 |.ptr r off=>⟨True,.ptr r (off+k),none⟩
 |.kL rows i off=>⟨True,.kL rows i (off+k),none⟩
 |.gE cs off=>⟨True,.gE cs (off+k),none⟩
 |.v (.box cs)=>⟨True,.gE cs k,none⟩
 |.jh r ver i off=>⟨True,.jh r ver i (off+k),none⟩
 |_=>bad
def jx:DV->oF
 |.ptr r off=>⟨True,.ptr r off,none⟩
 |.kL rows i off=>⟨True,.kL rows i off,none⟩
 |.gE cs off=>⟨True,.gE cs off,none⟩
 |.v (.box cs)=>⟨True,.v (.box cs),none⟩
 |.jh r ver i off=>⟨True,.jh r ver i off,none⟩
 |.v (.fn (.func f) caps)=>⟨True,.v (.fn (.func f) caps),none⟩
 |_=>bad
def pg(sz:Nat)(objs:aU):DV->DV->oF
 |.v (.sl rows),.v (.int _ i)=>⟨0<=i/\i<rows.length/\(rowAt rows i).length=sz,.kL rows i 0,none⟩
 |.bd r ver,.v (.int _ i)=>match objs r with
  |some (.arr ver' _ gb rows)=>⟨ver=ver'/\gb=sz/\0<=i/\i<rows.length,.jh r ver i 0,none⟩
  |_=>bad
 |.s8 r ver lo n,.v (.int _ i)=>match objs r with
  |some (.arr ver' _ gb rows)=>⟨ver=ver'/\gb=sz/\0<=i/\i<n,.jh r ver (lo+i) 0,none⟩
  |_=>bad
 |.Es r n,.v (.int _ i)=>⟨0<=i/\i<n,.ptr r (i.toNat*sz),none⟩
 |_,_=>bad
def jq(len sz:Nat):DV->DV->oF
 |.ptr r off,.v (.int _ i)=>⟨0<=i/\i<len,.ptr r (off+i.toNat*sz),none⟩
 |.kL rows j off,.v (.int _ i)=>⟨0<=i/\i<len,.kL rows j (off+i.toNat*sz),none⟩
 |.gE cs off,.v (.int _ i)=>⟨0<=i/\i<len,.gE cs (off+i.toNat*sz),none⟩
 |.v (.box cs),.v (.int _ i)=>⟨0<=i/\i<len,.gE cs (i.toNat*sz),none⟩
 |.jh r ver j off,.v (.int _ i)=>⟨0<=i/\i<len,.jh r ver j (off+i.toNat*sz),none⟩
 |_,_=>bad
def lu:DV->Option (List DV)
 |.v (.agg cs)=>some (cs.map .v)
 |.agg cs=>some cs
 |_=>none
def mG(off n:Nat)(agg:Bool)(x:DV):oF:=
 match lu x with
 |some cs=>⟨off+n<=cs.length/\(agg=true\/n=1),if agg then .agg ((cs.drop off).take n)else cs.getD off .undef,none⟩
 |none=>bad
def Ae :DV->Option Int
 |.v (.int _ n)=>some n
 |_=>none
def Af:Option DV->Option Int
 |none=>some 0
 |some d=>Ae d
def Ag(n:Int):Option DV->Option Int
 |none=>some n
 |some d=>Ae d
def ij(sz:Nat)(lo hi:Option DV)(objs:aU):DV->oF
 |.v (.sl rows)=>
  match Af lo,Ag rows.length hi with
  |some l,some h=>⟨0<=l/\l<=h/\h<=rows.length/\(∀r∈rows,r.length=sz),.v (.sl ((rows.take h.toNat).drop l.toNat)),none⟩
  |_,_=>bad
 |.aJ=>
  match Af lo,Ag 0 hi with
  |some l,some h=>⟨l=0/\h=0,.aJ,none⟩
  |_,_=>bad
 |.bd r ver=>match objs r with
  |some (.arr ver' _ gb rows)=>match Af lo,Ag rows.length hi with
   |some l,some h=>⟨ver=ver'/\gb=sz/\0<=l/\l<=h/\h<=rows.length,.s8 r ver l.toNat (h.toNat-l.toNat),none⟩
   |_,_=>bad
  |_=>bad
 |.s8 r ver lo' n=>match objs r with
  |some (.arr ver' _ gb rows)=>match Af lo,Ag n hi with
   |some l,some h=>⟨ver=ver'/\gb=sz/\0<=l/\l<=h/\h<=n,.s8 r ver (lo'+l.toNat) (h.toNat-l.toNat),none⟩
   |_,_=>bad
  |_=>bad
 |_=>bad
def ph(i:Nat):DV->oF
 |.v (.eC ts)=>⟨i<ts.length,.v (ts.getD i default),none⟩
 |.eC ds=>⟨i<ds.length,ds.getD i .undef,none⟩
 |_=>bad
def tQ(objs:aU):DV->oF
 |.v (.sl rows)=>⟨True,.v (.int .i64 rows.length),none⟩
 |.aJ=>⟨True,.v (.int .i64 0),none⟩
 |.bd r ver=>match objs r with
  |some (.arr ver' _ _ rows)=>⟨ver=ver',.v (.int .i64 rows.length),none⟩
  |_=>bad
 |.s8 _ _ _ n=>⟨True,.v (.int .i64 n),none⟩
 |.Es _ n=>⟨True,.v (.int .i64 n),none⟩
 |_=>bad
def sr:DV->oF
 |.v (.str s)=>⟨True,.v (.int .i64 s.size),none⟩
 |_=>bad
def mr(isMax:Bool):DV->DV->oF
 |.v (.int k a),.v (.int k' b)=>⟨k=k',.v (.int k (if isMax then max a b else min a b)),none⟩
 |_,_=>bad
def dY(objs:aU):DV->Option (List (List T))
 |.v (.sl rows)=>some rows
 |.aJ=>some []
 |.bd r ver=>match objs r with
  |some (.arr ver' _ _ rows)=>if ver=ver' then some rows else none
  |_=>none
 |.s8 r ver lo n=>match objs r with
  |some (.arr ver' _ _ rows)=>if ver=ver' then some ((rows.drop lo).take n)else none
  |_=>none
 |.v (.raw (.slice _ 0 _))=>some []
 |_=>none
def cF(bytes n:Nat):Prop:=n*bytes<=140737488355328/\n<=140737488355328
def fS(e sz bytes:Nat)(name:Nat)(objs:aU)(x y:DV):oF:=
 match dY objs y with
 |none=>bad
 |some ys=>
  match x with
  |.aJ=>⟨(∀r∈ys,r.length=sz)/\cF bytes ys.length,.bd name 0,some (name,.arr 0 e sz ys)⟩
  |.bd r ver=>match objs r with
   |some (.arr ver' e' gb rows)=>⟨ver=ver'/\e'=e/\gb=sz/\(∀r∈ys,r.length=sz)/\cF bytes (rows.length+ys.length),.bd r (ver+1),some (r,.arr (ver+1) e sz (rows++ys))⟩
   |_=>bad
  |.s8 r ver 0 n=>match objs r with
   |some (.arr ver' e' gb rows)=>⟨ver=ver'/\e'=e/\gb=sz/\(∀r∈ys,r.length=sz)/\cF bytes (n+ys.length),.bd r (ver+1),some (r,.arr (ver+1) e sz (rows.take n++ys))⟩
   |_=>bad
  |_=>bad
def jS(e sz bytes:Nat)(zero:List T)(name:Nat):DV->oF
 |.v (.int _ n)=>⟨0<=n/\zero.length=sz/\cF bytes n.toNat,.bd name 0,some (name,.arr 0 e sz (List.replicate n.toNat zero))⟩
 |_=>bad
def C2:T->DV
 |.sl []=>.aJ
 |t=>.v t
def eG(sz bytes:Nat)(zero:List T)(name:Nat):DV->oF
 |.v (.int _ n)=>⟨0<=n/\zero.length=sz/\cF bytes n.toNat,.Es name n.toNat,some (name,.box (List.replicate n.toNat (zero.map C2)).flatten)⟩
 |_=>bad
def iE(sz:Nat)(objs:aU)(x y:DV):oF:=
 match dY objs y with
 |none=>bad
 |some ys=>
  match x with
  |.bd r ver=>match objs r with
   |some (.arr ver' e gb rows)=>⟨ver=ver'/\gb=sz/\(∀r∈ys,r.length=sz),.v (.int .i64 (min ys.length rows.length:Nat)),some (r,.arr ver e sz (bI rows 0 (ys.take rows.length)))⟩
   |_=>bad
  |.s8 r ver lo n=>match objs r with
   |some (.arr ver' e gb rows)=>⟨ver=ver'/\gb=sz/\(∀r∈ys,r.length=sz),.v (.int .i64 (min ys.length n:Nat)),some (r,.arr ver e sz (bI rows lo (ys.take n)))⟩
   |_=>bad
  |_=>bad
def eH(kind:Nat)(neg:Bool)(objs:aU):DV->oF
 |.v (.raw (.slice p _ _))=>⟨kind=0,.v (.bool (neg^^p.isNone)),none⟩
 |.v (.raw (.pointer p))=>⟨kind=1,.v (.bool (neg^^p.isNone)),none⟩
 |.v (.raw .nilFunc)=>⟨kind=2,.v (.bool (neg^^true)),none⟩
 |.v (.sl rows)=>⟨kind=0/\rows≠[],.v (.bool (neg^^false)),none⟩
 |.v (.fn (.func _) _)=>⟨kind=2,.v (.bool (neg^^false)),none⟩
 |.v (.box _)=>⟨kind=1,.v (.bool (neg^^false)),none⟩
 |.ptr _ _|.gE _ _|.kL _ _ _|.jh _ _ _ _=>⟨kind=1,.v (.bool (neg^^false)),none⟩
 |.mF (.func _) _=>⟨kind=2,.v (.bool (neg^^false)),none⟩
 |.bd r ver=>match objs r with
  |some (.arr ver' _ _ rows)=>⟨kind=0/\ver=ver'/\rows≠[],.v (.bool (neg^^false)),none⟩
  |_=>bad
 |_=>bad
def mu:DV->DV->oF
 |.v (.str s),.v (.int _ i)=>⟨0<=i/\i<s.size,.v (.int .u8 (s.data.getD i.toNat 0).toNat),none⟩
 |_,_=>bad
def dm(shs:List Sh)(agg:Bool):T->Prop
 |.agg as=>agg=true/\dj shs as
 |t=>agg=false/\dj shs [t]
def J3:List DV->Option (List T)
 |[]=>some []
 |.v t::ds=>(J3 ds).map (t::·)
 |_::_=>none
def wR:DV->Option T
 |.v t=>some t
 |.agg cs=>(J3 cs).map .agg
 |_=>none
def oH(k:T)(es:List (Nat×T×DV)):Option (Nat×T×DV):=es.find? λe=>fe k e.2.1
def Eu(k:T)(y:DV)(clock:Nat)(es:List (Nat×T×DV)):List (Nat×T×DV):=
 match es.findIdx? λe=>fe k e.2.1 with
 |some i=>es.modify i λe=>(e.1,e.2.1,y)
 |none=>es++[(clock,k,y)]
def mH(k:T)(clock:Nat)(es:List (Nat×T×DV)):Nat:=
 match es.findIdx? λe=>fe k e.2.1 with
 |some _=>clock
 |none=>clock+1
def XU(k:T)(es:List (Nat×T×DV)):List (Nat×T×DV):=
 match es.findIdx? λe=>fe k e.2.1 with
 |some i=>es.eraseIdx i
 |none=>es
def kM(shs:List Sh)(agg:Bool)(zero:DV)(ok:Bool)(objs:aU)(x k:DV):oF:=
 match x,wR k with
 |.iC r,some kt=>match objs r with
  |some (.map shs' agg' _ es)=>⟨shs'=shs/\agg'=agg/\dm shs agg kt,
    match oH kt es with
    |some e=>if ok then .eC [e.2.2,.v (.bool true)]else e.2.2
    |none=>if ok then .eC [zero,.v (.bool false)]else zero,none⟩
  |_=>bad
 |_,_=>bad
def gN(shs:List Sh)(agg:Bool)(objs:aU)(x k y:DV):oF:=
 match x,wR k with
 |.iC r,some kt=>match objs r with
  |some (.map shs' agg' c es)=>⟨shs'=shs/\agg'=agg/\dm shs agg kt/\lk y,.undef,some (r,.map shs agg (mH kt c es) (Eu kt y c es))⟩
  |_=>bad
 |_,_=>bad
def XV(k:T)(z:DV)(clock:Nat)(es:List (Nat×T×DV)):List (Nat×T×DV):=
 match es.findIdx? λe=>fe k e.2.1 with
 |some _=>es
 |none=>es++[(clock,k,z)]
def XW(k:T)(z:DV)(clock:Nat)(es:List (Nat×T×DV)):DV:=
 match oH k es with
 |some e=>.eC [e.2.2,.v (.int .i64 e.1)]
 |none=>.eC [z,.v (.int .i64 clock)]
def gO(shs:List Sh)(agg:Bool)(zero:DV)(objs:aU)(x k:DV):oF:=
 match x,wR k with
 |.iC r,some kt=>match objs r with
  |some (.map shs' agg' c es)=>⟨shs'=shs/\agg'=agg/\dm shs agg kt,
    XW kt zero c es,some (r,.map shs agg (mH kt c es) (XV kt zero c es))⟩
  |_=>bad
 |_,_=>bad
def XX(b:Int)(y:DV)(es:List (Nat×T×DV)):Option (List (Nat×T×DV)):=
 (es.findIdx? λe=>(e.1:Int)==b).map λi=>es.modify i λe=>(e.1,e.2.1,y)
def jj(objs:aU)(x s y:DV):oF:=
 match x,s with
 |.iC r,.v (.int _ b)=>match objs r with
  |some (.map shs agg c es)=>match XX b y es with
   |some es'=>⟨True,.undef,some (r,.map shs agg c es')⟩
   |none=>bad
  |_=>bad
 |_,_=>bad
def gP(shs:List Sh)(agg:Bool)(objs:aU)(x k:DV):oF:=
 match x,wR k with
 |.iC r,some kt=>match objs r with
  |some (.map shs' agg' c es)=>⟨shs'=shs/\agg'=agg/\dm shs agg kt,.v (.eC []),some (r,.map shs agg c (XU kt es))⟩
  |_=>bad
 |_,_=>bad
def pj(objs:aU):DV->oF
 |.iC r=>match objs r with
  |some (.map _ _ _ es)=>⟨True,.v (.int .i64 es.length),none⟩
  |_=>bad
 |_=>bad
def jy(name:Nat)(objs:aU):DV->oF
 |.iC r=>match objs r with
  |some (.map _ _ c _)=>⟨True,.iter name,some (name,.iter r c [] c)⟩
  |_=>bad
 |_=>bad
def jz(objs:aU):DV->oF
 |.iter r=>match objs r with
  |some (.iter m _ seen last)=>match objs m,seen.getLast? with
   |some (.map _ _ c es),some b=>match es.find? λe=>e.1==b with
    |some e=>⟨c=last,.eC [.v e.2.1,e.2.2],none⟩
    |none=>bad
   |_,_=>bad
  |_=>bad
 |_=>bad
def nA(Γ:Env)(f:FuncId)(objs:aU)(args:List DV):oF:=
 match Γ f with
 |some s=>⟨qQ s.scalar objs args/\s.pre (gR objs args),.v (s.fn (gR objs args)),none⟩
 |none=>bad
mutual
def names:DV->List Nat
 |.ptr r _|.bd r _|.jh r _ _ _|.iC r|.iter r|.s8 r _ _ _|.Es r _=>[r]
 |.agg cs|.eC cs|.mF _ cs=>bM cs
 |_=>[]
def bM:List DV->List Nat
 |[]=>[]
 |d::ds=>names d++bM ds
end
def yj(objs:aU)(args:List DV):aU:=λn=>if n∈bM args then objs n else none
def wS(k:List DV->aU->iD)(args:List DV)(objs:aU):Prop:=
 ∀aB,(∀n∈bM args,aB n=objs n)->(k args aB).ok/\(k args aB).objs=aB/\(k args aB).val=(k args (yj objs args)).val
def mI(Γ:Env)(f:FuncId)(objs:aU)(args:List DV):oF:=
 match Γ f with
 |some s=>match s.st with
  |some k=>⟨wS k args objs,(k args (yj objs args)).val,none⟩
  |none=>bad
 |none=>bad
theorem Ev{Γ:Env}{f:FuncId}{objs aB:aU}{args:List DV}(h:∀n∈bM args,aB n=objs n):mI Γ f aB args=mI Γ f objs args:=by
 have h1:yj aB args=yj objs args:=by
  funext n;unfold yj;split
  ·rename_i hn;exact h n hn
  ·rfl
 have h2:∀k,wS k args aB=wS k args objs:=by
  intro k;unfold wS;rw[h1];apply propext;constructor
  ·exact λH o ho=>H o λn hn=>(ho n hn).trans (h n hn).symm
  ·exact λH o ho=>H o λn hn=>(ho n hn).trans (h n hn)
 unfold mI;simp only[h1,h2]
def mJ(Γ:Env)(f:FuncId)(name:Nat)(objs:aU)(args:List DV):oF:=
 match Γ f with
 |some s=>match s.fresh,s.fn (gR objs args)with
  |some (e,sz),.sl rows=>⟨qQ s.lend objs args/\s.pre (gR objs args),.bd name 0,some (name,.arr 0 e sz rows)⟩
  |_,_=>bad
 |none=>bad
def cy(Γ:Env)(d:nO)(name:Nat)(ρ:Nat->DV)(objs:aU):oF:=
 match d with
 |.bL x=>⟨True,x.ev ρ,none⟩
 |.pick c a b=>match c.ev ρ with
  |.v (.bool t)=>⟨True,if t then a.ev ρ else b.ev ρ,none⟩
  |_=>bad
 |.alloc zero=>⟨True,.ptr name 0,some (name,.box zero)⟩
 |.box x=>⟨lk (x.ev ρ),.ptr name 0,some (name,.box (cellsOf (x.ev ρ)))⟩
 |.build zero parts=>⟨qS zero.length (parts.map λp=>(p.1,p.2.1,p.2.2.ev ρ)),.agg (tn zero (parts.map λp=>(p.1,p.2.1,p.2.2.ev ρ))),none⟩
 |.bslice len sz zero parts=>
  if len=0 then⟨parts=[],.aJ,none⟩else
  ⟨qS (len*sz) (parts.map λp=>(p.1,p.2.1,p.2.2.ev ρ))/\gM (tn zero (parts.map λp=>(p.1,p.2.1,p.2.2.ev ρ))),
   .v (.sl (chunk sz len (gR (λ_=>none) (tn zero (parts.map λp=>(p.1,p.2.1,p.2.2.ev ρ)))))),none⟩
 |.load n agg x=>ga n agg objs (x.ev ρ)
 |.store n x y=>jR n objs (y.ev ρ) (x.ev ρ)
 |.bin op x y=>qT op (x.ev ρ) (y.ev ρ)
 |.eqT neg agg shs x y=>⟨Cv true objs (x.ev ρ)/\Cv true objs (y.ev ρ)/\(Ad neg agg shs (qw objs (x.ev ρ)) (qw objs (y.ev ρ))).ok,(Ad neg agg shs (qw objs (x.ev ρ)) (qw objs (y.ev ρ))).val,none⟩
 |.un op x=>MS op (x.ev ρ)
 |.conv k x=>match x.ev ρ with
  |.v (.int _ n)=>⟨True,.v (.int k (k.wrap n)),none⟩
  |_=>bad
 |.addOff k x=>fR k (x.ev ρ)
 |.nilCheck x=>jx (x.ev ρ)
 |.idxAddr sz x i=>pg sz objs (x.ev ρ) (i.ev ρ)
 |.arrAddr len sz x i=>jq len sz (x.ev ρ) (i.ev ρ)
 |.field off n agg x=>mG off n agg (x.ev ρ)
 |.slice sz x lo hi=>ij sz (lo.map (·.ev ρ)) (hi.map (·.ev ρ)) objs (x.ev ρ)
 |.extract i x=>ph i (x.ev ρ)
 |.call f args=>nA Γ f objs (args.map (·.ev ρ))
 |.callF f args=>mJ Γ f name objs (args.map (·.ev ρ))
 |.callR f args=>mI Γ f objs (args.map (·.ev ρ))
 |.callS _ _|.callv _ _|.entryM _=>bad
 |.len x=>tQ objs (x.ev ρ)
 |.lenS x=>sr (x.ev ρ)
 |.minmax m x y=>mr m (x.ev ρ) (y.ev ρ)
 |.append e sz bytes x y=>fS e sz bytes name objs (x.ev ρ) (y.ev ρ)
 |.mkSlice e sz bytes zero n=>jS e sz bytes zero name (n.ev ρ)
 |.mkSliceB e sz bytes zero n=>eG sz bytes zero name (n.ev ρ)
 |.mkFn f caps=>⟨dw (caps.map (·.ev ρ)),if uV (caps.map (·.ev ρ))then .v (.fn f (gR (λ_=>none) (caps.map (·.ev ρ))))else .mF f (caps.map (·.ev ρ)),none⟩
 |.mkMap shs agg=>⟨True,.iC name,some (name,.map shs agg 0 [])⟩
 |.lookup shs agg zero ok x k=>kM shs agg zero ok objs (x.ev ρ) (k.ev ρ)
 |.mapUpd shs agg x k y=>gN shs agg objs (x.ev ρ) (k.ev ρ) (y.ev ρ)
 |.mapDel shs agg x k=>gP shs agg objs (x.ev ρ) (k.ev ρ)
 |.mapEnt shs agg z x k=>gO shs agg z objs (x.ev ρ) (k.ev ρ)
 |.entSt x s y=>jj objs (x.ev ρ) (s.ev ρ) (y.ev ρ)
 |.lenM x=>pj objs (x.ev ρ)
 |.rangeM x=>jy name objs (x.ev ρ)
 |.copy sz x y=>iE sz objs (x.ev ρ) (y.ev ρ)
 |.isNil kind neg x=>eH kind neg objs (x.ev ρ)
 |.indexS x i=>mu (x.ev ρ) (i.ev ρ)
 |.fail=>bad
def o9:nO->Bool
 |.callS _ _|.callv _ _|.entryM _=>true
 |_=>false
structure SEff where
 ok:Prop
 val:DV
 objs:aU
 todo:List (List T)
def ma(Γ:Env)(d:nO)(ρ:Nat->DV)(objs:aU)(todo:List (List T)):SEff:=
 match d with
 |.callS f args=>match Γ f with
  |some s=>match s.st with
   |some k=>⟨(k (args.map (·.ev ρ)) objs).ok,(k (args.map (·.ev ρ)) objs).val,(k (args.map (·.ev ρ)) objs).objs,todo⟩
   |none=>⟨False,.undef,objs,todo⟩
  |none=>⟨False,.undef,objs,todo⟩
 |.callv x args=>match x.ev ρ with
  |.v (.fn (.func f) caps)=>match Γ f with
   |some s=>match s.st with
    |some k=>⟨(k (args.map (·.ev ρ)++caps.map .v) objs).ok,(k (args.map (·.ev ρ)++caps.map .v) objs).val,(k (args.map (·.ev ρ)++caps.map .v) objs).objs,todo⟩
    |none=>⟨(nA Γ f objs (args.map (·.ev ρ)++caps.map .v)).ok,(nA Γ f objs (args.map (·.ev ρ)++caps.map .v)).val,objs,todo⟩
   |none=>⟨False,.undef,objs,todo⟩
  |.mF (.func f) caps=>match Γ f with
   |some s=>match s.st with
    |some k=>⟨(k (args.map (·.ev ρ)++caps) objs).ok,(k (args.map (·.ev ρ)++caps) objs).val,(k (args.map (·.ev ρ)++caps) objs).objs,todo⟩
    |none=>⟨False,.undef,objs,todo⟩
   |none=>⟨False,.undef,objs,todo⟩
  |.C1=>match todo with
   |x::rest=>⟨qQ false objs (args.map (·.ev ρ))/\gR objs (args.map (·.ev ρ))=x/\objs=(λ_=>none),.v (.bool true),objs,rest⟩
   |[]=>⟨False,.undef,objs,todo⟩
  |_=>⟨False,.undef,objs,todo⟩
 |.entryM x=>⟨(jz objs (x.ev ρ)).ok,(jz objs (x.ev ρ)).val,objs,todo⟩
 |_=>⟨False,.undef,objs,todo⟩
end Go.DM
namespace Go.DM
open Go.RowKit
structure Fr(base:Nat)(M:Nat->Prop)(w0 w:World):Prop where
 os:w.os=w0.os
 tape:w.tape=w0.tape
 output:w.output=w0.output
 ik:base<=w0.heap.size
 size:w0.heap.size<=w.heap.size
 block:∀k,k<base->¬M k->w.heap[k]? =w0.heap[k]?
 drawn:w0.drawn<=w.drawn
theorem Fr.refl{base:Nat}{M:Nat->Prop}{w:World}(h:base<=w.heap.size):Fr base M w w:=⟨rfl,rfl,rfl,h,Zae _,λ_ _ _=>rfl,Zae _⟩
theorem Fr.trans{base:Nat}{M:Nat->Prop}{a b c:World}(h:Fr base M a b)(k:Fr base M b c):Fr base M a c:=
 ⟨k.os.trans h.os,k.tape.trans h.tape,k.output.trans h.output,h.ik,ZaE h.size k.size,λi hi hm=>(k.block i hi hm).trans (h.block i hi hm),ZaE h.drawn k.drawn⟩
structure Loc where
 hY:Nat->Nat
 sl:Nat->Value
 yl:Nat:=0
def aP:Value->Option Nat
 |.slice (some a) _ c=>if c=0 then none else some a.block
 |_=>none
def Loc.own(L:Loc)(r:Nat):Ob->Option Nat
 |.arr _ _ _ _=>aP (L.sl r)
 |_=>some (L.hY r)
def WW(W:Nat->Prop)(objs:aU)(L:Loc)(b:Nat):Prop:=W b\/∃r o,objs r=some o/\L.own r o=some b
section
variable(w:World)(W:Nat->Prop)(objs:aU)(L:Loc)
mutual
def av:DV->Value->Prop
 |.undef,_=>True
 |.skip,x=>x=Go.undef
 |.v t,x=>aS w (WW W objs L) t x
 |.aJ,x=>∃a:Option Addr,x=.slice a 0 0
 |.ptr r off,x=>(∃cs,objs r=some (.box cs))/\x=.pointer (some ⟨L.hY r,off,none⟩)
 |.bd r ver,x=>(∃(p:Option Addr) (n c:Nat),x=.slice p n c)/\∃ver' e sz rows,objs r=some (.arr ver' e sz rows)/\ver<=ver'/\(ver=ver'->x=L.sl r)
 |.kL rows i off,x=>∃b o sz,x=.pointer (some ⟨b,o+i.toNat*sz+off,none⟩)/\b<w.heap.size/\¬WW W objs L b/\aY w (WW W objs L) sz b o rows/\0<=i/\i<rows.length
 |.gE cs off,x=>∃b o,x=.pointer (some ⟨b,o+off,none⟩)/\b<w.heap.size/\¬WW W objs L b/\cY w (WW W objs L) b o cs
 |.jh r ver i off,x=>(∃b o,x=.pointer (some ⟨b,o,none⟩))/\∃ver' e sz rows,objs r=some (.arr ver' e sz rows)/\ver<=ver'/\(ver=ver'->∃g,aP (L.sl r)=some g/\x=.pointer (some ⟨g,i.toNat*sz+off,none⟩)/\0<=i/\i<rows.length)
 |.agg cs,x=>∃vs,x=.agg vs/\aL cs vs.toList
 |.C1,x=>x=.func (.yield L.yl) #[] #[]
 |.iC r,x=>(∃shs agg c es,objs r=some (.map shs agg c es))/\x=.map (some (L.hY r))
 |.iter r,x=>(∃m s sn l,objs r=some (.iter m s sn l))/\x=.pointer (some ⟨L.hY r,0,none⟩)
 |.eC ds,x=>∃vs,x=.tuple vs/\eZ ds vs.toList
 |.s8 r ver lo n,x=>(∃(p:Option Addr) (c:Nat),x=.slice p n c)/\∃ver' e sz rows,objs r=some (.arr ver' e sz rows)/\ver<=ver'/\(ver=ver'->lo+n<=rows.length/\∃p cap p2,L.sl r=.slice p rows.length cap/\x=.slice p2 n (cap-lo)/\(lo<cap->p2=p.map (·.add (lo*sz))))
 |.mF f caps,x=>∃vs,x=.func f #[] vs/\aL caps vs.toList
 |.Es r n,x=>(∃cs,objs r=some (.box cs))/\x=.slice (some ⟨L.hY r,0,none⟩) n n
def aL:List DV->List Value->Prop
 |[],vs=>vs=[]
 |d::ds,vs=>∃x ia,vs=x::ia/\x.oneCell'=true/\av d x/\aL ds ia
def eZ:List DV->List Value->Prop
 |[],vs=>vs=[]
 |d::ds,vs=>∃x ia,vs=x::ia/\av d x/\eZ ds ia
end
def bk:List (Nat×T×DV)->List MapEntry->Prop
 |[],xs=>xs=[]
 |e::es,xs=>∃x jN,xs=x::jN/\x.born=e.1/\aS w (WW W objs L) e.2.1 x.key/\av w W objs L e.2.2 x.val/\bk es jN
def nu(base:Nat)(M:Nat->Prop)(r:Nat):Ob->Prop
 |.box cs=>∃c e,w.heap[L.hY r]? =some (.cells c e (0,0))/\aL w W objs L cs c.toList/\(base<=L.hY r\/M (L.hY r))
 |.arr _ e sz rows=>0<sz/\(∀x∈rows,x.length=sz)/\(∀g,aP (L.sl r)=some g->base<=g\/M g)/\
   ((rows=[]/\∃a:Option Addr,L.sl r=.slice a 0 0)\/
    ∃g cap cur,L.sl r=.slice (some ⟨g,0,none⟩) rows.length cap/\0<cap/\w.heap[g]? =some (.cells cur e (0,0))/\rows.length<=cap/\cap<=maxLen/\cur.size=cap*sz/\
     aR w (WW W objs L) rows.flatten (cur.toList.take (rows.length*sz)))
 |.map shs agg c es=>∃arr,w.heap[L.hY r]? =some (.map arr c)/\bk w W objs L es arr.toList/\(∀e∈es,dm shs agg e.2.1)/\(∀e∈es,e.1<c)/\(es.map (·.1)).Nodup/\(base<=L.hY r\/M (L.hY r))
 |.iter m s sn l=>w.heap[L.hY r]? =some (.mapIter (some (L.hY m)) s sn.toArray l)/\(∃shs agg c es,objs m=some (.map shs agg c es))/\(base<=L.hY r\/M (L.hY r))
end
variable [Laid]
structure bN(base:Nat)(W M:Nat->Prop)(w0:World)(objs:aU)(w:World)(L:Loc):Prop where
 fr:Fr base M w0 w
 ob:∀r o,objs r=some o->nu w W objs L base M r o
 apart:∀r r' o o' b,r≠r'->objs r=some o->objs r'=some o'->L.own r o=some b->L.own r' o'≠some b
 outer:∀r o b,objs r=some o->L.own r o=some b->¬W b
 under:∀b,W b->b<base
 gl:Ab w (WW W objs L)
structure zk(W W':Nat->Prop)(objs:aU)(L:Loc)(w:World)(aB:aU)(L':Loc)(w':World):Prop where
 keeps:cq (WW W objs L) w w'
 sub:∀b,b<w.heap.size->WW W' aB L' b->WW W objs L b
 fix:∀r o,objs r=some o->o.kind≠1->L'.hY r=L.hY r/\∃o',aB r=some o'/\o'.kind=o.kind
 arr:∀r ver e sz rows,objs r=some (.arr ver e sz rows)->∃ver' e' gb dp,aB r=some (.arr ver' e' gb dp)/\ver<=ver'/\(ver'=ver->L'.sl r=L.sl r/\gb=sz/\dp.length=rows.length)
 yl:L'.yl=L.yl
theorem kind0{o:Ob}(h:o.kind=0):∃cs,o=.box cs:=by cases o<;>first|exact⟨_,rfl⟩|cases h
theorem kind2{o:Ob}(h:o.kind=2):∃shs agg c es,o=.map shs agg c es:=by cases o<;>first|exact⟨_,_,_,_,rfl⟩|cases h
theorem kind3{o:Ob}(h:o.kind=3):∃m s sn l,o=.iter m s sn l:=by cases o<;>first|exact⟨_,_,_,_,rfl⟩|cases h
section
variable{W W':Nat->Prop}{objs:aU}{L:Loc}{w:World}{aB:aU}{L':Loc}{w':World}
theorem zk.box(h:zk W W' objs L w aB L' w')(r:Nat)(cs:List DV)(hr:objs r=some (.box cs)):L'.hY r=L.hY r/\∃qU,aB r=some (.box qU):=by
 obtain⟨h1,o',h2,h3⟩:=h.fix r _ hr (by simp[Ob.kind]);obtain⟨qU,rfl⟩:=kind0 h3;exact⟨h1,qU,h2⟩
theorem zk.mp(h:zk W W' objs L w aB L' w')(r:Nat)(hr:∃shs agg c es,objs r=some (.map shs agg c es)):L'.hY r=L.hY r/\∃shs agg c es,aB r=some (.map shs agg c es):=by
 obtain⟨_,_,_,_,hr⟩:=hr;obtain⟨h1,o',h2,h3⟩:=h.fix r _ hr (by simp[Ob.kind]);obtain⟨a,b,c,d,rfl⟩:=kind2 h3;exact⟨h1,a,b,c,d,h2⟩
theorem zk.it(h:zk W W' objs L w aB L' w')(r:Nat)(hr:∃m s sn l,objs r=some (.iter m s sn l)):L'.hY r=L.hY r/\∃m s sn l,aB r=some (.iter m s sn l):=by
 obtain⟨_,_,_,_,hr⟩:=hr;obtain⟨h1,o',h2,h3⟩:=h.fix r _ hr (by simp[Ob.kind]);obtain⟨a,b,c,d,rfl⟩:=kind3 h3;exact⟨h1,a,b,c,d,h2⟩
end
abbrev jc(W:Nat->Prop)(objs:aU)(L:Loc)(w:World)(aB:aU)(L':Loc)(w':World):Prop:=zk W W objs L w aB L' w'
theorem jc.ct{W:Nat->Prop}{objs:aU}{L:Loc}{w w':World}(h:cq (WW W objs L) w w'):jc W objs L w objs L w':=
 ⟨h,λ_ _ x=>x,λ_ o hr _=>⟨rfl,o,hr,rfl⟩,λ_ ver e sz rows hr=>⟨ver,e,sz,rows,hr,Zae _,λ_=>⟨rfl,rfl,rfl⟩⟩,rfl⟩
mutual
theorem av.ee{W W':Nat->Prop}{objs aB:aU}{L L':Loc}{w w':World}(h:zk W W' objs L w aB L' w'):∀(d:DV) (x:Value),av w W objs L d x->av w' W' aB L' d x
 |.undef,x,r=>by simp[av]
 |.skip,x,r=>by simpa [av]using r
 |.v t,x,r=>by
  simp only[av]at r⊢;exact aS.aD h.keeps.toKeepsC h.sub t x r
 |.aJ,x,r=>by simpa [av]using r
 |.ptr n off,x,r=>by
  simp only[av]at r⊢;obtain⟨⟨cs,hc⟩,hx⟩:=r;have hb:=h.box n cs hc;exact⟨hb.2,by rw[hb.1];exact hx⟩
 |.bd n ver,x,r=>by
  simp only[av]at r⊢;obtain⟨GH,ver',e,sz,rows,ho,hle,hx⟩:=r;obtain⟨nP,e2,C3,jT,lP,GI,hs⟩:=h.arr n ver' e sz rows ho;refine⟨GH,nP,e2,C3,jT,lP,ZaE hle GI,λhv=>?_⟩;have h1:nP=ver':=by omega
  rw[(hs h1).1];exact hx (by omega)
 |.kL rows i off,x,r=>by
  simp only[av]at r⊢;obtain⟨b,o,sz,hx,hb,hn,hr,h0,h1⟩:=r;exact⟨b,o,sz,hx,ZaR hb h.keeps.size,λc=>hn (h.sub b hb c),aY.aD h.keeps.toKeepsC h.sub hb hn sz o rows hr,h0,h1⟩
 |.gE cs off,x,r=>by
  simp only[av]at r⊢;obtain⟨b,o,hx,hb,hn,hr⟩:=r;exact⟨b,o,hx,ZaR hb h.keeps.size,λc=>hn (h.sub b hb c),cY.aD h.keeps.toKeepsC h.sub hb hn o cs hr⟩
 |.jh n ver i off,x,r=>by
  simp only[av]at r⊢;obtain⟨GH,ver',e,sz,rows,ho,hle,hx⟩:=r;obtain⟨nP,e2,C3,jT,lP,GI,hs⟩:=h.arr n ver' e sz rows ho;refine⟨GH,nP,e2,C3,jT,lP,ZaE hle GI,λhv=>?_⟩;have h1:nP=ver':=by omega
  obtain⟨g,hg,hp,h0,hl⟩:=hx (by omega);obtain⟨s1,s2,s3⟩:=hs h1;exact⟨g,by rw[s1];exact hg,by rw[s2];exact hp,h0,by rw[s3];exact hl⟩
 |.agg cs,x,r=>by
  simp only[av]at r⊢;obtain⟨vs,hv,hr⟩:=r;exact⟨vs,hv,aL.ee h cs _ hr⟩
 |.C1,x,r=>by simp only[av]at r⊢;rw[h.yl];exact r
 |.iC n,x,r=>by
  simp only[av]at r⊢;have:=h.mp n r.1;exact⟨this.2,by rw[this.1];exact r.2⟩
 |.iter n,x,r=>by
  simp only[av]at r⊢;have:=h.it n r.1;exact⟨this.2,by rw[this.1];exact r.2⟩
 |.eC ds,x,r=>by
  simp only[av]at r⊢;obtain⟨vs,hv,hr⟩:=r;exact⟨vs,hv,eZ.ee h ds _ hr⟩
 |.mF f ds,x,r=>by
  simp only[av]at r⊢;obtain⟨vs,hv,hr⟩:=r;exact⟨vs,hv,aL.ee h ds _ hr⟩
 |.Es n m,x,r=>by
  simp only[av]at r⊢;obtain⟨⟨cs,hc⟩,hx⟩:=r;have hb:=h.box n cs hc;exact⟨hb.2,by rw[hb.1];exact hx⟩
 |.s8 n ver lo m,x,r=>by
  simp only[av]at r⊢;obtain⟨GH,ver',e,sz,rows,ho,hle,hx⟩:=r;obtain⟨nP,e2,C3,jT,lP,GI,hs⟩:=h.arr n ver' e sz rows ho;refine⟨GH,nP,e2,C3,jT,lP,ZaE hle GI,λhv=>?_⟩;have h1:nP=ver':=by omega
  obtain⟨k1,p,cap,p2,k2,k3,k4⟩:=hx (by omega);obtain⟨s1,s2,s3⟩:=hs h1;exact⟨by rw[s3];exact k1,p,cap,p2,by rw[s1,s3];exact k2,k3,by rw[s2];exact k4⟩
theorem aL.ee{W W':Nat->Prop}{objs aB:aU}{L L':Loc}{w w':World}(h:zk W W' objs L w aB L' w'):∀(ds:List DV) (xs:List Value),aL w W objs L ds xs->aL w' W' aB L' ds xs
 |[],xs,r=>by simpa [aL]using r
 |d::ds,xs,r=>by
  simp only[aL]at r⊢;obtain⟨x,jN,hx,h1,hr,jM⟩:=r;exact⟨x,jN,hx,h1,av.ee h d x hr,aL.ee h ds jN jM⟩
theorem eZ.ee{W W':Nat->Prop}{objs aB:aU}{L L':Loc}{w w':World}(h:zk W W' objs L w aB L' w'):∀(ds:List DV) (xs:List Value),eZ w W objs L ds xs->eZ w' W' aB L' ds xs
 |[],xs,r=>by simpa [eZ]using r
 |d::ds,xs,r=>by
  simp only[eZ]at r⊢;obtain⟨x,jN,hx,hr,jM⟩:=r;exact⟨x,jN,hx,av.ee h d x hr,eZ.ee h ds jN jM⟩
end
theorem bk.ee{W W':Nat->Prop}{objs aB:aU}{L L':Loc}{w w':World}(h:zk W W' objs L w aB L' w'):∀(es:List (Nat×T×DV)) (xs:List MapEntry),bk w W objs L es xs->bk w' W' aB L' es xs
 |[],xs,r=>by simpa [bk]using r
 |e::es,xs,r=>by
  simp only[bk]at r⊢;obtain⟨x,jN,hx,h0,h1,hr,jM⟩:=r;exact⟨x,jN,hx,h0,aS.aD h.keeps.toKeepsC h.sub _ _ h1,av.ee h _ _ hr,bk.ee h es jN jM⟩
section
variable{w:World}{W:Nat->Prop}{objs:aU}{L:Loc}
theorem aL.length:∀{ds:List DV} {vs:List Value},aL w W objs L ds vs->vs.length=ds.length
 |[],_,h=>by simp only[aL]at h;simp[h]
 |_::ds,_,h=>by
  simp only[aL]at h;obtain⟨v,ia,rfl,_,_,hr⟩:=h;simp[aL.length hr]
theorem aL.get:∀{ds:List DV} {vs:List Value} {i:Nat} {d:DV},aL w W objs L ds vs->ds[i]? =some d->∃v,vs[i]? =some v/\v.oneCell'=true/\av w W objs L d v
 |[],_,_,_,_,h=>by simp at h
 |x::xs,_,0,t,hr,h=>by
  simp only[aL]at hr;obtain⟨v,ia,rfl,h1,h2,_⟩:=hr;simp only[ZaG,Zaa]at h;subst h;exact⟨v,rfl,h1,h2⟩
 |x::xs,_,i+1,t,hr,h=>by
  simp only[aL]at hr;obtain⟨v,ia,rfl,_,_,hr⟩:=hr;simpa using aL.get hr (by simpa using h)
theorem aL.append:∀{ds nQ:List DV} {vs ia:List Value},aL w W objs L ds vs->aL w W objs L nQ ia->aL w W objs L (ds++nQ) (vs++ia)
 |[],_,_,_,h,h'=>by simp only[aL]at h;subst h;simpa using h'
 |d::ds,_,_,_,h,h'=>by
  simp only[aL]at h;obtain⟨v,ia,rfl,h1,h2,hr⟩:=h;simp only[ZaH,aL];exact⟨v,_,rfl,h1,h2,aL.append hr h'⟩
theorem aL.take(n:Nat){ds:List DV}{vs:List Value}(h:aL w W objs L ds vs):aL w W objs L (ds.take n) (vs.take n):=by
 induction n generalizing ds vs with
 |zero=>simp[aL]
 |succ n ih=>
  cases ds with
  |nil=>simp only[aL]at h;subst h;simp[aL]
  |cons d ds=>
   simp only[aL]at h;obtain⟨v,ia,rfl,h1,h2,hr⟩:=h;simp only[ZbZ,aL];exact⟨v,_,rfl,h1,h2,ih hr⟩
theorem aL.drop(n:Nat){ds:List DV}{vs:List Value}(h:aL w W objs L ds vs):aL w W objs L (ds.drop n) (vs.drop n):=by
 induction n generalizing ds vs with
 |zero=>simpa using h
 |succ n ih=>
  cases ds with
  |nil=>simp only[aL]at h;subst h;simp[aL]
  |cons d ds=>
   simp only[aL]at h;obtain⟨v,ia,rfl,h1,h2,hr⟩:=h;simpa using ih hr
theorem aR.append{ts ts':List T}:∀{vs ia:List Value},aR w W ts vs->aR w W ts' ia->aR w W (ts++ts') (vs++ia):=by
 induction ts with
 |nil=>intro vs ia h h';simp only[aR]at h;subst h;simpa using h'
 |cons d ds ih=>
  intro vs ia h h';simp only[aR]at h;obtain⟨v,ia,rfl,h1,h2,hr⟩:=h;simp only[ZaH,aR];exact⟨v,_,rfl,h1,h2,ih hr h'⟩
theorem aL.pk:∀{ts:List T} {vs:List Value},aR w (WW W objs L) ts vs->aL w W objs L (ts.map .v) vs
 |[],_,h=>by simpa [aR,aL]using h
 |t::ts,_,h=>by
  simp only[aR]at h;obtain⟨v,ia,rfl,h1,h2,hr⟩:=h;simp only[Zau,aL];exact⟨v,ia,rfl,h1,by simpa [av]using h2,aL.pk hr⟩
theorem av.cells{d:DV}{x:Value}(h:av w W objs L d x)(hb:lk d):aL w W objs L (cellsOf d) x.cells.toList:=by
 have one:∀{d:DV} {x:Value},cellsOf d=[d]->x.oneCell'=true->av w W objs L d x->aL w W objs L (cellsOf d) x.cells.toList:=by
  intro d x hc h1 h;rw[hc];simp only[aL];refine⟨x,[], ?_,h1,h,rfl⟩;cases x<;>first|rfl|(simp[Value.oneCell']at h1)
 cases d with
 |undef=>exact hb.elim
 |skip=>exact hb.elim
 |aJ=>obtain⟨a,rfl⟩:=(by simpa only[av]using h);exact one rfl rfl (by simp only[av];exact⟨a,rfl⟩)
 |ptr r off=>have h':=h;simp only[av]at h';obtain⟨_,rfl⟩:=h';exact one rfl rfl h
 |bd r ver=>have h':=h;simp only[av]at h';obtain⟨⟨p,n,c,rfl⟩,_⟩:=h';exact one rfl rfl h
 |kL rows i off=>have h':=h;simp only[av]at h';obtain⟨b,o,sz,rfl,_⟩:=h';exact one rfl rfl h
 |gE cs off=>have h':=h;simp only[av]at h';obtain⟨b,o,rfl,_⟩:=h';exact one rfl rfl h
 |jh r ver i off=>have h':=h;simp only[av]at h';obtain⟨⟨b,o,rfl⟩,_⟩:=h';exact one rfl rfl h
 |agg cs=>simp only[av]at h;obtain⟨vs,rfl,h⟩:=h;simpa [cellsOf,Value.cells]using h
 |C1=>have h':=h;simp only[av]at h';subst h';exact one rfl rfl h
 |iC r=>have h':=h;simp only[av]at h';obtain⟨_,rfl⟩:=h';exact one rfl rfl h
 |iter r=>have h':=h;simp only[av]at h';obtain⟨_,rfl⟩:=h';exact one rfl rfl h
 |eC ds=>exact hb.elim
 |mF f ds=>have h':=h;simp only[av]at h';obtain⟨vs,rfl,_⟩:=h';exact one rfl rfl h
 |s8 r ver lo n=>have h':=h;simp only[av]at h';obtain⟨⟨p,c,rfl⟩,_⟩:=h';exact one rfl rfl h
 |Es r n=>have h':=h;simp only[av]at h';obtain⟨_,rfl⟩:=h';exact one rfl rfl h
 |v t=>
  cases t with
  |agg cs=>simp only[av,aS]at h;obtain⟨vs,rfl,h⟩:=h;simpa [cellsOf,Value.cells]using aL.pk h
  |eC ts=>exact hb.elim
  |bool b=>have h':=h;simp only[av,aS]at h';subst h';exact one rfl rfl h
  |int k n=>have h':=h;simp only[av,aS]at h';subst h';exact one rfl rfl h
  |str s=>have h':=h;simp only[av,aS]at h';subst h';exact one rfl rfl h
  |sl rows=>
   have h':=h;simp only[av,aS]at h';rcases h' with⟨_,a,c,rfl⟩|⟨b,o,cap,sz,rfl,_⟩<;>exact one rfl rfl h
  |fn f caps=>have h':=h;simp only[av,aS]at h';obtain⟨vs,rfl,_⟩:=h';exact one rfl rfl h
  |box cs=>have h':=h;simp only[av,aS]at h';obtain⟨b,o,rfl,_⟩:=h';exact one rfl rfl h
  |raw y=>have h':=h;simp only[av,aS]at h';subst h';exact one rfl hb h
end
theorem nu.lt{base:Nat}{M:Nat->Prop}{w:World}{W:Nat->Prop}{objs:aU}{L:Loc}{r:Nat}{o:Ob}(h:nu w W objs L base M r o){b:Nat}(hb:L.own r o=some b):b<w.heap.size:=by
 cases o with
 |box cs=>
  obtain⟨c,e,hc,_⟩:=h;simp only[Loc.own,Zaa]at hb;subst hb;exact(Zaj.1 hc).1
 |arr ver e sz rows=>
  obtain⟨_,_,_,h⟩:=h;simp only[Loc.own]at hb;rcases h with⟨_,a,ha⟩|⟨g,cap,cur,hv,hp,hg,_⟩
  ·rw[ha]at hb;cases a<;>simp[aP]at hb
  ·rw[hv]at hb;simp only[aP,if_neg (ZaA.1 hp),Zaa]at hb;subst hb;exact(Zaj.1 hg).1
 |map shs agg c es=>
  obtain⟨arr,hc,_⟩:=h;simp only[Loc.own,Zaa]at hb;subst hb;exact(Zaj.1 hc).1
 |iter m s sn l=>
  obtain⟨hc,_⟩:=h;simp only[Loc.own,Zaa]at hb;subst hb;exact(Zaj.1 hc).1
theorem nu.reach{base:Nat}{M:Nat->Prop}{w:World}{W:Nat->Prop}{objs:aU}{L:Loc}{r:Nat}{o:Ob}(h:nu w W objs L base M r o){b:Nat}(hb:L.own r o=some b):base<=b\/M b:=by
 cases o with
 |box cs=>
  obtain⟨c,e,hc,_,hm⟩:=h;simp only[Loc.own,Zaa]at hb;subst hb;exact hm
 |arr ver e sz rows=>
  obtain⟨_,_,hm,_⟩:=h;exact hm b hb
 |map shs agg c es=>
  obtain⟨arr,hc,_,_,_,_,hm⟩:=h;simp only[Loc.own,Zaa]at hb;subst hb;exact hm
 |iter m s sn l=>
  obtain⟨hc,_,hm⟩:=h;simp only[Loc.own,Zaa]at hb;subst hb;exact hm
theorem nu.aD{base:Nat}{M:Nat->Prop}{w w':World}{W:Nat->Prop}{objs aB:aU}{L L':Loc}{r:Nat}{o:Ob}(ha:jc W objs L w aB L' w')
  (h:nu w W objs L base M r o) (eX:L'.hY r=L.hY r/\L'.sl r=L.sl r) (hblk:∀b,L.own r o=some b->w'.heap[b]? =w.heap[b]?):nu w' W aB L' base M r o:=by
 cases o with
 |box cs=>
  obtain⟨c,e,hc,hr,hm⟩:=h;refine⟨c,e, ?_,aL.ee ha cs _ hr, ?_⟩
  ·rw[eX.1,hblk _ rfl];exact hc
  ·rw[eX.1];exact hm
 |arr ver e sz rows=>
  obtain⟨gF,cU,hm,h⟩:=h;refine⟨gF,cU,by rw[eX.2];exact hm, ?_⟩;rw[eX.2];rcases h with h|⟨g,cap,cur,hv,hp,hg,h1,h2,h3,h4⟩
  ·exact .inl h
  ·refine .inr ⟨g,cap,cur,hv,hp, ?_,h1,h2,h3,aR.aD ha.keeps.toKeepsC ha.sub _ _ h4⟩;rw[hblk g (by simp[Loc.own,hv,aP,ZaA.1 hp])];exact hg
 |map shs agg c es=>
  obtain⟨arr,hc,hr,k1,k2,k3,hm⟩:=h;refine⟨arr, ?_,bk.ee ha es _ hr,k1,k2,k3, ?_⟩
  ·rw[eX.1,hblk _ rfl];exact hc
  ·rw[eX.1];exact hm
 |iter m s sn l=>
  obtain⟨hc,JM,hm⟩:=h;have:=ha.mp m JM;refine⟨?_,this.2, ?_⟩
  ·rw[eX.1,this.1,hblk _ rfl];exact hc
  ·rw[eX.1];exact hm
def Obj.plain:Obj->Prop
 |.cells _ _ _|.map _ _|.mapIter _ _ _ _=>True
 |_=>False
theorem nu.cells{base:Nat}{M:Nat->Prop}{w:World}{W:Nat->Prop}{objs:aU}{L:Loc}{r:Nat}{o:Ob}(h:nu w W objs L base M r o){b:Nat}(hb:L.own r o=some b):∃x,w.heap[b]? =some x/\Obj.plain x:=by
 cases o with
 |box cs=>
  obtain⟨c,e,hc,_⟩:=h;simp only[Loc.own,Zaa]at hb;subst hb;exact⟨_,hc,trivial⟩
 |map shs agg c es=>
  obtain⟨arr,hc,_⟩:=h;simp only[Loc.own,Zaa]at hb;subst hb;exact⟨_,hc,trivial⟩
 |iter m s sn l=>
  obtain⟨hc,_⟩:=h;simp only[Loc.own,Zaa]at hb;subst hb;exact⟨_,hc,trivial⟩
 |arr ver e sz rows=>
  obtain⟨_,_,_,h⟩:=h;simp only[Loc.own]at hb;rcases h with⟨_,a,ha⟩|⟨g,cap,cur,hv,hp,hg,_⟩
  ·rw[ha]at hb;cases a<;>simp[aP]at hb
  ·rw[hv]at hb;simp only[aP,if_neg (ZaA.1 hp),Zaa]at hb;subst hb;exact⟨_,hg,trivial⟩
def bV(objs:aU):Option (Nat×Ob)->aU
 |none=>objs
 |some (r,o)=>λx=>if x=r then some o else objs x
theorem bN.put{base:Nat}{W M:Nat->Prop}{w0 w w':World}{objs:aU}{L L':Loc}{r:Nat}{o':Ob}(h:bN base W M w0 objs w L)
  (wC:Fr base M w0 w') (gF:w.heap.size<=w'.heap.size)
  (hL:∀x,x≠r->L'.hY x=L.hY x/\L'.sl x=L.sl x) (tp:L'.yl=L.yl)
  (GJ:∀b,b<w.heap.size->(∀o,objs r=some o->L.own r o≠some b)->w'.heap[b]? =w.heap[b]?)
  (qV:∀b,L'.own r o'=some b->(∃o,objs r=some o/\L.own r o=some b)\/w.heap.size<=b)
  (zl:∀o,objs r=some o->o.kind≠1->L'.hY r=L.hY r/\o'.kind=o.kind)
  (J4:∀ver e sz rows,objs r=some (.arr ver e sz rows)->∃ver' e' gb dp,o'=.arr ver' e' gb dp/\ver<=ver'/\(ver'=ver->L'.sl r=L.sl r/\gb=sz/\dp.length=rows.length))
  (fH:jc W objs L w (bV objs (some (r,o'))) L' w'->nu w' W (bV objs (some (r,o'))) L' base M r o'):
  bN base W M w0 (bV objs (some (r,o'))) w' L'/\jc W objs L w (bV objs (some (r,o'))) L' w':=by
 have eX:∀x (o:Ob),x≠r->L'.own x o=L.own x o:=λx o hx=>by
  have:=hL x hx;cases o<;>simp[Loc.own,this.1,this.2]
 have hother:∀x o b,x≠r->objs x=some o->L.own x o=some b->w'.heap[b]? =w.heap[b]? :=λx o b hx ho hb=>
  GJ b ((h.ob x o ho).lt hb) λo2 lP kp=>h.apart x r o o2 b hx ho lP hb kp
 have hnon:∀(b:Nat) x,w.heap[b]? =some x->¬Obj.plain x->w'.heap[b]? =some x:=λb x hb hx=>by
  refine(GJ b (Zaj.1 hb).1 λo ho kp=>?_).trans hb;obtain⟨y,hc,hy⟩:=(h.ob r o ho).cells kp;rw[hc]at hb;cases hb;exact hx hy
 have ee:jc W objs L w (bV objs (some (r,o'))) L' w':=by
  refine⟨⟨⟨gF,λb c e fr hb hn=>?_⟩,λb hb=>hnon b _ hb (λe=>e),λb r hb=>hnon b _ hb (λe=>e)⟩,λb hb hw=>?_,λx o hx hk=>?_,λx ver e sz rows hx=>?_,tp⟩
  ·exact(GJ b (Zaj.1 hb).1 λo2 lP kp=>hn (.inr ⟨r,o2,lP,kp⟩)).trans hb
  ·rcases hw with hw|⟨x,o,ho,kp⟩
   ·exact .inl hw
   ·by_cases hx:x=r
    ·subst hx;simp only[bV,if_true]at ho;obtain rfl:o'=o:=by simpa using ho
     rcases qV b kp with⟨o2,lP,Xv⟩|zx
     ·exact .inr ⟨x,o2,lP,Xv⟩
     ·omega
    ·simp only[bV,if_neg hx]at ho;exact .inr ⟨x,o,ho,by rw[<-eX x o hx];exact kp⟩
  ·by_cases CB:x=r
   ·subst CB;obtain⟨h1,h2⟩:=zl o hx hk;exact⟨h1,o',by simp[bV],h2⟩
   ·exact⟨(hL x CB).1,o,by simp[bV,CB,hx],rfl⟩
  ·by_cases CB:x=r
   ·subst CB;obtain⟨ver',e',gb,dp,rfl,h2,h3⟩:=J4 ver e sz rows hx;exact⟨ver',e',gb,dp,by simp[bV],h2,h3⟩
   ·exact⟨ver,e,sz,rows,by simp[bV,CB,hx],Zae _,λ_=>⟨(hL x CB).2,rfl,rfl⟩⟩
 refine⟨⟨wC,λx o ho=>?_,λx x' o o2 b bH ho lP hb kp=>?_,λx o b ho hb hw=>?_,h.under,h.gl.aD ee.keeps.toKeepsC ee.sub⟩,ee⟩
 ·by_cases hx:x=r
  ·subst hx;simp only[bV,if_true]at ho;obtain rfl:o'=o:=by simpa using ho
   exact fH ee
  ·simp only[bV,if_neg hx]at ho;exact nu.aD ee (h.ob x o ho) (hL x hx) λb hb=>hother x o b hx ho hb
 ·by_cases hx:x=r
  ·subst hx;simp only[bV,if_true]at ho;obtain rfl:o'=o:=by simpa using ho
   have fJ:x'≠x:=λe=>bH e.symm;simp only[bV,if_neg fJ]at lP;rw[eX x' o2 fJ]at kp;rcases qV b hb with⟨o3,ho3,Xv⟩|zx
   ·exact h.apart x' x o2 o3 b fJ lP ho3 kp Xv
   ·have:=(h.ob x' o2 lP).lt kp;omega
  ·simp only[bV,if_neg hx]at ho;rw[eX x o hx]at hb;by_cases fJ:x'=r
   ·subst fJ;simp only[bV,if_true]at lP;obtain rfl:o'=o2:=by simpa using lP
    rcases qV b kp with⟨o3,ho3,Xv⟩|zx
    ·exact h.apart x x' o o3 b bH ho ho3 hb Xv
    ·have:=(h.ob x o ho).lt hb;omega
   ·simp only[bV,if_neg fJ]at lP;rw[eX x' o2 fJ]at kp;exact h.apart x x' o o2 b bH ho lP hb kp
 ·by_cases hx:x=r
  ·subst hx;simp only[bV,if_true]at ho;obtain rfl:o'=o:=by simpa using ho
   rcases qV b hb with⟨o3,ho3,Xv⟩|zx
   ·exact h.outer x o3 b ho3 Xv hw
   ·have h1:=h.under b hw;have h2:=h.fr.ik;have h3:=h.fr.size;omega
  ·simp only[bV,if_neg hx]at ho;rw[eX x o hx]at hb;exact h.outer x o b ho hb hw
theorem Ab.start{w:World}{W:Nat->Prop}{L:Loc}(h:Ab w W):Ab w (WW W (λ_=>none) L):=
 h.aD (cq.refl W w).toKeepsC λb _ hw=>by
  rcases hw with hw|⟨r,o,hr,_⟩
  ·exact hw
  ·cases hr
theorem bN.grow{base:Nat}{W M:Nat->Prop}{w0 w w':World}{objs:aU}{L:Loc}(h:bN base W M w0 objs w L)(hb:tP w.heap.size w w'):
  bN base W M w0 objs w' L/\jc W objs L w objs L w':=by
 have ee:jc W objs L w objs L w':=jc.ct (cq.GG hb.toBelow);have hle:base<=w.heap.size:=ZaE h.fr.ik h.fr.size;refine⟨⟨h.fr.trans ⟨hb.os,hb.tape,hb.output,hle,hb.size,λk hk _=>hb.block k (by omega),hb.drawn⟩,λr o ho=>?_,h.apart,h.outer,h.under,h.gl.aD ee.keeps.toKeepsC ee.sub⟩,ee⟩;exact nu.aD ee (h.ob r o ho) ⟨rfl,rfl⟩ λb kp=>hb.block b ((h.ob r o ho).lt kp)
end Go.DM
namespace Go.DM
open Go.RowKit
def kN:Value->Option DV
 |.int k n=>some (.v (.int k n))
 |.bool b=>some (.v (.bool b))
 |.string s=>some (.v (.str s))
 |.slice none 0 0=>some .aJ
 |.pointer none=>some (.v (.raw (.pointer none)))
 |.nilFunc=>some (.v (.raw .nilFunc))
 |.nilIface=>some (.v (.raw .nilIface))
 |.map none=>some (.v (.raw (.map none)))
 |_=>none
def pn:Value->Option T
 |.int k n=>some (.int k n)
 |.bool b=>some (.bool b)
 |.string s=>some (.str s)
 |.slice none 0 0=>some (.sl [])
 |.pointer none=>some (.raw (.pointer none))
 |.nilFunc=>some (.raw .nilFunc)
 |.nilIface=>some (.raw .nilIface)
 |.map none=>some (.raw (.map none))
 |_=>none
variable [Laid]
def bp.of:Operand->Option bp
 |.tmp t=>some (.tmp t)
 |.const v=>(kN v).map .cm
 |.func f=>some (.cm (.v (.fn (.func f) [])))
 |.global g=>(Laid.cells.find? λp=>p.1==g).map λp=>.cm (.gE p.2 0)
section
variable{w:World}{W:Nat->Prop}{objs:aU}{L:Loc}
theorem tR:∀{x:Value} {d:DV},kN x=some d->av w W objs L d x/\x.oneCell'=true:=by
 intro x d h;unfold kN at h;split at h<;>simp only[Zaa,reduceCtorEq]at h<;>subst h<;>simp[av,aS,Value.oneCell']
theorem Ah:∀{x:Value} {t:T},pn x=some t->aS w W t x/\x.oneCell'=true/\Ac t=true:=by
 intro x d h;unfold pn at h;split at h<;>simp only[Zaa,reduceCtorEq]at h<;>subst h<;>simp[aS,Value.oneCell',Ac]
theorem gG:∀{xs:List Value} {ds:List DV},xs.mapM kN=some ds->aL w W objs L ds xs
 |[],ds,h=>by simp at h;subst h;simp[aL]
 |x::xs,ds,h=>by
  simp only[Za1,Zak,Zaf,Zac,Zaa]at h;obtain⟨d,hd,nQ,hds,rfl⟩:=h;simp only[aL];have:=tR (w:=w) (W:=W) (objs:=objs) (L:=L) hd;exact⟨x,xs,rfl,this.2,this.1,gG hds⟩
theorem p8:∀{xs:List Value} {ds:List T},xs.mapM pn=some ds->aR w W ds xs
 |[],ds,h=>by simp at h;subst h;simp[aR]
 |x::xs,ds,h=>by
  simp only[Za1,Zak,Zaf,Zac,Zaa]at h;obtain⟨d,hd,nQ,hds,rfl⟩:=h;simp only[aR];have:=Ah (w:=w) (W:=W) hd;exact⟨x,xs,rfl,this.2.1,this.1,p8 hds⟩
theorem bp.bq{a:Act}{ρ:Nat->DV}(hg:Ab w (WW W objs L))(hZ:∀t,av w W objs L (ρ t) (a.tmps.getD t Go.undef)){x:Operand}{y:bp}(h:bp.of x=some y):av w W objs L (y.ev ρ) (a.eval x):=by
 cases x with
 |tmp t=>simp only[bp.of,Zaa]at h;subst h;simpa [bp.ev,Act.eval]using hZ t
 |const v=>
  simp only[bp.of,Zab]at h;obtain⟨d,hd,rfl⟩:=h;exact(tR hd).1
 |func f=>simp only[bp.of,Zaa]at h;subst h;simp[bp.ev,Act.eval,av,aS,aR]
 |global g=>
  simp only[bp.of,Zab]at h;obtain⟨p,hp,rfl⟩:=h;have h1:=ZcN hp;obtain rfl:p.1=g:=by simpa using h1
  obtain⟨h2,h3,h4⟩:=hg p (ZbQ hp);simp only[bp.ev,Act.eval,av];exact⟨p.1,0,rfl,h2,h3,h4⟩
theorem ll(b o n:Nat):(⟨b,o,none⟩:Addr).add n=⟨b,o+n,none⟩:=by unfold Addr.add;split<;>simp_all
theorem yk{P:Program}{w:World}{b o:Nat}{vs:List Value}(h:∀j v,vs[j]? =some v->w.cell? ⟨b,o+j,none⟩=some v):
  (loadCells ⟨b,o,none⟩ vs.length).run P w=.ok vs.toArray w:=
 run_loadCells_list w _ vs λj v hv=>by rw[ll];exact h j v hv
theorem C4{P:Program}{w:World}{t:TypeId}{d:TypeDesc}(h:P.underlying t=some d):(isAgg t).run P w=.ok (match d with|.struct _|.array _ _=>true|_=>false) w:=by
 simp only[isAgg,Sem.run_bind,run_underlying h,Result.andThen_ok];cases d<;>rfl
theorem run_sizeOf{P:Program}{w:World}{t:TypeId}{i:TypeInfo}(h:P.info? t=some i):(sizeOf t).run P w=.ok i.size w:=by
 simp[sizeOf,typeInfo,h]
def bA:TypeDesc->Bool
 |.struct _|.array _ _=>true
 |_=>false
theorem oI{P:Program}{w:World}{t:TypeId}{d:TypeDesc}{i:TypeInfo}(hd:P.underlying t=some d)(hi:P.info? t=some i){b o:Nat}{vs:List Value}
  (hl:vs.length=i.size) (h:∀j v,vs[j]? =some v->w.cell? ⟨b,o+j,none⟩=some v) (hs:bA d=true\/i.size=1):
  (Instr.loadAt t (.pointer (some ⟨b,o,none⟩))).run P w=.ok (if bA d then .agg vs.toArray else vs.getD 0 Go.undef) w:=by
 have h1:(isAgg t).run P w=.ok (bA d) w:=by rw[C4 hd];cases d<;>rfl
 simp only[Instr.loadAt,Instr.sureAddr,loadVar,Sem.run_bind,Sem.run_pure,Result.andThen_ok,h1];by_cases ha:bA d=true
 ·simp only[ha,if_true,Sem.run_bind,run_sizeOf hi,Result.andThen_ok];rw[<-hl,yk h];rfl
 ·have h1:vs.length=1:=by rw[hl];exact hs.resolve_left ha
  match vs,h1 with
  |[v],_=>
   have:=h 0 v rfl;simp only[ZbG]at this;simp[ha,this]
theorem cY.vals{b:Nat}:∀{ts:List T} {o:Nat},cY w W b o ts->∃vs,aR w W ts vs/\∀j v,vs[j]? =some v->w.cell? ⟨b,o+j,none⟩=some v
 |[],o,_=>⟨[],by simp[aR],by simp⟩
 |t::ts,o,h=>by
  simp only[cY]at h;obtain⟨⟨v,hc,h1,hr⟩,jM⟩:=h;obtain⟨vs,hv,lz⟩:=cY.vals jM;refine⟨v::vs,by simp only[aR];exact⟨v,vs,rfl,h1,hr,hv⟩,λj u hu=>?_⟩;cases j with
  |zero=>simp only[ZaG,Zaa]at hu;subst hu;simpa using hc
  |succ j=>
   have:=lz j u (by simpa using hu)
   rwa [show o+(j+1)=o+1+j by omega]
theorem aR.split{ts ts':List T}:∀{vs:List Value},aR w W (ts++ts') vs->∃v1 v2,vs=v1++v2/\aR w W ts v1/\aR w W ts' v2:=by
 induction ts with
 |nil=>intro vs h;exact⟨[],vs,rfl,by simp[aR],h⟩
 |cons t ts ih=>
  intro vs h;simp only[ZaH,aR]at h;obtain⟨v,ia,rfl,h1,h2,hr⟩:=h;obtain⟨v1,v2,rfl,ha,hb⟩:=ih hr;exact⟨v::v1,v2,rfl,by simp only[aR];exact⟨v,v1,rfl,h1,h2,ha⟩,hb⟩
theorem cY.pk{b o:Nat}{ts:List T}{vs:List Value}(h:aR w W ts vs)(hc:∀j v,vs[j]? =some v->w.cell? ⟨b,o+j,none⟩=some v):cY w W b o ts:=
 cY.Aa ts o λj t ht=>by
  obtain⟨v,hv,h1,hr⟩:=aR.get h ht;exact⟨v,hc j v hv,h1,hr⟩
theorem aY.il{sz b:Nat}:∀{rows:List (List T)} {o:Nat} {vs:List Value},aR w W rows.flatten vs->(∀r∈rows,r.length=sz)->(∀j v,vs[j]? =some v->w.cell? ⟨b,o+j,none⟩=some v)->aY w W sz b o rows
 |[],_,_,_,_,_=>by simp[aY]
 |r::rs,o,vs,h,hl,hc=>by
  simp only[Zbf]at h;obtain⟨v1,v2,rfl,ha,hb⟩:=aR.split h;have hr:r.length=sz:=hl r (by simp);have zy:v1.length=sz:=by rw[aR.length ha,hr]
  simp only[aY];refine⟨hr,cY.pk ha λj v hv=>hc j v ?_,aY.il hb (λx hx=>hl x (by simp[hx])) λj v hv=>?_⟩
  ·rw[Zbk (Zas.1 hv).1];exact hv
  ·have:=hc (sz+j) v (by rw[Zbi (by omega),zy];simpa using hv)
   rwa [show o+sz+j=o+(sz+j)by omega]
theorem aY.flatten{sz b:Nat}:∀{rows:List (List T)} {o:Nat},aY w W sz b o rows->∃vs,vs.length=rows.length*sz/\aR w W rows.flatten vs/\∀j v,vs[j]? =some v->w.cell? ⟨b,o+j,none⟩=some v
 |[],o,_=>⟨[],by simp,by simp[aR],by simp⟩
 |r::rs,o,h=>by
  simp only[aY]at h;obtain⟨v1,h1,aX⟩:=cY.vals h.2.1;obtain⟨v2,qx,h2,dU⟩:=aY.flatten h.2.2;have zy:v1.length=sz:=by rw[aR.length h1,h.1]
  refine⟨v1++v2,by simp[zy,qx,Nat.add_mul];omega,by simpa using aR.append h1 h2,λj v hv=>?_⟩;by_cases hj:j<v1.length
  ·rw[Zbk hj]at hv;exact aX j v hv
  ·rw[Zbi (by omega)]at hv;have:=dU (j-v1.length) v hv
   rwa [show o+sz+(j-v1.length)=o+j by omega]at this
theorem nu.rows{base:Nat}{M:Nat->Prop}{r ver e sz:Nat}{rows:List (List T)}(h:nu w W objs L base M r (.arr ver e sz rows)){g:Nat}(hg:aP (L.sl r)=some g):
  aY w (WW W objs L) sz g 0 rows:=by
 obtain⟨_,hl,_,h⟩:=h;rcases h with⟨rfl,_⟩|⟨g',cap,cur,hv,hp,hh,h1,h2,h3,h4⟩
 ·simp[aY]
 ·rw[hv]at hg;simp only[aP,if_neg (ZaA.1 hp),Zaa]at hg;subst hg;refine aY.il h4 hl λj v hv=>?_;rw[ZaX,cell_of_row w g' j cur e (0,0) hh];rw[ZaF]at hv;split at hv
  ·simpa using hv
  ·cases hv
theorem wT{rows:List (List T)}{i:Int}(h0:0<=i)(h1:i<rows.length):rows[i.toNat]? =some (rowAt rows i):=by
 have:i.toNat<rows.length:=by omega
 simp[rowAt,List.getD,this]
theorem aR.take(n:Nat){ds:List T}:∀{vs:List Value},aR w W ds vs->aR w W (ds.take n) (vs.take n):=by
 induction n generalizing ds with
 |zero=>intro vs h;simp[aR]
 |succ n ih=>
  intro vs h;cases ds with
  |nil=>simp only[aR]at h;subst h;simp[aR]
  |cons d ds=>
   simp only[aR]at h;obtain⟨v,ia,rfl,h1,h2,hr⟩:=h;simp only[ZbZ,aR];exact⟨v,_,rfl,h1,h2,ih hr⟩
theorem aR.drop(n:Nat){ds:List T}:∀{vs:List Value},aR w W ds vs->aR w W (ds.drop n) (vs.drop n):=by
 induction n generalizing ds with
 |zero=>intro vs h;simpa using h
 |succ n ih=>
  intro vs h;cases ds with
  |nil=>simp only[aR]at h;subst h;simp[aR]
  |cons d ds=>
   simp only[aR]at h;obtain⟨v,ia,rfl,h1,h2,hr⟩:=h;simpa using ih hr
theorem su{P:Program}{t:TypeId}{d:TypeDesc}{i:TypeInfo}(hd:P.underlying t=some d)(hi:P.info? t=some i){b o off:Nat}{cs:List T}
  (hr:cY w (WW W objs L) b o cs) (aG:off+i.size<=cs.length/\(bA d=true\/i.size=1)):
  ∃v,(Instr.loadAt t (.pointer (some ⟨b,o+off,none⟩))).run P w=.ok v w/\
   av w W objs L (if bA d then .v (.agg ((cs.drop off).take i.size))else .v (cs.getD off default)) v:=by
 obtain⟨vs,hv,hc⟩:=cY.vals hr;have hl:=aR.length hv;have jn:=aR.take i.size (aR.drop off hv);refine⟨_,oI hd hi (vs:=(vs.drop off).take i.size) (by simp;omega) (λj v hj=>?_) aG.2, ?_⟩
 ·rw[ZaF]at hj;split at hj
  ·rw[Zbb]at hj;have:=hc _ _ hj
   rwa [show o+off+j=o+(off+j)by omega]
  ·cases hj
 ·by_cases ha:bA d=true
  ·simp only[ha,if_true,av,aS];exact⟨_,rfl,by simpa using jn⟩
  ·have h1:i.size=1:=aG.2.resolve_left ha;have cV:off<cs.length:=by omega
   obtain⟨v,p9,_,ff⟩:=aR.get hv (i:=off) (t:=cs[off]) (by simp[cV]);have e1:(List.take i.size (List.drop off vs)).getD 0 Go.undef=v:=by
    rw[h1];simp only[List.getD,ZaF,Zbb,ZbG,p9];simp
   have e2:cs.getD off default=cs[off]:=by simp[List.getD,cV]
   simp only[ha,e1,e2];exact ff
theorem Ai{P:Program}{base:Nat}{M:Nat->Prop}{w0:World}(hO:bN base W M w0 objs w L){t:TypeId}{d:TypeDesc}{i:TypeInfo}(hd:P.underlying t=some d)(hi:P.info? t=some i)
  {x:DV} {xv:Value} (hx:av w W objs L x xv) (aG:(ga i.size (bA d) objs x).ok):
  (ga i.size (bA d) objs x).put=none/\∃v,(Instr.loadAt t xv).run P w=.ok v w/\av w W objs L (ga i.size (bA d) objs x).val v:=by
 cases x with
 |ptr r off=>
  simp only[av]at hx;obtain⟨⟨cs,hc⟩,rfl⟩:=hx;simp only[ga,hc]at aG⊢;refine⟨trivial, ?_⟩;obtain⟨c,e,hh,hr,_⟩:=hO.ob r _ hc;have hl:=aL.length hr;have qa:=aL.take i.size (aL.drop off hr);refine⟨_,oI hd hi (vs:=(c.toList.drop off).take i.size) (by simp at hl⊢;omega) (λj v hj=>?_) aG.2, ?_⟩
  ·rw[ZaF]at hj;split at hj
   ·rw[Zbb]at hj;rw[cell_of_row w _ _ c e (0,0) hh];simpa using hj
   ·cases hj
  ·by_cases ha:bA d=true
   ·simp only[ha,if_true,av];exact⟨_,rfl,by simpa using qa⟩
   ·have h1:i.size=1:=aG.2.resolve_left ha;have cV:off<cs.length:=by omega
    obtain⟨v,p9,_,ff⟩:=aL.get hr (i:=off) (d:=cs[off]) (by simp[cV]);have e1:(List.take i.size (List.drop off c.toList)).getD 0 Go.undef=v:=by
     rw[h1];simp only[List.getD,ZaF,Zbb,ZbG,p9];simp
    have e2:cs.getD off .undef=cs[off]:=by simp[List.getD,cV]
    simp only[ha,e1,e2];exact ff
 |kL rows j off=>
  simp only[av]at hx;obtain⟨b,o,sz,rfl,hb,hn,hr,h0,h1⟩:=hx;simp only[ga]at aG⊢;exact⟨trivial,su hd hi (aY.row hr (wT h0 h1)).2 aG⟩
 |gE cs off=>
  simp only[av]at hx;obtain⟨b,o,rfl,hb,hn,hr⟩:=hx;simp only[ga]at aG⊢;exact⟨trivial,su hd hi hr aG⟩
 |v t'=>
  cases t' with
  |box cs=>
   simp only[av,aS]at hx;obtain⟨b,o,rfl,hb,hn,hr⟩:=hx;simp only[ga]at aG⊢;have:=su (objs:=objs) (L:=L) (W:=W) hd hi (off:=0) hr (by simpa using aG);refine⟨trivial, ?_⟩;simpa using this
  |_=>simp[ga,bad]at aG
 |jh r ver j off=>
  simp only[av]at hx;obtain⟨_,ver',e,sz,rows,ho,hle,hx⟩:=hx;simp only[ga,ho]at aG⊢;obtain⟨g,hg,rfl,h0,h1⟩:=hx aG.1;have tS:=nu.rows (hO.ob r _ ho) hg;have:=(aY.row tS (wT h0 h1)).2;rw[ZaX]at this;exact⟨trivial,su hd hi this aG.2⟩
 |_=>simp[ga,bad]at aG
end
end Go.DM
namespace Go.DM
open Go.RowKit
variable [Laid]
section
variable{w:World}{W:Nat->Prop}{objs:aU}{L:Loc}
theorem wU{y:DV}(h:dw (cellsOf y))(hl:(cellsOf y).length≠0\/True):lk y:=by
 cases y with
 |undef=>simp[cellsOf,dw,ji]at h
 |skip=>simp[cellsOf,dw,ji]at h
 |v t=>
  cases t<;>simp_all [cellsOf,dw,ji,lk,Ac]
 |eC ds=>simp[cellsOf,dw,ji]at h
 |_=>simp[lk]
theorem nR{y:DV}{yv:Value}(hy:av w W objs L y yv)(h:dw (cellsOf y)):aL w W objs L (cellsOf y) yv.cells.toList:=
 av.cells hy (wU h (.inr trivial))
theorem aL.one{ds:List DV}:∀{vs:List Value},aL w W objs L ds vs->∀v∈vs,v.oneCell'=true:=by
 induction ds with
 |nil=>intro vs h;simp only[aL]at h;subst h;simp
 |cons d ds ih=>
  intro vs h;simp only[aL]at h;obtain⟨v,ia,rfl,h1,_,hr⟩:=h;intro u hu;rcases Zag.1 hu with rfl|hu
  ·exact h1
  ·exact ih hr u hu
theorem aR.one{ds:List T}:∀{vs:List Value},aR w W ds vs->∀v∈vs,v.oneCell'=true:=by
 induction ds with
 |nil=>intro vs h;simp only[aR]at h;subst h;simp
 |cons d ds ih=>
  intro vs h;simp only[aR]at h;obtain⟨v,ia,rfl,h1,_,hr⟩:=h;intro u hu;rcases Zag.1 hu with rfl|hu
  ·exact h1
  ·exact ih hr u hu
theorem aL.bI{a b:List DV}{va vb:List Value}(off:Nat)(ha:aL w W objs L a va)(hb:aL w W objs L b vb):aL w W objs L (bI a off b) (bI va off vb):=by
 unfold DM.bI;rw[<-aL.length hb];exact aL.append (aL.append (aL.take off ha) hb) (aL.drop _ ha)
theorem aR.bI{a b:List T}{va vb:List Value}(off:Nat)(ha:aR w W a va)(hb:aR w W b vb):aR w W (bI a off b) (bI va off vb):=by
 unfold DM.bI;rw[<-aR.length hb];exact aR.append (aR.append (aR.take off ha) hb) (aR.drop _ ha)
theorem wV{base:Nat}{M:Nat->Prop}{w0:World}{g:Nat}(cs:Array Value)(h:Fr base M w0 w)(hg:base<=g\/M g):Fr base M w0 (w.setRow g cs):=
 ⟨h.os,h.tape,h.output,h.ik,by simpa using h.size,λk hk hm=>by
  rw[setRow_other w g k cs (by rintro rfl;exact hg.elim (λh1=>by omega) hm)];exact h.block k hk hm,by simpa using h.drawn⟩
theorem C5{P:Program}{t:TypeId}{i:TypeInfo}(hi:P.info? t=some i){g o:Nat}{e:TypeId}{cur:Array Value}(hg:w.heap[g]? =some (.cells cur e (0,0))){yv:Value}
  (hl:yv.cells.size=i.size) (qW:o+i.size<=cur.size) (h1:∀v∈yv.cells.toList,v.oneCell'=true):
  (Instr.storeAt t (.pointer (some ⟨g,o,none⟩)) yv).run P w=.ok () (w.setRow g (bI cur.toList o yv.cells.toList).toArray):=by
 have hs:=run_storeCells_at P g o e yv.cells.toList 0 cur w hg (by simp[hl];omega) h1;simp only[ZbG]at hs;simp only[Instr.storeAt,Instr.sureAddr,storeVar,Sem.run_bind,Sem.run_pure,Result.andThen_ok,run_sizeOf hi,hl,ne_eq,not_true_eq_false,if_false];exact hs
theorem OB{P:Program}{base:Nat}{M:Nat->Prop}{w0:World}(hO:bN base W M w0 objs w L){t:TypeId}{i:TypeInfo}(hi:P.info? t=some i)
  {r off:Nat} {cs:List DV} (hc:objs r=some (.box cs)) {y:DV} {yv:Value} (hy:av w W objs L y yv)
  (hn:(cellsOf y).length=i.size) (qW:off+i.size<=cs.length) (zz:dw (cellsOf y)):
  ∃w',(Instr.storeAt t (.pointer (some ⟨L.hY r,off,none⟩)) yv).run P w=.ok () w'/\
   bN base W M w0 (bV objs (some (r,.box (bI cs off (cellsOf y))))) w' L/\jc W objs L w (bV objs (some (r,.box (bI cs off (cellsOf y))))) L w':=by
 obtain⟨c,e,hh,hr,hm⟩:=hO.ob r _ hc;have oz:=nR hy zz;have tp:yv.cells.size=i.size:=by have:=aL.length oz;simpa [hn]using this
 have bj:c.size=cs.length:=by simpa using aL.length hr
 refine⟨_,C5 hi hh tp (by omega) (aL.one oz), ?_⟩;refine bN.put hO (wV _ hO.fr hm) (by simp) (λ_ _=>⟨rfl,rfl⟩) rfl (λb _ hb=>setRow_other w _ b _ (λx=>hb _ hc (by simp[Loc.own,x])))
  (λb hb=>.inl ⟨_,hc,hb⟩) (λo' gf _=>by rw[hc]at gf;cases gf;exact⟨rfl,rfl⟩) (λver e sz rows h=>by rw[hc]at h;cases h) (λee=>?_)
 refine⟨_,e,setRow_heap w _ c _ e _ hh, ?_,hm⟩;exact aL.bI off (aL.ee ee _ _ hr) (aL.ee ee _ _ oz)
theorem fB{α:Type}{l new:List α}{off:Nat}(h:off+new.length<=l.length):(bI l off new).length=l.length:=by
 simp[bI];omega
theorem ym{α:Type}{l new:List α}{off n:Nat}(h:off+new.length<=n)(hn:n<=l.length):(bI l off new).take n=bI (l.take n) off new:=by
 unfold bI;have e1:List.take off (List.take n l)=List.take off l:=by rw[Zcw];congr 1;omega
 have e2:(List.take off l++new).length=off+new.length:=by simp;omega
 rw[e1,List.drop_take,ZcI,e2,Za2 (by omega)]
theorem yn{sz:Nat}:∀(rows:List (List T)) (i off:Nat) (new:List T),(∀r∈rows,r.length=sz)->i<rows.length->off+new.length<=sz->
  (rows.set i (bI (rows.getD i []) off new)).flatten=bI rows.flatten (i*sz+off) new
 |[],i,_,_,_,h,_=>by simp at h
 |r::rs,0,off,new,hl,_,hf=>by
  have hr:r.length=sz:=hl r (by simp);simp only[List.getD_cons_zero,Zce,Zbf,bI,Zcm,ZaX];rw[List.take_append_of_le_length (by omega),List.drop_append_of_le_length (by omega)];simp
 |r::rs,i+1,off,new,hl,h,hf=>by
  have hr:r.length=sz:=hl r (by simp);have ih:=yn rs i off new (λx hx=>hl x (by simp[hx])) (by simpa using h) hf;simp only[List.getD_cons_succ,Zcz,Zbf];rw[show∀(a b:List T),bI (a++b) ((i+1)*sz+off) new=(a++b).take ((i+1)*sz+off)++new++(a++b).drop ((i+1)*sz+off+new.length)from λ_ _=>rfl];have e:(i+1)*sz+off=r.length+(i*sz+off):=by rw[Nat.add_mul,hr];omega
  rw[e,ZcI,List.drop_append];have e1:r.length+(i*sz+off)-r.length=i*sz+off:=by omega
  have e2:r.length+(i*sz+off)+new.length-r.length=i*sz+off+new.length:=by omega
  rw[e1,e2,Za2 (l:=r) (by omega),Zby (as:=r) (by omega)];simp only[ZaL,List.append_assoc];rw[ih];simp only[bI,List.append_assoc]
theorem Ew{objs2:aU}{d:DV}{v:Value}(hp:qR d)(h:av w W objs L d v):aS w (WW W objs L) (qw objs2 d) v:=by
 cases d with
 |v t=>simpa [qw,av]using h
 |aJ=>
  simp only[av]at h;obtain⟨a,rfl⟩:=h;simp only[qw,aS];exact .inl ⟨trivial,a,0,rfl⟩
 |_=>exact hp.elim
theorem mb{objs2:aU}:∀{ds:List DV} {vs:List Value},gM ds->aL w W objs L ds vs->aR w (WW W objs L) (gR objs2 ds) vs
 |[],vs,_,h=>by simpa [aL,aR,gR]using h
 |d::ds,vs,hp,h=>by
  simp only[gM]at hp;simp only[aL]at h;obtain⟨v,ia,rfl,h1,h2,hr⟩:=h;simp only[gR,aR];exact⟨v,ia,rfl,h1,Ew hp.1 h2,mb hp.2 hr⟩
theorem qX:∀{ds:List DV},gM ds->dw ds
 |[],_=>trivial
 |d::ds,h=>by
  simp only[gM]at h;simp only[dw];refine⟨?_,qX h.2⟩;have:=h.1;cases d<;>simp_all [qR,ji]
theorem qY:∀(ds:List DV),(gR objs ds).length=ds.length
 |[]=>rfl
 |_::ds=>by simp[gR,qY ds]
theorem OC{P:Program}{base:Nat}{M:Nat->Prop}{w0:World}(hO:bN base W M w0 objs w L){t:TypeId}{i:TypeInfo}(hi:P.info? t=some i)
  {r off ver e sz:Nat} {rows:List (List T)} {j:Int} {g:Nat} (hc:objs r=some (.arr ver e sz rows)) (hg:aP (L.sl r)=some g) (h0:0<=j) (h1:j<rows.length)
  {y:DV} {yv:Value} (hy:av w W objs L y yv) (hn:(cellsOf y).length=i.size) (qW:off+i.size<=sz) (zz:gM (cellsOf y)):
  ∃w',(Instr.storeAt t (.pointer (some ⟨g,j.toNat*sz+off,none⟩)) yv).run P w=.ok () w'/\
   bN base W M w0 (bV objs (some (r,.arr ver e sz (rows.set j.toNat (bI (rowAt rows j) off (gR objs (cellsOf y))))))) w' L/\
   jc W objs L w (bV objs (some (r,.arr ver e sz (rows.set j.toNat (bI (rowAt rows j) off (gR objs (cellsOf y))))))) L w':=by
 have fH:=hO.ob r _ hc;obtain⟨gF,cU,hm,ky⟩:=fH;rcases ky with⟨rfl,_⟩|⟨g',cap,cur,hv,hp,hh,hle,po,Ex,eI⟩
 ·simp at h1;omega
 ·rw[hv]at hg;simp only[aP,if_neg (ZaA.1 hp),Zaa]at hg;subst hg;have oz:=nR hy (qX zz);have tp:yv.cells.size=i.size:=by have:=aL.length oz;simpa [hn]using this
  have hj:j.toNat<rows.length:=by omega
  have hjs:j.toNat*sz+sz<=rows.length*sz:=by
   have:=Zba sz (show j.toNat+1<=rows.length by omega)
   rwa [Nat.add_mul,Nat.one_mul]at this
  have lz:rows.length*sz<=cap*sz:=Zba sz hle;have XY:(gR objs (cellsOf y)).length=i.size:=by rw[qY];exact hn
  have wD:yv.cells.toList.length=i.size:=by simpa using tp
  have eX:L.own r (.arr ver e sz rows)=some g':=by simp[Loc.own,hv,aP,ZaA.1 hp]
  refine⟨_,C5 hi hh tp (by omega) (aL.one oz), ?_⟩;refine bN.put hO (wV _ hO.fr (hm g' (by simp[hv,aP,ZaA.1 hp]))) (by simp) (λ_ _=>⟨rfl,rfl⟩) rfl (λb _ hb=>setRow_other w _ b _ (λx=>hb _ hc (by rw[eX,x])))
   (λb hb=>.inl ⟨_,hc,hb⟩) (λo' gf hk=>by rw[hc]at gf;cases gf;exact absurd rfl hk) (λver' e' gb dp h=>?_) (λee=>?_)
  ·rw[hc]at h;cases h;exact⟨ver,e,sz,_,rfl,Zae _,λ_=>⟨rfl,rfl,by simp⟩⟩
  ·refine⟨gF,λx hx=>?_,hm,.inr ⟨g',cap,_,by simpa using hv,hp,setRow_heap w _ cur _ e _ hh,by simpa using hle,po, ?_, ?_⟩⟩
   ·rcases ZaZ hx with hx|rfl
    ·exact cU x hx
    ·rw[fB]
     ·exact cU _ (by rw[rowAt,List.getD,Zan hj];simp)
     ·have:(rowAt rows j).length=sz:=cU _ (by rw[rowAt,List.getD,Zan hj];simp);omega
   ·have:=fB (l:=cur.toList) (new:=yv.cells.toList) (off:=j.toNat*sz+off) (by simp only[ZaT]at wD⊢;omega);simpa using this.trans (by simpa using Ex)
   ·rw[show rowAt rows j=rows.getD j.toNat []from rfl,yn rows j.toNat off _ cU hj (by omega)];simp only[Zcn];have e1:(bI cur.toList (j.toNat*sz+off) yv.cells.toList).toArray.toList.take (rows.length*sz)=bI (cur.toList.take (rows.length*sz)) (j.toNat*sz+off) yv.cells.toList:=by
     rw[List.toList_toArray];exact ym (by omega) (by simp;omega)
    rw[e1];exact aR.bI _ (aR.aD ee.keeps.toKeepsC ee.sub _ _ eI) (aR.aD ee.keeps.toKeepsC ee.sub _ _ (mb zz oz))
def Loc.fC(L:Loc)(r b:Nat):Loc:=⟨λx=>if x=r then b else L.hY x,L.sl,L.yl⟩
def Loc.gH(L:Loc)(r:Nat)(v:Value):Loc:=⟨L.hY,λx=>if x=r then v else L.sl x,L.yl⟩
theorem uW{base:Nat}{M:Nat->Prop}{w0 w':World}(h:Fr base M w0 w)(hb:tP w.heap.size w w'):Fr base M w0 w':=by
 have hle:base<=w.heap.size:=ZaE h.ik h.size;exact h.trans ⟨hb.os,hb.tape,hb.output,hle,hb.size,λk hk _=>hb.block k (by omega),hb.drawn⟩
theorem jA(o:Obj):tP w.heap.size w (w.alloc o):=⟨(Below.refl _ _).alloc (Zae _) _,Zae _⟩
theorem Ey{base:Nat}{M:Nat->Prop}{w0:World}(hO:bN base W M w0 objs w L){r:Nat}(hr:objs r=none){cs:List DV}{c:Array Value}(e:TypeId)(hc:aL w W objs L cs c.toList):
  bN base W M w0 (bV objs (some (r,.box cs))) (w.alloc (.cells c e)) (L.fC r w.heap.size)/\
   jc W objs L w (bV objs (some (r,.box cs))) (L.fC r w.heap.size) (w.alloc (.cells c e)):=by
 have hb:=jA (w:=w) (.cells c e);refine bN.put hO (uW hO.fr hb) hb.size (λx hx=>⟨by simp[Loc.fC,hx],rfl⟩) rfl (λb cV _=>hb.block b cV) (λb h=>.inr ?_)
  (λo' h _=>by rw[hr]at h;cases h) (λ_ _ _ _ h=>by rw[hr]at h;cases h) (λee=>?_)
 ·simp only[Loc.own,Loc.fC,if_true,Zaa]at h;omega
 ·refine⟨c,e, ?_,aL.ee ee _ _ hc,.inl ?_⟩
  ·simp only[Loc.fC,if_true];exact heap_alloc_new w _
  ·simp only[Loc.fC,if_true];exact ZaE hO.fr.ik hO.fr.size
theorem qZ{base:Nat}{M:Nat->Prop}{w0:World}(hO:bN base W M w0 objs w L){r ver e sz lo n:Nat}{rows:List (List T)}{xv:Value}(hc:objs r=some (.arr ver e sz rows))
  (hx:lo+n<=rows.length/\∃p cap p2,L.sl r=.slice p rows.length cap/\xv=.slice p2 n (cap-lo)/\(lo<cap->p2=p.map (·.add (lo*sz)))):
  (n=0/\∃(a:Option Addr) (c:Nat),xv=.slice a 0 c)\/∃g c,aP (L.sl r)=some g/\xv=.slice (some ⟨g,lo*sz,none⟩) n c/\n<=c/\aY w (WW W objs L) sz g (lo*sz) ((rows.drop lo).take n):=by
 obtain⟨QM,p,cap,p2,ta,rfl,MT⟩:=hx;by_cases hn:n=0
 ·subst hn;exact .inl ⟨rfl,p2,_,rfl⟩
 ·have fH:=hO.ob r _ hc;obtain⟨_,cU,hm,ky⟩:=fH;rcases ky with⟨rfl,a,ha⟩|⟨g,cap',cur,h1,h2,h3,h4,h5,h6,h7⟩
  ·simp at QM;omega
  ·have tT:aP (L.sl r)=some g:=by rw[h1];simp[aP,ZaA.1 h2]
   have tS:=nu.rows (hO.ob r _ hc) tT;rw[ta]at h1;simp only[Value.slice.injEq]at h1;obtain⟨rfl,_,rfl⟩:=h1;have:=MT (by omega);subst this;refine .inr ⟨g,cap-lo,tT,by simp[ll],by omega,aY.zw _ _ λj x hj=>?_⟩;rw[ZaF]at hj;split at hj
   ·rw[Zbb]at hj;have:=aY.row tS hj;rw[ZaX,Nat.add_mul]at this;exact this
   ·cases hj
structure QN(w:World)(W':Nat->Prop)(ys:List (List T))(sz:Nat)(v:Value):Prop where
 it:(ys=[]/\∃(a:Option Addr) (c:Nat),v=.slice a 0 c)\/∃b o c,v=.slice (some ⟨b,o,none⟩) ys.length c/\aY w W' sz b o ys
theorem oJ{base:Nat}{M:Nat->Prop}{w0:World}(hO:bN base W M w0 objs w L){y:DV}{yv:Value}{ys:List (List T)}{sz:Nat}(hy:av w W objs L y yv)(hs:dY objs y=some ys)(hl:∀r∈ys,r.length=sz):
  QN w (WW W objs L) ys sz yv:=by
 cases y with
 |v t=>
  cases t with
  |sl rows=>
   simp only[dY,Zaa]at hs;subst hs;simp only[av,aS]at hy;rcases hy with hy|⟨b,o,cap,gb,rfl,_,_,hc,hr⟩
   ·exact⟨.inl hy⟩
   ·refine⟨.inr ⟨b,o,cap,rfl, ?_⟩⟩
    match rows,hr with
    |[],_=>simp[aY]
    |r::rs,hr=>
     have h1:=(aY.row hr (i:=0) (r:=r) rfl).1;have h2:=hl r (by simp);have:gb=sz:=by omega
     exact this▸hr
  |raw v=>
   unfold dY at hs;split at hs<;>simp_all
   simp only[av,aS]at hy;exact⟨.inl ⟨rfl,_,_,hy⟩⟩
  |_=>simp[dY]at hs
 |aJ=>
  simp only[dY,Zaa]at hs;subst hs;simp only[av]at hy;obtain⟨a,rfl⟩:=hy;exact⟨.inl ⟨rfl,a,0,rfl⟩⟩
 |bd r ver=>
  simp only[dY]at hs;simp only[av]at hy;obtain⟨_,ver',e,gb,rows,ho,_,hx⟩:=hy;rw[ho]at hs;simp only at hs;split at hs
  ·rename_i hv;simp only[Zaa]at hs;subst hs;have fH:=hO.ob r _ ho;obtain⟨gF,cU,hm,ky⟩:=fH;rw[hx hv];rcases ky with⟨rfl,a,ha⟩|⟨g',cap,cur,p9,hp,hh,hle,po,Ex,eI⟩
   ·exact⟨.inl ⟨rfl,a,0,ha⟩⟩
   ·have tS:=nu.rows (hO.ob r _ ho) (g:=g') (by simp[p9,aP,ZaA.1 hp]);refine⟨.inr ⟨g',0,cap,p9, ?_⟩⟩
    match rows,tS,hl,cU with
    |[],_,_,_=>simp[aY]
    |r::rs,hr,hl,cU=>
     have h1:=cU r (by simp);have h2:=hl r (by simp);have:gb=sz:=by omega
     exact this▸hr
  ·cases hs
 |s8 r ver lo n=>
  simp only[dY]at hs;simp only[av]at hy;obtain⟨_,ver',e,gb,rows,ho,_,hx⟩:=hy;rw[ho]at hs;simp only at hs;split at hs
  ·rename_i hv;subst hv;simp only[Zaa]at hs;subst hs;have QM:=(hx rfl).1;have Eo:((rows.drop lo).take n).length=n:=by rw[Zaw,Za8];omega
   rcases qZ hO ho (hx rfl)with⟨rfl,a,c,rfl⟩|⟨g,c,_,rfl,_,hr⟩
   ·exact⟨.inl ⟨by simp,a,c,rfl⟩⟩
   ·refine⟨.inr ⟨g,lo*gb,c,by rw[Eo], ?_⟩⟩;have cU:=(hO.ob r _ ho).2.1
    match hq:(rows.drop lo).take n,hr,hl with
    |[],_,_=>simp[aY]
    |q::qs,hr,hl=>
     have h1:=cU q (Zbv (Zav (by rw[hq];simp)));have h2:=hl q (by simp);have:gb=sz:=by omega
     exact this▸hr
  ·cases hs
 |_=>simp[dY]at hs
theorem jo{P:Program}(w:World)(t ty e:TypeId)(i:TypeInfo)(ht:P.underlying t=some (.slice e))(hi:P.info? e=some i)(a b:Option Addr)(n cap c:Nat)(hn:n<=cap):
  (Builtin.append_ #[t,t] ty #[.slice a n cap,.slice b 0 c]).run P w=.ok (.slice a n cap) w:=by
 have hf:(Builtin.firstCells i.size 0 (.slice b 0 c)).run P w=.ok #[] w:=by
  cases b<;>simp[Builtin.firstCells,loadCells,loadCellsFrom]
 cases a<;>simp[Builtin.append_,run_underlying ht,sizeOf,typeInfo,hi,Builtin.lenOf,hn,hf,storeCells]
theorem Aj{e sz:Nat}{z:Value}(Gm:z.cells.size=sz){n m old:Nat}{xs vs:List Value}(hx:xs.length=n*sz)(hv:vs.length=m*sz)(h63:n+m<=maxLen):
  (w.drew.alloc (.cells (xs.toArray++vs.toArray++Builtin.zeroCells z.cells (grownCap w (n+m) old e-(n+m))) e)).ownsRow 0 e sz (.slice (some ⟨w.heap.size,0,none⟩) (n+m) (grownCap w (n+m) old e)) (n+m) (xs++vs)/\
   ∀row,w.grownBy (w.drew.alloc (.cells (xs.toArray++vs.toArray++Builtin.zeroCells z.cells (grownCap w (n+m) old e-(n+m))) e)) row:=by
 have zx:=grownCap_ge w (n+m) old e;have Ez:grownCap w (n+m) old e<=maxLen:=grownCap_le_maxLen w (n+m) old e h63;have hlen:(xs++vs).length=(n+m)*sz:=by rw[ZaB,hx,hv,Nat.add_mul]
 refine⟨⟨hlen,.inr ⟨w.heap.size,_,_,rfl,Zbg _,heap_alloc_new w.drew _,zx,Ez, ?_, ?_⟩⟩,λrow=>⟨rfl,rfl,rfl,by simp,λk hk _=>heap_alloc_old w.drew _ k hk⟩⟩
 ·simp only[Array.size_append,List.size_toArray,size_zeroCells,Gm,hx,hv,<-Nat.add_mul]
  congr 1
  omega
 ·simp only[Array.toList_append,List.append_assoc];rw[<-List.append_assoc,<-hlen];exact List.take_left
theorem OD{r:Nat}{o:Ob}(h:objs r=some o):bV objs (some (r,o))=objs:=by
 funext x;simp only[bV];split
 ·rename_i e;rw[e,h]
 ·rfl
theorem Ak{sz:Nat}{rows new:List (List T)}{lo:Nat}(hr:∀r∈rows,r.length=sz)(hn:∀r∈new,r.length=sz)(h:lo+new.length<=rows.length):(bI rows lo new).flatten=bI rows.flatten (lo*sz) new.flatten:=by
 have key:∀(l:List (List T)),(∀r∈l,r.length=sz)->l.flatten.length=l.length*sz:=by
  intro l;induction l with
  |nil=>simp
  |cons r rs ih=>intro h;simp[ih (λx hx=>h x (by simp[hx])),h r (by simp),Nat.add_mul];omega
 have tk:∀(k:Nat),k<=rows.length->(rows.take k).flatten=rows.flatten.take (k*sz)/\(rows.drop k).flatten=rows.flatten.drop (k*sz):=by
  intro k hk;have h8:rows.flatten=(rows.take k).flatten++(rows.drop k).flatten:=by rw[<-List.flatten_append,Zbe]
  have h9:(rows.take k).flatten.length=k*sz:=by rw[key _ (λr h=>hr r (Zav h)),Zaw];congr 1;omega
  rw[h8,Zco h9,List.drop_left' h9];exact⟨rfl,rfl⟩
 unfold bI;rw[List.flatten_append,List.flatten_append,(tk lo (by omega)).1,(tk _ h).2,key new hn,Nat.add_mul]
theorem C6{P:Program}{base:Nat}{M:Nat->Prop}{w0:World}(hO:bN base W M w0 objs w L){t t' ty e0:TypeId}{i:TypeInfo}(ht:P.underlying t=some (.slice e0))(hi:P.info? e0=some i)
  {r ver e lo n:Nat} {rows:List (List T)} (hc:objs r=some (.arr ver e i.size rows)) (QM:lo+n<=rows.length) {xv yv:Value}
  (jU:(n=0/\∃(a:Option Addr) (c:Nat),xv=.slice a 0 c)\/∃g c,aP (L.sl r)=some g/\xv=.slice (some ⟨g,lo*i.size,none⟩) n c) {ys:List (List T)} (hs:QN w (WW W objs L) ys i.size yv) (tp:∀r∈ys,r.length=i.size):
  ∃w',(Builtin.copy_ #[t,t'] ty #[xv,yv]).run P w=.ok (goInt (min ys.length n:Nat)) w'/\
   bN base W M w0 (bV objs (some (r,.arr ver e i.size (bI rows lo (ys.take n))))) w' L/\jc W objs L w (bV objs (some (r,.arr ver e i.size (bI rows lo (ys.take n))))) L w':=by
 have stay:ys.take n=[]->bN base W M w0 (bV objs (some (r,.arr ver e i.size (bI rows lo (ys.take n))))) w L/\jc W objs L w (bV objs (some (r,.arr ver e i.size (bI rows lo (ys.take n))))) L w:=by
  intro h0;have e1:bI rows lo (ys.take n)=rows:=by rw[h0];simp[bI]
  rw[e1,OD hc];exact⟨hO,jc.ct (cq.refl _ _)⟩
 have hlen:∃(p:Option Addr) (c:Nat),yv=.slice p ys.length c:=by
  rcases hs.it with⟨rfl,a,c,rfl⟩|⟨b,o,c,rfl,_⟩
  ·exact⟨a,c,rfl⟩
  ·exact⟨_,c,rfl⟩
 have hf0:∀(v:Value) (p:Option Addr) (m c:Nat),v=.slice p m c->(Builtin.firstCells i.size 0 v).run P w=.ok #[] w:=by
  rintro v p m c rfl;cases p<;>simp[Builtin.firstCells,loadCells,loadCellsFrom]
 obtain⟨yp,yc,hyv⟩:=hlen;rcases jU with⟨rfl,a,c,rfl⟩|⟨g,c,hg,rfl⟩
 ·refine⟨w, ?_,stay (by simp)⟩;have:=hf0 yv yp _ yc hyv;subst hyv;cases a<;>simp[Builtin.copy_,run_underlying ht,Builtin.lenOf,run_sizeOf hi,this,storeCells]
 ·by_cases hm:min ys.length n=0
  ·refine⟨w, ?_,stay ?_⟩
   ·have:=hf0 yv yp _ yc hyv;subst hyv;have EA:Nat.min ys.length n=0:=hm;simp[Builtin.copy_,run_underlying ht,Builtin.lenOf,run_sizeOf hi,hm,this,storeCells]
   ·by_cases h:ys.length=0
    ·rw[ZaD h];simp
    ·rw[show n=0 by omega];simp
  ·rcases hs.it with⟨rfl,_⟩|⟨b,o,c',hyv2,hr⟩
   ·simp at hm
   ·have fH:=hO.ob r _ hc;obtain⟨gF,cU,MU,ky⟩:=fH;rcases ky with⟨rfl,_⟩|⟨g',cap,cur,h1,h2,h3,h4,h5,h6,h7⟩
    ·simp at QM;omega
    ·have tT:aP (L.sl r)=some g':=by rw[h1];simp[aP,ZaA.1 h2]
     rw[tT]at hg;cases hg;obtain⟨vs,wD,zA,QO⟩:=aY.flatten hr;have EB:min ys.length n*i.size<=vs.length:=by rw[wD];exact Zba _ (Nat.min_le_left _ _)
     have OE:(ys.take n).length=min ys.length n:=by rw[Zaw,Nat.min_comm]
     have Eo:(vs.take (min ys.length n*i.size)).length=min ys.length n*i.size:=by rw[Zaw];omega
     have ZG:(Builtin.firstCells i.size (min ys.length n) yv).run P w=.ok (vs.take (min ys.length n*i.size)).toArray w:=by
      rw[hyv2];simp only[Builtin.firstCells];have:=yk (P:=P) (w:=w) (b:=b) (o:=o) (vs:=vs.take (min ys.length n*i.size)) (λj v hj=>QO j v (by
       rw[ZaF]at hj;split at hj
       ·exact hj
       ·cases hj))
      rw[Eo]at this;exact this
     have hfl:(ys.take n).flatten=ys.flatten.take (min ys.length n*i.size):=by
      have h8:ys.flatten=(ys.take n).flatten++(ys.drop n).flatten:=by rw[<-List.flatten_append,Zbe]
      rw[h8,Zco];have key:∀(l:List (List T)),(∀r∈l,r.length=i.size)->l.flatten.length=l.length*i.size:=by
       intro l;induction l with
       |nil=>simp
       |cons r rs ih=>intro h;simp[ih (λx hx=>h x (by simp[hx])),h r (by simp),Nat.add_mul];omega
      rw[key _ (λr h=>tp r (Zav h)),OE]
     have qW:lo*i.size+min ys.length n*i.size<=rows.length*i.size:=by
      rw[<-Nat.add_mul];exact Zba _ (by omega)
     have hcapr:rows.length*i.size<=cap*i.size:=Zba _ h4;have Qp:aR w (WW W objs L) (ys.take n).flatten (vs.take (min ys.length n*i.size)):=by rw[hfl];exact aR.take _ zA
     have kx:=run_storeCells_at P g (lo*i.size) e (vs.take (min ys.length n*i.size)) 0 cur w h3 (by rw[Eo,h6];omega) (aR.one Qp);have eX:L.own r (.arr ver e i.size rows)=some g:=tT;refine⟨w.setRow g (bI cur.toList (lo*i.size) (vs.take (min ys.length n*i.size))).toArray, ?_, ?_⟩
     ·have EA:Nat.min ys.length n=min ys.length n:=rfl;rw[hyv2]at ZG⊢;simp only[Builtin.copy_,Builtin.lenOf];simp only[ZbG]at kx;simp[run_underlying ht,run_sizeOf hi,ZG,kx,bI]
     ·refine bN.put hO (wV _ hO.fr (MU g tT)) (by simp) (λ_ _=>⟨rfl,rfl⟩) rfl (λb _ hb=>setRow_other w _ b _ (λx=>hb _ hc (by rw[eX,x])))
       (λb hb=>.inl ⟨_,hc,hb⟩) (λo' gf hk=>by rw[hc]at gf;cases gf;exact absurd rfl hk) (λver' e' gb dp h=>?_) (λee=>?_)
      ·rw[hc]at h;cases h;exact⟨ver,e,i.size,_,rfl,Zae _,λ_=>⟨rfl,rfl,fB (by rw[OE];omega)⟩⟩
      ·have qx:(bI rows lo (ys.take n)).length=rows.length:=fB (by rw[OE];omega);refine⟨gF,λx hx=>?_,MU,.inr ⟨g,cap,_,by rw[qx];exact h1,h2,setRow_heap w _ cur _ e _ h3,by rw[qx];exact h4,h5, ?_, ?_⟩⟩
       ·simp only[bI,Zao]at hx;rcases hx with(hx|hx)|hx
        ·exact cU x (Zav hx)
        ·exact tp x (Zav hx)
        ·exact cU x (Zbv hx)
       ·have:=fB (l:=cur.toList) (new:=vs.take (min ys.length n*i.size)) (off:=lo*i.size) (by rw[Eo];simp only[ZaT,h6];omega);simpa using this.trans (by simpa using h6)
       ·rw[qx,Ak cU (λx hx=>tp x (Zav hx)) (by rw[OE];omega)];rw[List.toList_toArray,ym (by rw[Eo];omega) (by simp only[ZaT,h6];omega)];exact aR.bI _ (aR.aD ee.keeps.toKeepsC ee.sub _ _ h7) (aR.aD ee.keeps.toKeepsC ee.sub _ _ Qp)
theorem mK{P:Program}{t ty e:TypeId}{i:TypeInfo}{z:Value}{sz:Nat}(ht:P.underlying t=some (.slice e))(hi:P.info? e=some i)(hz:i.zero=some z)(tq:i.size=sz)(Gm:z.cells.size=sz)
  {W':Nat->Prop} {v:Value} {n:Nat} {xs:List Value} (eX:(n=0/\xs=[]/\∃a:Option Addr,v=.slice a 0 0)\/∃g cap cur,v=.slice (some ⟨g,0,none⟩) n cap/\0<cap/\w.heap[g]? =some (.cells cur e (0,0))/\n<=cap/\cap<=maxLen/\cur.size=cap*sz/\cur.toList.take (n*sz)=xs)
  {ys:List (List T)} {yv:Value} (hs:QN w W' ys sz yv) (hyw:∀b o,aY w W' sz b o ys->∃vs,vs.length=ys.length*sz/\aR w W' ys.flatten vs/\∀j v,vs[j]? =some v->w.cell? ⟨b,o+j,none⟩=some v) (oK:cF i.bytes (n+ys.length)):
  ∃v' w' vs,(Builtin.append_ #[t,t] ty #[v,yv]).run P w=.ok v' w'/\aR w W' ys.flatten vs/\vs.length=ys.length*sz/\
   ((n+ys.length=0/\∃a:Option Addr,v'=.slice a 0 0)\/∃g cap cur,v'=.slice (some ⟨g,0,none⟩) (n+ys.length) cap/\0<cap/\w'.heap[g]? =some (.cells cur e (0,0))/\n+ys.length<=cap/\cap<=maxLen/\cur.size=cap*sz/\
     cur.toList.take ((n+ys.length)*sz)=xs++vs)/\
   w.grownBy w' (aP v)/\(∀b,aP v'=some b->aP v=some b\/w.heap.size<=b)/\w.drawn<=w'.drawn:=by
 have h63:n+ys.length<=maxLen:=by have:=oK.2;simp only[maxLen];omega
 have h63i:((n+ys.length:Nat):Int)<=9223372036854775807:=by have:=oK.2;omega
 have MV:w.grownBy w (aP v):=⟨rfl,rfl,rfl,Zae _,λ_ _ _=>rfl⟩;rcases hs.it with⟨rfl,b,c,rfl⟩|⟨b,o,c,rfl,hr⟩
 ·rcases eX with⟨rfl,rfl,a,rfl⟩|⟨g,cap,cur,rfl,hp,hg,h1,h2,h3,h4⟩
  ·exact⟨_,w,[],jo w t ty e i ht hi a b 0 0 c (Zae _),by simp[aR],by simp,.inl ⟨rfl,a,rfl⟩,MV,λb hb=>.inl hb,Zae _⟩
  ·exact⟨_,w,[],jo w t ty e i ht hi _ b n cap c h1,by simp[aR],by simp,.inr ⟨g,cap,cur,rfl,hp,hg,h1,h2,h3,by simpa using h4⟩,MV,λb hb=>.inl hb,Zae _⟩
 ·obtain⟨vs,wD,zA,QO⟩:=hyw b o hr;have hvc':∀j v,vs[j]? =some v->w.cell? ((⟨b,o,none⟩:Addr).add j)=some v:=λj v h=>by rw[ll];exact QO j v h
  by_cases hy0:ys.length=0
  ·have:ys=[]:=ZaD hy0;subst this;rcases eX with⟨rfl,rfl,a,rfl⟩|⟨g,cap,cur,rfl,hp,hg,h1,h2,h3,h4⟩
   ·exact⟨_,w,[],jo w t ty e i ht hi a _ 0 0 c (Zae _),by simp[aR],by simp,.inl ⟨rfl,a,rfl⟩,MV,λb hb=>.inl hb,Zae _⟩
   ·exact⟨_,w,[],jo w t ty e i ht hi _ _ n cap c h1,by simp[aR],by simp,.inr ⟨g,cap,cur,rfl,hp,hg,h1,h2,h3,by simpa using h4⟩,MV,λb hb=>.inl hb,Zae _⟩
  ·have grow:∀(a:Addr) (old:Nat),old<n+ys.length->xs.length=n*sz->(∀j u,xs[j]? =some u->w.cell? (a.add j)=some u)->
     ∃v' w',(Builtin.append_ #[t,t] ty #[.slice (some a) n old,.slice (some ⟨b,o,none⟩) ys.length c]).run P w=.ok v' w'/\
      (∃g cap cur,v'=.slice (some ⟨g,0,none⟩) (n+ys.length) cap/\0<cap/\w'.heap[g]? =some (.cells cur e (0,0))/\n+ys.length<=cap/\cap<=maxLen/\cur.size=cap*sz/\cur.toList.take ((n+ys.length)*sz)=xs++vs)/\
      (∀row,w.grownBy w' row)/\(∀b,aP v'=some b->w.heap.size<=b)/\w.drawn<=w'.drawn:=by
    intro a old ho sv hxc;have bz:=run_append_grow (P:=P) w t ty e i z ht hi hz a n old xs (by rw[tq];exact sv) hxc ⟨b,o,none⟩ ys.length c vs (by rw[tq];exact wD) hvc' ho h63i (growslice_fits ho oK.1);have yo:=Aj (w:=w) (e:=e) (old:=old) Gm sv wD h63;obtain⟨hlen,hor⟩:=yo.1;rcases hor with⟨hn,_⟩|⟨g,cap,cur,hv,_,hg,h1,h2,h3,h4⟩
    ·cases hn
    ·refine⟨_,_,bz,⟨g,cap,cur,hv,by omega,hg,h1,h2,h3,h4⟩,yo.2,λb hb=>?_,ZcQ _⟩;have po:grownCap w (n+ys.length) old e≠0:=by have:=grownCap_ge w (n+ys.length) old e;omega
     simp only[aP,if_neg po,Zaa]at hb;omega
   rcases eX with⟨rfl,rfl,a,rfl⟩|⟨g,cap,cur,rfl,hp,hg,h1,h2,h3,h4⟩
   ·cases a with
    |none=>
     have bz:=run_append_nil (P:=P) w t ty e i z ht hi hz ⟨b,o,none⟩ ys.length c vs (by rw[tq];exact wD) hvc' (by omega) (by omega) (by have:=growslice_fits (old:=0) (need:=ys.length) (by omega) (by simpa using oK.1);have h2:=oK.1;simp only[ZaX]at h2;omega);have yo:=Aj (w:=w) (e:=e) (old:=0) (n:=0) (xs:=[]) Gm (by simp) wD (by simpa using h63);simp only[ZaX,ZaL,Array.empty_append]at yo⊢;obtain⟨hlen,hor⟩:=yo.1;rcases hor with⟨hn,_⟩|⟨g,cap,cur,hv,_,hg,h1,h2,h3,h4⟩
     ·cases hn
     ·refine⟨_,_,vs,bz,zA,wD,.inr ⟨g,cap,cur,hv,by omega,hg,h1,h2,h3,h4⟩,yo.2 _,λb hb=>.inr ?_,ZcQ _⟩;have po:grownCap w ys.length 0 e≠0:=by have:=grownCap_ge w ys.length 0 e;omega
      simp only[aP,if_neg po,Zaa]at hb;omega
    |some a=>
     obtain⟨v',w',bz,qa,yo,MW,J5⟩:=grow a 0 (by omega) (by simp) (by simp);exact⟨v',w',vs,bz,zA,wD,.inr qa,yo _,λb hb=>.inr (MW b hb),J5⟩
   ·have sv:xs.length=n*sz:=by
     rw[<-h4,Zaw,ZaT,h3];exact ZcO (Zba sz h1)
    have QP:cap≠0:=ZaA.1 hp;by_cases J6:n+ys.length<=cap
    ·have qW:n*i.size+vs.length<=cur.size:=by rw[wD,h3,tq,<-Nat.add_mul];exact Zba _ J6
     have bz:=run_append_room (P:=P) w t ty e i ht hi g n cap cur hg ⟨b,o,none⟩ ys.length c vs (by rw[tq];exact wD) hvc' (aR.one zA) J6 qW;refine⟨_,_,vs,bz,zA,wD,.inr ⟨g,cap,_,rfl,hp,setRow_heap w g cur _ e _ hg,J6,h2, ?_, ?_⟩,⟨rfl,rfl,rfl,by simp,λk _ hk=>setRow_other w g k _ (λe=>hk (by simp[aP,QP,e]))⟩,λb hb=>.inl ?_,by simp⟩
     ·simp only[List.size_toArray,ZaB,Zaw,Za8,ZaT];rw[tq]at qW⊢;omega
     ·have hlen:(xs++vs).length=(n+ys.length)*sz:=by rw[ZaB,sv,wD,Nat.add_mul]
      rw[tq,h4,<-hlen];exact List.take_left
     ·simpa [aP,QP]using hb
    ·obtain⟨v',w',bz,qa,yo,MW,J5⟩:=grow ⟨g,0,none⟩ cap (by omega) sv (λj u hu=>by
      rw[ll,ZaX,cell_of_row w g j cur e (0,0) hg];rw[<-h4,ZaF]at hu;split at hu
      ·simpa using hu
      ·cases hu)
     exact⟨v',w',vs,bz,zA,wD,.inr qa,yo _,λb hb=>.inr (MW b hb),J5⟩
theorem rj{sz:Nat}:∀{rows:List (List T)},(∀r∈rows,r.length=sz)->rows.flatten.length=rows.length*sz
 |[],_=>by simp
 |r::rs,h=>by
  have:=rj (rows:=rs) (sz:=sz) λx hx=>h x (by simp[hx]);simp[this,h r (by simp),Nat.add_mul];omega
theorem pq{base:Nat}{M:Nat->Prop}{w0:World}(hO:bN base W M w0 objs w L){r:Nat}{ver ver' e sz:Nat}{rows ys:List (List T)}(gF:0<sz)
  {v v':Value} {w':World} {xs vs:List Value} (Qp:∀x∈rows++ys,x.length=sz)
  {rows0:List (List T)} (hold:(objs r=none/\rows=[]/\aP v=none)\/(objs r=some (.arr ver e sz rows0)/\aP (L.sl r)=aP v/\ver<ver'))
  (hxs:aR w (WW W objs L) rows.flatten xs) (hvs:aR w (WW W objs L) ys.flatten vs)
  (qV:(rows.length+ys.length=0/\∃a:Option Addr,v'=.slice a 0 0)\/∃g cap cur,v'=.slice (some ⟨g,0,none⟩) (rows.length+ys.length) cap/\0<cap/\w'.heap[g]? =some (.cells cur e (0,0))/\rows.length+ys.length<=cap/\cap<=maxLen/\cur.size=cap*sz/\
     cur.toList.take ((rows.length+ys.length)*sz)=xs++vs)
  (yo:w.grownBy w' (aP v)) (MW:∀b,aP v'=some b->aP v=some b\/w.heap.size<=b) (J5:w.drawn<=w'.drawn):
  bN base W M w0 (bV objs (some (r,.arr ver' e sz (rows++ys)))) w' (L.gH r v')/\jc W objs L w (bV objs (some (r,.arr ver' e sz (rows++ys)))) (L.gH r v') w':=by
 have QQ:∀g,aP v=some g->base<=g\/M g:=λg hg=>by
  rcases hold with⟨_,_,h⟩|⟨ho,hv,_⟩
  ·rw[hg]at h;cases h
  ·exact(hO.ob r _ ho).reach (by simpa [Loc.own,hv]using hg)
 have hle:base<=w.heap.size:=ZaE hO.fr.ik hO.fr.size;have wC:Fr base M w0 w':=hO.fr.trans ⟨yo.os,yo.tape,yo.output,hle,yo.size,λk hk hm=>yo.block k (by omega) λx=>by
  rcases QQ k x.symm with h|h
  ·omega
  ·exact hm h,J5⟩
 refine bN.put hO wC yo.size (λx hx=>⟨rfl,by simp[Loc.gH,hx]⟩) rfl (λb cV hb=>yo.block b cV λx=>?_) (λb hb=>?_) (λcs hc hk=>?_) (λnP e2 C3 jT hc=>?_) (λee=>?_)
 ·rcases hold with⟨_,_,h⟩|⟨ho,hv,_⟩
  ·rw[h]at x;cases x
  ·exact hb _ ho (by simp[Loc.own,hv,<-x])
 ·simp only[Loc.own,Loc.gH,if_true]at hb;rcases MW b hb with h|h
  ·rcases hold with⟨_,_,h2⟩|⟨ho,hv,_⟩
   ·rw[h]at h2;cases h2
   ·exact .inl ⟨_,ho,by simp[Loc.own,hv,h]⟩
  ·exact .inr h
 ·rcases hold with⟨h,_⟩|⟨h,_⟩<;>rw[hc]at h<;>cases h
  exact absurd rfl (by assumption)
 ·rcases hold with⟨h,_⟩|⟨h,_,cV⟩
  ·rw[hc]at h;cases h
  ·rw[hc]at h;cases h;exact⟨ver',e,sz,_,rfl,by omega,λx=>by omega⟩
 ·refine⟨gF,Qp,λg hg=>?_, ?_⟩
  ·simp only[Loc.gH,if_true]at hg;rcases MW g hg with h|h
   ·exact QQ g h
   ·exact .inl (ZaE hle h)
  ·simp only[Loc.gH,if_true,ZaB];rcases qV with⟨h0,ha⟩|⟨g,cap,cur,hv,hp,hg,h1,h2,h3,h4⟩
   ·refine .inl ⟨?_,ha⟩;have h1:rows=[]:=ZaD (by omega);have h2:ys=[]:=ZaD (by omega);simp[h1,h2]
   ·refine .inr ⟨g,cap,cur,hv,hp,hg,h1,h2,h3, ?_⟩;rw[h4,List.flatten_append];exact aR.append (aR.aD ee.keeps.toKeepsC ee.sub _ _ hxs) (aR.aD ee.keeps.toKeepsC ee.sub _ _ hvs)
theorem EC{P:Program}{base:Nat}{M:Nat->Prop}{w0:World}(hO:bN base W M w0 objs w L){t ty e:TypeId}{i:TypeInfo}{z:Value}(ht:P.underlying t=some (.slice e))(hi:P.info? e=some i)(hz:i.zero=some z)(Gm:z.cells.size=i.size)(gF:0<i.size)
  {name:Nat} (dz:objs name=none) {x y:DV} {xv yv:Value} (hx:av w W objs L x xv) (hy:av w W objs L y yv) (aG:(fS e i.size i.bytes name objs x y).ok):
  ∃v w' L',(Builtin.append_ #[t,t] ty #[xv,yv]).run P w=.ok v w'/\bN base W M w0 (bV objs (fS e i.size i.bytes name objs x y).put) w' L'/\
   jc W objs L w (bV objs (fS e i.size i.bytes name objs x y).put) L' w'/\av w' W (bV objs (fS e i.size i.bytes name objs x y).put) L' (fS e i.size i.bytes name objs x y).val v:=by
 unfold fS at aG⊢;cases hs:dY objs y with
 |none=>simp[hs,bad]at aG
 |some ys=>
  simp only[hs]at aG⊢;have hyw:∀b o,aY w (WW W objs L) i.size b o ys->∃vs,vs.length=ys.length*i.size/\aR w (WW W objs L) ys.flatten vs/\∀j v,vs[j]? =some v->w.cell? ⟨b,o+j,none⟩=some v:=λb o h=>aY.flatten h;cases x with
  |aJ=>
   simp only at aG⊢;have fJ:=hx;simp only[av]at fJ;obtain⟨a,rfl⟩:=fJ;obtain⟨v',w',vs,bz,zA,wD,qV,yo,MW,J5⟩:=mK (n:=0) (xs:=[]) ht hi hz rfl Gm (.inl ⟨rfl,rfl,a,rfl⟩) (ty:=ty) (oJ hO hy hs aG.1) hyw (by simpa using aG.2);have tT:aP (.slice a 0 0)=none:=by cases a<;>simp[aP]
   have:=pq hO (r:=name) (ver:=0) (ver':=0) (rows0:=[]) (rows:=[]) (ys:=ys) gF (by simpa using aG.1) (.inl ⟨dz,rfl,tT⟩) (xs:=[]) (by simp[aR]) zA (by simpa using qV) yo MW J5;refine⟨v',w',_,bz,by simpa using this.1,by simpa using this.2, ?_⟩;simp only[av];refine⟨?_,0,e,i.size,ys,by simp[bV],Zae _,λ_=>by simp[Loc.gH]⟩;rcases qV with⟨_,a,rfl⟩|⟨g,cap,cur,rfl,_⟩<;>exact⟨_,_,_,rfl⟩
  |bd r ver=>
   cases ho:objs r with
   |none=>simp[ho,bad]at aG
   |some o=>
    cases o with
    |box cs=>simp[ho,bad]at aG
    |arr ver' e' gb rows=>
     simp only[ho]at aG⊢;obtain⟨rfl,rfl,rfl,hl,oK⟩:=aG;have fJ:=hx;simp only[av]at fJ;obtain⟨_,nP,e2,C3,jT,lP,_,jn⟩:=fJ;rw[ho]at lP;cases lP;have hv:=jn rfl;have fH:=hO.ob r _ ho;obtain⟨_,cU,hm,ky⟩:=fH;have eX:∃xs,aR w (WW W objs L) rows.flatten xs/\((rows.length=0/\xs=[]/\∃a:Option Addr,xv=.slice a 0 0)\/∃g cap cur,xv=.slice (some ⟨g,0,none⟩) rows.length cap/\0<cap/\w.heap[g]? =some (.cells cur e' (0,0))/\rows.length<=cap/\cap<=maxLen/\cur.size=cap*i.size/\cur.toList.take (rows.length*i.size)=xs):=by
      rcases ky with⟨rfl,a,ha⟩|⟨g,cap,cur,h1,h2,h3,h4,h5,h6,h7⟩
      ·exact⟨[],by simp[aR],.inl ⟨rfl,rfl,a,by rw[hv,ha]⟩⟩
      ·exact⟨_,h7,.inr ⟨g,cap,cur,by rw[hv,h1],h2,h3,h4,h5,h6,rfl⟩⟩
     obtain⟨xs,CB,eX⟩:=eX;obtain⟨v',w',vs,bz,zA,wD,qV,yo,MW,J5⟩:=mK ht hi hz rfl Gm eX (ty:=ty) (oJ hO hy hs hl) hyw oK;have:=pq hO (r:=r) (ver:=ver) (ver':=ver+1) (rows:=rows) (ys:=ys) gF (λx hx=>(Zao.1 hx).elim (cU x) (hl x)) (.inr ⟨ho,by rw[hv],by omega⟩) CB zA qV yo MW J5;refine⟨v',w',_,bz,this.1,this.2, ?_⟩;simp only[av];refine⟨?_,ver+1,e',i.size,rows++ys,by simp[bV],Zae _,λ_=>by simp[Loc.gH]⟩;rcases qV with⟨_,a,rfl⟩|⟨g,cap,cur,rfl,_⟩<;>exact⟨_,_,_,rfl⟩
    |_=>simp[ho,bad]at aG
  |s8 r ver lo n=>
   cases lo with
   |succ lo=>simp[bad]at aG
   |zero=>
   cases ho:objs r with
   |none=>simp[ho,bad]at aG
   |some o=>
    cases o with
    |arr ver' e' gb rows=>
     simp only[ho]at aG⊢;obtain⟨rfl,rfl,rfl,hl,oK⟩:=aG;have fJ:=hx;simp only[av]at fJ;obtain⟨_,nP,e2,C3,jT,lP,_,jn⟩:=fJ;rw[ho]at lP;cases lP;obtain⟨QM,p,QR,p2,ta,rfl,MT⟩:=jn rfl;have fH:=hO.ob r _ ho;obtain⟨_,cU,hm,ky⟩:=fH;have Eo:(rows.take n).length=n:=by rw[Zaw];omega
     have tT:aP (L.sl r)=aP (.slice p2 n (QR-0)):=by
      rw[ta];simp only[Zb2];by_cases Qq:QR=0
      ·subst Qq;cases p<;>cases p2<;>simp[aP]
      ·have:=MT (by omega);subst this;cases p with
       |none=>simp[aP]
       |some a=>
        obtain⟨b,o,ix⟩:=a;cases ix<;>simp[aP,Qq,Addr.add]
     have eX:∃xs,aR w (WW W objs L) (rows.take n).flatten xs/\((n=0/\xs=[]/\∃a:Option Addr,Value.slice p2 n (QR-0)=.slice a 0 0)\/∃g cap cur,Value.slice p2 n (QR-0)=.slice (some ⟨g,0,none⟩) n cap/\0<cap/\w.heap[g]? =some (.cells cur e' (0,0))/\n<=cap/\cap<=maxLen/\cur.size=cap*i.size/\cur.toList.take (n*i.size)=xs):=by
      rcases ky with⟨rfl,a,ha⟩|⟨g,cap,cur,h1,h2,h3,h4,h5,h6,h7⟩
      ·rw[ta]at ha;simp only[Value.slice.injEq]at ha;obtain⟨_,_,rfl⟩:=ha;have:n=0:=by simp at QM;omega
       subst this;exact⟨[],by simp[aR],.inl ⟨rfl,rfl,p2,rfl⟩⟩
      ·rw[ta]at h1;simp only[Value.slice.injEq]at h1;obtain⟨rfl,_,rfl⟩:=h1;have:=MT h2;subst this;refine⟨_, ?_,.inr ⟨g,QR,cur,by simp[ll],h2,h3,by omega,h5,h6,rfl⟩⟩;have e1:(rows.take n).flatten=rows.flatten.take (n*i.size):=by
        have h8:rows.flatten=(rows.take n).flatten++(rows.drop n).flatten:=by rw[<-List.flatten_append,Zbe]
        rw[h8,Zco (by rw[rj (sz:=i.size) (λr hr=>cU r (Zav hr)),Eo])]
       have e2:cur.toList.take (n*i.size)=(cur.toList.take (rows.length*i.size)).take (n*i.size):=by
        rw[Zcw];congr 1;have:=Zba i.size (show n<=rows.length by omega);omega
       rw[e1,e2];exact aR.take _ h7
     obtain⟨xs,CB,eX⟩:=eX;obtain⟨v',w',vs,bz,zA,wD,qV,yo,MW,J5⟩:=mK ht hi hz rfl Gm eX (ty:=ty) (oJ hO hy hs hl) hyw oK;have:=pq hO (r:=r) (ver:=ver) (ver':=ver+1) (rows:=rows.take n) (ys:=ys) gF (λx hx=>(Zao.1 hx).elim (λh=>cU x (Zav h)) (hl x)) (.inr ⟨ho,tT,by omega⟩) CB zA (by rw[Eo];exact qV) yo MW J5;refine⟨v',w',_,bz,this.1,this.2, ?_⟩;simp only[av];refine⟨?_,ver+1,e',i.size,rows.take n++ys,by simp[bV],Zae _,λ_=>by simp[Loc.gH]⟩;rcases qV with⟨_,a,rfl⟩|⟨g,cap,cur,rfl,_⟩<;>exact⟨_,_,_,rfl⟩
    |_=>simp[ho,bad]at aG
  |_=>simp[bad]at aG
theorem J7{P:Program}{base:Nat}{M:Nat->Prop}{w0:World}(hO:bN base W M w0 objs w L){t t' ty e0:TypeId}{i:TypeInfo}(ht:P.underlying t=some (.slice e0))(hi:P.info? e0=some i)
  {x y:DV} {xv yv:Value} (hx:av w W objs L x xv) (hy:av w W objs L y yv) (aG:(iE i.size objs x y).ok):
  ∃v w',(Builtin.copy_ #[t,t'] ty #[xv,yv]).run P w=.ok v w'/\bN base W M w0 (bV objs (iE i.size objs x y).put) w' L/\
   jc W objs L w (bV objs (iE i.size objs x y).put) L w'/\av w' W (bV objs (iE i.size objs x y).put) L (iE i.size objs x y).val v:=by
 unfold iE at aG⊢;cases hs:dY objs y with
 |none=>simp[hs,bad]at aG
 |some ys=>
  simp only[hs]at aG⊢;cases x with
  |bd r ver=>
   cases ho:objs r with
   |none=>simp[ho,bad]at aG
   |some o=>
    cases o with
    |arr ver' e gb rows=>
     simp only[ho]at aG⊢;obtain⟨rfl,rfl,hl⟩:=aG;simp only[av]at hx;obtain⟨_,nP,e2,C3,jT,lP,_,jn⟩:=hx;rw[ho]at lP;cases lP;have hv:=jn rfl;subst hv;have hd:(rows.length=0/\∃(a:Option Addr) (c:Nat),L.sl r=.slice a 0 c)\/∃g c,aP (L.sl r)=some g/\L.sl r=.slice (some ⟨g,0*i.size,none⟩) rows.length c:=by
      obtain⟨_,_,_,ky⟩:=hO.ob r _ ho;rcases ky with⟨rfl,a,ha⟩|⟨g,cap,cur,h1,h2,_⟩
      ·exact .inl ⟨rfl,a,0,ha⟩
      ·exact .inr ⟨g,cap,by rw[h1];simp[aP,ZaA.1 h2],by rw[h1,Zcm]⟩
     obtain⟨w',h1,h2,h3⟩:=C6 hO ht hi (t':=t') (ty:=ty) ho (lo:=0) (n:=rows.length) (by omega) hd (oJ hO hy hs hl) hl;exact⟨_,w',h1,h2,h3,by simp[av,aS,goInt]⟩
    |_=>simp[ho,bad]at aG
  |s8 r ver lo n=>
   cases ho:objs r with
   |none=>simp[ho,bad]at aG
   |some o=>
    cases o with
    |arr ver' e gb rows=>
     simp only[ho]at aG⊢;obtain⟨rfl,rfl,hl⟩:=aG;simp only[av]at hx;obtain⟨_,nP,e2,C3,jT,lP,_,jn⟩:=hx;rw[ho]at lP;cases lP;have hv:=jn rfl;have hd:(n=0/\∃(a:Option Addr) (c:Nat),xv=.slice a 0 c)\/∃g c,aP (L.sl r)=some g/\xv=.slice (some ⟨g,lo*i.size,none⟩) n c:=by
      rcases qZ hO ho hv with h|⟨g,c,h1,h2,_⟩
      ·exact .inl h
      ·exact .inr ⟨g,c,h1,h2⟩
     obtain⟨w',h1,h2,h3⟩:=C6 hO ht hi (t':=t') (ty:=ty) ho hv.1 hd (oJ hO hy hs hl) hl;exact⟨_,w',h1,h2,h3,by simp[av,aS,goInt]⟩
    |_=>simp[ho,bad]at aG
  |_=>simp[bad]at aG
theorem im{α:Type}(l:List α):∀(n j:Nat),j<n*l.length->(List.replicate n l).flatten[j]? =l[j % l.length]?
 |0,j,h=>by simp at h
 |n+1,j,h=>by
  simp only[Za6,Zbf];by_cases hj:j<l.length
  ·rw[Zbk hj,Zck hj]
  ·rw[Zbi (by omega),im l n (j-l.length) (by rw[Nat.add_mul]at h;omega)];rw[Nat.mod_eq_sub_mod (a:=j) (by omega)]
theorem uX(z:Array Value)(n:Nat):(madeCells z (n*z.size)).toList=(List.replicate n z.toList).flatten:=by
 apply Zbl;intro j;by_cases hj:j<n*z.size
 ·have hz:0<z.size:=by
   rcases ZcA z.size with h|h
   ·rw[h]at hj;simp at hj
   ·exact h
  rw[im z.toList n j (by simpa using hj)];have hm:=Nat.mod_lt j hz;simp[madeCells,hj,hm]
 ·rw[ZaS (by simp[size_madeCells];omega),ZaS (by simp;omega)]
theorem rl{zero:List T}{zs:List Value}(h:aR w W zero zs):∀n,aR w W (List.replicate n zero).flatten (List.replicate n zs).flatten
 |0=>by simp[aR]
 |n+1=>by simpa [Za6]using aR.append h (rl h n)
theorem XZ{base:Nat}{M:Nat->Prop}{w0:World}(hO:bN base W M w0 objs w L){r:Nat}(hr:objs r=none){e sz:Nat}{rows:List (List T)}(gF:0<sz)(Qp:∀x∈rows,x.length=sz){c:Array Value}(lz:c.size=rows.length*sz)
  (hc:aR w (WW W objs L) rows.flatten c.toList) (hmax:rows.length<=maxLen):
  bN base W M w0 (bV objs (some (r,.arr 0 e sz rows))) (w.alloc (.cells c e)) (L.gH r (.slice (some ⟨w.heap.size,0,none⟩) rows.length rows.length))/\
   jc W objs L w (bV objs (some (r,.arr 0 e sz rows))) (L.gH r (.slice (some ⟨w.heap.size,0,none⟩) rows.length rows.length)) (w.alloc (.cells c e)):=by
 have hb:=jA (w:=w) (.cells c e);refine bN.put hO (uW hO.fr hb) hb.size (λx hx=>⟨rfl,by simp[Loc.gH,hx]⟩) rfl (λb cV _=>hb.block b cV) (λb h=>.inr ?_)
  (λo' h _=>by rw[hr]at h;cases h) (λ_ _ _ _ h=>by rw[hr]at h;cases h) (λee=>?_)
 ·simp only[Loc.own,Loc.gH,if_true,aP]at h;split at h
  ·cases h
  ·simp only[Zaa]at h;omega
 ·refine⟨gF,Qp,λg hg=>?_, ?_⟩
  ·simp only[Loc.gH,if_true,aP]at hg;split at hg
   ·cases hg
   ·simp only[Zaa]at hg;subst hg;exact .inl (ZaE hO.fr.ik hO.fr.size)
  ·simp only[Loc.gH,if_true];by_cases h0:rows.length=0
   ·refine .inl ⟨ZaD h0,some ⟨w.heap.size,0,none⟩,by rw[h0]⟩
   ·refine .inr ⟨w.heap.size,rows.length,c,rfl,by omega,heap_alloc_new w _,Zae _,hmax,lz, ?_⟩;rw[Za2 (by simp[lz])];exact aR.aD ee.keeps.toKeepsC ee.sub _ _ hc
theorem Al{P:Program}{base:Nat}{M:Nat->Prop}{w0:World}(hO:bN base W M w0 objs w L){t e:TypeId}{i:TypeInfo}{z:Value}(ht:P.underlying t=some (.slice e))(hi:P.info? e=some i)(hz:i.zero=some z)(gF:0<i.size)
  {zero:List T} (hzero:z.cells.toList.mapM pn=some zero) {name:Nat} (dz:objs name=none) {x:DV} {xv:Value} (hx:av w W objs L x xv) (aG:(jS e i.size i.bytes zero name x).ok):
  ∃v w' L',(Instr.makeSlice t xv xv).run P w=.ok v w'/\bN base W M w0 (bV objs (jS e i.size i.bytes zero name x).put) w' L'/\
   jc W objs L w (bV objs (jS e i.size i.bytes zero name x).put) L' w'/\av w' W (bV objs (jS e i.size i.bytes zero name x).put) L' (jS e i.size i.bytes zero name x).val v:=by
 cases x with
 |v t'=>
  cases t' with
  |int k n=>
   simp only[av,aS]at hx;subst hx;simp only[jS]at aG⊢;obtain⟨h0,QS,hb,hm⟩:=aG;have hzz:=p8 (w:=w) (W:=WW W objs L) hzero;have Gm:z.cells.size=i.size:=by have:=aR.length hzz;simpa [QS]using this
   have hbi:(i.bytes:Int)*n<=281474976710656:=by
    have e:(i.bytes:Int)*n=((n.toNat*i.bytes:Nat):Int):=by
     rw[Int.natCast_mul,Int.toNat_of_nonneg h0,ZcJ]
    rw[e];omega
   have bz:=run_make (P:=P) w t e i z ht hi hz k k n n h0 (Zcx _) hbi (by omega);have hc:(madeCells z.cells (n.toNat*i.size)).toList=(List.replicate n.toNat z.cells.toList).flatten:=by rw[<-Gm];exact uX _ _
   have:=XZ hO (e:=e) dz (rows:=List.replicate n.toNat zero) gF (λx hx=>by rw[ZbH hx];exact QS) (c:=madeCells z.cells (n.toNat*i.size)) (by simp[size_madeCells]) (by rw[hc];exact rl hzz _) (by simp only[ZbC,maxLen];omega);simp only[ZbC]at this;refine⟨_,_,_,bz,this.1,this.2, ?_⟩;simp only[av];exact⟨⟨_,_,_,rfl⟩,0,e,i.size,List.replicate n.toNat zero,by simp[bV],Zae _,λ_=>by simp[Loc.gH]⟩
  |_=>simp[jS,bad]at aG
 |_=>simp[jS,bad]at aG
theorem J8{ts:List T}:∀{zs:List Value},zs.mapM pn=some ts->aL w W objs L (ts.map C2) zs:=by
 induction ts with
 |nil=>
  intro zs h;cases zs with
  |nil=>simp[aL]
  |cons z zs=>simp[Za1,Zac]at h
 |cons t ts ih=>
  intro zs h;cases zs with
  |nil=>simp at h
  |cons z zs=>
   simp only[Za1,Zak,Zaf,Zac,Zaa,Za5]at h;obtain⟨t',ht,ts',QT,rfl,rfl⟩:=h;simp only[Zau,aL];have hr:=Ah (w:=w) (W:=WW W objs L) ht;refine⟨z,zs,rfl,hr.2.1, ?_,ih QT⟩;unfold C2;split
   ·unfold pn at ht;split at ht<;>first|(cases ht;done)|skip
    all_goals first
     |(simp only[av];exact⟨_,rfl⟩)
     |(cases ht)
   ·simp only[av];exact hr.1
theorem qb{zero:List DV}{zs:List Value}(h:aL w W objs L zero zs):∀n,aL w W objs L (List.replicate n zero).flatten (List.replicate n zs).flatten
 |0=>by simp[aL]
 |n+1=>by simpa [Za6]using aL.append h (qb h n)
theorem yq{P:Program}{base:Nat}{M:Nat->Prop}{w0:World}(hO:bN base W M w0 objs w L){t e:TypeId}{i:TypeInfo}{z:Value}(ht:P.underlying t=some (.slice e))(hi:P.info? e=some i)(hz:i.zero=some z)
  {zero:List T} (hzero:z.cells.toList.mapM pn=some zero) {name:Nat} (dz:objs name=none) {x:DV} {xv:Value} (hx:av w W objs L x xv) (aG:(eG i.size i.bytes zero name x).ok):
  ∃v w' L',(Instr.makeSlice t xv xv).run P w=.ok v w'/\bN base W M w0 (bV objs (eG i.size i.bytes zero name x).put) w' L'/\
   jc W objs L w (bV objs (eG i.size i.bytes zero name x).put) L' w'/\av w' W (bV objs (eG i.size i.bytes zero name x).put) L' (eG i.size i.bytes zero name x).val v:=by
 cases x with
 |v t'=>
  cases t' with
  |int k n=>
   simp only[av,aS]at hx;subst hx;simp only[eG]at aG⊢;obtain⟨h0,QS,hb,hm⟩:=aG;have hzz:=J8 (w:=w) (W:=W) (objs:=objs) (L:=L) hzero;have Gm:z.cells.size=i.size:=by have:=aL.length hzz;simpa [QS]using this
   have hbi:(i.bytes:Int)*n<=281474976710656:=by
    have e:(i.bytes:Int)*n=((n.toNat*i.bytes:Nat):Int):=by
     rw[Int.natCast_mul,Int.toNat_of_nonneg h0,ZcJ]
    rw[e];omega
   have bz:=run_make (P:=P) w t e i z ht hi hz k k n n h0 (Zcx _) hbi (by omega);have hc:(madeCells z.cells (n.toNat*i.size)).toList=(List.replicate n.toNat z.cells.toList).flatten:=by rw[<-Gm];exact uX _ _
   have:=Ey hO dz (c:=madeCells z.cells (n.toNat*i.size)) e (cs:=(List.replicate n.toNat (zero.map C2)).flatten) (by rw[hc];exact qb hzz _);refine⟨_,_,_,bz,this.1,this.2, ?_⟩;simp only[av];exact⟨⟨(List.replicate n.toNat (zero.map C2)).flatten,by simp[bV]⟩,by simp[Loc.fC]⟩
  |_=>simp[eG,bad]at aG
 |_=>simp[eG,bad]at aG
end
end Go.DM
namespace Go.DM
open Go.RowKit
variable [Laid]
def gh(P:Program)(rec:TypeId->Option (List Sh))(off:Nat):List Field->Option (List Sh)
 |[]=>some []
 |f::fs=>
  match rec f.type,P.info? f.type with
  |some s,some i=>if f.name≠ "_" /\f.offset=off/\s.length=i.size then(gh P rec (off+s.length) fs).map (s++·)else none
  |_,_=>none
def jL(P:Program):Nat->TypeId->Option (List Sh)
 |0,_=>none
 |d+1,t=>
  match P.underlying t with
  |some .bool=>some [.bool]
  |some (.int k)=>some [.int k]
  |some .string=>some [.str]
  |some (.struct fs)=>if P.stoodInHeld t then none else gh P (jL P d) 0 fs.toList
  |some (.array n e)=>
   match jL P d e,P.info? e with
   |some s,some i=>if s.length=i.size/\0<i.size then some ((List.replicate n s).flatten)else none
   |_,_=>none
  |_=>none
def fit:Sh->Value->Bool
 |.bool,.bool _=>true
 |.int k,.int k' _=>k==k'
 |.str,.string _=>true
 |_,_=>false
def fits:List Sh->List Value->Prop
 |[],vs=>vs=[]
 |s::ss,vs=>∃v ia,vs=v::ia/\fit s v=true/\fits ss ia
def ZH:Value->Value->Bool
 |.bool a,.bool b=>a==b
 |.int _ a,.int _ b=>a==b
 |.string a,.string b=>a.toList==b.toList
 |_,_=>false
def kO:List Value->List Value->Bool
 |[],[]=>true
 |a::as,b::bs=>ZH a b&&kO as bs
 |_,_=>false
theorem fits.length:∀{ss:List Sh} {vs:List Value},fits ss vs->vs.length=ss.length
 |[],_,h=>by simp only[fits]at h;simp[h]
 |_::ss,_,h=>by
  simp only[fits]at h;obtain⟨v,ia,rfl,_,h⟩:=h;simp[fits.length h]
theorem fits.split:∀{s1 s2:List Sh} {vs:List Value},fits (s1++s2) vs->fits s1 (vs.take s1.length)/\fits s2 (vs.drop s1.length)
 |[],s2,vs,h=>by simpa [fits]using h
 |s::s1,s2,vs,h=>by
  simp only[ZaH,fits]at h;obtain⟨v,ia,rfl,h1,h⟩:=h;have:=fits.split h;simp only[Za9,ZbZ,List.drop_succ_cons,fits];exact⟨⟨v,_,rfl,h1,this.1⟩,this.2⟩
theorem ru:∀{a b c d:List Value},a.length=c.length->kO (a++b) (c++d)=(kO a c&&kO b d)
 |[],b,[],d,_=>by simp[kO]
 |x::a,b,[],d,h=>by simp at h
 |[],b,y::c,d,h=>by simp at h
 |x::a,b,y::c,d,h=>by
  simp only[ZaH,kO];rw[ru (by simpa using h),Bool.and_assoc]
def wE(d:TypeDesc)(vs:List Value):Value:=if bA d then .agg vs.toArray else vs.getD 0 Go.undef
section
variable{P:Program}
theorem lA(w:World){t:TypeId}{d:TypeDesc}{i:TypeInfo}(hd:P.underlying t=some d)(hi:P.info? t=some i){xs:List Value}{off:Nat}(h1:bA d=true\/i.size=1)(hl:off+i.size<=xs.length):
  (part t xs.toArray off).run P w=.ok (wE d ((xs.drop off).take i.size)) w:=by
 have MX:(isAgg t).run P w=.ok (bA d) w:=by rw[C4 hd];cases d<;>rfl
 simp only[part,Sem.run_bind,MX,Result.andThen_ok];by_cases ha:bA d=true
 ·simp only[ha,if_true,Sem.run_bind,run_sizeOf hi,Result.andThen_ok,Sem.run_pure,wE]
  congr 3
  simp only[List.extract_toArray,List.extract_eq_take_drop]
  congr 2
  omega
 ·have h2:=h1.resolve_left ha;have cV:off<xs.length:=by omega
  simp only[ha,wE,h2];simp[cV]
theorem zB{d:Nat}{t:TypeId}{shs:List Sh}(h:jL P (d+1) t=some shs):∃desc,P.underlying t=some desc/\(bA desc=true\/shs.length=1):=by
 simp only[jL]at h;split at h
 ·rename_i hu;exact⟨_,hu,.inr (by simp at h;simp[<-h])⟩
 ·rename_i hu;exact⟨_,hu,.inr (by simp at h;simp[<-h])⟩
 ·rename_i hu;exact⟨_,hu,.inr (by simp at h;simp[<-h])⟩
 ·rename_i hu;exact⟨_,hu,.inl rfl⟩
 ·rename_i hu;exact⟨_,hu,.inl rfl⟩
 ·cases h
theorem QU{d:Nat}{e:TypeId}{de:TypeDesc}{s:List Sh}{i:TypeInfo}(hd:P.underlying e=some de)(hi:P.info? e=some i)(h1:bA de=true\/i.size=1)(hs:s.length=i.size)(OF:0<i.size)
  (ih:∀(xs ys:List Value) (w:World),fits s xs->fits s ys->(Op.equalIn d e (wE de xs) (wE de ys)).run P w=.ok (kO xs ys) w) (xs ys:List Value):
  ∀(n k:Nat) (w:World),fits ((List.replicate n s).flatten) (xs.drop (k*i.size))->fits ((List.replicate n s).flatten) (ys.drop (k*i.size))->
   (forIn (List.range' k n) (none,()) (λj (_:Option Bool×Unit)=>do
     let a<-part e xs.toArray (j*i.size)
     let b<-part e ys.toArray (j*i.size)
     let r<-Op.equalIn d e a b
     if(!r)=true then pure (ForInStep.done (some false,()))else pure (ForInStep.yield (none,()))):Sem (Option Bool×Unit)).run P w=
    .ok (if kO (xs.drop (k*i.size)) (ys.drop (k*i.size))then(none,())else(some false,())) w
 |0,k,w,hx,hy=>by
  simp only[List.replicate_zero,List.flatten_nil,fits]at hx hy;simp[hx,hy,kO]
 |n+1,k,w,hx,hy=>by
  simp only[Za6,Zbf]at hx hy;have sv:=fits.length hx;have tp:=fits.length hy;simp only[ZaB,Za8]at sv tp;obtain⟨Gn,qy⟩:=fits.split hx;obtain⟨jV,fg⟩:=fits.split hy;have e2:k*i.size+s.length=(k+1)*i.size:=by rw[Nat.add_mul,hs];omega
  rw[List.drop_drop,e2]at qy fg;have uY:0<i.size:=OF;have p1:=λw=>lA (P:=P) w hd hi (xs:=xs) (off:=k*i.size) h1 (by omega);have p2:=λw=>lA (P:=P) w hd hi (xs:=ys) (off:=k*i.size) h1 (by omega);rw[hs]at Gn jV;have hr:=ih _ _ w Gn jV;have J9:kO (xs.drop (k*i.size)) (ys.drop (k*i.size))=(kO ((xs.drop (k*i.size)).take i.size) ((ys.drop (k*i.size)).take i.size)&&kO (xs.drop ((k+1)*i.size)) (ys.drop ((k+1)*i.size))):=by
   have a1:xs.drop (k*i.size)=(xs.drop (k*i.size)).take i.size++xs.drop ((k+1)*i.size):=by
    rw[<-e2,hs,<-List.drop_drop,Zbe]
   have a2:ys.drop (k*i.size)=(ys.drop (k*i.size)).take i.size++ys.drop ((k+1)*i.size):=by
    rw[<-e2,hs,<-List.drop_drop,Zbe]
   rw[a1,a2,ru (by simp;omega)];rw[<-a1,<-a2]
  simp only[ZcK,Zcp,Sem.run_bind,p1,p2,Result.andThen_ok,hr];rw[J9];cases hb:kO ((xs.drop (k*i.size)).take i.size) ((ys.drop (k*i.size)).take i.size)
  ·simp
  ·have:=QU hd hi h1 hs OF ih xs ys n (k+1) w qy fg;simp only[Zci,ZaK,if_false,Sem.run_pure,Result.andThen_ok,Zcj];exact this
theorem C7{d:Nat}(ih:∀(t:TypeId) (shs:List Sh) (desc:TypeDesc),jL P d t=some shs->P.underlying t=some desc->∀(xs ys:List Value) (w:World),fits shs xs->fits shs ys->(Op.equalIn d t (wE desc xs) (wE desc ys)).run P w=.ok (kO xs ys) w)
  (GK:∀(t:TypeId) (shs:List Sh),jL P d t=some shs->∃desc,P.underlying t=some desc/\(bA desc=true\/shs.length=1)) (xs ys:List Value):
  ∀(fs:List Field) (off:Nat) (shs:List Sh) (w:World),gh P (jL P d) off fs=some shs->fits shs (xs.drop off)->fits shs (ys.drop off)->off<=xs.length->off<=ys.length->
   (Op.eqFields d xs.toArray ys.toArray fs).run P w=.ok (kO (xs.drop off) (ys.drop off)) w
 |[],off,shs,w,h,hx,hy,_,_=>by
  simp only[gh,Zaa]at h;subst h;simp only[fits]at hx hy;simp[Op.eqFields,hx,hy,kO]
 |f::fs,off,shs,w,h,hx,hy,hox,hoy=>by
  simp only[gh]at h;split at h
  ·rename_i s i hs hi;split at h
   ·rename_i hc;obtain⟨hn,rfl,gF⟩:=hc;simp only[Zab]at h;obtain⟨rest,tr,rfl⟩:=h;obtain⟨desc,hd,h1⟩:=GK _ _ hs;have sv:=fits.length hx;have tp:=fits.length hy;simp only[ZaB,Za8]at sv tp;obtain⟨Gn,qy⟩:=fits.split hx;obtain⟨jV,fg⟩:=fits.split hy;rw[List.drop_drop]at qy fg;rw[gF]at h1;have p1:=λw=>lA (P:=P) w hd hi (xs:=xs) (off:=f.offset) h1 (by omega);have p2:=λw=>lA (P:=P) w hd hi (xs:=ys) (off:=f.offset) h1 (by omega);have hr:=ih _ _ _ hs hd _ _ w Gn jV;rw[gF]at hr;have J9:kO (xs.drop f.offset) (ys.drop f.offset)=(kO ((xs.drop f.offset).take i.size) ((ys.drop f.offset).take i.size)&&kO (xs.drop (f.offset+s.length)) (ys.drop (f.offset+s.length))):=by
     have a1:xs.drop f.offset=(xs.drop f.offset).take i.size++xs.drop (f.offset+s.length):=by rw[gF,<-List.drop_drop,Zbe]
     have a2:ys.drop f.offset=(ys.drop f.offset).take i.size++ys.drop (f.offset+s.length):=by rw[gF,<-List.drop_drop,Zbe]
     rw[a1,a2,ru (by simp;omega)];rw[<-a1,<-a2]
    simp only[Op.eqFields,hn,ne_eq,not_false_eq_true,if_true,Sem.run_bind,p1,p2,Result.andThen_ok,hr];rw[J9];cases hb:kO ((xs.drop f.offset).take i.size) ((ys.drop f.offset).take i.size)
    ·simp
    ·simp only[Zci,ZaK,if_false,Zcj];exact C7 ih GK xs ys fs _ rest w tr qy fg (by omega) (by omega)
   ·cases h
  ·cases h
theorem pr:∀(d:Nat) (t:TypeId) (shs:List Sh) (desc:TypeDesc),jL P d t=some shs->P.underlying t=some desc->∀(xs ys:List Value) (w:World),fits shs xs->fits shs ys->
  (Op.equalIn d t (wE desc xs) (wE desc ys)).run P w=.ok (kO xs ys) w
 |0,t,shs,desc,h,_,_,_,_,_,_=>by simp[jL]at h
 |d+1,t,shs,desc,h,hu,xs,ys,w,hx,hy=>by
  simp only[jL,hu]at h;have one:∀{s:Sh} {zs:List Value},fits [s] zs->∃v,zs=[v]/\fit s v=true:=by
   intro s zs hz;simp only[fits]at hz;obtain⟨v,ia,rfl,h1,rfl⟩:=hz;exact⟨v,rfl,h1⟩
  cases desc;case bool=>
   simp only[Zaa]at h;subst h;obtain⟨x,rfl,gx⟩:=one hx;obtain⟨y,rfl,gy⟩:=one hy;cases x<;>first|exact absurd gx ZaC|skip
   cases y<;>first|exact absurd gy ZaC|skip
   simp[wE,bA,kO,ZH,Op.equalIn,run_underlying hu]
  case int k=>
   simp only[Zaa]at h;subst h;obtain⟨x,rfl,gx⟩:=one hx;obtain⟨y,rfl,gy⟩:=one hy;cases x<;>first|exact absurd gx ZaC|skip
   simp only[fit,beq_iff_eq]at gx;cases y<;>first|exact absurd gy ZaC|skip
   simp only[fit,beq_iff_eq]at gy;subst gx gy;simp[wE,bA,kO,ZH,Op.equalIn,run_underlying hu]
  case string=>
   simp only[Zaa]at h;subst h;obtain⟨x,rfl,gx⟩:=one hx;obtain⟨y,rfl,gy⟩:=one hy;cases x<;>first|exact absurd gx ZaC|skip
   cases y<;>first|exact absurd gy ZaC|skip
   simp[wE,bA,kO,ZH,Op.equalIn,run_underlying hu,beq_toListBytes]
  case struct fs=>
   replace h:(if P.stoodInHeld t then none else gh P (jL P d) 0 fs.toList)=some shs:=h
   split at h
   ·cases h
   ·rename_i hp;have hfo:P.fieldsOf t=fs:=by simp[Program.fieldsOf,hu]
    simp only[wE,bA,if_true];rw[run_equalIn_struct w d t _ _ (by rw[hfo];exact hu) (by simpa using hp),hfo];have:=C7 (λt shs desc=>pr d t shs desc) (λt shs hs=>by
     cases d with
     |zero=>simp[jL]at hs
     |succ d=>exact zB hs) xs ys fs.toList 0 shs w h (by simpa using hx) (by simpa using hy) (by omega) (by omega)
    simpa using this
  case array n e=>
   replace h:(match jL P d e,P.info? e with
    |some s,some i=>if s.length=i.size/\0<i.size then some ((List.replicate n s).flatten)else none
    |_,_=>none)=some shs:=h
   split at h
   ·rename_i s i hs hi;split at h
    ·rename_i hc;simp only[Zaa]at h;subst h;have hde:∃desc,P.underlying e=some desc/\(bA desc=true\/s.length=1):=by
      cases d with
      |zero=>simp[jL]at hs
      |succ d=>exact zB hs
     obtain⟨de,hd,h1⟩:=hde;rw[hc.1]at h1;have:=QU hd hi h1 hc.1 hc.2 (λxs ys w=>pr d e s de hs hd xs ys w) xs ys n 0 w (by simpa using hx) (by simpa using hy);simp only[wE,bA,if_true,Op.equalIn,Sem.run_bind,run_underlying hu,Result.andThen_ok,run_sizeOf hi,Std.Legacy.Range.forIn_eq_forIn_range',Std.Legacy.Range.size,Zb2,Zcd,Nat.div_one];simp only[Zcm,List.drop_zero]at this;refine(congrArg (λr=>Result.andThen r _) this).trans ?_;cases kO xs ys<;>rfl
    ·cases h
   ·cases h
  all_goals exact absurd h (by simp)
end
end Go.DM
