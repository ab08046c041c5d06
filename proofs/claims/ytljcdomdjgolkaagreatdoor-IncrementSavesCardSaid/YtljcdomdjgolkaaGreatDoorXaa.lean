/- Part of the proof. Conditions: none. -/
import Derived.Below
import Derived.CallsIn
import Derived.Laws.AppendOwn
import Derived.Laws.AppendOwnNone
import Derived.Laws.MakeOwn
import Derived.Laws.World
import Derived.Laws.Cells
import Derived.Laws.Small
import Derived.Laws.Entries
import Derived.Laws.Strings
import Derived.Laws.StructEq
set_option linter.unusedSectionVars false
set_option linter.unusedSimpArgs false
set_option linter.unusedVariables false
namespace Go.DM
abbrev Zaa:=@Option.some.injEq
abbrev Zab:=@Option.map_eq_some_iff
abbrev Zac:=@Option.bind_eq_some_iff
abbrev Zad:=@Int.eq_ofNat_of_zero_le
abbrev Zae:=@Nat.le_refl
abbrev Zaf:=@Option.bind_eq_bind
abbrev Zag:=@List.mem_cons
abbrev Zah:=@List.mem_singleton
abbrev Zai:=@Array.getElem?_eq_some_iff
abbrev Zaj:=@Option.pure_def
abbrev Zak:=@Int.toNat_natCast
abbrev Zal:=@List.mem_map
abbrev Zam:=@Bool.and_eq_true
abbrev Zan:=@List.getElem?_eq_getElem
abbrev Zao:=@List.mem_append
abbrev Zap:=@List.not_mem_nil
abbrev Zaq:=@List.mem_of_getElem?
abbrev Zar:=@Prod.mk.injEq
abbrev Zas:=@List.getElem?_eq_some_iff
abbrev Zat:=@List.foldl_append
abbrev Zau:=@List.map_cons
abbrev Zav:=@List.mem_of_mem_take
abbrev Zaw:=@List.length_take
abbrev Zax:=@Array.getD_eq_getD_getElem?
abbrev Zay:=@Nat.pos_iff_ne_zero
abbrev Zaz:=@Bool.false_ne_true
abbrev ZaA:=@List.length_append
abbrev ZaB:=@List.foldl_cons
abbrev ZaC:=@Nat.le_trans
abbrev ZaD:=@List.eq_nil_of_length_eq_zero
abbrev ZaE:=@List.range_succ
abbrev ZaF:=@List.getElem?_take
abbrev ZaG:=@List.getElem?_cons_zero
abbrev ZaH:=@List.cons_append
abbrev ZaI:=@List.all_eq_true
abbrev ZaJ:=@List.append_nil
abbrev ZaK:=@List.nil_append
abbrev ZaL:=@List.pairwise_cons
abbrev ZaM:=@Nat.mul_le_mul_right
abbrev ZaN:=@List.find?_cons
abbrev ZaO:=@List.mem_filter
abbrev ZaP:=@List.map_append
abbrev ZaQ:=@List.mem_range
abbrev ZaR:=@Nat.lt_of_lt_of_le
abbrev ZaS:=@List.getElem?_eq_none
abbrev ZaT:=@Bool.false_eq_true
abbrev ZaU:=@Array.length_toList
abbrev ZaV:=@List.mem_flatMap
abbrev ZaW:=@List.mem_cons_of_mem
abbrev ZaX:=@List.getElem?_cons_succ
abbrev ZaY:=@Nat.zero_add
abbrev ZaZ:=@List.getElem_of_mem
abbrev Za0:=@List.mem_or_eq_of_mem_set
abbrev Za1:=@Option.map_some
abbrev Za2:=@List.mapM_cons
abbrev Za3:=@List.take_of_length_le
abbrev Za4:=@List.findIdx?_cons
abbrev Za5:=@List.mem_cons_self
abbrev Za6:=@List.cons.injEq
abbrev Za7:=@List.replicate_succ
abbrev Za8:=@List.filter_cons
abbrev Za9:=@List.length_drop
abbrev Zba:=@List.length_cons
abbrev Zbb:=@List.getElem?_drop
abbrev Zbc:=@Option.getD_some
abbrev Zbd:=@List.take_append_drop
abbrev Zbe:=@List.flatten_cons
abbrev Zbf:=@Nat.zero_le
abbrev Zbg:=@Bool.not_eq_true'
abbrev Zbh:=@List.mem_range'_1
abbrev Zbi:=@List.getElem?_append_right
abbrev Zbj:=@List.getElem_mem
abbrev Zbk:=@List.getElem?_append_left
abbrev Zbl:=@List.ext_getElem?
abbrev Zbm:=@List.mem_filterMap
abbrev Zbn:=@List.take_length
abbrev Zbo:=@List.flatMap_cons
abbrev Zbp:=@List.getElem?_map
abbrev Zbq:=@List.map_congr_left
abbrev Zbr:=@List.length_pos_iff
abbrev Zbs:=@Array.getElem?_eq_getElem
abbrev Zbt:=@List.length_map
abbrev Zbu:=@Option.isSome_iff_exists
abbrev Zbv:=@List.mem_of_mem_drop
abbrev Zbw:=@List.take_add_one
abbrev Zbx:=@List.getElem?_set
abbrev Zby:=@List.drop_eq_nil_of_le
abbrev Zbz:=@Nat.lt_or_ge
abbrev ZbA:=@List.findIdx?_eq_some_iff_getElem
abbrev ZbB:=@List.ext_getElem
abbrev ZbC:=@List.length_replicate
abbrev ZbD:=@Array.append_empty
abbrev ZbE:=@List.contains_iff_mem
abbrev ZbF:=@List.getElem?_eq_none_iff
abbrev ZbG:=@List.eq_of_mem_replicate
abbrev ZbH:=@List.getElem?_of_mem
abbrev ZbI:=@Nat.add_zero
abbrev ZbJ:=@List.map_set
abbrev ZbK:=@Option.some.inj
abbrev ZbL:=@Bool.or_eq_true
abbrev ZbM:=@List.nodup_cons
abbrev ZbN:=@List.modify_succ_cons
abbrev ZbO:=@Option.ne_none_iff_exists'
abbrev ZbP:=@List.nodup_append
abbrev ZbQ:=@List.mem_of_find?_eq_some
abbrev ZbR:=@List.replicate_succ'
abbrev ZbS:=@List.drop_eq_getElem_cons
abbrev ZbT:=@List.nodup_nil
abbrev ZbU:=@List.foldl_nil
abbrev ZbV:=@Nat.lt_succ_self
abbrev ZbW:=@Nat.lt_of_not_le
abbrev ZbX:=@List.map_nil
abbrev ZbY:=@List.take_succ_cons
abbrev ZbZ:=@Int.mul_le_mul_of_nonneg_right
abbrev Zb0:=@List.getElem_drop
abbrev Zb1:=@Nat.sub_zero
abbrev Zb2:=@Array.getElem?_setIfInBounds
abbrev Zb3:=@List.modify_zero_cons
abbrev Zb4:=@List.foldl_map
abbrev Zb5:=@List.set_append_right
abbrev Zb6:=@Nat.mul_le_mul
abbrev Zb7:=@List.zipIdx_cons
abbrev Zb8:=@Option.bind_some
abbrev Zb9:=@List.getElem?_append
abbrev Zca:=@List.getElem_set
abbrev Zcb:=@List.any_eq_true
abbrev Zcc:=@List.length_nil
abbrev Zcd:=@Nat.add_sub_cancel
abbrev Zce:=@List.set_cons_zero
abbrev Zcf:=@List.mem_of_mem_eraseIdx
abbrev Zcg:=@Int.natCast_nonneg
abbrev Zch:=@Int.mul_nonneg
abbrev Zci:=@List.pairwise_map
abbrev Zcj:=@Bool.not_true
abbrev Zck:=@Bool.true_and
abbrev Zcl:=@Nat.mod_eq_of_lt
abbrev Zcm:=@List.getElem_map
abbrev Zcn:=@Nat.zero_mul
abbrev Zco:=@List.take_left'
abbrev Zcp:=@List.forIn_cons
abbrev Zcq:=@List.range_eq_range'
abbrev Zcr:=@List.find?_eq_some_iff_getElem
abbrev Zcs:=@Int.mul_le_mul_of_nonneg_left
abbrev Zct:=@Array.toList_modify
abbrev Zcu:=@List.flatMap_append
abbrev Zcv:=@List.filterMap_cons
abbrev Zcw:=@List.take_take
abbrev Zcx:=@Int.le_refl
abbrev Zcy:=@List.find?_eq_none
abbrev Zcz:=@List.set_cons_succ
abbrev ZcA:=@Nat.eq_zero_or_pos
abbrev ZcB:=@List.getElem_range
abbrev ZcC:=@List.all_cons
abbrev ZcD:=@Array.getElem?_append_left
abbrev ZcE:=@List.length_range
abbrev ZcF:=@List.pairwise_iff_getElem
abbrev ZcG:=@Array.mapM_eq_mapM_toList
abbrev ZcH:=@List.findIdx?_eq_none_iff
abbrev ZcI:=@List.take_append
abbrev ZcJ:=@List.range'_succ
abbrev ZcK:=@Bool.not_eq_true
abbrev ZcL:=@List.map_map
abbrev ZcM:=@List.find?_some
abbrev ZcN:=@List.length_set
abbrev ZcO:=@Nat.min_eq_left
abbrev ZcP:=@Bool.eq_iff_iff
abbrev ZcQ:=@Nat.le_succ
abbrev ZcR:=@List.Perm.refl
abbrev ZcS:=@List.modify_id
end Go.DM
namespace Go.DM
inductive T where
 |bool (b:Bool)
 |int (k:IntKind) (n:Int)
 |str (s:ByteArray)
 |sl (rows:List (List T))
 |agg (cs:List T)
 |eG (vs:List T)
 |fn (f:Fn) (caps:List T)
 |box (cs:List T)
 |raw (v:Value)
instance:Inhabited T:=⟨.bool false⟩
section
variable(w:World)(W:Nat->Prop)
mutual
def aS:T->Value->Prop
 |.bool b,v=>v=.bool b
 |.int k n,v=>v=.int k n
 |.str s,v=>v=.string s
 |.sl rows,v=>(rows=[]/\∃(a:Option Addr) (cap:Nat),v=.slice a 0 cap)\/
   ∃b o cap sz,v=.slice (some ⟨b,o,none⟩) rows.length cap/\b<w.heap.size/\¬W b/\rows.length<=cap/\aY sz b o rows
 |.agg cs,v=>∃vs,v=.agg vs/\aO cs vs.toList
 |.eG ts,v=>∃vs,v=.tuple vs/\dv ts vs.toList
 |.fn f caps,v=>∃vs,v=.func f #[] vs/\aO caps vs.toList
 |.box cs,v=>∃b o,v=.pointer (some ⟨b,o,none⟩)/\b<w.heap.size/\¬W b/\cV b o cs
 |.raw x,v=>v=x
def aO:List T->List Value->Prop
 |[],vs=>vs=[]
 |t::ts,vs=>∃v hY,vs=v::hY/\v.oneCell'=true/\aS t v/\aO ts hY
def dv:List T->List Value->Prop
 |[],vs=>vs=[]
 |t::ts,vs=>∃v hY,vs=v::hY/\aS t v/\dv ts hY
def cV:Nat->Nat->List T->Prop
 |_,_,[]=>True
 |b,o,t::ts=>(∃v,w.cell? ⟨b,o,none⟩=some v/\v.oneCell'=true/\aS t v)/\cV b (o+1) ts
def aY:Nat->Nat->Nat->List (List T)->Prop
 |_,_,_,[]=>True
 |sz,b,o,r::rs=>r.length=sz/\cV b o r/\aY sz b (o+sz) rs
end
end
structure KeepsC(W:Nat->Prop)(w w':World):Prop where
 size:w.heap.size<=w'.heap.size
 gY:∀(b:Nat) c e fr,w.heap[b]? =some (.cells c e fr)->¬W b->w'.heap[b]? =some (.cells c e fr)
structure cd(W:Nat->Prop)(w w':World):Prop extends KeepsC W w w' where
 NY:∀b:Nat,w.heap[b]? =some (Obj.deferred (some []))->w'.heap[b]? =some (Obj.deferred (some []))
 Wt:∀(b:Nat) r,w.heap[b]? =some (Obj.loop r)->w'.heap[b]? =some (Obj.loop r)
theorem KeepsC.cell{W:Nat->Prop}{w w':World}(h:KeepsC W w w'){b o:Nat}{v:Value}(hn:¬W b)(hc:w.cell? ⟨b,o,none⟩=some v):w'.cell? ⟨b,o,none⟩=some v:=by
 unfold World.cell? at hc⊢;simp only at hc⊢;split at hc
 ·rename_i c e fr hb;rw[h.gY b c e fr hb hn];exact hc
 ·cases hc
theorem cd.refl(W:Nat->Prop)(w:World):cd W w w:=⟨⟨Zae _,λ_ _ _ _ h _=>h⟩,λ_ h=>h,λ_ _ h=>h⟩
theorem cd.mono{W W':Nat->Prop}{a b:World}(h:cd W a b)(hw:∀i,W i->W' i):cd W' a b:=
 ⟨⟨h.size,λi c e fr hi hn=>h.gY i c e fr hi λx=>hn (hw i x)⟩,h.NY,h.Wt⟩
structure tG(B:Nat)(w w':World):Prop extends RowKit.Below B w w' where
 drawn:w.drawn<=w'.drawn
theorem cd.Gh{W:Nat->Prop}{w w':World}(h:RowKit.Below w.heap.size w w'):cd W w w':=
 ⟨⟨h.size,λb c e fr hb _=>(h.block b (Zai.1 hb).1).trans hb⟩,λb hb=>(h.block b (Zai.1 hb).1).trans hb,λb r hb=>(h.block b (Zai.1 hb).1).trans hb⟩
mutual
theorem aS.aC{w w':World}{W W':Nat->Prop}(h:KeepsC W w w')(hW:∀b,b<w.heap.size->W' b->W b):∀(t:T) (v:Value),aS w W t v->aS w' W' t v
 |.bool b,v,r=>by simpa [aS]using r
 |.int k n,v,r=>by simpa [aS]using r
 |.raw x,v,r=>by simpa [aS]using r
 |.str s,v,r=>by simpa [aS]using r
 |.sl rows,v,r=>by
  simp only[aS]at r⊢;rcases r with r|⟨b,o,cap,sz,hv,hb,hn,hc,hr⟩
  ·exact .inl r
  ·exact .inr ⟨b,o,cap,sz,hv,ZaR hb h.size,λx=>hn (hW b hb x),hc,aY.aC h hW hb hn sz o rows hr⟩
 |.agg cs,v,r=>by
  simp only[aS]at r⊢;obtain⟨vs,hv,hr⟩:=r;exact⟨vs,hv,aO.aC h hW cs _ hr⟩
 |.eG ts,v,r=>by
  simp only[aS]at r⊢;obtain⟨vs,hv,hr⟩:=r;exact⟨vs,hv,dv.aC h hW ts _ hr⟩
 |.fn f caps,v,r=>by
  simp only[aS]at r⊢;obtain⟨vs,hv,hr⟩:=r;exact⟨vs,hv,aO.aC h hW caps _ hr⟩
 |.box cs,v,r=>by
  simp only[aS]at r⊢;obtain⟨b,o,hv,hb,hn,hr⟩:=r;exact⟨b,o,hv,ZaR hb h.size,λx=>hn (hW b hb x),cV.aC h hW hb hn o cs hr⟩
theorem aO.aC{w w':World}{W W':Nat->Prop}(h:KeepsC W w w')(hW:∀b,b<w.heap.size->W' b->W b):∀(ts:List T) (vs:List Value),aO w W ts vs->aO w' W' ts vs
 |[],vs,r=>by simpa [aO]using r
 |t::ts,vs,r=>by
  simp only[aO]at r⊢;obtain⟨v,hY,hv,h1,hr,jL⟩:=r;exact⟨v,hY,hv,h1,aS.aC h hW t v hr,aO.aC h hW ts hY jL⟩
theorem dv.aC{w w':World}{W W':Nat->Prop}(h:KeepsC W w w')(hW:∀b,b<w.heap.size->W' b->W b):∀(ts:List T) (vs:List Value),dv w W ts vs->dv w' W' ts vs
 |[],vs,r=>by simpa [dv]using r
 |t::ts,vs,r=>by
  simp only[dv]at r⊢;obtain⟨v,hY,hv,hr,jL⟩:=r;exact⟨v,hY,hv,aS.aC h hW t v hr,dv.aC h hW ts hY jL⟩
theorem cV.aC{w w':World}{W W':Nat->Prop}(h:KeepsC W w w')(hW:∀b,b<w.heap.size->W' b->W b){b:Nat}(hb:b<w.heap.size)(hn:¬W b):∀(o:Nat) (ts:List T),cV w W b o ts->cV w' W' b o ts
 |_,[],_=>by simp[cV]
 |o,t::ts,r=>by
  simp only[cV]at r⊢;obtain⟨⟨v,hc,h1,hr⟩,jL⟩:=r;exact⟨⟨v,h.cell hn hc,h1,aS.aC h hW t v hr⟩,cV.aC h hW hb hn (o+1) ts jL⟩
theorem aY.aC{w w':World}{W W':Nat->Prop}(h:KeepsC W w w')(hW:∀b,b<w.heap.size->W' b->W b){b:Nat}(hb:b<w.heap.size)(hn:¬W b)(sz:Nat):∀(o:Nat) (rs:List (List T)),aY w W sz b o rs->aY w' W' sz b o rs
 |_,[],_=>by simp[aY]
 |o,r::rs,x=>by
  simp only[aY]at x⊢;exact⟨x.1,cV.aC h hW hb hn o r x.2.1,aY.aC h hW hb hn sz (o+sz) rs x.2.2⟩
end
section
variable{w:World}{W:Nat->Prop}
theorem aY.row{sz b:Nat}:∀{rows:List (List T)} {o i:Nat} {r:List T},aY w W sz b o rows->rows[i]? =some r->r.length=sz/\cV w W b (o+i*sz) r
 |[],_,_,_,_,h=>by simp at h
 |x::xs,o,0,r,hr,h=>by
  simp only[aY]at hr;simp only[ZaG,Zaa]at h;subst h;simpa using⟨hr.1,hr.2.1⟩
 |x::xs,o,i+1,r,hr,h=>by
  simp only[aY]at hr;simp only[ZaX]at h;have:=aY.row hr.2.2 h;rw[show o+(i+1)*sz=o+sz+i*sz by rw[Nat.add_mul];omega];exact this
theorem cV.zS{b:Nat}:∀(ts:List T) (o:Nat),(∀j t,ts[j]? =some t->∃v,w.cell? ⟨b,o+j,none⟩=some v/\v.oneCell'=true/\aS w W t v)->cV w W b o ts
 |[],_,_=>by simp[cV]
 |t::ts,o,h=>by
  simp only[cV];refine⟨by simpa using h 0 t (by simp),cV.zS ts (o+1) λj u hu=>?_⟩;have:=h (j+1) u (by simpa using hu)
  rwa [show o+1+j=o+(j+1)by omega]
theorem aY.zk{sz b:Nat}:∀(rs:List (List T)) (o:Nat),(∀i r,rs[i]? =some r->r.length=sz/\cV w W b (o+i*sz) r)->aY w W sz b o rs
 |[],_,_=>by simp[aY]
 |r::rs,o,h=>by
  simp only[aY];have h0:=h 0 r (by simp);refine⟨h0.1,by simpa using h0.2,aY.zk rs (o+sz) λi u hu=>?_⟩;have:=h (i+1) u (by simpa using hu)
  rwa [show o+sz+i*sz=o+(i+1)*sz by rw[Nat.add_mul];omega]
theorem aO.length:∀{ts:List T} {vs:List Value},aO w W ts vs->vs.length=ts.length
 |[],_,h=>by simp only[aO]at h;simp[h]
 |_::ts,_,h=>by
  simp only[aO]at h;obtain⟨v,hY,rfl,_,_,hr⟩:=h;simp[aO.length hr]
theorem dv.length:∀{ts:List T} {vs:List Value},dv w W ts vs->vs.length=ts.length
 |[],_,h=>by simp only[dv]at h;simp[h]
 |_::ts,_,h=>by
  simp only[dv]at h;obtain⟨v,hY,rfl,_,hr⟩:=h;simp[dv.length hr]
theorem aO.get:∀{ts:List T} {vs:List Value} {i:Nat} {t:T},aO w W ts vs->ts[i]? =some t->∃v,vs[i]? =some v/\v.oneCell'=true/\aS w W t v
 |[],_,_,_,_,h=>by simp at h
 |x::xs,_,0,t,hr,h=>by
  simp only[aO]at hr;obtain⟨v,hY,rfl,h1,h2,_⟩:=hr;simp only[ZaG,Zaa]at h;subst h;exact⟨v,rfl,h1,h2⟩
 |x::xs,_,i+1,t,hr,h=>by
  simp only[aO]at hr;obtain⟨v,hY,rfl,_,_,hr⟩:=hr;simpa using aO.get hr (by simpa using h)
theorem dv.get:∀{ts:List T} {vs:List Value} {i:Nat} {t:T},dv w W ts vs->ts[i]? =some t->∃v,vs[i]? =some v/\aS w W t v
 |[],_,_,_,_,h=>by simp at h
 |x::xs,_,0,t,hr,h=>by
  simp only[dv]at hr;obtain⟨v,hY,rfl,h2,_⟩:=hr;simp only[ZaG,Zaa]at h;subst h;exact⟨v,rfl,h2⟩
 |x::xs,_,i+1,t,hr,h=>by
  simp only[dv]at hr;obtain⟨v,hY,rfl,_,hr⟩:=hr;simpa using dv.get hr (by simpa using h)
end
class Laid where
 cells:List (Nat×List T)
abbrev Laid.none:Laid:=⟨[]⟩
def zT [Laid](w:World)(W:Nat->Prop):Prop:=∀p∈Laid.cells,p.1<w.heap.size/\¬W p.1/\cV w W p.1 0 p.2
theorem zT.aC [Laid]{w w':World}{W W':Nat->Prop}(h:zT w W)(hk:KeepsC W w w')(hW:∀b,b<w.heap.size->W' b->W b):zT w' W':=λp hp=>by
 obtain⟨h1,h2,h3⟩:=h p hp;exact⟨ZaR h1 hk.size,λx=>h2 (hW _ h1 x),cV.aC hk hW h1 h2 0 p.2 h3⟩
theorem zT.empty(w:World)(W:Nat->Prop): @zT Laid.none w W:=λp hp=>by cases hp
end Go.DM
namespace Go.DM
inductive DV where
 |undef
 |skip
 |v (t:T)
 |aH
 |ptr (r off:Nat)
 |bk (r ver:Nat)
 |kG (rows:List (List T)) (i:Int) (off:Nat)
 |gD (cs:List T) (off:Nat)
 |jf (r ver:Nat) (i:Int) (off:Nat)
 |agg (cs:List DV)
 |CL
 |iA (r:Nat)
 |iter (r:Nat)
 |eG (ds:List DV)
 |sU (r ver lo n:Nat)
 |my (f:Fn) (caps:List DV)
 |D7 (r n:Nat)
instance:Inhabited DV:=⟨.undef⟩
inductive Sh where
 |bool|int (k:IntKind)|str
def D8:Sh->T->Bool
 |.bool,.bool _=>true
 |.int k,.int k' _=>k==k'
 |.str,.str _=>true
 |_,_=>false
def dg:List Sh->List T->Prop
 |[],ts=>ts=[]
 |s::ss,t::ts=>D8 s t=true/\dg ss ts
 |_::_,[]=>False
inductive Ob where
 |box (cs:List DV)
 |arr (ver e sz:Nat) (rows:List (List T))
 |map (shs:List Sh) (agg:Bool) (clock:Nat) (es:List (Nat×T×DV))
 |iter (m since:Nat) (seen:List Nat) (last:Nat)
def Ob.kind:Ob->Nat
 |.box _=>0
 |.arr _ _ _ _=>1
 |.map _ _ _ _=>2
 |.iter _ _ _ _=>3
abbrev aT:=Nat->Option Ob
structure kX where
 tmps:Nat->DV
 objs:aT
 nxt:Nat
 low:Nat
 todo:List (List T)
inductive bp where
 |tmp (t:Nat)
 |cw (d:DV)
def bp.ev(ρ:Nat->DV):bp->DV
 |.tmp t=>ρ t
 |.cw d=>d
structure iC where
 ok:Prop
 val:DV
 objs:aT
structure Spec where
 pre:List T->Prop
 fn:List T->T
 scalar:Bool
 st:Option (List DV->aT->iC):=none
 fresh:Option (Nat×Nat):=none
 lend:Bool:=false
abbrev Env:=FuncId->Option Spec
inductive nI where
 |bQ (x:bp)
 |pick (c a b:bp)
 |alloc (zero:List DV)
 |box (x:bp)
 |build (zero:List DV) (parts:List (Nat×Nat×bp))
 |bslice (len sz:Nat) (zero:List DV) (parts:List (Nat×Nat×bp))
 |load (n:Nat) (agg:Bool) (x:bp)
 |store (n:Nat) (x y:bp)
 |bin (op:BinOp) (x y:bp)
 |eqT (neg agg:Bool) (shs:List Sh) (x y:bp)
 |un (op:UnOp) (x:bp)
 |conv (k:IntKind) (x:bp)
 |addOff (k:Nat) (x:bp)
 |nilCheck (x:bp)
 |idxAddr (sz:Nat) (x i:bp)
 |arrAddr (len sz:Nat) (x i:bp)
 |field (off n:Nat) (agg:Bool) (x:bp)
 |slice (sz:Nat) (x:bp) (lo hi:Option bp)
 |extract (i:Nat) (x:bp)
 |call (f:FuncId) (args:List bp)
 |callS (f:FuncId) (args:List bp)
 |callF (f:FuncId) (args:List bp)
 |callR (f:FuncId) (args:List bp)
 |callv (x:bp) (args:List bp)
 |len (x:bp)
 |lenS (x:bp)
 |minmax (isMax:Bool) (x y:bp)
 |append (e sz bytes:Nat) (x y:bp)
 |mkSlice (e sz bytes:Nat) (zero:List T) (n:bp)
 |mkSliceB (e sz bytes:Nat) (zero:List T) (n:bp)
 |mkFn (f:Fn) (caps:List bp)
 |mkMap (shs:List Sh) (agg:Bool)
 |lookup (shs:List Sh) (agg:Bool) (zero:DV) (ok:Bool) (x k:bp)
 |mapUpd (shs:List Sh) (agg:Bool) (x k y:bp)
 |mapDel (shs:List Sh) (agg:Bool) (x k:bp)
 |mapEnt (shs:List Sh) (agg:Bool) (zero:DV) (x k:bp)
 |entSt (x s y:bp)
 |lenM (x:bp)
 |rangeM (x:bp)
 |entryM (x:bp)
 |copy (sz:Nat) (x y:bp)
 |isNil (kind:Nat) (neg:Bool) (x:bp)
 |indexS (x i:bp)
 |fail
structure ou where
 ok:Prop
 val:DV
 put:Option (Nat×Ob):=none
def bad:ou:=⟨False,.undef,none⟩
def zU:T->Bool
 |.agg _|.eG _=>false
 |.raw v=>v.oneCell'
 |_=>true
def cellsOf:DV->List DV
 |.v (.agg cs)=>cs.map .v
 |.agg cs=>cs
 |d=>[d]
def kY:DV->Prop
 |.undef=>False
 |.skip=>False
 |.v (.eG _)=>False
 |.v (.raw x)=>x.oneCell'=true
 |.eG _=>False
 |_=>True
mutual
def qi(objs:aT):DV->T
 |.v t=>t
 |.aH=>.sl []
 |.bk r _=>match objs r with|some (.arr _ _ _ rows)=>.sl rows|_=>.sl []
 |.agg cs=>.agg (gQ objs cs)
 |.sU r _ lo n=>match objs r with|some (.arr _ _ _ rows)=>.sl ((rows.drop lo).take n)|_=>.sl []
 |.my f caps=>.fn f (gQ objs caps)
 |_=>.raw undef
def gQ(objs:aT):List DV->List T
 |[]=>[]
 |d::ds=>qi objs d::gQ objs ds
end
mutual
def Ch(lend:Bool)(objs:aT):DV->Prop
 |.v _=>True
 |.aH=>True
 |.bk r ver=>lend=true/\match objs r with|some (.arr ver' _ _ _)=>ver=ver'|_=>False
 |.agg cs=>qH lend objs cs
 |.sU r ver lo n=>lend=true/\match objs r with|some (.arr ver' _ _ rows)=>ver=ver'/\lo+n<=rows.length|_=>False
 |.my _ caps=>qH lend objs caps
 |_=>False
def qH(lend:Bool)(objs:aT):List DV->Prop
 |[]=>True
 |d::ds=>Ch lend objs d/\qH lend objs ds
end
def qI:DV->Prop
 |.v t=>zU t=true
 |.aH=>True
 |_=>False
def gK:List DV->Prop
 |[]=>True
 |d::ds=>qI d/\gK ds
def uP:List DV->Bool
 |[]=>true
 |.v t::ds=>zU t&&uP ds
 |.aH::ds=>uP ds
 |_::_=>false
def jg:DV->Prop
 |.undef=>False
 |.skip=>False
 |.v t=>zU t=true
 |.agg _=>False
 |.eG _=>False
 |_=>True
def du:List DV->Prop
 |[]=>True
 |d::ds=>jg d/\du ds
def bH{α:Type}(l:List α)(off:Nat)(new:List α):List α:=l.take off++new++l.drop (off+new.length)
def te(cells:List DV):List (Nat×Nat×DV)->List DV
 |[]=>cells
 |(off,_,d)::ps=>te (bH cells off (cellsOf d)) ps
def qJ(n:Nat):List (Nat×Nat×DV)->Prop
 |[]=>True
 |(off,sz,d)::ps=>(cellsOf d).length=sz/\off+sz<=n/\du (cellsOf d)/\qJ n ps
def rowAt(rows:List (List T))(i:Int):List T:=rows.getD i.toNat []
def chunk(sz:Nat):Nat->List T->List (List T)
 |0,_=>[]
 |n+1,cs=>cs.take sz::chunk sz n (cs.drop sz)
def fZ(n:Nat)(agg:Bool)(objs:aT):DV->ou
 |.ptr r off=>match objs r with
  |some (.box cs)=>⟨off+n<=cs.length/\(agg=true\/n=1),if agg then .agg ((cs.drop off).take n)else cs.getD off .undef,none⟩
  |_=>bad
 |.kG rows i off=>⟨off+n<=(rowAt rows i).length/\(agg=true\/n=1),if agg then .v (.agg (((rowAt rows i).drop off).take n))else .v ((rowAt rows i).getD off default),none⟩
 |.gD cs off=>⟨off+n<=cs.length/\(agg=true\/n=1),if agg then .v (.agg ((cs.drop off).take n))else .v (cs.getD off default),none⟩
 |.v (.box cs)=>⟨n<=cs.length/\(agg=true\/n=1),if agg then .v (.agg (cs.take n))else .v (cs.getD 0 default),none⟩
 |.jf r ver i off=>match objs r with
  |some (.arr ver' _ _ rows)=>⟨ver=ver'/\off+n<=(rowAt rows i).length/\(agg=true\/n=1),if agg then .v (.agg (((rowAt rows i).drop off).take n))else .v ((rowAt rows i).getD off default),none⟩
  |_=>bad
 |_=>bad
def jQ(n:Nat)(objs:aT)(y:DV):DV->ou
 |.ptr r off=>match objs r with
  |some (.box cs)=>⟨(cellsOf y).length=n/\off+n<=cs.length/\du (cellsOf y),.undef,some (r,.box (bH cs off (cellsOf y)))⟩
  |_=>bad
 |.jf r ver i off=>match objs r with
  |some (.arr ver' e sz rows)=>⟨ver=ver'/\(cellsOf y).length=n/\off+n<=sz/\gK (cellsOf y),.undef,
    some (r,.arr ver' e sz (rows.set i.toNat (bH (rowAt rows i) off (gQ objs (cellsOf y)))))⟩
  |_=>bad
 |_=>bad
def qK(op:BinOp):DV->DV->ou
 |.v (.int k a),.v (.int k' b)=>match op with
  |.add=>⟨k=k',.v (.int k (k.wrap (a+b))),none⟩
  |.sub=>⟨k=k',.v (.int k (k.wrap (a-b))),none⟩
  |.mul=>⟨k=k',.v (.int k (k.wrap (a*b))),none⟩
  |.quo=>⟨k=k'/\b≠0,.v (.int k (k.wrap (a.tdiv b))),none⟩
  |.rem=>⟨k=k'/\b≠0,.v (.int k (a.tmod b)),none⟩
  |.eql=>⟨k=k',.v (.bool (decide (a=b))),none⟩
  |.neq=>⟨k=k',.v (.bool (!decide (a=b))),none⟩
  |.lss=>⟨k=k',.v (.bool (decide (a<b))),none⟩
  |.leq=>⟨k=k',.v (.bool (decide (a<=b))),none⟩
  |.gtr=>⟨k=k',.v (.bool (decide (b<a))),none⟩
  |.geq=>⟨k=k',.v (.bool (decide (b<=a))),none⟩
  |.shl=>⟨0<=b,.v (.int k (k.wrap (a*2^min b.toNat k.bits))),none⟩
  |.shr=>⟨0<=b,.v (.int k (a/2^min b.toNat k.bits)),none⟩
  |.and=>⟨k=k',.v (.int k (k.wrap (BitVec.ofInt k.bits a&&&BitVec.ofInt k.bits b).toNat)),none⟩
  |.or=>⟨k=k',.v (.int k (k.wrap (BitVec.ofInt k.bits a|||BitVec.ofInt k.bits b).toNat)),none⟩
  |.xor=>⟨k=k',.v (.int k (k.wrap (BitVec.ofInt k.bits a^^^BitVec.ofInt k.bits b).toNat)),none⟩
  |_=>bad
 |_,_=>bad
mutual
def fk:T->T->Bool
 |.bool a,.bool b=>a==b
 |.int _ a,.int _ b=>decide (a=b)
 |.str a,.str b=>decide (a=b)
 |.agg as,.agg bs=>pW as bs
 |_,_=>false
def pW:List T->List T->Bool
 |[],[]=>true
 |a::as,b::bs=>fk a b&&pW as bs
 |_,_=>false
end
def zV(neg agg:Bool)(shs:List Sh):T->T->ou
 |.agg as,.agg bs=>⟨agg=true/\dg shs as/\dg shs bs,.v (.bool (neg^^pW as bs)),none⟩
 |a,b=>⟨agg=false/\dg shs [a]/\dg shs [b],.v (.bool (neg^^fk a b)),none⟩
def Mm(op:UnOp):DV->ou
 |.v (.bool b)=>match op with
  |.not=>⟨True,.v (.bool (!b)),none⟩
  |_=>bad
 |.v (.int k n)=>match op with
  |.neg=>⟨True,.v (.int k (k.wrap (-n))),none⟩
  |_=>bad
 |_=>bad
def fO(k:Nat):DV->ou
 |.ptr r off=>⟨True,.ptr r (off+k),none⟩
 |.kG rows i off=>⟨True,.kG rows i (off+k),none⟩
 |.gD cs off=>⟨True,.gD cs (off+k),none⟩
 |.v (.box cs)=>⟨True,.gD cs k,none⟩
 |.jf r ver i off=>⟨True,.jf r ver i (off+k),none⟩
 |_=>bad
def jw:DV->ou
 |.ptr r off=>⟨True,.ptr r off,none⟩
 |.kG rows i off=>⟨True,.kG rows i off,none⟩
 |.gD cs off=>⟨True,.gD cs off,none⟩
 |.v (.box cs)=>⟨True,.v (.box cs),none⟩
 |.jf r ver i off=>⟨True,.jf r ver i off,none⟩
 |.v (.fn (.func f) caps)=>⟨True,.v (.fn (.func f) caps),none⟩
 |_=>bad
def o8(sz:Nat)(objs:aT):DV->DV->ou
 |.v (.sl rows),.v (.int _ i)=>⟨0<=i/\i<rows.length/\(rowAt rows i).length=sz,.kG rows i 0,none⟩
 |.bk r ver,.v (.int _ i)=>match objs r with
  |some (.arr ver' _ ga rows)=>⟨ver=ver'/\ga=sz/\0<=i/\i<rows.length,.jf r ver i 0,none⟩
  |_=>bad
 |.sU r ver lo n,.v (.int _ i)=>match objs r with
  |some (.arr ver' _ ga rows)=>⟨ver=ver'/\ga=sz/\0<=i/\i<n,.jf r ver (lo+i) 0,none⟩
  |_=>bad
 |.D7 r n,.v (.int _ i)=>⟨0<=i/\i<n,.ptr r (i.toNat*sz),none⟩
 |_,_=>bad
def jo(len sz:Nat):DV->DV->ou
 |.ptr r off,.v (.int _ i)=>⟨0<=i/\i<len,.ptr r (off+i.toNat*sz),none⟩
 |.kG rows j off,.v (.int _ i)=>⟨0<=i/\i<len,.kG rows j (off+i.toNat*sz),none⟩
 |.gD cs off,.v (.int _ i)=>⟨0<=i/\i<len,.gD cs (off+i.toNat*sz),none⟩
 |.v (.box cs),.v (.int _ i)=>⟨0<=i/\i<len,.gD cs (i.toNat*sz),none⟩
 |.jf r ver j off,.v (.int _ i)=>⟨0<=i/\i<len,.jf r ver j (off+i.toNat*sz),none⟩
 |_,_=>bad
def lk:DV->Option (List DV)
 |.v (.agg cs)=>some (cs.map .v)
 |.agg cs=>some cs
 |_=>none
def mz(off n:Nat)(agg:Bool)(x:DV):ou:=
 match lk x with
 |some cs=>⟨off+n<=cs.length/\(agg=true\/n=1),if agg then .agg ((cs.drop off).take n)else cs.getD off .undef,none⟩
 |none=>bad
def zW :DV->Option Int
 |.v (.int _ n)=>some n
 |_=>none
def zX:Option DV->Option Int
 |none=>some 0
 |some d=>zW d
def zY(n:Int):Option DV->Option Int
 |none=>some n
 |some d=>zW d
def ia(sz:Nat)(lo hi:Option DV)(objs:aT):DV->ou
 |.v (.sl rows)=>
  match zX lo,zY rows.length hi with
  |some l,some h=>⟨0<=l/\l<=h/\h<=rows.length/\(∀r∈rows,r.length=sz),.v (.sl ((rows.take h.toNat).drop l.toNat)),none⟩
  |_,_=>bad
 |.aH=>
  match zX lo,zY 0 hi with
  |some l,some h=>⟨l=0/\h=0,.aH,none⟩
  |_,_=>bad
 |.bk r ver=>match objs r with
  |some (.arr ver' _ ga rows)=>match zX lo,zY rows.length hi with
   |some l,some h=>⟨ver=ver'/\ga=sz/\0<=l/\l<=h/\h<=rows.length,.sU r ver l.toNat (h.toNat-l.toNat),none⟩
   |_,_=>bad
  |_=>bad
 |.sU r ver lo' n=>match objs r with
  |some (.arr ver' _ ga rows)=>match zX lo,zY n hi with
   |some l,some h=>⟨ver=ver'/\ga=sz/\0<=l/\l<=h/\h<=n,.sU r ver (lo'+l.toNat) (h.toNat-l.toNat),none⟩
   |_,_=>bad
  |_=>bad
 |_=>bad
def o9(i:Nat):DV->ou
 |.v (.eG ts)=>⟨i<ts.length,.v (ts.getD i default),none⟩
 |.eG ds=>⟨i<ds.length,ds.getD i .undef,none⟩
 |_=>bad
def tH(objs:aT):DV->ou
 |.v (.sl rows)=>⟨True,.v (.int .i64 rows.length),none⟩
 |.aH=>⟨True,.v (.int .i64 0),none⟩
 |.bk r ver=>match objs r with
  |some (.arr ver' _ _ rows)=>⟨ver=ver',.v (.int .i64 rows.length),none⟩
  |_=>bad
 |.sU _ _ _ n=>⟨True,.v (.int .i64 n),none⟩
 |.D7 _ n=>⟨True,.v (.int .i64 n),none⟩
 |_=>bad
def sf:DV->ou
 |.v (.str s)=>⟨True,.v (.int .i64 s.size),none⟩
 |_=>bad
def mg(isMax:Bool):DV->DV->ou
 |.v (.int k a),.v (.int k' b)=>⟨k=k',.v (.int k (if isMax then max a b else min a b)),none⟩
 |_,_=>bad
def dX(objs:aT):DV->Option (List (List T))
 |.v (.sl rows)=>some rows
 |.aH=>some []
 |.bk r ver=>match objs r with
  |some (.arr ver' _ _ rows)=>if ver=ver' then some rows else none
  |_=>none
 |.sU r ver lo n=>match objs r with
  |some (.arr ver' _ _ rows)=>if ver=ver' then some ((rows.drop lo).take n)else none
  |_=>none
 |.v (.raw (.slice _ 0 _))=>some []
 |_=>none
def cH(bytes n:Nat):Prop:=n*bytes<=140737488355328/\n<=140737488355328
def fP(e sz bytes:Nat)(name:Nat)(objs:aT)(x y:DV):ou:=
 match dX objs y with
 |none=>bad
 |some ys=>
  match x with
  |.aH=>⟨(∀r∈ys,r.length=sz)/\cH bytes ys.length,.bk name 0,some (name,.arr 0 e sz ys)⟩
  |.bk r ver=>match objs r with
   |some (.arr ver' e' ga rows)=>⟨ver=ver'/\e'=e/\ga=sz/\(∀r∈ys,r.length=sz)/\cH bytes (rows.length+ys.length),.bk r (ver+1),some (r,.arr (ver+1) e sz (rows++ys))⟩
   |_=>bad
  |.sU r ver 0 n=>match objs r with
   |some (.arr ver' e' ga rows)=>⟨ver=ver'/\e'=e/\ga=sz/\(∀r∈ys,r.length=sz)/\cH bytes (n+ys.length),.bk r (ver+1),some (r,.arr (ver+1) e sz (rows.take n++ys))⟩
   |_=>bad
  |_=>bad
def jR(e sz bytes:Nat)(zero:List T)(name:Nat):DV->ou
 |.v (.int _ n)=>⟨0<=n/\zero.length=sz/\cH bytes n.toNat,.bk name 0,some (name,.arr 0 e sz (List.replicate n.toNat zero))⟩
 |_=>bad
def CM:T->DV
 |.sl []=>.aH
 |t=>.v t
def eH(sz bytes:Nat)(zero:List T)(name:Nat):DV->ou
 |.v (.int _ n)=>⟨0<=n/\zero.length=sz/\cH bytes n.toNat,.D7 name n.toNat,some (name,.box (List.replicate n.toNat (zero.map CM)).flatten)⟩
 |_=>bad
def iD(sz:Nat)(objs:aT)(x y:DV):ou:=
 match dX objs y with
 |none=>bad
 |some ys=>
  match x with
  |.bk r ver=>match objs r with
   |some (.arr ver' e ga rows)=>⟨ver=ver'/\ga=sz/\(∀r∈ys,r.length=sz),.v (.int .i64 (min ys.length rows.length:Nat)),some (r,.arr ver e sz (bH rows 0 (ys.take rows.length)))⟩
   |_=>bad
  |.sU r ver lo n=>match objs r with
   |some (.arr ver' e ga rows)=>⟨ver=ver'/\ga=sz/\(∀r∈ys,r.length=sz),.v (.int .i64 (min ys.length n:Nat)),some (r,.arr ver e sz (bH rows lo (ys.take n)))⟩
   |_=>bad
  |_=>bad
def eI(kind:Nat)(neg:Bool)(objs:aT):DV->ou
 |.v (.raw (.slice p _ _))=>⟨kind=0,.v (.bool (neg^^p.isNone)),none⟩
 |.v (.raw (.pointer p))=>⟨kind=1,.v (.bool (neg^^p.isNone)),none⟩
 |.v (.raw .nilFunc)=>⟨kind=2,.v (.bool (neg^^true)),none⟩
 |.v (.sl rows)=>⟨kind=0/\rows≠[],.v (.bool (neg^^false)),none⟩
 |.v (.fn (.func _) _)=>⟨kind=2,.v (.bool (neg^^false)),none⟩
 |.v (.box _)=>⟨kind=1,.v (.bool (neg^^false)),none⟩
 |.ptr _ _|.gD _ _|.kG _ _ _|.jf _ _ _ _=>⟨kind=1,.v (.bool (neg^^false)),none⟩
 |.my (.func _) _=>⟨kind=2,.v (.bool (neg^^false)),none⟩
 |.bk r ver=>match objs r with
  |some (.arr ver' _ _ rows)=>⟨kind=0/\ver=ver'/\rows≠[],.v (.bool (neg^^false)),none⟩
  |_=>bad
 |_=>bad
def mh:DV->DV->ou
 |.v (.str s),.v (.int _ i)=>⟨0<=i/\i<s.size,.v (.int .u8 (s.data.getD i.toNat 0).toNat),none⟩
 |_,_=>bad
def dh(shs:List Sh)(agg:Bool):T->Prop
 |.agg as=>agg=true/\dg shs as
 |t=>agg=false/\dg shs [t]
def JA:List DV->Option (List T)
 |[]=>some []
 |.v t::ds=>(JA ds).map (t::·)
 |_::_=>none
def wI:DV->Option T
 |.v t=>some t
 |.agg cs=>(JA cs).map .agg
 |_=>none
def ov(k:T)(es:List (Nat×T×DV)):Option (Nat×T×DV):=es.find? λe=>fk k e.2.1
def D9(k:T)(y:DV)(clock:Nat)(es:List (Nat×T×DV)):List (Nat×T×DV):=
 match es.findIdx? λe=>fk k e.2.1 with
 |some i=>es.modify i λe=>(e.1,e.2.1,y)
 |none=>es++[(clock,k,y)]
def mA(k:T)(clock:Nat)(es:List (Nat×T×DV)):Nat:=
 match es.findIdx? λe=>fk k e.2.1 with
 |some _=>clock
 |none=>clock+1
def WU(k:T)(es:List (Nat×T×DV)):List (Nat×T×DV):=
 match es.findIdx? λe=>fk k e.2.1 with
 |some i=>es.eraseIdx i
 |none=>es
def kH(shs:List Sh)(agg:Bool)(zero:DV)(ok:Bool)(objs:aT)(x k:DV):ou:=
 match x,wI k with
 |.iA r,some kt=>match objs r with
  |some (.map shs' agg' _ es)=>⟨shs'=shs/\agg'=agg/\dh shs agg kt,
    match ov kt es with
    |some e=>if ok then .eG [e.2.2,.v (.bool true)]else e.2.2
    |none=>if ok then .eG [zero,.v (.bool false)]else zero,none⟩
  |_=>bad
 |_,_=>bad
def gM(shs:List Sh)(agg:Bool)(objs:aT)(x k y:DV):ou:=
 match x,wI k with
 |.iA r,some kt=>match objs r with
  |some (.map shs' agg' c es)=>⟨shs'=shs/\agg'=agg/\dh shs agg kt/\kY y,.undef,some (r,.map shs agg (mA kt c es) (D9 kt y c es))⟩
  |_=>bad
 |_,_=>bad
def WV(k:T)(z:DV)(clock:Nat)(es:List (Nat×T×DV)):List (Nat×T×DV):=
 match es.findIdx? λe=>fk k e.2.1 with
 |some _=>es
 |none=>es++[(clock,k,z)]
def WX(k:T)(z:DV)(clock:Nat)(es:List (Nat×T×DV)):DV:=
 match ov k es with
 |some e=>.eG [e.2.2,.v (.int .i64 e.1)]
 |none=>.eG [z,.v (.int .i64 clock)]
def gN(shs:List Sh)(agg:Bool)(zero:DV)(objs:aT)(x k:DV):ou:=
 match x,wI k with
 |.iA r,some kt=>match objs r with
  |some (.map shs' agg' c es)=>⟨shs'=shs/\agg'=agg/\dh shs agg kt,
    WX kt zero c es,some (r,.map shs agg (mA kt c es) (WV kt zero c es))⟩
  |_=>bad
 |_,_=>bad
def WY(b:Int)(y:DV)(es:List (Nat×T×DV)):Option (List (Nat×T×DV)):=
 (es.findIdx? λe=>(e.1:Int)==b).map λi=>es.modify i λe=>(e.1,e.2.1,y)
def jh(objs:aT)(x s y:DV):ou:=
 match x,s with
 |.iA r,.v (.int _ b)=>match objs r with
  |some (.map shs agg c es)=>match WY b y es with
   |some es'=>⟨True,.undef,some (r,.map shs agg c es')⟩
   |none=>bad
  |_=>bad
 |_,_=>bad
def gO(shs:List Sh)(agg:Bool)(objs:aT)(x k:DV):ou:=
 match x,wI k with
 |.iA r,some kt=>match objs r with
  |some (.map shs' agg' c es)=>⟨shs'=shs/\agg'=agg/\dh shs agg kt,.v (.eG []),some (r,.map shs agg c (WU kt es))⟩
  |_=>bad
 |_,_=>bad
def pa(objs:aT):DV->ou
 |.iA r=>match objs r with
  |some (.map _ _ _ es)=>⟨True,.v (.int .i64 es.length),none⟩
  |_=>bad
 |_=>bad
def jx(name:Nat)(objs:aT):DV->ou
 |.iA r=>match objs r with
  |some (.map _ _ c _)=>⟨True,.iter name,some (name,.iter r c [] c)⟩
  |_=>bad
 |_=>bad
def jy(objs:aT):DV->ou
 |.iter r=>match objs r with
  |some (.iter m _ seen last)=>match objs m,seen.getLast? with
   |some (.map _ _ c es),some b=>match es.find? λe=>e.1==b with
    |some e=>⟨c=last,.eG [.v e.2.1,e.2.2],none⟩
    |none=>bad
   |_,_=>bad
  |_=>bad
 |_=>bad
def nk(Γ:Env)(f:FuncId)(objs:aT)(args:List DV):ou:=
 match Γ f with
 |some s=>⟨qH s.scalar objs args/\s.pre (gQ objs args),.v (s.fn (gQ objs args)),none⟩
 |none=>bad
mutual
def names:DV->List Nat
 |.ptr r _|.bk r _|.jf r _ _ _|.iA r|.iter r|.sU r _ _ _|.D7 r _=>[r]
 |.agg cs|.eG cs|.my _ cs=>bJ cs
 |_=>[]
def bJ:List DV->List Nat
 |[]=>[]
 |d::ds=>names d++bJ ds
end
def ya(objs:aT)(args:List DV):aT:=λn=>if n∈bJ args then objs n else none
def wJ(k:List DV->aT->iC)(args:List DV)(objs:aT):Prop:=
 ∀aA,(∀n∈bJ args,aA n=objs n)->(k args aA).ok/\(k args aA).objs=aA/\(k args aA).val=(k args (ya objs args)).val
def mC(Γ:Env)(f:FuncId)(objs:aT)(args:List DV):ou:=
 match Γ f with
 |some s=>match s.st with
  |some k=>⟨wJ k args objs,(k args (ya objs args)).val,none⟩
  |none=>bad
 |none=>bad
theorem Ea{Γ:Env}{f:FuncId}{objs aA:aT}{args:List DV}(h:∀n∈bJ args,aA n=objs n):mC Γ f aA args=mC Γ f objs args:=by
 have h1:ya aA args=ya objs args:=by
  funext n;unfold ya;split
  ·rename_i hn;exact h n hn
  ·rfl
 have h2:∀k,wJ k args aA=wJ k args objs:=by
  intro k;unfold wJ;rw[h1];apply propext;constructor
  ·exact λH o ho=>H o λn hn=>(ho n hn).trans (h n hn).symm
  ·exact λH o ho=>H o λn hn=>(ho n hn).trans (h n hn)
 unfold mC;simp only[h1,h2]
def mD(Γ:Env)(f:FuncId)(name:Nat)(objs:aT)(args:List DV):ou:=
 match Γ f with
 |some s=>match s.fresh,s.fn (gQ objs args)with
  |some (e,sz),.sl rows=>⟨qH s.lend objs args/\s.pre (gQ objs args),.bk name 0,some (name,.arr 0 e sz rows)⟩
  |_,_=>bad
 |none=>bad
def cu(Γ:Env)(d:nI)(name:Nat)(ρ:Nat->DV)(objs:aT):ou:=
 match d with
 |.bQ x=>⟨True,x.ev ρ,none⟩
 |.pick c a b=>match c.ev ρ with
  |.v (.bool t)=>⟨True,if t then a.ev ρ else b.ev ρ,none⟩
  |_=>bad
 |.alloc zero=>⟨True,.ptr name 0,some (name,.box zero)⟩
 |.box x=>⟨kY (x.ev ρ),.ptr name 0,some (name,.box (cellsOf (x.ev ρ)))⟩
 |.build zero parts=>⟨qJ zero.length (parts.map λp=>(p.1,p.2.1,p.2.2.ev ρ)),.agg (te zero (parts.map λp=>(p.1,p.2.1,p.2.2.ev ρ))),none⟩
 |.bslice len sz zero parts=>
  if len=0 then⟨parts=[],.aH,none⟩else
  ⟨qJ (len*sz) (parts.map λp=>(p.1,p.2.1,p.2.2.ev ρ))/\gK (te zero (parts.map λp=>(p.1,p.2.1,p.2.2.ev ρ))),
   .v (.sl (chunk sz len (gQ (λ_=>none) (te zero (parts.map λp=>(p.1,p.2.1,p.2.2.ev ρ)))))),none⟩
 |.load n agg x=>fZ n agg objs (x.ev ρ)
 |.store n x y=>jQ n objs (y.ev ρ) (x.ev ρ)
 |.bin op x y=>qK op (x.ev ρ) (y.ev ρ)
 |.eqT neg agg shs x y=>⟨Ch true objs (x.ev ρ)/\Ch true objs (y.ev ρ)/\(zV neg agg shs (qi objs (x.ev ρ)) (qi objs (y.ev ρ))).ok,(zV neg agg shs (qi objs (x.ev ρ)) (qi objs (y.ev ρ))).val,none⟩
 |.un op x=>Mm op (x.ev ρ)
 |.conv k x=>match x.ev ρ with
  |.v (.int _ n)=>⟨True,.v (.int k (k.wrap n)),none⟩
  |_=>bad
 |.addOff k x=>fO k (x.ev ρ)
 |.nilCheck x=>jw (x.ev ρ)
 |.idxAddr sz x i=>o8 sz objs (x.ev ρ) (i.ev ρ)
 |.arrAddr len sz x i=>jo len sz (x.ev ρ) (i.ev ρ)
 |.field off n agg x=>mz off n agg (x.ev ρ)
 |.slice sz x lo hi=>ia sz (lo.map (·.ev ρ)) (hi.map (·.ev ρ)) objs (x.ev ρ)
 |.extract i x=>o9 i (x.ev ρ)
 |.call f args=>nk Γ f objs (args.map (·.ev ρ))
 |.callF f args=>mD Γ f name objs (args.map (·.ev ρ))
 |.callR f args=>mC Γ f objs (args.map (·.ev ρ))
 |.callS _ _|.callv _ _|.entryM _=>bad
 |.len x=>tH objs (x.ev ρ)
 |.lenS x=>sf (x.ev ρ)
 |.minmax m x y=>mg m (x.ev ρ) (y.ev ρ)
 |.append e sz bytes x y=>fP e sz bytes name objs (x.ev ρ) (y.ev ρ)
 |.mkSlice e sz bytes zero n=>jR e sz bytes zero name (n.ev ρ)
 |.mkSliceB e sz bytes zero n=>eH sz bytes zero name (n.ev ρ)
 |.mkFn f caps=>⟨du (caps.map (·.ev ρ)),if uP (caps.map (·.ev ρ))then .v (.fn f (gQ (λ_=>none) (caps.map (·.ev ρ))))else .my f (caps.map (·.ev ρ)),none⟩
 |.mkMap shs agg=>⟨True,.iA name,some (name,.map shs agg 0 [])⟩
 |.lookup shs agg zero ok x k=>kH shs agg zero ok objs (x.ev ρ) (k.ev ρ)
 |.mapUpd shs agg x k y=>gM shs agg objs (x.ev ρ) (k.ev ρ) (y.ev ρ)
 |.mapDel shs agg x k=>gO shs agg objs (x.ev ρ) (k.ev ρ)
 |.mapEnt shs agg z x k=>gN shs agg z objs (x.ev ρ) (k.ev ρ)
 |.entSt x s y=>jh objs (x.ev ρ) (s.ev ρ) (y.ev ρ)
 |.lenM x=>pa objs (x.ev ρ)
 |.rangeM x=>jx name objs (x.ev ρ)
 |.copy sz x y=>iD sz objs (x.ev ρ) (y.ev ρ)
 |.isNil kind neg x=>eI kind neg objs (x.ev ρ)
 |.indexS x i=>mh (x.ev ρ) (i.ev ρ)
 |.fail=>bad
def oV:nI->Bool
 |.callS _ _|.callv _ _|.entryM _=>true
 |_=>false
structure SEff where
 ok:Prop
 val:DV
 objs:aT
 todo:List (List T)
def lV(Γ:Env)(d:nI)(ρ:Nat->DV)(objs:aT)(todo:List (List T)):SEff:=
 match d with
 |.callS f args=>match Γ f with
  |some s=>match s.st with
   |some k=>⟨(k (args.map (·.ev ρ)) objs).ok,(k (args.map (·.ev ρ)) objs).val,(k (args.map (·.ev ρ)) objs).objs,todo⟩
   |none=>⟨False,.undef,objs,todo⟩
  |none=>⟨False,.undef,objs,todo⟩
 |.callv x args=>match x.ev ρ with
  |.v (.fn (.func f) caps)=>match Γ f with
   |some s=>match s.st with
    |some k=>⟨(k (args.map (·.ev ρ)++caps.map .v) objs).ok,(k (args.map (·.ev ρ)++caps.map .v) objs).val,(k (args.map (·.ev ρ)++caps.map .v) objs).objs,todo⟩
    |none=>⟨(nk Γ f objs (args.map (·.ev ρ)++caps.map .v)).ok,(nk Γ f objs (args.map (·.ev ρ)++caps.map .v)).val,objs,todo⟩
   |none=>⟨False,.undef,objs,todo⟩
  |.my (.func f) caps=>match Γ f with
   |some s=>match s.st with
    |some k=>⟨(k (args.map (·.ev ρ)++caps) objs).ok,(k (args.map (·.ev ρ)++caps) objs).val,(k (args.map (·.ev ρ)++caps) objs).objs,todo⟩
    |none=>⟨False,.undef,objs,todo⟩
   |none=>⟨False,.undef,objs,todo⟩
  |.CL=>match todo with
   |x::rest=>⟨qH false objs (args.map (·.ev ρ))/\gQ objs (args.map (·.ev ρ))=x/\objs=(λ_=>none),.v (.bool true),objs,rest⟩
   |[]=>⟨False,.undef,objs,todo⟩
  |_=>⟨False,.undef,objs,todo⟩
 |.entryM x=>⟨(jy objs (x.ev ρ)).ok,(jy objs (x.ev ρ)).val,objs,todo⟩
 |_=>⟨False,.undef,objs,todo⟩
end Go.DM
namespace Go.DM
open Go.RowKit
structure Fr(base:Nat)(M:Nat->Prop)(w0 w:World):Prop where
 os:w.os=w0.os
 tape:w.tape=w0.tape
 output:w.output=w0.output
 ib:base<=w0.heap.size
 size:w0.heap.size<=w.heap.size
 block:∀k,k<base->¬M k->w.heap[k]? =w0.heap[k]?
 drawn:w0.drawn<=w.drawn
theorem Fr.refl{base:Nat}{M:Nat->Prop}{w:World}(h:base<=w.heap.size):Fr base M w w:=⟨rfl,rfl,rfl,h,Zae _,λ_ _ _=>rfl,Zae _⟩
theorem Fr.trans{base:Nat}{M:Nat->Prop}{a b c:World}(h:Fr base M a b)(k:Fr base M b c):Fr base M a c:=
 ⟨k.os.trans h.os,k.tape.trans h.tape,k.output.trans h.output,h.ib,ZaC h.size k.size,λi hi hm=>(k.block i hi hm).trans (h.block i hi hm),ZaC h.drawn k.drawn⟩
structure Loc where
 gY:Nat->Nat
 sl:Nat->Value
 yl:Nat:=0
def aN:Value->Option Nat
 |.slice (some a) _ c=>if c=0 then none else some a.block
 |_=>none
def Loc.own(L:Loc)(r:Nat):Ob->Option Nat
 |.arr _ _ _ _=>aN (L.sl r)
 |_=>some (L.gY r)
def WW(W:Nat->Prop)(objs:aT)(L:Loc)(b:Nat):Prop:=W b\/∃r o,objs r=some o/\L.own r o=some b
section
variable(w:World)(W:Nat->Prop)(objs:aT)(L:Loc)
mutual
def av:DV->Value->Prop
 |.undef,_=>True
 |.skip,x=>x=Go.undef
 |.v t,x=>aS w (WW W objs L) t x
 |.aH,x=>∃a:Option Addr,x=.slice a 0 0
 |.ptr r off,x=>(∃cs,objs r=some (.box cs))/\x=.pointer (some ⟨L.gY r,off,none⟩)
 |.bk r ver,x=>(∃(p:Option Addr) (n c:Nat),x=.slice p n c)/\∃ver' e sz rows,objs r=some (.arr ver' e sz rows)/\ver<=ver'/\(ver=ver'->x=L.sl r)
 |.kG rows i off,x=>∃b o sz,x=.pointer (some ⟨b,o+i.toNat*sz+off,none⟩)/\b<w.heap.size/\¬WW W objs L b/\aY w (WW W objs L) sz b o rows/\0<=i/\i<rows.length
 |.gD cs off,x=>∃b o,x=.pointer (some ⟨b,o+off,none⟩)/\b<w.heap.size/\¬WW W objs L b/\cV w (WW W objs L) b o cs
 |.jf r ver i off,x=>(∃b o,x=.pointer (some ⟨b,o,none⟩))/\∃ver' e sz rows,objs r=some (.arr ver' e sz rows)/\ver<=ver'/\(ver=ver'->∃g,aN (L.sl r)=some g/\x=.pointer (some ⟨g,i.toNat*sz+off,none⟩)/\0<=i/\i<rows.length)
 |.agg cs,x=>∃vs,x=.agg vs/\aJ cs vs.toList
 |.CL,x=>x=.func (.yield L.yl) #[] #[]
 |.iA r,x=>(∃shs agg c es,objs r=some (.map shs agg c es))/\x=.map (some (L.gY r))
 |.iter r,x=>(∃m s sn l,objs r=some (.iter m s sn l))/\x=.pointer (some ⟨L.gY r,0,none⟩)
 |.eG ds,x=>∃vs,x=.tuple vs/\eZ ds vs.toList
 |.sU r ver lo n,x=>(∃(p:Option Addr) (c:Nat),x=.slice p n c)/\∃ver' e sz rows,objs r=some (.arr ver' e sz rows)/\ver<=ver'/\(ver=ver'->lo+n<=rows.length/\∃p cap p2,L.sl r=.slice p rows.length cap/\x=.slice p2 n (cap-lo)/\(lo<cap->p2=p.map (·.add (lo*sz))))
 |.my f caps,x=>∃vs,x=.func f #[] vs/\aJ caps vs.toList
 |.D7 r n,x=>(∃cs,objs r=some (.box cs))/\x=.slice (some ⟨L.gY r,0,none⟩) n n
def aJ:List DV->List Value->Prop
 |[],vs=>vs=[]
 |d::ds,vs=>∃x hY,vs=x::hY/\x.oneCell'=true/\av d x/\aJ ds hY
def eZ:List DV->List Value->Prop
 |[],vs=>vs=[]
 |d::ds,vs=>∃x hY,vs=x::hY/\av d x/\eZ ds hY
end
def bj:List (Nat×T×DV)->List MapEntry->Prop
 |[],xs=>xs=[]
 |e::es,xs=>∃x jM,xs=x::jM/\x.born=e.1/\aS w (WW W objs L) e.2.1 x.key/\av w W objs L e.2.2 x.val/\bj es jM
def ng(base:Nat)(M:Nat->Prop)(r:Nat):Ob->Prop
 |.box cs=>∃c e,w.heap[L.gY r]? =some (.cells c e (0,0))/\aJ w W objs L cs c.toList/\(base<=L.gY r\/M (L.gY r))
 |.arr _ e sz rows=>0<sz/\(∀x∈rows,x.length=sz)/\(∀g,aN (L.sl r)=some g->base<=g\/M g)/\
   ((rows=[]/\∃a:Option Addr,L.sl r=.slice a 0 0)\/
    ∃g cap cur,L.sl r=.slice (some ⟨g,0,none⟩) rows.length cap/\0<cap/\w.heap[g]? =some (.cells cur e (0,0))/\rows.length<=cap/\cap<=maxLen/\cur.size=cap*sz/\
     aO w (WW W objs L) rows.flatten (cur.toList.take (rows.length*sz)))
 |.map shs agg c es=>∃arr,w.heap[L.gY r]? =some (.map arr c)/\bj w W objs L es arr.toList/\(∀e∈es,dh shs agg e.2.1)/\(∀e∈es,e.1<c)/\(es.map (·.1)).Nodup/\(base<=L.gY r\/M (L.gY r))
 |.iter m s sn l=>w.heap[L.gY r]? =some (.mapIter (some (L.gY m)) s sn.toArray l)/\(∃shs agg c es,objs m=some (.map shs agg c es))/\(base<=L.gY r\/M (L.gY r))
end
variable [Laid]
structure bK(base:Nat)(W M:Nat->Prop)(w0:World)(objs:aT)(w:World)(L:Loc):Prop where
 fr:Fr base M w0 w
 ob:∀r o,objs r=some o->ng w W objs L base M r o
 apart:∀r r' o o' b,r≠r'->objs r=some o->objs r'=some o'->L.own r o=some b->L.own r' o'≠some b
 outer:∀r o b,objs r=some o->L.own r o=some b->¬W b
 under:∀b,W b->b<base
 gl:zT w (WW W objs L)
structure za(W W':Nat->Prop)(objs:aT)(L:Loc)(w:World)(aA:aT)(L':Loc)(w':World):Prop where
 keeps:cd (WW W objs L) w w'
 sub:∀b,b<w.heap.size->WW W' aA L' b->WW W objs L b
 fix:∀r o,objs r=some o->o.kind≠1->L'.gY r=L.gY r/\∃o',aA r=some o'/\o'.kind=o.kind
 arr:∀r ver e sz rows,objs r=some (.arr ver e sz rows)->∃ver' e' ga di,aA r=some (.arr ver' e' ga di)/\ver<=ver'/\(ver'=ver->L'.sl r=L.sl r/\ga=sz/\di.length=rows.length)
 yl:L'.yl=L.yl
theorem kind0{o:Ob}(h:o.kind=0):∃cs,o=.box cs:=by cases o<;>first|exact⟨_,rfl⟩|cases h
theorem kind2{o:Ob}(h:o.kind=2):∃shs agg c es,o=.map shs agg c es:=by cases o<;>first|exact⟨_,_,_,_,rfl⟩|cases h
theorem kind3{o:Ob}(h:o.kind=3):∃m s sn l,o=.iter m s sn l:=by cases o<;>first|exact⟨_,_,_,_,rfl⟩|cases h
section
variable{W W':Nat->Prop}{objs:aT}{L:Loc}{w:World}{aA:aT}{L':Loc}{w':World}
theorem za.box(h:za W W' objs L w aA L' w')(r:Nat)(cs:List DV)(hr:objs r=some (.box cs)):L'.gY r=L.gY r/\∃qL,aA r=some (.box qL):=by
 obtain⟨h1,o',h2,h3⟩:=h.fix r _ hr (by simp[Ob.kind]);obtain⟨qL,rfl⟩:=kind0 h3;exact⟨h1,qL,h2⟩
theorem za.mp(h:za W W' objs L w aA L' w')(r:Nat)(hr:∃shs agg c es,objs r=some (.map shs agg c es)):L'.gY r=L.gY r/\∃shs agg c es,aA r=some (.map shs agg c es):=by
 obtain⟨_,_,_,_,hr⟩:=hr;obtain⟨h1,o',h2,h3⟩:=h.fix r _ hr (by simp[Ob.kind]);obtain⟨a,b,c,d,rfl⟩:=kind2 h3;exact⟨h1,a,b,c,d,h2⟩
theorem za.it(h:za W W' objs L w aA L' w')(r:Nat)(hr:∃m s sn l,objs r=some (.iter m s sn l)):L'.gY r=L.gY r/\∃m s sn l,aA r=some (.iter m s sn l):=by
 obtain⟨_,_,_,_,hr⟩:=hr;obtain⟨h1,o',h2,h3⟩:=h.fix r _ hr (by simp[Ob.kind]);obtain⟨a,b,c,d,rfl⟩:=kind3 h3;exact⟨h1,a,b,c,d,h2⟩
end
abbrev iZ(W:Nat->Prop)(objs:aT)(L:Loc)(w:World)(aA:aT)(L':Loc)(w':World):Prop:=za W W objs L w aA L' w'
theorem iZ.ch{W:Nat->Prop}{objs:aT}{L:Loc}{w w':World}(h:cd (WW W objs L) w w'):iZ W objs L w objs L w':=
 ⟨h,λ_ _ x=>x,λ_ o hr _=>⟨rfl,o,hr,rfl⟩,λ_ ver e sz rows hr=>⟨ver,e,sz,rows,hr,Zae _,λ_=>⟨rfl,rfl,rfl⟩⟩,rfl⟩
mutual
theorem av.dZ{W W':Nat->Prop}{objs aA:aT}{L L':Loc}{w w':World}(h:za W W' objs L w aA L' w'):∀(d:DV) (x:Value),av w W objs L d x->av w' W' aA L' d x
 |.undef,x,r=>by simp[av]
 |.skip,x,r=>by simpa [av]using r
 |.v t,x,r=>by
  simp only[av]at r⊢;exact aS.aC h.keeps.toKeepsC h.sub t x r
 |.aH,x,r=>by simpa [av]using r
 |.ptr n off,x,r=>by
  simp only[av]at r⊢;obtain⟨⟨cs,hc⟩,hx⟩:=r;have hb:=h.box n cs hc;exact⟨hb.2,by rw[hb.1];exact hx⟩
 |.bk n ver,x,r=>by
  simp only[av]at r⊢;obtain⟨Gi,ver',e,sz,rows,ho,hle,hx⟩:=r;obtain⟨nJ,e2,CO,jS,lJ,Gj,hs⟩:=h.arr n ver' e sz rows ho;refine⟨Gi,nJ,e2,CO,jS,lJ,ZaC hle Gj,λhv=>?_⟩;have h1:nJ=ver':=by omega
  rw[(hs h1).1];exact hx (by omega)
 |.kG rows i off,x,r=>by
  simp only[av]at r⊢;obtain⟨b,o,sz,hx,hb,hn,hr,h0,h1⟩:=r;exact⟨b,o,sz,hx,ZaR hb h.keeps.size,λc=>hn (h.sub b hb c),aY.aC h.keeps.toKeepsC h.sub hb hn sz o rows hr,h0,h1⟩
 |.gD cs off,x,r=>by
  simp only[av]at r⊢;obtain⟨b,o,hx,hb,hn,hr⟩:=r;exact⟨b,o,hx,ZaR hb h.keeps.size,λc=>hn (h.sub b hb c),cV.aC h.keeps.toKeepsC h.sub hb hn o cs hr⟩
 |.jf n ver i off,x,r=>by
  simp only[av]at r⊢;obtain⟨Gi,ver',e,sz,rows,ho,hle,hx⟩:=r;obtain⟨nJ,e2,CO,jS,lJ,Gj,hs⟩:=h.arr n ver' e sz rows ho;refine⟨Gi,nJ,e2,CO,jS,lJ,ZaC hle Gj,λhv=>?_⟩;have h1:nJ=ver':=by omega
  obtain⟨g,hg,hp,h0,hl⟩:=hx (by omega);obtain⟨s1,s2,s3⟩:=hs h1;exact⟨g,by rw[s1];exact hg,by rw[s2];exact hp,h0,by rw[s3];exact hl⟩
 |.agg cs,x,r=>by
  simp only[av]at r⊢;obtain⟨vs,hv,hr⟩:=r;exact⟨vs,hv,aJ.dZ h cs _ hr⟩
 |.CL,x,r=>by simp only[av]at r⊢;rw[h.yl];exact r
 |.iA n,x,r=>by
  simp only[av]at r⊢;have:=h.mp n r.1;exact⟨this.2,by rw[this.1];exact r.2⟩
 |.iter n,x,r=>by
  simp only[av]at r⊢;have:=h.it n r.1;exact⟨this.2,by rw[this.1];exact r.2⟩
 |.eG ds,x,r=>by
  simp only[av]at r⊢;obtain⟨vs,hv,hr⟩:=r;exact⟨vs,hv,eZ.dZ h ds _ hr⟩
 |.my f ds,x,r=>by
  simp only[av]at r⊢;obtain⟨vs,hv,hr⟩:=r;exact⟨vs,hv,aJ.dZ h ds _ hr⟩
 |.D7 n m,x,r=>by
  simp only[av]at r⊢;obtain⟨⟨cs,hc⟩,hx⟩:=r;have hb:=h.box n cs hc;exact⟨hb.2,by rw[hb.1];exact hx⟩
 |.sU n ver lo m,x,r=>by
  simp only[av]at r⊢;obtain⟨Gi,ver',e,sz,rows,ho,hle,hx⟩:=r;obtain⟨nJ,e2,CO,jS,lJ,Gj,hs⟩:=h.arr n ver' e sz rows ho;refine⟨Gi,nJ,e2,CO,jS,lJ,ZaC hle Gj,λhv=>?_⟩;have h1:nJ=ver':=by omega
  obtain⟨k1,p,cap,p2,k2,k3,k4⟩:=hx (by omega);obtain⟨s1,s2,s3⟩:=hs h1;exact⟨by rw[s3];exact k1,p,cap,p2,by rw[s1,s3];exact k2,k3,by rw[s2];exact k4⟩
theorem aJ.dZ{W W':Nat->Prop}{objs aA:aT}{L L':Loc}{w w':World}(h:za W W' objs L w aA L' w'):∀(ds:List DV) (xs:List Value),aJ w W objs L ds xs->aJ w' W' aA L' ds xs
 |[],xs,r=>by simpa [aJ]using r
 |d::ds,xs,r=>by
  simp only[aJ]at r⊢;obtain⟨x,jM,hx,h1,hr,jL⟩:=r;exact⟨x,jM,hx,h1,av.dZ h d x hr,aJ.dZ h ds jM jL⟩
theorem eZ.dZ{W W':Nat->Prop}{objs aA:aT}{L L':Loc}{w w':World}(h:za W W' objs L w aA L' w'):∀(ds:List DV) (xs:List Value),eZ w W objs L ds xs->eZ w' W' aA L' ds xs
 |[],xs,r=>by simpa [eZ]using r
 |d::ds,xs,r=>by
  simp only[eZ]at r⊢;obtain⟨x,jM,hx,hr,jL⟩:=r;exact⟨x,jM,hx,av.dZ h d x hr,eZ.dZ h ds jM jL⟩
end
theorem bj.dZ{W W':Nat->Prop}{objs aA:aT}{L L':Loc}{w w':World}(h:za W W' objs L w aA L' w'):∀(es:List (Nat×T×DV)) (xs:List MapEntry),bj w W objs L es xs->bj w' W' aA L' es xs
 |[],xs,r=>by simpa [bj]using r
 |e::es,xs,r=>by
  simp only[bj]at r⊢;obtain⟨x,jM,hx,h0,h1,hr,jL⟩:=r;exact⟨x,jM,hx,h0,aS.aC h.keeps.toKeepsC h.sub _ _ h1,av.dZ h _ _ hr,bj.dZ h es jM jL⟩
section
variable{w:World}{W:Nat->Prop}{objs:aT}{L:Loc}
theorem aJ.length:∀{ds:List DV} {vs:List Value},aJ w W objs L ds vs->vs.length=ds.length
 |[],_,h=>by simp only[aJ]at h;simp[h]
 |_::ds,_,h=>by
  simp only[aJ]at h;obtain⟨v,hY,rfl,_,_,hr⟩:=h;simp[aJ.length hr]
theorem aJ.get:∀{ds:List DV} {vs:List Value} {i:Nat} {d:DV},aJ w W objs L ds vs->ds[i]? =some d->∃v,vs[i]? =some v/\v.oneCell'=true/\av w W objs L d v
 |[],_,_,_,_,h=>by simp at h
 |x::xs,_,0,t,hr,h=>by
  simp only[aJ]at hr;obtain⟨v,hY,rfl,h1,h2,_⟩:=hr;simp only[ZaG,Zaa]at h;subst h;exact⟨v,rfl,h1,h2⟩
 |x::xs,_,i+1,t,hr,h=>by
  simp only[aJ]at hr;obtain⟨v,hY,rfl,_,_,hr⟩:=hr;simpa using aJ.get hr (by simpa using h)
theorem aJ.append:∀{ds nK:List DV} {vs hY:List Value},aJ w W objs L ds vs->aJ w W objs L nK hY->aJ w W objs L (ds++nK) (vs++hY)
 |[],_,_,_,h,h'=>by simp only[aJ]at h;subst h;simpa using h'
 |d::ds,_,_,_,h,h'=>by
  simp only[aJ]at h;obtain⟨v,hY,rfl,h1,h2,hr⟩:=h;simp only[ZaH,aJ];exact⟨v,_,rfl,h1,h2,aJ.append hr h'⟩
theorem aJ.take(n:Nat){ds:List DV}{vs:List Value}(h:aJ w W objs L ds vs):aJ w W objs L (ds.take n) (vs.take n):=by
 induction n generalizing ds vs with
 |zero=>simp[aJ]
 |succ n ih=>
  cases ds with
  |nil=>simp only[aJ]at h;subst h;simp[aJ]
  |cons d ds=>
   simp only[aJ]at h;obtain⟨v,hY,rfl,h1,h2,hr⟩:=h;simp only[ZbY,aJ];exact⟨v,_,rfl,h1,h2,ih hr⟩
theorem aJ.drop(n:Nat){ds:List DV}{vs:List Value}(h:aJ w W objs L ds vs):aJ w W objs L (ds.drop n) (vs.drop n):=by
 induction n generalizing ds vs with
 |zero=>simpa using h
 |succ n ih=>
  cases ds with
  |nil=>simp only[aJ]at h;subst h;simp[aJ]
  |cons d ds=>
   simp only[aJ]at h;obtain⟨v,hY,rfl,h1,h2,hr⟩:=h;simpa using ih hr
theorem aO.append{ts ts':List T}:∀{vs hY:List Value},aO w W ts vs->aO w W ts' hY->aO w W (ts++ts') (vs++hY):=by
 induction ts with
 |nil=>intro vs hY h h';simp only[aO]at h;subst h;simpa using h'
 |cons d ds ih=>
  intro vs hY h h';simp only[aO]at h;obtain⟨v,hY,rfl,h1,h2,hr⟩:=h;simp only[ZaH,aO];exact⟨v,_,rfl,h1,h2,ih hr h'⟩
theorem aJ.pb:∀{ts:List T} {vs:List Value},aO w (WW W objs L) ts vs->aJ w W objs L (ts.map .v) vs
 |[],_,h=>by simpa [aO,aJ]using h
 |t::ts,_,h=>by
  simp only[aO]at h;obtain⟨v,hY,rfl,h1,h2,hr⟩:=h;simp only[Zau,aJ];exact⟨v,hY,rfl,h1,by simpa [av]using h2,aJ.pb hr⟩
theorem av.cells{d:DV}{x:Value}(h:av w W objs L d x)(hb:kY d):aJ w W objs L (cellsOf d) x.cells.toList:=by
 have one:∀{d:DV} {x:Value},cellsOf d=[d]->x.oneCell'=true->av w W objs L d x->aJ w W objs L (cellsOf d) x.cells.toList:=by
  intro d x hc h1 h;rw[hc];simp only[aJ];refine⟨x,[], ?_,h1,h,rfl⟩;cases x<;>first|rfl|(simp[Value.oneCell']at h1)
 cases d with
 |undef=>exact hb.elim
 |skip=>exact hb.elim
 |aH=>obtain⟨a,rfl⟩:=(by simpa only[av]using h);exact one rfl rfl (by simp only[av];exact⟨a,rfl⟩)
 |ptr r off=>have h':=h;simp only[av]at h';obtain⟨_,rfl⟩:=h';exact one rfl rfl h
 |bk r ver=>have h':=h;simp only[av]at h';obtain⟨⟨p,n,c,rfl⟩,_⟩:=h';exact one rfl rfl h
 |kG rows i off=>have h':=h;simp only[av]at h';obtain⟨b,o,sz,rfl,_⟩:=h';exact one rfl rfl h
 |gD cs off=>have h':=h;simp only[av]at h';obtain⟨b,o,rfl,_⟩:=h';exact one rfl rfl h
 |jf r ver i off=>have h':=h;simp only[av]at h';obtain⟨⟨b,o,rfl⟩,_⟩:=h';exact one rfl rfl h
 |agg cs=>simp only[av]at h;obtain⟨vs,rfl,h⟩:=h;simpa [cellsOf,Value.cells]using h
 |CL=>have h':=h;simp only[av]at h';subst h';exact one rfl rfl h
 |iA r=>have h':=h;simp only[av]at h';obtain⟨_,rfl⟩:=h';exact one rfl rfl h
 |iter r=>have h':=h;simp only[av]at h';obtain⟨_,rfl⟩:=h';exact one rfl rfl h
 |eG ds=>exact hb.elim
 |my f ds=>have h':=h;simp only[av]at h';obtain⟨vs,rfl,_⟩:=h';exact one rfl rfl h
 |sU r ver lo n=>have h':=h;simp only[av]at h';obtain⟨⟨p,c,rfl⟩,_⟩:=h';exact one rfl rfl h
 |D7 r n=>have h':=h;simp only[av]at h';obtain⟨_,rfl⟩:=h';exact one rfl rfl h
 |v t=>
  cases t with
  |agg cs=>simp only[av,aS]at h;obtain⟨vs,rfl,h⟩:=h;simpa [cellsOf,Value.cells]using aJ.pb h
  |eG ts=>exact hb.elim
  |bool b=>have h':=h;simp only[av,aS]at h';subst h';exact one rfl rfl h
  |int k n=>have h':=h;simp only[av,aS]at h';subst h';exact one rfl rfl h
  |str s=>have h':=h;simp only[av,aS]at h';subst h';exact one rfl rfl h
  |sl rows=>
   have h':=h;simp only[av,aS]at h';rcases h' with⟨_,a,c,rfl⟩|⟨b,o,cap,sz,rfl,_⟩<;>exact one rfl rfl h
  |fn f caps=>have h':=h;simp only[av,aS]at h';obtain⟨vs,rfl,_⟩:=h';exact one rfl rfl h
  |box cs=>have h':=h;simp only[av,aS]at h';obtain⟨b,o,rfl,_⟩:=h';exact one rfl rfl h
  |raw y=>have h':=h;simp only[av,aS]at h';subst h';exact one rfl hb h
end
theorem ng.lt{base:Nat}{M:Nat->Prop}{w:World}{W:Nat->Prop}{objs:aT}{L:Loc}{r:Nat}{o:Ob}(h:ng w W objs L base M r o){b:Nat}(hb:L.own r o=some b):b<w.heap.size:=by
 cases o with
 |box cs=>
  obtain⟨c,e,hc,_⟩:=h;simp only[Loc.own,Zaa]at hb;subst hb;exact(Zai.1 hc).1
 |arr ver e sz rows=>
  obtain⟨_,_,_,h⟩:=h;simp only[Loc.own]at hb;rcases h with⟨_,a,ha⟩|⟨g,cap,cur,hv,hp,hg,_⟩
  ·rw[ha]at hb;cases a<;>simp[aN]at hb
  ·rw[hv]at hb;simp only[aN,if_neg (Zay.1 hp),Zaa]at hb;subst hb;exact(Zai.1 hg).1
 |map shs agg c es=>
  obtain⟨arr,hc,_⟩:=h;simp only[Loc.own,Zaa]at hb;subst hb;exact(Zai.1 hc).1
 |iter m s sn l=>
  obtain⟨hc,_⟩:=h;simp only[Loc.own,Zaa]at hb;subst hb;exact(Zai.1 hc).1
theorem ng.reach{base:Nat}{M:Nat->Prop}{w:World}{W:Nat->Prop}{objs:aT}{L:Loc}{r:Nat}{o:Ob}(h:ng w W objs L base M r o){b:Nat}(hb:L.own r o=some b):base<=b\/M b:=by
 cases o with
 |box cs=>
  obtain⟨c,e,hc,_,hm⟩:=h;simp only[Loc.own,Zaa]at hb;subst hb;exact hm
 |arr ver e sz rows=>
  obtain⟨_,_,hm,_⟩:=h;exact hm b hb
 |map shs agg c es=>
  obtain⟨arr,hc,_,_,_,_,hm⟩:=h;simp only[Loc.own,Zaa]at hb;subst hb;exact hm
 |iter m s sn l=>
  obtain⟨hc,_,hm⟩:=h;simp only[Loc.own,Zaa]at hb;subst hb;exact hm
theorem ng.aC{base:Nat}{M:Nat->Prop}{w w':World}{W:Nat->Prop}{objs aA:aT}{L L':Loc}{r:Nat}{o:Ob}(ha:iZ W objs L w aA L' w')
  (h:ng w W objs L base M r o) (eX:L'.gY r=L.gY r/\L'.sl r=L.sl r) (hblk:∀b,L.own r o=some b->w'.heap[b]? =w.heap[b]?):ng w' W aA L' base M r o:=by
 cases o with
 |box cs=>
  obtain⟨c,e,hc,hr,hm⟩:=h;refine⟨c,e, ?_,aJ.dZ ha cs _ hr, ?_⟩
  ·rw[eX.1,hblk _ rfl];exact hc
  ·rw[eX.1];exact hm
 |arr ver e sz rows=>
  obtain⟨gE,cS,hm,h⟩:=h;refine⟨gE,cS,by rw[eX.2];exact hm, ?_⟩;rw[eX.2];rcases h with h|⟨g,cap,cur,hv,hp,hg,h1,h2,h3,h4⟩
  ·exact .inl h
  ·refine .inr ⟨g,cap,cur,hv,hp, ?_,h1,h2,h3,aO.aC ha.keeps.toKeepsC ha.sub _ _ h4⟩;rw[hblk g (by simp[Loc.own,hv,aN,Zay.1 hp])];exact hg
 |map shs agg c es=>
  obtain⟨arr,hc,hr,k1,k2,k3,hm⟩:=h;refine⟨arr, ?_,bj.dZ ha es _ hr,k1,k2,k3, ?_⟩
  ·rw[eX.1,hblk _ rfl];exact hc
  ·rw[eX.1];exact hm
 |iter m s sn l=>
  obtain⟨hc,Jm,hm⟩:=h;have:=ha.mp m Jm;refine⟨?_,this.2, ?_⟩
  ·rw[eX.1,this.1,hblk _ rfl];exact hc
  ·rw[eX.1];exact hm
def Obj.plain:Obj->Prop
 |.cells _ _ _|.map _ _|.mapIter _ _ _ _=>True
 |_=>False
theorem ng.cells{base:Nat}{M:Nat->Prop}{w:World}{W:Nat->Prop}{objs:aT}{L:Loc}{r:Nat}{o:Ob}(h:ng w W objs L base M r o){b:Nat}(hb:L.own r o=some b):∃x,w.heap[b]? =some x/\Obj.plain x:=by
 cases o with
 |box cs=>
  obtain⟨c,e,hc,_⟩:=h;simp only[Loc.own,Zaa]at hb;subst hb;exact⟨_,hc,trivial⟩
 |map shs agg c es=>
  obtain⟨arr,hc,_⟩:=h;simp only[Loc.own,Zaa]at hb;subst hb;exact⟨_,hc,trivial⟩
 |iter m s sn l=>
  obtain⟨hc,_⟩:=h;simp only[Loc.own,Zaa]at hb;subst hb;exact⟨_,hc,trivial⟩
 |arr ver e sz rows=>
  obtain⟨_,_,_,h⟩:=h;simp only[Loc.own]at hb;rcases h with⟨_,a,ha⟩|⟨g,cap,cur,hv,hp,hg,_⟩
  ·rw[ha]at hb;cases a<;>simp[aN]at hb
  ·rw[hv]at hb;simp only[aN,if_neg (Zay.1 hp),Zaa]at hb;subst hb;exact⟨_,hg,trivial⟩
def bR(objs:aT):Option (Nat×Ob)->aT
 |none=>objs
 |some (r,o)=>λx=>if x=r then some o else objs x
theorem bK.put{base:Nat}{W M:Nat->Prop}{w0 w w':World}{objs:aT}{L L':Loc}{r:Nat}{o':Ob}(h:bK base W M w0 objs w L)
  (wq:Fr base M w0 w') (gE:w.heap.size<=w'.heap.size)
  (hL:∀x,x≠r->L'.gY x=L.gY x/\L'.sl x=L.sl x) (tf:L'.yl=L.yl)
  (Gk:∀b,b<w.heap.size->(∀o,objs r=some o->L.own r o≠some b)->w'.heap[b]? =w.heap[b]?)
  (qM:∀b,L'.own r o'=some b->(∃o,objs r=some o/\L.own r o=some b)\/w.heap.size<=b)
  (zb:∀o,objs r=some o->o.kind≠1->L'.gY r=L.gY r/\o'.kind=o.kind)
  (JB:∀ver e sz rows,objs r=some (.arr ver e sz rows)->∃ver' e' ga di,o'=.arr ver' e' ga di/\ver<=ver'/\(ver'=ver->L'.sl r=L.sl r/\ga=sz/\di.length=rows.length))
  (fG:iZ W objs L w (bR objs (some (r,o'))) L' w'->ng w' W (bR objs (some (r,o'))) L' base M r o'):
  bK base W M w0 (bR objs (some (r,o'))) w' L'/\iZ W objs L w (bR objs (some (r,o'))) L' w':=by
 have eX:∀x (o:Ob),x≠r->L'.own x o=L.own x o:=λx o hx=>by
  have:=hL x hx;cases o<;>simp[Loc.own,this.1,this.2]
 have hother:∀x o b,x≠r->objs x=some o->L.own x o=some b->w'.heap[b]? =w.heap[b]? :=λx o b hx ho hb=>
  Gk b ((h.ob x o ho).lt hb) λo2 lJ kz=>h.apart x r o o2 b hx ho lJ hb kz
 have hnon:∀(b:Nat) x,w.heap[b]? =some x->¬Obj.plain x->w'.heap[b]? =some x:=λb x hb hx=>by
  refine(Gk b (Zai.1 hb).1 λo ho kz=>?_).trans hb;obtain⟨y,hc,hy⟩:=(h.ob r o ho).cells kz;rw[hc]at hb;cases hb;exact hx hy
 have dZ:iZ W objs L w (bR objs (some (r,o'))) L' w':=by
  refine⟨⟨⟨gE,λb c e fr hb hn=>?_⟩,λb hb=>hnon b _ hb (λe=>e),λb r hb=>hnon b _ hb (λe=>e)⟩,λb hb hw=>?_,λx o hx hk=>?_,λx ver e sz rows hx=>?_,tf⟩
  ·exact(Gk b (Zai.1 hb).1 λo2 lJ kz=>hn (.inr ⟨r,o2,lJ,kz⟩)).trans hb
  ·rcases hw with hw|⟨x,o,ho,kz⟩
   ·exact .inl hw
   ·by_cases hx:x=r
    ·subst hx;simp only[bR,if_true]at ho;obtain rfl:o'=o:=by simpa using ho
     rcases qM b kz with⟨o2,lJ,Qb⟩|zl
     ·exact .inr ⟨x,o2,lJ,Qb⟩
     ·omega
    ·simp only[bR,if_neg hx]at ho;exact .inr ⟨x,o,ho,by rw[<-eX x o hx];exact kz⟩
  ·by_cases Cm:x=r
   ·subst Cm;obtain⟨h1,h2⟩:=zb o hx hk;exact⟨h1,o',by simp[bR],h2⟩
   ·exact⟨(hL x Cm).1,o,by simp[bR,Cm,hx],rfl⟩
  ·by_cases Cm:x=r
   ·subst Cm;obtain⟨ver',e',ga,di,rfl,h2,h3⟩:=JB ver e sz rows hx;exact⟨ver',e',ga,di,by simp[bR],h2,h3⟩
   ·exact⟨ver,e,sz,rows,by simp[bR,Cm,hx],Zae _,λ_=>⟨(hL x Cm).2,rfl,rfl⟩⟩
 refine⟨⟨wq,λx o ho=>?_,λx x' o o2 b bG ho lJ hb kz=>?_,λx o b ho hb hw=>?_,h.under,h.gl.aC dZ.keeps.toKeepsC dZ.sub⟩,dZ⟩
 ·by_cases hx:x=r
  ·subst hx;simp only[bR,if_true]at ho;obtain rfl:o'=o:=by simpa using ho
   exact fG dZ
  ·simp only[bR,if_neg hx]at ho;exact ng.aC dZ (h.ob x o ho) (hL x hx) λb hb=>hother x o b hx ho hb
 ·by_cases hx:x=r
  ·subst hx;simp only[bR,if_true]at ho;obtain rfl:o'=o:=by simpa using ho
   have gb:x'≠x:=λe=>bG e.symm;simp only[bR,if_neg gb]at lJ;rw[eX x' o2 gb]at kz;rcases qM b hb with⟨o3,ho3,Qb⟩|zl
   ·exact h.apart x' x o2 o3 b gb lJ ho3 kz Qb
   ·have:=(h.ob x' o2 lJ).lt kz;omega
  ·simp only[bR,if_neg hx]at ho;rw[eX x o hx]at hb;by_cases gb:x'=r
   ·subst gb;simp only[bR,if_true]at lJ;obtain rfl:o'=o2:=by simpa using lJ
    rcases qM b kz with⟨o3,ho3,Qb⟩|zl
    ·exact h.apart x x' o o3 b bG ho ho3 hb Qb
    ·have:=(h.ob x o ho).lt hb;omega
   ·simp only[bR,if_neg gb]at lJ;rw[eX x' o2 gb]at kz;exact h.apart x x' o o2 b bG ho lJ hb kz
 ·by_cases hx:x=r
  ·subst hx;simp only[bR,if_true]at ho;obtain rfl:o'=o:=by simpa using ho
   rcases qM b hb with⟨o3,ho3,Qb⟩|zl
   ·exact h.outer x o3 b ho3 Qb hw
   ·have h1:=h.under b hw;have h2:=h.fr.ib;have h3:=h.fr.size;omega
  ·simp only[bR,if_neg hx]at ho;rw[eX x o hx]at hb;exact h.outer x o b ho hb hw
theorem zT.start{w:World}{W:Nat->Prop}{L:Loc}(h:zT w W):zT w (WW W (λ_=>none) L):=
 h.aC (cd.refl W w).toKeepsC λb _ hw=>by
  rcases hw with hw|⟨r,o,hr,_⟩
  ·exact hw
  ·cases hr
theorem bK.grow{base:Nat}{W M:Nat->Prop}{w0 w w':World}{objs:aT}{L:Loc}(h:bK base W M w0 objs w L)(hb:tG w.heap.size w w'):
  bK base W M w0 objs w' L/\iZ W objs L w objs L w':=by
 have dZ:iZ W objs L w objs L w':=iZ.ch (cd.Gh hb.toBelow);have hle:base<=w.heap.size:=ZaC h.fr.ib h.fr.size;refine⟨⟨h.fr.trans ⟨hb.os,hb.tape,hb.output,hle,hb.size,λk hk _=>hb.block k (by omega),hb.drawn⟩,λr o ho=>?_,h.apart,h.outer,h.under,h.gl.aC dZ.keeps.toKeepsC dZ.sub⟩,dZ⟩;exact ng.aC dZ (h.ob r o ho) ⟨rfl,rfl⟩ λb kz=>hb.block b ((h.ob r o ho).lt kz)
end Go.DM
namespace Go.DM
open Go.RowKit
def kI:Value->Option DV
 |.int k n=>some (.v (.int k n))
 |.bool b=>some (.v (.bool b))
 |.string s=>some (.v (.str s))
 |.slice none 0 0=>some .aH
 |.pointer none=>some (.v (.raw (.pointer none)))
 |.nilFunc=>some (.v (.raw .nilFunc))
 |.nilIface=>some (.v (.raw .nilIface))
 |.map none=>some (.v (.raw (.map none)))
 |_=>none
def pc:Value->Option T
 |.int k n=>some (.int k n)
 |.bool b=>some (.bool b)
 |.string s=>some (.str s)
 |.slice none 0 0=>some (.sl [])
 |.pointer none=>some (.raw (.pointer none))
 |.nilFunc=>some (.raw .nilFunc)
 |.nilIface=>some (.raw .nilIface)
 |.map none=>some (.raw (.map none))
 |_=>none
variable [Laid]
def bp.of:Operand->Option bp
 |.tmp t=>some (.tmp t)
 |.const v=>(kI v).map .cw
 |.func f=>some (.cw (.v (.fn (.func f) [])))
 |.global g=>(Laid.cells.find? λp=>p.1==g).map λp=>.cw (.gD p.2 0)
section
variable{w:World}{W:Nat->Prop}{objs:aT}{L:Loc}
theorem tJ:∀{x:Value} {d:DV},kI x=some d->av w W objs L d x/\x.oneCell'=true:=by
 intro x d h;unfold kI at h;split at h<;>simp only[Zaa,reduceCtorEq]at h<;>subst h<;>simp[av,aS,Value.oneCell']
theorem zZ:∀{x:Value} {t:T},pc x=some t->aS w W t x/\x.oneCell'=true/\zU t=true:=by
 intro x d h;unfold pc at h;split at h<;>simp only[Zaa,reduceCtorEq]at h<;>subst h<;>simp[aS,Value.oneCell',zU]
theorem gF:∀{xs:List Value} {ds:List DV},xs.mapM kI=some ds->aJ w W objs L ds xs
 |[],ds,h=>by simp at h;subst h;simp[aJ]
 |x::xs,ds,h=>by
  simp only[Za2,Zaj,Zaf,Zac,Zaa]at h;obtain⟨d,hd,nK,hds,rfl⟩:=h;simp only[aJ];have:=tJ (w:=w) (W:=W) (objs:=objs) (L:=L) hd;exact⟨x,xs,rfl,this.2,this.1,gF hds⟩
theorem pX:∀{xs:List Value} {ds:List T},xs.mapM pc=some ds->aO w W ds xs
 |[],ds,h=>by simp at h;subst h;simp[aO]
 |x::xs,ds,h=>by
  simp only[Za2,Zaj,Zaf,Zac,Zaa]at h;obtain⟨d,hd,nK,hds,rfl⟩:=h;simp only[aO];have:=zZ (w:=w) (W:=W) hd;exact⟨x,xs,rfl,this.2.1,this.1,pX hds⟩
theorem bp.bq{a:Act}{ρ:Nat->DV}(hg:zT w (WW W objs L))(gZ:∀t,av w W objs L (ρ t) (a.tmps.getD t Go.undef)){x:Operand}{y:bp}(h:bp.of x=some y):av w W objs L (y.ev ρ) (a.eval x):=by
 cases x with
 |tmp t=>simp only[bp.of,Zaa]at h;subst h;simpa [bp.ev,Act.eval]using gZ t
 |const v=>
  simp only[bp.of,Zab]at h;obtain⟨d,hd,rfl⟩:=h;exact(tJ hd).1
 |func f=>simp only[bp.of,Zaa]at h;subst h;simp[bp.ev,Act.eval,av,aS,aO]
 |global g=>
  simp only[bp.of,Zab]at h;obtain⟨p,hp,rfl⟩:=h;have h1:=ZcM hp;obtain rfl:p.1=g:=by simpa using h1
  obtain⟨h2,h3,h4⟩:=hg p (ZbQ hp);simp only[bp.ev,Act.eval,av];exact⟨p.1,0,rfl,h2,h3,h4⟩
theorem kZ(b o n:Nat):(⟨b,o,none⟩:Addr).add n=⟨b,o+n,none⟩:=by unfold Addr.add;split<;>simp_all
theorem yb{P:Program}{w:World}{b o:Nat}{vs:List Value}(h:∀j v,vs[j]? =some v->w.cell? ⟨b,o+j,none⟩=some v):
  (loadCells ⟨b,o,none⟩ vs.length).run P w=.ok vs.toArray w:=
 run_loadCells_list w _ vs λj v hv=>by rw[kZ];exact h j v hv
theorem CP{P:Program}{w:World}{t:TypeId}{d:TypeDesc}(h:P.underlying t=some d):(isAgg t).run P w=.ok (match d with|.struct _|.array _ _=>true|_=>false) w:=by
 simp only[isAgg,Sem.run_bind,run_underlying h,Result.andThen_ok];cases d<;>rfl
theorem run_sizeOf{P:Program}{w:World}{t:TypeId}{i:TypeInfo}(h:P.info? t=some i):(sizeOf t).run P w=.ok i.size w:=by
 simp[sizeOf,typeInfo,h]
def bA:TypeDesc->Bool
 |.struct _|.array _ _=>true
 |_=>false
theorem oz{P:Program}{w:World}{t:TypeId}{d:TypeDesc}{i:TypeInfo}(hd:P.underlying t=some d)(hi:P.info? t=some i){b o:Nat}{vs:List Value}
  (hl:vs.length=i.size) (h:∀j v,vs[j]? =some v->w.cell? ⟨b,o+j,none⟩=some v) (hs:bA d=true\/i.size=1):
  (Instr.loadAt t (.pointer (some ⟨b,o,none⟩))).run P w=.ok (if bA d then .agg vs.toArray else vs.getD 0 Go.undef) w:=by
 have h1:(isAgg t).run P w=.ok (bA d) w:=by rw[CP hd];cases d<;>rfl
 simp only[Instr.loadAt,Instr.sureAddr,loadVar,Sem.run_bind,Sem.run_pure,Result.andThen_ok,h1];by_cases ha:bA d=true
 ·simp only[ha,if_true,Sem.run_bind,run_sizeOf hi,Result.andThen_ok];rw[<-hl,yb h];rfl
 ·have h1:vs.length=1:=by rw[hl];exact hs.resolve_left ha
  match vs,h1 with
  |[v],_=>
   have:=h 0 v rfl;simp only[ZbI]at this;simp[ha,this]
theorem cV.vals{b:Nat}:∀{ts:List T} {o:Nat},cV w W b o ts->∃vs,aO w W ts vs/\∀j v,vs[j]? =some v->w.cell? ⟨b,o+j,none⟩=some v
 |[],o,_=>⟨[],by simp[aO],by simp⟩
 |t::ts,o,h=>by
  simp only[cV]at h;obtain⟨⟨v,hc,h1,hr⟩,jL⟩:=h;obtain⟨vs,hv,mE⟩:=cV.vals jL;refine⟨v::vs,by simp only[aO];exact⟨v,vs,rfl,h1,hr,hv⟩,λj u hu=>?_⟩;cases j with
  |zero=>simp only[ZaG,Zaa]at hu;subst hu;simpa using hc
  |succ j=>
   have:=mE j u (by simpa using hu)
   rwa [show o+(j+1)=o+1+j by omega]
theorem aO.split{ts ts':List T}:∀{vs:List Value},aO w W (ts++ts') vs->∃v1 v2,vs=v1++v2/\aO w W ts v1/\aO w W ts' v2:=by
 induction ts with
 |nil=>intro vs h;exact⟨[],vs,rfl,by simp[aO],h⟩
 |cons t ts ih=>
  intro vs h;simp only[ZaH,aO]at h;obtain⟨v,hY,rfl,h1,h2,hr⟩:=h;obtain⟨v1,v2,rfl,ha,hb⟩:=ih hr;exact⟨v::v1,v2,rfl,by simp only[aO];exact⟨v,v1,rfl,h1,h2,ha⟩,hb⟩
theorem cV.pb{b o:Nat}{ts:List T}{vs:List Value}(h:aO w W ts vs)(hc:∀j v,vs[j]? =some v->w.cell? ⟨b,o+j,none⟩=some v):cV w W b o ts:=
 cV.zS ts o λj t ht=>by
  obtain⟨v,hv,h1,hr⟩:=aO.get h ht;exact⟨v,hc j v hv,h1,hr⟩
theorem aY.ij{sz b:Nat}:∀{rows:List (List T)} {o:Nat} {vs:List Value},aO w W rows.flatten vs->(∀r∈rows,r.length=sz)->(∀j v,vs[j]? =some v->w.cell? ⟨b,o+j,none⟩=some v)->aY w W sz b o rows
 |[],_,_,_,_,_=>by simp[aY]
 |r::rs,o,vs,h,hl,hc=>by
  simp only[Zbe]at h;obtain⟨v1,v2,rfl,ha,hb⟩:=aO.split h;have hr:r.length=sz:=hl r (by simp);have zm:v1.length=sz:=by rw[aO.length ha,hr]
  simp only[aY];refine⟨hr,cV.pb ha λj v hv=>hc j v ?_,aY.ij hb (λx hx=>hl x (by simp[hx])) λj v hv=>?_⟩
  ·rw[Zbk (Zas.1 hv).1];exact hv
  ·have:=hc (sz+j) v (by rw[Zbi (by omega),zm];simpa using hv)
   rwa [show o+sz+j=o+(sz+j)by omega]
theorem aY.flatten{sz b:Nat}:∀{rows:List (List T)} {o:Nat},aY w W sz b o rows->∃vs,vs.length=rows.length*sz/\aO w W rows.flatten vs/\∀j v,vs[j]? =some v->w.cell? ⟨b,o+j,none⟩=some v
 |[],o,_=>⟨[],by simp,by simp[aO],by simp⟩
 |r::rs,o,h=>by
  simp only[aY]at h;obtain⟨v1,h1,bb⟩:=cV.vals h.2.1;obtain⟨v2,qj,h2,dL⟩:=aY.flatten h.2.2;have zm:v1.length=sz:=by rw[aO.length h1,h.1]
  refine⟨v1++v2,by simp[zm,qj,Nat.add_mul];omega,by simpa using aO.append h1 h2,λj v hv=>?_⟩;by_cases hj:j<v1.length
  ·rw[Zbk hj]at hv;exact bb j v hv
  ·rw[Zbi (by omega)]at hv;have:=dL (j-v1.length) v hv
   rwa [show o+sz+(j-v1.length)=o+j by omega]at this
theorem ng.rows{base:Nat}{M:Nat->Prop}{r ver e sz:Nat}{rows:List (List T)}(h:ng w W objs L base M r (.arr ver e sz rows)){g:Nat}(hg:aN (L.sl r)=some g):
  aY w (WW W objs L) sz g 0 rows:=by
 obtain⟨_,hl,_,h⟩:=h;rcases h with⟨rfl,_⟩|⟨g',cap,cur,hv,hp,hh,h1,h2,h3,h4⟩
 ·simp[aY]
 ·rw[hv]at hg;simp only[aN,if_neg (Zay.1 hp),Zaa]at hg;subst hg;refine aY.ij h4 hl λj v hv=>?_;rw[ZaY,cell_of_row w g' j cur e (0,0) hh];rw[ZaF]at hv;split at hv
  ·simpa using hv
  ·cases hv
theorem wL{rows:List (List T)}{i:Int}(h0:0<=i)(h1:i<rows.length):rows[i.toNat]? =some (rowAt rows i):=by
 have:i.toNat<rows.length:=by omega
 simp[rowAt,List.getD,this]
theorem aO.take(n:Nat){ds:List T}:∀{vs:List Value},aO w W ds vs->aO w W (ds.take n) (vs.take n):=by
 induction n generalizing ds with
 |zero=>intro vs h;simp[aO]
 |succ n ih=>
  intro vs h;cases ds with
  |nil=>simp only[aO]at h;subst h;simp[aO]
  |cons d ds=>
   simp only[aO]at h;obtain⟨v,hY,rfl,h1,h2,hr⟩:=h;simp only[ZbY,aO];exact⟨v,_,rfl,h1,h2,ih hr⟩
theorem aO.drop(n:Nat){ds:List T}:∀{vs:List Value},aO w W ds vs->aO w W (ds.drop n) (vs.drop n):=by
 induction n generalizing ds with
 |zero=>intro vs h;simpa using h
 |succ n ih=>
  intro vs h;cases ds with
  |nil=>simp only[aO]at h;subst h;simp[aO]
  |cons d ds=>
   simp only[aO]at h;obtain⟨v,hY,rfl,h1,h2,hr⟩:=h;simpa using ih hr
theorem sg{P:Program}{t:TypeId}{d:TypeDesc}{i:TypeInfo}(hd:P.underlying t=some d)(hi:P.info? t=some i){b o off:Nat}{cs:List T}
  (hr:cV w (WW W objs L) b o cs) (aF:off+i.size<=cs.length/\(bA d=true\/i.size=1)):
  ∃v,(Instr.loadAt t (.pointer (some ⟨b,o+off,none⟩))).run P w=.ok v w/\
   av w W objs L (if bA d then .v (.agg ((cs.drop off).take i.size))else .v (cs.getD off default)) v:=by
 obtain⟨vs,hv,hc⟩:=cV.vals hr;have hl:=aO.length hv;have jl:=aO.take i.size (aO.drop off hv);refine⟨_,oz hd hi (vs:=(vs.drop off).take i.size) (by simp;omega) (λj v hj=>?_) aF.2, ?_⟩
 ·rw[ZaF]at hj;split at hj
  ·rw[Zbb]at hj;have:=hc _ _ hj
   rwa [show o+off+j=o+(off+j)by omega]
  ·cases hj
 ·by_cases ha:bA d=true
  ·simp only[ha,if_true,av,aS];exact⟨_,rfl,by simpa using jl⟩
  ·have h1:i.size=1:=aF.2.resolve_left ha;have cW:off<cs.length:=by omega
   obtain⟨v,pY,_,fe⟩:=aO.get hv (i:=off) (t:=cs[off]) (by simp[cW]);have e1:(List.take i.size (List.drop off vs)).getD 0 Go.undef=v:=by
    rw[h1];simp only[List.getD,ZaF,Zbb,ZbI,pY];simp
   have e2:cs.getD off default=cs[off]:=by simp[List.getD,cW]
   simp only[ha,e1,e2];exact fe
theorem z7{P:Program}{base:Nat}{M:Nat->Prop}{w0:World}(hO:bK base W M w0 objs w L){t:TypeId}{d:TypeDesc}{i:TypeInfo}(hd:P.underlying t=some d)(hi:P.info? t=some i)
  {x:DV} {xv:Value} (hx:av w W objs L x xv) (aF:(fZ i.size (bA d) objs x).ok):
  (fZ i.size (bA d) objs x).put=none/\∃v,(Instr.loadAt t xv).run P w=.ok v w/\av w W objs L (fZ i.size (bA d) objs x).val v:=by
 cases x with
 |ptr r off=>
  simp only[av]at hx;obtain⟨⟨cs,hc⟩,rfl⟩:=hx;simp only[fZ,hc]at aF⊢;refine⟨trivial, ?_⟩;obtain⟨c,e,hh,hr,_⟩:=hO.ob r _ hc;have hl:=aJ.length hr;have pZ:=aJ.take i.size (aJ.drop off hr);refine⟨_,oz hd hi (vs:=(c.toList.drop off).take i.size) (by simp at hl⊢;omega) (λj v hj=>?_) aF.2, ?_⟩
  ·rw[ZaF]at hj;split at hj
   ·rw[Zbb]at hj;rw[cell_of_row w _ _ c e (0,0) hh];simpa using hj
   ·cases hj
  ·by_cases ha:bA d=true
   ·simp only[ha,if_true,av];exact⟨_,rfl,by simpa using pZ⟩
   ·have h1:i.size=1:=aF.2.resolve_left ha;have cW:off<cs.length:=by omega
    obtain⟨v,pY,_,fe⟩:=aJ.get hr (i:=off) (d:=cs[off]) (by simp[cW]);have e1:(List.take i.size (List.drop off c.toList)).getD 0 Go.undef=v:=by
     rw[h1];simp only[List.getD,ZaF,Zbb,ZbI,pY];simp
    have e2:cs.getD off .undef=cs[off]:=by simp[List.getD,cW]
    simp only[ha,e1,e2];exact fe
 |kG rows j off=>
  simp only[av]at hx;obtain⟨b,o,sz,rfl,hb,hn,hr,h0,h1⟩:=hx;simp only[fZ]at aF⊢;exact⟨trivial,sg hd hi (aY.row hr (wL h0 h1)).2 aF⟩
 |gD cs off=>
  simp only[av]at hx;obtain⟨b,o,rfl,hb,hn,hr⟩:=hx;simp only[fZ]at aF⊢;exact⟨trivial,sg hd hi hr aF⟩
 |v t'=>
  cases t' with
  |box cs=>
   simp only[av,aS]at hx;obtain⟨b,o,rfl,hb,hn,hr⟩:=hx;simp only[fZ]at aF⊢;have:=sg (objs:=objs) (L:=L) (W:=W) hd hi (off:=0) hr (by simpa using aF);refine⟨trivial, ?_⟩;simpa using this
  |_=>simp[fZ,bad]at aF
 |jf r ver j off=>
  simp only[av]at hx;obtain⟨_,ver',e,sz,rows,ho,hle,hx⟩:=hx;simp only[fZ,ho]at aF⊢;obtain⟨g,hg,rfl,h0,h1⟩:=hx aF.1;have tK:=ng.rows (hO.ob r _ ho) hg;have:=(aY.row tK (wL h0 h1)).2;rw[ZaY]at this;exact⟨trivial,sg hd hi this aF.2⟩
 |_=>simp[fZ,bad]at aF
end
end Go.DM
namespace Go.DM
open Go.RowKit
variable [Laid]
section
variable{w:World}{W:Nat->Prop}{objs:aT}{L:Loc}
theorem wM{y:DV}(h:du (cellsOf y))(hl:(cellsOf y).length≠0\/True):kY y:=by
 cases y with
 |undef=>simp[cellsOf,du,jg]at h
 |skip=>simp[cellsOf,du,jg]at h
 |v t=>
  cases t<;>simp_all [cellsOf,du,jg,kY,zU]
 |eG ds=>simp[cellsOf,du,jg]at h
 |_=>simp[kY]
theorem nL{y:DV}{yv:Value}(hy:av w W objs L y yv)(h:du (cellsOf y)):aJ w W objs L (cellsOf y) yv.cells.toList:=
 av.cells hy (wM h (.inr trivial))
theorem aJ.one{ds:List DV}:∀{vs:List Value},aJ w W objs L ds vs->∀v∈vs,v.oneCell'=true:=by
 induction ds with
 |nil=>intro vs h;simp only[aJ]at h;subst h;simp
 |cons d ds ih=>
  intro vs h;simp only[aJ]at h;obtain⟨v,hY,rfl,h1,_,hr⟩:=h;intro u hu;rcases Zag.1 hu with rfl|hu
  ·exact h1
  ·exact ih hr u hu
theorem aO.one{ds:List T}:∀{vs:List Value},aO w W ds vs->∀v∈vs,v.oneCell'=true:=by
 induction ds with
 |nil=>intro vs h;simp only[aO]at h;subst h;simp
 |cons d ds ih=>
  intro vs h;simp only[aO]at h;obtain⟨v,hY,rfl,h1,_,hr⟩:=h;intro u hu;rcases Zag.1 hu with rfl|hu
  ·exact h1
  ·exact ih hr u hu
theorem aJ.bH{a b:List DV}{va vb:List Value}(off:Nat)(ha:aJ w W objs L a va)(hb:aJ w W objs L b vb):aJ w W objs L (bH a off b) (bH va off vb):=by
 unfold DM.bH;rw[<-aJ.length hb];exact aJ.append (aJ.append (aJ.take off ha) hb) (aJ.drop _ ha)
theorem aO.bH{a b:List T}{va vb:List Value}(off:Nat)(ha:aO w W a va)(hb:aO w W b vb):aO w W (bH a off b) (bH va off vb):=by
 unfold DM.bH;rw[<-aO.length hb];exact aO.append (aO.append (aO.take off ha) hb) (aO.drop _ ha)
theorem wN{base:Nat}{M:Nat->Prop}{w0:World}{g:Nat}(cs:Array Value)(h:Fr base M w0 w)(hg:base<=g\/M g):Fr base M w0 (w.setRow g cs):=
 ⟨h.os,h.tape,h.output,h.ib,by simpa using h.size,λk hk hm=>by
  rw[setRow_other w g k cs (by rintro rfl;exact hg.elim (λh1=>by omega) hm)];exact h.block k hk hm,by simpa using h.drawn⟩
theorem CQ{P:Program}{t:TypeId}{i:TypeInfo}(hi:P.info? t=some i){g o:Nat}{e:TypeId}{cur:Array Value}(hg:w.heap[g]? =some (.cells cur e (0,0))){yv:Value}
  (hl:yv.cells.size=i.size) (qN:o+i.size<=cur.size) (h1:∀v∈yv.cells.toList,v.oneCell'=true):
  (Instr.storeAt t (.pointer (some ⟨g,o,none⟩)) yv).run P w=.ok () (w.setRow g (bH cur.toList o yv.cells.toList).toArray):=by
 have hs:=run_storeCells_at P g o e yv.cells.toList 0 cur w hg (by simp[hl];omega) h1;simp only[ZbI]at hs;simp only[Instr.storeAt,Instr.sureAddr,storeVar,Sem.run_bind,Sem.run_pure,Result.andThen_ok,run_sizeOf hi,hl,ne_eq,not_true_eq_false,if_false];exact hs
theorem NZ{P:Program}{base:Nat}{M:Nat->Prop}{w0:World}(hO:bK base W M w0 objs w L){t:TypeId}{i:TypeInfo}(hi:P.info? t=some i)
  {r off:Nat} {cs:List DV} (hc:objs r=some (.box cs)) {y:DV} {yv:Value} (hy:av w W objs L y yv)
  (hn:(cellsOf y).length=i.size) (qN:off+i.size<=cs.length) (zn:du (cellsOf y)):
  ∃w',(Instr.storeAt t (.pointer (some ⟨L.gY r,off,none⟩)) yv).run P w=.ok () w'/\
   bK base W M w0 (bR objs (some (r,.box (bH cs off (cellsOf y))))) w' L/\iZ W objs L w (bR objs (some (r,.box (bH cs off (cellsOf y))))) L w':=by
 obtain⟨c,e,hh,hr,hm⟩:=hO.ob r _ hc;have og:=nL hy zn;have tf:yv.cells.size=i.size:=by have:=aJ.length og;simpa [hn]using this
 have bd:c.size=cs.length:=by simpa using aJ.length hr
 refine⟨_,CQ hi hh tf (by omega) (aJ.one og), ?_⟩;refine bK.put hO (wN _ hO.fr hm) (by simp) (λ_ _=>⟨rfl,rfl⟩) rfl (λb _ hb=>setRow_other w _ b _ (λx=>hb _ hc (by simp[Loc.own,x])))
  (λb hb=>.inl ⟨_,hc,hb⟩) (λo' gf _=>by rw[hc]at gf;cases gf;exact⟨rfl,rfl⟩) (λver e sz rows h=>by rw[hc]at h;cases h) (λdZ=>?_)
 refine⟨_,e,setRow_heap w _ c _ e _ hh, ?_,hm⟩;exact aJ.bH off (aJ.dZ dZ _ _ hr) (aJ.dZ dZ _ _ og)
theorem fA{α:Type}{l new:List α}{off:Nat}(h:off+new.length<=l.length):(bH l off new).length=l.length:=by
 simp[bH];omega
theorem yd{α:Type}{l new:List α}{off n:Nat}(h:off+new.length<=n)(hn:n<=l.length):(bH l off new).take n=bH (l.take n) off new:=by
 unfold bH;have e1:List.take off (List.take n l)=List.take off l:=by rw[Zcw];congr 1;omega
 have e2:(List.take off l++new).length=off+new.length:=by simp;omega
 rw[e1,List.drop_take,ZcI,e2,Za3 (by omega)]
theorem ye{sz:Nat}:∀(rows:List (List T)) (i off:Nat) (new:List T),(∀r∈rows,r.length=sz)->i<rows.length->off+new.length<=sz->
  (rows.set i (bH (rows.getD i []) off new)).flatten=bH rows.flatten (i*sz+off) new
 |[],i,_,_,_,h,_=>by simp at h
 |r::rs,0,off,new,hl,_,hf=>by
  have hr:r.length=sz:=hl r (by simp);simp only[List.getD_cons_zero,Zce,Zbe,bH,Zcn,ZaY];rw[List.take_append_of_le_length (by omega),List.drop_append_of_le_length (by omega)];simp
 |r::rs,i+1,off,new,hl,h,hf=>by
  have hr:r.length=sz:=hl r (by simp);have ih:=ye rs i off new (λx hx=>hl x (by simp[hx])) (by simpa using h) hf;simp only[List.getD_cons_succ,Zcz,Zbe];rw[show∀(a b:List T),bH (a++b) ((i+1)*sz+off) new=(a++b).take ((i+1)*sz+off)++new++(a++b).drop ((i+1)*sz+off+new.length)from λ_ _=>rfl];have e:(i+1)*sz+off=r.length+(i*sz+off):=by rw[Nat.add_mul,hr];omega
  rw[e,ZcI,List.drop_append];have e1:r.length+(i*sz+off)-r.length=i*sz+off:=by omega
  have e2:r.length+(i*sz+off)+new.length-r.length=i*sz+off+new.length:=by omega
  rw[e1,e2,Za3 (l:=r) (by omega),Zby (as:=r) (by omega)];simp only[ZaK,List.append_assoc];rw[ih];simp only[bH,List.append_assoc]
theorem Eb{objs2:aT}{d:DV}{v:Value}(hp:qI d)(h:av w W objs L d v):aS w (WW W objs L) (qi objs2 d) v:=by
 cases d with
 |v t=>simpa [qi,av]using h
 |aH=>
  simp only[av]at h;obtain⟨a,rfl⟩:=h;simp only[qi,aS];exact .inl ⟨trivial,a,0,rfl⟩
 |_=>exact hp.elim
theorem lW{objs2:aT}:∀{ds:List DV} {vs:List Value},gK ds->aJ w W objs L ds vs->aO w (WW W objs L) (gQ objs2 ds) vs
 |[],vs,_,h=>by simpa [aJ,aO,gQ]using h
 |d::ds,vs,hp,h=>by
  simp only[gK]at hp;simp only[aJ]at h;obtain⟨v,hY,rfl,h1,h2,hr⟩:=h;simp only[gQ,aO];exact⟨v,hY,rfl,h1,Eb hp.1 h2,lW hp.2 hr⟩
theorem qO:∀{ds:List DV},gK ds->du ds
 |[],_=>trivial
 |d::ds,h=>by
  simp only[gK]at h;simp only[du];refine⟨?_,qO h.2⟩;have:=h.1;cases d<;>simp_all [qI,jg]
theorem qP:∀(ds:List DV),(gQ objs ds).length=ds.length
 |[]=>rfl
 |_::ds=>by simp[gQ,qP ds]
theorem N0{P:Program}{base:Nat}{M:Nat->Prop}{w0:World}(hO:bK base W M w0 objs w L){t:TypeId}{i:TypeInfo}(hi:P.info? t=some i)
  {r off ver e sz:Nat} {rows:List (List T)} {j:Int} {g:Nat} (hc:objs r=some (.arr ver e sz rows)) (hg:aN (L.sl r)=some g) (h0:0<=j) (h1:j<rows.length)
  {y:DV} {yv:Value} (hy:av w W objs L y yv) (hn:(cellsOf y).length=i.size) (qN:off+i.size<=sz) (zn:gK (cellsOf y)):
  ∃w',(Instr.storeAt t (.pointer (some ⟨g,j.toNat*sz+off,none⟩)) yv).run P w=.ok () w'/\
   bK base W M w0 (bR objs (some (r,.arr ver e sz (rows.set j.toNat (bH (rowAt rows j) off (gQ objs (cellsOf y))))))) w' L/\
   iZ W objs L w (bR objs (some (r,.arr ver e sz (rows.set j.toNat (bH (rowAt rows j) off (gQ objs (cellsOf y))))))) L w':=by
 have fG:=hO.ob r _ hc;obtain⟨gE,cS,hm,ko⟩:=fG;rcases ko with⟨rfl,_⟩|⟨g',cap,cur,hv,hp,hh,hle,pd,Ec,eJ⟩
 ·simp at h1;omega
 ·rw[hv]at hg;simp only[aN,if_neg (Zay.1 hp),Zaa]at hg;subst hg;have og:=nL hy (qO zn);have tf:yv.cells.size=i.size:=by have:=aJ.length og;simpa [hn]using this
  have hj:j.toNat<rows.length:=by omega
  have hjs:j.toNat*sz+sz<=rows.length*sz:=by
   have:=ZaM sz (show j.toNat+1<=rows.length by omega)
   rwa [Nat.add_mul,Nat.one_mul]at this
  have mE:rows.length*sz<=cap*sz:=ZaM sz hle;have WZ:(gQ objs (cellsOf y)).length=i.size:=by rw[qP];exact hn
  have wu:yv.cells.toList.length=i.size:=by simpa using tf
  have eX:L.own r (.arr ver e sz rows)=some g':=by simp[Loc.own,hv,aN,Zay.1 hp]
  refine⟨_,CQ hi hh tf (by omega) (aJ.one og), ?_⟩;refine bK.put hO (wN _ hO.fr (hm g' (by simp[hv,aN,Zay.1 hp]))) (by simp) (λ_ _=>⟨rfl,rfl⟩) rfl (λb _ hb=>setRow_other w _ b _ (λx=>hb _ hc (by rw[eX,x])))
   (λb hb=>.inl ⟨_,hc,hb⟩) (λo' gf hk=>by rw[hc]at gf;cases gf;exact absurd rfl hk) (λver' e' ga di h=>?_) (λdZ=>?_)
  ·rw[hc]at h;cases h;exact⟨ver,e,sz,_,rfl,Zae _,λ_=>⟨rfl,rfl,by simp⟩⟩
  ·refine⟨gE,λx hx=>?_,hm,.inr ⟨g',cap,_,by simpa using hv,hp,setRow_heap w _ cur _ e _ hh,by simpa using hle,pd, ?_, ?_⟩⟩
   ·rcases Za0 hx with hx|rfl
    ·exact cS x hx
    ·rw[fA]
     ·exact cS _ (by rw[rowAt,List.getD,Zan hj];simp)
     ·have:(rowAt rows j).length=sz:=cS _ (by rw[rowAt,List.getD,Zan hj];simp);omega
   ·have:=fA (l:=cur.toList) (new:=yv.cells.toList) (off:=j.toNat*sz+off) (by simp only[ZaU]at wu⊢;omega);simpa using this.trans (by simpa using Ec)
   ·rw[show rowAt rows j=rows.getD j.toNat []from rfl,ye rows j.toNat off _ cS hj (by omega)];simp only[ZcN];have e1:(bH cur.toList (j.toNat*sz+off) yv.cells.toList).toArray.toList.take (rows.length*sz)=bH (cur.toList.take (rows.length*sz)) (j.toNat*sz+off) yv.cells.toList:=by
     rw[List.toList_toArray];exact yd (by omega) (by simp;omega)
    rw[e1];exact aO.bH _ (aO.aC dZ.keeps.toKeepsC dZ.sub _ _ eJ) (aO.aC dZ.keeps.toKeepsC dZ.sub _ _ (lW zn og))
def Loc.fB(L:Loc)(r b:Nat):Loc:=⟨λx=>if x=r then b else L.gY x,L.sl,L.yl⟩
def Loc.gG(L:Loc)(r:Nat)(v:Value):Loc:=⟨L.gY,λx=>if x=r then v else L.sl x,L.yl⟩
theorem uQ{base:Nat}{M:Nat->Prop}{w0 w':World}(h:Fr base M w0 w)(hb:tG w.heap.size w w'):Fr base M w0 w':=by
 have hle:base<=w.heap.size:=ZaC h.ib h.size;exact h.trans ⟨hb.os,hb.tape,hb.output,hle,hb.size,λk hk _=>hb.block k (by omega),hb.drawn⟩
theorem jz(o:Obj):tG w.heap.size w (w.alloc o):=⟨(Below.refl _ _).alloc (Zae _) _,Zae _⟩
theorem Ed{base:Nat}{M:Nat->Prop}{w0:World}(hO:bK base W M w0 objs w L){r:Nat}(hr:objs r=none){cs:List DV}{c:Array Value}(e:TypeId)(hc:aJ w W objs L cs c.toList):
  bK base W M w0 (bR objs (some (r,.box cs))) (w.alloc (.cells c e)) (L.fB r w.heap.size)/\
   iZ W objs L w (bR objs (some (r,.box cs))) (L.fB r w.heap.size) (w.alloc (.cells c e)):=by
 have hb:=jz (w:=w) (.cells c e);refine bK.put hO (uQ hO.fr hb) hb.size (λx hx=>⟨by simp[Loc.fB,hx],rfl⟩) rfl (λb cW _=>hb.block b cW) (λb h=>.inr ?_)
  (λo' h _=>by rw[hr]at h;cases h) (λ_ _ _ _ h=>by rw[hr]at h;cases h) (λdZ=>?_)
 ·simp only[Loc.own,Loc.fB,if_true,Zaa]at h;omega
 ·refine⟨c,e, ?_,aJ.dZ dZ _ _ hc,.inl ?_⟩
  ·simp only[Loc.fB,if_true];exact heap_alloc_new w _
  ·simp only[Loc.fB,if_true];exact ZaC hO.fr.ib hO.fr.size
theorem qQ{base:Nat}{M:Nat->Prop}{w0:World}(hO:bK base W M w0 objs w L){r ver e sz lo n:Nat}{rows:List (List T)}{xv:Value}(hc:objs r=some (.arr ver e sz rows))
  (hx:lo+n<=rows.length/\∃p cap p2,L.sl r=.slice p rows.length cap/\xv=.slice p2 n (cap-lo)/\(lo<cap->p2=p.map (·.add (lo*sz)))):
  (n=0/\∃(a:Option Addr) (c:Nat),xv=.slice a 0 c)\/∃g c,aN (L.sl r)=some g/\xv=.slice (some ⟨g,lo*sz,none⟩) n c/\n<=c/\aY w (WW W objs L) sz g (lo*sz) ((rows.drop lo).take n):=by
 obtain⟨Qc,p,cap,p2,sV,rfl,Mn⟩:=hx;by_cases hn:n=0
 ·subst hn;exact .inl ⟨rfl,p2,_,rfl⟩
 ·have fG:=hO.ob r _ hc;obtain⟨_,cS,hm,ko⟩:=fG;rcases ko with⟨rfl,a,ha⟩|⟨g,cap',cur,h1,h2,h3,h4,h5,h6,h7⟩
  ·simp at Qc;omega
  ·have uD:aN (L.sl r)=some g:=by rw[h1];simp[aN,Zay.1 h2]
   have tK:=ng.rows (hO.ob r _ hc) uD;rw[sV]at h1;simp only[Value.slice.injEq]at h1;obtain⟨rfl,_,rfl⟩:=h1;have:=Mn (by omega);subst this;refine .inr ⟨g,cap-lo,uD,by simp[kZ],by omega,aY.zk _ _ λj x hj=>?_⟩;rw[ZaF]at hj;split at hj
   ·rw[Zbb]at hj;have:=aY.row tK hj;rw[ZaY,Nat.add_mul]at this;exact this
   ·cases hj
structure Qd(w:World)(W':Nat->Prop)(ys:List (List T))(sz:Nat)(v:Value):Prop where
 it:(ys=[]/\∃(a:Option Addr) (c:Nat),v=.slice a 0 c)\/∃b o c,v=.slice (some ⟨b,o,none⟩) ys.length c/\aY w W' sz b o ys
theorem oC{base:Nat}{M:Nat->Prop}{w0:World}(hO:bK base W M w0 objs w L){y:DV}{yv:Value}{ys:List (List T)}{sz:Nat}(hy:av w W objs L y yv)(hs:dX objs y=some ys)(hl:∀r∈ys,r.length=sz):
  Qd w (WW W objs L) ys sz yv:=by
 cases y with
 |v t=>
  cases t with
  |sl rows=>
   simp only[dX,Zaa]at hs;subst hs;simp only[av,aS]at hy;rcases hy with hy|⟨b,o,cap,ga,rfl,_,_,hc,hr⟩
   ·exact⟨.inl hy⟩
   ·refine⟨.inr ⟨b,o,cap,rfl, ?_⟩⟩
    match rows,hr with
    |[],_=>simp[aY]
    |r::rs,hr=>
     have h1:=(aY.row hr (i:=0) (r:=r) rfl).1;have h2:=hl r (by simp);have:ga=sz:=by omega
     exact this▸hr
  |raw v=>
   unfold dX at hs;split at hs<;>simp_all
   simp only[av,aS]at hy;exact⟨.inl ⟨rfl,_,_,hy⟩⟩
  |_=>simp[dX]at hs
 |aH=>
  simp only[dX,Zaa]at hs;subst hs;simp only[av]at hy;obtain⟨a,rfl⟩:=hy;exact⟨.inl ⟨rfl,a,0,rfl⟩⟩
 |bk r ver=>
  simp only[dX]at hs;simp only[av]at hy;obtain⟨_,ver',e,ga,rows,ho,_,hx⟩:=hy;rw[ho]at hs;simp only at hs;split at hs
  ·rename_i hv;simp only[Zaa]at hs;subst hs;have fG:=hO.ob r _ ho;obtain⟨gE,cS,hm,ko⟩:=fG;rw[hx hv];rcases ko with⟨rfl,a,ha⟩|⟨g',cap,cur,pY,hp,hh,hle,pd,Ec,eJ⟩
   ·exact⟨.inl ⟨rfl,a,0,ha⟩⟩
   ·have tK:=ng.rows (hO.ob r _ ho) (g:=g') (by simp[pY,aN,Zay.1 hp]);refine⟨.inr ⟨g',0,cap,pY, ?_⟩⟩
    match rows,tK,hl,cS with
    |[],_,_,_=>simp[aY]
    |r::rs,hr,hl,cS=>
     have h1:=cS r (by simp);have h2:=hl r (by simp);have:ga=sz:=by omega
     exact this▸hr
  ·cases hs
 |sU r ver lo n=>
  simp only[dX]at hs;simp only[av]at hy;obtain⟨_,ver',e,ga,rows,ho,_,hx⟩:=hy;rw[ho]at hs;simp only at hs;split at hs
  ·rename_i hv;subst hv;simp only[Zaa]at hs;subst hs;have Qc:=(hx rfl).1;have D4:((rows.drop lo).take n).length=n:=by rw[Zaw,Za9];omega
   rcases qQ hO ho (hx rfl)with⟨rfl,a,c,rfl⟩|⟨g,c,_,rfl,_,hr⟩
   ·exact⟨.inl ⟨by simp,a,c,rfl⟩⟩
   ·refine⟨.inr ⟨g,lo*ga,c,by rw[D4], ?_⟩⟩;have cS:=(hO.ob r _ ho).2.1
    match hq:(rows.drop lo).take n,hr,hl with
    |[],_,_=>simp[aY]
    |q::qs,hr,hl=>
     have h1:=cS q (Zbv (Zav (by rw[hq];simp)));have h2:=hl q (by simp);have:ga=sz:=by omega
     exact this▸hr
  ·cases hs
 |_=>simp[dX]at hs
theorem jm{P:Program}(w:World)(t ty e:TypeId)(i:TypeInfo)(ht:P.underlying t=some (.slice e))(hi:P.info? e=some i)(a b:Option Addr)(n cap c:Nat)(hn:n<=cap):
  (Builtin.append_ #[t,t] ty #[.slice a n cap,.slice b 0 c]).run P w=.ok (.slice a n cap) w:=by
 have hf:(Builtin.firstCells i.size 0 (.slice b 0 c)).run P w=.ok #[] w:=by
  cases b<;>simp[Builtin.firstCells,loadCells,loadCellsFrom]
 cases a<;>simp[Builtin.append_,run_underlying ht,sizeOf,typeInfo,hi,Builtin.lenOf,hn,hf,storeCells]
theorem z8{e sz:Nat}{z:Value}(FY:z.cells.size=sz){n m old:Nat}{xs vs:List Value}(hx:xs.length=n*sz)(hv:vs.length=m*sz)(h63:n+m<=maxLen):
  (w.drew.alloc (.cells (xs.toArray++vs.toArray++Builtin.zeroCells z.cells (grownCap w (n+m) old e-(n+m))) e)).ownsRow 0 e sz (.slice (some ⟨w.heap.size,0,none⟩) (n+m) (grownCap w (n+m) old e)) (n+m) (xs++vs)/\
   ∀row,w.grownBy (w.drew.alloc (.cells (xs.toArray++vs.toArray++Builtin.zeroCells z.cells (grownCap w (n+m) old e-(n+m))) e)) row:=by
 have zl:=grownCap_ge w (n+m) old e;have Ee:grownCap w (n+m) old e<=maxLen:=grownCap_le_maxLen w (n+m) old e h63;have hlen:(xs++vs).length=(n+m)*sz:=by rw[ZaA,hx,hv,Nat.add_mul]
 refine⟨⟨hlen,.inr ⟨w.heap.size,_,_,rfl,Zbf _,heap_alloc_new w.drew _,zl,Ee, ?_, ?_⟩⟩,λrow=>⟨rfl,rfl,rfl,by simp,λk hk _=>heap_alloc_old w.drew _ k hk⟩⟩
 ·simp only[Array.size_append,List.size_toArray,size_zeroCells,FY,hx,hv,<-Nat.add_mul]
  congr 1
  omega
 ·simp only[Array.toList_append,List.append_assoc];rw[<-List.append_assoc,<-hlen];exact List.take_left
theorem N1{r:Nat}{o:Ob}(h:objs r=some o):bR objs (some (r,o))=objs:=by
 funext x;simp only[bR];split
 ·rename_i e;rw[e,h]
 ·rfl
theorem Aa{sz:Nat}{rows new:List (List T)}{lo:Nat}(hr:∀r∈rows,r.length=sz)(hn:∀r∈new,r.length=sz)(h:lo+new.length<=rows.length):(bH rows lo new).flatten=bH rows.flatten (lo*sz) new.flatten:=by
 have key:∀(l:List (List T)),(∀r∈l,r.length=sz)->l.flatten.length=l.length*sz:=by
  intro l;induction l with
  |nil=>simp
  |cons r rs ih=>intro h;simp[ih (λx hx=>h x (by simp[hx])),h r (by simp),Nat.add_mul];omega
 have tk:∀(k:Nat),k<=rows.length->(rows.take k).flatten=rows.flatten.take (k*sz)/\(rows.drop k).flatten=rows.flatten.drop (k*sz):=by
  intro k hk;have h8:rows.flatten=(rows.take k).flatten++(rows.drop k).flatten:=by rw[<-List.flatten_append,Zbd]
  have h9:(rows.take k).flatten.length=k*sz:=by rw[key _ (λr h=>hr r (Zav h)),Zaw];congr 1;omega
  rw[h8,Zco h9,List.drop_left' h9];exact⟨rfl,rfl⟩
 unfold bH;rw[List.flatten_append,List.flatten_append,(tk lo (by omega)).1,(tk _ h).2,key new hn,Nat.add_mul]
theorem CR{P:Program}{base:Nat}{M:Nat->Prop}{w0:World}(hO:bK base W M w0 objs w L){t t' ty e0:TypeId}{i:TypeInfo}(ht:P.underlying t=some (.slice e0))(hi:P.info? e0=some i)
  {r ver e lo n:Nat} {rows:List (List T)} (hc:objs r=some (.arr ver e i.size rows)) (Qc:lo+n<=rows.length) {xv yv:Value}
  (jT:(n=0/\∃(a:Option Addr) (c:Nat),xv=.slice a 0 c)\/∃g c,aN (L.sl r)=some g/\xv=.slice (some ⟨g,lo*i.size,none⟩) n c) {ys:List (List T)} (hs:Qd w (WW W objs L) ys i.size yv) (tf:∀r∈ys,r.length=i.size):
  ∃w',(Builtin.copy_ #[t,t'] ty #[xv,yv]).run P w=.ok (goInt (min ys.length n:Nat)) w'/\
   bK base W M w0 (bR objs (some (r,.arr ver e i.size (bH rows lo (ys.take n))))) w' L/\iZ W objs L w (bR objs (some (r,.arr ver e i.size (bH rows lo (ys.take n))))) L w':=by
 have stay:ys.take n=[]->bK base W M w0 (bR objs (some (r,.arr ver e i.size (bH rows lo (ys.take n))))) w L/\iZ W objs L w (bR objs (some (r,.arr ver e i.size (bH rows lo (ys.take n))))) L w:=by
  intro h0;have e1:bH rows lo (ys.take n)=rows:=by rw[h0];simp[bH]
  rw[e1,N1 hc];exact⟨hO,iZ.ch (cd.refl _ _)⟩
 have hlen:∃(p:Option Addr) (c:Nat),yv=.slice p ys.length c:=by
  rcases hs.it with⟨rfl,a,c,rfl⟩|⟨b,o,c,rfl,_⟩
  ·exact⟨a,c,rfl⟩
  ·exact⟨_,c,rfl⟩
 have hf0:∀(v:Value) (p:Option Addr) (m c:Nat),v=.slice p m c->(Builtin.firstCells i.size 0 v).run P w=.ok #[] w:=by
  rintro v p m c rfl;cases p<;>simp[Builtin.firstCells,loadCells,loadCellsFrom]
 obtain⟨yp,yc,hyv⟩:=hlen;rcases jT with⟨rfl,a,c,rfl⟩|⟨g,c,hg,rfl⟩
 ·refine⟨w, ?_,stay (by simp)⟩;have:=hf0 yv yp _ yc hyv;subst hyv;cases a<;>simp[Builtin.copy_,run_underlying ht,Builtin.lenOf,run_sizeOf hi,this,storeCells]
 ·by_cases hm:min ys.length n=0
  ·refine⟨w, ?_,stay ?_⟩
   ·have:=hf0 yv yp _ yc hyv;subst hyv;have Ef:Nat.min ys.length n=0:=hm;simp[Builtin.copy_,run_underlying ht,Builtin.lenOf,run_sizeOf hi,hm,this,storeCells]
   ·by_cases h:ys.length=0
    ·rw[ZaD h];simp
    ·rw[show n=0 by omega];simp
  ·rcases hs.it with⟨rfl,_⟩|⟨b,o,c',hyv2,hr⟩
   ·simp at hm
   ·have fG:=hO.ob r _ hc;obtain⟨gE,cS,Mo,ko⟩:=fG;rcases ko with⟨rfl,_⟩|⟨g',cap,cur,h1,h2,h3,h4,h5,h6,h7⟩
    ·simp at Qc;omega
    ·have uD:aN (L.sl r)=some g':=by rw[h1];simp[aN,Zay.1 h2]
     rw[uD]at hg;cases hg;obtain⟨vs,wu,zo,Qe⟩:=aY.flatten hr;have Eg:min ys.length n*i.size<=vs.length:=by rw[wu];exact ZaM _ (Nat.min_le_left _ _)
     have N2:(ys.take n).length=min ys.length n:=by rw[Zaw,Nat.min_comm]
     have D4:(vs.take (min ys.length n*i.size)).length=min ys.length n*i.size:=by rw[Zaw];omega
     have YI:(Builtin.firstCells i.size (min ys.length n) yv).run P w=.ok (vs.take (min ys.length n*i.size)).toArray w:=by
      rw[hyv2];simp only[Builtin.firstCells];have:=yb (P:=P) (w:=w) (b:=b) (o:=o) (vs:=vs.take (min ys.length n*i.size)) (λj v hj=>Qe j v (by
       rw[ZaF]at hj;split at hj
       ·exact hj
       ·cases hj))
      rw[D4]at this;exact this
     have hfl:(ys.take n).flatten=ys.flatten.take (min ys.length n*i.size):=by
      have h8:ys.flatten=(ys.take n).flatten++(ys.drop n).flatten:=by rw[<-List.flatten_append,Zbd]
      rw[h8,Zco];have key:∀(l:List (List T)),(∀r∈l,r.length=i.size)->l.flatten.length=l.length*i.size:=by
       intro l;induction l with
       |nil=>simp
       |cons r rs ih=>intro h;simp[ih (λx hx=>h x (by simp[hx])),h r (by simp),Nat.add_mul];omega
      rw[key _ (λr h=>tf r (Zav h)),N2]
     have qN:lo*i.size+min ys.length n*i.size<=rows.length*i.size:=by
      rw[<-Nat.add_mul];exact ZaM _ (by omega)
     have hcapr:rows.length*i.size<=cap*i.size:=ZaM _ h4;have PO:aO w (WW W objs L) (ys.take n).flatten (vs.take (min ys.length n*i.size)):=by rw[hfl];exact aO.take _ zo
     have lG:=run_storeCells_at P g (lo*i.size) e (vs.take (min ys.length n*i.size)) 0 cur w h3 (by rw[D4,h6];omega) (aO.one PO);have eX:L.own r (.arr ver e i.size rows)=some g:=uD;refine⟨w.setRow g (bH cur.toList (lo*i.size) (vs.take (min ys.length n*i.size))).toArray, ?_, ?_⟩
     ·have Ef:Nat.min ys.length n=min ys.length n:=rfl;rw[hyv2]at YI⊢;simp only[Builtin.copy_,Builtin.lenOf];simp only[ZbI]at lG;simp[run_underlying ht,run_sizeOf hi,YI,lG,bH]
     ·refine bK.put hO (wN _ hO.fr (Mo g uD)) (by simp) (λ_ _=>⟨rfl,rfl⟩) rfl (λb _ hb=>setRow_other w _ b _ (λx=>hb _ hc (by rw[eX,x])))
       (λb hb=>.inl ⟨_,hc,hb⟩) (λo' gf hk=>by rw[hc]at gf;cases gf;exact absurd rfl hk) (λver' e' ga di h=>?_) (λdZ=>?_)
      ·rw[hc]at h;cases h;exact⟨ver,e,i.size,_,rfl,Zae _,λ_=>⟨rfl,rfl,fA (by rw[N2];omega)⟩⟩
      ·have qj:(bH rows lo (ys.take n)).length=rows.length:=fA (by rw[N2];omega);refine⟨gE,λx hx=>?_,Mo,.inr ⟨g,cap,_,by rw[qj];exact h1,h2,setRow_heap w _ cur _ e _ h3,by rw[qj];exact h4,h5, ?_, ?_⟩⟩
       ·simp only[bH,Zao]at hx;rcases hx with(hx|hx)|hx
        ·exact cS x (Zav hx)
        ·exact tf x (Zav hx)
        ·exact cS x (Zbv hx)
       ·have:=fA (l:=cur.toList) (new:=vs.take (min ys.length n*i.size)) (off:=lo*i.size) (by rw[D4];simp only[ZaU,h6];omega);simpa using this.trans (by simpa using h6)
       ·rw[qj,Aa cS (λx hx=>tf x (Zav hx)) (by rw[N2];omega)];rw[List.toList_toArray,yd (by rw[D4];omega) (by simp only[ZaU,h6];omega)];exact aO.bH _ (aO.aC dZ.keeps.toKeepsC dZ.sub _ _ h7) (aO.aC dZ.keeps.toKeepsC dZ.sub _ _ PO)
theorem mF{P:Program}{t ty e:TypeId}{i:TypeInfo}{z:Value}{sz:Nat}(ht:P.underlying t=some (.slice e))(hi:P.info? e=some i)(hz:i.zero=some z)(tg:i.size=sz)(FY:z.cells.size=sz)
  {W':Nat->Prop} {v:Value} {n:Nat} {xs:List Value} (eX:(n=0/\xs=[]/\∃a:Option Addr,v=.slice a 0 0)\/∃g cap cur,v=.slice (some ⟨g,0,none⟩) n cap/\0<cap/\w.heap[g]? =some (.cells cur e (0,0))/\n<=cap/\cap<=maxLen/\cur.size=cap*sz/\cur.toList.take (n*sz)=xs)
  {ys:List (List T)} {yv:Value} (hs:Qd w W' ys sz yv) (hyw:∀b o,aY w W' sz b o ys->∃vs,vs.length=ys.length*sz/\aO w W' ys.flatten vs/\∀j v,vs[j]? =some v->w.cell? ⟨b,o+j,none⟩=some v) (oD:cH i.bytes (n+ys.length)):
  ∃v' w' vs,(Builtin.append_ #[t,t] ty #[v,yv]).run P w=.ok v' w'/\aO w W' ys.flatten vs/\vs.length=ys.length*sz/\
   ((n+ys.length=0/\∃a:Option Addr,v'=.slice a 0 0)\/∃g cap cur,v'=.slice (some ⟨g,0,none⟩) (n+ys.length) cap/\0<cap/\w'.heap[g]? =some (.cells cur e (0,0))/\n+ys.length<=cap/\cap<=maxLen/\cur.size=cap*sz/\
     cur.toList.take ((n+ys.length)*sz)=xs++vs)/\
   w.grownBy w' (aN v)/\(∀b,aN v'=some b->aN v=some b\/w.heap.size<=b)/\w.drawn<=w'.drawn:=by
 have h63:n+ys.length<=maxLen:=by have:=oD.2;simp only[maxLen];omega
 have h63i:((n+ys.length:Nat):Int)<=9223372036854775807:=by have:=oD.2;omega
 have Mp:w.grownBy w (aN v):=⟨rfl,rfl,rfl,Zae _,λ_ _ _=>rfl⟩;rcases hs.it with⟨rfl,b,c,rfl⟩|⟨b,o,c,rfl,hr⟩
 ·rcases eX with⟨rfl,rfl,a,rfl⟩|⟨g,cap,cur,rfl,hp,hg,h1,h2,h3,h4⟩
  ·exact⟨_,w,[],jm w t ty e i ht hi a b 0 0 c (Zae _),by simp[aO],by simp,.inl ⟨rfl,a,rfl⟩,Mp,λb hb=>.inl hb,Zae _⟩
  ·exact⟨_,w,[],jm w t ty e i ht hi _ b n cap c h1,by simp[aO],by simp,.inr ⟨g,cap,cur,rfl,hp,hg,h1,h2,h3,by simpa using h4⟩,Mp,λb hb=>.inl hb,Zae _⟩
 ·obtain⟨vs,wu,zo,Qe⟩:=hyw b o hr;have hvc':∀j v,vs[j]? =some v->w.cell? ((⟨b,o,none⟩:Addr).add j)=some v:=λj v h=>by rw[kZ];exact Qe j v h
  by_cases hy0:ys.length=0
  ·have:ys=[]:=ZaD hy0;subst this;rcases eX with⟨rfl,rfl,a,rfl⟩|⟨g,cap,cur,rfl,hp,hg,h1,h2,h3,h4⟩
   ·exact⟨_,w,[],jm w t ty e i ht hi a _ 0 0 c (Zae _),by simp[aO],by simp,.inl ⟨rfl,a,rfl⟩,Mp,λb hb=>.inl hb,Zae _⟩
   ·exact⟨_,w,[],jm w t ty e i ht hi _ _ n cap c h1,by simp[aO],by simp,.inr ⟨g,cap,cur,rfl,hp,hg,h1,h2,h3,by simpa using h4⟩,Mp,λb hb=>.inl hb,Zae _⟩
  ·have grow:∀(a:Addr) (old:Nat),old<n+ys.length->xs.length=n*sz->(∀j u,xs[j]? =some u->w.cell? (a.add j)=some u)->
     ∃v' w',(Builtin.append_ #[t,t] ty #[.slice (some a) n old,.slice (some ⟨b,o,none⟩) ys.length c]).run P w=.ok v' w'/\
      (∃g cap cur,v'=.slice (some ⟨g,0,none⟩) (n+ys.length) cap/\0<cap/\w'.heap[g]? =some (.cells cur e (0,0))/\n+ys.length<=cap/\cap<=maxLen/\cur.size=cap*sz/\cur.toList.take ((n+ys.length)*sz)=xs++vs)/\
      (∀row,w.grownBy w' row)/\(∀b,aN v'=some b->w.heap.size<=b)/\w.drawn<=w'.drawn:=by
    intro a old ho sh hxc;have bz:=run_append_grow (P:=P) w t ty e i z ht hi hz a n old xs (by rw[tg];exact sh) hxc ⟨b,o,none⟩ ys.length c vs (by rw[tg];exact wu) hvc' ho h63i (growslice_fits ho oD.1);have yf:=z8 (w:=w) (e:=e) (old:=old) FY sh wu h63;obtain⟨hlen,hor⟩:=yf.1;rcases hor with⟨hn,_⟩|⟨g,cap,cur,hv,_,hg,h1,h2,h3,h4⟩
    ·cases hn
    ·refine⟨_,_,bz,⟨g,cap,cur,hv,by omega,hg,h1,h2,h3,h4⟩,yf.2,λb hb=>?_,ZcQ _⟩;have pd:grownCap w (n+ys.length) old e≠0:=by have:=grownCap_ge w (n+ys.length) old e;omega
     simp only[aN,if_neg pd,Zaa]at hb;omega
   rcases eX with⟨rfl,rfl,a,rfl⟩|⟨g,cap,cur,rfl,hp,hg,h1,h2,h3,h4⟩
   ·cases a with
    |none=>
     have bz:=run_append_nil (P:=P) w t ty e i z ht hi hz ⟨b,o,none⟩ ys.length c vs (by rw[tg];exact wu) hvc' (by omega) (by omega) (by have:=growslice_fits (old:=0) (need:=ys.length) (by omega) (by simpa using oD.1);have h2:=oD.1;simp only[ZaY]at h2;omega);have yf:=z8 (w:=w) (e:=e) (old:=0) (n:=0) (xs:=[]) FY (by simp) wu (by simpa using h63);simp only[ZaY,ZaK,Array.empty_append]at yf⊢;obtain⟨hlen,hor⟩:=yf.1;rcases hor with⟨hn,_⟩|⟨g,cap,cur,hv,_,hg,h1,h2,h3,h4⟩
     ·cases hn
     ·refine⟨_,_,vs,bz,zo,wu,.inr ⟨g,cap,cur,hv,by omega,hg,h1,h2,h3,h4⟩,yf.2 _,λb hb=>.inr ?_,ZcQ _⟩;have pd:grownCap w ys.length 0 e≠0:=by have:=grownCap_ge w ys.length 0 e;omega
      simp only[aN,if_neg pd,Zaa]at hb;omega
    |some a=>
     obtain⟨v',w',bz,pZ,yf,Mq,JC⟩:=grow a 0 (by omega) (by simp) (by simp);exact⟨v',w',vs,bz,zo,wu,.inr pZ,yf _,λb hb=>.inr (Mq b hb),JC⟩
   ·have sh:xs.length=n*sz:=by
     rw[<-h4,Zaw,ZaU,h3];exact ZcO (ZaM sz h1)
    have Qf:cap≠0:=Zay.1 hp;by_cases JD:n+ys.length<=cap
    ·have qN:n*i.size+vs.length<=cur.size:=by rw[wu,h3,tg,<-Nat.add_mul];exact ZaM _ JD
     have bz:=run_append_room (P:=P) w t ty e i ht hi g n cap cur hg ⟨b,o,none⟩ ys.length c vs (by rw[tg];exact wu) hvc' (aO.one zo) JD qN;refine⟨_,_,vs,bz,zo,wu,.inr ⟨g,cap,_,rfl,hp,setRow_heap w g cur _ e _ hg,JD,h2, ?_, ?_⟩,⟨rfl,rfl,rfl,by simp,λk _ hk=>setRow_other w g k _ (λe=>hk (by simp[aN,Qf,e]))⟩,λb hb=>.inl ?_,by simp⟩
     ·simp only[List.size_toArray,ZaA,Zaw,Za9,ZaU];rw[tg]at qN⊢;omega
     ·have hlen:(xs++vs).length=(n+ys.length)*sz:=by rw[ZaA,sh,wu,Nat.add_mul]
      rw[tg,h4,<-hlen];exact List.take_left
     ·simpa [aN,Qf]using hb
    ·obtain⟨v',w',bz,pZ,yf,Mq,JC⟩:=grow ⟨g,0,none⟩ cap (by omega) sh (λj u hu=>by
      rw[kZ,ZaY,cell_of_row w g j cur e (0,0) hg];rw[<-h4,ZaF]at hu;split at hu
      ·simpa using hu
      ·cases hu)
     exact⟨v',w',vs,bz,zo,wu,.inr pZ,yf _,λb hb=>.inr (Mq b hb),JC⟩
theorem qR{sz:Nat}:∀{rows:List (List T)},(∀r∈rows,r.length=sz)->rows.flatten.length=rows.length*sz
 |[],_=>by simp
 |r::rs,h=>by
  have:=qR (rows:=rs) (sz:=sz) λx hx=>h x (by simp[hx]);simp[this,h r (by simp),Nat.add_mul];omega
theorem pe{base:Nat}{M:Nat->Prop}{w0:World}(hO:bK base W M w0 objs w L){r:Nat}{ver ver' e sz:Nat}{rows ys:List (List T)}(gE:0<sz)
  {v v':Value} {w':World} {xs vs:List Value} (PO:∀x∈rows++ys,x.length=sz)
  {rows0:List (List T)} (hold:(objs r=none/\rows=[]/\aN v=none)\/(objs r=some (.arr ver e sz rows0)/\aN (L.sl r)=aN v/\ver<ver'))
  (hxs:aO w (WW W objs L) rows.flatten xs) (hvs:aO w (WW W objs L) ys.flatten vs)
  (qM:(rows.length+ys.length=0/\∃a:Option Addr,v'=.slice a 0 0)\/∃g cap cur,v'=.slice (some ⟨g,0,none⟩) (rows.length+ys.length) cap/\0<cap/\w'.heap[g]? =some (.cells cur e (0,0))/\rows.length+ys.length<=cap/\cap<=maxLen/\cur.size=cap*sz/\
     cur.toList.take ((rows.length+ys.length)*sz)=xs++vs)
  (yf:w.grownBy w' (aN v)) (Mq:∀b,aN v'=some b->aN v=some b\/w.heap.size<=b) (JC:w.drawn<=w'.drawn):
  bK base W M w0 (bR objs (some (r,.arr ver' e sz (rows++ys)))) w' (L.gG r v')/\iZ W objs L w (bR objs (some (r,.arr ver' e sz (rows++ys)))) (L.gG r v') w':=by
 have Qg:∀g,aN v=some g->base<=g\/M g:=λg hg=>by
  rcases hold with⟨_,_,h⟩|⟨ho,hv,_⟩
  ·rw[hg]at h;cases h
  ·exact(hO.ob r _ ho).reach (by simpa [Loc.own,hv]using hg)
 have hle:base<=w.heap.size:=ZaC hO.fr.ib hO.fr.size;have wq:Fr base M w0 w':=hO.fr.trans ⟨yf.os,yf.tape,yf.output,hle,yf.size,λk hk hm=>yf.block k (by omega) λx=>by
  rcases Qg k x.symm with h|h
  ·omega
  ·exact hm h,JC⟩
 refine bK.put hO wq yf.size (λx hx=>⟨rfl,by simp[Loc.gG,hx]⟩) rfl (λb cW hb=>yf.block b cW λx=>?_) (λb hb=>?_) (λcs hc hk=>?_) (λnJ e2 CO jS hc=>?_) (λdZ=>?_)
 ·rcases hold with⟨_,_,h⟩|⟨ho,hv,_⟩
  ·rw[h]at x;cases x
  ·exact hb _ ho (by simp[Loc.own,hv,<-x])
 ·simp only[Loc.own,Loc.gG,if_true]at hb;rcases Mq b hb with h|h
  ·rcases hold with⟨_,_,h2⟩|⟨ho,hv,_⟩
   ·rw[h]at h2;cases h2
   ·exact .inl ⟨_,ho,by simp[Loc.own,hv,h]⟩
  ·exact .inr h
 ·rcases hold with⟨h,_⟩|⟨h,_⟩<;>rw[hc]at h<;>cases h
  exact absurd rfl (by assumption)
 ·rcases hold with⟨h,_⟩|⟨h,_,cW⟩
  ·rw[hc]at h;cases h
  ·rw[hc]at h;cases h;exact⟨ver',e,sz,_,rfl,by omega,λx=>by omega⟩
 ·refine⟨gE,PO,λg hg=>?_, ?_⟩
  ·simp only[Loc.gG,if_true]at hg;rcases Mq g hg with h|h
   ·exact Qg g h
   ·exact .inl (ZaC hle h)
  ·simp only[Loc.gG,if_true,ZaA];rcases qM with⟨h0,ha⟩|⟨g,cap,cur,hv,hp,hg,h1,h2,h3,h4⟩
   ·refine .inl ⟨?_,ha⟩;have h1:rows=[]:=ZaD (by omega);have h2:ys=[]:=ZaD (by omega);simp[h1,h2]
   ·refine .inr ⟨g,cap,cur,hv,hp,hg,h1,h2,h3, ?_⟩;rw[h4,List.flatten_append];exact aO.append (aO.aC dZ.keeps.toKeepsC dZ.sub _ _ hxs) (aO.aC dZ.keeps.toKeepsC dZ.sub _ _ hvs)
theorem Eh{P:Program}{base:Nat}{M:Nat->Prop}{w0:World}(hO:bK base W M w0 objs w L){t ty e:TypeId}{i:TypeInfo}{z:Value}(ht:P.underlying t=some (.slice e))(hi:P.info? e=some i)(hz:i.zero=some z)(FY:z.cells.size=i.size)(gE:0<i.size)
  {name:Nat} (dx:objs name=none) {x y:DV} {xv yv:Value} (hx:av w W objs L x xv) (hy:av w W objs L y yv) (aF:(fP e i.size i.bytes name objs x y).ok):
  ∃v w' L',(Builtin.append_ #[t,t] ty #[xv,yv]).run P w=.ok v w'/\bK base W M w0 (bR objs (fP e i.size i.bytes name objs x y).put) w' L'/\
   iZ W objs L w (bR objs (fP e i.size i.bytes name objs x y).put) L' w'/\av w' W (bR objs (fP e i.size i.bytes name objs x y).put) L' (fP e i.size i.bytes name objs x y).val v:=by
 unfold fP at aF⊢;cases hs:dX objs y with
 |none=>simp[hs,bad]at aF
 |some ys=>
  simp only[hs]at aF⊢;have hyw:∀b o,aY w (WW W objs L) i.size b o ys->∃vs,vs.length=ys.length*i.size/\aO w (WW W objs L) ys.flatten vs/\∀j v,vs[j]? =some v->w.cell? ⟨b,o+j,none⟩=some v:=λb o h=>aY.flatten h;cases x with
  |aH=>
   simp only at aF⊢;have gb:=hx;simp only[av]at gb;obtain⟨a,rfl⟩:=gb;obtain⟨v',w',vs,bz,zo,wu,qM,yf,Mq,JC⟩:=mF (n:=0) (xs:=[]) ht hi hz rfl FY (.inl ⟨rfl,rfl,a,rfl⟩) (ty:=ty) (oC hO hy hs aF.1) hyw (by simpa using aF.2);have uD:aN (.slice a 0 0)=none:=by cases a<;>simp[aN]
   have:=pe hO (r:=name) (ver:=0) (ver':=0) (rows0:=[]) (rows:=[]) (ys:=ys) gE (by simpa using aF.1) (.inl ⟨dx,rfl,uD⟩) (xs:=[]) (by simp[aO]) zo (by simpa using qM) yf Mq JC;refine⟨v',w',_,bz,by simpa using this.1,by simpa using this.2, ?_⟩;simp only[av];refine⟨?_,0,e,i.size,ys,by simp[bR],Zae _,λ_=>by simp[Loc.gG]⟩;rcases qM with⟨_,a,rfl⟩|⟨g,cap,cur,rfl,_⟩<;>exact⟨_,_,_,rfl⟩
  |bk r ver=>
   cases ho:objs r with
   |none=>simp[ho,bad]at aF
   |some o=>
    cases o with
    |box cs=>simp[ho,bad]at aF
    |arr ver' e' ga rows=>
     simp only[ho]at aF⊢;obtain⟨rfl,rfl,rfl,hl,oD⟩:=aF;have gb:=hx;simp only[av]at gb;obtain⟨_,nJ,e2,CO,jS,lJ,_,jl⟩:=gb;rw[ho]at lJ;cases lJ;have hv:=jl rfl;have fG:=hO.ob r _ ho;obtain⟨_,cS,hm,ko⟩:=fG;have eX:∃xs,aO w (WW W objs L) rows.flatten xs/\((rows.length=0/\xs=[]/\∃a:Option Addr,xv=.slice a 0 0)\/∃g cap cur,xv=.slice (some ⟨g,0,none⟩) rows.length cap/\0<cap/\w.heap[g]? =some (.cells cur e' (0,0))/\rows.length<=cap/\cap<=maxLen/\cur.size=cap*i.size/\cur.toList.take (rows.length*i.size)=xs):=by
      rcases ko with⟨rfl,a,ha⟩|⟨g,cap,cur,h1,h2,h3,h4,h5,h6,h7⟩
      ·exact⟨[],by simp[aO],.inl ⟨rfl,rfl,a,by rw[hv,ha]⟩⟩
      ·exact⟨_,h7,.inr ⟨g,cap,cur,by rw[hv,h1],h2,h3,h4,h5,h6,rfl⟩⟩
     obtain⟨xs,Cm,eX⟩:=eX;obtain⟨v',w',vs,bz,zo,wu,qM,yf,Mq,JC⟩:=mF ht hi hz rfl FY eX (ty:=ty) (oC hO hy hs hl) hyw oD;have:=pe hO (r:=r) (ver:=ver) (ver':=ver+1) (rows:=rows) (ys:=ys) gE (λx hx=>(Zao.1 hx).elim (cS x) (hl x)) (.inr ⟨ho,by rw[hv],by omega⟩) Cm zo qM yf Mq JC;refine⟨v',w',_,bz,this.1,this.2, ?_⟩;simp only[av];refine⟨?_,ver+1,e',i.size,rows++ys,by simp[bR],Zae _,λ_=>by simp[Loc.gG]⟩;rcases qM with⟨_,a,rfl⟩|⟨g,cap,cur,rfl,_⟩<;>exact⟨_,_,_,rfl⟩
    |_=>simp[ho,bad]at aF
  |sU r ver lo n=>
   cases lo with
   |succ lo=>simp[bad]at aF
   |zero=>
   cases ho:objs r with
   |none=>simp[ho,bad]at aF
   |some o=>
    cases o with
    |arr ver' e' ga rows=>
     simp only[ho]at aF⊢;obtain⟨rfl,rfl,rfl,hl,oD⟩:=aF;have gb:=hx;simp only[av]at gb;obtain⟨_,nJ,e2,CO,jS,lJ,_,jl⟩:=gb;rw[ho]at lJ;cases lJ;obtain⟨Qc,p,Qh,p2,sV,rfl,Mn⟩:=jl rfl;have fG:=hO.ob r _ ho;obtain⟨_,cS,hm,ko⟩:=fG;have D4:(rows.take n).length=n:=by rw[Zaw];omega
     have uD:aN (L.sl r)=aN (.slice p2 n (Qh-0)):=by
      rw[sV];simp only[Zb1];by_cases PQ:Qh=0
      ·subst PQ;cases p<;>cases p2<;>simp[aN]
      ·have:=Mn (by omega);subst this;cases p with
       |none=>simp[aN]
       |some a=>
        obtain⟨b,o,ix⟩:=a;cases ix<;>simp[aN,PQ,Addr.add]
     have eX:∃xs,aO w (WW W objs L) (rows.take n).flatten xs/\((n=0/\xs=[]/\∃a:Option Addr,Value.slice p2 n (Qh-0)=.slice a 0 0)\/∃g cap cur,Value.slice p2 n (Qh-0)=.slice (some ⟨g,0,none⟩) n cap/\0<cap/\w.heap[g]? =some (.cells cur e' (0,0))/\n<=cap/\cap<=maxLen/\cur.size=cap*i.size/\cur.toList.take (n*i.size)=xs):=by
      rcases ko with⟨rfl,a,ha⟩|⟨g,cap,cur,h1,h2,h3,h4,h5,h6,h7⟩
      ·rw[sV]at ha;simp only[Value.slice.injEq]at ha;obtain⟨_,_,rfl⟩:=ha;have:n=0:=by simp at Qc;omega
       subst this;exact⟨[],by simp[aO],.inl ⟨rfl,rfl,p2,rfl⟩⟩
      ·rw[sV]at h1;simp only[Value.slice.injEq]at h1;obtain⟨rfl,_,rfl⟩:=h1;have:=Mn h2;subst this;refine⟨_, ?_,.inr ⟨g,Qh,cur,by simp[kZ],h2,h3,by omega,h5,h6,rfl⟩⟩;have e1:(rows.take n).flatten=rows.flatten.take (n*i.size):=by
        have h8:rows.flatten=(rows.take n).flatten++(rows.drop n).flatten:=by rw[<-List.flatten_append,Zbd]
        rw[h8,Zco (by rw[qR (sz:=i.size) (λr hr=>cS r (Zav hr)),D4])]
       have e2:cur.toList.take (n*i.size)=(cur.toList.take (rows.length*i.size)).take (n*i.size):=by
        rw[Zcw];congr 1;have:=ZaM i.size (show n<=rows.length by omega);omega
       rw[e1,e2];exact aO.take _ h7
     obtain⟨xs,Cm,eX⟩:=eX;obtain⟨v',w',vs,bz,zo,wu,qM,yf,Mq,JC⟩:=mF ht hi hz rfl FY eX (ty:=ty) (oC hO hy hs hl) hyw oD;have:=pe hO (r:=r) (ver:=ver) (ver':=ver+1) (rows:=rows.take n) (ys:=ys) gE (λx hx=>(Zao.1 hx).elim (λh=>cS x (Zav h)) (hl x)) (.inr ⟨ho,uD,by omega⟩) Cm zo (by rw[D4];exact qM) yf Mq JC;refine⟨v',w',_,bz,this.1,this.2, ?_⟩;simp only[av];refine⟨?_,ver+1,e',i.size,rows.take n++ys,by simp[bR],Zae _,λ_=>by simp[Loc.gG]⟩;rcases qM with⟨_,a,rfl⟩|⟨g,cap,cur,rfl,_⟩<;>exact⟨_,_,_,rfl⟩
    |_=>simp[ho,bad]at aF
  |_=>simp[bad]at aF
theorem JE{P:Program}{base:Nat}{M:Nat->Prop}{w0:World}(hO:bK base W M w0 objs w L){t t' ty e0:TypeId}{i:TypeInfo}(ht:P.underlying t=some (.slice e0))(hi:P.info? e0=some i)
  {x y:DV} {xv yv:Value} (hx:av w W objs L x xv) (hy:av w W objs L y yv) (aF:(iD i.size objs x y).ok):
  ∃v w',(Builtin.copy_ #[t,t'] ty #[xv,yv]).run P w=.ok v w'/\bK base W M w0 (bR objs (iD i.size objs x y).put) w' L/\
   iZ W objs L w (bR objs (iD i.size objs x y).put) L w'/\av w' W (bR objs (iD i.size objs x y).put) L (iD i.size objs x y).val v:=by
 unfold iD at aF⊢;cases hs:dX objs y with
 |none=>simp[hs,bad]at aF
 |some ys=>
  simp only[hs]at aF⊢;cases x with
  |bk r ver=>
   cases ho:objs r with
   |none=>simp[ho,bad]at aF
   |some o=>
    cases o with
    |arr ver' e ga rows=>
     simp only[ho]at aF⊢;obtain⟨rfl,rfl,hl⟩:=aF;simp only[av]at hx;obtain⟨_,nJ,e2,CO,jS,lJ,_,jl⟩:=hx;rw[ho]at lJ;cases lJ;have hv:=jl rfl;subst hv;have hd:(rows.length=0/\∃(a:Option Addr) (c:Nat),L.sl r=.slice a 0 c)\/∃g c,aN (L.sl r)=some g/\L.sl r=.slice (some ⟨g,0*i.size,none⟩) rows.length c:=by
      obtain⟨_,_,_,ko⟩:=hO.ob r _ ho;rcases ko with⟨rfl,a,ha⟩|⟨g,cap,cur,h1,h2,_⟩
      ·exact .inl ⟨rfl,a,0,ha⟩
      ·exact .inr ⟨g,cap,by rw[h1];simp[aN,Zay.1 h2],by rw[h1,Zcn]⟩
     obtain⟨w',h1,h2,h3⟩:=CR hO ht hi (t':=t') (ty:=ty) ho (lo:=0) (n:=rows.length) (by omega) hd (oC hO hy hs hl) hl;exact⟨_,w',h1,h2,h3,by simp[av,aS,goInt]⟩
    |_=>simp[ho,bad]at aF
  |sU r ver lo n=>
   cases ho:objs r with
   |none=>simp[ho,bad]at aF
   |some o=>
    cases o with
    |arr ver' e ga rows=>
     simp only[ho]at aF⊢;obtain⟨rfl,rfl,hl⟩:=aF;simp only[av]at hx;obtain⟨_,nJ,e2,CO,jS,lJ,_,jl⟩:=hx;rw[ho]at lJ;cases lJ;have hv:=jl rfl;have hd:(n=0/\∃(a:Option Addr) (c:Nat),xv=.slice a 0 c)\/∃g c,aN (L.sl r)=some g/\xv=.slice (some ⟨g,lo*i.size,none⟩) n c:=by
      rcases qQ hO ho hv with h|⟨g,c,h1,h2,_⟩
      ·exact .inl h
      ·exact .inr ⟨g,c,h1,h2⟩
     obtain⟨w',h1,h2,h3⟩:=CR hO ht hi (t':=t') (ty:=ty) ho hv.1 hd (oC hO hy hs hl) hl;exact⟨_,w',h1,h2,h3,by simp[av,aS,goInt]⟩
    |_=>simp[ho,bad]at aF
  |_=>simp[bad]at aF
theorem ik{α:Type}(l:List α):∀(n j:Nat),j<n*l.length->(List.replicate n l).flatten[j]? =l[j % l.length]?
 |0,j,h=>by simp at h
 |n+1,j,h=>by
  simp only[Za7,Zbe];by_cases hj:j<l.length
  ·rw[Zbk hj,Zcl hj]
  ·rw[Zbi (by omega),ik l n (j-l.length) (by rw[Nat.add_mul]at h;omega)];rw[Nat.mod_eq_sub_mod (a:=j) (by omega)]
theorem uR(z:Array Value)(n:Nat):(madeCells z (n*z.size)).toList=(List.replicate n z.toList).flatten:=by
 apply Zbl;intro j;by_cases hj:j<n*z.size
 ·have hz:0<z.size:=by
   rcases ZcA z.size with h|h
   ·rw[h]at hj;simp at hj
   ·exact h
  rw[ik z.toList n j (by simpa using hj)];have hm:=Nat.mod_lt j hz;simp[madeCells,hj,hm]
 ·rw[ZaS (by simp[size_madeCells];omega),ZaS (by simp;omega)]
theorem qS{zero:List T}{zs:List Value}(h:aO w W zero zs):∀n,aO w W (List.replicate n zero).flatten (List.replicate n zs).flatten
 |0=>by simp[aO]
 |n+1=>by simpa [Za7]using aO.append h (qS h n)
theorem W0{base:Nat}{M:Nat->Prop}{w0:World}(hO:bK base W M w0 objs w L){r:Nat}(hr:objs r=none){e sz:Nat}{rows:List (List T)}(gE:0<sz)(PO:∀x∈rows,x.length=sz){c:Array Value}(mE:c.size=rows.length*sz)
  (hc:aO w (WW W objs L) rows.flatten c.toList) (hmax:rows.length<=maxLen):
  bK base W M w0 (bR objs (some (r,.arr 0 e sz rows))) (w.alloc (.cells c e)) (L.gG r (.slice (some ⟨w.heap.size,0,none⟩) rows.length rows.length))/\
   iZ W objs L w (bR objs (some (r,.arr 0 e sz rows))) (L.gG r (.slice (some ⟨w.heap.size,0,none⟩) rows.length rows.length)) (w.alloc (.cells c e)):=by
 have hb:=jz (w:=w) (.cells c e);refine bK.put hO (uQ hO.fr hb) hb.size (λx hx=>⟨rfl,by simp[Loc.gG,hx]⟩) rfl (λb cW _=>hb.block b cW) (λb h=>.inr ?_)
  (λo' h _=>by rw[hr]at h;cases h) (λ_ _ _ _ h=>by rw[hr]at h;cases h) (λdZ=>?_)
 ·simp only[Loc.own,Loc.gG,if_true,aN]at h;split at h
  ·cases h
  ·simp only[Zaa]at h;omega
 ·refine⟨gE,PO,λg hg=>?_, ?_⟩
  ·simp only[Loc.gG,if_true,aN]at hg;split at hg
   ·cases hg
   ·simp only[Zaa]at hg;subst hg;exact .inl (ZaC hO.fr.ib hO.fr.size)
  ·simp only[Loc.gG,if_true];by_cases h0:rows.length=0
   ·refine .inl ⟨ZaD h0,some ⟨w.heap.size,0,none⟩,by rw[h0]⟩
   ·refine .inr ⟨w.heap.size,rows.length,c,rfl,by omega,heap_alloc_new w _,Zae _,hmax,mE, ?_⟩;rw[Za3 (by simp[mE])];exact aO.aC dZ.keeps.toKeepsC dZ.sub _ _ hc
theorem Ab{P:Program}{base:Nat}{M:Nat->Prop}{w0:World}(hO:bK base W M w0 objs w L){t e:TypeId}{i:TypeInfo}{z:Value}(ht:P.underlying t=some (.slice e))(hi:P.info? e=some i)(hz:i.zero=some z)(gE:0<i.size)
  {zero:List T} (hzero:z.cells.toList.mapM pc=some zero) {name:Nat} (dx:objs name=none) {x:DV} {xv:Value} (hx:av w W objs L x xv) (aF:(jR e i.size i.bytes zero name x).ok):
  ∃v w' L',(Instr.makeSlice t xv xv).run P w=.ok v w'/\bK base W M w0 (bR objs (jR e i.size i.bytes zero name x).put) w' L'/\
   iZ W objs L w (bR objs (jR e i.size i.bytes zero name x).put) L' w'/\av w' W (bR objs (jR e i.size i.bytes zero name x).put) L' (jR e i.size i.bytes zero name x).val v:=by
 cases x with
 |v t'=>
  cases t' with
  |int k n=>
   simp only[av,aS]at hx;subst hx;simp only[jR]at aF⊢;obtain⟨h0,Qi,hb,hm⟩:=aF;have hzz:=pX (w:=w) (W:=WW W objs L) hzero;have FY:z.cells.size=i.size:=by have:=aO.length hzz;simpa [Qi]using this
   have hbi:(i.bytes:Int)*n<=281474976710656:=by
    have e:(i.bytes:Int)*n=((n.toNat*i.bytes:Nat):Int):=by
     rw[Int.natCast_mul,Int.toNat_of_nonneg h0,Int.mul_comm]
    rw[e];omega
   have bz:=run_make (P:=P) w t e i z ht hi hz k k n n h0 (Zcx _) hbi (by omega);have hc:(madeCells z.cells (n.toNat*i.size)).toList=(List.replicate n.toNat z.cells.toList).flatten:=by rw[<-FY];exact uR _ _
   have:=W0 hO (e:=e) dx (rows:=List.replicate n.toNat zero) gE (λx hx=>by rw[ZbG hx];exact Qi) (c:=madeCells z.cells (n.toNat*i.size)) (by simp[size_madeCells]) (by rw[hc];exact qS hzz _) (by simp only[ZbC,maxLen];omega);simp only[ZbC]at this;refine⟨_,_,_,bz,this.1,this.2, ?_⟩;simp only[av];exact⟨⟨_,_,_,rfl⟩,0,e,i.size,List.replicate n.toNat zero,by simp[bR],Zae _,λ_=>by simp[Loc.gG]⟩
  |_=>simp[jR,bad]at aF
 |_=>simp[jR,bad]at aF
theorem JF{ts:List T}:∀{zs:List Value},zs.mapM pc=some ts->aJ w W objs L (ts.map CM) zs:=by
 induction ts with
 |nil=>
  intro zs h;cases zs with
  |nil=>simp[aJ]
  |cons z zs=>simp[Za2,Zac]at h
 |cons t ts ih=>
  intro zs h;cases zs with
  |nil=>simp at h
  |cons z zs=>
   simp only[Za2,Zaj,Zaf,Zac,Zaa,Za6]at h;obtain⟨t',ht,ts',Qj,rfl,rfl⟩:=h;simp only[Zau,aJ];have hr:=zZ (w:=w) (W:=WW W objs L) ht;refine⟨z,zs,rfl,hr.2.1, ?_,ih Qj⟩;unfold CM;split
   ·unfold pc at ht;split at ht<;>first|(cases ht;done)|skip
    all_goals first
     |(simp only[av];exact⟨_,rfl⟩)
     |(cases ht)
   ·simp only[av];exact hr.1
theorem p0{zero:List DV}{zs:List Value}(h:aJ w W objs L zero zs):∀n,aJ w W objs L (List.replicate n zero).flatten (List.replicate n zs).flatten
 |0=>by simp[aJ]
 |n+1=>by simpa [Za7]using aJ.append h (p0 h n)
theorem yg{P:Program}{base:Nat}{M:Nat->Prop}{w0:World}(hO:bK base W M w0 objs w L){t e:TypeId}{i:TypeInfo}{z:Value}(ht:P.underlying t=some (.slice e))(hi:P.info? e=some i)(hz:i.zero=some z)
  {zero:List T} (hzero:z.cells.toList.mapM pc=some zero) {name:Nat} (dx:objs name=none) {x:DV} {xv:Value} (hx:av w W objs L x xv) (aF:(eH i.size i.bytes zero name x).ok):
  ∃v w' L',(Instr.makeSlice t xv xv).run P w=.ok v w'/\bK base W M w0 (bR objs (eH i.size i.bytes zero name x).put) w' L'/\
   iZ W objs L w (bR objs (eH i.size i.bytes zero name x).put) L' w'/\av w' W (bR objs (eH i.size i.bytes zero name x).put) L' (eH i.size i.bytes zero name x).val v:=by
 cases x with
 |v t'=>
  cases t' with
  |int k n=>
   simp only[av,aS]at hx;subst hx;simp only[eH]at aF⊢;obtain⟨h0,Qi,hb,hm⟩:=aF;have hzz:=JF (w:=w) (W:=W) (objs:=objs) (L:=L) hzero;have FY:z.cells.size=i.size:=by have:=aJ.length hzz;simpa [Qi]using this
   have hbi:(i.bytes:Int)*n<=281474976710656:=by
    have e:(i.bytes:Int)*n=((n.toNat*i.bytes:Nat):Int):=by
     rw[Int.natCast_mul,Int.toNat_of_nonneg h0,Int.mul_comm]
    rw[e];omega
   have bz:=run_make (P:=P) w t e i z ht hi hz k k n n h0 (Zcx _) hbi (by omega);have hc:(madeCells z.cells (n.toNat*i.size)).toList=(List.replicate n.toNat z.cells.toList).flatten:=by rw[<-FY];exact uR _ _
   have:=Ed hO dx (c:=madeCells z.cells (n.toNat*i.size)) e (cs:=(List.replicate n.toNat (zero.map CM)).flatten) (by rw[hc];exact p0 hzz _);refine⟨_,_,_,bz,this.1,this.2, ?_⟩;simp only[av];exact⟨⟨(List.replicate n.toNat (zero.map CM)).flatten,by simp[bR]⟩,by simp[Loc.fB]⟩
  |_=>simp[eH,bad]at aF
 |_=>simp[eH,bad]at aF
end
end Go.DM
namespace Go.DM
open Go.RowKit
variable [Laid]
def gh(P:Program)(rec:TypeId->Option (List Sh))(off:Nat):List Field->Option (List Sh)
 |[]=>some []
 |f::fs=>
  match rec f.type,P.info? f.type with
  |some s,some i=>if f.name≠ "_" /\f.offset=off/\s.length=i.size then(gh P rec (off+s.length) fs).map (s++·)else none
  |_,_=>none
def jK(P:Program):Nat->TypeId->Option (List Sh)
 |0,_=>none
 |d+1,t=>
  match P.underlying t with
  |some .bool=>some [.bool]
  |some (.int k)=>some [.int k]
  |some .string=>some [.str]
  |some (.struct fs)=>if P.stoodInHeld t then none else gh P (jK P d) 0 fs.toList
  |some (.array n e)=>
   match jK P d e,P.info? e with
   |some s,some i=>if s.length=i.size/\0<i.size then some ((List.replicate n s).flatten)else none
   |_,_=>none
  |_=>none
def fit:Sh->Value->Bool
 |.bool,.bool _=>true
 |.int k,.int k' _=>k==k'
 |.str,.string _=>true
 |_,_=>false
def fits:List Sh->List Value->Prop
 |[],vs=>vs=[]
 |s::ss,vs=>∃v hY,vs=v::hY/\fit s v=true/\fits ss hY
def YJ:Value->Value->Bool
 |.bool a,.bool b=>a==b
 |.int _ a,.int _ b=>a==b
 |.string a,.string b=>a.toList==b.toList
 |_,_=>false
def kJ:List Value->List Value->Bool
 |[],[]=>true
 |a::as,b::bs=>YJ a b&&kJ as bs
 |_,_=>false
theorem fits.length:∀{ss:List Sh} {vs:List Value},fits ss vs->vs.length=ss.length
 |[],_,h=>by simp only[fits]at h;simp[h]
 |_::ss,_,h=>by
  simp only[fits]at h;obtain⟨v,hY,rfl,_,h⟩:=h;simp[fits.length h]
theorem fits.split:∀{s1 s2:List Sh} {vs:List Value},fits (s1++s2) vs->fits s1 (vs.take s1.length)/\fits s2 (vs.drop s1.length)
 |[],s2,vs,h=>by simpa [fits]using h
 |s::s1,s2,vs,h=>by
  simp only[ZaH,fits]at h;obtain⟨v,hY,rfl,h1,h⟩:=h;have:=fits.split h;simp only[Zba,ZbY,List.drop_succ_cons,fits];exact⟨⟨v,_,rfl,h1,this.1⟩,this.2⟩
theorem qT:∀{a b c d:List Value},a.length=c.length->kJ (a++b) (c++d)=(kJ a c&&kJ b d)
 |[],b,[],d,_=>by simp[kJ]
 |x::a,b,[],d,h=>by simp at h
 |[],b,y::c,d,h=>by simp at h
 |x::a,b,y::c,d,h=>by
  simp only[ZaH,kJ];rw[qT (by simpa using h),Bool.and_assoc]
def wv(d:TypeDesc)(vs:List Value):Value:=if bA d then .agg vs.toArray else vs.getD 0 Go.undef
section
variable{P:Program}
theorem ll(w:World){t:TypeId}{d:TypeDesc}{i:TypeInfo}(hd:P.underlying t=some d)(hi:P.info? t=some i){xs:List Value}{off:Nat}(h1:bA d=true\/i.size=1)(hl:off+i.size<=xs.length):
  (part t xs.toArray off).run P w=.ok (wv d ((xs.drop off).take i.size)) w:=by
 have Mr:(isAgg t).run P w=.ok (bA d) w:=by rw[CP hd];cases d<;>rfl
 simp only[part,Sem.run_bind,Mr,Result.andThen_ok];by_cases ha:bA d=true
 ·simp only[ha,if_true,Sem.run_bind,run_sizeOf hi,Result.andThen_ok,Sem.run_pure,wv]
  congr 3
  simp only[List.extract_toArray,List.extract_eq_take_drop]
  congr 2
  omega
 ·have h2:=h1.resolve_left ha;have cW:off<xs.length:=by omega
  simp only[ha,wv,h2];simp[cW]
theorem zp{d:Nat}{t:TypeId}{shs:List Sh}(h:jK P (d+1) t=some shs):∃desc,P.underlying t=some desc/\(bA desc=true\/shs.length=1):=by
 simp only[jK]at h;split at h
 ·rename_i hu;exact⟨_,hu,.inr (by simp at h;simp[<-h])⟩
 ·rename_i hu;exact⟨_,hu,.inr (by simp at h;simp[<-h])⟩
 ·rename_i hu;exact⟨_,hu,.inr (by simp at h;simp[<-h])⟩
 ·rename_i hu;exact⟨_,hu,.inl rfl⟩
 ·rename_i hu;exact⟨_,hu,.inl rfl⟩
 ·cases h
theorem Qk{d:Nat}{e:TypeId}{de:TypeDesc}{s:List Sh}{i:TypeInfo}(hd:P.underlying e=some de)(hi:P.info? e=some i)(h1:bA de=true\/i.size=1)(hs:s.length=i.size)(N3:0<i.size)
  (ih:∀(xs ys:List Value) (w:World),fits s xs->fits s ys->(Op.equalIn d e (wv de xs) (wv de ys)).run P w=.ok (kJ xs ys) w) (xs ys:List Value):
  ∀(n k:Nat) (w:World),fits ((List.replicate n s).flatten) (xs.drop (k*i.size))->fits ((List.replicate n s).flatten) (ys.drop (k*i.size))->
   (forIn (List.range' k n) (none,()) (λj (_:Option Bool×Unit)=>do
     let a<-part e xs.toArray (j*i.size)
     let b<-part e ys.toArray (j*i.size)
     let r<-Op.equalIn d e a b
     if(!r)=true then pure (ForInStep.done (some false,()))else pure (ForInStep.yield (none,()))):Sem (Option Bool×Unit)).run P w=
    .ok (if kJ (xs.drop (k*i.size)) (ys.drop (k*i.size))then(none,())else(some false,())) w
 |0,k,w,hx,hy=>by
  simp only[List.replicate_zero,List.flatten_nil,fits]at hx hy;simp[hx,hy,kJ]
 |n+1,k,w,hx,hy=>by
  simp only[Za7,Zbe]at hx hy;have sh:=fits.length hx;have tf:=fits.length hy;simp only[ZaA,Za9]at sh tf;obtain⟨FZ,qU⟩:=fits.split hx;obtain⟨jU,fl⟩:=fits.split hy;have e2:k*i.size+s.length=(k+1)*i.size:=by rw[Nat.add_mul,hs];omega
  rw[List.drop_drop,e2]at qU fl;have uS:0<i.size:=N3;have p1:=λw=>ll (P:=P) w hd hi (xs:=xs) (off:=k*i.size) h1 (by omega);have p2:=λw=>ll (P:=P) w hd hi (xs:=ys) (off:=k*i.size) h1 (by omega);rw[hs]at FZ jU;have hr:=ih _ _ w FZ jU;have JG:kJ (xs.drop (k*i.size)) (ys.drop (k*i.size))=(kJ ((xs.drop (k*i.size)).take i.size) ((ys.drop (k*i.size)).take i.size)&&kJ (xs.drop ((k+1)*i.size)) (ys.drop ((k+1)*i.size))):=by
   have a1:xs.drop (k*i.size)=(xs.drop (k*i.size)).take i.size++xs.drop ((k+1)*i.size):=by
    rw[<-e2,hs,<-List.drop_drop,Zbd]
   have a2:ys.drop (k*i.size)=(ys.drop (k*i.size)).take i.size++ys.drop ((k+1)*i.size):=by
    rw[<-e2,hs,<-List.drop_drop,Zbd]
   rw[a1,a2,qT (by simp;omega)];rw[<-a1,<-a2]
  simp only[ZcJ,Zcp,Sem.run_bind,p1,p2,Result.andThen_ok,hr];rw[JG];cases hb:kJ ((xs.drop (k*i.size)).take i.size) ((ys.drop (k*i.size)).take i.size)
  ·simp
  ·have:=Qk hd hi h1 hs N3 ih xs ys n (k+1) w qU fl;simp only[Zcj,ZaT,if_false,Sem.run_pure,Result.andThen_ok,Zck];exact this
theorem CS{d:Nat}(ih:∀(t:TypeId) (shs:List Sh) (desc:TypeDesc),jK P d t=some shs->P.underlying t=some desc->∀(xs ys:List Value) (w:World),fits shs xs->fits shs ys->(Op.equalIn d t (wv desc xs) (wv desc ys)).run P w=.ok (kJ xs ys) w)
  (Gl:∀(t:TypeId) (shs:List Sh),jK P d t=some shs->∃desc,P.underlying t=some desc/\(bA desc=true\/shs.length=1)) (xs ys:List Value):
  ∀(fs:List Field) (off:Nat) (shs:List Sh) (w:World),gh P (jK P d) off fs=some shs->fits shs (xs.drop off)->fits shs (ys.drop off)->off<=xs.length->off<=ys.length->
   (Op.eqFields d xs.toArray ys.toArray fs).run P w=.ok (kJ (xs.drop off) (ys.drop off)) w
 |[],off,shs,w,h,hx,hy,_,_=>by
  simp only[gh,Zaa]at h;subst h;simp only[fits]at hx hy;simp[Op.eqFields,hx,hy,kJ]
 |f::fs,off,shs,w,h,hx,hy,hox,hoy=>by
  simp only[gh]at h;split at h
  ·rename_i s i hs hi;split at h
   ·rename_i hc;obtain⟨hn,rfl,gE⟩:=hc;simp only[Zab]at h;obtain⟨rest,th,rfl⟩:=h;obtain⟨desc,hd,h1⟩:=Gl _ _ hs;have sh:=fits.length hx;have tf:=fits.length hy;simp only[ZaA,Za9]at sh tf;obtain⟨FZ,qU⟩:=fits.split hx;obtain⟨jU,fl⟩:=fits.split hy;rw[List.drop_drop]at qU fl;rw[gE]at h1;have p1:=λw=>ll (P:=P) w hd hi (xs:=xs) (off:=f.offset) h1 (by omega);have p2:=λw=>ll (P:=P) w hd hi (xs:=ys) (off:=f.offset) h1 (by omega);have hr:=ih _ _ _ hs hd _ _ w FZ jU;rw[gE]at hr;have JG:kJ (xs.drop f.offset) (ys.drop f.offset)=(kJ ((xs.drop f.offset).take i.size) ((ys.drop f.offset).take i.size)&&kJ (xs.drop (f.offset+s.length)) (ys.drop (f.offset+s.length))):=by
     have a1:xs.drop f.offset=(xs.drop f.offset).take i.size++xs.drop (f.offset+s.length):=by rw[gE,<-List.drop_drop,Zbd]
     have a2:ys.drop f.offset=(ys.drop f.offset).take i.size++ys.drop (f.offset+s.length):=by rw[gE,<-List.drop_drop,Zbd]
     rw[a1,a2,qT (by simp;omega)];rw[<-a1,<-a2]
    simp only[Op.eqFields,hn,ne_eq,not_false_eq_true,if_true,Sem.run_bind,p1,p2,Result.andThen_ok,hr];rw[JG];cases hb:kJ ((xs.drop f.offset).take i.size) ((ys.drop f.offset).take i.size)
    ·simp
    ·simp only[Zcj,ZaT,if_false,Zck];exact CS ih Gl xs ys fs _ rest w th qU fl (by omega) (by omega)
   ·cases h
  ·cases h
theorem pf:∀(d:Nat) (t:TypeId) (shs:List Sh) (desc:TypeDesc),jK P d t=some shs->P.underlying t=some desc->∀(xs ys:List Value) (w:World),fits shs xs->fits shs ys->
  (Op.equalIn d t (wv desc xs) (wv desc ys)).run P w=.ok (kJ xs ys) w
 |0,t,shs,desc,h,_,_,_,_,_,_=>by simp[jK]at h
 |d+1,t,shs,desc,h,hu,xs,ys,w,hx,hy=>by
  simp only[jK,hu]at h;have one:∀{s:Sh} {zs:List Value},fits [s] zs->∃v,zs=[v]/\fit s v=true:=by
   intro s zs hz;simp only[fits]at hz;obtain⟨v,hY,rfl,h1,rfl⟩:=hz;exact⟨v,rfl,h1⟩
  cases desc;case bool=>
   simp only[Zaa]at h;subst h;obtain⟨x,rfl,gx⟩:=one hx;obtain⟨y,rfl,gy⟩:=one hy;cases x<;>first|exact absurd gx Zaz|skip
   cases y<;>first|exact absurd gy Zaz|skip
   simp[wv,bA,kJ,YJ,Op.equalIn,run_underlying hu]
  case int k=>
   simp only[Zaa]at h;subst h;obtain⟨x,rfl,gx⟩:=one hx;obtain⟨y,rfl,gy⟩:=one hy;cases x<;>first|exact absurd gx Zaz|skip
   simp only[fit,beq_iff_eq]at gx;cases y<;>first|exact absurd gy Zaz|skip
   simp only[fit,beq_iff_eq]at gy;subst gx gy;simp[wv,bA,kJ,YJ,Op.equalIn,run_underlying hu]
  case string=>
   simp only[Zaa]at h;subst h;obtain⟨x,rfl,gx⟩:=one hx;obtain⟨y,rfl,gy⟩:=one hy;cases x<;>first|exact absurd gx Zaz|skip
   cases y<;>first|exact absurd gy Zaz|skip
   simp[wv,bA,kJ,YJ,Op.equalIn,run_underlying hu,beq_toListBytes]
  case struct fs=>
   replace h:(if P.stoodInHeld t then none else gh P (jK P d) 0 fs.toList)=some shs:=h
   split at h
   ·cases h
   ·rename_i hp;have hfo:P.fieldsOf t=fs:=by simp[Program.fieldsOf,hu]
    simp only[wv,bA,if_true];rw[run_equalIn_struct w d t _ _ (by rw[hfo];exact hu) (by simpa using hp),hfo];have:=CS (λt shs desc=>pf d t shs desc) (λt shs hs=>by
     cases d with
     |zero=>simp[jK]at hs
     |succ d=>exact zp hs) xs ys fs.toList 0 shs w h (by simpa using hx) (by simpa using hy) (by omega) (by omega)
    simpa using this
  case array n e=>
   replace h:(match jK P d e,P.info? e with
    |some s,some i=>if s.length=i.size/\0<i.size then some ((List.replicate n s).flatten)else none
    |_,_=>none)=some shs:=h
   split at h
   ·rename_i s i hs hi;split at h
    ·rename_i hc;simp only[Zaa]at h;subst h;have hde:∃desc,P.underlying e=some desc/\(bA desc=true\/s.length=1):=by
      cases d with
      |zero=>simp[jK]at hs
      |succ d=>exact zp hs
     obtain⟨de,hd,h1⟩:=hde;rw[hc.1]at h1;have:=Qk hd hi h1 hc.1 hc.2 (λxs ys w=>pf d e s de hs hd xs ys w) xs ys n 0 w (by simpa using hx) (by simpa using hy);simp only[wv,bA,if_true,Op.equalIn,Sem.run_bind,run_underlying hu,Result.andThen_ok,run_sizeOf hi,Std.Legacy.Range.forIn_eq_forIn_range',Std.Legacy.Range.size,Zb1,Zcd,Nat.div_one];simp only[Zcn,List.drop_zero]at this;refine(congrArg (λr=>Result.andThen r _) this).trans ?_;cases kJ xs ys<;>rfl
    ·cases h
   ·cases h
  all_goals exact absurd h (by simp)
end
end Go.DM
