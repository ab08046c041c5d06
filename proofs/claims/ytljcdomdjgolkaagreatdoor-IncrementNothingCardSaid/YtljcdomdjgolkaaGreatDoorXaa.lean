/- Part of the proof. Conditions: none. -/
import Derived.Below
import Derived.CallsIn
import Derived.Laws.AppendOwn
import Derived.Laws.AppendOwnNone
import Derived.Laws.MakeOwn
import Derived.Laws.World
import Derived.Laws.Cells
import Derived.Laws.Small
import Derived.Laws.Entries
import Derived.Laws.Strings
import Derived.Laws.StructEq
set_option linter.unusedSectionVars false
set_option linter.unusedSimpArgs false
set_option linter.unusedVariables false
namespace Go.DM
abbrev Zaa:=@Option.some.injEq
abbrev Zab:=@Option.map_eq_some_iff
abbrev Zac:=@Option.bind_eq_some_iff
abbrev Zad:=@Int.eq_ofNat_of_zero_le
abbrev Zae:=@Nat.le_refl
abbrev Zaf:=@Option.bind_eq_bind
abbrev Zag:=@List.mem_cons
abbrev Zah:=@List.mem_singleton
abbrev Zai:=@Array.getElem?_eq_some_iff
abbrev Zaj:=@Option.pure_def
abbrev Zak:=@Int.toNat_natCast
abbrev Zal:=@List.mem_map
abbrev Zam:=@Bool.and_eq_true
abbrev Zan:=@List.getElem?_eq_getElem
abbrev Zao:=@List.mem_append
abbrev Zap:=@List.not_mem_nil
abbrev Zaq:=@List.mem_of_getElem?
abbrev Zar:=@Prod.mk.injEq
abbrev Zas:=@List.getElem?_eq_some_iff
abbrev Zat:=@List.foldl_append
abbrev Zau:=@List.map_cons
abbrev Zav:=@List.mem_of_mem_take
abbrev Zaw:=@List.length_take
abbrev Zax:=@Array.getD_eq_getD_getElem?
abbrev Zay:=@Nat.pos_iff_ne_zero
abbrev Zaz:=@Bool.false_ne_true
abbrev ZaA:=@List.length_append
abbrev ZaB:=@List.foldl_cons
abbrev ZaC:=@Nat.le_trans
abbrev ZaD:=@List.eq_nil_of_length_eq_zero
abbrev ZaE:=@List.range_succ
abbrev ZaF:=@List.getElem?_take
abbrev ZaG:=@List.getElem?_cons_zero
abbrev ZaH:=@List.cons_append
abbrev ZaI:=@List.all_eq_true
abbrev ZaJ:=@List.append_nil
abbrev ZaK:=@List.nil_append
abbrev ZaL:=@List.pairwise_cons
abbrev ZaM:=@Nat.mul_le_mul_right
abbrev ZaN:=@List.find?_cons
abbrev ZaO:=@List.mem_filter
abbrev ZaP:=@List.map_append
abbrev ZaQ:=@List.mem_range
abbrev ZaR:=@Nat.lt_of_lt_of_le
abbrev ZaS:=@List.getElem?_eq_none
abbrev ZaT:=@Bool.false_eq_true
abbrev ZaU:=@Array.length_toList
abbrev ZaV:=@List.mem_flatMap
abbrev ZaW:=@List.mem_cons_of_mem
abbrev ZaX:=@List.getElem?_cons_succ
abbrev ZaY:=@Nat.zero_add
abbrev ZaZ:=@List.getElem_of_mem
abbrev Za0:=@List.mem_or_eq_of_mem_set
abbrev Za1:=@Option.map_some
abbrev Za2:=@List.mapM_cons
abbrev Za3:=@List.take_of_length_le
abbrev Za4:=@List.findIdx?_cons
abbrev Za5:=@List.mem_cons_self
abbrev Za6:=@List.cons.injEq
abbrev Za7:=@List.replicate_succ
abbrev Za8:=@List.filter_cons
abbrev Za9:=@List.length_drop
abbrev Zba:=@List.length_cons
abbrev Zbb:=@List.getElem?_drop
abbrev Zbc:=@Option.getD_some
abbrev Zbd:=@List.take_append_drop
abbrev Zbe:=@List.flatten_cons
abbrev Zbf:=@Nat.zero_le
abbrev Zbg:=@List.mem_range'_1
abbrev Zbh:=@List.getElem?_append_right
abbrev Zbi:=@List.getElem_mem
abbrev Zbj:=@List.getElem?_append_left
abbrev Zbk:=@List.ext_getElem?
abbrev Zbl:=@Bool.not_eq_true'
abbrev Zbm:=@List.mem_filterMap
abbrev Zbn:=@List.take_length
abbrev Zbo:=@List.flatMap_cons
abbrev Zbp:=@List.getElem?_map
abbrev Zbq:=@List.map_congr_left
abbrev Zbr:=@List.length_pos_iff
abbrev Zbs:=@Array.getElem?_eq_getElem
abbrev Zbt:=@List.length_map
abbrev Zbu:=@Option.isSome_iff_exists
abbrev Zbv:=@List.mem_of_mem_drop
abbrev Zbw:=@List.take_add_one
abbrev Zbx:=@List.getElem?_set
abbrev Zby:=@List.drop_eq_nil_of_le
abbrev Zbz:=@Nat.lt_or_ge
abbrev ZbA:=@List.findIdx?_eq_some_iff_getElem
abbrev ZbB:=@List.ext_getElem
abbrev ZbC:=@List.length_replicate
abbrev ZbD:=@Array.append_empty
abbrev ZbE:=@List.contains_iff_mem
abbrev ZbF:=@List.getElem?_eq_none_iff
abbrev ZbG:=@List.eq_of_mem_replicate
abbrev ZbH:=@List.getElem?_of_mem
abbrev ZbI:=@Nat.add_zero
abbrev ZbJ:=@List.map_set
abbrev ZbK:=@Option.some.inj
abbrev ZbL:=@Bool.or_eq_true
abbrev ZbM:=@List.nodup_cons
abbrev ZbN:=@List.modify_succ_cons
abbrev ZbO:=@Option.ne_none_iff_exists'
abbrev ZbP:=@List.nodup_append
abbrev ZbQ:=@List.mem_of_find?_eq_some
abbrev ZbR:=@List.replicate_succ'
abbrev ZbS:=@List.drop_eq_getElem_cons
abbrev ZbT:=@List.nodup_nil
abbrev ZbU:=@List.foldl_nil
abbrev ZbV:=@Nat.lt_succ_self
abbrev ZbW:=@Nat.lt_of_not_le
abbrev ZbX:=@List.map_nil
abbrev ZbY:=@List.take_succ_cons
abbrev ZbZ:=@Int.mul_le_mul_of_nonneg_right
abbrev Zb0:=@List.getElem_drop
abbrev Zb1:=@Nat.sub_zero
abbrev Zb2:=@Array.getElem?_setIfInBounds
abbrev Zb3:=@List.modify_zero_cons
abbrev Zb4:=@List.foldl_map
abbrev Zb5:=@List.set_append_right
abbrev Zb6:=@Nat.mul_le_mul
abbrev Zb7:=@List.zipIdx_cons
abbrev Zb8:=@Option.bind_some
abbrev Zb9:=@List.getElem?_append
abbrev Zca:=@List.getElem_set
abbrev Zcb:=@List.any_eq_true
abbrev Zcc:=@List.length_nil
abbrev Zcd:=@Nat.add_sub_cancel
abbrev Zce:=@List.set_cons_zero
abbrev Zcf:=@List.mem_of_mem_eraseIdx
abbrev Zcg:=@Int.natCast_nonneg
abbrev Zch:=@Int.mul_nonneg
abbrev Zci:=@List.pairwise_map
abbrev Zcj:=@Bool.not_true
abbrev Zck:=@Bool.true_and
abbrev Zcl:=@Nat.mod_eq_of_lt
abbrev Zcm:=@List.getElem_map
abbrev Zcn:=@Nat.zero_mul
abbrev Zco:=@List.take_left'
abbrev Zcp:=@List.forIn_cons
abbrev Zcq:=@List.range_eq_range'
abbrev Zcr:=@List.find?_eq_some_iff_getElem
abbrev Zcs:=@Int.mul_le_mul_of_nonneg_left
abbrev Zct:=@Array.toList_modify
abbrev Zcu:=@List.flatMap_append
abbrev Zcv:=@List.filterMap_cons
abbrev Zcw:=@List.take_take
abbrev Zcx:=@Int.le_refl
abbrev Zcy:=@List.find?_eq_none
abbrev Zcz:=@List.set_cons_succ
abbrev ZcA:=@Nat.eq_zero_or_pos
abbrev ZcB:=@List.getElem_range
abbrev ZcC:=@List.all_cons
abbrev ZcD:=@Array.getElem?_append_left
abbrev ZcE:=@List.length_range
abbrev ZcF:=@List.pairwise_iff_getElem
abbrev ZcG:=@Array.mapM_eq_mapM_toList
abbrev ZcH:=@List.findIdx?_eq_none_iff
abbrev ZcI:=@List.take_append
abbrev ZcJ:=@List.range'_succ
abbrev ZcK:=@Bool.not_eq_true
abbrev ZcL:=@List.map_map
abbrev ZcM:=@List.find?_some
abbrev ZcN:=@List.length_set
abbrev ZcO:=@Nat.min_eq_left
abbrev ZcP:=@Nat.le_succ
abbrev ZcQ:=@List.Perm.refl
abbrev ZcR:=@List.modify_id
end Go.DM
namespace Go.DM
inductive T where
 |bool (b:Bool)
 |int (k:IntKind) (n:Int)
 |str (s:ByteArray)
 |sl (rows:List (List T))
 |agg (cs:List T)
 |eF (vs:List T)
 |fn (f:Fn) (caps:List T)
 |box (cs:List T)
 |raw (v:Value)
instance:Inhabited T:=⟨.bool false⟩
section
variable(w:World)(W:Nat->Prop)
mutual
def aR:T->Value->Prop
 |.bool b,v=>v=.bool b
 |.int k n,v=>v=.int k n
 |.str s,v=>v=.string s
 |.sl rows,v=>(rows=[]/\∃(a:Option Addr) (cap:Nat),v=.slice a 0 cap)\/
   ∃b o cap sz,v=.slice (some ⟨b,o,none⟩) rows.length cap/\b<w.heap.size/\¬W b/\rows.length<=cap/\aX sz b o rows
 |.agg cs,v=>∃vs,v=.agg vs/\aP cs vs.toList
 |.eF ts,v=>∃vs,v=.tuple vs/\dw ts vs.toList
 |.fn f caps,v=>∃vs,v=.func f #[] vs/\aP caps vs.toList
 |.box cs,v=>∃b o,v=.pointer (some ⟨b,o,none⟩)/\b<w.heap.size/\¬W b/\cV b o cs
 |.raw x,v=>v=x
def aP:List T->List Value->Prop
 |[],vs=>vs=[]
 |t::ts,vs=>∃v gY,vs=v::gY/\v.oneCell'=true/\aR t v/\aP ts gY
def dw:List T->List Value->Prop
 |[],vs=>vs=[]
 |t::ts,vs=>∃v gY,vs=v::gY/\aR t v/\dw ts gY
def cV:Nat->Nat->List T->Prop
 |_,_,[]=>True
 |b,o,t::ts=>(∃v,w.cell? ⟨b,o,none⟩=some v/\v.oneCell'=true/\aR t v)/\cV b (o+1) ts
def aX:Nat->Nat->Nat->List (List T)->Prop
 |_,_,_,[]=>True
 |sz,b,o,r::rs=>r.length=sz/\cV b o r/\aX sz b (o+sz) rs
end
end
structure KeepsC(W:Nat->Prop)(w w':World):Prop where
 size:w.heap.size<=w'.heap.size
 gW:∀(b:Nat) c e fr,w.heap[b]? =some (.cells c e fr)->¬W b->w'.heap[b]? =some (.cells c e fr)
structure cb(W:Nat->Prop)(w w':World):Prop extends KeepsC W w w' where
 NZ:∀b:Nat,w.heap[b]? =some (Obj.deferred (some []))->w'.heap[b]? =some (Obj.deferred (some []))
 Wu:∀(b:Nat) r,w.heap[b]? =some (Obj.loop r)->w'.heap[b]? =some (Obj.loop r)
theorem KeepsC.cell{W:Nat->Prop}{w w':World}(h:KeepsC W w w'){b o:Nat}{v:Value}(hn:¬W b)(hc:w.cell? ⟨b,o,none⟩=some v):w'.cell? ⟨b,o,none⟩=some v:=by
 unfold World.cell? at hc⊢;simp only at hc⊢;split at hc
 ·rename_i c e fr hb;rw[h.gW b c e fr hb hn];exact hc
 ·cases hc
theorem cb.refl(W:Nat->Prop)(w:World):cb W w w:=⟨⟨Zae _,λ_ _ _ _ h _=>h⟩,λ_ h=>h,λ_ _ h=>h⟩
theorem cb.mono{W W':Nat->Prop}{a b:World}(h:cb W a b)(hw:∀i,W i->W' i):cb W' a b:=
 ⟨⟨h.size,λi c e fr hi hn=>h.gW i c e fr hi λx=>hn (hw i x)⟩,h.NZ,h.Wu⟩
structure tE(B:Nat)(w w':World):Prop extends RowKit.Below B w w' where
 drawn:w.drawn<=w'.drawn
theorem cb.Gh{W:Nat->Prop}{w w':World}(h:RowKit.Below w.heap.size w w'):cb W w w':=
 ⟨⟨h.size,λb c e fr hb _=>(h.block b (Zai.1 hb).1).trans hb⟩,λb hb=>(h.block b (Zai.1 hb).1).trans hb,λb r hb=>(h.block b (Zai.1 hb).1).trans hb⟩
mutual
theorem aR.aC{w w':World}{W W':Nat->Prop}(h:KeepsC W w w')(hW:∀b,b<w.heap.size->W' b->W b):∀(t:T) (v:Value),aR w W t v->aR w' W' t v
 |.bool b,v,r=>by simpa [aR]using r
 |.int k n,v,r=>by simpa [aR]using r
 |.raw x,v,r=>by simpa [aR]using r
 |.str s,v,r=>by simpa [aR]using r
 |.sl rows,v,r=>by
  simp only[aR]at r⊢;rcases r with r|⟨b,o,cap,sz,hv,hb,hn,hc,hr⟩
  ·exact .inl r
  ·exact .inr ⟨b,o,cap,sz,hv,ZaR hb h.size,λx=>hn (hW b hb x),hc,aX.aC h hW hb hn sz o rows hr⟩
 |.agg cs,v,r=>by
  simp only[aR]at r⊢;obtain⟨vs,hv,hr⟩:=r;exact⟨vs,hv,aP.aC h hW cs _ hr⟩
 |.eF ts,v,r=>by
  simp only[aR]at r⊢;obtain⟨vs,hv,hr⟩:=r;exact⟨vs,hv,dw.aC h hW ts _ hr⟩
 |.fn f caps,v,r=>by
  simp only[aR]at r⊢;obtain⟨vs,hv,hr⟩:=r;exact⟨vs,hv,aP.aC h hW caps _ hr⟩
 |.box cs,v,r=>by
  simp only[aR]at r⊢;obtain⟨b,o,hv,hb,hn,hr⟩:=r;exact⟨b,o,hv,ZaR hb h.size,λx=>hn (hW b hb x),cV.aC h hW hb hn o cs hr⟩
theorem aP.aC{w w':World}{W W':Nat->Prop}(h:KeepsC W w w')(hW:∀b,b<w.heap.size->W' b->W b):∀(ts:List T) (vs:List Value),aP w W ts vs->aP w' W' ts vs
 |[],vs,r=>by simpa [aP]using r
 |t::ts,vs,r=>by
  simp only[aP]at r⊢;obtain⟨v,gY,hv,h1,hr,jI⟩:=r;exact⟨v,gY,hv,h1,aR.aC h hW t v hr,aP.aC h hW ts gY jI⟩
theorem dw.aC{w w':World}{W W':Nat->Prop}(h:KeepsC W w w')(hW:∀b,b<w.heap.size->W' b->W b):∀(ts:List T) (vs:List Value),dw w W ts vs->dw w' W' ts vs
 |[],vs,r=>by simpa [dw]using r
 |t::ts,vs,r=>by
  simp only[dw]at r⊢;obtain⟨v,gY,hv,hr,jI⟩:=r;exact⟨v,gY,hv,aR.aC h hW t v hr,dw.aC h hW ts gY jI⟩
theorem cV.aC{w w':World}{W W':Nat->Prop}(h:KeepsC W w w')(hW:∀b,b<w.heap.size->W' b->W b){b:Nat}(hb:b<w.heap.size)(hn:¬W b):∀(o:Nat) (ts:List T),cV w W b o ts->cV w' W' b o ts
 |_,[],_=>by simp[cV]
 |o,t::ts,r=>by
  simp only[cV]at r⊢;obtain⟨⟨v,hc,h1,hr⟩,jI⟩:=r;exact⟨⟨v,h.cell hn hc,h1,aR.aC h hW t v hr⟩,cV.aC h hW hb hn (o+1) ts jI⟩
theorem aX.aC{w w':World}{W W':Nat->Prop}(h:KeepsC W w w')(hW:∀b,b<w.heap.size->W' b->W b){b:Nat}(hb:b<w.heap.size)(hn:¬W b)(sz:Nat):∀(o:Nat) (rs:List (List T)),aX w W sz b o rs->aX w' W' sz b o rs
 |_,[],_=>by simp[aX]
 |o,r::rs,x=>by
  simp only[aX]at x⊢;exact⟨x.1,cV.aC h hW hb hn o r x.2.1,aX.aC h hW hb hn sz (o+sz) rs x.2.2⟩
end
section
variable{w:World}{W:Nat->Prop}
theorem aX.row{sz b:Nat}:∀{rows:List (List T)} {o i:Nat} {r:List T},aX w W sz b o rows->rows[i]? =some r->r.length=sz/\cV w W b (o+i*sz) r
 |[],_,_,_,_,h=>by simp at h
 |x::xs,o,0,r,hr,h=>by
  simp only[aX]at hr;simp only[ZaG,Zaa]at h;subst h;simpa using⟨hr.1,hr.2.1⟩
 |x::xs,o,i+1,r,hr,h=>by
  simp only[aX]at hr;simp only[ZaX]at h;have:=aX.row hr.2.2 h;rw[show o+(i+1)*sz=o+sz+i*sz by rw[Nat.add_mul];omega];exact this
theorem cV.zM{b:Nat}:∀(ts:List T) (o:Nat),(∀j t,ts[j]? =some t->∃v,w.cell? ⟨b,o+j,none⟩=some v/\v.oneCell'=true/\aR w W t v)->cV w W b o ts
 |[],_,_=>by simp[cV]
 |t::ts,o,h=>by
  simp only[cV];refine⟨by simpa using h 0 t (by simp),cV.zM ts (o+1) λj u hu=>?_⟩;have:=h (j+1) u (by simpa using hu)
  rwa [show o+1+j=o+(j+1)by omega]
theorem aX.ze{sz b:Nat}:∀(rs:List (List T)) (o:Nat),(∀i r,rs[i]? =some r->r.length=sz/\cV w W b (o+i*sz) r)->aX w W sz b o rs
 |[],_,_=>by simp[aX]
 |r::rs,o,h=>by
  simp only[aX];have h0:=h 0 r (by simp);refine⟨h0.1,by simpa using h0.2,aX.ze rs (o+sz) λi u hu=>?_⟩;have:=h (i+1) u (by simpa using hu)
  rwa [show o+sz+i*sz=o+(i+1)*sz by rw[Nat.add_mul];omega]
theorem aP.length:∀{ts:List T} {vs:List Value},aP w W ts vs->vs.length=ts.length
 |[],_,h=>by simp only[aP]at h;simp[h]
 |_::ts,_,h=>by
  simp only[aP]at h;obtain⟨v,gY,rfl,_,_,hr⟩:=h;simp[aP.length hr]
theorem dw.length:∀{ts:List T} {vs:List Value},dw w W ts vs->vs.length=ts.length
 |[],_,h=>by simp only[dw]at h;simp[h]
 |_::ts,_,h=>by
  simp only[dw]at h;obtain⟨v,gY,rfl,_,hr⟩:=h;simp[dw.length hr]
theorem aP.get:∀{ts:List T} {vs:List Value} {i:Nat} {t:T},aP w W ts vs->ts[i]? =some t->∃v,vs[i]? =some v/\v.oneCell'=true/\aR w W t v
 |[],_,_,_,_,h=>by simp at h
 |x::xs,_,0,t,hr,h=>by
  simp only[aP]at hr;obtain⟨v,gY,rfl,h1,h2,_⟩:=hr;simp only[ZaG,Zaa]at h;subst h;exact⟨v,rfl,h1,h2⟩
 |x::xs,_,i+1,t,hr,h=>by
  simp only[aP]at hr;obtain⟨v,gY,rfl,_,_,hr⟩:=hr;simpa using aP.get hr (by simpa using h)
theorem dw.get:∀{ts:List T} {vs:List Value} {i:Nat} {t:T},dw w W ts vs->ts[i]? =some t->∃v,vs[i]? =some v/\aR w W t v
 |[],_,_,_,_,h=>by simp at h
 |x::xs,_,0,t,hr,h=>by
  simp only[dw]at hr;obtain⟨v,gY,rfl,h2,_⟩:=hr;simp only[ZaG,Zaa]at h;subst h;exact⟨v,rfl,h2⟩
 |x::xs,_,i+1,t,hr,h=>by
  simp only[dw]at hr;obtain⟨v,gY,rfl,_,hr⟩:=hr;simpa using dw.get hr (by simpa using h)
end
class Laid where
 cells:List (Nat×List T)
abbrev Laid.none:Laid:=⟨[]⟩
def zN [Laid](w:World)(W:Nat->Prop):Prop:=∀p∈Laid.cells,p.1<w.heap.size/\¬W p.1/\cV w W p.1 0 p.2
theorem zN.aC [Laid]{w w':World}{W W':Nat->Prop}(h:zN w W)(hk:KeepsC W w w')(hW:∀b,b<w.heap.size->W' b->W b):zN w' W':=λp hp=>by
 obtain⟨h1,h2,h3⟩:=h p hp;exact⟨ZaR h1 hk.size,λx=>h2 (hW _ h1 x),cV.aC hk hW h1 h2 0 p.2 h3⟩
theorem zN.empty(w:World)(W:Nat->Prop): @zN Laid.none w W:=λp hp=>by cases hp
end Go.DM
namespace Go.DM
inductive DV where
 |undef
 |skip
 |v (t:T)
 |aI
 |ptr (r off:Nat)
 |bk (r ver:Nat)
 |ky (rows:List (List T)) (i:Int) (off:Nat)
 |gz (cs:List T) (off:Nat)
 |jd (r ver:Nat) (i:Int) (off:Nat)
 |agg (cs:List DV)
 |CF
 |iv (r:Nat)
 |iter (r:Nat)
 |eF (ds:List DV)
 |sP (r ver lo n:Nat)
 |mu (f:Fn) (caps:List DV)
 |D4 (r n:Nat)
instance:Inhabited DV:=⟨.undef⟩
inductive Sh where
 |bool|int (k:IntKind)|str
def D5:Sh->T->Bool
 |.bool,.bool _=>true
 |.int k,.int k' _=>k==k'
 |.str,.str _=>true
 |_,_=>false
def dg:List Sh->List T->Prop
 |[],ts=>ts=[]
 |s::ss,t::ts=>D5 s t=true/\dg ss ts
 |_::_,[]=>False
inductive Ob where
 |box (cs:List DV)
 |arr (ver e sz:Nat) (rows:List (List T))
 |map (shs:List Sh) (agg:Bool) (clock:Nat) (es:List (Nat×T×DV))
 |iter (m since:Nat) (seen:List Nat) (last:Nat)
def Ob.kind:Ob->Nat
 |.box _=>0
 |.arr _ _ _ _=>1
 |.map _ _ _ _=>2
 |.iter _ _ _ _=>3
abbrev aU:=Nat->Option Ob
structure kW where
 tmps:Nat->DV
 objs:aU
 nxt:Nat
 low:Nat
 todo:List (List T)
inductive bp where
 |tmp (t:Nat)
 |cq (d:DV)
def bp.ev(ρ:Nat->DV):bp->DV
 |.tmp t=>ρ t
 |.cq d=>d
structure iw where
 ok:Prop
 val:DV
 objs:aU
structure Spec where
 pre:List T->Prop
 fn:List T->T
 scalar:Bool
 st:Option (List DV->aU->iw):=none
 fresh:Option (Nat×Nat):=none
 lend:Bool:=false
abbrev Env:=FuncId->Option Spec
inductive nH where
 |bP (x:bp)
 |pick (c a b:bp)
 |alloc (zero:List DV)
 |box (x:bp)
 |build (zero:List DV) (parts:List (Nat×Nat×bp))
 |bslice (len sz:Nat) (zero:List DV) (parts:List (Nat×Nat×bp))
 |load (n:Nat) (agg:Bool) (x:bp)
 |store (n:Nat) (x y:bp)
 |bin (op:BinOp) (x y:bp)
 |eqT (neg agg:Bool) (shs:List Sh) (x y:bp)
 |un (op:UnOp) (x:bp)
 |conv (k:IntKind) (x:bp)
 |addOff (k:Nat) (x:bp)
 |nilCheck (x:bp)
 |idxAddr (sz:Nat) (x i:bp)
 |arrAddr (len sz:Nat) (x i:bp)
 |field (off n:Nat) (agg:Bool) (x:bp)
 |slice (sz:Nat) (x:bp) (lo hi:Option bp)
 |extract (i:Nat) (x:bp)
 |call (f:FuncId) (args:List bp)
 |callS (f:FuncId) (args:List bp)
 |callF (f:FuncId) (args:List bp)
 |callR (f:FuncId) (args:List bp)
 |callv (x:bp) (args:List bp)
 |len (x:bp)
 |lenS (x:bp)
 |minmax (isMax:Bool) (x y:bp)
 |append (e sz bytes:Nat) (x y:bp)
 |mkSlice (e sz bytes:Nat) (zero:List T) (n:bp)
 |mkSliceB (e sz bytes:Nat) (zero:List T) (n:bp)
 |mkFn (f:Fn) (caps:List bp)
 |mkMap (shs:List Sh) (agg:Bool)
 |lookup (shs:List Sh) (agg:Bool) (zero:DV) (ok:Bool) (x k:bp)
 |mapUpd (shs:List Sh) (agg:Bool) (x k y:bp)
 |mapDel (shs:List Sh) (agg:Bool) (x k:bp)
 |mapEnt (shs:List Sh) (agg:Bool) (zero:DV) (x k:bp)
 |entSt (x s y:bp)
 |lenM (x:bp)
 |rangeM (x:bp)
 |entryM (x:bp)
 |copy (sz:Nat) (x y:bp)
 |isNil (kind:Nat) (neg:Bool) (x:bp)
 |indexS (x i:bp)
 |fail
structure oj where
 ok:Prop
 val:DV
 put:Option (Nat×Ob):=none
def bad:oj:=⟨False,.undef,none⟩
def zO:T->Bool
 |.agg _|.eF _=>false
 |.raw v=>v.oneCell'
 |_=>true
def cellsOf:DV->List DV
 |.v (.agg cs)=>cs.map .v
 |.agg cs=>cs
 |d=>[d]
def kX:DV->Prop
 |.undef=>False
 |.skip=>False
 |.v (.eF _)=>False
 |.v (.raw x)=>x.oneCell'=true
 |.eF _=>False
 |_=>True
mutual
def qd(objs:aU):DV->T
 |.v t=>t
 |.aI=>.sl []
 |.bk r _=>match objs r with|some (.arr _ _ _ rows)=>.sl rows|_=>.sl []
 |.agg cs=>.agg (gO objs cs)
 |.sP r _ lo n=>match objs r with|some (.arr _ _ _ rows)=>.sl ((rows.drop lo).take n)|_=>.sl []
 |.mu f caps=>.fn f (gO objs caps)
 |_=>.raw undef
def gO(objs:aU):List DV->List T
 |[]=>[]
 |d::ds=>qd objs d::gO objs ds
end
mutual
def Cb(lend:Bool)(objs:aU):DV->Prop
 |.v _=>True
 |.aI=>True
 |.bk r ver=>lend=true/\match objs r with|some (.arr ver' _ _ _)=>ver=ver'|_=>False
 |.agg cs=>qE lend objs cs
 |.sP r ver lo n=>lend=true/\match objs r with|some (.arr ver' _ _ rows)=>ver=ver'/\lo+n<=rows.length|_=>False
 |.mu _ caps=>qE lend objs caps
 |_=>False
def qE(lend:Bool)(objs:aU):List DV->Prop
 |[]=>True
 |d::ds=>Cb lend objs d/\qE lend objs ds
end
def qF:DV->Prop
 |.v t=>zO t=true
 |.aI=>True
 |_=>False
def gI:List DV->Prop
 |[]=>True
 |d::ds=>qF d/\gI ds
def uL:List DV->Bool
 |[]=>true
 |.v t::ds=>zO t&&uL ds
 |.aI::ds=>uL ds
 |_::_=>false
def je:DV->Prop
 |.undef=>False
 |.skip=>False
 |.v t=>zO t=true
 |.agg _=>False
 |.eF _=>False
 |_=>True
def dv:List DV->Prop
 |[]=>True
 |d::ds=>je d/\dv ds
def bH{α:Type}(l:List α)(off:Nat)(new:List α):List α:=l.take off++new++l.drop (off+new.length)
def sY(cells:List DV):List (Nat×Nat×DV)->List DV
 |[]=>cells
 |(off,_,d)::ps=>sY (bH cells off (cellsOf d)) ps
def qG(n:Nat):List (Nat×Nat×DV)->Prop
 |[]=>True
 |(off,sz,d)::ps=>(cellsOf d).length=sz/\off+sz<=n/\dv (cellsOf d)/\qG n ps
def rowAt(rows:List (List T))(i:Int):List T:=rows.getD i.toNat []
def chunk(sz:Nat):Nat->List T->List (List T)
 |0,_=>[]
 |n+1,cs=>cs.take sz::chunk sz n (cs.drop sz)
def fX(n:Nat)(agg:Bool)(objs:aU):DV->oj
 |.ptr r off=>match objs r with
  |some (.box cs)=>⟨off+n<=cs.length/\(agg=true\/n=1),if agg then .agg ((cs.drop off).take n)else cs.getD off .undef,none⟩
  |_=>bad
 |.ky rows i off=>⟨off+n<=(rowAt rows i).length/\(agg=true\/n=1),if agg then .v (.agg (((rowAt rows i).drop off).take n))else .v ((rowAt rows i).getD off default),none⟩
 |.gz cs off=>⟨off+n<=cs.length/\(agg=true\/n=1),if agg then .v (.agg ((cs.drop off).take n))else .v (cs.getD off default),none⟩
 |.v (.box cs)=>⟨n<=cs.length/\(agg=true\/n=1),if agg then .v (.agg (cs.take n))else .v (cs.getD 0 default),none⟩
 |.jd r ver i off=>match objs r with
  |some (.arr ver' _ _ rows)=>⟨ver=ver'/\off+n<=(rowAt rows i).length/\(agg=true\/n=1),if agg then .v (.agg (((rowAt rows i).drop off).take n))else .v ((rowAt rows i).getD off default),none⟩
  |_=>bad
 |_=>bad
def jN(n:Nat)(objs:aU)(y:DV):DV->oj
 |.ptr r off=>match objs r with
  |some (.box cs)=>⟨(cellsOf y).length=n/\off+n<=cs.length/\dv (cellsOf y),.undef,some (r,.box (bH cs off (cellsOf y)))⟩
  |_=>bad
 |.jd r ver i off=>match objs r with
  |some (.arr ver' e sz rows)=>⟨ver=ver'/\(cellsOf y).length=n/\off+n<=sz/\gI (cellsOf y),.undef,
    some (r,.arr ver' e sz (rows.set i.toNat (bH (rowAt rows i) off (gO objs (cellsOf y)))))⟩
  |_=>bad
 |_=>bad
def qH(op:BinOp):DV->DV->oj
 |.v (.int k a),.v (.int k' b)=>match op with
  |.add=>⟨k=k',.v (.int k (k.wrap (a+b))),none⟩
  |.sub=>⟨k=k',.v (.int k (k.wrap (a-b))),none⟩
  |.mul=>⟨k=k',.v (.int k (k.wrap (a*b))),none⟩
  |.quo=>⟨k=k'/\b≠0,.v (.int k (k.wrap (a.tdiv b))),none⟩
  |.rem=>⟨k=k'/\b≠0,.v (.int k (a.tmod b)),none⟩
  |.eql=>⟨k=k',.v (.bool (decide (a=b))),none⟩
  |.neq=>⟨k=k',.v (.bool (!decide (a=b))),none⟩
  |.lss=>⟨k=k',.v (.bool (decide (a<b))),none⟩
  |.leq=>⟨k=k',.v (.bool (decide (a<=b))),none⟩
  |.gtr=>⟨k=k',.v (.bool (decide (b<a))),none⟩
  |.geq=>⟨k=k',.v (.bool (decide (b<=a))),none⟩
  |.shl=>⟨0<=b,.v (.int k (k.wrap (a*2^min b.toNat k.bits))),none⟩
  |.shr=>⟨0<=b,.v (.int k (a/2^min b.toNat k.bits)),none⟩
  |.and=>⟨k=k',.v (.int k (k.wrap (BitVec.ofInt k.bits a&&&BitVec.ofInt k.bits b).toNat)),none⟩
  |.or=>⟨k=k',.v (.int k (k.wrap (BitVec.ofInt k.bits a|||BitVec.ofInt k.bits b).toNat)),none⟩
  |.xor=>⟨k=k',.v (.int k (k.wrap (BitVec.ofInt k.bits a^^^BitVec.ofInt k.bits b).toNat)),none⟩
  |_=>bad
 |_,_=>bad
mutual
def fe:T->T->Bool
 |.bool a,.bool b=>a==b
 |.int _ a,.int _ b=>decide (a=b)
 |.str a,.str b=>decide (a=b)
 |.agg as,.agg bs=>oq as bs
 |_,_=>false
def oq:List T->List T->Bool
 |[],[]=>true
 |a::as,b::bs=>fe a b&&oq as bs
 |_,_=>false
end
def zP(neg agg:Bool)(shs:List Sh):T->T->oj
 |.agg as,.agg bs=>⟨agg=true/\dg shs as/\dg shs bs,.v (.bool (neg^^oq as bs)),none⟩
 |a,b=>⟨agg=false/\dg shs [a]/\dg shs [b],.v (.bool (neg^^fe a b)),none⟩
def Mm(op:UnOp):DV->oj
 |.v (.bool b)=>match op with
  |.not=>⟨True,.v (.bool (!b)),none⟩
  |_=>bad
 |.v (.int k n)=>match op with
  |.neg=>⟨True,.v (.int k (k.wrap (-n))),none⟩
  |_=>bad
 |_=>bad
def fO(k:Nat):DV->oj
 |.ptr r off=>⟨True,.ptr r (off+k),none⟩
 |.ky rows i off=>⟨True,.ky rows i (off+k),none⟩
 |.gz cs off=>⟨True,.gz cs (off+k),none⟩
 |.v (.box cs)=>⟨True,.gz cs k,none⟩
 |.jd r ver i off=>⟨True,.jd r ver i (off+k),none⟩
 |_=>bad
def jt:DV->oj
 |.ptr r off=>⟨True,.ptr r off,none⟩
 |.ky rows i off=>⟨True,.ky rows i off,none⟩
 |.gz cs off=>⟨True,.gz cs off,none⟩
 |.v (.box cs)=>⟨True,.v (.box cs),none⟩
 |.jd r ver i off=>⟨True,.jd r ver i off,none⟩
 |.v (.fn (.func f) caps)=>⟨True,.v (.fn (.func f) caps),none⟩
 |_=>bad
def o6(sz:Nat)(objs:aU):DV->DV->oj
 |.v (.sl rows),.v (.int _ i)=>⟨0<=i/\i<rows.length/\(rowAt rows i).length=sz,.ky rows i 0,none⟩
 |.bk r ver,.v (.int _ i)=>match objs r with
  |some (.arr ver' _ fY rows)=>⟨ver=ver'/\fY=sz/\0<=i/\i<rows.length,.jd r ver i 0,none⟩
  |_=>bad
 |.sP r ver lo n,.v (.int _ i)=>match objs r with
  |some (.arr ver' _ fY rows)=>⟨ver=ver'/\fY=sz/\0<=i/\i<n,.jd r ver (lo+i) 0,none⟩
  |_=>bad
 |.D4 r n,.v (.int _ i)=>⟨0<=i/\i<n,.ptr r (i.toNat*sz),none⟩
 |_,_=>bad
def jl(len sz:Nat):DV->DV->oj
 |.ptr r off,.v (.int _ i)=>⟨0<=i/\i<len,.ptr r (off+i.toNat*sz),none⟩
 |.ky rows j off,.v (.int _ i)=>⟨0<=i/\i<len,.ky rows j (off+i.toNat*sz),none⟩
 |.gz cs off,.v (.int _ i)=>⟨0<=i/\i<len,.gz cs (off+i.toNat*sz),none⟩
 |.v (.box cs),.v (.int _ i)=>⟨0<=i/\i<len,.gz cs (i.toNat*sz),none⟩
 |.jd r ver j off,.v (.int _ i)=>⟨0<=i/\i<len,.jd r ver j (off+i.toNat*sz),none⟩
 |_,_=>bad
def lj:DV->Option (List DV)
 |.v (.agg cs)=>some (cs.map .v)
 |.agg cs=>some cs
 |_=>none
def mw(off n:Nat)(agg:Bool)(x:DV):oj:=
 match lj x with
 |some cs=>⟨off+n<=cs.length/\(agg=true\/n=1),if agg then .agg ((cs.drop off).take n)else cs.getD off .undef,none⟩
 |none=>bad
def zQ :DV->Option Int
 |.v (.int _ n)=>some n
 |_=>none
def zR:Option DV->Option Int
 |none=>some 0
 |some d=>zQ d
def zS(n:Int):Option DV->Option Int
 |none=>some n
 |some d=>zQ d
def hY(sz:Nat)(lo hi:Option DV)(objs:aU):DV->oj
 |.v (.sl rows)=>
  match zR lo,zS rows.length hi with
  |some l,some h=>⟨0<=l/\l<=h/\h<=rows.length/\(∀r∈rows,r.length=sz),.v (.sl ((rows.take h.toNat).drop l.toNat)),none⟩
  |_,_=>bad
 |.aI=>
  match zR lo,zS 0 hi with
  |some l,some h=>⟨l=0/\h=0,.aI,none⟩
  |_,_=>bad
 |.bk r ver=>match objs r with
  |some (.arr ver' _ fY rows)=>match zR lo,zS rows.length hi with
   |some l,some h=>⟨ver=ver'/\fY=sz/\0<=l/\l<=h/\h<=rows.length,.sP r ver l.toNat (h.toNat-l.toNat),none⟩
   |_,_=>bad
  |_=>bad
 |.sP r ver lo' n=>match objs r with
  |some (.arr ver' _ fY rows)=>match zR lo,zS n hi with
   |some l,some h=>⟨ver=ver'/\fY=sz/\0<=l/\l<=h/\h<=n,.sP r ver (lo'+l.toNat) (h.toNat-l.toNat),none⟩
   |_,_=>bad
  |_=>bad
 |_=>bad
def o7(i:Nat):DV->oj
 |.v (.eF ts)=>⟨i<ts.length,.v (ts.getD i default),none⟩
 |.eF ds=>⟨i<ds.length,ds.getD i .undef,none⟩
 |_=>bad
def tF(objs:aU):DV->oj
 |.v (.sl rows)=>⟨True,.v (.int .i64 rows.length),none⟩
 |.aI=>⟨True,.v (.int .i64 0),none⟩
 |.bk r ver=>match objs r with
  |some (.arr ver' _ _ rows)=>⟨ver=ver',.v (.int .i64 rows.length),none⟩
  |_=>bad
 |.sP _ _ _ n=>⟨True,.v (.int .i64 n),none⟩
 |.D4 _ n=>⟨True,.v (.int .i64 n),none⟩
 |_=>bad
def sa:DV->oj
 |.v (.str s)=>⟨True,.v (.int .i64 s.size),none⟩
 |_=>bad
def mf(isMax:Bool):DV->DV->oj
 |.v (.int k a),.v (.int k' b)=>⟨k=k',.v (.int k (if isMax then max a b else min a b)),none⟩
 |_,_=>bad
def dX(objs:aU):DV->Option (List (List T))
 |.v (.sl rows)=>some rows
 |.aI=>some []
 |.bk r ver=>match objs r with
  |some (.arr ver' _ _ rows)=>if ver=ver' then some rows else none
  |_=>none
 |.sP r ver lo n=>match objs r with
  |some (.arr ver' _ _ rows)=>if ver=ver' then some ((rows.drop lo).take n)else none
  |_=>none
 |.v (.raw (.slice _ 0 _))=>some []
 |_=>none
def cG(bytes n:Nat):Prop:=n*bytes<=140737488355328/\n<=140737488355328
def fP(e sz bytes:Nat)(name:Nat)(objs:aU)(x y:DV):oj:=
 match dX objs y with
 |none=>bad
 |some ys=>
  match x with
  |.aI=>⟨(∀r∈ys,r.length=sz)/\cG bytes ys.length,.bk name 0,some (name,.arr 0 e sz ys)⟩
  |.bk r ver=>match objs r with
   |some (.arr ver' e' fY rows)=>⟨ver=ver'/\e'=e/\fY=sz/\(∀r∈ys,r.length=sz)/\cG bytes (rows.length+ys.length),.bk r (ver+1),some (r,.arr (ver+1) e sz (rows++ys))⟩
   |_=>bad
  |.sP r ver 0 n=>match objs r with
   |some (.arr ver' e' fY rows)=>⟨ver=ver'/\e'=e/\fY=sz/\(∀r∈ys,r.length=sz)/\cG bytes (n+ys.length),.bk r (ver+1),some (r,.arr (ver+1) e sz (rows.take n++ys))⟩
   |_=>bad
  |_=>bad
def jO(e sz bytes:Nat)(zero:List T)(name:Nat):DV->oj
 |.v (.int _ n)=>⟨0<=n/\zero.length=sz/\cG bytes n.toNat,.bk name 0,some (name,.arr 0 e sz (List.replicate n.toNat zero))⟩
 |_=>bad
def CG:T->DV
 |.sl []=>.aI
 |t=>.v t
def eG(sz bytes:Nat)(zero:List T)(name:Nat):DV->oj
 |.v (.int _ n)=>⟨0<=n/\zero.length=sz/\cG bytes n.toNat,.D4 name n.toNat,some (name,.box (List.replicate n.toNat (zero.map CG)).flatten)⟩
 |_=>bad
def iy(sz:Nat)(objs:aU)(x y:DV):oj:=
 match dX objs y with
 |none=>bad
 |some ys=>
  match x with
  |.bk r ver=>match objs r with
   |some (.arr ver' e fY rows)=>⟨ver=ver'/\fY=sz/\(∀r∈ys,r.length=sz),.v (.int .i64 (min ys.length rows.length:Nat)),some (r,.arr ver e sz (bH rows 0 (ys.take rows.length)))⟩
   |_=>bad
  |.sP r ver lo n=>match objs r with
   |some (.arr ver' e fY rows)=>⟨ver=ver'/\fY=sz/\(∀r∈ys,r.length=sz),.v (.int .i64 (min ys.length n:Nat)),some (r,.arr ver e sz (bH rows lo (ys.take n)))⟩
   |_=>bad
  |_=>bad
def eH(kind:Nat)(neg:Bool)(objs:aU):DV->oj
 |.v (.raw (.slice p _ _))=>⟨kind=0,.v (.bool (neg^^p.isNone)),none⟩
 |.v (.raw (.pointer p))=>⟨kind=1,.v (.bool (neg^^p.isNone)),none⟩
 |.v (.raw .nilFunc)=>⟨kind=2,.v (.bool (neg^^true)),none⟩
 |.v (.sl rows)=>⟨kind=0/\rows≠[],.v (.bool (neg^^false)),none⟩
 |.v (.fn (.func _) _)=>⟨kind=2,.v (.bool (neg^^false)),none⟩
 |.v (.box _)=>⟨kind=1,.v (.bool (neg^^false)),none⟩
 |.ptr _ _|.gz _ _|.ky _ _ _|.jd _ _ _ _=>⟨kind=1,.v (.bool (neg^^false)),none⟩
 |.mu (.func _) _=>⟨kind=2,.v (.bool (neg^^false)),none⟩
 |.bk r ver=>match objs r with
  |some (.arr ver' _ _ rows)=>⟨kind=0/\ver=ver'/\rows≠[],.v (.bool (neg^^false)),none⟩
  |_=>bad
 |_=>bad
def mg:DV->DV->oj
 |.v (.str s),.v (.int _ i)=>⟨0<=i/\i<s.size,.v (.int .u8 (s.data.getD i.toNat 0).toNat),none⟩
 |_,_=>bad
def dh(shs:List Sh)(agg:Bool):T->Prop
 |.agg as=>agg=true/\dg shs as
 |t=>agg=false/\dg shs [t]
def JB:List DV->Option (List T)
 |[]=>some []
 |.v t::ds=>(JB ds).map (t::·)
 |_::_=>none
def wG:DV->Option T
 |.v t=>some t
 |.agg cs=>(JB cs).map .agg
 |_=>none
def ou(k:T)(es:List (Nat×T×DV)):Option (Nat×T×DV):=es.find? λe=>fe k e.2.1
def D6(k:T)(y:DV)(clock:Nat)(es:List (Nat×T×DV)):List (Nat×T×DV):=
 match es.findIdx? λe=>fe k e.2.1 with
 |some i=>es.modify i λe=>(e.1,e.2.1,y)
 |none=>es++[(clock,k,y)]
def my(k:T)(clock:Nat)(es:List (Nat×T×DV)):Nat:=
 match es.findIdx? λe=>fe k e.2.1 with
 |some _=>clock
 |none=>clock+1
def WV(k:T)(es:List (Nat×T×DV)):List (Nat×T×DV):=
 match es.findIdx? λe=>fe k e.2.1 with
 |some i=>es.eraseIdx i
 |none=>es
def kz(shs:List Sh)(agg:Bool)(zero:DV)(ok:Bool)(objs:aU)(x k:DV):oj:=
 match x,wG k with
 |.iv r,some kt=>match objs r with
  |some (.map shs' agg' _ es)=>⟨shs'=shs/\agg'=agg/\dh shs agg kt,
    match ou kt es with
    |some e=>if ok then .eF [e.2.2,.v (.bool true)]else e.2.2
    |none=>if ok then .eF [zero,.v (.bool false)]else zero,none⟩
  |_=>bad
 |_,_=>bad
def gJ(shs:List Sh)(agg:Bool)(objs:aU)(x k y:DV):oj:=
 match x,wG k with
 |.iv r,some kt=>match objs r with
  |some (.map shs' agg' c es)=>⟨shs'=shs/\agg'=agg/\dh shs agg kt/\kX y,.undef,some (r,.map shs agg (my kt c es) (D6 kt y c es))⟩
  |_=>bad
 |_,_=>bad
def WX(k:T)(z:DV)(clock:Nat)(es:List (Nat×T×DV)):List (Nat×T×DV):=
 match es.findIdx? λe=>fe k e.2.1 with
 |some _=>es
 |none=>es++[(clock,k,z)]
def WY(k:T)(z:DV)(clock:Nat)(es:List (Nat×T×DV)):DV:=
 match ou k es with
 |some e=>.eF [e.2.2,.v (.int .i64 e.1)]
 |none=>.eF [z,.v (.int .i64 clock)]
def gK(shs:List Sh)(agg:Bool)(zero:DV)(objs:aU)(x k:DV):oj:=
 match x,wG k with
 |.iv r,some kt=>match objs r with
  |some (.map shs' agg' c es)=>⟨shs'=shs/\agg'=agg/\dh shs agg kt,
    WY kt zero c es,some (r,.map shs agg (my kt c es) (WX kt zero c es))⟩
  |_=>bad
 |_,_=>bad
def WZ(b:Int)(y:DV)(es:List (Nat×T×DV)):Option (List (Nat×T×DV)):=
 (es.findIdx? λe=>(e.1:Int)==b).map λi=>es.modify i λe=>(e.1,e.2.1,y)
def jf(objs:aU)(x s y:DV):oj:=
 match x,s with
 |.iv r,.v (.int _ b)=>match objs r with
  |some (.map shs agg c es)=>match WZ b y es with
   |some es'=>⟨True,.undef,some (r,.map shs agg c es')⟩
   |none=>bad
  |_=>bad
 |_,_=>bad
def gM(shs:List Sh)(agg:Bool)(objs:aU)(x k:DV):oj:=
 match x,wG k with
 |.iv r,some kt=>match objs r with
  |some (.map shs' agg' c es)=>⟨shs'=shs/\agg'=agg/\dh shs agg kt,.v (.eF []),some (r,.map shs agg c (WV kt es))⟩
  |_=>bad
 |_,_=>bad
def o8(objs:aU):DV->oj
 |.iv r=>match objs r with
  |some (.map _ _ _ es)=>⟨True,.v (.int .i64 es.length),none⟩
  |_=>bad
 |_=>bad
def ju(name:Nat)(objs:aU):DV->oj
 |.iv r=>match objs r with
  |some (.map _ _ c _)=>⟨True,.iter name,some (name,.iter r c [] c)⟩
  |_=>bad
 |_=>bad
def jv(objs:aU):DV->oj
 |.iter r=>match objs r with
  |some (.iter m _ seen last)=>match objs m,seen.getLast? with
   |some (.map _ _ c es),some b=>match es.find? λe=>e.1==b with
    |some e=>⟨c=last,.eF [.v e.2.1,e.2.2],none⟩
    |none=>bad
   |_,_=>bad
  |_=>bad
 |_=>bad
def ni(Γ:Env)(f:FuncId)(objs:aU)(args:List DV):oj:=
 match Γ f with
 |some s=>⟨qE s.scalar objs args/\s.pre (gO objs args),.v (s.fn (gO objs args)),none⟩
 |none=>bad
mutual
def names:DV->List Nat
 |.ptr r _|.bk r _|.jd r _ _ _|.iv r|.iter r|.sP r _ _ _|.D4 r _=>[r]
 |.agg cs|.eF cs|.mu _ cs=>bJ cs
 |_=>[]
def bJ:List DV->List Nat
 |[]=>[]
 |d::ds=>names d++bJ ds
end
def x7(objs:aU)(args:List DV):aU:=λn=>if n∈bJ args then objs n else none
def wH(k:List DV->aU->iw)(args:List DV)(objs:aU):Prop:=
 ∀aA,(∀n∈bJ args,aA n=objs n)->(k args aA).ok/\(k args aA).objs=aA/\(k args aA).val=(k args (x7 objs args)).val
def mz(Γ:Env)(f:FuncId)(objs:aU)(args:List DV):oj:=
 match Γ f with
 |some s=>match s.st with
  |some k=>⟨wH k args objs,(k args (x7 objs args)).val,none⟩
  |none=>bad
 |none=>bad
theorem D7{Γ:Env}{f:FuncId}{objs aA:aU}{args:List DV}(h:∀n∈bJ args,aA n=objs n):mz Γ f aA args=mz Γ f objs args:=by
 have h1:x7 aA args=x7 objs args:=by
  funext n;unfold x7;split
  ·rename_i hn;exact h n hn
  ·rfl
 have h2:∀k,wH k args aA=wH k args objs:=by
  intro k;unfold wH;rw[h1];apply propext;constructor
  ·exact λH o ho=>H o λn hn=>(ho n hn).trans (h n hn).symm
  ·exact λH o ho=>H o λn hn=>(ho n hn).trans (h n hn)
 unfold mz;simp only[h1,h2]
def mA(Γ:Env)(f:FuncId)(name:Nat)(objs:aU)(args:List DV):oj:=
 match Γ f with
 |some s=>match s.fresh,s.fn (gO objs args)with
  |some (e,sz),.sl rows=>⟨qE s.lend objs args/\s.pre (gO objs args),.bk name 0,some (name,.arr 0 e sz rows)⟩
  |_,_=>bad
 |none=>bad
def cw(Γ:Env)(d:nH)(name:Nat)(ρ:Nat->DV)(objs:aU):oj:=
 match d with
 |.bP x=>⟨True,x.ev ρ,none⟩
 |.pick c a b=>match c.ev ρ with
  |.v (.bool t)=>⟨True,if t then a.ev ρ else b.ev ρ,none⟩
  |_=>bad
 |.alloc zero=>⟨True,.ptr name 0,some (name,.box zero)⟩
 |.box x=>⟨kX (x.ev ρ),.ptr name 0,some (name,.box (cellsOf (x.ev ρ)))⟩
 |.build zero parts=>⟨qG zero.length (parts.map λp=>(p.1,p.2.1,p.2.2.ev ρ)),.agg (sY zero (parts.map λp=>(p.1,p.2.1,p.2.2.ev ρ))),none⟩
 |.bslice len sz zero parts=>
  if len=0 then⟨parts=[],.aI,none⟩else
  ⟨qG (len*sz) (parts.map λp=>(p.1,p.2.1,p.2.2.ev ρ))/\gI (sY zero (parts.map λp=>(p.1,p.2.1,p.2.2.ev ρ))),
   .v (.sl (chunk sz len (gO (λ_=>none) (sY zero (parts.map λp=>(p.1,p.2.1,p.2.2.ev ρ)))))),none⟩
 |.load n agg x=>fX n agg objs (x.ev ρ)
 |.store n x y=>jN n objs (y.ev ρ) (x.ev ρ)
 |.bin op x y=>qH op (x.ev ρ) (y.ev ρ)
 |.eqT neg agg shs x y=>⟨Cb true objs (x.ev ρ)/\Cb true objs (y.ev ρ)/\(zP neg agg shs (qd objs (x.ev ρ)) (qd objs (y.ev ρ))).ok,(zP neg agg shs (qd objs (x.ev ρ)) (qd objs (y.ev ρ))).val,none⟩
 |.un op x=>Mm op (x.ev ρ)
 |.conv k x=>match x.ev ρ with
  |.v (.int _ n)=>⟨True,.v (.int k (k.wrap n)),none⟩
  |_=>bad
 |.addOff k x=>fO k (x.ev ρ)
 |.nilCheck x=>jt (x.ev ρ)
 |.idxAddr sz x i=>o6 sz objs (x.ev ρ) (i.ev ρ)
 |.arrAddr len sz x i=>jl len sz (x.ev ρ) (i.ev ρ)
 |.field off n agg x=>mw off n agg (x.ev ρ)
 |.slice sz x lo hi=>hY sz (lo.map (·.ev ρ)) (hi.map (·.ev ρ)) objs (x.ev ρ)
 |.extract i x=>o7 i (x.ev ρ)
 |.call f args=>ni Γ f objs (args.map (·.ev ρ))
 |.callF f args=>mA Γ f name objs (args.map (·.ev ρ))
 |.callR f args=>mz Γ f objs (args.map (·.ev ρ))
 |.callS _ _|.callv _ _|.entryM _=>bad
 |.len x=>tF objs (x.ev ρ)
 |.lenS x=>sa (x.ev ρ)
 |.minmax m x y=>mf m (x.ev ρ) (y.ev ρ)
 |.append e sz bytes x y=>fP e sz bytes name objs (x.ev ρ) (y.ev ρ)
 |.mkSlice e sz bytes zero n=>jO e sz bytes zero name (n.ev ρ)
 |.mkSliceB e sz bytes zero n=>eG sz bytes zero name (n.ev ρ)
 |.mkFn f caps=>⟨dv (caps.map (·.ev ρ)),if uL (caps.map (·.ev ρ))then .v (.fn f (gO (λ_=>none) (caps.map (·.ev ρ))))else .mu f (caps.map (·.ev ρ)),none⟩
 |.mkMap shs agg=>⟨True,.iv name,some (name,.map shs agg 0 [])⟩
 |.lookup shs agg zero ok x k=>kz shs agg zero ok objs (x.ev ρ) (k.ev ρ)
 |.mapUpd shs agg x k y=>gJ shs agg objs (x.ev ρ) (k.ev ρ) (y.ev ρ)
 |.mapDel shs agg x k=>gM shs agg objs (x.ev ρ) (k.ev ρ)
 |.mapEnt shs agg z x k=>gK shs agg z objs (x.ev ρ) (k.ev ρ)
 |.entSt x s y=>jf objs (x.ev ρ) (s.ev ρ) (y.ev ρ)
 |.lenM x=>o8 objs (x.ev ρ)
 |.rangeM x=>ju name objs (x.ev ρ)
 |.copy sz x y=>iy sz objs (x.ev ρ) (y.ev ρ)
 |.isNil kind neg x=>eH kind neg objs (x.ev ρ)
 |.indexS x i=>mg (x.ev ρ) (i.ev ρ)
 |.fail=>bad
def oU:nH->Bool
 |.callS _ _|.callv _ _|.entryM _=>true
 |_=>false
structure SEff where
 ok:Prop
 val:DV
 objs:aU
 todo:List (List T)
def lU(Γ:Env)(d:nH)(ρ:Nat->DV)(objs:aU)(todo:List (List T)):SEff:=
 match d with
 |.callS f args=>match Γ f with
  |some s=>match s.st with
   |some k=>⟨(k (args.map (·.ev ρ)) objs).ok,(k (args.map (·.ev ρ)) objs).val,(k (args.map (·.ev ρ)) objs).objs,todo⟩
   |none=>⟨False,.undef,objs,todo⟩
  |none=>⟨False,.undef,objs,todo⟩
 |.callv x args=>match x.ev ρ with
  |.v (.fn (.func f) caps)=>match Γ f with
   |some s=>match s.st with
    |some k=>⟨(k (args.map (·.ev ρ)++caps.map .v) objs).ok,(k (args.map (·.ev ρ)++caps.map .v) objs).val,(k (args.map (·.ev ρ)++caps.map .v) objs).objs,todo⟩
    |none=>⟨(ni Γ f objs (args.map (·.ev ρ)++caps.map .v)).ok,(ni Γ f objs (args.map (·.ev ρ)++caps.map .v)).val,objs,todo⟩
   |none=>⟨False,.undef,objs,todo⟩
  |.mu (.func f) caps=>match Γ f with
   |some s=>match s.st with
    |some k=>⟨(k (args.map (·.ev ρ)++caps) objs).ok,(k (args.map (·.ev ρ)++caps) objs).val,(k (args.map (·.ev ρ)++caps) objs).objs,todo⟩
    |none=>⟨False,.undef,objs,todo⟩
   |none=>⟨False,.undef,objs,todo⟩
  |.CF=>match todo with
   |x::rest=>⟨qE false objs (args.map (·.ev ρ))/\gO objs (args.map (·.ev ρ))=x/\objs=(λ_=>none),.v (.bool true),objs,rest⟩
   |[]=>⟨False,.undef,objs,todo⟩
  |_=>⟨False,.undef,objs,todo⟩
 |.entryM x=>⟨(jv objs (x.ev ρ)).ok,(jv objs (x.ev ρ)).val,objs,todo⟩
 |_=>⟨False,.undef,objs,todo⟩
end Go.DM
namespace Go.DM
open Go.RowKit
structure Fr(base:Nat)(M:Nat->Prop)(w0 w:World):Prop where
 os:w.os=w0.os
 tape:w.tape=w0.tape
 output:w.output=w0.output
 hZ:base<=w0.heap.size
 size:w0.heap.size<=w.heap.size
 block:∀k,k<base->¬M k->w.heap[k]? =w0.heap[k]?
 drawn:w0.drawn<=w.drawn
theorem Fr.refl{base:Nat}{M:Nat->Prop}{w:World}(h:base<=w.heap.size):Fr base M w w:=⟨rfl,rfl,rfl,h,Zae _,λ_ _ _=>rfl,Zae _⟩
theorem Fr.trans{base:Nat}{M:Nat->Prop}{a b c:World}(h:Fr base M a b)(k:Fr base M b c):Fr base M a c:=
 ⟨k.os.trans h.os,k.tape.trans h.tape,k.output.trans h.output,h.hZ,ZaC h.size k.size,λi hi hm=>(k.block i hi hm).trans (h.block i hi hm),ZaC h.drawn k.drawn⟩
structure Loc where
 gW:Nat->Nat
 sl:Nat->Value
 yl:Nat:=0
def aO:Value->Option Nat
 |.slice (some a) _ c=>if c=0 then none else some a.block
 |_=>none
def Loc.own(L:Loc)(r:Nat):Ob->Option Nat
 |.arr _ _ _ _=>aO (L.sl r)
 |_=>some (L.gW r)
def WW(W:Nat->Prop)(objs:aU)(L:Loc)(b:Nat):Prop:=W b\/∃r o,objs r=some o/\L.own r o=some b
section
variable(w:World)(W:Nat->Prop)(objs:aU)(L:Loc)
mutual
def av:DV->Value->Prop
 |.undef,_=>True
 |.skip,x=>x=Go.undef
 |.v t,x=>aR w (WW W objs L) t x
 |.aI,x=>∃a:Option Addr,x=.slice a 0 0
 |.ptr r off,x=>(∃cs,objs r=some (.box cs))/\x=.pointer (some ⟨L.gW r,off,none⟩)
 |.bk r ver,x=>(∃(p:Option Addr) (n c:Nat),x=.slice p n c)/\∃ver' e sz rows,objs r=some (.arr ver' e sz rows)/\ver<=ver'/\(ver=ver'->x=L.sl r)
 |.ky rows i off,x=>∃b o sz,x=.pointer (some ⟨b,o+i.toNat*sz+off,none⟩)/\b<w.heap.size/\¬WW W objs L b/\aX w (WW W objs L) sz b o rows/\0<=i/\i<rows.length
 |.gz cs off,x=>∃b o,x=.pointer (some ⟨b,o+off,none⟩)/\b<w.heap.size/\¬WW W objs L b/\cV w (WW W objs L) b o cs
 |.jd r ver i off,x=>(∃b o,x=.pointer (some ⟨b,o,none⟩))/\∃ver' e sz rows,objs r=some (.arr ver' e sz rows)/\ver<=ver'/\(ver=ver'->∃g,aO (L.sl r)=some g/\x=.pointer (some ⟨g,i.toNat*sz+off,none⟩)/\0<=i/\i<rows.length)
 |.agg cs,x=>∃vs,x=.agg vs/\aK cs vs.toList
 |.CF,x=>x=.func (.yield L.yl) #[] #[]
 |.iv r,x=>(∃shs agg c es,objs r=some (.map shs agg c es))/\x=.map (some (L.gW r))
 |.iter r,x=>(∃m s sn l,objs r=some (.iter m s sn l))/\x=.pointer (some ⟨L.gW r,0,none⟩)
 |.eF ds,x=>∃vs,x=.tuple vs/\eZ ds vs.toList
 |.sP r ver lo n,x=>(∃(p:Option Addr) (c:Nat),x=.slice p n c)/\∃ver' e sz rows,objs r=some (.arr ver' e sz rows)/\ver<=ver'/\(ver=ver'->lo+n<=rows.length/\∃p cap p2,L.sl r=.slice p rows.length cap/\x=.slice p2 n (cap-lo)/\(lo<cap->p2=p.map (·.add (lo*sz))))
 |.mu f caps,x=>∃vs,x=.func f #[] vs/\aK caps vs.toList
 |.D4 r n,x=>(∃cs,objs r=some (.box cs))/\x=.slice (some ⟨L.gW r,0,none⟩) n n
def aK:List DV->List Value->Prop
 |[],vs=>vs=[]
 |d::ds,vs=>∃x gY,vs=x::gY/\x.oneCell'=true/\av d x/\aK ds gY
def eZ:List DV->List Value->Prop
 |[],vs=>vs=[]
 |d::ds,vs=>∃x gY,vs=x::gY/\av d x/\eZ ds gY
end
def bj:List (Nat×T×DV)->List MapEntry->Prop
 |[],xs=>xs=[]
 |e::es,xs=>∃x jJ,xs=x::jJ/\x.born=e.1/\aR w (WW W objs L) e.2.1 x.key/\av w W objs L e.2.2 x.val/\bj es jJ
def mZ(base:Nat)(M:Nat->Prop)(r:Nat):Ob->Prop
 |.box cs=>∃c e,w.heap[L.gW r]? =some (.cells c e (0,0))/\aK w W objs L cs c.toList/\(base<=L.gW r\/M (L.gW r))
 |.arr _ e sz rows=>0<sz/\(∀x∈rows,x.length=sz)/\(∀g,aO (L.sl r)=some g->base<=g\/M g)/\
   ((rows=[]/\∃a:Option Addr,L.sl r=.slice a 0 0)\/
    ∃g cap cur,L.sl r=.slice (some ⟨g,0,none⟩) rows.length cap/\0<cap/\w.heap[g]? =some (.cells cur e (0,0))/\rows.length<=cap/\cap<=maxLen/\cur.size=cap*sz/\
     aP w (WW W objs L) rows.flatten (cur.toList.take (rows.length*sz)))
 |.map shs agg c es=>∃arr,w.heap[L.gW r]? =some (.map arr c)/\bj w W objs L es arr.toList/\(∀e∈es,dh shs agg e.2.1)/\(∀e∈es,e.1<c)/\(es.map (·.1)).Nodup/\(base<=L.gW r\/M (L.gW r))
 |.iter m s sn l=>w.heap[L.gW r]? =some (.mapIter (some (L.gW m)) s sn.toArray l)/\(∃shs agg c es,objs m=some (.map shs agg c es))/\(base<=L.gW r\/M (L.gW r))
end
variable [Laid]
structure bK(base:Nat)(W M:Nat->Prop)(w0:World)(objs:aU)(w:World)(L:Loc):Prop where
 fr:Fr base M w0 w
 ob:∀r o,objs r=some o->mZ w W objs L base M r o
 apart:∀r r' o o' b,r≠r'->objs r=some o->objs r'=some o'->L.own r o=some b->L.own r' o'≠some b
 outer:∀r o b,objs r=some o->L.own r o=some b->¬W b
 under:∀b,W b->b<base
 gl:zN w (WW W objs L)
structure y5(W W':Nat->Prop)(objs:aU)(L:Loc)(w:World)(aA:aU)(L':Loc)(w':World):Prop where
 keeps:cb (WW W objs L) w w'
 sub:∀b,b<w.heap.size->WW W' aA L' b->WW W objs L b
 fix:∀r o,objs r=some o->o.kind≠1->L'.gW r=L.gW r/\∃o',aA r=some o'/\o'.kind=o.kind
 arr:∀r ver e sz rows,objs r=some (.arr ver e sz rows)->∃ver' e' fY di,aA r=some (.arr ver' e' fY di)/\ver<=ver'/\(ver'=ver->L'.sl r=L.sl r/\fY=sz/\di.length=rows.length)
 yl:L'.yl=L.yl
theorem kind0{o:Ob}(h:o.kind=0):∃cs,o=.box cs:=by cases o<;>first|exact⟨_,rfl⟩|cases h
theorem kind2{o:Ob}(h:o.kind=2):∃shs agg c es,o=.map shs agg c es:=by cases o<;>first|exact⟨_,_,_,_,rfl⟩|cases h
theorem kind3{o:Ob}(h:o.kind=3):∃m s sn l,o=.iter m s sn l:=by cases o<;>first|exact⟨_,_,_,_,rfl⟩|cases h
section
variable{W W':Nat->Prop}{objs:aU}{L:Loc}{w:World}{aA:aU}{L':Loc}{w':World}
theorem y5.box(h:y5 W W' objs L w aA L' w')(r:Nat)(cs:List DV)(hr:objs r=some (.box cs)):L'.gW r=L.gW r/\∃qI,aA r=some (.box qI):=by
 obtain⟨h1,o',h2,h3⟩:=h.fix r _ hr (by simp[Ob.kind]);obtain⟨qI,rfl⟩:=kind0 h3;exact⟨h1,qI,h2⟩
theorem y5.mp(h:y5 W W' objs L w aA L' w')(r:Nat)(hr:∃shs agg c es,objs r=some (.map shs agg c es)):L'.gW r=L.gW r/\∃shs agg c es,aA r=some (.map shs agg c es):=by
 obtain⟨_,_,_,_,hr⟩:=hr;obtain⟨h1,o',h2,h3⟩:=h.fix r _ hr (by simp[Ob.kind]);obtain⟨a,b,c,d,rfl⟩:=kind2 h3;exact⟨h1,a,b,c,d,h2⟩
theorem y5.it(h:y5 W W' objs L w aA L' w')(r:Nat)(hr:∃m s sn l,objs r=some (.iter m s sn l)):L'.gW r=L.gW r/\∃m s sn l,aA r=some (.iter m s sn l):=by
 obtain⟨_,_,_,_,hr⟩:=hr;obtain⟨h1,o',h2,h3⟩:=h.fix r _ hr (by simp[Ob.kind]);obtain⟨a,b,c,d,rfl⟩:=kind3 h3;exact⟨h1,a,b,c,d,h2⟩
end
abbrev iX(W:Nat->Prop)(objs:aU)(L:Loc)(w:World)(aA:aU)(L':Loc)(w':World):Prop:=y5 W W objs L w aA L' w'
theorem iX.cd{W:Nat->Prop}{objs:aU}{L:Loc}{w w':World}(h:cb (WW W objs L) w w'):iX W objs L w objs L w':=
 ⟨h,λ_ _ x=>x,λ_ o hr _=>⟨rfl,o,hr,rfl⟩,λ_ ver e sz rows hr=>⟨ver,e,sz,rows,hr,Zae _,λ_=>⟨rfl,rfl,rfl⟩⟩,rfl⟩
mutual
theorem av.ee{W W':Nat->Prop}{objs aA:aU}{L L':Loc}{w w':World}(h:y5 W W' objs L w aA L' w'):∀(d:DV) (x:Value),av w W objs L d x->av w' W' aA L' d x
 |.undef,x,r=>by simp[av]
 |.skip,x,r=>by simpa [av]using r
 |.v t,x,r=>by
  simp only[av]at r⊢;exact aR.aC h.keeps.toKeepsC h.sub t x r
 |.aI,x,r=>by simpa [av]using r
 |.ptr n off,x,r=>by
  simp only[av]at r⊢;obtain⟨⟨cs,hc⟩,hx⟩:=r;have hb:=h.box n cs hc;exact⟨hb.2,by rw[hb.1];exact hx⟩
 |.bk n ver,x,r=>by
  simp only[av]at r⊢;obtain⟨Gi,ver',e,sz,rows,ho,hle,hx⟩:=r;obtain⟨nI,e2,CH,jP,lI,Gj,hs⟩:=h.arr n ver' e sz rows ho;refine⟨Gi,nI,e2,CH,jP,lI,ZaC hle Gj,λhv=>?_⟩;have h1:nI=ver':=by omega
  rw[(hs h1).1];exact hx (by omega)
 |.ky rows i off,x,r=>by
  simp only[av]at r⊢;obtain⟨b,o,sz,hx,hb,hn,hr,h0,h1⟩:=r;exact⟨b,o,sz,hx,ZaR hb h.keeps.size,λc=>hn (h.sub b hb c),aX.aC h.keeps.toKeepsC h.sub hb hn sz o rows hr,h0,h1⟩
 |.gz cs off,x,r=>by
  simp only[av]at r⊢;obtain⟨b,o,hx,hb,hn,hr⟩:=r;exact⟨b,o,hx,ZaR hb h.keeps.size,λc=>hn (h.sub b hb c),cV.aC h.keeps.toKeepsC h.sub hb hn o cs hr⟩
 |.jd n ver i off,x,r=>by
  simp only[av]at r⊢;obtain⟨Gi,ver',e,sz,rows,ho,hle,hx⟩:=r;obtain⟨nI,e2,CH,jP,lI,Gj,hs⟩:=h.arr n ver' e sz rows ho;refine⟨Gi,nI,e2,CH,jP,lI,ZaC hle Gj,λhv=>?_⟩;have h1:nI=ver':=by omega
  obtain⟨g,hg,hp,h0,hl⟩:=hx (by omega);obtain⟨s1,s2,s3⟩:=hs h1;exact⟨g,by rw[s1];exact hg,by rw[s2];exact hp,h0,by rw[s3];exact hl⟩
 |.agg cs,x,r=>by
  simp only[av]at r⊢;obtain⟨vs,hv,hr⟩:=r;exact⟨vs,hv,aK.ee h cs _ hr⟩
 |.CF,x,r=>by simp only[av]at r⊢;rw[h.yl];exact r
 |.iv n,x,r=>by
  simp only[av]at r⊢;have:=h.mp n r.1;exact⟨this.2,by rw[this.1];exact r.2⟩
 |.iter n,x,r=>by
  simp only[av]at r⊢;have:=h.it n r.1;exact⟨this.2,by rw[this.1];exact r.2⟩
 |.eF ds,x,r=>by
  simp only[av]at r⊢;obtain⟨vs,hv,hr⟩:=r;exact⟨vs,hv,eZ.ee h ds _ hr⟩
 |.mu f ds,x,r=>by
  simp only[av]at r⊢;obtain⟨vs,hv,hr⟩:=r;exact⟨vs,hv,aK.ee h ds _ hr⟩
 |.D4 n m,x,r=>by
  simp only[av]at r⊢;obtain⟨⟨cs,hc⟩,hx⟩:=r;have hb:=h.box n cs hc;exact⟨hb.2,by rw[hb.1];exact hx⟩
 |.sP n ver lo m,x,r=>by
  simp only[av]at r⊢;obtain⟨Gi,ver',e,sz,rows,ho,hle,hx⟩:=r;obtain⟨nI,e2,CH,jP,lI,Gj,hs⟩:=h.arr n ver' e sz rows ho;refine⟨Gi,nI,e2,CH,jP,lI,ZaC hle Gj,λhv=>?_⟩;have h1:nI=ver':=by omega
  obtain⟨k1,p,cap,p2,k2,k3,k4⟩:=hx (by omega);obtain⟨s1,s2,s3⟩:=hs h1;exact⟨by rw[s3];exact k1,p,cap,p2,by rw[s1,s3];exact k2,k3,by rw[s2];exact k4⟩
theorem aK.ee{W W':Nat->Prop}{objs aA:aU}{L L':Loc}{w w':World}(h:y5 W W' objs L w aA L' w'):∀(ds:List DV) (xs:List Value),aK w W objs L ds xs->aK w' W' aA L' ds xs
 |[],xs,r=>by simpa [aK]using r
 |d::ds,xs,r=>by
  simp only[aK]at r⊢;obtain⟨x,jJ,hx,h1,hr,jI⟩:=r;exact⟨x,jJ,hx,h1,av.ee h d x hr,aK.ee h ds jJ jI⟩
theorem eZ.ee{W W':Nat->Prop}{objs aA:aU}{L L':Loc}{w w':World}(h:y5 W W' objs L w aA L' w'):∀(ds:List DV) (xs:List Value),eZ w W objs L ds xs->eZ w' W' aA L' ds xs
 |[],xs,r=>by simpa [eZ]using r
 |d::ds,xs,r=>by
  simp only[eZ]at r⊢;obtain⟨x,jJ,hx,hr,jI⟩:=r;exact⟨x,jJ,hx,av.ee h d x hr,eZ.ee h ds jJ jI⟩
end
theorem bj.ee{W W':Nat->Prop}{objs aA:aU}{L L':Loc}{w w':World}(h:y5 W W' objs L w aA L' w'):∀(es:List (Nat×T×DV)) (xs:List MapEntry),bj w W objs L es xs->bj w' W' aA L' es xs
 |[],xs,r=>by simpa [bj]using r
 |e::es,xs,r=>by
  simp only[bj]at r⊢;obtain⟨x,jJ,hx,h0,h1,hr,jI⟩:=r;exact⟨x,jJ,hx,h0,aR.aC h.keeps.toKeepsC h.sub _ _ h1,av.ee h _ _ hr,bj.ee h es jJ jI⟩
section
variable{w:World}{W:Nat->Prop}{objs:aU}{L:Loc}
theorem aK.length:∀{ds:List DV} {vs:List Value},aK w W objs L ds vs->vs.length=ds.length
 |[],_,h=>by simp only[aK]at h;simp[h]
 |_::ds,_,h=>by
  simp only[aK]at h;obtain⟨v,gY,rfl,_,_,hr⟩:=h;simp[aK.length hr]
theorem aK.get:∀{ds:List DV} {vs:List Value} {i:Nat} {d:DV},aK w W objs L ds vs->ds[i]? =some d->∃v,vs[i]? =some v/\v.oneCell'=true/\av w W objs L d v
 |[],_,_,_,_,h=>by simp at h
 |x::xs,_,0,t,hr,h=>by
  simp only[aK]at hr;obtain⟨v,gY,rfl,h1,h2,_⟩:=hr;simp only[ZaG,Zaa]at h;subst h;exact⟨v,rfl,h1,h2⟩
 |x::xs,_,i+1,t,hr,h=>by
  simp only[aK]at hr;obtain⟨v,gY,rfl,_,_,hr⟩:=hr;simpa using aK.get hr (by simpa using h)
theorem aK.append:∀{ds nJ:List DV} {vs gY:List Value},aK w W objs L ds vs->aK w W objs L nJ gY->aK w W objs L (ds++nJ) (vs++gY)
 |[],_,_,_,h,h'=>by simp only[aK]at h;subst h;simpa using h'
 |d::ds,_,_,_,h,h'=>by
  simp only[aK]at h;obtain⟨v,gY,rfl,h1,h2,hr⟩:=h;simp only[ZaH,aK];exact⟨v,_,rfl,h1,h2,aK.append hr h'⟩
theorem aK.take(n:Nat){ds:List DV}{vs:List Value}(h:aK w W objs L ds vs):aK w W objs L (ds.take n) (vs.take n):=by
 induction n generalizing ds vs with
 |zero=>simp[aK]
 |succ n ih=>
  cases ds with
  |nil=>simp only[aK]at h;subst h;simp[aK]
  |cons d ds=>
   simp only[aK]at h;obtain⟨v,gY,rfl,h1,h2,hr⟩:=h;simp only[ZbY,aK];exact⟨v,_,rfl,h1,h2,ih hr⟩
theorem aK.drop(n:Nat){ds:List DV}{vs:List Value}(h:aK w W objs L ds vs):aK w W objs L (ds.drop n) (vs.drop n):=by
 induction n generalizing ds vs with
 |zero=>simpa using h
 |succ n ih=>
  cases ds with
  |nil=>simp only[aK]at h;subst h;simp[aK]
  |cons d ds=>
   simp only[aK]at h;obtain⟨v,gY,rfl,h1,h2,hr⟩:=h;simpa using ih hr
theorem aP.append{ts ts':List T}:∀{vs gY:List Value},aP w W ts vs->aP w W ts' gY->aP w W (ts++ts') (vs++gY):=by
 induction ts with
 |nil=>intro vs gY h h';simp only[aP]at h;subst h;simpa using h'
 |cons d ds ih=>
  intro vs gY h h';simp only[aP]at h;obtain⟨v,gY,rfl,h1,h2,hr⟩:=h;simp only[ZaH,aP];exact⟨v,_,rfl,h1,h2,ih hr h'⟩
theorem aK.o9:∀{ts:List T} {vs:List Value},aP w (WW W objs L) ts vs->aK w W objs L (ts.map .v) vs
 |[],_,h=>by simpa [aP,aK]using h
 |t::ts,_,h=>by
  simp only[aP]at h;obtain⟨v,gY,rfl,h1,h2,hr⟩:=h;simp only[Zau,aK];exact⟨v,gY,rfl,h1,by simpa [av]using h2,aK.o9 hr⟩
theorem av.cells{d:DV}{x:Value}(h:av w W objs L d x)(hb:kX d):aK w W objs L (cellsOf d) x.cells.toList:=by
 have one:∀{d:DV} {x:Value},cellsOf d=[d]->x.oneCell'=true->av w W objs L d x->aK w W objs L (cellsOf d) x.cells.toList:=by
  intro d x hc h1 h;rw[hc];simp only[aK];refine⟨x,[], ?_,h1,h,rfl⟩;cases x<;>first|rfl|(simp[Value.oneCell']at h1)
 cases d with
 |undef=>exact hb.elim
 |skip=>exact hb.elim
 |aI=>obtain⟨a,rfl⟩:=(by simpa only[av]using h);exact one rfl rfl (by simp only[av];exact⟨a,rfl⟩)
 |ptr r off=>have h':=h;simp only[av]at h';obtain⟨_,rfl⟩:=h';exact one rfl rfl h
 |bk r ver=>have h':=h;simp only[av]at h';obtain⟨⟨p,n,c,rfl⟩,_⟩:=h';exact one rfl rfl h
 |ky rows i off=>have h':=h;simp only[av]at h';obtain⟨b,o,sz,rfl,_⟩:=h';exact one rfl rfl h
 |gz cs off=>have h':=h;simp only[av]at h';obtain⟨b,o,rfl,_⟩:=h';exact one rfl rfl h
 |jd r ver i off=>have h':=h;simp only[av]at h';obtain⟨⟨b,o,rfl⟩,_⟩:=h';exact one rfl rfl h
 |agg cs=>simp only[av]at h;obtain⟨vs,rfl,h⟩:=h;simpa [cellsOf,Value.cells]using h
 |CF=>have h':=h;simp only[av]at h';subst h';exact one rfl rfl h
 |iv r=>have h':=h;simp only[av]at h';obtain⟨_,rfl⟩:=h';exact one rfl rfl h
 |iter r=>have h':=h;simp only[av]at h';obtain⟨_,rfl⟩:=h';exact one rfl rfl h
 |eF ds=>exact hb.elim
 |mu f ds=>have h':=h;simp only[av]at h';obtain⟨vs,rfl,_⟩:=h';exact one rfl rfl h
 |sP r ver lo n=>have h':=h;simp only[av]at h';obtain⟨⟨p,c,rfl⟩,_⟩:=h';exact one rfl rfl h
 |D4 r n=>have h':=h;simp only[av]at h';obtain⟨_,rfl⟩:=h';exact one rfl rfl h
 |v t=>
  cases t with
  |agg cs=>simp only[av,aR]at h;obtain⟨vs,rfl,h⟩:=h;simpa [cellsOf,Value.cells]using aK.o9 h
  |eF ts=>exact hb.elim
  |bool b=>have h':=h;simp only[av,aR]at h';subst h';exact one rfl rfl h
  |int k n=>have h':=h;simp only[av,aR]at h';subst h';exact one rfl rfl h
  |str s=>have h':=h;simp only[av,aR]at h';subst h';exact one rfl rfl h
  |sl rows=>
   have h':=h;simp only[av,aR]at h';rcases h' with⟨_,a,c,rfl⟩|⟨b,o,cap,sz,rfl,_⟩<;>exact one rfl rfl h
  |fn f caps=>have h':=h;simp only[av,aR]at h';obtain⟨vs,rfl,_⟩:=h';exact one rfl rfl h
  |box cs=>have h':=h;simp only[av,aR]at h';obtain⟨b,o,rfl,_⟩:=h';exact one rfl rfl h
  |raw y=>have h':=h;simp only[av,aR]at h';subst h';exact one rfl hb h
end
theorem mZ.lt{base:Nat}{M:Nat->Prop}{w:World}{W:Nat->Prop}{objs:aU}{L:Loc}{r:Nat}{o:Ob}(h:mZ w W objs L base M r o){b:Nat}(hb:L.own r o=some b):b<w.heap.size:=by
 cases o with
 |box cs=>
  obtain⟨c,e,hc,_⟩:=h;simp only[Loc.own,Zaa]at hb;subst hb;exact(Zai.1 hc).1
 |arr ver e sz rows=>
  obtain⟨_,_,_,h⟩:=h;simp only[Loc.own]at hb;rcases h with⟨_,a,ha⟩|⟨g,cap,cur,hv,hp,hg,_⟩
  ·rw[ha]at hb;cases a<;>simp[aO]at hb
  ·rw[hv]at hb;simp only[aO,if_neg (Zay.1 hp),Zaa]at hb;subst hb;exact(Zai.1 hg).1
 |map shs agg c es=>
  obtain⟨arr,hc,_⟩:=h;simp only[Loc.own,Zaa]at hb;subst hb;exact(Zai.1 hc).1
 |iter m s sn l=>
  obtain⟨hc,_⟩:=h;simp only[Loc.own,Zaa]at hb;subst hb;exact(Zai.1 hc).1
theorem mZ.reach{base:Nat}{M:Nat->Prop}{w:World}{W:Nat->Prop}{objs:aU}{L:Loc}{r:Nat}{o:Ob}(h:mZ w W objs L base M r o){b:Nat}(hb:L.own r o=some b):base<=b\/M b:=by
 cases o with
 |box cs=>
  obtain⟨c,e,hc,_,hm⟩:=h;simp only[Loc.own,Zaa]at hb;subst hb;exact hm
 |arr ver e sz rows=>
  obtain⟨_,_,hm,_⟩:=h;exact hm b hb
 |map shs agg c es=>
  obtain⟨arr,hc,_,_,_,_,hm⟩:=h;simp only[Loc.own,Zaa]at hb;subst hb;exact hm
 |iter m s sn l=>
  obtain⟨hc,_,hm⟩:=h;simp only[Loc.own,Zaa]at hb;subst hb;exact hm
theorem mZ.aC{base:Nat}{M:Nat->Prop}{w w':World}{W:Nat->Prop}{objs aA:aU}{L L':Loc}{r:Nat}{o:Ob}(ha:iX W objs L w aA L' w')
  (h:mZ w W objs L base M r o) (eX:L'.gW r=L.gW r/\L'.sl r=L.sl r) (hblk:∀b,L.own r o=some b->w'.heap[b]? =w.heap[b]?):mZ w' W aA L' base M r o:=by
 cases o with
 |box cs=>
  obtain⟨c,e,hc,hr,hm⟩:=h;refine⟨c,e, ?_,aK.ee ha cs _ hr, ?_⟩
  ·rw[eX.1,hblk _ rfl];exact hc
  ·rw[eX.1];exact hm
 |arr ver e sz rows=>
  obtain⟨gB,cS,hm,h⟩:=h;refine⟨gB,cS,by rw[eX.2];exact hm, ?_⟩;rw[eX.2];rcases h with h|⟨g,cap,cur,hv,hp,hg,h1,h2,h3,h4⟩
  ·exact .inl h
  ·refine .inr ⟨g,cap,cur,hv,hp, ?_,h1,h2,h3,aP.aC ha.keeps.toKeepsC ha.sub _ _ h4⟩;rw[hblk g (by simp[Loc.own,hv,aO,Zay.1 hp])];exact hg
 |map shs agg c es=>
  obtain⟨arr,hc,hr,k1,k2,k3,hm⟩:=h;refine⟨arr, ?_,bj.ee ha es _ hr,k1,k2,k3, ?_⟩
  ·rw[eX.1,hblk _ rfl];exact hc
  ·rw[eX.1];exact hm
 |iter m s sn l=>
  obtain⟨hc,Jn,hm⟩:=h;have:=ha.mp m Jn;refine⟨?_,this.2, ?_⟩
  ·rw[eX.1,this.1,hblk _ rfl];exact hc
  ·rw[eX.1];exact hm
def Obj.plain:Obj->Prop
 |.cells _ _ _|.map _ _|.mapIter _ _ _ _=>True
 |_=>False
theorem mZ.cells{base:Nat}{M:Nat->Prop}{w:World}{W:Nat->Prop}{objs:aU}{L:Loc}{r:Nat}{o:Ob}(h:mZ w W objs L base M r o){b:Nat}(hb:L.own r o=some b):∃x,w.heap[b]? =some x/\Obj.plain x:=by
 cases o with
 |box cs=>
  obtain⟨c,e,hc,_⟩:=h;simp only[Loc.own,Zaa]at hb;subst hb;exact⟨_,hc,trivial⟩
 |map shs agg c es=>
  obtain⟨arr,hc,_⟩:=h;simp only[Loc.own,Zaa]at hb;subst hb;exact⟨_,hc,trivial⟩
 |iter m s sn l=>
  obtain⟨hc,_⟩:=h;simp only[Loc.own,Zaa]at hb;subst hb;exact⟨_,hc,trivial⟩
 |arr ver e sz rows=>
  obtain⟨_,_,_,h⟩:=h;simp only[Loc.own]at hb;rcases h with⟨_,a,ha⟩|⟨g,cap,cur,hv,hp,hg,_⟩
  ·rw[ha]at hb;cases a<;>simp[aO]at hb
  ·rw[hv]at hb;simp only[aO,if_neg (Zay.1 hp),Zaa]at hb;subst hb;exact⟨_,hg,trivial⟩
def bR(objs:aU):Option (Nat×Ob)->aU
 |none=>objs
 |some (r,o)=>λx=>if x=r then some o else objs x
theorem bK.put{base:Nat}{W M:Nat->Prop}{w0 w w':World}{objs:aU}{L L':Loc}{r:Nat}{o':Ob}(h:bK base W M w0 objs w L)
  (wi:Fr base M w0 w') (gB:w.heap.size<=w'.heap.size)
  (hL:∀x,x≠r->L'.gW x=L.gW x/\L'.sl x=L.sl x) (sZ:L'.yl=L.yl)
  (Gk:∀b,b<w.heap.size->(∀o,objs r=some o->L.own r o≠some b)->w'.heap[b]? =w.heap[b]?)
  (qJ:∀b,L'.own r o'=some b->(∃o,objs r=some o/\L.own r o=some b)\/w.heap.size<=b)
  (y6:∀o,objs r=some o->o.kind≠1->L'.gW r=L.gW r/\o'.kind=o.kind)
  (JC:∀ver e sz rows,objs r=some (.arr ver e sz rows)->∃ver' e' fY di,o'=.arr ver' e' fY di/\ver<=ver'/\(ver'=ver->L'.sl r=L.sl r/\fY=sz/\di.length=rows.length))
  (fH:iX W objs L w (bR objs (some (r,o'))) L' w'->mZ w' W (bR objs (some (r,o'))) L' base M r o'):
  bK base W M w0 (bR objs (some (r,o'))) w' L'/\iX W objs L w (bR objs (some (r,o'))) L' w':=by
 have eX:∀x (o:Ob),x≠r->L'.own x o=L.own x o:=λx o hx=>by
  have:=hL x hx;cases o<;>simp[Loc.own,this.1,this.2]
 have hother:∀x o b,x≠r->objs x=some o->L.own x o=some b->w'.heap[b]? =w.heap[b]? :=λx o b hx ho hb=>
  Gk b ((h.ob x o ho).lt hb) λo2 lI kv=>h.apart x r o o2 b hx ho lI hb kv
 have hnon:∀(b:Nat) x,w.heap[b]? =some x->¬Obj.plain x->w'.heap[b]? =some x:=λb x hb hx=>by
  refine(Gk b (Zai.1 hb).1 λo ho kv=>?_).trans hb;obtain⟨y,hc,hy⟩:=(h.ob r o ho).cells kv;rw[hc]at hb;cases hb;exact hx hy
 have ee:iX W objs L w (bR objs (some (r,o'))) L' w':=by
  refine⟨⟨⟨gB,λb c e fr hb hn=>?_⟩,λb hb=>hnon b _ hb (λe=>e),λb r hb=>hnon b _ hb (λe=>e)⟩,λb hb hw=>?_,λx o hx hk=>?_,λx ver e sz rows hx=>?_,sZ⟩
  ·exact(Gk b (Zai.1 hb).1 λo2 lI kv=>hn (.inr ⟨r,o2,lI,kv⟩)).trans hb
  ·rcases hw with hw|⟨x,o,ho,kv⟩
   ·exact .inl hw
   ·by_cases hx:x=r
    ·subst hx;simp only[bR,if_true]at ho;obtain rfl:o'=o:=by simpa using ho
     rcases qJ b kv with⟨o2,lI,Qd⟩|zf
     ·exact .inr ⟨x,o2,lI,Qd⟩
     ·omega
    ·simp only[bR,if_neg hx]at ho;exact .inr ⟨x,o,ho,by rw[<-eX x o hx];exact kv⟩
  ·by_cases Cg:x=r
   ·subst Cg;obtain⟨h1,h2⟩:=y6 o hx hk;exact⟨h1,o',by simp[bR],h2⟩
   ·exact⟨(hL x Cg).1,o,by simp[bR,Cg,hx],rfl⟩
  ·by_cases Cg:x=r
   ·subst Cg;obtain⟨ver',e',fY,di,rfl,h2,h3⟩:=JC ver e sz rows hx;exact⟨ver',e',fY,di,by simp[bR],h2,h3⟩
   ·exact⟨ver,e,sz,rows,by simp[bR,Cg,hx],Zae _,λ_=>⟨(hL x Cg).2,rfl,rfl⟩⟩
 refine⟨⟨wi,λx o ho=>?_,λx x' o o2 b bG ho lI hb kv=>?_,λx o b ho hb hw=>?_,h.under,h.gl.aC ee.keeps.toKeepsC ee.sub⟩,ee⟩
 ·by_cases hx:x=r
  ·subst hx;simp only[bR,if_true]at ho;obtain rfl:o'=o:=by simpa using ho
   exact fH ee
  ·simp only[bR,if_neg hx]at ho;exact mZ.aC ee (h.ob x o ho) (hL x hx) λb hb=>hother x o b hx ho hb
 ·by_cases hx:x=r
  ·subst hx;simp only[bR,if_true]at ho;obtain rfl:o'=o:=by simpa using ho
   have fZ:x'≠x:=λe=>bG e.symm;simp only[bR,if_neg fZ]at lI;rw[eX x' o2 fZ]at kv;rcases qJ b hb with⟨o3,ho3,Qd⟩|zf
   ·exact h.apart x' x o2 o3 b fZ lI ho3 kv Qd
   ·have:=(h.ob x' o2 lI).lt kv;omega
  ·simp only[bR,if_neg hx]at ho;rw[eX x o hx]at hb;by_cases fZ:x'=r
   ·subst fZ;simp only[bR,if_true]at lI;obtain rfl:o'=o2:=by simpa using lI
    rcases qJ b kv with⟨o3,ho3,Qd⟩|zf
    ·exact h.apart x x' o o3 b bG ho ho3 hb Qd
    ·have:=(h.ob x o ho).lt hb;omega
   ·simp only[bR,if_neg fZ]at lI;rw[eX x' o2 fZ]at kv;exact h.apart x x' o o2 b bG ho lI hb kv
 ·by_cases hx:x=r
  ·subst hx;simp only[bR,if_true]at ho;obtain rfl:o'=o:=by simpa using ho
   rcases qJ b hb with⟨o3,ho3,Qd⟩|zf
   ·exact h.outer x o3 b ho3 Qd hw
   ·have h1:=h.under b hw;have h2:=h.fr.hZ;have h3:=h.fr.size;omega
  ·simp only[bR,if_neg hx]at ho;rw[eX x o hx]at hb;exact h.outer x o b ho hb hw
theorem zN.start{w:World}{W:Nat->Prop}{L:Loc}(h:zN w W):zN w (WW W (λ_=>none) L):=
 h.aC (cb.refl W w).toKeepsC λb _ hw=>by
  rcases hw with hw|⟨r,o,hr,_⟩
  ·exact hw
  ·cases hr
theorem bK.grow{base:Nat}{W M:Nat->Prop}{w0 w w':World}{objs:aU}{L:Loc}(h:bK base W M w0 objs w L)(hb:tE w.heap.size w w'):
  bK base W M w0 objs w' L/\iX W objs L w objs L w':=by
 have ee:iX W objs L w objs L w':=iX.cd (cb.Gh hb.toBelow);have hle:base<=w.heap.size:=ZaC h.fr.hZ h.fr.size;refine⟨⟨h.fr.trans ⟨hb.os,hb.tape,hb.output,hle,hb.size,λk hk _=>hb.block k (by omega),hb.drawn⟩,λr o ho=>?_,h.apart,h.outer,h.under,h.gl.aC ee.keeps.toKeepsC ee.sub⟩,ee⟩;exact mZ.aC ee (h.ob r o ho) ⟨rfl,rfl⟩ λb kv=>hb.block b ((h.ob r o ho).lt kv)
end Go.DM
namespace Go.DM
open Go.RowKit
def kF:Value->Option DV
 |.int k n=>some (.v (.int k n))
 |.bool b=>some (.v (.bool b))
 |.string s=>some (.v (.str s))
 |.slice none 0 0=>some .aI
 |.pointer none=>some (.v (.raw (.pointer none)))
 |.nilFunc=>some (.v (.raw .nilFunc))
 |.nilIface=>some (.v (.raw .nilIface))
 |.map none=>some (.v (.raw (.map none)))
 |_=>none
def pa:Value->Option T
 |.int k n=>some (.int k n)
 |.bool b=>some (.bool b)
 |.string s=>some (.str s)
 |.slice none 0 0=>some (.sl [])
 |.pointer none=>some (.raw (.pointer none))
 |.nilFunc=>some (.raw .nilFunc)
 |.nilIface=>some (.raw .nilIface)
 |.map none=>some (.raw (.map none))
 |_=>none
variable [Laid]
def bp.of:Operand->Option bp
 |.tmp t=>some (.tmp t)
 |.const v=>(kF v).map .cq
 |.func f=>some (.cq (.v (.fn (.func f) [])))
 |.global g=>(Laid.cells.find? λp=>p.1==g).map λp=>.cq (.gz p.2 0)
section
variable{w:World}{W:Nat->Prop}{objs:aU}{L:Loc}
theorem tG:∀{x:Value} {d:DV},kF x=some d->av w W objs L d x/\x.oneCell'=true:=by
 intro x d h;unfold kF at h;split at h<;>simp only[Zaa,reduceCtorEq]at h<;>subst h<;>simp[av,aR,Value.oneCell']
theorem zT:∀{x:Value} {t:T},pa x=some t->aR w W t x/\x.oneCell'=true/\zO t=true:=by
 intro x d h;unfold pa at h;split at h<;>simp only[Zaa,reduceCtorEq]at h<;>subst h<;>simp[aR,Value.oneCell',zO]
theorem gC:∀{xs:List Value} {ds:List DV},xs.mapM kF=some ds->aK w W objs L ds xs
 |[],ds,h=>by simp at h;subst h;simp[aK]
 |x::xs,ds,h=>by
  simp only[Za2,Zaj,Zaf,Zac,Zaa]at h;obtain⟨d,hd,nJ,hds,rfl⟩:=h;simp only[aK];have:=tG (w:=w) (W:=W) (objs:=objs) (L:=L) hd;exact⟨x,xs,rfl,this.2,this.1,gC hds⟩
theorem pT:∀{xs:List Value} {ds:List T},xs.mapM pa=some ds->aP w W ds xs
 |[],ds,h=>by simp at h;subst h;simp[aP]
 |x::xs,ds,h=>by
  simp only[Za2,Zaj,Zaf,Zac,Zaa]at h;obtain⟨d,hd,nJ,hds,rfl⟩:=h;simp only[aP];have:=zT (w:=w) (W:=W) hd;exact⟨x,xs,rfl,this.2.1,this.1,pT hds⟩
theorem bp.bq{a:Act}{ρ:Nat->DV}(hg:zN w (WW W objs L))(gX:∀t,av w W objs L (ρ t) (a.tmps.getD t Go.undef)){x:Operand}{y:bp}(h:bp.of x=some y):av w W objs L (y.ev ρ) (a.eval x):=by
 cases x with
 |tmp t=>simp only[bp.of,Zaa]at h;subst h;simpa [bp.ev,Act.eval]using gX t
 |const v=>
  simp only[bp.of,Zab]at h;obtain⟨d,hd,rfl⟩:=h;exact(tG hd).1
 |func f=>simp only[bp.of,Zaa]at h;subst h;simp[bp.ev,Act.eval,av,aR,aP]
 |global g=>
  simp only[bp.of,Zab]at h;obtain⟨p,hp,rfl⟩:=h;have h1:=ZcM hp;obtain rfl:p.1=g:=by simpa using h1
  obtain⟨h2,h3,h4⟩:=hg p (ZbQ hp);simp only[bp.ev,Act.eval,av];exact⟨p.1,0,rfl,h2,h3,h4⟩
theorem kY(b o n:Nat):(⟨b,o,none⟩:Addr).add n=⟨b,o+n,none⟩:=by unfold Addr.add;split<;>simp_all
theorem x8{P:Program}{w:World}{b o:Nat}{vs:List Value}(h:∀j v,vs[j]? =some v->w.cell? ⟨b,o+j,none⟩=some v):
  (loadCells ⟨b,o,none⟩ vs.length).run P w=.ok vs.toArray w:=
 run_loadCells_list w _ vs λj v hv=>by rw[kY];exact h j v hv
theorem CI{P:Program}{w:World}{t:TypeId}{d:TypeDesc}(h:P.underlying t=some d):(isAgg t).run P w=.ok (match d with|.struct _|.array _ _=>true|_=>false) w:=by
 simp only[isAgg,Sem.run_bind,run_underlying h,Result.andThen_ok];cases d<;>rfl
theorem run_sizeOf{P:Program}{w:World}{t:TypeId}{i:TypeInfo}(h:P.info? t=some i):(sizeOf t).run P w=.ok i.size w:=by
 simp[sizeOf,typeInfo,h]
def bA:TypeDesc->Bool
 |.struct _|.array _ _=>true
 |_=>false
theorem ov{P:Program}{w:World}{t:TypeId}{d:TypeDesc}{i:TypeInfo}(hd:P.underlying t=some d)(hi:P.info? t=some i){b o:Nat}{vs:List Value}
  (hl:vs.length=i.size) (h:∀j v,vs[j]? =some v->w.cell? ⟨b,o+j,none⟩=some v) (hs:bA d=true\/i.size=1):
  (Instr.loadAt t (.pointer (some ⟨b,o,none⟩))).run P w=.ok (if bA d then .agg vs.toArray else vs.getD 0 Go.undef) w:=by
 have h1:(isAgg t).run P w=.ok (bA d) w:=by rw[CI hd];cases d<;>rfl
 simp only[Instr.loadAt,Instr.sureAddr,loadVar,Sem.run_bind,Sem.run_pure,Result.andThen_ok,h1];by_cases ha:bA d=true
 ·simp only[ha,if_true,Sem.run_bind,run_sizeOf hi,Result.andThen_ok];rw[<-hl,x8 h];rfl
 ·have h1:vs.length=1:=by rw[hl];exact hs.resolve_left ha
  match vs,h1 with
  |[v],_=>
   have:=h 0 v rfl;simp only[ZbI]at this;simp[ha,this]
theorem cV.vals{b:Nat}:∀{ts:List T} {o:Nat},cV w W b o ts->∃vs,aP w W ts vs/\∀j v,vs[j]? =some v->w.cell? ⟨b,o+j,none⟩=some v
 |[],o,_=>⟨[],by simp[aP],by simp⟩
 |t::ts,o,h=>by
  simp only[cV]at h;obtain⟨⟨v,hc,h1,hr⟩,jI⟩:=h;obtain⟨vs,hv,mC⟩:=cV.vals jI;refine⟨v::vs,by simp only[aP];exact⟨v,vs,rfl,h1,hr,hv⟩,λj u hu=>?_⟩;cases j with
  |zero=>simp only[ZaG,Zaa]at hu;subst hu;simpa using hc
  |succ j=>
   have:=mC j u (by simpa using hu)
   rwa [show o+(j+1)=o+1+j by omega]
theorem aP.split{ts ts':List T}:∀{vs:List Value},aP w W (ts++ts') vs->∃v1 v2,vs=v1++v2/\aP w W ts v1/\aP w W ts' v2:=by
 induction ts with
 |nil=>intro vs h;exact⟨[],vs,rfl,by simp[aP],h⟩
 |cons t ts ih=>
  intro vs h;simp only[ZaH,aP]at h;obtain⟨v,gY,rfl,h1,h2,hr⟩:=h;obtain⟨v1,v2,rfl,ha,hb⟩:=ih hr;exact⟨v::v1,v2,rfl,by simp only[aP];exact⟨v,v1,rfl,h1,h2,ha⟩,hb⟩
theorem cV.o9{b o:Nat}{ts:List T}{vs:List Value}(h:aP w W ts vs)(hc:∀j v,vs[j]? =some v->w.cell? ⟨b,o+j,none⟩=some v):cV w W b o ts:=
 cV.zM ts o λj t ht=>by
  obtain⟨v,hv,h1,hr⟩:=aP.get h ht;exact⟨v,hc j v hv,h1,hr⟩
theorem aX.ia{sz b:Nat}:∀{rows:List (List T)} {o:Nat} {vs:List Value},aP w W rows.flatten vs->(∀r∈rows,r.length=sz)->(∀j v,vs[j]? =some v->w.cell? ⟨b,o+j,none⟩=some v)->aX w W sz b o rows
 |[],_,_,_,_,_=>by simp[aX]
 |r::rs,o,vs,h,hl,hc=>by
  simp only[Zbe]at h;obtain⟨v1,v2,rfl,ha,hb⟩:=aP.split h;have hr:r.length=sz:=hl r (by simp);have zg:v1.length=sz:=by rw[aP.length ha,hr]
  simp only[aX];refine⟨hr,cV.o9 ha λj v hv=>hc j v ?_,aX.ia hb (λx hx=>hl x (by simp[hx])) λj v hv=>?_⟩
  ·rw[Zbj (Zas.1 hv).1];exact hv
  ·have:=hc (sz+j) v (by rw[Zbh (by omega),zg];simpa using hv)
   rwa [show o+sz+j=o+(sz+j)by omega]
theorem aX.flatten{sz b:Nat}:∀{rows:List (List T)} {o:Nat},aX w W sz b o rows->∃vs,vs.length=rows.length*sz/\aP w W rows.flatten vs/\∀j v,vs[j]? =some v->w.cell? ⟨b,o+j,none⟩=some v
 |[],o,_=>⟨[],by simp,by simp[aP],by simp⟩
 |r::rs,o,h=>by
  simp only[aX]at h;obtain⟨v1,h1,bb⟩:=cV.vals h.2.1;obtain⟨v2,qe,h2,dG⟩:=aX.flatten h.2.2;have zg:v1.length=sz:=by rw[aP.length h1,h.1]
  refine⟨v1++v2,by simp[zg,qe,Nat.add_mul];omega,by simpa using aP.append h1 h2,λj v hv=>?_⟩;by_cases hj:j<v1.length
  ·rw[Zbj hj]at hv;exact bb j v hv
  ·rw[Zbh (by omega)]at hv;have:=dG (j-v1.length) v hv
   rwa [show o+sz+(j-v1.length)=o+j by omega]at this
theorem mZ.rows{base:Nat}{M:Nat->Prop}{r ver e sz:Nat}{rows:List (List T)}(h:mZ w W objs L base M r (.arr ver e sz rows)){g:Nat}(hg:aO (L.sl r)=some g):
  aX w (WW W objs L) sz g 0 rows:=by
 obtain⟨_,hl,_,h⟩:=h;rcases h with⟨rfl,_⟩|⟨g',cap,cur,hv,hp,hh,h1,h2,h3,h4⟩
 ·simp[aX]
 ·rw[hv]at hg;simp only[aO,if_neg (Zay.1 hp),Zaa]at hg;subst hg;refine aX.ia h4 hl λj v hv=>?_;rw[ZaY,cell_of_row w g' j cur e (0,0) hh];rw[ZaF]at hv;split at hv
  ·simpa using hv
  ·cases hv
theorem wI{rows:List (List T)}{i:Int}(h0:0<=i)(h1:i<rows.length):rows[i.toNat]? =some (rowAt rows i):=by
 have:i.toNat<rows.length:=by omega
 simp[rowAt,List.getD,this]
theorem aP.take(n:Nat){ds:List T}:∀{vs:List Value},aP w W ds vs->aP w W (ds.take n) (vs.take n):=by
 induction n generalizing ds with
 |zero=>intro vs h;simp[aP]
 |succ n ih=>
  intro vs h;cases ds with
  |nil=>simp only[aP]at h;subst h;simp[aP]
  |cons d ds=>
   simp only[aP]at h;obtain⟨v,gY,rfl,h1,h2,hr⟩:=h;simp only[ZbY,aP];exact⟨v,_,rfl,h1,h2,ih hr⟩
theorem aP.drop(n:Nat){ds:List T}:∀{vs:List Value},aP w W ds vs->aP w W (ds.drop n) (vs.drop n):=by
 induction n generalizing ds with
 |zero=>intro vs h;simpa using h
 |succ n ih=>
  intro vs h;cases ds with
  |nil=>simp only[aP]at h;subst h;simp[aP]
  |cons d ds=>
   simp only[aP]at h;obtain⟨v,gY,rfl,h1,h2,hr⟩:=h;simpa using ih hr
theorem sb{P:Program}{t:TypeId}{d:TypeDesc}{i:TypeInfo}(hd:P.underlying t=some d)(hi:P.info? t=some i){b o off:Nat}{cs:List T}
  (hr:cV w (WW W objs L) b o cs) (aF:off+i.size<=cs.length/\(bA d=true\/i.size=1)):
  ∃v,(Instr.loadAt t (.pointer (some ⟨b,o+off,none⟩))).run P w=.ok v w/\
   av w W objs L (if bA d then .v (.agg ((cs.drop off).take i.size))else .v (cs.getD off default)) v:=by
 obtain⟨vs,hv,hc⟩:=cV.vals hr;have hl:=aP.length hv;have jj:=aP.take i.size (aP.drop off hv);refine⟨_,ov hd hi (vs:=(vs.drop off).take i.size) (by simp;omega) (λj v hj=>?_) aF.2, ?_⟩
 ·rw[ZaF]at hj;split at hj
  ·rw[Zbb]at hj;have:=hc _ _ hj
   rwa [show o+off+j=o+(off+j)by omega]
  ·cases hj
 ·by_cases ha:bA d=true
  ·simp only[ha,if_true,av,aR];exact⟨_,rfl,by simpa using jj⟩
  ·have h1:i.size=1:=aF.2.resolve_left ha;have cW:off<cs.length:=by omega
   obtain⟨v,pU,_,ff⟩:=aP.get hv (i:=off) (t:=cs[off]) (by simp[cW]);have e1:(List.take i.size (List.drop off vs)).getD 0 Go.undef=v:=by
    rw[h1];simp only[List.getD,ZaF,Zbb,ZbI,pU];simp
   have e2:cs.getD off default=cs[off]:=by simp[List.getD,cW]
   simp only[ha,e1,e2];exact ff
theorem zU{P:Program}{base:Nat}{M:Nat->Prop}{w0:World}(hO:bK base W M w0 objs w L){t:TypeId}{d:TypeDesc}{i:TypeInfo}(hd:P.underlying t=some d)(hi:P.info? t=some i)
  {x:DV} {xv:Value} (hx:av w W objs L x xv) (aF:(fX i.size (bA d) objs x).ok):
  (fX i.size (bA d) objs x).put=none/\∃v,(Instr.loadAt t xv).run P w=.ok v w/\av w W objs L (fX i.size (bA d) objs x).val v:=by
 cases x with
 |ptr r off=>
  simp only[av]at hx;obtain⟨⟨cs,hc⟩,rfl⟩:=hx;simp only[fX,hc]at aF⊢;refine⟨trivial, ?_⟩;obtain⟨c,e,hh,hr,_⟩:=hO.ob r _ hc;have hl:=aK.length hr;have pV:=aK.take i.size (aK.drop off hr);refine⟨_,ov hd hi (vs:=(c.toList.drop off).take i.size) (by simp at hl⊢;omega) (λj v hj=>?_) aF.2, ?_⟩
  ·rw[ZaF]at hj;split at hj
   ·rw[Zbb]at hj;rw[cell_of_row w _ _ c e (0,0) hh];simpa using hj
   ·cases hj
  ·by_cases ha:bA d=true
   ·simp only[ha,if_true,av];exact⟨_,rfl,by simpa using pV⟩
   ·have h1:i.size=1:=aF.2.resolve_left ha;have cW:off<cs.length:=by omega
    obtain⟨v,pU,_,ff⟩:=aK.get hr (i:=off) (d:=cs[off]) (by simp[cW]);have e1:(List.take i.size (List.drop off c.toList)).getD 0 Go.undef=v:=by
     rw[h1];simp only[List.getD,ZaF,Zbb,ZbI,pU];simp
    have e2:cs.getD off .undef=cs[off]:=by simp[List.getD,cW]
    simp only[ha,e1,e2];exact ff
 |ky rows j off=>
  simp only[av]at hx;obtain⟨b,o,sz,rfl,hb,hn,hr,h0,h1⟩:=hx;simp only[fX]at aF⊢;exact⟨trivial,sb hd hi (aX.row hr (wI h0 h1)).2 aF⟩
 |gz cs off=>
  simp only[av]at hx;obtain⟨b,o,rfl,hb,hn,hr⟩:=hx;simp only[fX]at aF⊢;exact⟨trivial,sb hd hi hr aF⟩
 |v t'=>
  cases t' with
  |box cs=>
   simp only[av,aR]at hx;obtain⟨b,o,rfl,hb,hn,hr⟩:=hx;simp only[fX]at aF⊢;have:=sb (objs:=objs) (L:=L) (W:=W) hd hi (off:=0) hr (by simpa using aF);refine⟨trivial, ?_⟩;simpa using this
  |_=>simp[fX,bad]at aF
 |jd r ver j off=>
  simp only[av]at hx;obtain⟨_,ver',e,sz,rows,ho,hle,hx⟩:=hx;simp only[fX,ho]at aF⊢;obtain⟨g,hg,rfl,h0,h1⟩:=hx aF.1;have tH:=mZ.rows (hO.ob r _ ho) hg;have:=(aX.row tH (wI h0 h1)).2;rw[ZaY]at this;exact⟨trivial,sb hd hi this aF.2⟩
 |_=>simp[fX,bad]at aF
end
end Go.DM
namespace Go.DM
open Go.RowKit
variable [Laid]
section
variable{w:World}{W:Nat->Prop}{objs:aU}{L:Loc}
theorem wJ{y:DV}(h:dv (cellsOf y))(hl:(cellsOf y).length≠0\/True):kX y:=by
 cases y with
 |undef=>simp[cellsOf,dv,je]at h
 |skip=>simp[cellsOf,dv,je]at h
 |v t=>
  cases t<;>simp_all [cellsOf,dv,je,kX,zO]
 |eF ds=>simp[cellsOf,dv,je]at h
 |_=>simp[kX]
theorem nK{y:DV}{yv:Value}(hy:av w W objs L y yv)(h:dv (cellsOf y)):aK w W objs L (cellsOf y) yv.cells.toList:=
 av.cells hy (wJ h (.inr trivial))
theorem aK.one{ds:List DV}:∀{vs:List Value},aK w W objs L ds vs->∀v∈vs,v.oneCell'=true:=by
 induction ds with
 |nil=>intro vs h;simp only[aK]at h;subst h;simp
 |cons d ds ih=>
  intro vs h;simp only[aK]at h;obtain⟨v,gY,rfl,h1,_,hr⟩:=h;intro u hu;rcases Zag.1 hu with rfl|hu
  ·exact h1
  ·exact ih hr u hu
theorem aP.one{ds:List T}:∀{vs:List Value},aP w W ds vs->∀v∈vs,v.oneCell'=true:=by
 induction ds with
 |nil=>intro vs h;simp only[aP]at h;subst h;simp
 |cons d ds ih=>
  intro vs h;simp only[aP]at h;obtain⟨v,gY,rfl,h1,_,hr⟩:=h;intro u hu;rcases Zag.1 hu with rfl|hu
  ·exact h1
  ·exact ih hr u hu
theorem aK.bH{a b:List DV}{va vb:List Value}(off:Nat)(ha:aK w W objs L a va)(hb:aK w W objs L b vb):aK w W objs L (bH a off b) (bH va off vb):=by
 unfold DM.bH;rw[<-aK.length hb];exact aK.append (aK.append (aK.take off ha) hb) (aK.drop _ ha)
theorem aP.bH{a b:List T}{va vb:List Value}(off:Nat)(ha:aP w W a va)(hb:aP w W b vb):aP w W (bH a off b) (bH va off vb):=by
 unfold DM.bH;rw[<-aP.length hb];exact aP.append (aP.append (aP.take off ha) hb) (aP.drop _ ha)
theorem wL{base:Nat}{M:Nat->Prop}{w0:World}{g:Nat}(cs:Array Value)(h:Fr base M w0 w)(hg:base<=g\/M g):Fr base M w0 (w.setRow g cs):=
 ⟨h.os,h.tape,h.output,h.hZ,by simpa using h.size,λk hk hm=>by
  rw[setRow_other w g k cs (by rintro rfl;exact hg.elim (λh1=>by omega) hm)];exact h.block k hk hm,by simpa using h.drawn⟩
theorem CJ{P:Program}{t:TypeId}{i:TypeInfo}(hi:P.info? t=some i){g o:Nat}{e:TypeId}{cur:Array Value}(hg:w.heap[g]? =some (.cells cur e (0,0))){yv:Value}
  (hl:yv.cells.size=i.size) (qK:o+i.size<=cur.size) (h1:∀v∈yv.cells.toList,v.oneCell'=true):
  (Instr.storeAt t (.pointer (some ⟨g,o,none⟩)) yv).run P w=.ok () (w.setRow g (bH cur.toList o yv.cells.toList).toArray):=by
 have hs:=run_storeCells_at P g o e yv.cells.toList 0 cur w hg (by simp[hl];omega) h1;simp only[ZbI]at hs;simp only[Instr.storeAt,Instr.sureAddr,storeVar,Sem.run_bind,Sem.run_pure,Result.andThen_ok,run_sizeOf hi,hl,ne_eq,not_true_eq_false,if_false];exact hs
theorem N0{P:Program}{base:Nat}{M:Nat->Prop}{w0:World}(hO:bK base W M w0 objs w L){t:TypeId}{i:TypeInfo}(hi:P.info? t=some i)
  {r off:Nat} {cs:List DV} (hc:objs r=some (.box cs)) {y:DV} {yv:Value} (hy:av w W objs L y yv)
  (hn:(cellsOf y).length=i.size) (qK:off+i.size<=cs.length) (zh:dv (cellsOf y)):
  ∃w',(Instr.storeAt t (.pointer (some ⟨L.gW r,off,none⟩)) yv).run P w=.ok () w'/\
   bK base W M w0 (bR objs (some (r,.box (bH cs off (cellsOf y))))) w' L/\iX W objs L w (bR objs (some (r,.box (bH cs off (cellsOf y))))) L w':=by
 obtain⟨c,e,hh,hr,hm⟩:=hO.ob r _ hc;have oa:=nK hy zh;have sZ:yv.cells.size=i.size:=by have:=aK.length oa;simpa [hn]using this
 have bd:c.size=cs.length:=by simpa using aK.length hr
 refine⟨_,CJ hi hh sZ (by omega) (aK.one oa), ?_⟩;refine bK.put hO (wL _ hO.fr hm) (by simp) (λ_ _=>⟨rfl,rfl⟩) rfl (λb _ hb=>setRow_other w _ b _ (λx=>hb _ hc (by simp[Loc.own,x])))
  (λb hb=>.inl ⟨_,hc,hb⟩) (λo' ga _=>by rw[hc]at ga;cases ga;exact⟨rfl,rfl⟩) (λver e sz rows h=>by rw[hc]at h;cases h) (λee=>?_)
 refine⟨_,e,setRow_heap w _ c _ e _ hh, ?_,hm⟩;exact aK.bH off (aK.ee ee _ _ hr) (aK.ee ee _ _ oa)
theorem fB{α:Type}{l new:List α}{off:Nat}(h:off+new.length<=l.length):(bH l off new).length=l.length:=by
 simp[bH];omega
theorem x9{α:Type}{l new:List α}{off n:Nat}(h:off+new.length<=n)(hn:n<=l.length):(bH l off new).take n=bH (l.take n) off new:=by
 unfold bH;have e1:List.take off (List.take n l)=List.take off l:=by rw[Zcw];congr 1;omega
 have e2:(List.take off l++new).length=off+new.length:=by simp;omega
 rw[e1,List.drop_take,ZcI,e2,Za3 (by omega)]
theorem ya{sz:Nat}:∀(rows:List (List T)) (i off:Nat) (new:List T),(∀r∈rows,r.length=sz)->i<rows.length->off+new.length<=sz->
  (rows.set i (bH (rows.getD i []) off new)).flatten=bH rows.flatten (i*sz+off) new
 |[],i,_,_,_,h,_=>by simp at h
 |r::rs,0,off,new,hl,_,hf=>by
  have hr:r.length=sz:=hl r (by simp);simp only[List.getD_cons_zero,Zce,Zbe,bH,Zcn,ZaY];rw[List.take_append_of_le_length (by omega),List.drop_append_of_le_length (by omega)];simp
 |r::rs,i+1,off,new,hl,h,hf=>by
  have hr:r.length=sz:=hl r (by simp);have ih:=ya rs i off new (λx hx=>hl x (by simp[hx])) (by simpa using h) hf;simp only[List.getD_cons_succ,Zcz,Zbe];rw[show∀(a b:List T),bH (a++b) ((i+1)*sz+off) new=(a++b).take ((i+1)*sz+off)++new++(a++b).drop ((i+1)*sz+off+new.length)from λ_ _=>rfl];have e:(i+1)*sz+off=r.length+(i*sz+off):=by rw[Nat.add_mul,hr];omega
  rw[e,ZcI,List.drop_append];have e1:r.length+(i*sz+off)-r.length=i*sz+off:=by omega
  have e2:r.length+(i*sz+off)+new.length-r.length=i*sz+off+new.length:=by omega
  rw[e1,e2,Za3 (l:=r) (by omega),Zby (as:=r) (by omega)];simp only[ZaK,List.append_assoc];rw[ih];simp only[bH,List.append_assoc]
theorem D8{objs2:aU}{d:DV}{v:Value}(hp:qF d)(h:av w W objs L d v):aR w (WW W objs L) (qd objs2 d) v:=by
 cases d with
 |v t=>simpa [qd,av]using h
 |aI=>
  simp only[av]at h;obtain⟨a,rfl⟩:=h;simp only[qd,aR];exact .inl ⟨trivial,a,0,rfl⟩
 |_=>exact hp.elim
theorem lV{objs2:aU}:∀{ds:List DV} {vs:List Value},gI ds->aK w W objs L ds vs->aP w (WW W objs L) (gO objs2 ds) vs
 |[],vs,_,h=>by simpa [aK,aP,gO]using h
 |d::ds,vs,hp,h=>by
  simp only[gI]at hp;simp only[aK]at h;obtain⟨v,gY,rfl,h1,h2,hr⟩:=h;simp only[gO,aP];exact⟨v,gY,rfl,h1,D8 hp.1 h2,lV hp.2 hr⟩
theorem qL:∀{ds:List DV},gI ds->dv ds
 |[],_=>trivial
 |d::ds,h=>by
  simp only[gI]at h;simp only[dv];refine⟨?_,qL h.2⟩;have:=h.1;cases d<;>simp_all [qF,je]
theorem qM:∀(ds:List DV),(gO objs ds).length=ds.length
 |[]=>rfl
 |_::ds=>by simp[gO,qM ds]
theorem N1{P:Program}{base:Nat}{M:Nat->Prop}{w0:World}(hO:bK base W M w0 objs w L){t:TypeId}{i:TypeInfo}(hi:P.info? t=some i)
  {r off ver e sz:Nat} {rows:List (List T)} {j:Int} {g:Nat} (hc:objs r=some (.arr ver e sz rows)) (hg:aO (L.sl r)=some g) (h0:0<=j) (h1:j<rows.length)
  {y:DV} {yv:Value} (hy:av w W objs L y yv) (hn:(cellsOf y).length=i.size) (qK:off+i.size<=sz) (zh:gI (cellsOf y)):
  ∃w',(Instr.storeAt t (.pointer (some ⟨g,j.toNat*sz+off,none⟩)) yv).run P w=.ok () w'/\
   bK base W M w0 (bR objs (some (r,.arr ver e sz (rows.set j.toNat (bH (rowAt rows j) off (gO objs (cellsOf y))))))) w' L/\
   iX W objs L w (bR objs (some (r,.arr ver e sz (rows.set j.toNat (bH (rowAt rows j) off (gO objs (cellsOf y))))))) L w':=by
 have fH:=hO.ob r _ hc;obtain⟨gB,cS,hm,kl⟩:=fH;rcases kl with⟨rfl,_⟩|⟨g',cap,cur,hv,hp,hh,hle,pb,D9,eI⟩
 ·simp at h1;omega
 ·rw[hv]at hg;simp only[aO,if_neg (Zay.1 hp),Zaa]at hg;subst hg;have oa:=nK hy (qL zh);have sZ:yv.cells.size=i.size:=by have:=aK.length oa;simpa [hn]using this
  have hj:j.toNat<rows.length:=by omega
  have hjs:j.toNat*sz+sz<=rows.length*sz:=by
   have:=ZaM sz (show j.toNat+1<=rows.length by omega)
   rwa [Nat.add_mul,Nat.one_mul]at this
  have mC:rows.length*sz<=cap*sz:=ZaM sz hle;have W0:(gO objs (cellsOf y)).length=i.size:=by rw[qM];exact hn
  have wj:yv.cells.toList.length=i.size:=by simpa using sZ
  have eX:L.own r (.arr ver e sz rows)=some g':=by simp[Loc.own,hv,aO,Zay.1 hp]
  refine⟨_,CJ hi hh sZ (by omega) (aK.one oa), ?_⟩;refine bK.put hO (wL _ hO.fr (hm g' (by simp[hv,aO,Zay.1 hp]))) (by simp) (λ_ _=>⟨rfl,rfl⟩) rfl (λb _ hb=>setRow_other w _ b _ (λx=>hb _ hc (by rw[eX,x])))
   (λb hb=>.inl ⟨_,hc,hb⟩) (λo' ga hk=>by rw[hc]at ga;cases ga;exact absurd rfl hk) (λver' e' fY di h=>?_) (λee=>?_)
  ·rw[hc]at h;cases h;exact⟨ver,e,sz,_,rfl,Zae _,λ_=>⟨rfl,rfl,by simp⟩⟩
  ·refine⟨gB,λx hx=>?_,hm,.inr ⟨g',cap,_,by simpa using hv,hp,setRow_heap w _ cur _ e _ hh,by simpa using hle,pb, ?_, ?_⟩⟩
   ·rcases Za0 hx with hx|rfl
    ·exact cS x hx
    ·rw[fB]
     ·exact cS _ (by rw[rowAt,List.getD,Zan hj];simp)
     ·have:(rowAt rows j).length=sz:=cS _ (by rw[rowAt,List.getD,Zan hj];simp);omega
   ·have:=fB (l:=cur.toList) (new:=yv.cells.toList) (off:=j.toNat*sz+off) (by simp only[ZaU]at wj⊢;omega);simpa using this.trans (by simpa using D9)
   ·rw[show rowAt rows j=rows.getD j.toNat []from rfl,ya rows j.toNat off _ cS hj (by omega)];simp only[ZcN];have e1:(bH cur.toList (j.toNat*sz+off) yv.cells.toList).toArray.toList.take (rows.length*sz)=bH (cur.toList.take (rows.length*sz)) (j.toNat*sz+off) yv.cells.toList:=by
     rw[List.toList_toArray];exact x9 (by omega) (by simp;omega)
    rw[e1];exact aP.bH _ (aP.aC ee.keeps.toKeepsC ee.sub _ _ eI) (aP.aC ee.keeps.toKeepsC ee.sub _ _ (lV zh oa))
def Loc.fC(L:Loc)(r b:Nat):Loc:=⟨λx=>if x=r then b else L.gW x,L.sl,L.yl⟩
def Loc.gD(L:Loc)(r:Nat)(v:Value):Loc:=⟨L.gW,λx=>if x=r then v else L.sl x,L.yl⟩
theorem uM{base:Nat}{M:Nat->Prop}{w0 w':World}(h:Fr base M w0 w)(hb:tE w.heap.size w w'):Fr base M w0 w':=by
 have hle:base<=w.heap.size:=ZaC h.hZ h.size;exact h.trans ⟨hb.os,hb.tape,hb.output,hle,hb.size,λk hk _=>hb.block k (by omega),hb.drawn⟩
theorem jw(o:Obj):tE w.heap.size w (w.alloc o):=⟨(Below.refl _ _).alloc (Zae _) _,Zae _⟩
theorem Ea{base:Nat}{M:Nat->Prop}{w0:World}(hO:bK base W M w0 objs w L){r:Nat}(hr:objs r=none){cs:List DV}{c:Array Value}(e:TypeId)(hc:aK w W objs L cs c.toList):
  bK base W M w0 (bR objs (some (r,.box cs))) (w.alloc (.cells c e)) (L.fC r w.heap.size)/\
   iX W objs L w (bR objs (some (r,.box cs))) (L.fC r w.heap.size) (w.alloc (.cells c e)):=by
 have hb:=jw (w:=w) (.cells c e);refine bK.put hO (uM hO.fr hb) hb.size (λx hx=>⟨by simp[Loc.fC,hx],rfl⟩) rfl (λb cW _=>hb.block b cW) (λb h=>.inr ?_)
  (λo' h _=>by rw[hr]at h;cases h) (λ_ _ _ _ h=>by rw[hr]at h;cases h) (λee=>?_)
 ·simp only[Loc.own,Loc.fC,if_true,Zaa]at h;omega
 ·refine⟨c,e, ?_,aK.ee ee _ _ hc,.inl ?_⟩
  ·simp only[Loc.fC,if_true];exact heap_alloc_new w _
  ·simp only[Loc.fC,if_true];exact ZaC hO.fr.hZ hO.fr.size
theorem qN{base:Nat}{M:Nat->Prop}{w0:World}(hO:bK base W M w0 objs w L){r ver e sz lo n:Nat}{rows:List (List T)}{xv:Value}(hc:objs r=some (.arr ver e sz rows))
  (hx:lo+n<=rows.length/\∃p cap p2,L.sl r=.slice p rows.length cap/\xv=.slice p2 n (cap-lo)/\(lo<cap->p2=p.map (·.add (lo*sz)))):
  (n=0/\∃(a:Option Addr) (c:Nat),xv=.slice a 0 c)\/∃g c,aO (L.sl r)=some g/\xv=.slice (some ⟨g,lo*sz,none⟩) n c/\n<=c/\aX w (WW W objs L) sz g (lo*sz) ((rows.drop lo).take n):=by
 obtain⟨Qe,p,cap,p2,sQ,rfl,Mn⟩:=hx;by_cases hn:n=0
 ·subst hn;exact .inl ⟨rfl,p2,_,rfl⟩
 ·have fH:=hO.ob r _ hc;obtain⟨_,cS,hm,kl⟩:=fH;rcases kl with⟨rfl,a,ha⟩|⟨g,cap',cur,h1,h2,h3,h4,h5,h6,h7⟩
  ·simp at Qe;omega
  ·have uA:aO (L.sl r)=some g:=by rw[h1];simp[aO,Zay.1 h2]
   have tH:=mZ.rows (hO.ob r _ hc) uA;rw[sQ]at h1;simp only[Value.slice.injEq]at h1;obtain⟨rfl,_,rfl⟩:=h1;have:=Mn (by omega);subst this;refine .inr ⟨g,cap-lo,uA,by simp[kY],by omega,aX.ze _ _ λj x hj=>?_⟩;rw[ZaF]at hj;split at hj
   ·rw[Zbb]at hj;have:=aX.row tH hj;rw[ZaY,Nat.add_mul]at this;exact this
   ·cases hj
structure Qf(w:World)(W':Nat->Prop)(ys:List (List T))(sz:Nat)(v:Value):Prop where
 it:(ys=[]/\∃(a:Option Addr) (c:Nat),v=.slice a 0 c)\/∃b o c,v=.slice (some ⟨b,o,none⟩) ys.length c/\aX w W' sz b o ys
theorem oz{base:Nat}{M:Nat->Prop}{w0:World}(hO:bK base W M w0 objs w L){y:DV}{yv:Value}{ys:List (List T)}{sz:Nat}(hy:av w W objs L y yv)(hs:dX objs y=some ys)(hl:∀r∈ys,r.length=sz):
  Qf w (WW W objs L) ys sz yv:=by
 cases y with
 |v t=>
  cases t with
  |sl rows=>
   simp only[dX,Zaa]at hs;subst hs;simp only[av,aR]at hy;rcases hy with hy|⟨b,o,cap,fY,rfl,_,_,hc,hr⟩
   ·exact⟨.inl hy⟩
   ·refine⟨.inr ⟨b,o,cap,rfl, ?_⟩⟩
    match rows,hr with
    |[],_=>simp[aX]
    |r::rs,hr=>
     have h1:=(aX.row hr (i:=0) (r:=r) rfl).1;have h2:=hl r (by simp);have:fY=sz:=by omega
     exact this▸hr
  |raw v=>
   unfold dX at hs;split at hs<;>simp_all
   simp only[av,aR]at hy;exact⟨.inl ⟨rfl,_,_,hy⟩⟩
  |_=>simp[dX]at hs
 |aI=>
  simp only[dX,Zaa]at hs;subst hs;simp only[av]at hy;obtain⟨a,rfl⟩:=hy;exact⟨.inl ⟨rfl,a,0,rfl⟩⟩
 |bk r ver=>
  simp only[dX]at hs;simp only[av]at hy;obtain⟨_,ver',e,fY,rows,ho,_,hx⟩:=hy;rw[ho]at hs;simp only at hs;split at hs
  ·rename_i hv;simp only[Zaa]at hs;subst hs;have fH:=hO.ob r _ ho;obtain⟨gB,cS,hm,kl⟩:=fH;rw[hx hv];rcases kl with⟨rfl,a,ha⟩|⟨g',cap,cur,pU,hp,hh,hle,pb,D9,eI⟩
   ·exact⟨.inl ⟨rfl,a,0,ha⟩⟩
   ·have tH:=mZ.rows (hO.ob r _ ho) (g:=g') (by simp[pU,aO,Zay.1 hp]);refine⟨.inr ⟨g',0,cap,pU, ?_⟩⟩
    match rows,tH,hl,cS with
    |[],_,_,_=>simp[aX]
    |r::rs,hr,hl,cS=>
     have h1:=cS r (by simp);have h2:=hl r (by simp);have:fY=sz:=by omega
     exact this▸hr
  ·cases hs
 |sP r ver lo n=>
  simp only[dX]at hs;simp only[av]at hy;obtain⟨_,ver',e,fY,rows,ho,_,hx⟩:=hy;rw[ho]at hs;simp only at hs;split at hs
  ·rename_i hv;subst hv;simp only[Zaa]at hs;subst hs;have Qe:=(hx rfl).1;have D1:((rows.drop lo).take n).length=n:=by rw[Zaw,Za9];omega
   rcases qN hO ho (hx rfl)with⟨rfl,a,c,rfl⟩|⟨g,c,_,rfl,_,hr⟩
   ·exact⟨.inl ⟨by simp,a,c,rfl⟩⟩
   ·refine⟨.inr ⟨g,lo*fY,c,by rw[D1], ?_⟩⟩;have cS:=(hO.ob r _ ho).2.1
    match hq:(rows.drop lo).take n,hr,hl with
    |[],_,_=>simp[aX]
    |q::qs,hr,hl=>
     have h1:=cS q (Zbv (Zav (by rw[hq];simp)));have h2:=hl q (by simp);have:fY=sz:=by omega
     exact this▸hr
  ·cases hs
 |_=>simp[dX]at hs
theorem jk{P:Program}(w:World)(t ty e:TypeId)(i:TypeInfo)(ht:P.underlying t=some (.slice e))(hi:P.info? e=some i)(a b:Option Addr)(n cap c:Nat)(hn:n<=cap):
  (Builtin.append_ #[t,t] ty #[.slice a n cap,.slice b 0 c]).run P w=.ok (.slice a n cap) w:=by
 have hf:(Builtin.firstCells i.size 0 (.slice b 0 c)).run P w=.ok #[] w:=by
  cases b<;>simp[Builtin.firstCells,loadCells,loadCellsFrom]
 cases a<;>simp[Builtin.append_,run_underlying ht,sizeOf,typeInfo,hi,Builtin.lenOf,hn,hf,storeCells]
theorem zV{e sz:Nat}{z:Value}(FY:z.cells.size=sz){n m old:Nat}{xs vs:List Value}(hx:xs.length=n*sz)(hv:vs.length=m*sz)(h63:n+m<=maxLen):
  (w.drew.alloc (.cells (xs.toArray++vs.toArray++Builtin.zeroCells z.cells (grownCap w (n+m) old e-(n+m))) e)).ownsRow 0 e sz (.slice (some ⟨w.heap.size,0,none⟩) (n+m) (grownCap w (n+m) old e)) (n+m) (xs++vs)/\
   ∀row,w.grownBy (w.drew.alloc (.cells (xs.toArray++vs.toArray++Builtin.zeroCells z.cells (grownCap w (n+m) old e-(n+m))) e)) row:=by
 have zf:=grownCap_ge w (n+m) old e;have Eb:grownCap w (n+m) old e<=maxLen:=grownCap_le_maxLen w (n+m) old e h63;have hlen:(xs++vs).length=(n+m)*sz:=by rw[ZaA,hx,hv,Nat.add_mul]
 refine⟨⟨hlen,.inr ⟨w.heap.size,_,_,rfl,Zbf _,heap_alloc_new w.drew _,zf,Eb, ?_, ?_⟩⟩,λrow=>⟨rfl,rfl,rfl,by simp,λk hk _=>heap_alloc_old w.drew _ k hk⟩⟩
 ·simp only[Array.size_append,List.size_toArray,size_zeroCells,FY,hx,hv,<-Nat.add_mul]
  congr 1
  omega
 ·simp only[Array.toList_append,List.append_assoc];rw[<-List.append_assoc,<-hlen];exact List.take_left
theorem N2{r:Nat}{o:Ob}(h:objs r=some o):bR objs (some (r,o))=objs:=by
 funext x;simp only[bR];split
 ·rename_i e;rw[e,h]
 ·rfl
theorem zW{sz:Nat}{rows new:List (List T)}{lo:Nat}(hr:∀r∈rows,r.length=sz)(hn:∀r∈new,r.length=sz)(h:lo+new.length<=rows.length):(bH rows lo new).flatten=bH rows.flatten (lo*sz) new.flatten:=by
 have key:∀(l:List (List T)),(∀r∈l,r.length=sz)->l.flatten.length=l.length*sz:=by
  intro l;induction l with
  |nil=>simp
  |cons r rs ih=>intro h;simp[ih (λx hx=>h x (by simp[hx])),h r (by simp),Nat.add_mul];omega
 have tk:∀(k:Nat),k<=rows.length->(rows.take k).flatten=rows.flatten.take (k*sz)/\(rows.drop k).flatten=rows.flatten.drop (k*sz):=by
  intro k hk;have h8:rows.flatten=(rows.take k).flatten++(rows.drop k).flatten:=by rw[<-List.flatten_append,Zbd]
  have h9:(rows.take k).flatten.length=k*sz:=by rw[key _ (λr h=>hr r (Zav h)),Zaw];congr 1;omega
  rw[h8,Zco h9,List.drop_left' h9];exact⟨rfl,rfl⟩
 unfold bH;rw[List.flatten_append,List.flatten_append,(tk lo (by omega)).1,(tk _ h).2,key new hn,Nat.add_mul]
theorem CK{P:Program}{base:Nat}{M:Nat->Prop}{w0:World}(hO:bK base W M w0 objs w L){t t' ty e0:TypeId}{i:TypeInfo}(ht:P.underlying t=some (.slice e0))(hi:P.info? e0=some i)
  {r ver e lo n:Nat} {rows:List (List T)} (hc:objs r=some (.arr ver e i.size rows)) (Qe:lo+n<=rows.length) {xv yv:Value}
  (jQ:(n=0/\∃(a:Option Addr) (c:Nat),xv=.slice a 0 c)\/∃g c,aO (L.sl r)=some g/\xv=.slice (some ⟨g,lo*i.size,none⟩) n c) {ys:List (List T)} (hs:Qf w (WW W objs L) ys i.size yv) (sZ:∀r∈ys,r.length=i.size):
  ∃w',(Builtin.copy_ #[t,t'] ty #[xv,yv]).run P w=.ok (goInt (min ys.length n:Nat)) w'/\
   bK base W M w0 (bR objs (some (r,.arr ver e i.size (bH rows lo (ys.take n))))) w' L/\iX W objs L w (bR objs (some (r,.arr ver e i.size (bH rows lo (ys.take n))))) L w':=by
 have stay:ys.take n=[]->bK base W M w0 (bR objs (some (r,.arr ver e i.size (bH rows lo (ys.take n))))) w L/\iX W objs L w (bR objs (some (r,.arr ver e i.size (bH rows lo (ys.take n))))) L w:=by
  intro h0;have e1:bH rows lo (ys.take n)=rows:=by rw[h0];simp[bH]
  rw[e1,N2 hc];exact⟨hO,iX.cd (cb.refl _ _)⟩
 have hlen:∃(p:Option Addr) (c:Nat),yv=.slice p ys.length c:=by
  rcases hs.it with⟨rfl,a,c,rfl⟩|⟨b,o,c,rfl,_⟩
  ·exact⟨a,c,rfl⟩
  ·exact⟨_,c,rfl⟩
 have hf0:∀(v:Value) (p:Option Addr) (m c:Nat),v=.slice p m c->(Builtin.firstCells i.size 0 v).run P w=.ok #[] w:=by
  rintro v p m c rfl;cases p<;>simp[Builtin.firstCells,loadCells,loadCellsFrom]
 obtain⟨yp,yc,hyv⟩:=hlen;rcases jQ with⟨rfl,a,c,rfl⟩|⟨g,c,hg,rfl⟩
 ·refine⟨w, ?_,stay (by simp)⟩;have:=hf0 yv yp _ yc hyv;subst hyv;cases a<;>simp[Builtin.copy_,run_underlying ht,Builtin.lenOf,run_sizeOf hi,this,storeCells]
 ·by_cases hm:min ys.length n=0
  ·refine⟨w, ?_,stay ?_⟩
   ·have:=hf0 yv yp _ yc hyv;subst hyv;have Ec:Nat.min ys.length n=0:=hm;simp[Builtin.copy_,run_underlying ht,Builtin.lenOf,run_sizeOf hi,hm,this,storeCells]
   ·by_cases h:ys.length=0
    ·rw[ZaD h];simp
    ·rw[show n=0 by omega];simp
  ·rcases hs.it with⟨rfl,_⟩|⟨b,o,c',hyv2,hr⟩
   ·simp at hm
   ·have fH:=hO.ob r _ hc;obtain⟨gB,cS,Mo,kl⟩:=fH;rcases kl with⟨rfl,_⟩|⟨g',cap,cur,h1,h2,h3,h4,h5,h6,h7⟩
    ·simp at Qe;omega
    ·have uA:aO (L.sl r)=some g':=by rw[h1];simp[aO,Zay.1 h2]
     rw[uA]at hg;cases hg;obtain⟨vs,wj,zi,Qg⟩:=aX.flatten hr;have Ed:min ys.length n*i.size<=vs.length:=by rw[wj];exact ZaM _ (Nat.min_le_left _ _)
     have N3:(ys.take n).length=min ys.length n:=by rw[Zaw,Nat.min_comm]
     have D1:(vs.take (min ys.length n*i.size)).length=min ys.length n*i.size:=by rw[Zaw];omega
     have YL:(Builtin.firstCells i.size (min ys.length n) yv).run P w=.ok (vs.take (min ys.length n*i.size)).toArray w:=by
      rw[hyv2];simp only[Builtin.firstCells];have:=x8 (P:=P) (w:=w) (b:=b) (o:=o) (vs:=vs.take (min ys.length n*i.size)) (λj v hj=>Qg j v (by
       rw[ZaF]at hj;split at hj
       ·exact hj
       ·cases hj))
      rw[D1]at this;exact this
     have hfl:(ys.take n).flatten=ys.flatten.take (min ys.length n*i.size):=by
      have h8:ys.flatten=(ys.take n).flatten++(ys.drop n).flatten:=by rw[<-List.flatten_append,Zbd]
      rw[h8,Zco];have key:∀(l:List (List T)),(∀r∈l,r.length=i.size)->l.flatten.length=l.length*i.size:=by
       intro l;induction l with
       |nil=>simp
       |cons r rs ih=>intro h;simp[ih (λx hx=>h x (by simp[hx])),h r (by simp),Nat.add_mul];omega
      rw[key _ (λr h=>sZ r (Zav h)),N3]
     have qK:lo*i.size+min ys.length n*i.size<=rows.length*i.size:=by
      rw[<-Nat.add_mul];exact ZaM _ (by omega)
     have hcapr:rows.length*i.size<=cap*i.size:=ZaM _ h4;have PT:aP w (WW W objs L) (ys.take n).flatten (vs.take (min ys.length n*i.size)):=by rw[hfl];exact aP.take _ zi
     have lF:=run_storeCells_at P g (lo*i.size) e (vs.take (min ys.length n*i.size)) 0 cur w h3 (by rw[D1,h6];omega) (aP.one PT);have eX:L.own r (.arr ver e i.size rows)=some g:=uA;refine⟨w.setRow g (bH cur.toList (lo*i.size) (vs.take (min ys.length n*i.size))).toArray, ?_, ?_⟩
     ·have Ec:Nat.min ys.length n=min ys.length n:=rfl;rw[hyv2]at YL⊢;simp only[Builtin.copy_,Builtin.lenOf];simp only[ZbI]at lF;simp[run_underlying ht,run_sizeOf hi,YL,lF,bH]
     ·refine bK.put hO (wL _ hO.fr (Mo g uA)) (by simp) (λ_ _=>⟨rfl,rfl⟩) rfl (λb _ hb=>setRow_other w _ b _ (λx=>hb _ hc (by rw[eX,x])))
       (λb hb=>.inl ⟨_,hc,hb⟩) (λo' ga hk=>by rw[hc]at ga;cases ga;exact absurd rfl hk) (λver' e' fY di h=>?_) (λee=>?_)
      ·rw[hc]at h;cases h;exact⟨ver,e,i.size,_,rfl,Zae _,λ_=>⟨rfl,rfl,fB (by rw[N3];omega)⟩⟩
      ·have qe:(bH rows lo (ys.take n)).length=rows.length:=fB (by rw[N3];omega);refine⟨gB,λx hx=>?_,Mo,.inr ⟨g,cap,_,by rw[qe];exact h1,h2,setRow_heap w _ cur _ e _ h3,by rw[qe];exact h4,h5, ?_, ?_⟩⟩
       ·simp only[bH,Zao]at hx;rcases hx with(hx|hx)|hx
        ·exact cS x (Zav hx)
        ·exact sZ x (Zav hx)
        ·exact cS x (Zbv hx)
       ·have:=fB (l:=cur.toList) (new:=vs.take (min ys.length n*i.size)) (off:=lo*i.size) (by rw[D1];simp only[ZaU,h6];omega);simpa using this.trans (by simpa using h6)
       ·rw[qe,zW cS (λx hx=>sZ x (Zav hx)) (by rw[N3];omega)];rw[List.toList_toArray,x9 (by rw[D1];omega) (by simp only[ZaU,h6];omega)];exact aP.bH _ (aP.aC ee.keeps.toKeepsC ee.sub _ _ h7) (aP.aC ee.keeps.toKeepsC ee.sub _ _ PT)
theorem mD{P:Program}{t ty e:TypeId}{i:TypeInfo}{z:Value}{sz:Nat}(ht:P.underlying t=some (.slice e))(hi:P.info? e=some i)(hz:i.zero=some z)(s8:i.size=sz)(FY:z.cells.size=sz)
  {W':Nat->Prop} {v:Value} {n:Nat} {xs:List Value} (eX:(n=0/\xs=[]/\∃a:Option Addr,v=.slice a 0 0)\/∃g cap cur,v=.slice (some ⟨g,0,none⟩) n cap/\0<cap/\w.heap[g]? =some (.cells cur e (0,0))/\n<=cap/\cap<=maxLen/\cur.size=cap*sz/\cur.toList.take (n*sz)=xs)
  {ys:List (List T)} {yv:Value} (hs:Qf w W' ys sz yv) (hyw:∀b o,aX w W' sz b o ys->∃vs,vs.length=ys.length*sz/\aP w W' ys.flatten vs/\∀j v,vs[j]? =some v->w.cell? ⟨b,o+j,none⟩=some v) (oC:cG i.bytes (n+ys.length)):
  ∃v' w' vs,(Builtin.append_ #[t,t] ty #[v,yv]).run P w=.ok v' w'/\aP w W' ys.flatten vs/\vs.length=ys.length*sz/\
   ((n+ys.length=0/\∃a:Option Addr,v'=.slice a 0 0)\/∃g cap cur,v'=.slice (some ⟨g,0,none⟩) (n+ys.length) cap/\0<cap/\w'.heap[g]? =some (.cells cur e (0,0))/\n+ys.length<=cap/\cap<=maxLen/\cur.size=cap*sz/\
     cur.toList.take ((n+ys.length)*sz)=xs++vs)/\
   w.grownBy w' (aO v)/\(∀b,aO v'=some b->aO v=some b\/w.heap.size<=b)/\w.drawn<=w'.drawn:=by
 have h63:n+ys.length<=maxLen:=by have:=oC.2;simp only[maxLen];omega
 have h63i:((n+ys.length:Nat):Int)<=9223372036854775807:=by have:=oC.2;omega
 have Mp:w.grownBy w (aO v):=⟨rfl,rfl,rfl,Zae _,λ_ _ _=>rfl⟩;rcases hs.it with⟨rfl,b,c,rfl⟩|⟨b,o,c,rfl,hr⟩
 ·rcases eX with⟨rfl,rfl,a,rfl⟩|⟨g,cap,cur,rfl,hp,hg,h1,h2,h3,h4⟩
  ·exact⟨_,w,[],jk w t ty e i ht hi a b 0 0 c (Zae _),by simp[aP],by simp,.inl ⟨rfl,a,rfl⟩,Mp,λb hb=>.inl hb,Zae _⟩
  ·exact⟨_,w,[],jk w t ty e i ht hi _ b n cap c h1,by simp[aP],by simp,.inr ⟨g,cap,cur,rfl,hp,hg,h1,h2,h3,by simpa using h4⟩,Mp,λb hb=>.inl hb,Zae _⟩
 ·obtain⟨vs,wj,zi,Qg⟩:=hyw b o hr;have hvc':∀j v,vs[j]? =some v->w.cell? ((⟨b,o,none⟩:Addr).add j)=some v:=λj v h=>by rw[kY];exact Qg j v h
  by_cases hy0:ys.length=0
  ·have:ys=[]:=ZaD hy0;subst this;rcases eX with⟨rfl,rfl,a,rfl⟩|⟨g,cap,cur,rfl,hp,hg,h1,h2,h3,h4⟩
   ·exact⟨_,w,[],jk w t ty e i ht hi a _ 0 0 c (Zae _),by simp[aP],by simp,.inl ⟨rfl,a,rfl⟩,Mp,λb hb=>.inl hb,Zae _⟩
   ·exact⟨_,w,[],jk w t ty e i ht hi _ _ n cap c h1,by simp[aP],by simp,.inr ⟨g,cap,cur,rfl,hp,hg,h1,h2,h3,by simpa using h4⟩,Mp,λb hb=>.inl hb,Zae _⟩
  ·have grow:∀(a:Addr) (old:Nat),old<n+ys.length->xs.length=n*sz->(∀j u,xs[j]? =some u->w.cell? (a.add j)=some u)->
     ∃v' w',(Builtin.append_ #[t,t] ty #[.slice (some a) n old,.slice (some ⟨b,o,none⟩) ys.length c]).run P w=.ok v' w'/\
      (∃g cap cur,v'=.slice (some ⟨g,0,none⟩) (n+ys.length) cap/\0<cap/\w'.heap[g]? =some (.cells cur e (0,0))/\n+ys.length<=cap/\cap<=maxLen/\cur.size=cap*sz/\cur.toList.take ((n+ys.length)*sz)=xs++vs)/\
      (∀row,w.grownBy w' row)/\(∀b,aO v'=some b->w.heap.size<=b)/\w.drawn<=w'.drawn:=by
    intro a old ho sc hxc;have bz:=run_append_grow (P:=P) w t ty e i z ht hi hz a n old xs (by rw[s8];exact sc) hxc ⟨b,o,none⟩ ys.length c vs (by rw[s8];exact wj) hvc' ho h63i (growslice_fits ho oC.1);have yb:=zV (w:=w) (e:=e) (old:=old) FY sc wj h63;obtain⟨hlen,hor⟩:=yb.1;rcases hor with⟨hn,_⟩|⟨g,cap,cur,hv,_,hg,h1,h2,h3,h4⟩
    ·cases hn
    ·refine⟨_,_,bz,⟨g,cap,cur,hv,by omega,hg,h1,h2,h3,h4⟩,yb.2,λb hb=>?_,ZcP _⟩;have pb:grownCap w (n+ys.length) old e≠0:=by have:=grownCap_ge w (n+ys.length) old e;omega
     simp only[aO,if_neg pb,Zaa]at hb;omega
   rcases eX with⟨rfl,rfl,a,rfl⟩|⟨g,cap,cur,rfl,hp,hg,h1,h2,h3,h4⟩
   ·cases a with
    |none=>
     have bz:=run_append_nil (P:=P) w t ty e i z ht hi hz ⟨b,o,none⟩ ys.length c vs (by rw[s8];exact wj) hvc' (by omega) (by omega) (by have:=growslice_fits (old:=0) (need:=ys.length) (by omega) (by simpa using oC.1);have h2:=oC.1;simp only[ZaY]at h2;omega);have yb:=zV (w:=w) (e:=e) (old:=0) (n:=0) (xs:=[]) FY (by simp) wj (by simpa using h63);simp only[ZaY,ZaK,Array.empty_append]at yb⊢;obtain⟨hlen,hor⟩:=yb.1;rcases hor with⟨hn,_⟩|⟨g,cap,cur,hv,_,hg,h1,h2,h3,h4⟩
     ·cases hn
     ·refine⟨_,_,vs,bz,zi,wj,.inr ⟨g,cap,cur,hv,by omega,hg,h1,h2,h3,h4⟩,yb.2 _,λb hb=>.inr ?_,ZcP _⟩;have pb:grownCap w ys.length 0 e≠0:=by have:=grownCap_ge w ys.length 0 e;omega
      simp only[aO,if_neg pb,Zaa]at hb;omega
    |some a=>
     obtain⟨v',w',bz,pV,yb,Mq,JD⟩:=grow a 0 (by omega) (by simp) (by simp);exact⟨v',w',vs,bz,zi,wj,.inr pV,yb _,λb hb=>.inr (Mq b hb),JD⟩
   ·have sc:xs.length=n*sz:=by
     rw[<-h4,Zaw,ZaU,h3];exact ZcO (ZaM sz h1)
    have Qh:cap≠0:=Zay.1 hp;by_cases JE:n+ys.length<=cap
    ·have qK:n*i.size+vs.length<=cur.size:=by rw[wj,h3,s8,<-Nat.add_mul];exact ZaM _ JE
     have bz:=run_append_room (P:=P) w t ty e i ht hi g n cap cur hg ⟨b,o,none⟩ ys.length c vs (by rw[s8];exact wj) hvc' (aP.one zi) JE qK;refine⟨_,_,vs,bz,zi,wj,.inr ⟨g,cap,_,rfl,hp,setRow_heap w g cur _ e _ hg,JE,h2, ?_, ?_⟩,⟨rfl,rfl,rfl,by simp,λk _ hk=>setRow_other w g k _ (λe=>hk (by simp[aO,Qh,e]))⟩,λb hb=>.inl ?_,by simp⟩
     ·simp only[List.size_toArray,ZaA,Zaw,Za9,ZaU];rw[s8]at qK⊢;omega
     ·have hlen:(xs++vs).length=(n+ys.length)*sz:=by rw[ZaA,sc,wj,Nat.add_mul]
      rw[s8,h4,<-hlen];exact List.take_left
     ·simpa [aO,Qh]using hb
    ·obtain⟨v',w',bz,pV,yb,Mq,JD⟩:=grow ⟨g,0,none⟩ cap (by omega) sc (λj u hu=>by
      rw[kY,ZaY,cell_of_row w g j cur e (0,0) hg];rw[<-h4,ZaF]at hu;split at hu
      ·simpa using hu
      ·cases hu)
     exact⟨v',w',vs,bz,zi,wj,.inr pV,yb _,λb hb=>.inr (Mq b hb),JD⟩
theorem qO{sz:Nat}:∀{rows:List (List T)},(∀r∈rows,r.length=sz)->rows.flatten.length=rows.length*sz
 |[],_=>by simp
 |r::rs,h=>by
  have:=qO (rows:=rs) (sz:=sz) λx hx=>h x (by simp[hx]);simp[this,h r (by simp),Nat.add_mul];omega
theorem pc{base:Nat}{M:Nat->Prop}{w0:World}(hO:bK base W M w0 objs w L){r:Nat}{ver ver' e sz:Nat}{rows ys:List (List T)}(gB:0<sz)
  {v v':Value} {w':World} {xs vs:List Value} (PT:∀x∈rows++ys,x.length=sz)
  {rows0:List (List T)} (hold:(objs r=none/\rows=[]/\aO v=none)\/(objs r=some (.arr ver e sz rows0)/\aO (L.sl r)=aO v/\ver<ver'))
  (hxs:aP w (WW W objs L) rows.flatten xs) (hvs:aP w (WW W objs L) ys.flatten vs)
  (qJ:(rows.length+ys.length=0/\∃a:Option Addr,v'=.slice a 0 0)\/∃g cap cur,v'=.slice (some ⟨g,0,none⟩) (rows.length+ys.length) cap/\0<cap/\w'.heap[g]? =some (.cells cur e (0,0))/\rows.length+ys.length<=cap/\cap<=maxLen/\cur.size=cap*sz/\
     cur.toList.take ((rows.length+ys.length)*sz)=xs++vs)
  (yb:w.grownBy w' (aO v)) (Mq:∀b,aO v'=some b->aO v=some b\/w.heap.size<=b) (JD:w.drawn<=w'.drawn):
  bK base W M w0 (bR objs (some (r,.arr ver' e sz (rows++ys)))) w' (L.gD r v')/\iX W objs L w (bR objs (some (r,.arr ver' e sz (rows++ys)))) (L.gD r v') w':=by
 have Qi:∀g,aO v=some g->base<=g\/M g:=λg hg=>by
  rcases hold with⟨_,_,h⟩|⟨ho,hv,_⟩
  ·rw[hg]at h;cases h
  ·exact(hO.ob r _ ho).reach (by simpa [Loc.own,hv]using hg)
 have hle:base<=w.heap.size:=ZaC hO.fr.hZ hO.fr.size;have wi:Fr base M w0 w':=hO.fr.trans ⟨yb.os,yb.tape,yb.output,hle,yb.size,λk hk hm=>yb.block k (by omega) λx=>by
  rcases Qi k x.symm with h|h
  ·omega
  ·exact hm h,JD⟩
 refine bK.put hO wi yb.size (λx hx=>⟨rfl,by simp[Loc.gD,hx]⟩) rfl (λb cW hb=>yb.block b cW λx=>?_) (λb hb=>?_) (λcs hc hk=>?_) (λnI e2 CH jP hc=>?_) (λee=>?_)
 ·rcases hold with⟨_,_,h⟩|⟨ho,hv,_⟩
  ·rw[h]at x;cases x
  ·exact hb _ ho (by simp[Loc.own,hv,<-x])
 ·simp only[Loc.own,Loc.gD,if_true]at hb;rcases Mq b hb with h|h
  ·rcases hold with⟨_,_,h2⟩|⟨ho,hv,_⟩
   ·rw[h]at h2;cases h2
   ·exact .inl ⟨_,ho,by simp[Loc.own,hv,h]⟩
  ·exact .inr h
 ·rcases hold with⟨h,_⟩|⟨h,_⟩<;>rw[hc]at h<;>cases h
  exact absurd rfl (by assumption)
 ·rcases hold with⟨h,_⟩|⟨h,_,cW⟩
  ·rw[hc]at h;cases h
  ·rw[hc]at h;cases h;exact⟨ver',e,sz,_,rfl,by omega,λx=>by omega⟩
 ·refine⟨gB,PT,λg hg=>?_, ?_⟩
  ·simp only[Loc.gD,if_true]at hg;rcases Mq g hg with h|h
   ·exact Qi g h
   ·exact .inl (ZaC hle h)
  ·simp only[Loc.gD,if_true,ZaA];rcases qJ with⟨h0,ha⟩|⟨g,cap,cur,hv,hp,hg,h1,h2,h3,h4⟩
   ·refine .inl ⟨?_,ha⟩;have h1:rows=[]:=ZaD (by omega);have h2:ys=[]:=ZaD (by omega);simp[h1,h2]
   ·refine .inr ⟨g,cap,cur,hv,hp,hg,h1,h2,h3, ?_⟩;rw[h4,List.flatten_append];exact aP.append (aP.aC ee.keeps.toKeepsC ee.sub _ _ hxs) (aP.aC ee.keeps.toKeepsC ee.sub _ _ hvs)
theorem Ee{P:Program}{base:Nat}{M:Nat->Prop}{w0:World}(hO:bK base W M w0 objs w L){t ty e:TypeId}{i:TypeInfo}{z:Value}(ht:P.underlying t=some (.slice e))(hi:P.info? e=some i)(hz:i.zero=some z)(FY:z.cells.size=i.size)(gB:0<i.size)
  {name:Nat} (dx:objs name=none) {x y:DV} {xv yv:Value} (hx:av w W objs L x xv) (hy:av w W objs L y yv) (aF:(fP e i.size i.bytes name objs x y).ok):
  ∃v w' L',(Builtin.append_ #[t,t] ty #[xv,yv]).run P w=.ok v w'/\bK base W M w0 (bR objs (fP e i.size i.bytes name objs x y).put) w' L'/\
   iX W objs L w (bR objs (fP e i.size i.bytes name objs x y).put) L' w'/\av w' W (bR objs (fP e i.size i.bytes name objs x y).put) L' (fP e i.size i.bytes name objs x y).val v:=by
 unfold fP at aF⊢;cases hs:dX objs y with
 |none=>simp[hs,bad]at aF
 |some ys=>
  simp only[hs]at aF⊢;have hyw:∀b o,aX w (WW W objs L) i.size b o ys->∃vs,vs.length=ys.length*i.size/\aP w (WW W objs L) ys.flatten vs/\∀j v,vs[j]? =some v->w.cell? ⟨b,o+j,none⟩=some v:=λb o h=>aX.flatten h;cases x with
  |aI=>
   simp only at aF⊢;have fZ:=hx;simp only[av]at fZ;obtain⟨a,rfl⟩:=fZ;obtain⟨v',w',vs,bz,zi,wj,qJ,yb,Mq,JD⟩:=mD (n:=0) (xs:=[]) ht hi hz rfl FY (.inl ⟨rfl,rfl,a,rfl⟩) (ty:=ty) (oz hO hy hs aF.1) hyw (by simpa using aF.2);have uA:aO (.slice a 0 0)=none:=by cases a<;>simp[aO]
   have:=pc hO (r:=name) (ver:=0) (ver':=0) (rows0:=[]) (rows:=[]) (ys:=ys) gB (by simpa using aF.1) (.inl ⟨dx,rfl,uA⟩) (xs:=[]) (by simp[aP]) zi (by simpa using qJ) yb Mq JD;refine⟨v',w',_,bz,by simpa using this.1,by simpa using this.2, ?_⟩;simp only[av];refine⟨?_,0,e,i.size,ys,by simp[bR],Zae _,λ_=>by simp[Loc.gD]⟩;rcases qJ with⟨_,a,rfl⟩|⟨g,cap,cur,rfl,_⟩<;>exact⟨_,_,_,rfl⟩
  |bk r ver=>
   cases ho:objs r with
   |none=>simp[ho,bad]at aF
   |some o=>
    cases o with
    |box cs=>simp[ho,bad]at aF
    |arr ver' e' fY rows=>
     simp only[ho]at aF⊢;obtain⟨rfl,rfl,rfl,hl,oC⟩:=aF;have fZ:=hx;simp only[av]at fZ;obtain⟨_,nI,e2,CH,jP,lI,_,jj⟩:=fZ;rw[ho]at lI;cases lI;have hv:=jj rfl;have fH:=hO.ob r _ ho;obtain⟨_,cS,hm,kl⟩:=fH;have eX:∃xs,aP w (WW W objs L) rows.flatten xs/\((rows.length=0/\xs=[]/\∃a:Option Addr,xv=.slice a 0 0)\/∃g cap cur,xv=.slice (some ⟨g,0,none⟩) rows.length cap/\0<cap/\w.heap[g]? =some (.cells cur e' (0,0))/\rows.length<=cap/\cap<=maxLen/\cur.size=cap*i.size/\cur.toList.take (rows.length*i.size)=xs):=by
      rcases kl with⟨rfl,a,ha⟩|⟨g,cap,cur,h1,h2,h3,h4,h5,h6,h7⟩
      ·exact⟨[],by simp[aP],.inl ⟨rfl,rfl,a,by rw[hv,ha]⟩⟩
      ·exact⟨_,h7,.inr ⟨g,cap,cur,by rw[hv,h1],h2,h3,h4,h5,h6,rfl⟩⟩
     obtain⟨xs,Cg,eX⟩:=eX;obtain⟨v',w',vs,bz,zi,wj,qJ,yb,Mq,JD⟩:=mD ht hi hz rfl FY eX (ty:=ty) (oz hO hy hs hl) hyw oC;have:=pc hO (r:=r) (ver:=ver) (ver':=ver+1) (rows:=rows) (ys:=ys) gB (λx hx=>(Zao.1 hx).elim (cS x) (hl x)) (.inr ⟨ho,by rw[hv],by omega⟩) Cg zi qJ yb Mq JD;refine⟨v',w',_,bz,this.1,this.2, ?_⟩;simp only[av];refine⟨?_,ver+1,e',i.size,rows++ys,by simp[bR],Zae _,λ_=>by simp[Loc.gD]⟩;rcases qJ with⟨_,a,rfl⟩|⟨g,cap,cur,rfl,_⟩<;>exact⟨_,_,_,rfl⟩
    |_=>simp[ho,bad]at aF
  |sP r ver lo n=>
   cases lo with
   |succ lo=>simp[bad]at aF
   |zero=>
   cases ho:objs r with
   |none=>simp[ho,bad]at aF
   |some o=>
    cases o with
    |arr ver' e' fY rows=>
     simp only[ho]at aF⊢;obtain⟨rfl,rfl,rfl,hl,oC⟩:=aF;have fZ:=hx;simp only[av]at fZ;obtain⟨_,nI,e2,CH,jP,lI,_,jj⟩:=fZ;rw[ho]at lI;cases lI;obtain⟨Qe,p,Qj,p2,sQ,rfl,Mn⟩:=jj rfl;have fH:=hO.ob r _ ho;obtain⟨_,cS,hm,kl⟩:=fH;have D1:(rows.take n).length=n:=by rw[Zaw];omega
     have uA:aO (L.sl r)=aO (.slice p2 n (Qj-0)):=by
      rw[sQ];simp only[Zb1];by_cases PU:Qj=0
      ·subst PU;cases p<;>cases p2<;>simp[aO]
      ·have:=Mn (by omega);subst this;cases p with
       |none=>simp[aO]
       |some a=>
        obtain⟨b,o,ix⟩:=a;cases ix<;>simp[aO,PU,Addr.add]
     have eX:∃xs,aP w (WW W objs L) (rows.take n).flatten xs/\((n=0/\xs=[]/\∃a:Option Addr,Value.slice p2 n (Qj-0)=.slice a 0 0)\/∃g cap cur,Value.slice p2 n (Qj-0)=.slice (some ⟨g,0,none⟩) n cap/\0<cap/\w.heap[g]? =some (.cells cur e' (0,0))/\n<=cap/\cap<=maxLen/\cur.size=cap*i.size/\cur.toList.take (n*i.size)=xs):=by
      rcases kl with⟨rfl,a,ha⟩|⟨g,cap,cur,h1,h2,h3,h4,h5,h6,h7⟩
      ·rw[sQ]at ha;simp only[Value.slice.injEq]at ha;obtain⟨_,_,rfl⟩:=ha;have:n=0:=by simp at Qe;omega
       subst this;exact⟨[],by simp[aP],.inl ⟨rfl,rfl,p2,rfl⟩⟩
      ·rw[sQ]at h1;simp only[Value.slice.injEq]at h1;obtain⟨rfl,_,rfl⟩:=h1;have:=Mn h2;subst this;refine⟨_, ?_,.inr ⟨g,Qj,cur,by simp[kY],h2,h3,by omega,h5,h6,rfl⟩⟩;have e1:(rows.take n).flatten=rows.flatten.take (n*i.size):=by
        have h8:rows.flatten=(rows.take n).flatten++(rows.drop n).flatten:=by rw[<-List.flatten_append,Zbd]
        rw[h8,Zco (by rw[qO (sz:=i.size) (λr hr=>cS r (Zav hr)),D1])]
       have e2:cur.toList.take (n*i.size)=(cur.toList.take (rows.length*i.size)).take (n*i.size):=by
        rw[Zcw];congr 1;have:=ZaM i.size (show n<=rows.length by omega);omega
       rw[e1,e2];exact aP.take _ h7
     obtain⟨xs,Cg,eX⟩:=eX;obtain⟨v',w',vs,bz,zi,wj,qJ,yb,Mq,JD⟩:=mD ht hi hz rfl FY eX (ty:=ty) (oz hO hy hs hl) hyw oC;have:=pc hO (r:=r) (ver:=ver) (ver':=ver+1) (rows:=rows.take n) (ys:=ys) gB (λx hx=>(Zao.1 hx).elim (λh=>cS x (Zav h)) (hl x)) (.inr ⟨ho,uA,by omega⟩) Cg zi (by rw[D1];exact qJ) yb Mq JD;refine⟨v',w',_,bz,this.1,this.2, ?_⟩;simp only[av];refine⟨?_,ver+1,e',i.size,rows.take n++ys,by simp[bR],Zae _,λ_=>by simp[Loc.gD]⟩;rcases qJ with⟨_,a,rfl⟩|⟨g,cap,cur,rfl,_⟩<;>exact⟨_,_,_,rfl⟩
    |_=>simp[ho,bad]at aF
  |_=>simp[bad]at aF
theorem JF{P:Program}{base:Nat}{M:Nat->Prop}{w0:World}(hO:bK base W M w0 objs w L){t t' ty e0:TypeId}{i:TypeInfo}(ht:P.underlying t=some (.slice e0))(hi:P.info? e0=some i)
  {x y:DV} {xv yv:Value} (hx:av w W objs L x xv) (hy:av w W objs L y yv) (aF:(iy i.size objs x y).ok):
  ∃v w',(Builtin.copy_ #[t,t'] ty #[xv,yv]).run P w=.ok v w'/\bK base W M w0 (bR objs (iy i.size objs x y).put) w' L/\
   iX W objs L w (bR objs (iy i.size objs x y).put) L w'/\av w' W (bR objs (iy i.size objs x y).put) L (iy i.size objs x y).val v:=by
 unfold iy at aF⊢;cases hs:dX objs y with
 |none=>simp[hs,bad]at aF
 |some ys=>
  simp only[hs]at aF⊢;cases x with
  |bk r ver=>
   cases ho:objs r with
   |none=>simp[ho,bad]at aF
   |some o=>
    cases o with
    |arr ver' e fY rows=>
     simp only[ho]at aF⊢;obtain⟨rfl,rfl,hl⟩:=aF;simp only[av]at hx;obtain⟨_,nI,e2,CH,jP,lI,_,jj⟩:=hx;rw[ho]at lI;cases lI;have hv:=jj rfl;subst hv;have hd:(rows.length=0/\∃(a:Option Addr) (c:Nat),L.sl r=.slice a 0 c)\/∃g c,aO (L.sl r)=some g/\L.sl r=.slice (some ⟨g,0*i.size,none⟩) rows.length c:=by
      obtain⟨_,_,_,kl⟩:=hO.ob r _ ho;rcases kl with⟨rfl,a,ha⟩|⟨g,cap,cur,h1,h2,_⟩
      ·exact .inl ⟨rfl,a,0,ha⟩
      ·exact .inr ⟨g,cap,by rw[h1];simp[aO,Zay.1 h2],by rw[h1,Zcn]⟩
     obtain⟨w',h1,h2,h3⟩:=CK hO ht hi (t':=t') (ty:=ty) ho (lo:=0) (n:=rows.length) (by omega) hd (oz hO hy hs hl) hl;exact⟨_,w',h1,h2,h3,by simp[av,aR,goInt]⟩
    |_=>simp[ho,bad]at aF
  |sP r ver lo n=>
   cases ho:objs r with
   |none=>simp[ho,bad]at aF
   |some o=>
    cases o with
    |arr ver' e fY rows=>
     simp only[ho]at aF⊢;obtain⟨rfl,rfl,hl⟩:=aF;simp only[av]at hx;obtain⟨_,nI,e2,CH,jP,lI,_,jj⟩:=hx;rw[ho]at lI;cases lI;have hv:=jj rfl;have hd:(n=0/\∃(a:Option Addr) (c:Nat),xv=.slice a 0 c)\/∃g c,aO (L.sl r)=some g/\xv=.slice (some ⟨g,lo*i.size,none⟩) n c:=by
      rcases qN hO ho hv with h|⟨g,c,h1,h2,_⟩
      ·exact .inl h
      ·exact .inr ⟨g,c,h1,h2⟩
     obtain⟨w',h1,h2,h3⟩:=CK hO ht hi (t':=t') (ty:=ty) ho hv.1 hd (oz hO hy hs hl) hl;exact⟨_,w',h1,h2,h3,by simp[av,aR,goInt]⟩
    |_=>simp[ho,bad]at aF
  |_=>simp[bad]at aF
theorem ib{α:Type}(l:List α):∀(n j:Nat),j<n*l.length->(List.replicate n l).flatten[j]? =l[j % l.length]?
 |0,j,h=>by simp at h
 |n+1,j,h=>by
  simp only[Za7,Zbe];by_cases hj:j<l.length
  ·rw[Zbj hj,Zcl hj]
  ·rw[Zbh (by omega),ib l n (j-l.length) (by rw[Nat.add_mul]at h;omega)];rw[Nat.mod_eq_sub_mod (a:=j) (by omega)]
theorem uN(z:Array Value)(n:Nat):(madeCells z (n*z.size)).toList=(List.replicate n z.toList).flatten:=by
 apply Zbk;intro j;by_cases hj:j<n*z.size
 ·have hz:0<z.size:=by
   rcases ZcA z.size with h|h
   ·rw[h]at hj;simp at hj
   ·exact h
  rw[ib z.toList n j (by simpa using hj)];have hm:=Nat.mod_lt j hz;simp[madeCells,hj,hm]
 ·rw[ZaS (by simp[size_madeCells];omega),ZaS (by simp;omega)]
theorem qP{zero:List T}{zs:List Value}(h:aP w W zero zs):∀n,aP w W (List.replicate n zero).flatten (List.replicate n zs).flatten
 |0=>by simp[aP]
 |n+1=>by simpa [Za7]using aP.append h (qP h n)
theorem W3{base:Nat}{M:Nat->Prop}{w0:World}(hO:bK base W M w0 objs w L){r:Nat}(hr:objs r=none){e sz:Nat}{rows:List (List T)}(gB:0<sz)(PT:∀x∈rows,x.length=sz){c:Array Value}(mC:c.size=rows.length*sz)
  (hc:aP w (WW W objs L) rows.flatten c.toList) (hmax:rows.length<=maxLen):
  bK base W M w0 (bR objs (some (r,.arr 0 e sz rows))) (w.alloc (.cells c e)) (L.gD r (.slice (some ⟨w.heap.size,0,none⟩) rows.length rows.length))/\
   iX W objs L w (bR objs (some (r,.arr 0 e sz rows))) (L.gD r (.slice (some ⟨w.heap.size,0,none⟩) rows.length rows.length)) (w.alloc (.cells c e)):=by
 have hb:=jw (w:=w) (.cells c e);refine bK.put hO (uM hO.fr hb) hb.size (λx hx=>⟨rfl,by simp[Loc.gD,hx]⟩) rfl (λb cW _=>hb.block b cW) (λb h=>.inr ?_)
  (λo' h _=>by rw[hr]at h;cases h) (λ_ _ _ _ h=>by rw[hr]at h;cases h) (λee=>?_)
 ·simp only[Loc.own,Loc.gD,if_true,aO]at h;split at h
  ·cases h
  ·simp only[Zaa]at h;omega
 ·refine⟨gB,PT,λg hg=>?_, ?_⟩
  ·simp only[Loc.gD,if_true,aO]at hg;split at hg
   ·cases hg
   ·simp only[Zaa]at hg;subst hg;exact .inl (ZaC hO.fr.hZ hO.fr.size)
  ·simp only[Loc.gD,if_true];by_cases h0:rows.length=0
   ·refine .inl ⟨ZaD h0,some ⟨w.heap.size,0,none⟩,by rw[h0]⟩
   ·refine .inr ⟨w.heap.size,rows.length,c,rfl,by omega,heap_alloc_new w _,Zae _,hmax,mC, ?_⟩;rw[Za3 (by simp[mC])];exact aP.aC ee.keeps.toKeepsC ee.sub _ _ hc
theorem zX{P:Program}{base:Nat}{M:Nat->Prop}{w0:World}(hO:bK base W M w0 objs w L){t e:TypeId}{i:TypeInfo}{z:Value}(ht:P.underlying t=some (.slice e))(hi:P.info? e=some i)(hz:i.zero=some z)(gB:0<i.size)
  {zero:List T} (hzero:z.cells.toList.mapM pa=some zero) {name:Nat} (dx:objs name=none) {x:DV} {xv:Value} (hx:av w W objs L x xv) (aF:(jO e i.size i.bytes zero name x).ok):
  ∃v w' L',(Instr.makeSlice t xv xv).run P w=.ok v w'/\bK base W M w0 (bR objs (jO e i.size i.bytes zero name x).put) w' L'/\
   iX W objs L w (bR objs (jO e i.size i.bytes zero name x).put) L' w'/\av w' W (bR objs (jO e i.size i.bytes zero name x).put) L' (jO e i.size i.bytes zero name x).val v:=by
 cases x with
 |v t'=>
  cases t' with
  |int k n=>
   simp only[av,aR]at hx;subst hx;simp only[jO]at aF⊢;obtain⟨h0,Qk,hb,hm⟩:=aF;have hzz:=pT (w:=w) (W:=WW W objs L) hzero;have FY:z.cells.size=i.size:=by have:=aP.length hzz;simpa [Qk]using this
   have hbi:(i.bytes:Int)*n<=281474976710656:=by
    have e:(i.bytes:Int)*n=((n.toNat*i.bytes:Nat):Int):=by
     rw[Int.natCast_mul,Int.toNat_of_nonneg h0,Int.mul_comm]
    rw[e];omega
   have bz:=run_make (P:=P) w t e i z ht hi hz k k n n h0 (Zcx _) hbi (by omega);have hc:(madeCells z.cells (n.toNat*i.size)).toList=(List.replicate n.toNat z.cells.toList).flatten:=by rw[<-FY];exact uN _ _
   have:=W3 hO (e:=e) dx (rows:=List.replicate n.toNat zero) gB (λx hx=>by rw[ZbG hx];exact Qk) (c:=madeCells z.cells (n.toNat*i.size)) (by simp[size_madeCells]) (by rw[hc];exact qP hzz _) (by simp only[ZbC,maxLen];omega);simp only[ZbC]at this;refine⟨_,_,_,bz,this.1,this.2, ?_⟩;simp only[av];exact⟨⟨_,_,_,rfl⟩,0,e,i.size,List.replicate n.toNat zero,by simp[bR],Zae _,λ_=>by simp[Loc.gD]⟩
  |_=>simp[jO,bad]at aF
 |_=>simp[jO,bad]at aF
theorem JG{ts:List T}:∀{zs:List Value},zs.mapM pa=some ts->aK w W objs L (ts.map CG) zs:=by
 induction ts with
 |nil=>
  intro zs h;cases zs with
  |nil=>simp[aK]
  |cons z zs=>simp[Za2,Zac]at h
 |cons t ts ih=>
  intro zs h;cases zs with
  |nil=>simp at h
  |cons z zs=>
   simp only[Za2,Zaj,Zaf,Zac,Zaa,Za6]at h;obtain⟨t',ht,ts',Ql,rfl,rfl⟩:=h;simp only[Zau,aK];have hr:=zT (w:=w) (W:=WW W objs L) ht;refine⟨z,zs,rfl,hr.2.1, ?_,ih Ql⟩;unfold CG;split
   ·unfold pa at ht;split at ht<;>first|(cases ht;done)|skip
    all_goals first
     |(simp only[av];exact⟨_,rfl⟩)
     |(cases ht)
   ·simp only[av];exact hr.1
theorem pW{zero:List DV}{zs:List Value}(h:aK w W objs L zero zs):∀n,aK w W objs L (List.replicate n zero).flatten (List.replicate n zs).flatten
 |0=>by simp[aK]
 |n+1=>by simpa [Za7]using aK.append h (pW h n)
theorem yd{P:Program}{base:Nat}{M:Nat->Prop}{w0:World}(hO:bK base W M w0 objs w L){t e:TypeId}{i:TypeInfo}{z:Value}(ht:P.underlying t=some (.slice e))(hi:P.info? e=some i)(hz:i.zero=some z)
  {zero:List T} (hzero:z.cells.toList.mapM pa=some zero) {name:Nat} (dx:objs name=none) {x:DV} {xv:Value} (hx:av w W objs L x xv) (aF:(eG i.size i.bytes zero name x).ok):
  ∃v w' L',(Instr.makeSlice t xv xv).run P w=.ok v w'/\bK base W M w0 (bR objs (eG i.size i.bytes zero name x).put) w' L'/\
   iX W objs L w (bR objs (eG i.size i.bytes zero name x).put) L' w'/\av w' W (bR objs (eG i.size i.bytes zero name x).put) L' (eG i.size i.bytes zero name x).val v:=by
 cases x with
 |v t'=>
  cases t' with
  |int k n=>
   simp only[av,aR]at hx;subst hx;simp only[eG]at aF⊢;obtain⟨h0,Qk,hb,hm⟩:=aF;have hzz:=JG (w:=w) (W:=W) (objs:=objs) (L:=L) hzero;have FY:z.cells.size=i.size:=by have:=aK.length hzz;simpa [Qk]using this
   have hbi:(i.bytes:Int)*n<=281474976710656:=by
    have e:(i.bytes:Int)*n=((n.toNat*i.bytes:Nat):Int):=by
     rw[Int.natCast_mul,Int.toNat_of_nonneg h0,Int.mul_comm]
    rw[e];omega
   have bz:=run_make (P:=P) w t e i z ht hi hz k k n n h0 (Zcx _) hbi (by omega);have hc:(madeCells z.cells (n.toNat*i.size)).toList=(List.replicate n.toNat z.cells.toList).flatten:=by rw[<-FY];exact uN _ _
   have:=Ea hO dx (c:=madeCells z.cells (n.toNat*i.size)) e (cs:=(List.replicate n.toNat (zero.map CG)).flatten) (by rw[hc];exact pW hzz _);refine⟨_,_,_,bz,this.1,this.2, ?_⟩;simp only[av];exact⟨⟨(List.replicate n.toNat (zero.map CG)).flatten,by simp[bR]⟩,by simp[Loc.fC]⟩
  |_=>simp[eG,bad]at aF
 |_=>simp[eG,bad]at aF
end
end Go.DM
namespace Go.DM
open Go.RowKit
variable [Laid]
def gb(P:Program)(rec:TypeId->Option (List Sh))(off:Nat):List Field->Option (List Sh)
 |[]=>some []
 |f::fs=>
  match rec f.type,P.info? f.type with
  |some s,some i=>if f.name≠ "_" /\f.offset=off/\s.length=i.size then(gb P rec (off+s.length) fs).map (s++·)else none
  |_,_=>none
def jH(P:Program):Nat->TypeId->Option (List Sh)
 |0,_=>none
 |d+1,t=>
  match P.underlying t with
  |some .bool=>some [.bool]
  |some (.int k)=>some [.int k]
  |some .string=>some [.str]
  |some (.struct fs)=>if P.stoodInHeld t then none else gb P (jH P d) 0 fs.toList
  |some (.array n e)=>
   match jH P d e,P.info? e with
   |some s,some i=>if s.length=i.size/\0<i.size then some ((List.replicate n s).flatten)else none
   |_,_=>none
  |_=>none
def fit:Sh->Value->Bool
 |.bool,.bool _=>true
 |.int k,.int k' _=>k==k'
 |.str,.string _=>true
 |_,_=>false
def fits:List Sh->List Value->Prop
 |[],vs=>vs=[]
 |s::ss,vs=>∃v gY,vs=v::gY/\fit s v=true/\fits ss gY
def YM:Value->Value->Bool
 |.bool a,.bool b=>a==b
 |.int _ a,.int _ b=>a==b
 |.string a,.string b=>a.toList==b.toList
 |_,_=>false
def kG:List Value->List Value->Bool
 |[],[]=>true
 |a::as,b::bs=>YM a b&&kG as bs
 |_,_=>false
theorem fits.length:∀{ss:List Sh} {vs:List Value},fits ss vs->vs.length=ss.length
 |[],_,h=>by simp only[fits]at h;simp[h]
 |_::ss,_,h=>by
  simp only[fits]at h;obtain⟨v,gY,rfl,_,h⟩:=h;simp[fits.length h]
theorem fits.split:∀{s1 s2:List Sh} {vs:List Value},fits (s1++s2) vs->fits s1 (vs.take s1.length)/\fits s2 (vs.drop s1.length)
 |[],s2,vs,h=>by simpa [fits]using h
 |s::s1,s2,vs,h=>by
  simp only[ZaH,fits]at h;obtain⟨v,gY,rfl,h1,h⟩:=h;have:=fits.split h;simp only[Zba,ZbY,List.drop_succ_cons,fits];exact⟨⟨v,_,rfl,h1,this.1⟩,this.2⟩
theorem qQ:∀{a b c d:List Value},a.length=c.length->kG (a++b) (c++d)=(kG a c&&kG b d)
 |[],b,[],d,_=>by simp[kG]
 |x::a,b,[],d,h=>by simp at h
 |[],b,y::c,d,h=>by simp at h
 |x::a,b,y::c,d,h=>by
  simp only[ZaH,kG];rw[qQ (by simpa using h),Bool.and_assoc]
def wk(d:TypeDesc)(vs:List Value):Value:=if bA d then .agg vs.toArray else vs.getD 0 Go.undef
section
variable{P:Program}
theorem lk(w:World){t:TypeId}{d:TypeDesc}{i:TypeInfo}(hd:P.underlying t=some d)(hi:P.info? t=some i){xs:List Value}{off:Nat}(h1:bA d=true\/i.size=1)(hl:off+i.size<=xs.length):
  (part t xs.toArray off).run P w=.ok (wk d ((xs.drop off).take i.size)) w:=by
 have Mr:(isAgg t).run P w=.ok (bA d) w:=by rw[CI hd];cases d<;>rfl
 simp only[part,Sem.run_bind,Mr,Result.andThen_ok];by_cases ha:bA d=true
 ·simp only[ha,if_true,Sem.run_bind,run_sizeOf hi,Result.andThen_ok,Sem.run_pure,wk]
  congr 3
  simp only[List.extract_toArray,List.extract_eq_take_drop]
  congr 2
  omega
 ·have h2:=h1.resolve_left ha;have cW:off<xs.length:=by omega
  simp only[ha,wk,h2];simp[cW]
theorem zj{d:Nat}{t:TypeId}{shs:List Sh}(h:jH P (d+1) t=some shs):∃desc,P.underlying t=some desc/\(bA desc=true\/shs.length=1):=by
 simp only[jH]at h;split at h
 ·rename_i hu;exact⟨_,hu,.inr (by simp at h;simp[<-h])⟩
 ·rename_i hu;exact⟨_,hu,.inr (by simp at h;simp[<-h])⟩
 ·rename_i hu;exact⟨_,hu,.inr (by simp at h;simp[<-h])⟩
 ·rename_i hu;exact⟨_,hu,.inl rfl⟩
 ·rename_i hu;exact⟨_,hu,.inl rfl⟩
 ·cases h
theorem Qm{d:Nat}{e:TypeId}{de:TypeDesc}{s:List Sh}{i:TypeInfo}(hd:P.underlying e=some de)(hi:P.info? e=some i)(h1:bA de=true\/i.size=1)(hs:s.length=i.size)(N4:0<i.size)
  (ih:∀(xs ys:List Value) (w:World),fits s xs->fits s ys->(Op.equalIn d e (wk de xs) (wk de ys)).run P w=.ok (kG xs ys) w) (xs ys:List Value):
  ∀(n k:Nat) (w:World),fits ((List.replicate n s).flatten) (xs.drop (k*i.size))->fits ((List.replicate n s).flatten) (ys.drop (k*i.size))->
   (forIn (List.range' k n) (none,()) (λj (_:Option Bool×Unit)=>do
     let a<-part e xs.toArray (j*i.size)
     let b<-part e ys.toArray (j*i.size)
     let r<-Op.equalIn d e a b
     if(!r)=true then pure (ForInStep.done (some false,()))else pure (ForInStep.yield (none,()))):Sem (Option Bool×Unit)).run P w=
    .ok (if kG (xs.drop (k*i.size)) (ys.drop (k*i.size))then(none,())else(some false,())) w
 |0,k,w,hx,hy=>by
  simp only[List.replicate_zero,List.flatten_nil,fits]at hx hy;simp[hx,hy,kG]
 |n+1,k,w,hx,hy=>by
  simp only[Za7,Zbe]at hx hy;have sc:=fits.length hx;have sZ:=fits.length hy;simp only[ZaA,Za9]at sc sZ;obtain⟨FZ,sR⟩:=fits.split hx;obtain⟨jR,fl⟩:=fits.split hy;have e2:k*i.size+s.length=(k+1)*i.size:=by rw[Nat.add_mul,hs];omega
  rw[List.drop_drop,e2]at sR fl;have uO:0<i.size:=N4;have p1:=λw=>lk (P:=P) w hd hi (xs:=xs) (off:=k*i.size) h1 (by omega);have p2:=λw=>lk (P:=P) w hd hi (xs:=ys) (off:=k*i.size) h1 (by omega);rw[hs]at FZ jR;have hr:=ih _ _ w FZ jR;have JH:kG (xs.drop (k*i.size)) (ys.drop (k*i.size))=(kG ((xs.drop (k*i.size)).take i.size) ((ys.drop (k*i.size)).take i.size)&&kG (xs.drop ((k+1)*i.size)) (ys.drop ((k+1)*i.size))):=by
   have a1:xs.drop (k*i.size)=(xs.drop (k*i.size)).take i.size++xs.drop ((k+1)*i.size):=by
    rw[<-e2,hs,<-List.drop_drop,Zbd]
   have a2:ys.drop (k*i.size)=(ys.drop (k*i.size)).take i.size++ys.drop ((k+1)*i.size):=by
    rw[<-e2,hs,<-List.drop_drop,Zbd]
   rw[a1,a2,qQ (by simp;omega)];rw[<-a1,<-a2]
  simp only[ZcJ,Zcp,Sem.run_bind,p1,p2,Result.andThen_ok,hr];rw[JH];cases hb:kG ((xs.drop (k*i.size)).take i.size) ((ys.drop (k*i.size)).take i.size)
  ·simp
  ·have:=Qm hd hi h1 hs N4 ih xs ys n (k+1) w sR fl;simp only[Zcj,ZaT,if_false,Sem.run_pure,Result.andThen_ok,Zck];exact this
theorem CL{d:Nat}(ih:∀(t:TypeId) (shs:List Sh) (desc:TypeDesc),jH P d t=some shs->P.underlying t=some desc->∀(xs ys:List Value) (w:World),fits shs xs->fits shs ys->(Op.equalIn d t (wk desc xs) (wk desc ys)).run P w=.ok (kG xs ys) w)
  (Gl:∀(t:TypeId) (shs:List Sh),jH P d t=some shs->∃desc,P.underlying t=some desc/\(bA desc=true\/shs.length=1)) (xs ys:List Value):
  ∀(fs:List Field) (off:Nat) (shs:List Sh) (w:World),gb P (jH P d) off fs=some shs->fits shs (xs.drop off)->fits shs (ys.drop off)->off<=xs.length->off<=ys.length->
   (Op.eqFields d xs.toArray ys.toArray fs).run P w=.ok (kG (xs.drop off) (ys.drop off)) w
 |[],off,shs,w,h,hx,hy,_,_=>by
  simp only[gb,Zaa]at h;subst h;simp only[fits]at hx hy;simp[Op.eqFields,hx,hy,kG]
 |f::fs,off,shs,w,h,hx,hy,hox,hoy=>by
  simp only[gb]at h;split at h
  ·rename_i s i hs hi;split at h
   ·rename_i hc;obtain⟨hn,rfl,gB⟩:=hc;simp only[Zab]at h;obtain⟨rest,ta,rfl⟩:=h;obtain⟨desc,hd,h1⟩:=Gl _ _ hs;have sc:=fits.length hx;have sZ:=fits.length hy;simp only[ZaA,Za9]at sc sZ;obtain⟨FZ,sR⟩:=fits.split hx;obtain⟨jR,fl⟩:=fits.split hy;rw[List.drop_drop]at sR fl;rw[gB]at h1;have p1:=λw=>lk (P:=P) w hd hi (xs:=xs) (off:=f.offset) h1 (by omega);have p2:=λw=>lk (P:=P) w hd hi (xs:=ys) (off:=f.offset) h1 (by omega);have hr:=ih _ _ _ hs hd _ _ w FZ jR;rw[gB]at hr;have JH:kG (xs.drop f.offset) (ys.drop f.offset)=(kG ((xs.drop f.offset).take i.size) ((ys.drop f.offset).take i.size)&&kG (xs.drop (f.offset+s.length)) (ys.drop (f.offset+s.length))):=by
     have a1:xs.drop f.offset=(xs.drop f.offset).take i.size++xs.drop (f.offset+s.length):=by rw[gB,<-List.drop_drop,Zbd]
     have a2:ys.drop f.offset=(ys.drop f.offset).take i.size++ys.drop (f.offset+s.length):=by rw[gB,<-List.drop_drop,Zbd]
     rw[a1,a2,qQ (by simp;omega)];rw[<-a1,<-a2]
    simp only[Op.eqFields,hn,ne_eq,not_false_eq_true,if_true,Sem.run_bind,p1,p2,Result.andThen_ok,hr];rw[JH];cases hb:kG ((xs.drop f.offset).take i.size) ((ys.drop f.offset).take i.size)
    ·simp
    ·simp only[Zcj,ZaT,if_false,Zck];exact CL ih Gl xs ys fs _ rest w ta sR fl (by omega) (by omega)
   ·cases h
  ·cases h
theorem pd:∀(d:Nat) (t:TypeId) (shs:List Sh) (desc:TypeDesc),jH P d t=some shs->P.underlying t=some desc->∀(xs ys:List Value) (w:World),fits shs xs->fits shs ys->
  (Op.equalIn d t (wk desc xs) (wk desc ys)).run P w=.ok (kG xs ys) w
 |0,t,shs,desc,h,_,_,_,_,_,_=>by simp[jH]at h
 |d+1,t,shs,desc,h,hu,xs,ys,w,hx,hy=>by
  simp only[jH,hu]at h;have one:∀{s:Sh} {zs:List Value},fits [s] zs->∃v,zs=[v]/\fit s v=true:=by
   intro s zs hz;simp only[fits]at hz;obtain⟨v,gY,rfl,h1,rfl⟩:=hz;exact⟨v,rfl,h1⟩
  cases desc;case bool=>
   simp only[Zaa]at h;subst h;obtain⟨x,rfl,gx⟩:=one hx;obtain⟨y,rfl,gy⟩:=one hy;cases x<;>first|exact absurd gx Zaz|skip
   cases y<;>first|exact absurd gy Zaz|skip
   simp[wk,bA,kG,YM,Op.equalIn,run_underlying hu]
  case int k=>
   simp only[Zaa]at h;subst h;obtain⟨x,rfl,gx⟩:=one hx;obtain⟨y,rfl,gy⟩:=one hy;cases x<;>first|exact absurd gx Zaz|skip
   simp only[fit,beq_iff_eq]at gx;cases y<;>first|exact absurd gy Zaz|skip
   simp only[fit,beq_iff_eq]at gy;subst gx gy;simp[wk,bA,kG,YM,Op.equalIn,run_underlying hu]
  case string=>
   simp only[Zaa]at h;subst h;obtain⟨x,rfl,gx⟩:=one hx;obtain⟨y,rfl,gy⟩:=one hy;cases x<;>first|exact absurd gx Zaz|skip
   cases y<;>first|exact absurd gy Zaz|skip
   simp[wk,bA,kG,YM,Op.equalIn,run_underlying hu,beq_toListBytes]
  case struct fs=>
   replace h:(if P.stoodInHeld t then none else gb P (jH P d) 0 fs.toList)=some shs:=h
   split at h
   ·cases h
   ·rename_i hp;have hfo:P.fieldsOf t=fs:=by simp[Program.fieldsOf,hu]
    simp only[wk,bA,if_true];rw[run_equalIn_struct w d t _ _ (by rw[hfo];exact hu) (by simpa using hp),hfo];have:=CL (λt shs desc=>pd d t shs desc) (λt shs hs=>by
     cases d with
     |zero=>simp[jH]at hs
     |succ d=>exact zj hs) xs ys fs.toList 0 shs w h (by simpa using hx) (by simpa using hy) (by omega) (by omega)
    simpa using this
  case array n e=>
   replace h:(match jH P d e,P.info? e with
    |some s,some i=>if s.length=i.size/\0<i.size then some ((List.replicate n s).flatten)else none
    |_,_=>none)=some shs:=h
   split at h
   ·rename_i s i hs hi;split at h
    ·rename_i hc;simp only[Zaa]at h;subst h;have hde:∃desc,P.underlying e=some desc/\(bA desc=true\/s.length=1):=by
      cases d with
      |zero=>simp[jH]at hs
      |succ d=>exact zj hs
     obtain⟨de,hd,h1⟩:=hde;rw[hc.1]at h1;have:=Qm hd hi h1 hc.1 hc.2 (λxs ys w=>pd d e s de hs hd xs ys w) xs ys n 0 w (by simpa using hx) (by simpa using hy);simp only[wk,bA,if_true,Op.equalIn,Sem.run_bind,run_underlying hu,Result.andThen_ok,run_sizeOf hi,Std.Legacy.Range.forIn_eq_forIn_range',Std.Legacy.Range.size,Zb1,Zcd,Nat.div_one];simp only[Zcn,List.drop_zero]at this;refine(congrArg (λr=>Result.andThen r _) this).trans ?_;cases kG xs ys<;>rfl
    ·cases h
   ·cases h
  all_goals exact absurd h (by simp)
end
end Go.DM
