/- Part. Conditions: none. -/
import Derived.Below
import Derived.CallsIn
import Derived.Laws.AppendOwn
import Derived.Laws.AppendOwnNone
import Derived.Laws.MakeOwn
import Derived.Laws.World
import Derived.Laws.Cells
import Derived.Laws.Small
import Derived.Laws.Entries
import Derived.Laws.Strings
import Derived.Laws.StructEq
set_option linter.all false
namespace Go.DM
def aY{α:Sort _}(a:α):∃b,a=b:=⟨a,rfl⟩
def cq:=@Option.some.injEq
def iK:=@if_neg
def ju:=@Option.map_eq_some_iff
def jE:=@Option.bind_eq_some_iff
def gN:=@Int.toNat_natCast
def gJ:=@Nat.le_refl
def bX:=@Int.eq_ofNat_of_zero_le
def mM:=@List.getElem?_eq_getElem
def ee:=@if_pos
def kw:=@Option.bind_eq_bind
def jv:=@List.mem_cons
def uy:=@List.mem_singleton
def cM:=@Array.getElem?_eq_some_iff
def pn:=@Nat.add_assoc
def sE:=@List.mem_map
def lF:=@List.mem_append
def mA:=@Bool.and_eq_true
def vj:=@Option.pure_def
def yN:=@decide_eq_true_eq
def qe:=@absurd
def mD:=@decide_eq_false_iff_not
def qg:=@List.not_mem_nil
def eX:=@Prod.mk.injEq
def nH:=@List.length_append
def Hf:=@List.mem_of_getElem?
def oK:=@List.eq_nil_of_length_eq_zero
def BN:=@of_decide_eq_true
def tp:=@List.getElem?_eq_some_iff
def jB:=@List.nil_append
def vG:=@List.map_cons
def Eg:=@if_true
def Ej:=@List.append_nil
def Ek:=@List.take_append_drop
def yS:=@List.mem_of_mem_take
def Br:=@List.foldl_cons
def vq:=@Array.getD_eq_getD_getElem?
def Et:=@Nat.pos_iff_ne_zero
def Ee:=@List.length_take
def B8:=@List.length_cons
def A1:=@Bool.false_ne_true
def uF:=@of_decide_eq_false
def uK:=@List.foldl_append
def Ei:=@exists_false
def IW:=@List.cons_append
def zN:=@Nat.le_trans
def Bd:=@List.getElem?_cons_zero
def Gy:=@List.range_succ
def Ec:=@Nat.mul_le_mul_right
def AZ:=@or_false
def ER:=@Nat.zero_le
def I0:=@List.mem_range
def Fb:=@Nat.add_mul
def xm:=@List.append_assoc
def Em:=@true_and
def L7:=@List.getElem?_take
def uJ:=@List.take_length
def GA:=@Option.getD_some
def Ig:=@Bool.false_eq_true
def Lh:=@and_false
def AF:=@Bool.not_eq_true'
def Jf:=@List.all_eq_true
def Ls:=@List.getElem?_eq_none
def Lu:=@List.pairwise_cons
def LA:=@List.filter_append
def Ib:=@List.mem_cons_of_mem
def Ic:=@List.filter_cons
def ZT:=@List.mem_flatMap
def A0:=@if_false
def Lc:=@List.map_append
def Iu:=@List.mem_cons_self
def OJ:=@List.length_drop
def Ii:=@List.find?_cons
def OS:=@List.take_add_one
def we:=@List.length_map
def Rp:=@Option.map_some
def ze:=@Nat.lt_of_lt_of_le
def Lt:=@Array.length_toList
def Lz:=@List.take_of_length_le
def Ow:=@Nat.zero_add
def Gf:=@List.cons.injEq
def Ou:=@List.getElem?_cons_succ
def Q5:=@List.replicate_succ
def OQ:=@List.getElem_of_mem
def Zbv:=@List.mem_or_eq_of_mem_set
def Zbw:=@List.mapM_cons
def Tg:=@Int.le_refl
def Rd:=@List.findIdx?_cons
def RI:=@List.mem_filter
def Th:=@List.flatten_cons
def ZR:=@List.mem_iff_getElem
def TT:=@Option.some.inj
def MK:=@List.getElem_mem
def TZ:=@Nat.lt_succ_self
def ZbF:=@List.length_range
def ZM:=@List.getElem_drop
def ZbH:=@List.getElem?_map
def ZbI:=@List.getElem?_append_right
def ZbJ:=@List.length_nil
def XW:=@and_assoc
def Jc:=@List.ext_getElem
def ZbM:=@List.getElem?_append_left
def ZbN:=@List.map_congr_left
def Gr:=@List.length_pos_iff
def ZI:=@and_true
def ZV:=@List.mem_filterMap
def ZbR:=@List.getD_eq_getElem?_getD
def ZbS:=@List.flatMap_cons
def Zy:=@forall_eq
def If:=@List.drop_eq_getElem_cons
def ZbV:=@Array.getElem?_eq_getElem
def ZbW:=@List.length_replicate
def ZbX:=@List.getElem_range
def ZbY:=@List.getElem?_drop
def Tz:=@Option.isSome_iff_exists
def Zb0:=@List.ext_getElem?
def Zb1:=@List.getElem?_set
def Zb2:=@Nat.add_zero
def Zb3:=@List.drop_eq_nil_of_le
def Zb4:=@List.findIdx?_eq_some_iff_getElem
def Lm:=@List.getElem_map
def Zb6:=@false_or
def Zb7:=@List.set_cons_zero
def Zb8:=@Array.append_empty
def Zb9:=@Array.getElem?_toList
def Zca:=@List.contains_iff_mem
def Zcb:=@List.mem_of_find?_eq_some
def Zcc:=@List.getElem?_eq_none_iff
def Zcd:=@List.mem_of_mem_drop
def Zce:=@List.eq_of_mem_replicate
def Zcf:=@List.getElem?_of_mem
def Zcg:=@List.map_nil
def Zch:=@List.getElem_take
def Zci:=@List.drop_append_of_le_length
def Zcj:=@List.length_eq_zero_iff
def Zck:=@List.take_succ_cons
def Zcl:=@Int.toNat_of_nonneg
def Zcm:=@Array.getElem?_setIfInBounds
def Zcn:=@Option.toList_some
def Zco:=@List.map_set
def Zcp:=@List.modify_succ_cons
def ZS:=@List.set_append_right
def Zcr:=@Option.ne_none_iff_exists'
def Zcs:=@List.mem_range'_1
def Zct:=@List.nodup_append
def Zcu:=@beq_iff_eq
def Zcv:=@List.pairwise_iff_getElem
def Zcw:=@Nat.pow_le_pow_right
def Zcx:=@List.nodup_nil
def Zcy:=@List.foldl_nil
def Zcz:=@Nat.lt_of_not_le
def ZcA:=@Bool.or_eq_true
def ZcB:=@Bool.eq_iff_iff
def ZcC:=@Int.mul_le_mul_of_nonneg_right
def ZcD:=@List.find?_eq_some_iff_getElem
def ZcE:=@List.filter_eq_nil_iff
def ZcF:=@List.length_eq_one_iff
def ZcG:=@Nat.sub_zero
def ZcH:=@Nat.zero_mul
def ZcI:=@List.drop_drop
def ZcJ:=@List.drop_zero
def ZcK:=@List.modify_zero_cons
def ZcL:=@List.getElem_set
def ZcM:=@List.zipIdx_cons
def ZcN:=@Array.toArray_toList
def ZcO:=@Option.bind_some
def ZcP:=@Bool.not_eq_true
def ZcQ:=@List.replicate_succ'
def ZcR:=@List.any_eq_true
def ZcS:=@List.cons.inj
def ZcT:=@Bool.not_true
def ZcU:=@Int.tdiv_eq_ediv_of_nonneg
def ZcV:=@Nat.one_mul
def ZcW:=@List.find?_some
def ZcX:=@List.nodup_cons
def ZcY:=@List.find?_eq_none
def ZcZ:=@Nat.add_sub_cancel
def Zc0:=@List.set_cons_succ
def Zc1:=@Nat.eq_zero_or_pos
def Zc2:=@List.mem_of_mem_eraseIdx
def Zc3:=@List.map_map
def Zc4:=@Int.natCast_nonneg
def Zc5:=@Int.mul_nonneg
def Zc6:=@List.pairwise_map
def Zc7:=@List.find?_cons_of_pos
def Zc8:=@Bool.true_and
def Zc9:=@List.map_take
def Zda:=@Nat.mod_eq_of_lt
def Zdb:=@Nat.succ_le_succ
def Zdc:=@List.eq_nil_or_concat
def Zdd:=@List.concat_eq_append
def Zde:=@List.forIn_cons
def Zdf:=@List.getElem?_append
def Zdg:=@Nat.lt_or_ge
def Zdh:=@List.take_append_of_le_length
def Zdi:=@Int.mul_le_mul_of_nonneg_left
def Zdj:=@List.getD_cons_succ
def Zdk:=@List.getElem?_range
def Zdl:=@List.flatten_append
def Zdm:=@List.drop_succ_cons
def Zdn:=@Array.toList_modify
def Zdo:=@List.flatMap_append
def Zdp:=@List.filterMap_cons
def Zdq:=@List.take_take
def Zdr:=@List.foldl_map
def Zds:=@not_or
def Zdt:=@Bool.not_eq_false'
def Zdu:=@Array.getElem?_append_left
def Zdv:=@Array.mapM_eq_mapM_toList
def Zdw:=@List.findIdx?_eq_none_iff
def Zdx:=@List.take_append
def Zdy:=@List.drop_append
def Zdz:=@List.range'_succ
def ZdA:=@Array.toList_inj
def ZdB:=@List.take_left'
def ZdC:=@List.filter_nil
def ZdD:=@Nat.le_succ
def ZdE:=@List.Perm.refl
def ZdF:=@List.take_left
def ZdG:=@Nat.mul_le_mul
def ZdH:=@dif_pos
def ZdI:=@List.modify_id
def ZdJ:=@false_implies
def ZdK:=@List.all_cons
section
abbrev fm:=Nat->Prop
abbrev ba:=List Int
abbrev cN:=List Nat
section
variable{w':World}{W':fm}
inductive T where
 |bool (b:Bool)
 |int (k:IntKind) (n:Int)
 |str (s:ByteArray)
 |sl (aC:List (List T))
 |agg (cs:List T)
 |dh (vs:List T)
 |fn (f:Fn) (cz:List T)
 |box (cs:List T)
 |tf (v:Value)
abbrev aG:=List T
abbrev avX:=List aG
instance:Inhabited T:=⟨.bool false⟩
section
variable(w:World)(W:fm)
mutual
def be:T->Value->Prop
 |.bool b,v=>v=.bool b
 |.int k n,v=>v=.int k n
 |.str s,v=>v=.string s
 |.sl aC,v=>(aC=[]/\∃(a:Option Addr) (cap:Nat),v=.slice a 0 cap)\/
   ∃b o cap sz,v=.slice (some ⟨b,o,none⟩) aC.length cap/\b<w.heap.size/\¬W b/\aC.length<=cap/\bw sz b o aC
 |.agg cs,v=>∃vs,v=.agg vs/\dt cs vs.toList
 |.dh ts,v=>∃vs,v=.tuple vs/\eS ts vs.toList
 |.fn f cz,v=>∃vs,v=.func f #[] vs/\dt cz vs.toList
 |.box cs,v=>∃b o,v=.pointer (some ⟨b,o,none⟩)/\b<w.heap.size/\¬W b/\dY b o cs
 |.tf x,v=>v=x
def dt:aG->List Value->Prop
 |[],vs=>vs=[]
 |t::ts,vs=>∃v jz,vs=v::jz/\v.oneCell'=true/\be t v/\dt ts jz
def eS:aG->List Value->Prop
 |[],vs=>vs=[]
 |t::ts,vs=>∃v jz,vs=v::jz/\be t v/\eS ts jz
def dY:Nat->Nat->aG->Prop
 |_,_,[]=>True
 |b,o,t::ts=>(∃v,w.cell? ⟨b,o,none⟩=some v/\v.oneCell'=true/\be t v)/\dY b (o+1) ts
def bw:Nat->Nat->Nat->List (aG)->Prop
 |_,_,_,[]=>True
 |sz,b,o,r::rs=>r.length=sz/\dY b o r/\bw sz b (o+sz) rs
end
end
structure KeepsC(W:fm)(w w':World):Prop where
 size:w.heap.size<=w'.heap.size
 jK:∀(b:Nat) c e fr,w.heap[b]? =some (.cells c e fr)->¬W b->w'.heap[b]? =some (.cells c e fr)
structure c8(W:fm)(w w':World):Prop extends KeepsC W w w' where
 OI:∀b:Nat,w.heap[b]? =some (Obj.deferred (some []))->w'.heap[b]? =some (Obj.deferred (some []))
 Rj:∀(b:Nat) r,w.heap[b]? =some (Obj.loop r)->w'.heap[b]? =some (Obj.loop r)
def KeepsC.cell{W:fm}{w:World}(h:KeepsC W w w'){b o:Nat}{v:Value}(hn:¬W b)(hc:w.cell? ⟨b,o,none⟩=some v):w'.cell? ⟨b,o,none⟩=some v:=by
 unfold World.cell? at hc⊢;simp only at hc⊢;split at hc
 .rename_i c e fr hb;rw[h.jK b c e fr hb hn];exact hc
 .cases hc
def c8.refl(W:fm)(w:World):c8 W w w:=⟨⟨gJ _,λ_ _ _ _ h _=>h⟩,λ_ h=>h,λ_ _ h=>h⟩
def c8.mono{W:fm}{a b:World}(h:c8 W a b)(hw:∀i,W i->W' i):c8 W' a b:=
 ⟨⟨h.size,λi c e fr hi hn=>h.jK i c e fr hi λx=>hn (hw i x)⟩,h.OI,h.Rj⟩
structure xl(B:Nat)(w w':World):Prop extends RowKit.Below B w w' where
 drawn:w.drawn<=w'.drawn
def c8.Zx{W:fm}{w:World}(h:RowKit.Below w.heap.size w w'):c8 W w w':=
 ⟨⟨h.size,λb c e fr hb _=>(h.block b (cM.1 hb).1).trans hb⟩,λb hb=>(h.block b (cM.1 hb).1).trans hb,λb r hb=>(h.block b (cM.1 hb).1).trans hb⟩
mutual
def be.aL{w w':World}{W W':fm}(h:KeepsC W w w')(hW:∀b,b<w.heap.size->W' b->W b):∀(t:T) (v:Value),be w W t v->be w' W' t v
 |.bool b,v,r=>by simpa [be]using r
 |.int k n,v,r=>by simpa [be]using r
 |.tf x,v,r=>by simpa [be]using r
 |.str s,v,r=>by simpa [be]using r
 |.sl aC,v,r=>by
  simp only[be]at r⊢;rcases r with r|⟨b,o,cap,sz,hv,hb,hn,hc,hr⟩
  .exact .inl r
  .exact .inr ⟨b,o,cap,sz,hv,ze hb h.size,λx=>hn (hW b hb x),hc,bw.aL h hW hb hn sz o aC hr⟩
 |.agg cs,v,r=>by
  simp only[be]at r⊢;obtain⟨vs,hv,hr⟩:=r;exact⟨vs,hv,dt.aL h hW cs _ hr⟩
 |.dh ts,v,r=>by
  simp only[be]at r⊢;obtain⟨vs,hv,hr⟩:=r;exact⟨vs,hv,eS.aL h hW ts _ hr⟩
 |.fn f cz,v,r=>by
  simp only[be]at r⊢;obtain⟨vs,hv,hr⟩:=r;exact⟨vs,hv,dt.aL h hW cz _ hr⟩
 |.box cs,v,r=>by
  simp only[be]at r⊢;obtain⟨b,o,hv,hb,hn,hr⟩:=r;exact⟨b,o,hv,ze hb h.size,λx=>hn (hW b hb x),dY.aL h hW hb hn o cs hr⟩
def dt.aL{w w':World}{W W':fm}(h:KeepsC W w w')(hW:∀b,b<w.heap.size->W' b->W b):∀(ts:aG) (vs:List Value),dt w W ts vs->dt w' W' ts vs
 |[],vs,r=>by simpa [dt]using r
 |t::ts,vs,r=>by
  simp only[dt]at r⊢;obtain⟨v,jz,hv,h1,hr,mK⟩:=r;exact⟨v,jz,hv,h1,be.aL h hW t v hr,dt.aL h hW ts jz mK⟩
def eS.aL{w w':World}{W W':fm}(h:KeepsC W w w')(hW:∀b,b<w.heap.size->W' b->W b):∀(ts:aG) (vs:List Value),eS w W ts vs->eS w' W' ts vs
 |[],vs,r=>by simpa [eS]using r
 |t::ts,vs,r=>by
  simp only[eS]at r⊢;obtain⟨v,jz,hv,hr,mK⟩:=r;exact⟨v,jz,hv,be.aL h hW t v hr,eS.aL h hW ts jz mK⟩
def dY.aL{w w':World}{W W':fm}(h:KeepsC W w w')(hW:∀b,b<w.heap.size->W' b->W b){b:Nat}(hb:b<w.heap.size)(hn:¬W b):∀(o:Nat) (ts:aG),dY w W b o ts->dY w' W' b o ts
 |_,[],_=>by simp[dY]
 |o,t::ts,r=>by
  simp only[dY]at r⊢;obtain⟨⟨v,hc,h1,hr⟩,mK⟩:=r;exact⟨⟨v,h.cell hn hc,h1,be.aL h hW t v hr⟩,dY.aL h hW hb hn (o+1) ts mK⟩
def bw.aL{w w':World}{W W':fm}(h:KeepsC W w w')(hW:∀b,b<w.heap.size->W' b->W b){b:Nat}(hb:b<w.heap.size)(hn:¬W b)(sz:Nat):∀(o:Nat) (rs:List (aG)),bw w W sz b o rs->bw w' W' sz b o rs
 |_,[],_=>by simp[bw]
 |o,r::rs,x=>by
  simp only[bw]at x⊢;exact⟨x.1,dY.aL h hW hb hn o r x.2.1,bw.aL h hW hb hn sz (o+sz) rs x.2.2⟩
end
section
variable{w:World}{W:fm}
def bw.row{sz b:Nat}:∀{aC:List (aG)} {o i:Nat} {r:aG},bw w W sz b o aC->aC[i]? =some r->r.length=sz/\dY w W b (o+i*sz) r
 |[],_,_,_,_,h=>by simp at h
 |x::xs,o,0,r,hr,h=>by
  simp only[bw]at hr;simp only[Bd,cq]at h;subst h;simpa using⟨hr.1,hr.2.1⟩
 |x::xs,o,i+1,r,hr,h=>by
  simp only[bw]at hr;simp only[Ou]at h;have:=bw.row hr.2.2 h;rw[show o+(i+1)*sz=o+sz+i*sz by rw[Fb];omega];exact this
def dY.BX{b:Nat}:∀(ts:aG) (o:Nat),(∀j t,ts[j]? =some t->∃v,w.cell? ⟨b,o+j,none⟩=some v/\v.oneCell'=true/\be w W t v)->dY w W b o ts
 |[],_,_=>by simp[dY]
 |t::ts,o,h=>by
  simp only[dY];refine⟨by simpa using h 0 t (by simp),dY.BX ts (o+1) λj u hu=>?_⟩;have:=h (j+1) u (by simpa using hu)
  rwa [show o+1+j=o+(j+1)by omega]
def bw.A9{sz b:Nat}:∀(rs:List (aG)) (o:Nat),(∀i r,rs[i]? =some r->r.length=sz/\dY w W b (o+i*sz) r)->bw w W sz b o rs
 |[],_,_=>by simp[bw]
 |r::rs,o,h=>by
  simp only[bw];have h0:=h 0 r (by simp);refine⟨h0.1,by simpa using h0.2,bw.A9 rs (o+sz) λi u hu=>?_⟩;have:=h (i+1) u (by simpa using hu)
  rwa [show o+sz+i*sz=o+(i+1)*sz by rw[Fb];omega]
def dt.length:∀{ts:aG} {vs:List Value},dt w W ts vs->vs.length=ts.length
 |[],_,h=>by simp only[dt]at h;simp[h]
 |_::ts,_,h=>by
  simp only[dt]at h;obtain⟨v,jz,rfl,_,_,hr⟩:=h;simp[dt.length hr]
def eS.length:∀{ts:aG} {vs:List Value},eS w W ts vs->vs.length=ts.length
 |[],_,h=>by simp only[eS]at h;simp[h]
 |_::ts,_,h=>by
  simp only[eS]at h;obtain⟨v,jz,rfl,_,hr⟩:=h;simp[eS.length hr]
def dt.get:∀{ts:aG} {vs:List Value} {i:Nat} {t:T},dt w W ts vs->ts[i]? =some t->∃v,vs[i]? =some v/\v.oneCell'=true/\be w W t v
 |[],_,_,_,_,h=>by simp at h
 |x::xs,_,0,t,hr,h=>by
  simp only[dt]at hr;obtain⟨v,jz,rfl,h1,h2,_⟩:=hr;simp only[Bd,cq]at h;subst h;exact⟨v,rfl,h1,h2⟩
 |x::xs,_,i+1,t,hr,h=>by
  simp only[dt]at hr;obtain⟨v,jz,rfl,_,_,hr⟩:=hr;simpa using dt.get hr (by simpa using h)
def eS.get:∀{ts:aG} {vs:List Value} {i:Nat} {t:T},eS w W ts vs->ts[i]? =some t->∃v,vs[i]? =some v/\be w W t v
 |[],_,_,_,_,h=>by simp at h
 |x::xs,_,0,t,hr,h=>by
  simp only[eS]at hr;obtain⟨v,jz,rfl,h2,_⟩:=hr;simp only[Bd,cq]at h;subst h;exact⟨v,rfl,h2⟩
 |x::xs,_,i+1,t,hr,h=>by
  simp only[eS]at hr;obtain⟨v,jz,rfl,_,hr⟩:=hr;simpa using eS.get hr (by simpa using h)
end
class bD where
 cells:List (Nat×aG)
abbrev bD.none:bD:=⟨[]⟩
def BY [bD](w:World)(W:fm):Prop:=∀p∈bD.cells,p.1<w.heap.size/\¬W p.1/\dY w W p.1 0 p.2
def BY.aL [bD]{w:World}{W:fm}(h:BY w W)(hk:KeepsC W w w')(hW:∀b,b<w.heap.size->W' b->W b):BY w' W':=λp hp=>by
 obtain⟨h1,h2,h3⟩:=h p hp;exact⟨ze h1 hk.size,λx=>h2 (hW _ h1 x),dY.aL hk hW h1 h2 0 p.2 h3⟩
def BY.empty(w:World)(W:fm): @BY bD.none w W:=λp hp=>by cases hp
end
end
section
inductive DV where
 |undef
 |skip
 |v (t:T)
 |aZ
 |ptr (r off:Nat)
 |aW (r bG:Nat)
 |mw (aC:List (aG)) (i:Int) (off:Nat)
 |j9 (cs:aG) (off:Nat)
 |kr (r bG:Nat) (i:Int) (off:Nat)
 |agg (cs:List DV)
 |BZ
 |fH (r:Nat)
 |eo (r:Nat)
 |dh (ds:List DV)
 |v7 (r bG lo n:Nat)
 |AI (f:Fn) (cz:List DV)
 |AH (r n:Nat)
abbrev dW:=Nat->DV
abbrev pe:=List (Nat×DV)
abbrev bW:=List DV
instance:Inhabited DV:=⟨.undef⟩
inductive Sh where
 |bool|int (k:IntKind)|str
def AJ:Sh->T->Bool
 |.bool,.bool _=>true
 |.int k,.int k' _=>k==k'
 |.str,.str _=>true
 |_,_=>false
def d8:List Sh->aG->Prop
 |[],ts=>ts=[]
 |s::ss,t::ts=>AJ s t=true/\d8 ss ts
 |_::_,[]=>False
inductive Ob where
 |box (cs:bW)
 |bm (bG e sz:Nat) (aC:List (aG))
 |map (bZ:List Sh) (agg:Bool) (xo:Nat) (es:List (Nat×T×DV))
 |eo (m avY:Nat) (seen:cN) (alC:Nat)
abbrev fS:=List (Nat×Ob)
def Ob.kind:Ob->Nat
 |.box _=>0
 |.bm _ _ _ _=>1
 |.map _ _ _ _=>2
 |.eo _ _ _ _=>3
abbrev bS:=Nat->Option Ob
structure lK where
 tmps:dW
 ab:bS
 aP:Nat
 low:Nat
 todo:List (aG)
inductive bK where
 |tmp (t:Nat)
 |wW (d:DV)
def bK.ev(ρ:dW):bK->DV
 |.tmp t=>ρ t
 |.wW d=>d
structure iw where
 ok:Prop
 val:DV
 ab:bS
structure Spec where
 pre:aG->Prop
 fn:aG->T
 jL:Bool
 st:Option (bW->bS->iw):=none
 fresh:Option (Nat×Nat):=none
 fT:Bool:=false
abbrev kv:=FuncId->Option Spec
inductive qO where
 |Lg (x:bK)
 |pick (c a b:bK)
 |alloc (zero:bW)
 |box (x:bK)
 |build (zero:bW) (parts:List (Nat×Nat×bK))
 |bslice (len sz:Nat) (zero:bW) (parts:List (Nat×Nat×bK))
 |load (n:Nat) (agg:Bool) (x:bK)
 |store (n:Nat) (x y:bK)
 |bin (op:BinOp) (x y:bK)
 |eqT (neg agg:Bool) (bZ:List Sh) (x y:bK)
 |un (op:UnOp) (x:bK)
 |conv (k:IntKind) (x:bK)
 |addOff (k:Nat) (x:bK)
 |nilCheck (x:bK)
 |idxAddr (sz:Nat) (x i:bK)
 |arrAddr (len sz:Nat) (x i:bK)
 |field (off n:Nat) (agg:Bool) (x:bK)
 |slice (sz:Nat) (x:bK) (lo hi:Option bK)
 |extract (i:Nat) (x:bK)
 |call (f:FuncId) (args:List bK)
 |callS (f:FuncId) (args:List bK)
 |callF (f:FuncId) (args:List bK)
 |callR (f:FuncId) (args:List bK)
 |callv (x:bK) (args:List bK)
 |len (x:bK)
 |lenS (x:bK)
 |minmax (IX:Bool) (x y:bK)
 |append (e sz bytes:Nat) (x y:bK)
 |mkSlice (e sz bytes:Nat) (zero:aG) (n:bK)
 |mkSliceB (e sz bytes:Nat) (zero:aG) (n:bK)
 |mkFn (f:Fn) (cz:List bK)
 |mkMap (bZ:List Sh) (agg:Bool)
 |lookup (bZ:List Sh) (agg:Bool) (zero:DV) (ok:Bool) (x k:bK)
 |mapUpd (bZ:List Sh) (agg:Bool) (x k y:bK)
 |mapDel (bZ:List Sh) (agg:Bool) (x k:bK)
 |mapEnt (bZ:List Sh) (agg:Bool) (zero:DV) (x k:bK)
 |entSt (x s y:bK)
 |lenM (x:bK)
 |rangeM (x:bK)
 |entryM (x:bK)
 |copy (sz:Nat) (x y:bK)
 |isNil (kind:Nat) (neg:Bool) (x:bK)
 |indexS (x i:bK)
 |fail
structure D9 where
 ok:Prop
 val:DV
 put:Option (Nat×Ob):=none
def cW:D9:=⟨False,.undef,none⟩
def xp:T->Bool
 |.agg _|.dh _=>false
 |.tf v=>v.oneCell'
 |_=>true
def cellsOf:DV->bW
 |.v (.agg cs)=>cs.map .v
 |.agg cs=>cs
 |d=>[d]
def pD:DV->Prop
 |.undef=>False
 |.skip=>False
 |.v (.dh _)=>False
 |.v (.tf x)=>x.oneCell'=true
 |.dh _=>False
 |_=>True
mutual
def sY(ab:bS):DV->T
 |.v t=>t
 |.aZ=>.sl []
 |.aW r _=>match ab r with|some (.bm _ _ _ aC)=>.sl aC|_=>.sl []
 |.agg cs=>.agg (jr ab cs)
 |.v7 r _ lo n=>match ab r with|some (.bm _ _ _ aC)=>.sl ((aC.drop lo).take n)|_=>.sl []
 |.AI f cz=>.fn f (jr ab cz)
 |_=>.tf undef
def jr(ab:bS):bW->aG
 |[]=>[]
 |d::ds=>sY ab d::jr ab ds
end
mutual
def Ed(fT:Bool)(ab:bS):DV->Prop
 |.v _=>True
 |.aZ=>True
 |.aW r bG=>fT=true/\match ab r with|some (.bm bM _ _ _)=>bG=bM|_=>False
 |.agg cs=>tF fT ab cs
 |.v7 r bG lo n=>fT=true/\match ab r with|some (.bm bM _ _ aC)=>bG=bM/\lo+n<=aC.length|_=>False
 |.AI _ cz=>tF fT ab cz
 |_=>False
def tF(fT:Bool)(ab:bS):bW->Prop
 |[]=>True
 |d::ds=>Ed fT ab d/\tF fT ab ds
end
def tG:DV->Prop
 |.v t=>xp t=true
 |.aZ=>True
 |_=>False
def iA:bW->Prop
 |[]=>True
 |d::ds=>tG d/\iA ds
def xq:bW->Bool
 |[]=>true
 |.v t::ds=>xp t&&xq ds
 |.aZ::ds=>xq ds
 |_::_=>false
def kK:DV->Prop
 |.undef=>False
 |.skip=>False
 |.v t=>xp t=true
 |.agg _=>False
 |.dh _=>False
 |_=>True
def eQ:bW->Prop
 |[]=>True
 |d::ds=>kK d/\eQ ds
def cg{α:Type}(l:List α)(off:Nat)(new:List α):List α:=l.take off++new++l.drop (off+new.length)
def vI(cells:bW):List (Nat×Nat×DV)->bW
 |[]=>cells
 |(off,_,d)::ps=>vI (cg cells off (cellsOf d)) ps
def tH(n:Nat):List (Nat×Nat×DV)->Prop
 |[]=>True
 |(off,sz,d)::ps=>(cellsOf d).length=sz/\off+sz<=n/\eQ (cellsOf d)/\tH n ps
def rowAt(aC:List (aG))(i:Int):aG:=aC.getD i.toNat []
def di(sz:Nat):Nat->aG->List (aG)
 |0,_=>[]
 |n+1,cs=>cs.take sz::di sz n (cs.drop sz)
def gP(n:Nat)(agg:Bool)(ab:bS):DV->D9
 |.ptr r off=>match ab r with
  |some (.box cs)=>⟨off+n<=cs.length/\(agg=true\/n=1),if agg then .agg ((cs.drop off).take n)else cs.getD off .undef,none⟩
  |_=>cW
 |.mw aC i off=>⟨off+n<=(rowAt aC i).length/\(agg=true\/n=1),if agg then .v (.agg (((rowAt aC i).drop off).take n))else .v ((rowAt aC i).getD off default),none⟩
 |.j9 cs off=>⟨off+n<=cs.length/\(agg=true\/n=1),if agg then .v (.agg ((cs.drop off).take n))else .v (cs.getD off default),none⟩
 |.v (.box cs)=>⟨n<=cs.length/\(agg=true\/n=1),if agg then .v (.agg (cs.take n))else .v (cs.getD 0 default),none⟩
 |.kr r bG i off=>match ab r with
  |some (.bm bM _ _ aC)=>⟨bG=bM/\off+n<=(rowAt aC i).length/\(agg=true\/n=1),if agg then .v (.agg (((rowAt aC i).drop off).take n))else .v ((rowAt aC i).getD off default),none⟩
  |_=>cW
 |_=>cW
def lV(n:Nat)(ab:bS)(y:DV):DV->D9
 |.ptr r off=>match ab r with
  |some (.box cs)=>⟨(cellsOf y).length=n/\off+n<=cs.length/\eQ (cellsOf y),.undef,some (r,.box (cg cs off (cellsOf y)))⟩
  |_=>cW
 |.kr r bG i off=>match ab r with
  |some (.bm bM e sz aC)=>⟨bG=bM/\(cellsOf y).length=n/\off+n<=sz/\iA (cellsOf y),.undef,
    some (r,.bm bM e sz (aC.set i.toNat (cg (rowAt aC i) off (jr ab (cellsOf y)))))⟩
  |_=>cW
 |_=>cW
def tJ(op:BinOp):DV->DV->D9
 |.v (.int k a),.v (.int k' b)=>match op with
  |.add=>⟨k=k',.v (.int k (k.wrap (a+b))),none⟩
  |.sub=>⟨k=k',.v (.int k (k.wrap (a-b))),none⟩
  |.mul=>⟨k=k',.v (.int k (k.wrap (a*b))),none⟩
  |.quo=>⟨k=k'/\b≠0,.v (.int k (k.wrap (a.tdiv b))),none⟩
  |.rem=>⟨k=k'/\b≠0,.v (.int k (a.tmod b)),none⟩
  |.eql=>⟨k=k',.v (.bool (decide (a=b))),none⟩
  |.neq=>⟨k=k',.v (.bool (!decide (a=b))),none⟩
  |.lss=>⟨k=k',.v (.bool (decide (a<b))),none⟩
  |.leq=>⟨k=k',.v (.bool (decide (a<=b))),none⟩
  |.gtr=>⟨k=k',.v (.bool (decide (b<a))),none⟩
  |.geq=>⟨k=k',.v (.bool (decide (b<=a))),none⟩
  |.shl=>⟨0<=b,.v (.int k (k.wrap (a*2^min b.toNat k.bits))),none⟩
  |.shr=>⟨0<=b,.v (.int k (a/2^min b.toNat k.bits)),none⟩
  |.and=>⟨k=k',.v (.int k (k.wrap (BitVec.ofInt k.bits a&&&BitVec.ofInt k.bits b).toNat)),none⟩
  |.or=>⟨k=k',.v (.int k (k.wrap (BitVec.ofInt k.bits a|||BitVec.ofInt k.bits b).toNat)),none⟩
  |.xor=>⟨k=k',.v (.int k (k.wrap (BitVec.ofInt k.bits a^^^BitVec.ofInt k.bits b).toNat)),none⟩
  |_=>cW
 |_,_=>cW
mutual
def gQ:T->T->Bool
 |.bool a,.bool b=>a==b
 |.int _ a,.int _ b=>decide (a=b)
 |.str a,.str b=>decide (a=b)
 |.agg as,.agg bs=>F2 as bs
 |_,_=>false
def F2:aG->aG->Bool
 |[],[]=>true
 |a::as,b::bs=>gQ a b&&F2 as bs
 |_,_=>false
end
def B0(neg agg:Bool)(bZ:List Sh):T->T->D9
 |.agg as,.agg bs=>⟨agg=true/\d8 bZ as/\d8 bZ bs,.v (.bool (neg^^F2 as bs)),none⟩
 |a,b=>⟨agg=false/\d8 bZ [a]/\d8 bZ [b],.v (.bool (neg^^gQ a b)),none⟩
def OL(op:UnOp):DV->D9
 |.v (.bool b)=>match op with
  |.not=>⟨True,.v (.bool (!b)),none⟩
  |_=>cW
 |.v (.int k n)=>match op with
  |.neg=>⟨True,.v (.int k (k.wrap (-n))),none⟩
  |_=>cW
 |_=>cW
def pi(k:Nat):DV->D9
 |.ptr r off=>⟨True,.ptr r (off+k),none⟩
 |.mw aC i off=>⟨True,.mw aC i (off+k),none⟩
 |.j9 cs off=>⟨True,.j9 cs (off+k),none⟩
 |.v (.box cs)=>⟨True,.j9 cs k,none⟩
 |.kr r bG i off=>⟨True,.kr r bG i (off+k),none⟩
 |_=>cW
def li:DV->D9
 |.ptr r off=>⟨True,.ptr r off,none⟩
 |.mw aC i off=>⟨True,.mw aC i off,none⟩
 |.j9 cs off=>⟨True,.j9 cs off,none⟩
 |.v (.box cs)=>⟨True,.v (.box cs),none⟩
 |.kr r bG i off=>⟨True,.kr r bG i off,none⟩
 |.v (.fn (.func f) cz)=>⟨True,.v (.fn (.func f) cz),none⟩
 |_=>cW
def rj(sz:Nat)(ab:bS):DV->DV->D9
 |.v (.sl aC),.v (.int _ i)=>⟨0<=i/\i<aC.length/\(rowAt aC i).length=sz,.mw aC i 0,none⟩
 |.aW r bG,.v (.int _ i)=>match ab r with
  |some (.bm bM _ jt aC)=>⟨bG=bM/\jt=sz/\0<=i/\i<aC.length,.kr r bG i 0,none⟩
  |_=>cW
 |.v7 r bG lo n,.v (.int _ i)=>match ab r with
  |some (.bm bM _ jt aC)=>⟨bG=bM/\jt=sz/\0<=i/\i<n,.kr r bG (lo+i) 0,none⟩
  |_=>cW
 |.AH r n,.v (.int _ i)=>⟨0<=i/\i<n,.ptr r (i.toNat*sz),none⟩
 |_,_=>cW
def kY(len sz:Nat):DV->DV->D9
 |.ptr r off,.v (.int _ i)=>⟨0<=i/\i<len,.ptr r (off+i.toNat*sz),none⟩
 |.mw aC j off,.v (.int _ i)=>⟨0<=i/\i<len,.mw aC j (off+i.toNat*sz),none⟩
 |.j9 cs off,.v (.int _ i)=>⟨0<=i/\i<len,.j9 cs (off+i.toNat*sz),none⟩
 |.v (.box cs),.v (.int _ i)=>⟨0<=i/\i<len,.j9 cs (i.toNat*sz),none⟩
 |.kr r bG j off,.v (.int _ i)=>⟨0<=i/\i<len,.kr r bG j (off+i.toNat*sz),none⟩
 |_,_=>cW
def ni:DV->Option (bW)
 |.v (.agg cs)=>some (cs.map .v)
 |.agg cs=>some cs
 |_=>none
def oN(off n:Nat)(agg:Bool)(x:DV):D9:=
 match ni x with
 |some cs=>⟨off+n<=cs.length/\(agg=true\/n=1),if agg then .agg ((cs.drop off).take n)else cs.getD off .undef,none⟩
 |none=>cW
def B1 :DV->Option Int
 |.v (.int _ n)=>some n
 |_=>none
def QS:Option DV->Option Int
 |none=>some 0
 |some d=>B1 d
def B3(n:Int):Option DV->Option Int
 |none=>some n
 |some d=>B1 d
def jM(sz:Nat)(lo hi:Option DV)(ab:bS):DV->D9
 |.v (.sl aC)=>
  match QS lo,B3 aC.length hi with
  |some l,some h=>⟨0<=l/\l<=h/\h<=aC.length/\(∀r∈aC,r.length=sz),.v (.sl ((aC.take h.toNat).drop l.toNat)),none⟩
  |_,_=>cW
 |.aZ=>
  match QS lo,B3 0 hi with
  |some l,some h=>⟨l=0/\h=0,.aZ,none⟩
  |_,_=>cW
 |.aW r bG=>match ab r with
  |some (.bm bM _ jt aC)=>match QS lo,B3 aC.length hi with
   |some l,some h=>⟨bG=bM/\jt=sz/\0<=l/\l<=h/\h<=aC.length,.v7 r bG l.toNat (h.toNat-l.toNat),none⟩
   |_,_=>cW
  |_=>cW
 |.v7 r bG lo' n=>match ab r with
  |some (.bm bM _ jt aC)=>match QS lo,B3 n hi with
   |some l,some h=>⟨bG=bM/\jt=sz/\0<=l/\l<=h/\h<=n,.v7 r bG (lo'+l.toNat) (h.toNat-l.toNat),none⟩
   |_,_=>cW
  |_=>cW
 |_=>cW
def EI(i:Nat):DV->D9
 |.v (.dh ts)=>⟨i<ts.length,.v (ts.getD i default),none⟩
 |.dh ds=>⟨i<ds.length,ds.getD i .undef,none⟩
 |_=>cW
def v8(ab:bS):DV->D9
 |.v (.sl aC)=>⟨True,.v (.int .i64 aC.length),none⟩
 |.aZ=>⟨True,.v (.int .i64 0),none⟩
 |.aW r bG=>match ab r with
  |some (.bm bM _ _ aC)=>⟨bG=bM,.v (.int .i64 aC.length),none⟩
  |_=>cW
 |.v7 _ _ _ n=>⟨True,.v (.int .i64 n),none⟩
 |.AH _ n=>⟨True,.v (.int .i64 n),none⟩
 |_=>cW
def uH:DV->D9
 |.v (.str s)=>⟨True,.v (.int .i64 s.size),none⟩
 |_=>cW
def oC(IX:Bool):DV->DV->D9
 |.v (.int k a),.v (.int k' b)=>⟨k=k',.v (.int k (if IX then max a b else min a b)),none⟩
 |_,_=>cW
def fK(ab:bS):DV->Option (List (aG))
 |.v (.sl aC)=>some aC
 |.aZ=>some []
 |.aW r bG=>match ab r with
  |some (.bm bM _ _ aC)=>if bG=bM then some aC else none
  |_=>none
 |.v7 r bG lo n=>match ab r with
  |some (.bm bM _ _ aC)=>if bG=bM then some ((aC.drop lo).take n)else none
  |_=>none
 |.v (.tf (.slice _ 0 _))=>some []
 |_=>none
def cw(bytes n:Nat):Prop:=n*bytes<=140737488355328/\n<=140737488355328
def iC(e sz bytes:Nat)(name:Nat)(ab:bS)(x y:DV):D9:=
 match fK ab y with
 |none=>cW
 |some ys=>
  match x with
  |.aZ=>⟨(∀r∈ys,r.length=sz)/\cw bytes ys.length,.aW name 0,some (name,.bm 0 e sz ys)⟩
  |.aW r bG=>match ab r with
   |some (.bm bM e' jt aC)=>⟨bG=bM/\e'=e/\jt=sz/\(∀r∈ys,r.length=sz)/\cw bytes (aC.length+ys.length),.aW r (bG+1),some (r,.bm (bG+1) e sz (aC++ys))⟩
   |_=>cW
  |.v7 r bG 0 n=>match ab r with
   |some (.bm bM e' jt aC)=>⟨bG=bM/\e'=e/\jt=sz/\(∀r∈ys,r.length=sz)/\cw bytes (n+ys.length),.aW r (bG+1),some (r,.bm (bG+1) e sz (aC.take n++ys))⟩
   |_=>cW
  |_=>cW
def lW(e sz bytes:Nat)(zero:aG)(name:Nat):DV->D9
 |.v (.int _ n)=>⟨0<=n/\zero.length=sz/\cw bytes n.toNat,.aW name 0,some (name,.bm 0 e sz (List.replicate n.toNat zero))⟩
 |_=>cW
def EY:T->DV
 |.sl []=>.aZ
 |t=>.v t
def gj(sz bytes:Nat)(zero:aG)(name:Nat):DV->D9
 |.v (.int _ n)=>⟨0<=n/\zero.length=sz/\cw bytes n.toNat,.AH name n.toNat,some (name,.box (List.replicate n.toNat (zero.map EY)).flatten)⟩
 |_=>cW
def kb(sz:Nat)(ab:bS)(x y:DV):D9:=
 match fK ab y with
 |none=>cW
 |some ys=>
  match x with
  |.aW r bG=>match ab r with
   |some (.bm bM e jt aC)=>⟨bG=bM/\jt=sz/\(∀r∈ys,r.length=sz),.v (.int .i64 (min ys.length aC.length:Nat)),some (r,.bm bG e sz (cg aC 0 (ys.take aC.length)))⟩
   |_=>cW
  |.v7 r bG lo n=>match ab r with
   |some (.bm bM e jt aC)=>⟨bG=bM/\jt=sz/\(∀r∈ys,r.length=sz),.v (.int .i64 (min ys.length n:Nat)),some (r,.bm bG e sz (cg aC lo (ys.take n)))⟩
   |_=>cW
  |_=>cW
def gk(kind:Nat)(neg:Bool)(ab:bS):DV->D9
 |.v (.tf (.slice p _ _))=>⟨kind=0,.v (.bool (neg^^p.isNone)),none⟩
 |.v (.tf (.pointer p))=>⟨kind=1,.v (.bool (neg^^p.isNone)),none⟩
 |.v (.tf .nilFunc)=>⟨kind=2,.v (.bool (neg^^true)),none⟩
 |.v (.sl aC)=>⟨kind=0/\aC≠[],.v (.bool (neg^^false)),none⟩
 |.v (.fn (.func _) _)=>⟨kind=2,.v (.bool (neg^^false)),none⟩
 |.v (.box _)=>⟨kind=1,.v (.bool (neg^^false)),none⟩
 |.ptr _ _|.j9 _ _|.mw _ _ _|.kr _ _ _ _=>⟨kind=1,.v (.bool (neg^^false)),none⟩
 |.AI (.func _) _=>⟨kind=2,.v (.bool (neg^^false)),none⟩
 |.aW r bG=>match ab r with
  |some (.bm bM _ _ aC)=>⟨kind=0/\bG=bM/\aC≠[],.v (.bool (neg^^false)),none⟩
  |_=>cW
 |_=>cW
def oD:DV->DV->D9
 |.v (.str s),.v (.int _ i)=>⟨0<=i/\i<s.size,.v (.int .u8 (s.data.getD i.toNat 0).toNat),none⟩
 |_,_=>cW
def d9(bZ:List Sh)(agg:Bool):T->Prop
 |.agg as=>agg=true/\d8 bZ as
 |t=>agg=false/\d8 bZ [t]
def Gt:bW->Option (aG)
 |[]=>some []
 |.v t::ds=>(Gt ds).map (t::·)
 |_::_=>none
def vv:DV->Option T
 |.v t=>some t
 |.agg cs=>(Gt cs).map .agg
 |_=>none
def pE(k:T)(es:List (Nat×T×DV)):Option (Nat×T×DV):=es.find? λe=>gQ k e.2.1
def Gu(k:T)(y:DV)(xo:Nat)(es:List (Nat×T×DV)):List (Nat×T×DV):=
 match es.findIdx? λe=>gQ k e.2.1 with
 |some i=>es.modify i λe=>(e.1,e.2.1,y)
 |none=>es++[(xo,k,y)]
def rn(k:T)(xo:Nat)(es:List (Nat×T×DV)):Nat:=
 match es.findIdx? λe=>gQ k e.2.1 with
 |some _=>xo
 |none=>xo+1
def alD(k:T)(es:List (Nat×T×DV)):List (Nat×T×DV):=
 match es.findIdx? λe=>gQ k e.2.1 with
 |some i=>es.eraseIdx i
 |none=>es
def mO(bZ:List Sh)(agg:Bool)(zero:DV)(ok:Bool)(ab:bS)(x k:DV):D9:=
 match x,vv k with
 |.fH r,some kt=>match ab r with
  |some (.map kL kM _ es)=>⟨kL=bZ/\kM=agg/\d9 bZ agg kt,
    match pE kt es with
    |some e=>if ok then .dh [e.2.2,.v (.bool true)]else e.2.2
    |none=>if ok then .dh [zero,.v (.bool false)]else zero,none⟩
  |_=>cW
 |_,_=>cW
def jl(bZ:List Sh)(agg:Bool)(ab:bS)(x k y:DV):D9:=
 match x,vv k with
 |.fH r,some kt=>match ab r with
  |some (.map kL kM c es)=>⟨kL=bZ/\kM=agg/\d9 bZ agg kt/\pD y,.undef,some (r,.map bZ agg (rn kt c es) (Gu kt y c es))⟩
  |_=>cW
 |_,_=>cW
def alE(k:T)(z:DV)(xo:Nat)(es:List (Nat×T×DV)):List (Nat×T×DV):=
 match es.findIdx? λe=>gQ k e.2.1 with
 |some _=>es
 |none=>es++[(xo,k,z)]
def alF(k:T)(z:DV)(xo:Nat)(es:List (Nat×T×DV)):DV:=
 match pE k es with
 |some e=>.dh [e.2.2,.v (.int .i64 e.1)]
 |none=>.dh [z,.v (.int .i64 xo)]
def jm(bZ:List Sh)(agg:Bool)(zero:DV)(ab:bS)(x k:DV):D9:=
 match x,vv k with
 |.fH r,some kt=>match ab r with
  |some (.map kL kM c es)=>⟨kL=bZ/\kM=agg/\d9 bZ agg kt,
    alF kt zero c es,some (r,.map bZ agg (rn kt c es) (alE kt zero c es))⟩
  |_=>cW
 |_,_=>cW
def alG(b:Int)(y:DV)(es:List (Nat×T×DV)):Option (List (Nat×T×DV)):=
 (es.findIdx? λe=>(e.1:Int)==b).map λi=>es.modify i λe=>(e.1,e.2.1,y)
def kN(ab:bS)(x s y:DV):D9:=
 match x,s with
 |.fH r,.v (.int _ b)=>match ab r with
  |some (.map bZ agg c es)=>match alG b y es with
   |some nW=>⟨True,.undef,some (r,.map bZ agg c nW)⟩
   |none=>cW
  |_=>cW
 |_,_=>cW
def jn(bZ:List Sh)(agg:Bool)(ab:bS)(x k:DV):D9:=
 match x,vv k with
 |.fH r,some kt=>match ab r with
  |some (.map kL kM c es)=>⟨kL=bZ/\kM=agg/\d9 bZ agg kt,.v (.dh []),some (r,.map bZ agg c (alD kt es))⟩
  |_=>cW
 |_,_=>cW
def Fz(ab:bS):DV->D9
 |.fH r=>match ab r with
  |some (.map _ _ _ es)=>⟨True,.v (.int .i64 es.length),none⟩
  |_=>cW
 |_=>cW
def lj(name:Nat)(ab:bS):DV->D9
 |.fH r=>match ab r with
  |some (.map _ _ c _)=>⟨True,.eo name,some (name,.eo r c [] c)⟩
  |_=>cW
 |_=>cW
def lm(ab:bS):DV->D9
 |.eo r=>match ab r with
  |some (.eo m _ seen alC)=>match ab m,seen.getLast? with
   |some (.map _ _ c es),some b=>match es.find? λe=>e.1==b with
    |some e=>⟨c=alC,.dh [.v e.2.1,e.2.2],none⟩
    |none=>cW
   |_,_=>cW
  |_=>cW
 |_=>cW
def pF(Γ:kv)(f:FuncId)(ab:bS)(args:bW):D9:=
 match Γ f with
 |some s=>⟨tF s.jL ab args/\s.pre (jr ab args),.v (s.fn (jr ab args)),none⟩
 |none=>cW
mutual
def br:DV->cN
 |.ptr r _|.aW r _|.kr r _ _ _|.fH r|.eo r|.v7 r _ _ _|.AH r _=>[r]
 |.agg cs|.dh cs|.AI _ cs=>da cs
 |_=>[]
def da:bW->cN
 |[]=>[]
 |d::ds=>br d++da ds
end
def oO(ab:bS)(args:bW):bS:=λn=>if n∈da args then ab n else none
def ru(k:bW->bS->iw)(args:bW)(ab:bS):Prop:=
 ∀aM,(∀n∈da args,aM n=ab n)->(k args aM).ok/\(k args aM).ab=aM/\(k args aM).val=(k args (oO ab args)).val
def oP(Γ:kv)(f:FuncId)(ab:bS)(args:bW):D9:=
 match Γ f with
 |some s=>match s.st with
  |some k=>⟨ru k args ab,(k args (oO ab args)).val,none⟩
  |none=>cW
 |none=>cW
def Gv{Γ:kv}{f:FuncId}{ab aM:bS}{args:bW}(h:∀n∈da args,aM n=ab n):oP Γ f aM args=oP Γ f ab args:=by
 have h1:oO aM args=oO ab args:=by
  funext n;unfold oO;split
  .rename_i hn;exact h n hn
  .rfl
 have h2:∀k,ru k args aM=ru k args ab:=by
  intro k;unfold ru;rw[h1];apply propext;constructor
  .exact λH o ho=>H o λn hn=>(ho n hn).trans (h n hn).symm
  .exact λH o ho=>H o λn hn=>(ho n hn).trans (h n hn)
 unfold oP;simp only[h1,h2]
def oQ(Γ:kv)(f:FuncId)(name:Nat)(ab:bS)(args:bW):D9:=
 match Γ f with
 |some s=>match s.fresh,s.fn (jr ab args)with
  |some (e,sz),.sl aC=>⟨tF s.fT ab args/\s.pre (jr ab args),.aW name 0,some (name,.bm 0 e sz aC)⟩
  |_,_=>cW
 |none=>cW
def db(Γ:kv)(d:qO)(name:Nat)(ρ:dW)(ab:bS):D9:=
 match d with
 |.Lg x=>⟨True,x.ev ρ,none⟩
 |.pick c a b=>match c.ev ρ with
  |.v (.bool t)=>⟨True,if t then a.ev ρ else b.ev ρ,none⟩
  |_=>cW
 |.alloc zero=>⟨True,.ptr name 0,some (name,.box zero)⟩
 |.box x=>⟨pD (x.ev ρ),.ptr name 0,some (name,.box (cellsOf (x.ev ρ)))⟩
 |.build zero parts=>⟨tH zero.length (parts.map λp=>(p.1,p.2.1,p.2.2.ev ρ)),.agg (vI zero (parts.map λp=>(p.1,p.2.1,p.2.2.ev ρ))),none⟩
 |.bslice len sz zero parts=>
  if len=0 then⟨parts=[],.aZ,none⟩else
  ⟨tH (len*sz) (parts.map λp=>(p.1,p.2.1,p.2.2.ev ρ))/\iA (vI zero (parts.map λp=>(p.1,p.2.1,p.2.2.ev ρ))),
   .v (.sl (di sz len (jr (λ_=>none) (vI zero (parts.map λp=>(p.1,p.2.1,p.2.2.ev ρ)))))),none⟩
 |.load n agg x=>gP n agg ab (x.ev ρ)
 |.store n x y=>lV n ab (y.ev ρ) (x.ev ρ)
 |.bin op x y=>tJ op (x.ev ρ) (y.ev ρ)
 |.eqT neg agg bZ x y=>⟨Ed true ab (x.ev ρ)/\Ed true ab (y.ev ρ)/\(B0 neg agg bZ (sY ab (x.ev ρ)) (sY ab (y.ev ρ))).ok,(B0 neg agg bZ (sY ab (x.ev ρ)) (sY ab (y.ev ρ))).val,none⟩
 |.un op x=>OL op (x.ev ρ)
 |.conv k x=>match x.ev ρ with
  |.v (.int _ n)=>⟨True,.v (.int k (k.wrap n)),none⟩
  |_=>cW
 |.addOff k x=>pi k (x.ev ρ)
 |.nilCheck x=>li (x.ev ρ)
 |.idxAddr sz x i=>rj sz ab (x.ev ρ) (i.ev ρ)
 |.arrAddr len sz x i=>kY len sz (x.ev ρ) (i.ev ρ)
 |.field off n agg x=>oN off n agg (x.ev ρ)
 |.slice sz x lo hi=>jM sz (lo.map (·.ev ρ)) (hi.map (·.ev ρ)) ab (x.ev ρ)
 |.extract i x=>EI i (x.ev ρ)
 |.call f args=>pF Γ f ab (args.map (·.ev ρ))
 |.callF f args=>oQ Γ f name ab (args.map (·.ev ρ))
 |.callR f args=>oP Γ f ab (args.map (·.ev ρ))
 |.callS _ _|.callv _ _|.entryM _=>cW
 |.len x=>v8 ab (x.ev ρ)
 |.lenS x=>uH (x.ev ρ)
 |.minmax m x y=>oC m (x.ev ρ) (y.ev ρ)
 |.append e sz bytes x y=>iC e sz bytes name ab (x.ev ρ) (y.ev ρ)
 |.mkSlice e sz bytes zero n=>lW e sz bytes zero name (n.ev ρ)
 |.mkSliceB e sz bytes zero n=>gj sz bytes zero name (n.ev ρ)
 |.mkFn f cz=>⟨eQ (cz.map (·.ev ρ)),if xq (cz.map (·.ev ρ))then .v (.fn f (jr (λ_=>none) (cz.map (·.ev ρ))))else .AI f (cz.map (·.ev ρ)),none⟩
 |.mkMap bZ agg=>⟨True,.fH name,some (name,.map bZ agg 0 [])⟩
 |.lookup bZ agg zero ok x k=>mO bZ agg zero ok ab (x.ev ρ) (k.ev ρ)
 |.mapUpd bZ agg x k y=>jl bZ agg ab (x.ev ρ) (k.ev ρ) (y.ev ρ)
 |.mapDel bZ agg x k=>jn bZ agg ab (x.ev ρ) (k.ev ρ)
 |.mapEnt bZ agg z x k=>jm bZ agg z ab (x.ev ρ) (k.ev ρ)
 |.entSt x s y=>kN ab (x.ev ρ) (s.ev ρ) (y.ev ρ)
 |.lenM x=>Fz ab (x.ev ρ)
 |.rangeM x=>lj name ab (x.ev ρ)
 |.copy sz x y=>kb sz ab (x.ev ρ) (y.ev ρ)
 |.isNil kind neg x=>gk kind neg ab (x.ev ρ)
 |.indexS x i=>oD (x.ev ρ) (i.ev ρ)
 |.fail=>cW
def qP:qO->Bool
 |.callS _ _|.callv _ _|.entryM _=>true
 |_=>false
structure afy where
 ok:Prop
 val:DV
 ab:bS
 todo:List (aG)
class dF where
 k:Option (Nat×(bW->bS->iw))
 br:∀l k',k=some (l,k')->∀args ab,(k' args ab).ok->∀x,ab x=none->(k' args ab).ab x=none
instance(priority:=low)OM:dF:=⟨none,λ_ _ h=>by cases h⟩
@[simp] def akh: @dF.k OM=none:=rfl
def yIs:DV->Prop
 |.v (.bool _)=>True
 |_=>False
def yGo:DV->Bool
 |.v (.bool b)=>b
 |_=>false
@[simp] def alH(b:Bool):yIs (.v (.bool b))=True:=rfl
@[simp] def Ul(b:Bool):yGo (.v (.bool b))=b:=rfl
variable [dF]
def zL(Γ:kv)(d:qO)(ρ:dW)(ab:bS)(todo:List (aG)):afy:=
 match d with
 |.callS f args=>match Γ f with
  |some s=>match s.st with
   |some k=>⟨(k (args.map (·.ev ρ)) ab).ok,(k (args.map (·.ev ρ)) ab).val,(k (args.map (·.ev ρ)) ab).ab,todo⟩
   |none=>⟨False,.undef,ab,todo⟩
  |none=>⟨False,.undef,ab,todo⟩
 |.callv x args=>match x.ev ρ with
  |.v (.fn (.func f) cz)=>match Γ f with
   |some s=>match s.st with
    |some k=>⟨(k (args.map (·.ev ρ)++cz.map .v) ab).ok,(k (args.map (·.ev ρ)++cz.map .v) ab).val,(k (args.map (·.ev ρ)++cz.map .v) ab).ab,todo⟩
    |none=>⟨(pF Γ f ab (args.map (·.ev ρ)++cz.map .v)).ok,(pF Γ f ab (args.map (·.ev ρ)++cz.map .v)).val,ab,todo⟩
   |none=>⟨False,.undef,ab,todo⟩
  |.AI (.func f) cz=>match Γ f with
   |some s=>match s.st with
    |some k=>⟨(k (args.map (·.ev ρ)++cz) ab).ok,(k (args.map (·.ev ρ)++cz) ab).val,(k (args.map (·.ev ρ)++cz) ab).ab,todo⟩
    |none=>⟨False,.undef,ab,todo⟩
   |none=>⟨False,.undef,ab,todo⟩
  |.BZ=>match todo with
   |x::rest=>⟨dF.k=none/\tF false ab (args.map (·.ev ρ))/\jr ab (args.map (·.ev ρ))=x/\ab=(λ_=>none),.v (.bool true),ab,rest⟩
   |[]=>⟨False,.undef,ab,todo⟩
  |.v (.tf v)=>match dF.k with
   |some (l,k)=>⟨v=.func (.yield l) #[] #[]/\todo≠[]/\(k (args.map (·.ev ρ)) ab).ok/\yIs (k (args.map (·.ev ρ)) ab).val,(k (args.map (·.ev ρ)) ab).val,(k (args.map (·.ev ρ)) ab).ab,if yGo (k (args.map (·.ev ρ)) ab).val then todo else []⟩
   |none=>⟨False,.undef,ab,todo⟩
  |_=>⟨False,.undef,ab,todo⟩
 |.entryM x=>⟨(lm ab (x.ev ρ)).ok,(lm ab (x.ev ρ)).val,ab,todo⟩
 |_=>⟨False,.undef,ab,todo⟩
end
open Go.RowKit
section
variable{base r:Nat}{M:fm}{ds:bW}{vs:List Value}{w0:World}
structure Fr(base:Nat)(M:fm)(w0 w:World):Prop where
 os:w.os=w0.os
 tape:w.tape=w0.tape
 output:w.output=w0.output
 jN:base<=w0.heap.size
 size:w0.heap.size<=w.heap.size
 block:∀k,k<base->¬M k->w.heap[k]? =w0.heap[k]?
 drawn:w0.drawn<=w.drawn
def Fr.refl{w:World}(h:base<=w.heap.size):Fr base M w w:=⟨rfl,rfl,rfl,h,gJ _,λ_ _ _=>rfl,gJ _⟩
def Fr.trans{a b c:World}(h:Fr base M a b)(k:Fr base M b c):Fr base M a c:=
 ⟨k.os.trans h.os,k.tape.trans h.tape,k.output.trans h.output,h.jN,zN h.size k.size,λi hi hm=>(k.block i hi hm).trans (h.block i hi hm),zN h.drawn k.drawn⟩
structure Loc where
 jK:Nat->Nat
 sl:Nat->Value
 yl:Nat:=0
def bk:Value->Option Nat
 |.slice (some a) _ c=>if c=0 then none else some a.block
 |_=>none
def Loc.own(L:Loc)(r:Nat):Ob->Option Nat
 |.bm _ _ _ _=>bk (L.sl r)
 |_=>some (L.jK r)
def WW(W:fm)(ab:bS)(L:Loc)(b:Nat):Prop:=W b\/∃r o,ab r=some o/\L.own r o=some b
section
variable(w:World)(W:fm)(ab:bS)(L:Loc)
mutual
def aD:DV->Value->Prop
 |.undef,_=>True
 |.skip,x=>x=Go.undef
 |.v t,x=>be w (WW W ab L) t x
 |.aZ,x=>∃a:Option Addr,x=.slice a 0 0
 |.ptr r off,x=>(∃cs,ab r=some (.box cs))/\x=.pointer (some ⟨L.jK r,off,none⟩)
 |.aW r bG,x=>(∃(p:Option Addr) (n c:Nat),x=.slice p n c)/\∃bM e sz aC,ab r=some (.bm bM e sz aC)/\bG<=bM/\(bG=bM->x=L.sl r)
 |.mw aC i off,x=>∃b o sz,x=.pointer (some ⟨b,o+i.toNat*sz+off,none⟩)/\b<w.heap.size/\¬WW W ab L b/\bw w (WW W ab L) sz b o aC/\0<=i/\i<aC.length
 |.j9 cs off,x=>∃b o,x=.pointer (some ⟨b,o+off,none⟩)/\b<w.heap.size/\¬WW W ab L b/\dY w (WW W ab L) b o cs
 |.kr r bG i off,x=>(∃b o,x=.pointer (some ⟨b,o,none⟩))/\∃bM e sz aC,ab r=some (.bm bM e sz aC)/\bG<=bM/\(bG=bM->∃g,bk (L.sl r)=some g/\x=.pointer (some ⟨g,i.toNat*sz+off,none⟩)/\0<=i/\i<aC.length)
 |.agg cs,x=>∃vs,x=.agg vs/\aU cs vs.toList
 |.BZ,x=>x=.func (.yield L.yl) #[] #[]
 |.fH r,x=>(∃bZ agg c es,ab r=some (.map bZ agg c es))/\x=.map (some (L.jK r))
 |.eo r,x=>(∃m s sn l,ab r=some (.eo m s sn l))/\x=.pointer (some ⟨L.jK r,0,none⟩)
 |.dh ds,x=>∃vs,x=.tuple vs/\eA ds vs.toList
 |.v7 r bG lo n,x=>(∃(p:Option Addr) (c:Nat),x=.slice p n c)/\∃bM e sz aC,ab r=some (.bm bM e sz aC)/\bG<=bM/\(bG=bM->lo+n<=aC.length/\∃p cap p2,L.sl r=.slice p aC.length cap/\x=.slice p2 n (cap-lo)/\(lo<cap->p2=p.map (·.add (lo*sz))))
 |.AI f cz,x=>∃vs,x=.func f #[] vs/\aU cz vs.toList
 |.AH r n,x=>(∃cs,ab r=some (.box cs))/\x=.slice (some ⟨L.jK r,0,none⟩) n n
def aU:bW->List Value->Prop
 |[],vs=>vs=[]
 |d::ds,vs=>∃x jz,vs=x::jz/\x.oneCell'=true/\aD d x/\aU ds jz
def eA:bW->List Value->Prop
 |[],vs=>vs=[]
 |d::ds,vs=>∃x jz,vs=x::jz/\aD d x/\eA ds jz
end
def bH:List (Nat×T×DV)->List MapEntry->Prop
 |[],xs=>xs=[]
 |e::es,xs=>∃x nj,xs=x::nj/\x.born=e.1/\be w (WW W ab L) e.2.1 x.key/\aD w W ab L e.2.2 x.val/\bH es nj
def pw(base:Nat)(M:fm)(r:Nat):Ob->Prop
 |.box cs=>∃c e,w.heap[L.jK r]? =some (.cells c e (0,0))/\aU w W ab L cs c.toList/\(base<=L.jK r\/M (L.jK r))
 |.bm _ e sz aC=>0<sz/\(∀x∈aC,x.length=sz)/\(∀g,bk (L.sl r)=some g->base<=g\/M g)/\
   ((aC=[]/\∃a:Option Addr,L.sl r=.slice a 0 0)\/
    ∃g cap eJ,L.sl r=.slice (some ⟨g,0,none⟩) aC.length cap/\0<cap/\w.heap[g]? =some (.cells eJ e (0,0))/\aC.length<=cap/\cap<=maxLen/\eJ.size=cap*sz/\
     dt w (WW W ab L) aC.flatten (eJ.toList.take (aC.length*sz)))
 |.map bZ agg c es=>∃bm,w.heap[L.jK r]? =some (.map bm c)/\bH w W ab L es bm.toList/\(∀e∈es,d9 bZ agg e.2.1)/\(∀e∈es,e.1<c)/\(es.map (·.1)).Nodup/\(base<=L.jK r\/M (L.jK r))
 |.eo m s sn l=>w.heap[L.jK r]? =some (.mapIter (some (L.jK m)) s sn.toArray l)/\(∃bZ agg c es,ab m=some (.map bZ agg c es))/\(base<=L.jK r\/M (L.jK r))
end
variable [bD]
structure ci(base:Nat)(W M:fm)(w0:World)(ab:bS)(w:World)(L:Loc):Prop where
 fr:Fr base M w0 w
 ob:∀r o,ab r=some o->pw w W ab L base M r o
 apart:∀r r' o o' b,r≠r'->ab r=some o->ab r'=some o'->L.own r o=some b->L.own r' o'≠some b
 tK:∀r o b,ab r=some o->L.own r o=some b->¬W b
 under:∀b,W b->b<base
 gl:BY w (WW W ab L)
structure AK(W W':fm)(ab:bS)(L:Loc)(w:World)(aM:bS)(L':Loc)(w':World):Prop where
 cL:c8 (WW W ab L) w w'
 sub:∀b,b<w.heap.size->WW W' aM L' b->WW W ab L b
 fix:∀r o,ab r=some o->o.kind≠1->L'.jK r=L.jK r/\∃o',aM r=some o'/\o'.kind=o.kind
 bm:∀r bG e sz aC,ab r=some (.bm bG e sz aC)->∃bM e' jt eN,aM r=some (.bm bM e' jt eN)/\bG<=bM/\(bM=bG->L'.sl r=L.sl r/\jt=sz/\eN.length=aC.length)
 yl:L'.yl=L.yl
def alI{o:Ob}(h:o.kind=0):∃cs,o=.box cs:=by cases o<;>first|exact⟨_,rfl⟩|cases h
def alJ{o:Ob}(h:o.kind=2):∃bZ agg c es,o=.map bZ agg c es:=by cases o<;>first|exact⟨_,_,_,_,rfl⟩|cases h
def alK{o:Ob}(h:o.kind=3):∃m s sn l,o=.eo m s sn l:=by cases o<;>first|exact⟨_,_,_,_,rfl⟩|cases h
section
variable{W W':fm}{ab:bS}{L:Loc}{w:World}{aM:bS}{L':Loc}{w':World}
def AK.box(h:AK W W' ab L w aM L' w')(r:Nat)(cs:bW)(hr:ab r=some (.box cs)):L'.jK r=L.jK r/\∃yJ,aM r=some (.box yJ):=by
 obtain⟨h1,o',h2,h3⟩:=h.fix r _ hr (by simp[Ob.kind]);obtain⟨yJ,rfl⟩:=alI h3;exact⟨h1,yJ,h2⟩
def AK.mp(h:AK W W' ab L w aM L' w')(r:Nat)(hr:∃bZ agg c es,ab r=some (.map bZ agg c es)):L'.jK r=L.jK r/\∃bZ agg c es,aM r=some (.map bZ agg c es):=by
 obtain⟨_,_,_,_,hr⟩:=hr;obtain⟨h1,o',h2,h3⟩:=h.fix r _ hr (by simp[Ob.kind]);obtain⟨a,b,c,d,rfl⟩:=alJ h3;exact⟨h1,a,b,c,d,h2⟩
def AK.it(h:AK W W' ab L w aM L' w')(r:Nat)(hr:∃m s sn l,ab r=some (.eo m s sn l)):L'.jK r=L.jK r/\∃m s sn l,aM r=some (.eo m s sn l):=by
 obtain⟨_,_,_,_,hr⟩:=hr;obtain⟨h1,o',h2,h3⟩:=h.fix r _ hr (by simp[Ob.kind]);obtain⟨a,b,c,d,rfl⟩:=alK h3;exact⟨h1,a,b,c,d,h2⟩
end
abbrev jA(W:fm)(ab:bS)(L:Loc)(w:World)(aM:bS)(L':Loc)(w':World):Prop:=AK W W ab L w aM L' w'
def jA.cS{W:fm}{ab:bS}{L:Loc}{w w':World}(h:c8 (WW W ab L) w w'):jA W ab L w ab L w':=
 ⟨h,λ_ _ x=>x,λ_ o hr _=>⟨rfl,o,hr,rfl⟩,λ_ bG e sz aC hr=>⟨bG,e,sz,aC,hr,gJ _,λ_=>⟨rfl,rfl,rfl⟩⟩,rfl⟩
mutual
def aD.gq{W W':fm}{ab aM:bS}{L L':Loc}{w w':World}(h:AK W W' ab L w aM L' w'):∀(d:DV) (x:Value),aD w W ab L d x->aD w' W' aM L' d x
 |.undef,x,r=>by simp[aD]
 |.skip,x,r=>by simpa [aD]using r
 |.v t,x,r=>by
  simp only[aD]at r⊢;exact be.aL h.cL.toKeepsC h.sub t x r
 |.aZ,x,r=>by simpa [aD]using r
 |.ptr n off,x,r=>by
  simp only[aD]at r⊢;obtain⟨⟨cs,hc⟩,hx⟩:=r;have hb:=h.box n cs hc;exact⟨hb.2,by rw[hb.1];exact hx⟩
 |.aW n bG,x,r=>by
  simp only[aD]at r⊢;obtain⟨IY,bM,e,sz,aC,ho,io,hx⟩:=r;obtain⟨pW,e2,EZ,lZ,po,IZ,hs⟩:=h.bm n bM e sz aC ho;refine⟨IY,pW,e2,EZ,lZ,po,zN io IZ,λhv=>?_⟩;have h1:pW=bM:=by omega
  rw[(hs h1).1];exact hx (by omega)
 |.mw aC i off,x,r=>by
  simp only[aD]at r⊢;obtain⟨b,o,sz,hx,hb,hn,hr,h0,h1⟩:=r;exact⟨b,o,sz,hx,ze hb h.cL.size,λc=>hn (h.sub b hb c),bw.aL h.cL.toKeepsC h.sub hb hn sz o aC hr,h0,h1⟩
 |.j9 cs off,x,r=>by
  simp only[aD]at r⊢;obtain⟨b,o,hx,hb,hn,hr⟩:=r;exact⟨b,o,hx,ze hb h.cL.size,λc=>hn (h.sub b hb c),dY.aL h.cL.toKeepsC h.sub hb hn o cs hr⟩
 |.kr n bG i off,x,r=>by
  simp only[aD]at r⊢;obtain⟨IY,bM,e,sz,aC,ho,io,hx⟩:=r;obtain⟨pW,e2,EZ,lZ,po,IZ,hs⟩:=h.bm n bM e sz aC ho;refine⟨IY,pW,e2,EZ,lZ,po,zN io IZ,λhv=>?_⟩;have h1:pW=bM:=by omega
  obtain⟨g,hg,hp,h0,hl⟩:=hx (by omega);obtain⟨s1,s2,s3⟩:=hs h1;exact⟨g,by rw[s1];exact hg,by rw[s2];exact hp,h0,by rw[s3];exact hl⟩
 |.agg cs,x,r=>by
  simp only[aD]at r⊢;obtain⟨vs,hv,hr⟩:=r;exact⟨vs,hv,aU.gq h cs _ hr⟩
 |.BZ,x,r=>by simp only[aD]at r⊢;rw[h.yl];exact r
 |.fH n,x,r=>by
  simp only[aD]at r⊢;have:=h.mp n r.1;exact⟨this.2,by rw[this.1];exact r.2⟩
 |.eo n,x,r=>by
  simp only[aD]at r⊢;have:=h.it n r.1;exact⟨this.2,by rw[this.1];exact r.2⟩
 |.dh ds,x,r=>by
  simp only[aD]at r⊢;obtain⟨vs,hv,hr⟩:=r;exact⟨vs,hv,eA.gq h ds _ hr⟩
 |.AI f ds,x,r=>by
  simp only[aD]at r⊢;obtain⟨vs,hv,hr⟩:=r;exact⟨vs,hv,aU.gq h ds _ hr⟩
 |.AH n m,x,r=>by
  simp only[aD]at r⊢;obtain⟨⟨cs,hc⟩,hx⟩:=r;have hb:=h.box n cs hc;exact⟨hb.2,by rw[hb.1];exact hx⟩
 |.v7 n bG lo m,x,r=>by
  simp only[aD]at r⊢;obtain⟨IY,bM,e,sz,aC,ho,io,hx⟩:=r;obtain⟨pW,e2,EZ,lZ,po,IZ,hs⟩:=h.bm n bM e sz aC ho;refine⟨IY,pW,e2,EZ,lZ,po,zN io IZ,λhv=>?_⟩;have h1:pW=bM:=by omega
  obtain⟨k1,p,cap,p2,k2,k3,k4⟩:=hx (by omega);obtain⟨s1,s2,s3⟩:=hs h1;exact⟨by rw[s3];exact k1,p,cap,p2,by rw[s1,s3];exact k2,k3,by rw[s2];exact k4⟩
def aU.gq{W W':fm}{ab aM:bS}{L L':Loc}{w w':World}(h:AK W W' ab L w aM L' w'):∀(ds:bW) (xs:List Value),aU w W ab L ds xs->aU w' W' aM L' ds xs
 |[],xs,r=>by simpa [aU]using r
 |d::ds,xs,r=>by
  simp only[aU]at r⊢;obtain⟨x,nj,hx,h1,hr,mK⟩:=r;exact⟨x,nj,hx,h1,aD.gq h d x hr,aU.gq h ds nj mK⟩
def eA.gq{W W':fm}{ab aM:bS}{L L':Loc}{w w':World}(h:AK W W' ab L w aM L' w'):∀(ds:bW) (xs:List Value),eA w W ab L ds xs->eA w' W' aM L' ds xs
 |[],xs,r=>by simpa [eA]using r
 |d::ds,xs,r=>by
  simp only[eA]at r⊢;obtain⟨x,nj,hx,hr,mK⟩:=r;exact⟨x,nj,hx,aD.gq h d x hr,eA.gq h ds nj mK⟩
end
def bH.gq{W W':fm}{ab aM:bS}{L L':Loc}{w w':World}(h:AK W W' ab L w aM L' w'):∀(es:List (Nat×T×DV)) (xs:List MapEntry),bH w W ab L es xs->bH w' W' aM L' es xs
 |[],xs,r=>by simpa [bH]using r
 |e::es,xs,r=>by
  simp only[bH]at r⊢;obtain⟨x,nj,hx,h0,h1,hr,mK⟩:=r;exact⟨x,nj,hx,h0,be.aL h.cL.toKeepsC h.sub _ _ h1,aD.gq h _ _ hr,bH.gq h es nj mK⟩
section
variable{w:World}{W:fm}{ab:bS}{L:Loc}
def aU.length:∀{ds:bW} {vs:List Value},aU w W ab L ds vs->vs.length=ds.length
 |[],_,h=>by simp only[aU]at h;simp[h]
 |_::ds,_,h=>by
  simp only[aU]at h;obtain⟨v,jz,rfl,_,_,hr⟩:=h;simp[aU.length hr]
def aU.get:∀{ds:bW} {vs:List Value} {i:Nat} {d:DV},aU w W ab L ds vs->ds[i]? =some d->∃v,vs[i]? =some v/\v.oneCell'=true/\aD w W ab L d v
 |[],_,_,_,_,h=>by simp at h
 |x::xs,_,0,t,hr,h=>by
  simp only[aU]at hr;obtain⟨v,jz,rfl,h1,h2,_⟩:=hr;simp only[Bd,cq]at h;subst h;exact⟨v,rfl,h1,h2⟩
 |x::xs,_,i+1,t,hr,h=>by
  simp only[aU]at hr;obtain⟨v,jz,rfl,_,_,hr⟩:=hr;simpa using aU.get hr (by simpa using h)
def aU.append:∀{ds pX:bW} {vs jz:List Value},aU w W ab L ds vs->aU w W ab L pX jz->aU w W ab L (ds++pX) (vs++jz)
 |[],_,_,_,h,h'=>by simp only[aU]at h;subst h;simpa using h'
 |d::ds,_,_,_,h,h'=>by
  simp only[aU]at h;obtain⟨v,jz,rfl,h1,h2,hr⟩:=h;simp only[IW,aU];exact⟨v,_,rfl,h1,h2,aU.append hr h'⟩
def aU.take(n:Nat)(h:aU w W ab L ds vs):aU w W ab L (ds.take n) (vs.take n):=by
 induction n generalizing ds vs with
 |zero=>simp[aU]
 |succ n ih=>
  cases ds with
  |nil=>simp only[aU]at h;subst h;simp[aU]
  |cons d ds=>
   simp only[aU]at h;obtain⟨v,jz,rfl,h1,h2,hr⟩:=h;simp only[Zck,aU];exact⟨v,_,rfl,h1,h2,ih hr⟩
def aU.drop(n:Nat)(h:aU w W ab L ds vs):aU w W ab L (ds.drop n) (vs.drop n):=by
 induction n generalizing ds vs with
 |zero=>simpa using h
 |succ n ih=>
  cases ds with
  |nil=>simp only[aU]at h;subst h;simp[aU]
  |cons d ds=>
   simp only[aU]at h;obtain⟨v,jz,rfl,h1,h2,hr⟩:=h;simpa using ih hr
def dt.append{ts ts':aG}:∀{vs jz:List Value},dt w W ts vs->dt w W ts' jz->dt w W (ts++ts') (vs++jz):=by
 induction ts with
 |nil=>intro vs jz h h';simp only[dt]at h;subst h;simpa using h'
 |cons d ds ih=>
  intro vs jz h h';simp only[dt]at h;obtain⟨v,jz,rfl,h1,h2,hr⟩:=h;simp only[IW,dt];exact⟨v,_,rfl,h1,h2,ih hr h'⟩
def aU.FI:∀{ts:aG} {vs:List Value},dt w (WW W ab L) ts vs->aU w W ab L (ts.map .v) vs
 |[],_,h=>by simpa [dt,aU]using h
 |t::ts,_,h=>by
  simp only[dt]at h;obtain⟨v,jz,rfl,h1,h2,hr⟩:=h;simp only[vG,aU];exact⟨v,jz,rfl,h1,by simpa [aD]using h2,aU.FI hr⟩
def aD.cells{d:DV}{x:Value}(h:aD w W ab L d x)(hb:pD d):aU w W ab L (cellsOf d) x.cells.toList:=by
 have one:∀{d:DV} {x:Value},cellsOf d=[d]->x.oneCell'=true->aD w W ab L d x->aU w W ab L (cellsOf d) x.cells.toList:=by
  intro d x hc h1 h;rw[hc];simp only[aU];refine⟨x,[], ?_,h1,h,rfl⟩;cases x<;>first|rfl|(simp[Value.oneCell']at h1)
 cases d with
 |undef=>exact hb.elim
 |skip=>exact hb.elim
 |aZ=>obtain⟨a,rfl⟩:=(by simpa only[aD]using h);exact one rfl rfl (by simp only[aD];exact⟨a,rfl⟩)
 |ptr r off=>have h':=h;simp only[aD]at h';obtain⟨_,rfl⟩:=h';exact one rfl rfl h
 |aW r bG=>have h':=h;simp only[aD]at h';obtain⟨⟨p,n,c,rfl⟩,_⟩:=h';exact one rfl rfl h
 |mw aC i off=>have h':=h;simp only[aD]at h';obtain⟨b,o,sz,rfl,_⟩:=h';exact one rfl rfl h
 |j9 cs off=>have h':=h;simp only[aD]at h';obtain⟨b,o,rfl,_⟩:=h';exact one rfl rfl h
 |kr r bG i off=>have h':=h;simp only[aD]at h';obtain⟨⟨b,o,rfl⟩,_⟩:=h';exact one rfl rfl h
 |agg cs=>simp only[aD]at h;obtain⟨vs,rfl,h⟩:=h;simpa [cellsOf,Value.cells]using h
 |BZ=>have h':=h;simp only[aD]at h';subst h';exact one rfl rfl h
 |fH r=>have h':=h;simp only[aD]at h';obtain⟨_,rfl⟩:=h';exact one rfl rfl h
 |eo r=>have h':=h;simp only[aD]at h';obtain⟨_,rfl⟩:=h';exact one rfl rfl h
 |dh ds=>exact hb.elim
 |AI f ds=>have h':=h;simp only[aD]at h';obtain⟨vs,rfl,_⟩:=h';exact one rfl rfl h
 |v7 r bG lo n=>have h':=h;simp only[aD]at h';obtain⟨⟨p,c,rfl⟩,_⟩:=h';exact one rfl rfl h
 |AH r n=>have h':=h;simp only[aD]at h';obtain⟨_,rfl⟩:=h';exact one rfl rfl h
 |v t=>
  cases t with
  |agg cs=>simp only[aD,be]at h;obtain⟨vs,rfl,h⟩:=h;simpa [cellsOf,Value.cells]using aU.FI h
  |dh ts=>exact hb.elim
  |bool b=>have h':=h;simp only[aD,be]at h';subst h';exact one rfl rfl h
  |int k n=>have h':=h;simp only[aD,be]at h';subst h';exact one rfl rfl h
  |str s=>have h':=h;simp only[aD,be]at h';subst h';exact one rfl rfl h
  |sl aC=>
   have h':=h;simp only[aD,be]at h';rcases h' with⟨_,a,c,rfl⟩|⟨b,o,cap,sz,rfl,_⟩<;>exact one rfl rfl h
  |fn f cz=>have h':=h;simp only[aD,be]at h';obtain⟨vs,rfl,_⟩:=h';exact one rfl rfl h
  |box cs=>have h':=h;simp only[aD,be]at h';obtain⟨b,o,rfl,_⟩:=h';exact one rfl rfl h
  |tf y=>have h':=h;simp only[aD,be]at h';subst h';exact one rfl hb h
end
def pw.lt{w:World}{W:fm}{ab:bS}{L:Loc}{o:Ob}(h:pw w W ab L base M r o){b:Nat}(hb:L.own r o=some b):b<w.heap.size:=by
 cases o with
 |box cs=>
  obtain⟨c,e,hc,_⟩:=h;simp only[Loc.own,cq]at hb;subst hb;exact(cM.1 hc).1
 |bm bG e sz aC=>
  obtain⟨_,_,_,h⟩:=h;simp only[Loc.own]at hb;rcases h with⟨_,a,ha⟩|⟨g,cap,eJ,hv,hp,hg,_⟩
  .rw[ha]at hb;cases a<;>simp[bk]at hb
  .rw[hv]at hb;simp only[bk,iK (Et.1 hp),cq]at hb;subst hb;exact(cM.1 hg).1
 |map bZ agg c es=>
  obtain⟨bm,hc,_⟩:=h;simp only[Loc.own,cq]at hb;subst hb;exact(cM.1 hc).1
 |eo m s sn l=>
  obtain⟨hc,_⟩:=h;simp only[Loc.own,cq]at hb;subst hb;exact(cM.1 hc).1
def pw.alL{w:World}{W:fm}{ab:bS}{L:Loc}{o:Ob}(h:pw w W ab L base M r o){b:Nat}(hb:L.own r o=some b):base<=b\/M b:=by
 cases o with
 |box cs=>
  obtain⟨c,e,hc,_,hm⟩:=h;simp only[Loc.own,cq]at hb;subst hb;exact hm
 |bm bG e sz aC=>
  obtain⟨_,_,hm,_⟩:=h;exact hm b hb
 |map bZ agg c es=>
  obtain⟨bm,hc,_,_,_,_,hm⟩:=h;simp only[Loc.own,cq]at hb;subst hb;exact hm
 |eo m s sn l=>
  obtain⟨hc,_,hm⟩:=h;simp only[Loc.own,cq]at hb;subst hb;exact hm
def pw.aL{w w':World}{W:fm}{ab aM:bS}{L L':Loc}{o:Ob}(ha:jA W ab L w aM L' w')
  (h:pw w W ab L base M r o) (iW:L'.jK r=L.jK r/\L'.sl r=L.sl r) (aak:∀b,L.own r o=some b->w'.heap[b]? =w.heap[b]?):pw w' W aM L' base M r o:=by
 cases o with
 |box cs=>
  obtain⟨c,e,hc,hr,hm⟩:=h;refine⟨c,e, ?_,aU.gq ha cs _ hr, ?_⟩
  .rw[iW.1,aak _ rfl];exact hc
  .rw[iW.1];exact hm
 |bm bG e sz aC=>
  obtain⟨jc,cK,hm,h⟩:=h;refine⟨jc,cK,by rw[iW.2];exact hm, ?_⟩;rw[iW.2];rcases h with h|⟨g,cap,eJ,hv,hp,hg,h1,h2,h3,h4⟩
  .exact .inl h
  .refine .inr ⟨g,cap,eJ,hv,hp, ?_,h1,h2,h3,dt.aL ha.cL.toKeepsC ha.sub _ _ h4⟩;rw[aak g (by simp[Loc.own,hv,bk,Et.1 hp])];exact hg
 |map bZ agg c es=>
  obtain⟨bm,hc,hr,k1,k2,k3,hm⟩:=h;refine⟨bm, ?_,bH.gq ha es _ hr,k1,k2,k3, ?_⟩
  .rw[iW.1,aak _ rfl];exact hc
  .rw[iW.1];exact hm
 |eo m s sn l=>
  obtain⟨hc,ON,hm⟩:=h;have:=ha.mp m ON;refine⟨?_,this.2, ?_⟩
  .rw[iW.1,this.1,aak _ rfl];exact hc
  .rw[iW.1];exact hm
def Obj.plain:Obj->Prop
 |.cells _ _ _|.map _ _|.mapIter _ _ _ _=>True
 |_=>False
def pw.cells{w:World}{W:fm}{ab:bS}{L:Loc}{o:Ob}(h:pw w W ab L base M r o){b:Nat}(hb:L.own r o=some b):∃x,w.heap[b]? =some x/\Obj.plain x:=by
 cases o with
 |box cs=>
  obtain⟨c,e,hc,_⟩:=h;simp only[Loc.own,cq]at hb;subst hb;exact⟨_,hc,trivial⟩
 |map bZ agg c es=>
  obtain⟨bm,hc,_⟩:=h;simp only[Loc.own,cq]at hb;subst hb;exact⟨_,hc,trivial⟩
 |eo m s sn l=>
  obtain⟨hc,_⟩:=h;simp only[Loc.own,cq]at hb;subst hb;exact⟨_,hc,trivial⟩
 |bm bG e sz aC=>
  obtain⟨_,_,_,h⟩:=h;simp only[Loc.own]at hb;rcases h with⟨_,a,ha⟩|⟨g,cap,eJ,hv,hp,hg,_⟩
  .rw[ha]at hb;cases a<;>simp[bk]at hb
  .rw[hv]at hb;simp only[bk,iK (Et.1 hp),cq]at hb;subst hb;exact⟨_,hg,trivial⟩
def cC(ab:bS):Option (Nat×Ob)->bS
 |none=>ab
 |some (r,o)=>λx=>if x=r then some o else ab x
def ci.put{W:fm}{w w':World}{ab:bS}{L L':Loc}{o':Ob}(h:ci base W M w0 ab w L)
  (kc:Fr base M w0 w') (jc:w.heap.size<=w'.heap.size)
  (hL:∀x,x≠r->L'.jK x=L.jK x/\L'.sl x=L.sl x) (sZ:L'.yl=L.yl)
  (Um:∀b,b<w.heap.size->(∀o,ab r=some o->L.own r o≠some b)->w'.heap[b]? =w.heap[b]?)
  (mu:∀b,L'.own r o'=some b->(∃o,ab r=some o/\L.own r o=some b)\/w.heap.size<=b)
  (vw:∀o,ab r=some o->o.kind≠1->L'.jK r=L.jK r/\o'.kind=o.kind)
  (LY:∀bG e sz aC,ab r=some (.bm bG e sz aC)->∃bM e' jt eN,o'=.bm bM e' jt eN/\bG<=bM/\(bM=bG->L'.sl r=L.sl r/\jt=sz/\eN.length=aC.length))
  (eH:jA W ab L w (cC ab (some (r,o'))) L' w'->pw w' W (cC ab (some (r,o'))) L' base M r o'):
  ci base W M w0 (cC ab (some (r,o'))) w' L'/\jA W ab L w (cC ab (some (r,o'))) L' w':=by
 have iW:∀x (o:Ob),x≠r->L'.own x o=L.own x o:=λx o hx=>by
  have:=hL x hx;cases o<;>simp[Loc.own,this.1,this.2]
 have afz:∀x o b,x≠r->ab x=some o->L.own x o=some b->w'.heap[b]? =w.heap[b]? :=λx o b hx ho hb=>
  Um b ((h.ob x o ho).lt hb) λo2 po jZ=>h.apart x r o o2 b hx ho po hb jZ
 have alM:∀(b:Nat) x,w.heap[b]? =some x->¬Obj.plain x->w'.heap[b]? =some x:=λb x hb hx=>by
  refine(Um b (cM.1 hb).1 λo ho jZ=>?_).trans hb;obtain⟨y,hc,hy⟩:=(h.ob r o ho).cells jZ;rw[hc]at hb;cases hb;exact hx hy
 have gq:jA W ab L w (cC ab (some (r,o'))) L' w':=by
  refine⟨⟨⟨jc,λb c e fr hb hn=>?_⟩,λb hb=>alM b _ hb (λe=>e),λb r hb=>alM b _ hb (λe=>e)⟩,λb hb hw=>?_,λx o hx hk=>?_,λx bG e sz aC hx=>?_,sZ⟩
  .exact(Um b (cM.1 hb).1 λo2 po jZ=>hn (.inr ⟨r,o2,po,jZ⟩)).trans hb
  .rcases hw with hw|⟨x,o,ho,jZ⟩
   .exact .inl hw
   .by_cases hx:x=r
    .subst hx;simp only[cC,Eg]at ho;obtain rfl:o'=o:=by simpa using ho
     rcases mu b jZ with⟨o2,po,Eu⟩|Ba
     .exact .inr ⟨x,o2,po,Eu⟩
     .omega
    .simp only[cC,iK hx]at ho;exact .inr ⟨x,o,ho,by rw[<-iW x o hx];exact jZ⟩
  .by_cases Ih:x=r
   .subst Ih;obtain⟨h1,h2⟩:=vw o hx hk;exact⟨h1,o',by simp[cC],h2⟩
   .exact⟨(hL x Ih).1,o,by simp[cC,Ih,hx],rfl⟩
  .by_cases Ih:x=r
   .subst Ih;obtain⟨bM,e',jt,eN,rfl,h2,h3⟩:=LY bG e sz aC hx;exact⟨bM,e',jt,eN,by simp[cC],h2,h3⟩
   .exact⟨bG,e,sz,aC,by simp[cC,Ih,hx],gJ _,λ_=>⟨(hL x Ih).2,rfl,rfl⟩⟩
 refine⟨⟨kc,λx o ho=>?_,λx x' o o2 b dd ho po hb jZ=>?_,λx o b ho hb hw=>?_,h.under,h.gl.aL gq.cL.toKeepsC gq.sub⟩,gq⟩
 .by_cases hx:x=r
  .subst hx;simp only[cC,Eg]at ho;obtain rfl:o'=o:=by simpa using ho
   exact eH gq
  .simp only[cC,iK hx]at ho;exact pw.aL gq (h.ob x o ho) (hL x hx) λb hb=>afz x o b hx ho hb
 .by_cases hx:x=r
  .subst hx;simp only[cC,Eg]at ho;obtain rfl:o'=o:=by simpa using ho
   have nK:x'≠x:=λe=>dd e.symm;simp only[cC,iK nK]at po;rw[iW x' o2 nK]at jZ;rcases mu b hb with⟨o3,ho3,Eu⟩|Ba
   .exact h.apart x' x o2 o3 b nK po ho3 jZ Eu
   .have:=(h.ob x' o2 po).lt jZ;omega
  .simp only[cC,iK hx]at ho;rw[iW x o hx]at hb;by_cases nK:x'=r
   .subst nK;simp only[cC,Eg]at po;obtain rfl:o'=o2:=by simpa using po
    rcases mu b jZ with⟨o3,ho3,Eu⟩|Ba
    .exact h.apart x x' o o3 b dd ho ho3 hb Eu
    .have:=(h.ob x o ho).lt hb;omega
   .simp only[cC,iK nK]at po;rw[iW x' o2 nK]at jZ;exact h.apart x x' o o2 b dd ho po hb jZ
 .by_cases hx:x=r
  .subst hx;simp only[cC,Eg]at ho;obtain rfl:o'=o:=by simpa using ho
   rcases mu b hb with⟨o3,ho3,Eu⟩|Ba
   .exact h.tK x o3 b ho3 Eu hw
   .have h1:=h.under b hw;have h2:=h.fr.jN;have h3:=h.fr.size;omega
  .simp only[cC,iK hx]at ho;rw[iW x o hx]at hb;exact h.tK x o b ho hb hw
def BY.start{w:World}{W:fm}{L:Loc}(h:BY w W):BY w (WW W (λ_=>none) L):=
 h.aL (c8.refl W w).toKeepsC λb _ hw=>by
  rcases hw with hw|⟨r,o,hr,_⟩
  .exact hw
  .cases hr
def ci.grow{W:fm}{w w':World}{ab:bS}{L:Loc}(h:ci base W M w0 ab w L)(hb:xl w.heap.size w w'):
  ci base W M w0 ab w' L/\jA W ab L w ab L w':=by
 have gq:jA W ab L w ab L w':=jA.cS (c8.Zx hb.toBelow);have io:base<=w.heap.size:=zN h.fr.jN h.fr.size;refine⟨⟨h.fr.trans ⟨hb.os,hb.tape,hb.output,io,hb.size,λk hk _=>hb.block k (by omega),hb.drawn⟩,λr o ho=>?_,h.apart,h.tK,h.under,h.gl.aL gq.cL.toKeepsC gq.sub⟩,gq⟩;exact pw.aL gq (h.ob r o ho) ⟨rfl,rfl⟩ λb jZ=>hb.block b ((h.ob r o ho).lt jZ)
end
section
variable{P:Program}{vs:List Value}{d:TypeDesc}{ts ds:aG}{base:Nat}{M:fm}
def vm:Value->Option DV
 |.int k n=>some (.v (.int k n))
 |.bool b=>some (.v (.bool b))
 |.string s=>some (.v (.str s))
 |.slice none 0 0=>some .aZ
 |.pointer none=>some (.v (.tf (.pointer none)))
 |.nilFunc=>some (.v (.tf .nilFunc))
 |.nilIface=>some (.v (.tf .nilIface))
 |.map none=>some (.v (.tf (.map none)))
 |_=>none
def rC:Value->Option T
 |.int k n=>some (.int k n)
 |.bool b=>some (.bool b)
 |.string s=>some (.str s)
 |.slice none 0 0=>some (.sl [])
 |.pointer none=>some (.tf (.pointer none))
 |.nilFunc=>some (.tf .nilFunc)
 |.nilIface=>some (.tf .nilIface)
 |.map none=>some (.tf (.map none))
 |_=>none
variable [bD]
def bK.of:Operand->Option bK
 |.tmp t=>some (.tmp t)
 |.const v=>(vm v).map .wW
 |.func f=>some (.wW (.v (.fn (.func f) [])))
 |.global g=>(bD.cells.find? λp=>p.1==g).map λp=>.wW (.j9 p.2 0)
section
variable{w:World}{W:fm}{ab:bS}{L:Loc}
def wa:∀{x:Value} {d:DV},vm x=some d->aD w W ab L d x/\x.oneCell'=true:=by
 intro x d h;unfold vm at h;split at h<;>simp only[cq,reduceCtorEq]at h<;>subst h<;>simp[aD,be,Value.oneCell']
def B4:∀{x:Value} {t:T},rC x=some t->be w W t x/\x.oneCell'=true/\xp t=true:=by
 intro x d h;unfold rC at h;split at h<;>simp only[cq,reduceCtorEq]at h<;>subst h<;>simp[be,Value.oneCell',xp]
def jd:∀{xs:List Value} {ds:bW},xs.mapM vm=some ds->aU w W ab L ds xs
 |[],ds,h=>by simp at h;subst h;simp[aU]
 |x::xs,ds,h=>by
  simp only[Zbw,vj,kw,jE,cq]at h;obtain⟨d,hd,pX,hds,rfl⟩:=h;simp only[aU];have:=wa (w:=w) (W:=W) (ab:=ab) (L:=L) hd;exact⟨x,xs,rfl,this.2,this.1,jd hds⟩
def sF:∀{xs:List Value} {ds:aG},xs.mapM rC=some ds->dt w W ds xs
 |[],ds,h=>by simp at h;subst h;simp[dt]
 |x::xs,ds,h=>by
  simp only[Zbw,vj,kw,jE,cq]at h;obtain⟨d,hd,pX,hds,rfl⟩:=h;simp only[dt];have:=B4 (w:=w) (W:=W) hd;exact⟨x,xs,rfl,this.2.1,this.1,sF hds⟩
def bK.bJ{a:Act}{ρ:dW}(hg:BY w (WW W ab L))(jF:∀t,aD w W ab L (ρ t) (a.tmps.getD t Go.undef)){x:Operand}{y:bK}(h:bK.of x=some y):aD w W ab L (y.ev ρ) (a.eval x):=by
 cases x with
 |tmp t=>simp only[bK.of,cq]at h;subst h;simpa [bK.ev,Act.eval]using jF t
 |const v=>
  simp only[bK.of,ju]at h;obtain⟨d,hd,rfl⟩:=h;exact(wa hd).1
 |func f=>simp only[bK.of,cq]at h;subst h;simp[bK.ev,Act.eval,aD,be,dt]
 |global g=>
  simp only[bK.of,ju]at h;obtain⟨p,hp,rfl⟩:=h;have h1:=ZcW hp;obtain rfl:p.1=g:=by simpa using h1
  obtain⟨h2,h3,h4⟩:=hg p (Zcb hp);simp only[bK.ev,Act.eval,aD];exact⟨p.1,0,rfl,h2,h3,h4⟩
def mY(b o n:Nat):(⟨b,o,none⟩:Addr).add n=⟨b,o+n,none⟩:=by unfold Addr.add;split<;>simp_all
def zX{w:World}{b o:Nat}(h:∀j v,vs[j]? =some v->w.cell? ⟨b,o+j,none⟩=some v):
  (loadCells ⟨b,o,none⟩ vs.length).run P w=.ok vs.toArray w:=
 run_loadCells_list w _ vs λj v hv=>by rw[mY];exact h j v hv
def E0{w:World}{t:TypeId}(h:P.underlying t=some d):(isAgg t).run P w=.ok (match d with|.struct _|.array _ _=>true|_=>false) w:=by
 simp only[isAgg,Sem.run_bind,run_underlying h,Result.andThen_ok];cases d<;>rfl
def run_sizeOf{w:World}{t:TypeId}{i:TypeInfo}(h:P.info? t=some i):(sizeOf t).run P w=.ok i.size w:=by
 simp[sizeOf,typeInfo,h]
def bU:TypeDesc->Bool
 |.struct _|.array _ _=>true
 |_=>false
def Ea{w:World}{t:TypeId}{i:TypeInfo}(hd:P.underlying t=some d)(hi:P.info? t=some i){b o:Nat}
  (hl:vs.length=i.size) (h:∀j v,vs[j]? =some v->w.cell? ⟨b,o+j,none⟩=some v) (hs:bU d=true\/i.size=1):
  (Instr.loadAt t (.pointer (some ⟨b,o,none⟩))).run P w=.ok (if bU d then .agg vs.toArray else vs.getD 0 Go.undef) w:=by
 have h1:(isAgg t).run P w=.ok (bU d) w:=by rw[E0 hd];cases d<;>rfl
 simp only[Instr.loadAt,Instr.sureAddr,loadVar,Sem.run_bind,Sem.run_pure,Result.andThen_ok,h1];by_cases ha:bU d=true
 .simp only[ha,Eg,Sem.run_bind,run_sizeOf hi,Result.andThen_ok];rw[<-hl,zX h];rfl
 .have h1:vs.length=1:=by rw[hl];exact hs.resolve_left ha
  match vs,h1 with
  |[v],_=>
   have:=h 0 v rfl;simp only[Zb2]at this;simp[ha,this]
def dY.cT{b:Nat}:∀{ts:aG} {o:Nat},dY w W b o ts->∃vs,dt w W ts vs/\∀j v,vs[j]? =some v->w.cell? ⟨b,o+j,none⟩=some v
 |[],o,_=>⟨[],by simp[dt],by simp⟩
 |t::ts,o,h=>by
  simp only[dY]at h;obtain⟨⟨v,hc,h1,hr⟩,mK⟩:=h;obtain⟨vs,hv,mZ⟩:=dY.cT mK;refine⟨v::vs,by simp only[dt];exact⟨v,vs,rfl,h1,hr,hv⟩,λj u hu=>?_⟩;cases j with
  |zero=>simp only[Bd,cq]at hu;subst hu;simpa using hc
  |succ j=>
   have:=mZ j u (by simpa using hu)
   rwa [show o+(j+1)=o+1+j by omega]
def dt.split{ts':aG}:∀{vs:List Value},dt w W (ts++ts') vs->∃v1 v2,vs=v1++v2/\dt w W ts v1/\dt w W ts' v2:=by
 induction ts with
 |nil=>intro vs h;exact⟨[],vs,rfl,by simp[dt],h⟩
 |cons t ts ih=>
  intro vs h;simp only[IW,dt]at h;obtain⟨v,jz,rfl,h1,h2,hr⟩:=h;obtain⟨v1,v2,rfl,ha,hb⟩:=ih hr;exact⟨v::v1,v2,rfl,by simp only[dt];exact⟨v,v1,rfl,h1,h2,ha⟩,hb⟩
def dY.FI{b o:Nat}(h:dt w W ts vs)(hc:∀j v,vs[j]? =some v->w.cell? ⟨b,o+j,none⟩=some v):dY w W b o ts:=
 dY.BX ts o λj t ht=>by
  obtain⟨v,hv,h1,hr⟩:=dt.get h ht;exact⟨v,hc j v hv,h1,hr⟩
def bw.jO{sz b:Nat}:∀{aC:List (aG)} {o:Nat} {vs:List Value},dt w W aC.flatten vs->(∀r∈aC,r.length=sz)->(∀j v,vs[j]? =some v->w.cell? ⟨b,o+j,none⟩=some v)->bw w W sz b o aC
 |[],_,_,_,_,_=>by simp[bw]
 |r::rs,o,vs,h,hl,hc=>by
  simp only[Th]at h;obtain⟨v1,v2,rfl,ha,hb⟩:=dt.split h;have hr:r.length=sz:=hl r (by simp);have Bb:v1.length=sz:=by rw[dt.length ha,hr]
  simp only[bw];refine⟨hr,dY.FI ha λj v hv=>hc j v ?_,bw.jO hb (λx hx=>hl x (by simp[hx])) λj v hv=>?_⟩
  .rw[ZbM (tp.1 hv).1];exact hv
  .have:=hc (sz+j) v (by rw[ZbI (by omega),Bb];simpa using hv)
   rwa [show o+sz+j=o+(sz+j)by omega]
def bw.flatten{sz b:Nat}:∀{aC:List (aG)} {o:Nat},bw w W sz b o aC->∃vs,vs.length=aC.length*sz/\dt w W aC.flatten vs/\∀j v,vs[j]? =some v->w.cell? ⟨b,o+j,none⟩=some v
 |[],o,_=>⟨[],by simp,by simp[dt],by simp⟩
 |r::rs,o,h=>by
  simp only[bw]at h;obtain⟨v1,h1,bN⟩:=dY.cT h.2.1;obtain⟨v2,BS,h2,gD⟩:=bw.flatten h.2.2;have Bb:v1.length=sz:=by rw[dt.length h1,h.1]
  refine⟨v1++v2,by simp[Bb,BS,Fb];omega,by simpa using dt.append h1 h2,λj v hv=>?_⟩;by_cases hj:j<v1.length
  .rw[ZbM hj]at hv;exact bN j v hv
  .rw[ZbI (by omega)]at hv;have:=gD (j-v1.length) v hv
   rwa [show o+sz+(j-v1.length)=o+j by omega]at this
def pw.aC{r bG e sz:Nat}{aC:List (aG)}(h:pw w W ab L base M r (.bm bG e sz aC)){g:Nat}(hg:bk (L.sl r)=some g):
  bw w (WW W ab L) sz g 0 aC:=by
 obtain⟨_,hl,_,h⟩:=h;rcases h with⟨rfl,_⟩|⟨g',cap,eJ,hv,hp,hh,h1,h2,h3,h4⟩
 .simp[bw]
 .rw[hv]at hg;simp only[bk,iK (Et.1 hp),cq]at hg;subst hg;refine bw.jO h4 hl λj v hv=>?_;rw[Ow,cell_of_row w g' j eJ e (0,0) hh];rw[L7]at hv;split at hv
  .simpa using hv
  .cases hv
def yK{aC:List (aG)}{i:Int}(h0:0<=i)(h1:i<aC.length):aC[i.toNat]? =some (rowAt aC i):=by
 have:i.toNat<aC.length:=by omega
 simp[rowAt,List.getD,this]
def dt.take(n:Nat):∀{vs:List Value},dt w W ds vs->dt w W (ds.take n) (vs.take n):=by
 induction n generalizing ds with
 |zero=>intro vs h;simp[dt]
 |succ n ih=>
  intro vs h;cases ds with
  |nil=>simp only[dt]at h;subst h;simp[dt]
  |cons d ds=>
   simp only[dt]at h;obtain⟨v,jz,rfl,h1,h2,hr⟩:=h;simp only[Zck,dt];exact⟨v,_,rfl,h1,h2,ih hr⟩
def dt.drop(n:Nat):∀{vs:List Value},dt w W ds vs->dt w W (ds.drop n) (vs.drop n):=by
 induction n generalizing ds with
 |zero=>intro vs h;simpa using h
 |succ n ih=>
  intro vs h;cases ds with
  |nil=>simp only[dt]at h;subst h;simp[dt]
  |cons d ds=>
   simp only[dt]at h;obtain⟨v,jz,rfl,h1,h2,hr⟩:=h;simpa using ih hr
def uI{t:TypeId}{i:TypeInfo}(hd:P.underlying t=some d)(hi:P.info? t=some i){b o off:Nat}{cs:aG}
  (hr:dY w (WW W ab L) b o cs) (aN:off+i.size<=cs.length/\(bU d=true\/i.size=1)):
  ∃v,(Instr.loadAt t (.pointer (some ⟨b,o+off,none⟩))).run P w=.ok v w/\
   aD w W ab L (if bU d then .v (.agg ((cs.drop off).take i.size))else .v (cs.getD off default)) v:=by
 obtain⟨vs,hv,hc⟩:=dY.cT hr;have hl:=dt.length hv;have nk:=dt.take i.size (dt.drop off hv);refine⟨_,Ea hd hi (vs:=(vs.drop off).take i.size) (by simp;omega) (λj v hj=>?_) aN.2, ?_⟩
 .rw[L7]at hj;split at hj
  .rw[ZbY]at hj;have:=hc _ _ hj
   rwa [show o+off+j=o+(off+j)by omega]
  .cases hj
 .by_cases ha:bU d=true
  .simp only[ha,Eg,aD,be];exact⟨_,rfl,by simpa using nk⟩
  .have h1:i.size=1:=aN.2.resolve_left ha;have cQ:off<cs.length:=by omega
   obtain⟨v,sG,_,nl⟩:=dt.get hv (i:=off) (t:=cs[off]) (by simp[cQ]);have e1:(List.take i.size (List.drop off vs)).getD 0 Go.undef=v:=by
    rw[h1];simp only[List.getD,L7,ZbY,Zb2,sG];simp
   have e2:cs.getD off default=cs[off]:=by simp[List.getD,cQ]
   simp only[ha,e1,e2];exact nl
def wb{w0:World}(hO:ci base W M w0 ab w L){t:TypeId}{i:TypeInfo}(hd:P.underlying t=some d)(hi:P.info? t=some i)
  {x:DV} {xv:Value} (hx:aD w W ab L x xv) (aN:(gP i.size (bU d) ab x).ok):
  (gP i.size (bU d) ab x).put=none/\∃v,(Instr.loadAt t xv).run P w=.ok v w/\aD w W ab L (gP i.size (bU d) ab x).val v:=by
 cases x with
 |ptr r off=>
  simp only[aD]at hx;obtain⟨⟨cs,hc⟩,rfl⟩:=hx;simp only[gP,hc]at aN⊢;refine⟨trivial, ?_⟩;obtain⟨c,e,hh,hr,_⟩:=hO.ob r _ hc;have hl:=aU.length hr;have qd:=aU.take i.size (aU.drop off hr);refine⟨_,Ea hd hi (vs:=(c.toList.drop off).take i.size) (by simp at hl⊢;omega) (λj v hj=>?_) aN.2, ?_⟩
  .rw[L7]at hj;split at hj
   .rw[ZbY]at hj;rw[cell_of_row w _ _ c e (0,0) hh];simpa using hj
   .cases hj
  .by_cases ha:bU d=true
   .simp only[ha,Eg,aD];exact⟨_,rfl,by simpa using qd⟩
   .have h1:i.size=1:=aN.2.resolve_left ha;have cQ:off<cs.length:=by omega
    obtain⟨v,sG,_,nl⟩:=aU.get hr (i:=off) (d:=cs[off]) (by simp[cQ]);have e1:(List.take i.size (List.drop off c.toList)).getD 0 Go.undef=v:=by
     rw[h1];simp only[List.getD,L7,ZbY,Zb2,sG];simp
    have e2:cs.getD off .undef=cs[off]:=by simp[List.getD,cQ]
    simp only[ha,e1,e2];exact nl
 |mw aC j off=>
  simp only[aD]at hx;obtain⟨b,o,sz,rfl,hb,hn,hr,h0,h1⟩:=hx;simp only[gP]at aN⊢;exact⟨trivial,uI hd hi (bw.row hr (yK h0 h1)).2 aN⟩
 |j9 cs off=>
  simp only[aD]at hx;obtain⟨b,o,rfl,hb,hn,hr⟩:=hx;simp only[gP]at aN⊢;exact⟨trivial,uI hd hi hr aN⟩
 |v t'=>
  cases t' with
  |box cs=>
   simp only[aD,be]at hx;obtain⟨b,o,rfl,hb,hn,hr⟩:=hx;simp only[gP]at aN⊢;have:=uI (ab:=ab) (L:=L) (W:=W) hd hi (off:=0) hr (by simpa using aN);refine⟨trivial, ?_⟩;simpa using this
  |_=>simp[gP,cW]at aN
 |kr r bG j off=>
  simp only[aD]at hx;obtain⟨_,bM,e,sz,aC,ho,io,hx⟩:=hx;simp only[gP,ho]at aN⊢;obtain⟨g,hg,rfl,h0,h1⟩:=hx aN.1;have pY:=pw.aC (hO.ob r _ ho) hg;have:=(bw.row pY (yK h0 h1)).2;rw[Ow]at this;exact⟨trivial,uI hd hi this aN.2⟩
 |_=>simp[gP,cW]at aN
end
end
section
variable{yv xv z:Value}{va vb xs vs:List Value}{base r off bG sz lo name:Nat}{M:fm}{w0 w':World}{P:Program}{cs:bW}{α:Type}{aC ys:List (aG)}{t' ty e0:TypeId}{zero:aG}
variable [bD]
section
variable{w:World}{W:fm}{ab:bS}{L:Loc}
def yL{y:DV}(h:eQ (cellsOf y))(hl:(cellsOf y).length≠0\/True):pD y:=by
 cases y with
 |undef=>simp[cellsOf,eQ,kK]at h
 |skip=>simp[cellsOf,eQ,kK]at h
 |v t=>
  cases t<;>simp_all [cellsOf,eQ,kK,pD,xp]
 |dh ds=>simp[cellsOf,eQ,kK]at h
 |_=>simp[pD]
def pZ{y:DV}(hy:aD w W ab L y yv)(h:eQ (cellsOf y)):aU w W ab L (cellsOf y) yv.cells.toList:=
 aD.cells hy (yL h (.inr trivial))
def aU.one{ds:bW}:∀{vs:List Value},aU w W ab L ds vs->∀v∈vs,v.oneCell'=true:=by
 induction ds with
 |nil=>intro vs h;simp only[aU]at h;subst h;simp
 |cons d ds ih=>
  intro vs h;simp only[aU]at h;obtain⟨v,jz,rfl,h1,_,hr⟩:=h;intro u hu;rcases jv.1 hu with rfl|hu
  .exact h1
  .exact ih hr u hu
def dt.one{ds:aG}:∀{vs:List Value},dt w W ds vs->∀v∈vs,v.oneCell'=true:=by
 induction ds with
 |nil=>intro vs h;simp only[dt]at h;subst h;simp
 |cons d ds ih=>
  intro vs h;simp only[dt]at h;obtain⟨v,jz,rfl,h1,_,hr⟩:=h;intro u hu;rcases jv.1 hu with rfl|hu
  .exact h1
  .exact ih hr u hu
def aU.cg{a b:bW}(off:Nat)(ha:aU w W ab L a va)(hb:aU w W ab L b vb):aU w W ab L (cg a off b) (cg va off vb):=by
 unfold DM.cg;rw[<-aU.length hb];exact aU.append (aU.append (aU.take off ha) hb) (aU.drop _ ha)
def dt.cg{a b:aG}(off:Nat)(ha:dt w W a va)(hb:dt w W b vb):dt w W (cg a off b) (cg va off vb):=by
 unfold DM.cg;rw[<-dt.length hb];exact dt.append (dt.append (dt.take off ha) hb) (dt.drop _ ha)
def yM{g:Nat}(cs:Array Value)(h:Fr base M w0 w)(hg:base<=g\/M g):Fr base M w0 (w.setRow g cs):=
 ⟨h.os,h.tape,h.output,h.jN,by simpa using h.size,λk hk hm=>by
  rw[setRow_other w g k cs (by rintro rfl;exact hg.elim (λh1=>by omega) hm)];exact h.block k hk hm,by simpa using h.drawn⟩
def XR{t:TypeId}{i:TypeInfo}(hi:P.info? t=some i){g o:Nat}{e:TypeId}{eJ:Array Value}(hg:w.heap[g]? =some (.cells eJ e (0,0)))
  (hl:yv.cells.size=i.size) (QT:o+i.size<=eJ.size) (h1:∀v∈yv.cells.toList,v.oneCell'=true):
  (Instr.storeAt t (.pointer (some ⟨g,o,none⟩)) yv).run P w=.ok () (w.setRow g (cg eJ.toList o yv.cells.toList).toArray):=by
 have hs:=run_storeCells_at P g o e yv.cells.toList 0 eJ w hg (by simp[hl];omega) h1;simp only[Zb2]at hs;simp only[Instr.storeAt,Instr.sureAddr,storeVar,Sem.run_bind,Sem.run_pure,Result.andThen_ok,run_sizeOf hi,hl,ne_eq,not_true_eq_false,A0];exact hs
def Rm(hO:ci base W M w0 ab w L){t:TypeId}{i:TypeInfo}(hi:P.info? t=some i)
   (hc:ab r=some (.box cs)) {y:DV} (hy:aD w W ab L y yv)
  (hn:(cellsOf y).length=i.size) (QT:off+i.size<=cs.length) (tg:eQ (cellsOf y)):
  ∃w',(Instr.storeAt t (.pointer (some ⟨L.jK r,off,none⟩)) yv).run P w=.ok () w'/\
   ci base W M w0 (cC ab (some (r,.box (cg cs off (cellsOf y))))) w' L/\jA W ab L w (cC ab (some (r,.box (cg cs off (cellsOf y))))) L w':=by
 obtain⟨c,e,hh,hr,hm⟩:=hO.ob r _ hc;have qq:=pZ hy tg;have sZ:yv.cells.size=i.size:=by have:=aU.length qq;simpa [hn]using this
 have c9:c.size=cs.length:=by simpa using aU.length hr
 refine⟨_,XR hi hh sZ (by omega) (aU.one qq), ?_⟩;refine ci.put hO (yM _ hO.fr hm) (by simp) (λ_ _=>⟨rfl,rfl⟩) rfl (λb _ hb=>setRow_other w _ b _ (λx=>hb _ hc (by simp[Loc.own,x])))
  (λb hb=>.inl ⟨_,hc,hb⟩) (λo' j5 _=>by rw[hc]at j5;cases j5;exact⟨rfl,rfl⟩) (λbG e sz aC h=>by rw[hc]at h;cases h) (λgq=>?_)
 refine⟨_,e,setRow_heap w _ c _ e _ hh, ?_,hm⟩;exact aU.cg off (aU.gq gq _ _ hr) (aU.gq gq _ _ qq)
def gW{l new:List α}(h:off+new.length<=l.length):(cg l off new).length=l.length:=by
 simp[cg];omega
def zY{l new:List α}{n:Nat}(h:off+new.length<=n)(hn:n<=l.length):(cg l off new).take n=cg (l.take n) off new:=by
 unfold cg;have e1:List.take off (List.take n l)=List.take off l:=by rw[Zdq];congr 1;omega
 have e2:(List.take off l++new).length=off+new.length:=by simp;omega
 rw[e1,List.drop_take,Zdx,e2,Lz (by omega)]
def zZ{sz:Nat}:∀(aC:List (aG)) (i off:Nat) (new:aG),(∀r∈aC,r.length=sz)->i<aC.length->off+new.length<=sz->
  (aC.set i (cg (aC.getD i []) off new)).flatten=cg aC.flatten (i*sz+off) new
 |[],i,_,_,_,h,_=>by simp at h
 |r::rs,0,off,new,hl,_,hf=>by
  have hr:r.length=sz:=hl r (by simp);simp only[List.getD_cons_zero,Zb7,Th,cg,ZcH,Ow];rw[Zdh (by omega),Zci (by omega)];simp
 |r::rs,i+1,off,new,hl,h,hf=>by
  have hr:r.length=sz:=hl r (by simp);have ih:=zZ rs i off new (λx hx=>hl x (by simp[hx])) (by simpa using h) hf;simp only[Zdj,Zc0,Th];rw[show∀(a b:aG),cg (a++b) ((i+1)*sz+off) new=(a++b).take ((i+1)*sz+off)++new++(a++b).drop ((i+1)*sz+off+new.length)from λ_ _=>rfl];have e:(i+1)*sz+off=r.length+(i*sz+off):=by rw[Fb,hr];omega
  rw[e,Zdx,Zdy];have e1:r.length+(i*sz+off)-r.length=i*sz+off:=by omega
  have e2:r.length+(i*sz+off)+new.length-r.length=i*sz+off+new.length:=by omega
  rw[e1,e2,Lz (l:=r) (by omega),Zb3 (as:=r) (by omega)];simp only[jB,xm];rw[ih];simp only[cg,xm]
def Gw{OO:bS}{d:DV}{v:Value}(hp:tG d)(h:aD w W ab L d v):be w (WW W ab L) (sY OO d) v:=by
 cases d with
 |v t=>simpa [sY,aD]using h
 |aZ=>
  simp only[aD]at h;obtain⟨a,rfl⟩:=h;simp only[sY,be];exact .inl ⟨trivial,a,0,rfl⟩
 |_=>exact hp.elim
def oa{OO:bS}:∀{ds:bW} {vs:List Value},iA ds->aU w W ab L ds vs->dt w (WW W ab L) (jr OO ds) vs
 |[],vs,_,h=>by simpa [aU,dt,jr]using h
 |d::ds,vs,hp,h=>by
  simp only[iA]at hp;simp only[aU]at h;obtain⟨v,jz,rfl,h1,h2,hr⟩:=h;simp only[jr,dt];exact⟨v,jz,rfl,h1,Gw hp.1 h2,oa hp.2 hr⟩
def tL:∀{ds:bW},iA ds->eQ ds
 |[],_=>trivial
 |d::ds,h=>by
  simp only[iA]at h;simp only[eQ];refine⟨?_,tL h.2⟩;have:=h.1;cases d<;>simp_all [tG,kK]
def tM:∀(ds:bW),(jr ab ds).length=ds.length
 |[]=>rfl
 |_::ds=>by simp[jr,tM ds]
def Rn(hO:ci base W M w0 ab w L){t:TypeId}{i:TypeInfo}(hi:P.info? t=some i)
  {e:Nat} {j:Int} {g:Nat} (hc:ab r=some (.bm bG e sz aC)) (hg:bk (L.sl r)=some g) (h0:0<=j) (h1:j<aC.length)
  {y:DV} (hy:aD w W ab L y yv) (hn:(cellsOf y).length=i.size) (QT:off+i.size<=sz) (tg:iA (cellsOf y)):
  ∃w',(Instr.storeAt t (.pointer (some ⟨g,j.toNat*sz+off,none⟩)) yv).run P w=.ok () w'/\
   ci base W M w0 (cC ab (some (r,.bm bG e sz (aC.set j.toNat (cg (rowAt aC j) off (jr ab (cellsOf y))))))) w' L/\
   jA W ab L w (cC ab (some (r,.bm bG e sz (aC.set j.toNat (cg (rowAt aC j) off (jr ab (cellsOf y))))))) L w':=by
 have eH:=hO.ob r _ hc;obtain⟨jc,cK,hm,mE⟩:=eH;rcases mE with⟨rfl,_⟩|⟨g',cap,eJ,hv,hp,hh,io,tN,Gx,ip⟩
 .simp at h1;omega
 .rw[hv]at hg;simp only[bk,iK (Et.1 hp),cq]at hg;subst hg;have qq:=pZ hy (tL tg);have sZ:yv.cells.size=i.size:=by have:=aU.length qq;simpa [hn]using this
  have hj:j.toNat<aC.length:=by omega
  have hjs:j.toNat*sz+sz<=aC.length*sz:=by
   have:=Ec sz (show j.toNat+1<=aC.length by omega)
   rwa [Fb,ZcV]at this
  have mZ:aC.length*sz<=cap*sz:=Ec sz io;have ZQ:(jr ab (cellsOf y)).length=i.size:=by rw[tM];exact hn
  have qN:yv.cells.toList.length=i.size:=by simpa using sZ
  have iW:L.own r (.bm bG e sz aC)=some g':=by simp[Loc.own,hv,bk,Et.1 hp]
  refine⟨_,XR hi hh sZ (by omega) (aU.one qq), ?_⟩;refine ci.put hO (yM _ hO.fr (hm g' (by simp[hv,bk,Et.1 hp]))) (by simp) (λ_ _=>⟨rfl,rfl⟩) rfl (λb _ hb=>setRow_other w _ b _ (λx=>hb _ hc (by rw[iW,x])))
   (λb hb=>.inl ⟨_,hc,hb⟩) (λo' j5 hk=>by rw[hc]at j5;cases j5;exact qe rfl hk) (λbM e' jt eN h=>?_) (λgq=>?_)
  .rw[hc]at h;cases h;exact⟨bG,e,sz,_,rfl,gJ _,λ_=>⟨rfl,rfl,by simp⟩⟩
  .refine⟨jc,λx hx=>?_,hm,.inr ⟨g',cap,_,by simpa using hv,hp,setRow_heap w _ eJ _ e _ hh,by simpa using io,tN, ?_, ?_⟩⟩
   .rcases Zbv hx with hx|rfl
    .exact cK x hx
    .rw[gW]
     .exact cK _ (by rw[rowAt,List.getD,mM hj];simp)
     .have:(rowAt aC j).length=sz:=cK _ (by rw[rowAt,List.getD,mM hj];simp);omega
   .have:=gW (l:=eJ.toList) (new:=yv.cells.toList) (off:=j.toNat*sz+off) (by simp only[Lt]at qN⊢;omega);simpa using this.trans (by simpa using Gx)
   .rw[show rowAt aC j=aC.getD j.toNat []from rfl,zZ aC j.toNat off _ cK hj (by omega)];simp only[List.length_set];have e1:(cg eJ.toList (j.toNat*sz+off) yv.cells.toList).toArray.toList.take (aC.length*sz)=cg (eJ.toList.take (aC.length*sz)) (j.toNat*sz+off) yv.cells.toList:=by
     rw[List.toList_toArray];exact zY (by omega) (by simp;omega)
    rw[e1];exact dt.cg _ (dt.aL gq.cL.toKeepsC gq.sub _ _ ip) (dt.aL gq.cL.toKeepsC gq.sub _ _ (oa tg qq))
def Loc.gX(L:Loc)(r b:Nat):Loc:=⟨λx=>if x=r then b else L.jK x,L.sl,L.yl⟩
def Loc.jP(L:Loc)(r:Nat)(v:Value):Loc:=⟨L.jK,λx=>if x=r then v else L.sl x,L.yl⟩
def xu(h:Fr base M w0 w)(hb:xl w.heap.size w w'):Fr base M w0 w':=by
 have io:base<=w.heap.size:=zN h.jN h.size;exact h.trans ⟨hb.os,hb.tape,hb.output,io,hb.size,λk hk _=>hb.block k (by omega),hb.drawn⟩
def ln(o:Obj):xl w.heap.size w (w.alloc o):=⟨(Below.refl _ _).alloc (gJ _) _,gJ _⟩
def Gz(hO:ci base W M w0 ab w L)(hr:ab r=none){c:Array Value}(e:TypeId)(hc:aU w W ab L cs c.toList):
  ci base W M w0 (cC ab (some (r,.box cs))) (w.alloc (.cells c e)) (L.gX r w.heap.size)/\
   jA W ab L w (cC ab (some (r,.box cs))) (L.gX r w.heap.size) (w.alloc (.cells c e)):=by
 have hb:=ln (w:=w) (.cells c e);refine ci.put hO (xu hO.fr hb) hb.size (λx hx=>⟨by simp[Loc.gX,hx],rfl⟩) rfl (λb cQ _=>hb.block b cQ) (λb h=>.inr ?_)
  (λo' h _=>by rw[hr]at h;cases h) (λ_ _ _ _ h=>by rw[hr]at h;cases h) (λgq=>?_)
 .simp only[Loc.own,Loc.gX,Eg,cq]at h;omega
 .refine⟨c,e, ?_,aU.gq gq _ _ hc,.inl ?_⟩
  .simp only[Loc.gX,Eg];exact heap_alloc_new w _
  .simp only[Loc.gX,Eg];exact zN hO.fr.jN hO.fr.size
def tO(hO:ci base W M w0 ab w L){e n:Nat}(hc:ab r=some (.bm bG e sz aC))
  (hx:lo+n<=aC.length/\∃p cap p2,L.sl r=.slice p aC.length cap/\xv=.slice p2 n (cap-lo)/\(lo<cap->p2=p.map (·.add (lo*sz)))):
  (n=0/\∃(a:Option Addr) (c:Nat),xv=.slice a 0 c)\/∃g c,bk (L.sl r)=some g/\xv=.slice (some ⟨g,lo*sz,none⟩) n c/\n<=c/\bw w (WW W ab L) sz g (lo*sz) ((aC.drop lo).take n):=by
 obtain⟨hln,p,cap,p2,xw,rfl,Un⟩:=hx;by_cases hn:n=0
 .subst hn;exact .inl ⟨rfl,p2,_,rfl⟩
 .have eH:=hO.ob r _ hc;obtain⟨_,cK,hm,mE⟩:=eH;rcases mE with⟨rfl,a,ha⟩|⟨g,atH,eJ,h1,h2,h3,h4,h5,h6,h7⟩
  .simp at hln;omega
  .have wg:bk (L.sl r)=some g:=by rw[h1];simp[bk,Et.1 h2]
   have pY:=pw.aC (hO.ob r _ hc) wg;rw[xw]at h1;simp only[Value.slice.injEq]at h1;obtain⟨rfl,_,rfl⟩:=h1;have:=Un (by omega);subst this;refine .inr ⟨g,cap-lo,wg,by simp[mY],by omega,bw.A9 _ _ λj x hj=>?_⟩;rw[L7]at hj;split at hj
   .rw[ZbY]at hj;have:=bw.row pY hj;rw[Ow,Fb]at this;exact this
   .cases hj
structure Uo(w:World)(W':fm)(ys:List (aG))(sz:Nat)(v:Value):Prop where
 it:(ys=[]/\∃(a:Option Addr) (c:Nat),v=.slice a 0 c)\/∃b o c,v=.slice (some ⟨b,o,none⟩) ys.length c/\bw w W' sz b o ys
def qr(hO:ci base W M w0 ab w L){y:DV}(hy:aD w W ab L y yv)(hs:fK ab y=some ys)(hl:∀r∈ys,r.length=sz):
  Uo w (WW W ab L) ys sz yv:=by
 cases y with
 |v t=>
  cases t with
  |sl aC=>
   simp only[fK,cq]at hs;subst hs;simp only[aD,be]at hy;rcases hy with hy|⟨b,o,cap,jt,rfl,_,_,hc,hr⟩
   .exact⟨.inl hy⟩
   .refine⟨.inr ⟨b,o,cap,rfl, ?_⟩⟩
    match aC,hr with
    |[],_=>simp[bw]
    |r::rs,hr=>
     have h1:=(bw.row hr (i:=0) (r:=r) rfl).1;have h2:=hl r (by simp);have:jt=sz:=by omega
     exact this▸hr
  |tf v=>
   unfold fK at hs;split at hs<;>simp_all
   simp only[aD,be]at hy;exact⟨.inl ⟨rfl,_,_,hy⟩⟩
  |_=>simp[fK]at hs
 |aZ=>
  simp only[fK,cq]at hs;subst hs;simp only[aD]at hy;obtain⟨a,rfl⟩:=hy;exact⟨.inl ⟨rfl,a,0,rfl⟩⟩
 |aW r bG=>
  simp only[fK]at hs;simp only[aD]at hy;obtain⟨_,bM,e,jt,aC,ho,_,hx⟩:=hy;rw[ho]at hs;simp only at hs;split at hs
  .rename_i hv;simp only[cq]at hs;subst hs;have eH:=hO.ob r _ ho;obtain⟨jc,cK,hm,mE⟩:=eH;rw[hx hv];rcases mE with⟨rfl,a,ha⟩|⟨g',cap,eJ,sG,hp,hh,io,tN,Gx,ip⟩
   .exact⟨.inl ⟨rfl,a,0,ha⟩⟩
   .have pY:=pw.aC (hO.ob r _ ho) (g:=g') (by simp[sG,bk,Et.1 hp]);refine⟨.inr ⟨g',0,cap,sG, ?_⟩⟩
    match aC,pY,hl,cK with
    |[],_,_,_=>simp[bw]
    |r::rs,hr,hl,cK=>
     have h1:=cK r (by simp);have h2:=hl r (by simp);have:jt=sz:=by omega
     exact this▸hr
  .cases hs
 |v7 r bG lo n=>
  simp only[fK]at hs;simp only[aD]at hy;obtain⟨_,bM,e,jt,aC,ho,_,hx⟩:=hy;rw[ho]at hs;simp only at hs;split at hs
  .rename_i hv;subst hv;simp only[cq]at hs;subst hs;have hln:=(hx rfl).1;have mq:((aC.drop lo).take n).length=n:=by rw[Ee,OJ];omega
   rcases tO hO ho (hx rfl)with⟨rfl,a,c,rfl⟩|⟨g,c,_,rfl,_,hr⟩
   .exact⟨.inl ⟨by simp,a,c,rfl⟩⟩
   .refine⟨.inr ⟨g,lo*jt,c,by rw[mq], ?_⟩⟩;have cK:=(hO.ob r _ ho).2.1
    match hq:(aC.drop lo).take n,hr,hl with
    |[],_,_=>simp[bw]
    |q::qs,hr,hl=>
     have h1:=cK q (Zcd (yS (by rw[hq];simp)));have h2:=hl q (by simp);have:jt=sz:=by omega
     exact this▸hr
  .cases hs
 |_=>simp[fK]at hs
def kS(w:World)(t ty e:TypeId)(i:TypeInfo)(ht:P.underlying t=some (.slice e))(hi:P.info? e=some i)(a b:Option Addr)(n cap c:Nat)(hn:n<=cap):
  (Builtin.append_ #[t,t] ty #[.slice a n cap,.slice b 0 c]).run P w=.ok (.slice a n cap) w:=by
 have hf:(Builtin.firstCells i.size 0 (.slice b 0 c)).run P w=.ok #[] w:=by
  cases b<;>simp[Builtin.firstCells,loadCells,loadCellsFrom]
 cases a<;>simp[Builtin.append_,run_underlying ht,sizeOf,typeInfo,hi,Builtin.lenOf,hn,hf,storeCells]
def B5{e:Nat}(XS:z.cells.size=sz){n m old:Nat}(hx:xs.length=n*sz)(hv:vs.length=m*sz)(h63:n+m<=maxLen):
  (w.drew.alloc (.cells (xs.toArray++vs.toArray++Builtin.zeroCells z.cells (grownCap w (n+m) old e-(n+m))) e)).ownsRow 0 e sz (.slice (some ⟨w.heap.size,0,none⟩) (n+m) (grownCap w (n+m) old e)) (n+m) (xs++vs)/\
   ∀row,w.grownBy (w.drew.alloc (.cells (xs.toArray++vs.toArray++Builtin.zeroCells z.cells (grownCap w (n+m) old e-(n+m))) e)) row:=by
 have Ba:=grownCap_ge w (n+m) old e;have Ef:grownCap w (n+m) old e<=maxLen:=grownCap_le_maxLen w (n+m) old e h63;have ct:(xs++vs).length=(n+m)*sz:=by rw[nH,hx,hv,Fb]
 refine⟨⟨ct,.inr ⟨w.heap.size,_,_,rfl,ER _,heap_alloc_new w.drew _,Ba,Ef, ?_, ?_⟩⟩,λrow=>⟨rfl,rfl,rfl,by simp,λk hk _=>heap_alloc_old w.drew _ k hk⟩⟩
 .simp only[Array.size_append,List.size_toArray,size_zeroCells,XS,hx,hv,<-Nat.add_mul]
  congr 1
  omega
 .simp only[Array.toList_append,xm];rw[<-List.append_assoc,<-ct];exact ZdF
def Rq{o:Ob}(h:ab r=some o):cC ab (some (r,o))=ab:=by
 funext x;simp only[cC];split
 .rename_i e;rw[e,h]
 .rfl
def B6{new:List (aG)}(hr:∀r∈aC,r.length=sz)(hn:∀r∈new,r.length=sz)(h:lo+new.length<=aC.length):(cg aC lo new).flatten=cg aC.flatten (lo*sz) new.flatten:=by
 have key:∀(l:List (aG)),(∀r∈l,r.length=sz)->l.flatten.length=l.length*sz:=by
  intro l;induction l with
  |nil=>simp
  |cons r rs ih=>intro h;simp[ih (λx hx=>h x (by simp[hx])),h r (by simp),Fb];omega
 have tk:∀(k:Nat),k<=aC.length->(aC.take k).flatten=aC.flatten.take (k*sz)/\(aC.drop k).flatten=aC.flatten.drop (k*sz):=by
  intro k hk;have h8:aC.flatten=(aC.take k).flatten++(aC.drop k).flatten:=by rw[<-List.flatten_append,Ek]
  have h9:(aC.take k).flatten.length=k*sz:=by rw[key _ (λr h=>hr r (yS h)),Ee];congr 1;omega
  rw[h8,ZdB h9,List.drop_left' h9];exact⟨rfl,rfl⟩
 unfold cg;rw[Zdl,Zdl,(tk lo (by omega)).1,(tk _ h).2,key new hn,Fb]
def E3(hO:ci base W M w0 ab w L){t:TypeId}{i:TypeInfo}(ht:P.underlying t=some (.slice e0))(hi:P.info? e0=some i)
  {e n:Nat} (hc:ab r=some (.bm bG e i.size aC)) (hln:lo+n<=aC.length)
  (lG:(n=0/\∃(a:Option Addr) (c:Nat),xv=.slice a 0 c)\/∃g c,bk (L.sl r)=some g/\xv=.slice (some ⟨g,lo*i.size,none⟩) n c) (hs:Uo w (WW W ab L) ys i.size yv) (sZ:∀r∈ys,r.length=i.size):
  ∃w',(Builtin.copy_ #[t,t'] ty #[xv,yv]).run P w=.ok (goInt (min ys.length n:Nat)) w'/\
   ci base W M w0 (cC ab (some (r,.bm bG e i.size (cg aC lo (ys.take n))))) w' L/\jA W ab L w (cC ab (some (r,.bm bG e i.size (cg aC lo (ys.take n))))) L w':=by
 have alN:ys.take n=[]->ci base W M w0 (cC ab (some (r,.bm bG e i.size (cg aC lo (ys.take n))))) w L/\jA W ab L w (cC ab (some (r,.bm bG e i.size (cg aC lo (ys.take n))))) L w:=by
  intro h0;have e1:cg aC lo (ys.take n)=aC:=by rw[h0];simp[cg]
  rw[e1,Rq hc];exact⟨hO,jA.cS (c8.refl _ _)⟩
 have ct:∃(p:Option Addr) (c:Nat),yv=.slice p ys.length c:=by
  rcases hs.it with⟨rfl,a,c,rfl⟩|⟨b,o,c,rfl,_⟩
  .exact⟨a,c,rfl⟩
  .exact⟨_,c,rfl⟩
 have hf0:∀(v:Value) (p:Option Addr) (m c:Nat),v=.slice p m c->(Builtin.firstCells i.size 0 v).run P w=.ok #[] w:=by
  rintro v p m c rfl;cases p<;>simp[Builtin.firstCells,loadCells,loadCellsFrom]
 obtain⟨yp,yc,hyv⟩:=ct;rcases lG with⟨rfl,a,c,rfl⟩|⟨g,c,hg,rfl⟩
 .refine⟨w, ?_,alN (by simp)⟩;have:=hf0 yv yp _ yc hyv;subst hyv;cases a<;>simp[Builtin.copy_,run_underlying ht,Builtin.lenOf,run_sizeOf hi,this,storeCells]
 .by_cases hm:min ys.length n=0
  .refine⟨w, ?_,alN ?_⟩
   .have:=hf0 yv yp _ yc hyv;subst hyv;have Rr:Nat.min ys.length n=0:=hm;simp[Builtin.copy_,run_underlying ht,Builtin.lenOf,run_sizeOf hi,hm,this,storeCells]
   .by_cases h:ys.length=0
    .rw[oK h];simp
    .rw[show n=0 by omega];simp
  .rcases hs.it with⟨rfl,_⟩|⟨b,o,c',alO,hr⟩
   .simp at hm
   .have eH:=hO.ob r _ hc;obtain⟨jc,cK,IM,mE⟩:=eH;rcases mE with⟨rfl,_⟩|⟨g',cap,eJ,h1,h2,h3,h4,h5,h6,h7⟩
    .simp at hln;omega
    .have wg:bk (L.sl r)=some g':=by rw[h1];simp[bk,Et.1 h2]
     rw[wg]at hg;cases hg;obtain⟨vs,qN,Bc,Up⟩:=bw.flatten hr;have Ij:min ys.length n*i.size<=vs.length:=by rw[qN];exact Ec _ (Nat.min_le_left _ _)
     have htk:(ys.take n).length=min ys.length n:=by rw[Ee,Nat.min_comm]
     have mq:(vs.take (min ys.length n*i.size)).length=min ys.length n*i.size:=by rw[Ee];omega
     have adX:(Builtin.firstCells i.size (min ys.length n) yv).run P w=.ok (vs.take (min ys.length n*i.size)).toArray w:=by
      rw[alO];simp only[Builtin.firstCells];have:=zX (P:=P) (w:=w) (b:=b) (o:=o) (vs:=vs.take (min ys.length n*i.size)) (λj v hj=>Up j v (by
       rw[L7]at hj;split at hj
       .exact hj
       .cases hj))
      rw[mq]at this;exact this
     have hfl:(ys.take n).flatten=ys.flatten.take (min ys.length n*i.size):=by
      have h8:ys.flatten=(ys.take n).flatten++(ys.drop n).flatten:=by rw[<-List.flatten_append,Ek]
      rw[h8,ZdB];have key:∀(l:List (aG)),(∀r∈l,r.length=i.size)->l.flatten.length=l.length*i.size:=by
       intro l;induction l with
       |nil=>simp
       |cons r rs ih=>intro h;simp[ih (λx hx=>h x (by simp[hx])),h r (by simp),Fb];omega
      rw[key _ (λr h=>sZ r (yS h)),htk]
     have QT:lo*i.size+min ys.length n*i.size<=aC.length*i.size:=by
      rw[<-Nat.add_mul];exact Ec _ (by omega)
     have avZ:aC.length*i.size<=cap*i.size:=Ec _ h4;have qU:dt w (WW W ab L) (ys.take n).flatten (vs.take (min ys.length n*i.size)):=by rw[hfl];exact dt.take _ Bc
     have iO:=run_storeCells_at P g (lo*i.size) e (vs.take (min ys.length n*i.size)) 0 eJ w h3 (by rw[mq,h6];omega) (dt.one qU);have iW:L.own r (.bm bG e i.size aC)=some g:=wg;refine⟨w.setRow g (cg eJ.toList (lo*i.size) (vs.take (min ys.length n*i.size))).toArray, ?_, ?_⟩
     .have Rr:Nat.min ys.length n=min ys.length n:=rfl;rw[alO]at adX⊢;simp only[Builtin.copy_,Builtin.lenOf];simp only[Zb2]at iO;simp[run_underlying ht,run_sizeOf hi,adX,iO,cg]
     .refine ci.put hO (yM _ hO.fr (IM g wg)) (by simp) (λ_ _=>⟨rfl,rfl⟩) rfl (λb _ hb=>setRow_other w _ b _ (λx=>hb _ hc (by rw[iW,x])))
       (λb hb=>.inl ⟨_,hc,hb⟩) (λo' j5 hk=>by rw[hc]at j5;cases j5;exact qe rfl hk) (λbM e' jt eN h=>?_) (λgq=>?_)
      .rw[hc]at h;cases h;exact⟨bG,e,i.size,_,rfl,gJ _,λ_=>⟨rfl,rfl,gW (by rw[htk];omega)⟩⟩
      .have BS:(cg aC lo (ys.take n)).length=aC.length:=gW (by rw[htk];omega);refine⟨jc,λx hx=>?_,IM,.inr ⟨g,cap,_,by rw[BS];exact h1,h2,setRow_heap w _ eJ _ e _ h3,by rw[BS];exact h4,h5, ?_, ?_⟩⟩
       .simp only[cg,lF]at hx;rcases hx with(hx|hx)|hx
        .exact cK x (yS hx)
        .exact sZ x (yS hx)
        .exact cK x (Zcd hx)
       .have:=gW (l:=eJ.toList) (new:=vs.take (min ys.length n*i.size)) (off:=lo*i.size) (by rw[mq];simp only[Lt,h6];omega);simpa using this.trans (by simpa using h6)
       .rw[BS,B6 cK (λx hx=>sZ x (yS hx)) (by rw[htk];omega)];rw[List.toList_toArray,zY (by rw[mq];omega) (by simp only[Lt,h6];omega)];exact dt.cg _ (dt.aL gq.cL.toKeepsC gq.sub _ _ h7) (dt.aL gq.cL.toKeepsC gq.sub _ _ qU)
def oR{t e:TypeId}{i:TypeInfo}(ht:P.underlying t=some (.slice e))(hi:P.info? e=some i)(hz:i.zero=some z)(vJ:i.size=sz)(XS:z.cells.size=sz)
  {W':fm} {v:Value} {n:Nat} (iW:(n=0/\xs=[]/\∃a:Option Addr,v=.slice a 0 0)\/∃g cap eJ,v=.slice (some ⟨g,0,none⟩) n cap/\0<cap/\w.heap[g]? =some (.cells eJ e (0,0))/\n<=cap/\cap<=maxLen/\eJ.size=cap*sz/\eJ.toList.take (n*sz)=xs)
   (hs:Uo w W' ys sz yv) (hyw:∀b o,bw w W' sz b o ys->∃vs,vs.length=ys.length*sz/\dt w W' ys.flatten vs/\∀j v,vs[j]? =some v->w.cell? ⟨b,o+j,none⟩=some v) (xx:cw i.bytes (n+ys.length)):
  ∃v' w' vs,(Builtin.append_ #[t,t] ty #[v,yv]).run P w=.ok v' w'/\dt w W' ys.flatten vs/\vs.length=ys.length*sz/\
   ((n+ys.length=0/\∃a:Option Addr,v'=.slice a 0 0)\/∃g cap eJ,v'=.slice (some ⟨g,0,none⟩) (n+ys.length) cap/\0<cap/\w'.heap[g]? =some (.cells eJ e (0,0))/\n+ys.length<=cap/\cap<=maxLen/\eJ.size=cap*sz/\
     eJ.toList.take ((n+ys.length)*sz)=xs++vs)/\
   w.grownBy w' (bk v)/\(∀b,bk v'=some b->bk v=some b\/w.heap.size<=b)/\w.drawn<=w'.drawn:=by
 have h63:n+ys.length<=maxLen:=by have:=xx.2;simp only[maxLen];omega
 have atJ:((n+ys.length:Nat):Int)<=9223372036854775807:=by have:=xx.2;omega
 have OP:w.grownBy w (bk v):=⟨rfl,rfl,rfl,gJ _,λ_ _ _=>rfl⟩;rcases hs.it with⟨rfl,b,c,rfl⟩|⟨b,o,c,rfl,hr⟩
 .rcases iW with⟨rfl,rfl,a,rfl⟩|⟨g,cap,eJ,rfl,hp,hg,h1,h2,h3,h4⟩
  .exact⟨_,w,[],kS w t ty e i ht hi a b 0 0 c (gJ _),by simp[dt],by simp,.inl ⟨rfl,a,rfl⟩,OP,λb hb=>.inl hb,gJ _⟩
  .exact⟨_,w,[],kS w t ty e i ht hi _ b n cap c h1,by simp[dt],by simp,.inr ⟨g,cap,eJ,rfl,hp,hg,h1,h2,h3,by simpa using h4⟩,OP,λb hb=>.inl hb,gJ _⟩
 .obtain⟨vs,qN,Bc,Up⟩:=hyw b o hr;have afA:∀j v,vs[j]? =some v->w.cell? ((⟨b,o,none⟩:Addr).add j)=some v:=λj v h=>by rw[mY];exact Up j v h
  by_cases hy0:ys.length=0
  .have:ys=[]:=oK hy0;subst this;rcases iW with⟨rfl,rfl,a,rfl⟩|⟨g,cap,eJ,rfl,hp,hg,h1,h2,h3,h4⟩
   .exact⟨_,w,[],kS w t ty e i ht hi a _ 0 0 c (gJ _),by simp[dt],by simp,.inl ⟨rfl,a,rfl⟩,OP,λb hb=>.inl hb,gJ _⟩
   .exact⟨_,w,[],kS w t ty e i ht hi _ _ n cap c h1,by simp[dt],by simp,.inr ⟨g,cap,eJ,rfl,hp,hg,h1,h2,h3,by simpa using h4⟩,OP,λb hb=>.inl hb,gJ _⟩
  .have grow:∀(a:Addr) (old:Nat),old<n+ys.length->xs.length=n*sz->(∀j u,xs[j]? =some u->w.cell? (a.add j)=some u)->
     ∃v' w',(Builtin.append_ #[t,t] ty #[.slice (some a) n old,.slice (some ⟨b,o,none⟩) ys.length c]).run P w=.ok v' w'/\
      (∃g cap eJ,v'=.slice (some ⟨g,0,none⟩) (n+ys.length) cap/\0<cap/\w'.heap[g]? =some (.cells eJ e (0,0))/\n+ys.length<=cap/\cap<=maxLen/\eJ.size=cap*sz/\eJ.toList.take ((n+ys.length)*sz)=xs++vs)/\
      (∀row,w.grownBy w' row)/\(∀b,bk v'=some b->w.heap.size<=b)/\w.drawn<=w'.drawn:=by
    intro a old ho wX hxc;have bO:=run_append_grow (P:=P) w t ty e i z ht hi hz a n old xs (by rw[vJ];exact wX) hxc ⟨b,o,none⟩ ys.length c vs (by rw[vJ];exact qN) afA ho atJ (growslice_fits ho xx.1);have vx:=B5 (w:=w) (e:=e) (old:=old) XS wX qN h63;obtain⟨ct,hor⟩:=vx.1;rcases hor with⟨hn,_⟩|⟨g,cap,eJ,hv,_,hg,h1,h2,h3,h4⟩
    .cases hn
    .refine⟨_,_,bO,⟨g,cap,eJ,hv,by omega,hg,h1,h2,h3,h4⟩,vx.2,λb hb=>?_,ZdD _⟩;have tN:grownCap w (n+ys.length) old e≠0:=by have:=grownCap_ge w (n+ys.length) old e;omega
     simp only[bk,iK tN,cq]at hb;omega
   rcases iW with⟨rfl,rfl,a,rfl⟩|⟨g,cap,eJ,rfl,hp,hg,h1,h2,h3,h4⟩
   .cases a with
    |none=>
     have bO:=run_append_nil (P:=P) w t ty e i z ht hi hz ⟨b,o,none⟩ ys.length c vs (by rw[vJ];exact qN) afA (by omega) (by omega) (by have:=growslice_fits (old:=0) (need:=ys.length) (by omega) (by simpa using xx.1);have h2:=xx.1;simp only[Ow]at h2;omega);have vx:=B5 (w:=w) (e:=e) (old:=0) (n:=0) (xs:=[]) XS (by simp) qN (by simpa using h63);simp only[Ow,jB,Array.empty_append]at vx⊢;obtain⟨ct,hor⟩:=vx.1;rcases hor with⟨hn,_⟩|⟨g,cap,eJ,hv,_,hg,h1,h2,h3,h4⟩
     .cases hn
     .refine⟨_,_,vs,bO,Bc,qN,.inr ⟨g,cap,eJ,hv,by omega,hg,h1,h2,h3,h4⟩,vx.2 _,λb hb=>.inr ?_,ZdD _⟩;have tN:grownCap w ys.length 0 e≠0:=by have:=grownCap_ge w ys.length 0 e;omega
      simp only[bk,iK tN,cq]at hb;omega
    |some a=>
     obtain⟨v',w',bO,qd,vx,Qi,LZ⟩:=grow a 0 (by omega) (by simp) (by simp);exact⟨v',w',vs,bO,Bc,qN,.inr qd,vx _,λb hb=>.inr (Qi b hb),LZ⟩
   .have wX:xs.length=n*sz:=by
     rw[<-h4,Ee,Lt,h3];exact Nat.min_eq_left (Ec sz h1)
    have Uq:cap≠0:=Et.1 hp;by_cases L5:n+ys.length<=cap
    .have QT:n*i.size+vs.length<=eJ.size:=by rw[qN,h3,vJ,<-Nat.add_mul];exact Ec _ L5
     have bO:=run_append_room (P:=P) w t ty e i ht hi g n cap eJ hg ⟨b,o,none⟩ ys.length c vs (by rw[vJ];exact qN) afA (dt.one Bc) L5 QT;refine⟨_,_,vs,bO,Bc,qN,.inr ⟨g,cap,_,rfl,hp,setRow_heap w g eJ _ e _ hg,L5,h2, ?_, ?_⟩,⟨rfl,rfl,rfl,by simp,λk _ hk=>setRow_other w g k _ (λe=>hk (by simp[bk,Uq,e]))⟩,λb hb=>.inl ?_,by simp⟩
     .simp only[List.size_toArray,nH,Ee,OJ,Lt];rw[vJ]at QT⊢;omega
     .have ct:(xs++vs).length=(n+ys.length)*sz:=by rw[nH,wX,qN,Fb]
      rw[vJ,h4,<-ct];exact ZdF
     .simpa [bk,Uq]using hb
    .obtain⟨v',w',bO,qd,vx,Qi,LZ⟩:=grow ⟨g,0,none⟩ cap (by omega) wX (λj u hu=>by
      rw[mY,Ow,cell_of_row w g j eJ e (0,0) hg];rw[<-h4,L7]at hu;split at hu
      .simpa using hu
      .cases hu)
     exact⟨v',w',vs,bO,Bc,qN,.inr qd,vx _,λb hb=>.inr (Qi b hb),LZ⟩
def tP{sz:Nat}:∀{aC:List (aG)},(∀r∈aC,r.length=sz)->aC.flatten.length=aC.length*sz
 |[],_=>by simp
 |r::rs,h=>by
  have:=tP (aC:=rs) (sz:=sz) λx hx=>h x (by simp[hx]);simp[this,h r (by simp),Fb];omega
def wh(hO:ci base W M w0 ab w L){bM e:Nat}(jc:0<sz)
  {v v':Value} (qU:∀x∈aC++ys,x.length=sz)
  {adY:List (aG)} (Gi:(ab r=none/\aC=[]/\bk v=none)\/(ab r=some (.bm bG e sz adY)/\bk (L.sl r)=bk v/\bG<bM))
  (hxs:dt w (WW W ab L) aC.flatten xs) (hvs:dt w (WW W ab L) ys.flatten vs)
  (mu:(aC.length+ys.length=0/\∃a:Option Addr,v'=.slice a 0 0)\/∃g cap eJ,v'=.slice (some ⟨g,0,none⟩) (aC.length+ys.length) cap/\0<cap/\w'.heap[g]? =some (.cells eJ e (0,0))/\aC.length+ys.length<=cap/\cap<=maxLen/\eJ.size=cap*sz/\
     eJ.toList.take ((aC.length+ys.length)*sz)=xs++vs)
  (vx:w.grownBy w' (bk v)) (Qi:∀b,bk v'=some b->bk v=some b\/w.heap.size<=b) (LZ:w.drawn<=w'.drawn):
  ci base W M w0 (cC ab (some (r,.bm bM e sz (aC++ys)))) w' (L.jP r v')/\jA W ab L w (cC ab (some (r,.bm bM e sz (aC++ys)))) (L.jP r v') w':=by
 have Ur:∀g,bk v=some g->base<=g\/M g:=λg hg=>by
  rcases Gi with⟨_,_,h⟩|⟨ho,hv,_⟩
  .rw[hg]at h;cases h
  .exact(hO.ob r _ ho).alL (by simpa [Loc.own,hv]using hg)
 have io:base<=w.heap.size:=zN hO.fr.jN hO.fr.size;have kc:Fr base M w0 w':=hO.fr.trans ⟨vx.os,vx.tape,vx.output,io,vx.size,λk hk hm=>vx.block k (by omega) λx=>by
  rcases Ur k x.symm with h|h
  .omega
  .exact hm h,LZ⟩
 refine ci.put hO kc vx.size (λx hx=>⟨rfl,by simp[Loc.jP,hx]⟩) rfl (λb cQ hb=>vx.block b cQ λx=>?_) (λb hb=>?_) (λcs hc hk=>?_) (λpW e2 EZ lZ hc=>?_) (λgq=>?_)
 .rcases Gi with⟨_,_,h⟩|⟨ho,hv,_⟩
  .rw[h]at x;cases x
  .exact hb _ ho (by simp[Loc.own,hv,<-x])
 .simp only[Loc.own,Loc.jP,Eg]at hb;rcases Qi b hb with h|h
  .rcases Gi with⟨_,_,h2⟩|⟨ho,hv,_⟩
   .rw[h]at h2;cases h2
   .exact .inl ⟨_,ho,by simp[Loc.own,hv,h]⟩
  .exact .inr h
 .rcases Gi with⟨h,_⟩|⟨h,_⟩<;>rw[hc]at h<;>cases h
  exact qe rfl (by assumption)
 .rcases Gi with⟨h,_⟩|⟨h,_,cQ⟩
  .rw[hc]at h;cases h
  .rw[hc]at h;cases h;exact⟨bM,e,sz,_,rfl,by omega,λx=>by omega⟩
 .refine⟨jc,qU,λg hg=>?_, ?_⟩
  .simp only[Loc.jP,Eg]at hg;rcases Qi g hg with h|h
   .exact Ur g h
   .exact .inl (zN io h)
  .simp only[Loc.jP,Eg,nH];rcases mu with⟨h0,ha⟩|⟨g,cap,eJ,hv,hp,hg,h1,h2,h3,h4⟩
   .refine .inl ⟨?_,ha⟩;have h1:aC=[]:=oK (by omega);have h2:ys=[]:=oK (by omega);simp[h1,h2]
   .refine .inr ⟨g,cap,eJ,hv,hp,hg,h1,h2,h3, ?_⟩;rw[h4,Zdl];exact dt.append (dt.aL gq.cL.toKeepsC gq.sub _ _ hxs) (dt.aL gq.cL.toKeepsC gq.sub _ _ hvs)
def GB(hO:ci base W M w0 ab w L){t e:TypeId}{i:TypeInfo}(ht:P.underlying t=some (.slice e))(hi:P.info? e=some i)(hz:i.zero=some z)(XS:z.cells.size=i.size)(jc:0<i.size)
   (eO:ab name=none) {x y:DV} (hx:aD w W ab L x xv) (hy:aD w W ab L y yv) (aN:(iC e i.size i.bytes name ab x y).ok):
  ∃v w' L',(Builtin.append_ #[t,t] ty #[xv,yv]).run P w=.ok v w'/\ci base W M w0 (cC ab (iC e i.size i.bytes name ab x y).put) w' L'/\
   jA W ab L w (cC ab (iC e i.size i.bytes name ab x y).put) L' w'/\aD w' W (cC ab (iC e i.size i.bytes name ab x y).put) L' (iC e i.size i.bytes name ab x y).val v:=by
 unfold iC at aN⊢;cases hs:fK ab y with
 |none=>simp[hs,cW]at aN
 |some ys=>
  simp only[hs]at aN⊢;have hyw:∀b o,bw w (WW W ab L) i.size b o ys->∃vs,vs.length=ys.length*i.size/\dt w (WW W ab L) ys.flatten vs/\∀j v,vs[j]? =some v->w.cell? ⟨b,o+j,none⟩=some v:=λb o h=>bw.flatten h;cases x with
  |aZ=>
   simp only at aN⊢;have nK:=hx;simp only[aD]at nK;obtain⟨a,rfl⟩:=nK;obtain⟨v',w',vs,bO,Bc,qN,mu,vx,Qi,LZ⟩:=oR (n:=0) (xs:=[]) ht hi hz rfl XS (.inl ⟨rfl,rfl,a,rfl⟩) (ty:=ty) (qr hO hy hs aN.1) hyw (by simpa using aN.2);have wg:bk (.slice a 0 0)=none:=by cases a<;>simp[bk]
   have:=wh hO (r:=name) (bG:=0) (bM:=0) (adY:=[]) (aC:=[]) (ys:=ys) jc (by simpa using aN.1) (.inl ⟨eO,rfl,wg⟩) (xs:=[]) (by simp[dt]) Bc (by simpa using mu) vx Qi LZ;refine⟨v',w',_,bO,by simpa using this.1,by simpa using this.2, ?_⟩;simp only[aD];refine⟨?_,0,e,i.size,ys,by simp[cC],gJ _,λ_=>by simp[Loc.jP]⟩;rcases mu with⟨_,a,rfl⟩|⟨g,cap,eJ,rfl,_⟩<;>exact⟨_,_,_,rfl⟩
  |aW r bG=>
   cases ho:ab r with
   |none=>simp[ho,cW]at aN
   |some o=>
    cases o with
    |box cs=>simp[ho,cW]at aN
    |bm bM e' jt aC=>
     simp only[ho]at aN⊢;obtain⟨rfl,rfl,rfl,hl,xx⟩:=aN;have nK:=hx;simp only[aD]at nK;obtain⟨_,pW,e2,EZ,lZ,po,_,nk⟩:=nK;rw[ho]at po;cases po;have hv:=nk rfl;have eH:=hO.ob r _ ho;obtain⟨_,cK,hm,mE⟩:=eH;have iW:∃xs,dt w (WW W ab L) aC.flatten xs/\((aC.length=0/\xs=[]/\∃a:Option Addr,xv=.slice a 0 0)\/∃g cap eJ,xv=.slice (some ⟨g,0,none⟩) aC.length cap/\0<cap/\w.heap[g]? =some (.cells eJ e' (0,0))/\aC.length<=cap/\cap<=maxLen/\eJ.size=cap*i.size/\eJ.toList.take (aC.length*i.size)=xs):=by
      rcases mE with⟨rfl,a,ha⟩|⟨g,cap,eJ,h1,h2,h3,h4,h5,h6,h7⟩
      .exact⟨[],by simp[dt],.inl ⟨rfl,rfl,a,by rw[hv,ha]⟩⟩
      .exact⟨_,h7,.inr ⟨g,cap,eJ,by rw[hv,h1],h2,h3,h4,h5,h6,rfl⟩⟩
     obtain⟨xs,Ih,iW⟩:=iW;obtain⟨v',w',vs,bO,Bc,qN,mu,vx,Qi,LZ⟩:=oR ht hi hz rfl XS iW (ty:=ty) (qr hO hy hs hl) hyw xx;have:=wh hO (r:=r) (bG:=bG) (bM:=bG+1) (aC:=aC) (ys:=ys) jc (λx hx=>(lF.1 hx).elim (cK x) (hl x)) (.inr ⟨ho,by rw[hv],by omega⟩) Ih Bc mu vx Qi LZ;refine⟨v',w',_,bO,this.1,this.2, ?_⟩;simp only[aD];refine⟨?_,bG+1,e',i.size,aC++ys,by simp[cC],gJ _,λ_=>by simp[Loc.jP]⟩;rcases mu with⟨_,a,rfl⟩|⟨g,cap,eJ,rfl,_⟩<;>exact⟨_,_,_,rfl⟩
    |_=>simp[ho,cW]at aN
  |v7 r bG lo n=>
   cases lo with
   |succ lo=>simp[cW]at aN
   |zero=>
   cases ho:ab r with
   |none=>simp[ho,cW]at aN
   |some o=>
    cases o with
    |bm bM e' jt aC=>
     simp only[ho]at aN⊢;obtain⟨rfl,rfl,rfl,hl,xx⟩:=aN;have nK:=hx;simp only[aD]at nK;obtain⟨_,pW,e2,EZ,lZ,po,_,nk⟩:=nK;rw[ho]at po;cases po;obtain⟨hln,p,Us,p2,xw,rfl,Un⟩:=nk rfl;have eH:=hO.ob r _ ho;obtain⟨_,cK,hm,mE⟩:=eH;have mq:(aC.take n).length=n:=by rw[Ee];omega
     have wg:bk (L.sl r)=bk (.slice p2 n (Us-0)):=by
      rw[xw];simp only[ZcG];by_cases Er:Us=0
      .subst Er;cases p<;>cases p2<;>simp[bk]
      .have:=Un (by omega);subst this;cases p with
       |none=>simp[bk]
       |some a=>
        obtain⟨b,o,ix⟩:=a;cases ix<;>simp[bk,Er,Addr.add]
     have iW:∃xs,dt w (WW W ab L) (aC.take n).flatten xs/\((n=0/\xs=[]/\∃a:Option Addr,Value.slice p2 n (Us-0)=.slice a 0 0)\/∃g cap eJ,Value.slice p2 n (Us-0)=.slice (some ⟨g,0,none⟩) n cap/\0<cap/\w.heap[g]? =some (.cells eJ e' (0,0))/\n<=cap/\cap<=maxLen/\eJ.size=cap*i.size/\eJ.toList.take (n*i.size)=xs):=by
      rcases mE with⟨rfl,a,ha⟩|⟨g,cap,eJ,h1,h2,h3,h4,h5,h6,h7⟩
      .rw[xw]at ha;simp only[Value.slice.injEq]at ha;obtain⟨_,_,rfl⟩:=ha;have:n=0:=by simp at hln;omega
       subst this;exact⟨[],by simp[dt],.inl ⟨rfl,rfl,p2,rfl⟩⟩
      .rw[xw]at h1;simp only[Value.slice.injEq]at h1;obtain⟨rfl,_,rfl⟩:=h1;have:=Un h2;subst this;refine⟨_, ?_,.inr ⟨g,Us,eJ,by simp[mY],h2,h3,by omega,h5,h6,rfl⟩⟩;have e1:(aC.take n).flatten=aC.flatten.take (n*i.size):=by
        have h8:aC.flatten=(aC.take n).flatten++(aC.drop n).flatten:=by rw[<-List.flatten_append,Ek]
        rw[h8,ZdB (by rw[tP (sz:=i.size) (λr hr=>cK r (yS hr)),mq])]
       have e2:eJ.toList.take (n*i.size)=(eJ.toList.take (aC.length*i.size)).take (n*i.size):=by
        rw[Zdq];congr 1;have:=Ec i.size (show n<=aC.length by omega);omega
       rw[e1,e2];exact dt.take _ h7
     obtain⟨xs,Ih,iW⟩:=iW;obtain⟨v',w',vs,bO,Bc,qN,mu,vx,Qi,LZ⟩:=oR ht hi hz rfl XS iW (ty:=ty) (qr hO hy hs hl) hyw xx;have:=wh hO (r:=r) (bG:=bG) (bM:=bG+1) (aC:=aC.take n) (ys:=ys) jc (λx hx=>(lF.1 hx).elim (λh=>cK x (yS h)) (hl x)) (.inr ⟨ho,wg,by omega⟩) Ih Bc (by rw[mq];exact mu) vx Qi LZ;refine⟨v',w',_,bO,this.1,this.2, ?_⟩;simp only[aD];refine⟨?_,bG+1,e',i.size,aC.take n++ys,by simp[cC],gJ _,λ_=>by simp[Loc.jP]⟩;rcases mu with⟨_,a,rfl⟩|⟨g,cap,eJ,rfl,_⟩<;>exact⟨_,_,_,rfl⟩
    |_=>simp[ho,cW]at aN
  |_=>simp[cW]at aN
def L6(hO:ci base W M w0 ab w L){t:TypeId}{i:TypeInfo}(ht:P.underlying t=some (.slice e0))(hi:P.info? e0=some i)
  {x y:DV} (hx:aD w W ab L x xv) (hy:aD w W ab L y yv) (aN:(kb i.size ab x y).ok):
  ∃v w',(Builtin.copy_ #[t,t'] ty #[xv,yv]).run P w=.ok v w'/\ci base W M w0 (cC ab (kb i.size ab x y).put) w' L/\
   jA W ab L w (cC ab (kb i.size ab x y).put) L w'/\aD w' W (cC ab (kb i.size ab x y).put) L (kb i.size ab x y).val v:=by
 unfold kb at aN⊢;cases hs:fK ab y with
 |none=>simp[hs,cW]at aN
 |some ys=>
  simp only[hs]at aN⊢;cases x with
  |aW r bG=>
   cases ho:ab r with
   |none=>simp[ho,cW]at aN
   |some o=>
    cases o with
    |bm bM e jt aC=>
     simp only[ho]at aN⊢;obtain⟨rfl,rfl,hl⟩:=aN;simp only[aD]at hx;obtain⟨_,pW,e2,EZ,lZ,po,_,nk⟩:=hx;rw[ho]at po;cases po;have hv:=nk rfl;subst hv;have hd:(aC.length=0/\∃(a:Option Addr) (c:Nat),L.sl r=.slice a 0 c)\/∃g c,bk (L.sl r)=some g/\L.sl r=.slice (some ⟨g,0*i.size,none⟩) aC.length c:=by
      obtain⟨_,_,_,mE⟩:=hO.ob r _ ho;rcases mE with⟨rfl,a,ha⟩|⟨g,cap,eJ,h1,h2,_⟩
      .exact .inl ⟨rfl,a,0,ha⟩
      .exact .inr ⟨g,cap,by rw[h1];simp[bk,Et.1 h2],by rw[h1,ZcH]⟩
     obtain⟨w',h1,h2,h3⟩:=E3 hO ht hi (t':=t') (ty:=ty) ho (lo:=0) (n:=aC.length) (by omega) hd (qr hO hy hs hl) hl;exact⟨_,w',h1,h2,h3,by simp[aD,be,goInt]⟩
    |_=>simp[ho,cW]at aN
  |v7 r bG lo n=>
   cases ho:ab r with
   |none=>simp[ho,cW]at aN
   |some o=>
    cases o with
    |bm bM e jt aC=>
     simp only[ho]at aN⊢;obtain⟨rfl,rfl,hl⟩:=aN;simp only[aD]at hx;obtain⟨_,pW,e2,EZ,lZ,po,_,nk⟩:=hx;rw[ho]at po;cases po;have hv:=nk rfl;have hd:(n=0/\∃(a:Option Addr) (c:Nat),xv=.slice a 0 c)\/∃g c,bk (L.sl r)=some g/\xv=.slice (some ⟨g,lo*i.size,none⟩) n c:=by
      rcases tO hO ho hv with h|⟨g,c,h1,h2,_⟩
      .exact .inl h
      .exact .inr ⟨g,c,h1,h2⟩
     obtain⟨w',h1,h2,h3⟩:=E3 hO ht hi (t':=t') (ty:=ty) ho hv.1 hd (qr hO hy hs hl) hl;exact⟨_,w',h1,h2,h3,by simp[aD,be,goInt]⟩
    |_=>simp[ho,cW]at aN
  |_=>simp[cW]at aN
def jQ{α:Type}(l:List α):∀(n j:Nat),j<n*l.length->(List.replicate n l).flatten[j]? =l[j % l.length]?
 |0,j,h=>by simp at h
 |n+1,j,h=>by
  simp only[Q5,Th];by_cases hj:j<l.length
  .rw[ZbM hj,Zda hj]
  .rw[ZbI (by omega),jQ l n (j-l.length) (by rw[Fb]at h;omega)];rw[Nat.mod_eq_sub_mod (a:=j) (by omega)]
def xy(z:Array Value)(n:Nat):(madeCells z (n*z.size)).toList=(List.replicate n z.toList).flatten:=by
 apply Zb0;intro j;by_cases hj:j<n*z.size
 .have hz:0<z.size:=by
   rcases Zc1 z.size with h|h
   .rw[h]at hj;simp at hj
   .exact h
  rw[jQ z.toList n j (by simpa using hj)];have hm:=Nat.mod_lt j hz;simp[madeCells,hj,hm]
 .rw[Ls (by simp[size_madeCells];omega),Ls (by simp;omega)]
def tQ{zero:aG}{zs:List Value}(h:dt w W zero zs):∀n,dt w W (List.replicate n zero).flatten (List.replicate n zs).flatten
 |0=>by simp[dt]
 |n+1=>by simpa [Q5]using dt.append h (tQ h n)
def aal(hO:ci base W M w0 ab w L)(hr:ab r=none){e:Nat}(jc:0<sz)(qU:∀x∈aC,x.length=sz){c:Array Value}(mZ:c.size=aC.length*sz)
  (hc:dt w (WW W ab L) aC.flatten c.toList) (atK:aC.length<=maxLen):
  ci base W M w0 (cC ab (some (r,.bm 0 e sz aC))) (w.alloc (.cells c e)) (L.jP r (.slice (some ⟨w.heap.size,0,none⟩) aC.length aC.length))/\
   jA W ab L w (cC ab (some (r,.bm 0 e sz aC))) (L.jP r (.slice (some ⟨w.heap.size,0,none⟩) aC.length aC.length)) (w.alloc (.cells c e)):=by
 have hb:=ln (w:=w) (.cells c e);refine ci.put hO (xu hO.fr hb) hb.size (λx hx=>⟨rfl,by simp[Loc.jP,hx]⟩) rfl (λb cQ _=>hb.block b cQ) (λb h=>.inr ?_)
  (λo' h _=>by rw[hr]at h;cases h) (λ_ _ _ _ h=>by rw[hr]at h;cases h) (λgq=>?_)
 .simp only[Loc.own,Loc.jP,Eg,bk]at h;split at h
  .cases h
  .simp only[cq]at h;omega
 .refine⟨jc,qU,λg hg=>?_, ?_⟩
  .simp only[Loc.jP,Eg,bk]at hg;split at hg
   .cases hg
   .simp only[cq]at hg;subst hg;exact .inl (zN hO.fr.jN hO.fr.size)
  .simp only[Loc.jP,Eg];by_cases h0:aC.length=0
   .refine .inl ⟨oK h0,some ⟨w.heap.size,0,none⟩,by rw[h0]⟩
   .refine .inr ⟨w.heap.size,aC.length,c,rfl,by omega,heap_alloc_new w _,gJ _,atK,mZ, ?_⟩;rw[Lz (by simp[mZ])];exact dt.aL gq.cL.toKeepsC gq.sub _ _ hc
def B7(hO:ci base W M w0 ab w L){t e:TypeId}{i:TypeInfo}(ht:P.underlying t=some (.slice e))(hi:P.info? e=some i)(hz:i.zero=some z)(jc:0<i.size)
   (tR:z.cells.toList.mapM rC=some zero) (eO:ab name=none) {x:DV} (hx:aD w W ab L x xv) (aN:(lW e i.size i.bytes zero name x).ok):
  ∃v w' L',(Instr.makeSlice t xv xv).run P w=.ok v w'/\ci base W M w0 (cC ab (lW e i.size i.bytes zero name x).put) w' L'/\
   jA W ab L w (cC ab (lW e i.size i.bytes zero name x).put) L' w'/\aD w' W (cC ab (lW e i.size i.bytes zero name x).put) L' (lW e i.size i.bytes zero name x).val v:=by
 cases x with
 |v t'=>
  cases t' with
  |int k n=>
   simp only[aD,be]at hx;subst hx;simp only[lW]at aN⊢;obtain⟨h0,Ut,hb,hm⟩:=aN;have hzz:=sF (w:=w) (W:=WW W ab L) tR;have XS:z.cells.size=i.size:=by have:=dt.length hzz;simpa [Ut]using this
   have hbi:(i.bytes:Int)*n<=281474976710656:=by
    have e:(i.bytes:Int)*n=((n.toNat*i.bytes:Nat):Int):=by
     rw[Int.natCast_mul,Zcl h0,Int.mul_comm]
    rw[e];omega
   have bO:=run_make (P:=P) w t e i z ht hi hz k k n n h0 (Tg _) hbi (by omega);have hc:(madeCells z.cells (n.toNat*i.size)).toList=(List.replicate n.toNat z.cells.toList).flatten:=by rw[<-XS];exact xy _ _
   have:=aal hO (e:=e) eO (aC:=List.replicate n.toNat zero) jc (λx hx=>by rw[Zce hx];exact Ut) (c:=madeCells z.cells (n.toNat*i.size)) (by simp[size_madeCells]) (by rw[hc];exact tQ hzz _) (by simp only[ZbW,maxLen];omega);simp only[ZbW]at this;refine⟨_,_,_,bO,this.1,this.2, ?_⟩;simp only[aD];exact⟨⟨_,_,_,rfl⟩,0,e,i.size,List.replicate n.toNat zero,by simp[cC],gJ _,λ_=>by simp[Loc.jP]⟩
  |_=>simp[lW,cW]at aN
 |_=>simp[lW,cW]at aN
def L8{ts:aG}:∀{zs:List Value},zs.mapM rC=some ts->aU w W ab L (ts.map EY) zs:=by
 induction ts with
 |nil=>
  intro zs h;cases zs with
  |nil=>simp[aU]
  |cons z zs=>simp[Zbw,jE]at h
 |cons t ts ih=>
  intro zs h;cases zs with
  |nil=>simp at h
  |cons z zs=>
   simp only[Zbw,vj,kw,jE,cq,Gf]at h;obtain⟨t',ht,ts',xz,rfl,rfl⟩:=h;simp only[vG,aU];have hr:=B4 (w:=w) (W:=WW W ab L) ht;refine⟨z,zs,rfl,hr.2.1, ?_,ih xz⟩;unfold EY;split
   .unfold rC at ht;split at ht<;>first|(cases ht;done)|skip
    all_goals first
     |(simp only[aD];exact⟨_,rfl⟩)
     |(cases ht)
   .simp only[aD];exact hr.1
def sH{zero:bW}{zs:List Value}(h:aU w W ab L zero zs):∀n,aU w W ab L (List.replicate n zero).flatten (List.replicate n zs).flatten
 |0=>by simp[aU]
 |n+1=>by simpa [Q5]using aU.append h (sH h n)
def z7(hO:ci base W M w0 ab w L){t e:TypeId}{i:TypeInfo}(ht:P.underlying t=some (.slice e))(hi:P.info? e=some i)(hz:i.zero=some z)
   (tR:z.cells.toList.mapM rC=some zero) (eO:ab name=none) {x:DV} (hx:aD w W ab L x xv) (aN:(gj i.size i.bytes zero name x).ok):
  ∃v w' L',(Instr.makeSlice t xv xv).run P w=.ok v w'/\ci base W M w0 (cC ab (gj i.size i.bytes zero name x).put) w' L'/\
   jA W ab L w (cC ab (gj i.size i.bytes zero name x).put) L' w'/\aD w' W (cC ab (gj i.size i.bytes zero name x).put) L' (gj i.size i.bytes zero name x).val v:=by
 cases x with
 |v t'=>
  cases t' with
  |int k n=>
   simp only[aD,be]at hx;subst hx;simp only[gj]at aN⊢;obtain⟨h0,Ut,hb,hm⟩:=aN;have hzz:=L8 (w:=w) (W:=W) (ab:=ab) (L:=L) tR;have XS:z.cells.size=i.size:=by have:=aU.length hzz;simpa [Ut]using this
   have hbi:(i.bytes:Int)*n<=281474976710656:=by
    have e:(i.bytes:Int)*n=((n.toNat*i.bytes:Nat):Int):=by
     rw[Int.natCast_mul,Zcl h0,Int.mul_comm]
    rw[e];omega
   have bO:=run_make (P:=P) w t e i z ht hi hz k k n n h0 (Tg _) hbi (by omega);have hc:(madeCells z.cells (n.toNat*i.size)).toList=(List.replicate n.toNat z.cells.toList).flatten:=by rw[<-XS];exact xy _ _
   have:=Gz hO eO (c:=madeCells z.cells (n.toNat*i.size)) e (cs:=(List.replicate n.toNat (zero.map EY)).flatten) (by rw[hc];exact sH hzz _);refine⟨_,_,_,bO,this.1,this.2, ?_⟩;simp only[aD];exact⟨⟨(List.replicate n.toNat (zero.map EY)).flatten,by simp[cC]⟩,by simp[Loc.gX]⟩
  |_=>simp[gj,cW]at aN
 |_=>simp[gj,cW]at aN
end
end
end Go.DM
namespace Go.DM
open Go.RowKit
variable [bD]
section
def iX(P:Program)(rec:TypeId->Option (List Sh))(off:Nat):List Field->Option (List Sh)
 |[]=>some []
 |f::fs=>
  match rec f.type,P.info? f.type with
  |some s,some i=>if f.name≠ "_" /\f.offset=off/\s.length=i.size then(iX P rec (off+s.length) fs).map (s++·)else none
  |_,_=>none
def lH(P:Program):Nat->TypeId->Option (List Sh)
 |0,_=>none
 |d+1,t=>
  match P.underlying t with
  |some .bool=>some [.bool]
  |some (.int k)=>some [.int k]
  |some .string=>some [.str]
  |some (.struct fs)=>if P.stoodInHeld t then none else iX P (lH P d) 0 fs.toList
  |some (.array n e)=>
   match lH P d e,P.info? e with
   |some s,some i=>if s.length=i.size/\0<i.size then some ((List.replicate n s).flatten)else none
   |_,_=>none
  |_=>none
def Ik:Sh->Value->Bool
 |.bool,.bool _=>true
 |.int k,.int k' _=>k==k'
 |.str,.string _=>true
 |_,_=>false
def f9:List Sh->List Value->Prop
 |[],vs=>vs=[]
 |s::ss,vs=>∃v jz,vs=v::jz/\Ik s v=true/\f9 ss jz
def veq:Value->Value->Bool
 |.bool a,.bool b=>a==b
 |.int _ a,.int _ b=>a==b
 |.string a,.string b=>a.toList==b.toList
 |_,_=>false
def mP:List Value->List Value->Bool
 |[],[]=>true
 |a::as,b::bs=>veq a b&&mP as bs
 |_,_=>false
def f9.length:∀{ss:List Sh} {vs:List Value},f9 ss vs->vs.length=ss.length
 |[],_,h=>by simp only[f9]at h;simp[h]
 |_::ss,_,h=>by
  simp only[f9]at h;obtain⟨v,jz,rfl,_,h⟩:=h;simp[f9.length h]
def f9.split:∀{s1 s2:List Sh} {vs:List Value},f9 (s1++s2) vs->f9 s1 (vs.take s1.length)/\f9 s2 (vs.drop s1.length)
 |[],s2,vs,h=>by simpa [f9]using h
 |s::s1,s2,vs,h=>by
  simp only[IW,f9]at h;obtain⟨v,jz,rfl,h1,h⟩:=h;have:=f9.split h;simp only[B8,Zck,Zdm,f9];exact⟨⟨v,_,rfl,h1,this.1⟩,this.2⟩
def tS:∀{a b c d:List Value},a.length=c.length->mP (a++b) (c++d)=(mP a c&&mP b d)
 |[],b,[],d,_=>by simp[mP]
 |x::a,b,[],d,h=>by simp at h
 |[],b,y::c,d,h=>by simp at h
 |x::a,b,y::c,d,h=>by
  simp only[IW,mP];rw[tS (by simpa using h),Bool.and_assoc]
def yA(d:TypeDesc)(vs:List Value):Value:=if bU d then .agg vs.toArray else vs.getD 0 Go.undef
section
variable{P:Program}
def yw(w:World){t:TypeId}{d:TypeDesc}{i:TypeInfo}(hd:P.underlying t=some d)(hi:P.info? t=some i){xs:List Value}{off:Nat}(h1:bU d=true\/i.size=1)(hl:off+i.size<=xs.length):
  (part t xs.toArray off).run P w=.ok (yA d ((xs.drop off).take i.size)) w:=by
 have OR:(isAgg t).run P w=.ok (bU d) w:=by rw[E0 hd];cases d<;>rfl
 simp only[part,Sem.run_bind,OR,Result.andThen_ok];by_cases ha:bU d=true
 .simp only[ha,Eg,Sem.run_bind,run_sizeOf hi,Result.andThen_ok,Sem.run_pure,yA]
  congr 3
  simp only[List.extract_toArray,List.extract_eq_take_drop]
  congr 2
  omega
 .have h2:=h1.resolve_left ha;have cQ:off<xs.length:=by omega
  simp only[ha,yA,h2];simp[cQ]
def Be{d:Nat}{t:TypeId}{bZ:List Sh}(h:lH P (d+1) t=some bZ):∃desc,P.underlying t=some desc/\(bU desc=true\/bZ.length=1):=by
 simp only[lH]at h;split at h
 .rename_i hu;exact⟨_,hu,.inr (by simp at h;simp[<-h])⟩
 .rename_i hu;exact⟨_,hu,.inr (by simp at h;simp[<-h])⟩
 .rename_i hu;exact⟨_,hu,.inr (by simp at h;simp[<-h])⟩
 .rename_i hu;exact⟨_,hu,.inl rfl⟩
 .rename_i hu;exact⟨_,hu,.inl rfl⟩
 .cases h
def Uu{d:Nat}{e:TypeId}{de:TypeDesc}{s:List Sh}{i:TypeInfo}(hd:P.underlying e=some de)(hi:P.info? e=some i)(h1:bU de=true\/i.size=1)(hs:s.length=i.size)(Uv:0<i.size)
  (ih:∀(xs ys:List Value) (w:World),f9 s xs->f9 s ys->(Op.equalIn d e (yA de xs) (yA de ys)).run P w=.ok (mP xs ys) w) (xs ys:List Value):
  ∀(n k:Nat) (w:World),f9 ((List.replicate n s).flatten) (xs.drop (k*i.size))->f9 ((List.replicate n s).flatten) (ys.drop (k*i.size))->
   (forIn (List.range' k n) (none,()) (λj (_:Option Bool×Unit)=>do
     let a<-part e xs.toArray (j*i.size)
     let b<-part e ys.toArray (j*i.size)
     let r<-Op.equalIn d e a b
     if(!r)=true then pure (ForInStep.done (some false,()))else pure (ForInStep.yield (none,()))):Sem (Option Bool×Unit)).run P w=
    .ok (if mP (xs.drop (k*i.size)) (ys.drop (k*i.size))then(none,())else(some false,())) w
 |0,k,w,hx,hy=>by
  simp only[List.replicate_zero,List.flatten_nil,f9]at hx hy;simp[hx,hy,mP]
 |n+1,k,w,hx,hy=>by
  simp only[Q5,Th]at hx hy;have wX:=f9.length hx;have sZ:=f9.length hy;simp only[nH,OJ]at wX sZ;obtain⟨GC,xA⟩:=f9.split hx;obtain⟨vy,fI⟩:=f9.split hy;have e2:k*i.size+s.length=(k+1)*i.size:=by rw[Fb,hs];omega
  rw[ZcI,e2]at xA fI;have Kv:0<i.size:=Uv;have p1:=λw=>yw (P:=P) w hd hi (xs:=xs) (off:=k*i.size) h1 (by omega);have p2:=λw=>yw (P:=P) w hd hi (xs:=ys) (off:=k*i.size) h1 (by omega);rw[hs]at GC vy;have hr:=ih _ _ w GC vy;have L9:mP (xs.drop (k*i.size)) (ys.drop (k*i.size))=(mP ((xs.drop (k*i.size)).take i.size) ((ys.drop (k*i.size)).take i.size)&&mP (xs.drop ((k+1)*i.size)) (ys.drop ((k+1)*i.size))):=by
   have a1:xs.drop (k*i.size)=(xs.drop (k*i.size)).take i.size++xs.drop ((k+1)*i.size):=by
    rw[<-e2,hs,<-List.drop_drop,Ek]
   have a2:ys.drop (k*i.size)=(ys.drop (k*i.size)).take i.size++ys.drop ((k+1)*i.size):=by
    rw[<-e2,hs,<-List.drop_drop,Ek]
   rw[a1,a2,tS (by simp;omega)];rw[<-a1,<-a2]
  simp only[Zdz,Zde,Sem.run_bind,p1,p2,Result.andThen_ok,hr];rw[L9];cases hb:mP ((xs.drop (k*i.size)).take i.size) ((ys.drop (k*i.size)).take i.size)
  .simp
  .have:=Uu hd hi h1 hs Uv ih xs ys n (k+1) w xA fI;simp only[ZcT,Ig,A0,Sem.run_pure,Result.andThen_ok,Zc8];exact this
def E4{d:Nat}(ih:∀(t:TypeId) (bZ:List Sh) (desc:TypeDesc),lH P d t=some bZ->P.underlying t=some desc->∀(xs ys:List Value) (w:World),f9 bZ xs->f9 bZ ys->(Op.equalIn d t (yA desc xs) (yA desc ys)).run P w=.ok (mP xs ys) w)
  (I1:∀(t:TypeId) (bZ:List Sh),lH P d t=some bZ->∃desc,P.underlying t=some desc/\(bU desc=true\/bZ.length=1)) (xs ys:List Value):
  ∀(fs:List Field) (off:Nat) (bZ:List Sh) (w:World),iX P (lH P d) off fs=some bZ->f9 bZ (xs.drop off)->f9 bZ (ys.drop off)->off<=xs.length->off<=ys.length->
   (Op.eqFields d xs.toArray ys.toArray fs).run P w=.ok (mP (xs.drop off) (ys.drop off)) w
 |[],off,bZ,w,h,hx,hy,_,_=>by
  simp only[iX,cq]at h;subst h;simp only[f9]at hx hy;simp[Op.eqFields,hx,hy,mP]
 |f::fs,off,bZ,w,h,hx,hy,hox,hoy=>by
  simp only[iX]at h;split at h
  .rename_i s i hs hi;split at h
   .rename_i hc;obtain⟨hn,rfl,jc⟩:=hc;simp only[ju]at h;obtain⟨rest,vK,rfl⟩:=h;obtain⟨desc,hd,h1⟩:=I1 _ _ hs;have wX:=f9.length hx;have sZ:=f9.length hy;simp only[nH,OJ]at wX sZ;obtain⟨GC,xA⟩:=f9.split hx;obtain⟨vy,fI⟩:=f9.split hy;rw[ZcI]at xA fI;rw[jc]at h1;have p1:=λw=>yw (P:=P) w hd hi (xs:=xs) (off:=f.offset) h1 (by omega);have p2:=λw=>yw (P:=P) w hd hi (xs:=ys) (off:=f.offset) h1 (by omega);have hr:=ih _ _ _ hs hd _ _ w GC vy;rw[jc]at hr;have L9:mP (xs.drop f.offset) (ys.drop f.offset)=(mP ((xs.drop f.offset).take i.size) ((ys.drop f.offset).take i.size)&&mP (xs.drop (f.offset+s.length)) (ys.drop (f.offset+s.length))):=by
     have a1:xs.drop f.offset=(xs.drop f.offset).take i.size++xs.drop (f.offset+s.length):=by rw[jc,<-List.drop_drop,Ek]
     have a2:ys.drop f.offset=(ys.drop f.offset).take i.size++ys.drop (f.offset+s.length):=by rw[jc,<-List.drop_drop,Ek]
     rw[a1,a2,tS (by simp;omega)];rw[<-a1,<-a2]
    simp only[Op.eqFields,hn,ne_eq,not_false_eq_true,Eg,Sem.run_bind,p1,p2,Result.andThen_ok,hr];rw[L9];cases hb:mP ((xs.drop f.offset).take i.size) ((ys.drop f.offset).take i.size)
    .simp
    .simp only[ZcT,Ig,A0,Zc8];exact E4 ih I1 xs ys fs _ rest w vK xA fI (by omega) (by omega)
   .cases h
  .cases h
def rD:∀(d:Nat) (t:TypeId) (bZ:List Sh) (desc:TypeDesc),lH P d t=some bZ->P.underlying t=some desc->∀(xs ys:List Value) (w:World),f9 bZ xs->f9 bZ ys->
  (Op.equalIn d t (yA desc xs) (yA desc ys)).run P w=.ok (mP xs ys) w
 |0,t,bZ,desc,h,_,_,_,_,_,_=>by simp[lH]at h
 |d+1,t,bZ,desc,h,hu,xs,ys,w,hx,hy=>by
  simp only[lH,hu]at h;have one:∀{s:Sh} {zs:List Value},f9 [s] zs->∃v,zs=[v]/\Ik s v=true:=by
   intro s zs hz;simp only[f9]at hz;obtain⟨v,jz,rfl,h1,rfl⟩:=hz;exact⟨v,rfl,h1⟩
  cases desc;case bool=>
   simp only[cq]at h;subst h;obtain⟨x,rfl,gx⟩:=one hx;obtain⟨y,rfl,gy⟩:=one hy;cases x<;>first|exact qe gx A1|skip
   cases y<;>first|exact qe gy A1|skip
   simp[yA,bU,mP,veq,Op.equalIn,run_underlying hu]
  case int k=>
   simp only[cq]at h;subst h;obtain⟨x,rfl,gx⟩:=one hx;obtain⟨y,rfl,gy⟩:=one hy;cases x<;>first|exact qe gx A1|skip
   simp only[Ik,Zcu]at gx;cases y<;>first|exact qe gy A1|skip
   simp only[Ik,Zcu]at gy;subst gx gy;simp[yA,bU,mP,veq,Op.equalIn,run_underlying hu]
  case string=>
   simp only[cq]at h;subst h;obtain⟨x,rfl,gx⟩:=one hx;obtain⟨y,rfl,gy⟩:=one hy;cases x<;>first|exact qe gx A1|skip
   cases y<;>first|exact qe gy A1|skip
   simp[yA,bU,mP,veq,Op.equalIn,run_underlying hu,beq_toListBytes]
  case struct fs=>
   replace h:(if P.stoodInHeld t then none else iX P (lH P d) 0 fs.toList)=some bZ:=h
   split at h
   .cases h
   .rename_i hp;have hfo:P.fieldsOf t=fs:=by simp[Program.fieldsOf,hu]
    simp only[yA,bU,Eg];rw[run_equalIn_struct w d t _ _ (by rw[hfo];exact hu) (by simpa using hp),hfo];have:=E4 (λt bZ desc=>rD d t bZ desc) (λt bZ hs=>by
     cases d with
     |zero=>simp[lH]at hs
     |succ d=>exact Be hs) xs ys fs.toList 0 bZ w h (by simpa using hx) (by simpa using hy) (by omega) (by omega)
    simpa using this
  case array n e=>
   replace h:(match lH P d e,P.info? e with
    |some s,some i=>if s.length=i.size/\0<i.size then some ((List.replicate n s).flatten)else none
    |_,_=>none)=some bZ:=h
   split at h
   .rename_i s i hs hi;split at h
    .rename_i hc;simp only[cq]at h;subst h;have hde:∃desc,P.underlying e=some desc/\(bU desc=true\/s.length=1):=by
      cases d with
      |zero=>simp[lH]at hs
      |succ d=>exact Be hs
     obtain⟨de,hd,h1⟩:=hde;rw[hc.1]at h1;have:=Uu hd hi h1 hc.1 hc.2 (λxs ys w=>rD d e s de hs hd xs ys w) xs ys n 0 w (by simpa using hx) (by simpa using hy);simp only[yA,bU,Eg,Op.equalIn,Sem.run_bind,run_underlying hu,Result.andThen_ok,run_sizeOf hi,Std.Legacy.Range.forIn_eq_forIn_range',Std.Legacy.Range.size,ZcG,ZcZ,Nat.div_one];simp only[ZcH,ZcJ]at this;refine(congrArg (λr=>Result.andThen r _) this).trans ?_;cases mP xs ys<;>rfl
    .cases h
   .cases h
  all_goals exact qe h (by simp)
end
end
section
def rE(l:List (Nat×Operand))(OT:Nat->Option (Nat×Nat)):Option (List (Nat×Nat×bK)):=
 l.mapM λp=>do
  let q<-OT p.1
  let x<-bK.of p.2
  pure (q.1,q.2,x)
def B9(P:Program)(t:TypeId):Option (Nat->Option (Nat×Nat)):=
 match P.underlying t with
 |some (.struct Uw)=>(Uw.toList.mapM λf=>(P.info? f.type).map λi=>(f.offset,i.size)).map λpl k=>pl[k]?
 |some (.array _ e)=>(P.info? e).map λie k=>some (k*ie.size,ie.size)
 |_=>none
def Ca:Option Operand->Option (Option bK)
 |none=>some none
 |some x=>(bK.of x).map some
def xB:TypeDesc->bK->Option Nat
 |.slice _,.wW .aZ=>some 0
 |.pointer _,.wW (.v (.tf (.pointer none)))=>some 1
 |.func _ _ _,.wW (.v (.tf .nilFunc))=>some 2
 |_,_=>none
def iu(P:Program)(k:TypeId):Option (List Sh×Bool):=
 match P.underlying k,lH P 10000 k with
 |some d,some s=>some (s,bU d)
 |_,_=>none
def E5(P:Program)(e:TypeId):Option DV:=do
 let i<-P.info? e
 let z<-i.zero
 match z with
 |.agg cs=>(cs.toList.mapM vm).map .agg
 |z=>vm z
def mQ(P:Program)(op:BinOp)(t:TypeId)(x y:bK):Option qO:=
 match P.underlying t with
 |some (.int _)=>match op with
  |.add|.sub|.mul|.quo|.rem|.eql|.neq|.lss|.leq|.gtr|.geq|.shl|.shr|.and|.or|.xor=>some (.bin op x y)
  |_=>none
 |some d=>match op,lH P 10000 t with
  |.eql,some bZ=>if P.eqGuardType P.depth t then none else some (.eqT false (bU d) bZ x y)
  |.neq,some bZ=>if P.eqGuardType P.depth t then none else some (.eqT true (bU d) bZ x y)
  |.eql,none=>(xB d y).map λk=>.isNil k false x
  |.neq,none=>(xB d y).map λk=>.isNil k true x
  |_,_=>none
 |none=>none
def eB(P:Program)(c:Call):Option qO:=
 match c.callee with
 |.value (.func f)=>match P.funcs[f]? with
  |some fn=>if fn.name= "runtime.NumGoroutine" \/fn.body.isNone then none else(c.args.toList.mapM bK.of).map (.call f)
  |none=>none
 |.value (.tmp t)=>(c.args.toList.mapM bK.of).map (.callv (.tmp t))
 |.builtin .len=>match c.args.toList,c.argTypes.toList with
  |[x],[t]=>match P.underlying t with
   |some (.slice _)=>(bK.of x).map .len
   |some .string=>(bK.of x).map .lenS
   |some (.map _ _)=>(bK.of x).map .lenM
   |_=>none
  |_,_=>none
 |.builtin .copy=>match c.args.toList,c.argTypes.toList with
  |[x,y],[t,_]=>match P.underlying t with
   |some (.slice e)=>match P.info? e with
    |some i=>do return .copy i.size (<-bK.of x) (<-bK.of y)
    |none=>none
   |_=>none
  |_,_=>none
 |.builtin .delete=>match c.args.toList,c.argTypes.toList with
  |[x,k],t::_=>match P.underlying t with
   |some (.map kt _)=>match iu P kt with
    |some ki=>do return .mapDel ki.1 ki.2 (<-bK.of x) (<-bK.of k)
    |none=>none
   |_=>none
  |_,_=>none
 |.builtin .min=>match c.args.toList with
  |[x,y]=>do return .minmax false (<-bK.of x) (<-bK.of y)
  |_=>none
 |.builtin .max=>match c.args.toList with
  |[x,y]=>do return .minmax true (<-bK.of x) (<-bK.of y)
  |_=>none
 |.builtin .append=>match c.args.toList,c.argTypes.toList with
  |[x,y],[t,t']=>if t≠t' then none else match P.underlying t with
   |some (.slice e)=>match P.info? e with
    |some i=>match i.zero with
     |some z=>if z.cells.size=i.size/\0<i.size then do return .append e i.size i.bytes (<-bK.of x) (<-bK.of y)else none
     |none=>none
    |none=>none
   |_=>none
  |_,_=>none
 |_=>none
def dq(P:Program)(o:Oper):Option qO:=
 match o.op with
 |.move x|.assign x=>(bK.of x).map .Lg
 |.pick c a b=>do return .pick (<-bK.of c) (<-bK.of a) (<-bK.of b)
 |.alloc e=>do
  let i<-P.info? e
  let z<-i.zero
  return .alloc (<-z.cells.toList.mapM vm)
 |.box _ x=>(bK.of x).map .box
 |.build t parts=>do
  let i<-P.info? t
  let z<-i.zero
  let zs<-z.cells.toList.mapM vm
  let pl<-B9 P t
  return .build zs (<-rE parts.toList pl)
 |.buildSlice t len parts=>
  match P.underlying t with
  |some (.slice e)=>do
   let ei<-P.info? e
   if len*ei.size>2^24\/ei.size=0 then none else
   let z<-ei.zero
   let zs<-((List.range (len*ei.size)).map (z.cells[· % z.cells.size]!)).mapM vm
   return .bslice len ei.size zs (<-rE parts.toList λk=>some (k*ei.size,ei.size))
  |_=>none
 |.load t a=>match P.underlying t,P.info? t with
  |some d,some i=>(bK.of a).map (.load i.size (bU d))
  |_,_=>none
 |.store t a x=>do
  let i<-P.info? t
  return .store i.size (<-bK.of a) (<-bK.of x)
 |.nilCheck x=>(bK.of x).map .nilCheck
 |.binOp op t x y _=>do mQ P op t (<-bK.of x) (<-bK.of y)
 |.unOp op _ x=>(bK.of x).map (.un op)
 |.convert src dst x=>match P.underlying src,P.underlying dst with
  |some (.int _),some (.int k)=>(bK.of x).map (.conv k)
  |_,_=>none
 |.fieldAddr s x f=>match P.underlying s with
  |some (.struct fs)=>match fs[f]? with
   |some fd=>match P.info? fd.type with
    |some fi=>if fi.size=0 then none else(bK.of x).map (.addOff fd.offset)
    |none=>none
   |none=>none
  |_=>none
 |.field s x f=>match P.underlying s with
  |some (.struct fs)=>match fs[f]? with
   |some fd=>match P.info? fd.type,P.underlying fd.type with
    |some fi,some d=>(bK.of x).map (.field fd.offset fi.size (bU d))
    |_,_=>none
   |none=>none
  |_=>none
 |.indexAddr t x ix=>match P.underlying t with
  |some (.slice e)=>match P.info? e with
   |some i=>do return .idxAddr i.size (<-bK.of x) (<-bK.of ix)
   |none=>none
  |some (.array n e)=>match P.info? e with
   |some i=>do return .arrAddr n i.size (<-bK.of x) (<-bK.of ix)
   |none=>none
  |_=>none
 |.slice t x lo hi none=>match P.underlying t with
  |some (.slice e)=>match P.info? e with
   |some i=>do return .slice i.size (<-bK.of x) (<-Ca lo) (<-Ca hi)
   |none=>none
  |_=>none
 |.extract t i=>(bK.of t).map (.extract i)
 |.makeSlice t l c=>match P.underlying t with
  |some (.slice e)=>match P.info? e with
   |some i=>match i.zero with
    |some z=>match l,c with
     |.tmp a,.tmp b=>if a=b/\0<i.size then do return .mkSlice e i.size i.bytes (<-z.cells.toList.mapM rC) (.tmp a)else none
     |.const (.int k a),.const (.int k' b)=>if a=b/\k=k'/\0<i.size then do return .mkSlice e i.size i.bytes (<-z.cells.toList.mapM rC) (.wW (.v (.int k a)))else none
     |_,_=>none
    |none=>none
   |none=>none
  |_=>none
 |.makeFunc f first cz=>if first.isEmpty then do return .mkFn f (<-cz.toList.mapM bK.of)else none
 |.call c=>eB P c
 |.makeMap t none=>match P.underlying t with
  |some (.map kt _)=>(iu P kt).map λki=>.mkMap ki.1 ki.2
  |_=>none
 |.lookup t x k ok=>match P.underlying t with
  |some (.map kt e)=>match iu P kt,E5 P e with
   |some ki,some z=>do return .lookup ki.1 ki.2 z ok (<-bK.of x) (<-bK.of k)
   |_,_=>none
  |_=>none
 |.mapUpdate t x k y=>match P.underlying t with
  |some (.map kt _)=>match iu P kt with
   |some ki=>do return .mapUpd ki.1 ki.2 (<-bK.of x) (<-bK.of k) (<-bK.of y)
   |none=>none
  |_=>none
 |.mapEntry t x k=>match P.underlying t with
  |some (.map kt e)=>match iu P kt,E5 P e with
   |some ki,some z=>do return .mapEnt ki.1 ki.2 z (<-bK.of x) (<-bK.of k)
   |_,_=>none
  |_=>none
 |.entryStore _ x s y=>do return .entSt (<-bK.of x) (<-bK.of s) (<-bK.of y)
 |.range t x=>match P.underlying t with
  |some (.map _ _)=>(bK.of x).map .rangeM
  |_=>none
 |.entry x=>(bK.of x).map .entryM
 |.index t x i=>match P.underlying t with
  |some .string=>do return .indexS (<-bK.of x) (<-bK.of i)
  |_=>none
 |.panic _|.makeInterface .. =>some .fail
 |_=>none
section
variable{w:World}{W:fm}{ab:bS}{L:Loc}
def E6(off:Nat):∀(vs:List Value) (j0:Nat) (cs:Array Value),off+j0+vs.length<=cs.size->
  (vs.zipIdx j0).foldl (λcs (x:Value×Nat)=>cs.setIfInBounds (off+x.2) x.1) cs=(cg cs.toList (off+j0) vs).toArray
 |[],j0,cs,_=>by simp[cg]
 |v::vs,j0,cs,h=>by
  simp only[B8]at h;simp only[ZcM,Br];rw[E6 off vs (j0+1) _ (by simp;omega)]
  congr 1
  simp only[cg,Array.toList_setIfInBounds,B8];have e:=list_seg_step cs.toList (off+j0) v vs (by simp;omega);simpa [pn]using e
def Cb{a:Act}{ρ:dW}(hg:BY w (WW W ab L))(jF:∀t,aD w W ab L (ρ t) (a.tmps.getD t Go.undef)){OT:Nat->Option (Nat×Nat)}:∀(ps:List (Nat×Operand)) (qs:List (Nat×Nat×bK)),rE ps OT=some qs->
  ∀(cells:Array Value) (ds:bW),aU w W ab L ds cells.toList->tH cells.size (qs.map λp=>(p.1,p.2.1,p.2.2.ev ρ))->
   ∃Cc,Instr.fill OT cells (ps.map λp=>(p.1,a.eval p.2))=some Cc/\aU w W ab L (vI ds (qs.map λp=>(p.1,p.2.1,p.2.2.ev ρ))) Cc.toList/\Cc.size=cells.size
 |[],qs,h,cells,ds,hd,_=>by
  simp[rE]at h;subst h;exact⟨cells,rfl,by simpa [vI]using hd,rfl⟩
 |p::ps,qs,h,cells,ds,hd,aN=>by
  simp only[rE,Zbw,vj,kw,jE,cq]at h;obtain⟨q,⟨pl,Ti,x,hx,rfl⟩,qs',hqs,rfl⟩:=h;simp only[vG,tH]at aN;obtain⟨hl,QT,tg,vK⟩:=aN;have hv:=bK.bJ hg jF hx;have mZ:=pZ hv tg;have c9:(a.eval p.2).cells.size=pl.2:=by have:=aU.length mZ;simpa [hl]using this
  have atL:((a.eval p.2).cells.zipIdx.foldl (λcs (x:Value×Nat)=>cs.setIfInBounds (pl.1+x.2) x.1) cells)=(cg cells.toList pl.1 (a.eval p.2).cells.toList).toArray:=by
   rw[<-Array.foldl_toList,Array.toList_zipIdx];have:=E6 pl.1 (a.eval p.2).cells.toList 0 cells (by simp[c9];omega);simpa using this
  have hd':aU w W ab L (cg ds pl.1 (cellsOf (x.ev ρ))) (cg cells.toList pl.1 (a.eval p.2).cells.toList).toArray.toList:=by
   simpa using aU.cg pl.1 hd mZ
  have jc:(cg cells.toList pl.1 (a.eval p.2).cells.toList).toArray.size=cells.size:=by
   have:=gW (l:=cells.toList) (new:=(a.eval p.2).cells.toList) (off:=pl.1) (by simp[c9];omega);simpa using this
  obtain⟨Cc,h1,h2,h3⟩:=Cb hg jF ps qs' (by simpa [rE]using hqs) _ _ hd' (by rw[jc];exact vK);refine⟨Cc, ?_,by simpa only[vG,vI]using h2,h3.trans jc⟩;simp only[vG,Instr.fill,Ti,c9];rw[iK (by simp;omega),atL];exact h1
def tT{P:Program}(w:World){t e:TypeId}{i:TypeInfo}{z:Value}(ht:P.underlying t=some (.slice e))(hi:P.info? e=some i)(hz:i.zero=some z)(len:Nat)(ct:¬len*i.size>2^24){parts:Array (Nat×Value)}{cells:Array Value}
  (h:Instr.fill (λk=>some (k*i.size,i.size)) ((Array.range (len*i.size)).map (z.cells[· % z.cells.size]!)) parts.toList=some cells):
  (Instr.buildSlice t len parts).run P w=.ok (.slice (some ⟨w.heap.size,0,none⟩) len len) (w.alloc (.cells cells e)):=by
 by_cases h0:len*i.size=0
 .have h':Instr.fill (λk=>some (k*i.size,i.size)) #[] parts.toList=some cells:=by
   rw[h0]at h;simpa [Array.range_zero']using h
  simp[Instr.buildSlice,run_underlying ht,run_sizeOf hi,h0,h',newRow,Array.range_zero']
 .simp[Instr.buildSlice,run_underlying ht,run_sizeOf hi,zeroValue,typeInfo,hi,hz,h0,ct,h,newRow]
end
end
end Go.DM
