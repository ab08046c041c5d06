/- Part. Conditions: none. -/
import Derived.Below
import Derived.CallsIn
import Derived.Laws.AppendOwn
import Derived.Laws.AppendOwnNone
import Derived.Laws.MakeOwn
import Derived.Laws.World
import Derived.Laws.Cells
import Derived.Laws.Small
import Derived.Laws.Entries
import Derived.Laws.Strings
import Derived.Laws.StructEq
import Derived.Laws.Shifts
set_option linter.all false
namespace Go.DM
def ba{α:Sort _}(a:α):∃b,a=b:=⟨a,rfl⟩
def bN:=@Option.some.injEq
def fO:=@Option.bind_eq_some_iff
def fE:=@Option.map_eq_some_iff
def gV:=@Option.bind_eq_bind
def ic:=@List.mem_singleton
def iS:=@Bool.and_eq_true
def o5:=@decide_eq_true_eq
def mL:=@if_neg
def iV:=@Nat.le_refl
def kf:=@Array.getElem?_eq_some_iff
def fq:=@List.getElem?_eq_getElem
def nX:=@decide_eq_false_iff_not
def I7:=@Option.pure_def
def uV:=@if_pos
def kx:=@List.eq_nil_of_length_eq_zero
def dP:=@List.mem_append
def pb:=@List.length_append
def kL:=@List.mem_map
def l7:=@Prod.mk.injEq
def l8:=@List.map_cons
def eM:=@Int.eq_ofNat_of_zero_le
def pH:=@List.mem_cons
def ib:=@Int.toNat_natCast
def yV:=@absurd
def yh:=@if_true
def wb:=@List.take_append_drop
def o8:=@List.mem_range
def pd:=@List.getElem?_cons_zero
def qX:=@of_decide_eq_true
def Fz:=@Nat.pos_iff_ne_zero
def ym:=@Nat.add_assoc
def E6:=@Bool.false_ne_true
def wB:=@Nat.le_trans
def Hz:=@exists_false
def yJ:=@List.all_eq_true
def E9:=@List.getElem?_eq_some_iff
def yf:=@List.mem_flatMap
def Cp:=@List.length_range
def pc:=@List.length_cons
def F6:=@List.foldl_cons
def CE:=@List.cons_append
def ud:=@List.mem_of_mem_take
def z6:=@List.nil_append
def Ba:=@and_false
def Cq:=@List.mem_cons_of_mem
def BW:=@List.mem_iff_getElem
def Fm:=@Bool.not_eq_true'
def Fo:=@List.getElem?_take
def TE:=@Nat.add_mul
def F5:=@List.append_nil
def E7:=@List.range_succ
def B7:=@Nat.mul_le_mul_right
def Fx:=@List.length_drop
def CG:=@List.pairwise_cons
def HH:=@List.filter_append
def BY:=@Array.getD_eq_getD_getElem?
def KY:=@List.mem_cons_self
def E3:=@List.find?_cons
def qQ:=@List.map_append
def MG:=@Nat.lt_of_lt_of_le
def LQ:=@List.mapM_cons
def HM:=@Array.length_toList
def KN:=@List.filter_cons
def KW:=@List.append_assoc
def Lg:=@if_false
def MI:=@List.getElem?_eq_none
def KO:=@List.flatMap_cons
def V2:=@Int.le_refl
def Cf:=@Nat.zero_add
def TP:=@Bool.false_eq_true
def Lx:=@of_decide_eq_false
def ME:=@List.getElem_mem
def MH:=@List.getElem?_append_right
def TB:=@Option.getD_some
def V1:=@Option.map_some
def ye:=@List.length_take
def V5:=@List.replicate_succ
def EN:=@List.getElem?_cons_succ
def Uc:=@List.ext_getElem
def V8:=@List.getElem?_append_left
def TJ:=@Option.isSome_iff_exists
def TU:=@List.getElem?_drop
def TW:=@List.getElem_range
def zM:=@List.mem_of_getElem?
def Ub:=@List.getD_eq_getElem?_getD
def CB:=@List.take_add_one
def TC:=@List.flatten_cons
def TI:=@forall_eq
def BE:=@List.cons.injEq
def VV:=@Bool.eq_iff_iff
def Uj:=@List.length_nil
def E2:=@Array.getElem?_eq_getElem
def GP:=@List.length_map
def YE:=@List.findIdx?_cons
def ZbG:=@List.zipIdx_cons
def ZbH:=@List.take_length
def EK:=@List.mem_of_mem_drop
def E4:=@true_and
def Ff:=@List.getElem_drop
def QQ:=@List.map_congr_left
def Hb:=@Nat.zero_le
def IN:=@List.take_of_length_le
def zN:=@List.drop_eq_nil_of_le
def Eu:=@List.findIdx?_eq_some_iff_getElem
def Fw:=@Int.tdiv_eq_ediv_of_nonneg
def Wj:=@false_or
def BG:=@Array.append_empty
def Wy:=@Array.getElem?_toList
def TQ:=@List.contains_iff_mem
def EO:=@List.getElem?_eq_none_iff
def ET:=@Nat.add_zero
def QZ:=@List.mem_filter
def x5:=@List.map_map
def Ui:=@List.map_nil
def LV:=@List.foldl_append
def xX:=@List.ext_getElem?
def vA:=@List.getElem?_map
def su:=@List.drop_append_of_le_length
def T1:=@List.getElem_of_mem
def IV:=@Nat.lt_succ_self
def IX:=@List.filter_eq_nil_iff
def sy:=@and_assoc
def TD:=@List.length_replicate
def pC:=@List.modify_succ_cons
def QM:=@and_true
def R8:=@Bool.true_and
def PL:=@beq_iff_eq
def Kv:=@List.getElem?_of_mem
def QX:=@List.pairwise_iff_getElem
def QY:=@List.nodup_nil
def Si:=@Nat.lt_of_not_le
def He:=@Bool.not_eq_true
def Zci:=@List.flatMap_append
def Tm:=@Nat.add_sub_cancel
def Sm:=@List.set_cons_zero
def QK:=@Bool.or_eq_true
def Rc:=@List.nodup_append
def Hj:=@List.getElem_take
def Zco:=@List.drop_drop
def Zcp:=@Array.getElem?_setIfInBounds
def YI:=@List.modify_zero_cons
def Mo:=@List.foldl_nil
def Zcs:=@Array.toArray_toList
def Zct:=@List.not_mem_nil
def Hc:=@Option.bind_some
def Yx:=@List.all_cons
def JR:=@Option.ne_none_iff_exists'
def YG:=@List.mem_of_find?_eq_some
def Sb:=@Array.mapM_eq_mapM_toList
def Hd:=@List.drop_eq_getElem_cons
def Sg:=@Int.mul_comm
def Ss:=@Bool.not_eq_false'
def ZcC:=@Int.natCast_nonneg
def ZcD:=@List.length_eq_zero_iff
def Kt:=@List.getElem?_set
def KA:=@List.length_eq_one_iff
def Sj:=@List.sum_cons
def Sx:=@Nat.mod_eq_of_lt
def ZcI:=@List.getElem_set
def ZcJ:=@List.eq_nil_or_concat
def Hp:=@List.concat_eq_append
def Mm:=@Nat.sub_zero
def UL:=@Nat.zero_mul
def ZcN:=@List.forIn_cons
def RX:=@List.nodup_cons
def Sk:=@List.getElem?_append
def ZcQ:=@List.replicate_succ'
def Ve:=@List.take_append_of_le_length
def EQ:=@List.getD_cons_succ
def ZcT:=@List.take_succ_cons
def ZcU:=@List.flatten_append
def S3:=@Array.toList_modify
def ZcW:=@List.set_cons_succ
def Vq:=@Bool.not_true
def ZcY:=@Array.getElem?_append_left
def EZ:=@Int.tmod_eq_emod_of_nonneg
def T0:=@List.map_take
def Sd:=@List.pairwise_map
def Yw:=@List.mem_or_eq_of_mem_set
def EY:=@List.findIdx?_eq_none_iff
def NU:=@List.drop_append
def Td:=@List.eq_of_mem_replicate
def St:=@List.range'_succ
def Zc7:=@List.mem_of_mem_eraseIdx
def Zc8:=@List.map_set
def Zc9:=@List.getElem_map
def Zda:=@List.flatMap_nil
def Zdb:=@Option.some.inj
def Zdc:=@List.length_set
def Zdd:=@List.take_left'
def Zde:=@Nat.one_mul
def Zdf:=@Int.add_mul
def Zdg:=@Int.mul_one
def Zdh:=@List.Perm.refl
def Zdi:=@List.take_take
def Zdj:=@List.take_left
def Zdk:=@Int.mul_nonneg
def Zdl:=@or_false
def Zdm:=@bne_iff_ne
def Zdn:=@false_implies
section
abbrev dJ:=Nat->Prop
abbrev b8:=List Int
abbrev bY:=List Nat
section
variable{w':World}{W':dJ}
inductive T where
 |bool (b:Bool)
 |int (k:IntKind) (n:Int)
 |str (s:ByteArray)
 |sl (an:List (List T))
 |agg (cs:List T)
 |dh (vs:List T)
 |fn (f:Fn) (bP:List T)
 |box (cs:List T)
 |mb (v:Value)
abbrev ar:=List T
abbrev ajz:=List ar
instance:Inhabited T:=⟨.bool false⟩
section
variable(w:World)(W:dJ)
mutual
def aO:T->Value->Prop
 |.bool b,v=>v=.bool b
 |.int k n,v=>v=.int k n
 |.str s,v=>v=.string s
 |.sl an,v=>(an=[]/\∃(a:Option Addr) (cap:Nat),v=.slice a 0 cap)\/
   ∃b o cap sz,v=.slice (some ⟨b,o,none⟩) an.length cap/\b<w.heap.size/\¬W b/\an.length<=cap/\aT sz b o an
 |.agg cs,v=>∃vs,v=.agg vs/\aN cs vs.toList
 |.dh ts,v=>∃vs,v=.tuple vs/\dq ts vs.toList
 |.fn f bP,v=>∃vs,v=.func f #[] vs/\aN bP vs.toList
 |.box cs,v=>∃b o,v=.pointer (some ⟨b,o,none⟩)/\b<w.heap.size/\¬W b/\cS b o cs
 |.mb x,v=>v=x
def aN:ar->List Value->Prop
 |[],vs=>vs=[]
 |t::ts,vs=>∃v fW,vs=v::fW/\v.oneCell'=true/\aO t v/\aN ts fW
def dq:ar->List Value->Prop
 |[],vs=>vs=[]
 |t::ts,vs=>∃v fW,vs=v::fW/\aO t v/\dq ts fW
def cS:Nat->Nat->ar->Prop
 |_,_,[]=>True
 |b,o,t::ts=>(∃v,w.cell? ⟨b,o,none⟩=some v/\v.oneCell'=true/\aO t v)/\cS b (o+1) ts
def aT:Nat->Nat->Nat->List (ar)->Prop
 |_,_,_,[]=>True
 |sz,b,o,r::rs=>r.length=sz/\cS b o r/\aT sz b (o+sz) rs
end
end
structure KeepsC(W:dJ)(w w':World):Prop where
 size:w.heap.size<=w'.heap.size
 gp:∀(b:Nat) c e fr,w.heap[b]? =some (.cells c e fr)->¬W b->w'.heap[b]? =some (.cells c e fr)
structure ch(W:dJ)(w w':World):Prop extends KeepsC W w w' where
 HG:∀b:Nat,w.heap[b]? =some (Obj.deferred (some []))->w'.heap[b]? =some (Obj.deferred (some []))
 KU:∀(b:Nat) r,w.heap[b]? =some (Obj.loop r)->w'.heap[b]? =some (Obj.loop r)
def KeepsC.cell{W:dJ}{w:World}(h:KeepsC W w w'){b o:Nat}{v:Value}(hn:¬W b)(hc:w.cell? ⟨b,o,none⟩=some v):w'.cell? ⟨b,o,none⟩=some v:=by
 unfold World.cell? at hc⊢;simp only at hc⊢;split at hc
 ·rename_i c e fr hb;rw[h.gp b c e fr hb hn];exact hc
 ·cases hc
def ch.refl(W:dJ)(w:World):ch W w w:=⟨⟨iV _,λ_ _ _ _ h _=>h⟩,λ_ h=>h,λ_ _ h=>h⟩
def ch.mono{W:dJ}{a b:World}(h:ch W a b)(hw:∀i,W i->W' i):ch W' a b:=
 ⟨⟨h.size,λi c e fr hi hn=>h.gp i c e fr hi λx=>hn (hw i x)⟩,h.HG,h.KU⟩
structure qZ(B:Nat)(w w':World):Prop extends RowKit.Below B w w' where
 drawn:w.drawn<=w'.drawn
def ch.Ck{W:dJ}{w:World}(h:RowKit.Below w.heap.size w w'):ch W w w':=
 ⟨⟨h.size,λb c e fr hb _=>(h.block b (kf.1 hb).1).trans hb⟩,λb hb=>(h.block b (kf.1 hb).1).trans hb,λb r hb=>(h.block b (kf.1 hb).1).trans hb⟩
mutual
def aO.aD{w w':World}{W W':dJ}(h:KeepsC W w w')(hW:∀b,b<w.heap.size->W' b->W b):∀(t:T) (v:Value),aO w W t v->aO w' W' t v
 |.bool b,v,r=>by simpa [aO]using r
 |.int k n,v,r=>by simpa [aO]using r
 |.mb x,v,r=>by simpa [aO]using r
 |.str s,v,r=>by simpa [aO]using r
 |.sl an,v,r=>by
  simp only[aO]at r⊢;rcases r with r|⟨b,o,cap,sz,hv,hb,hn,hc,hr⟩
  ·exact .inl r
  ·exact .inr ⟨b,o,cap,sz,hv,MG hb h.size,λx=>hn (hW b hb x),hc,aT.aD h hW hb hn sz o an hr⟩
 |.agg cs,v,r=>by
  simp only[aO]at r⊢;obtain⟨vs,hv,hr⟩:=r;exact⟨vs,hv,aN.aD h hW cs _ hr⟩
 |.dh ts,v,r=>by
  simp only[aO]at r⊢;obtain⟨vs,hv,hr⟩:=r;exact⟨vs,hv,dq.aD h hW ts _ hr⟩
 |.fn f bP,v,r=>by
  simp only[aO]at r⊢;obtain⟨vs,hv,hr⟩:=r;exact⟨vs,hv,aN.aD h hW bP _ hr⟩
 |.box cs,v,r=>by
  simp only[aO]at r⊢;obtain⟨b,o,hv,hb,hn,hr⟩:=r;exact⟨b,o,hv,MG hb h.size,λx=>hn (hW b hb x),cS.aD h hW hb hn o cs hr⟩
def aN.aD{w w':World}{W W':dJ}(h:KeepsC W w w')(hW:∀b,b<w.heap.size->W' b->W b):∀(ts:ar) (vs:List Value),aN w W ts vs->aN w' W' ts vs
 |[],vs,r=>by simpa [aN]using r
 |t::ts,vs,r=>by
  simp only[aN]at r⊢;obtain⟨v,fW,hv,h1,hr,jy⟩:=r;exact⟨v,fW,hv,h1,aO.aD h hW t v hr,aN.aD h hW ts fW jy⟩
def dq.aD{w w':World}{W W':dJ}(h:KeepsC W w w')(hW:∀b,b<w.heap.size->W' b->W b):∀(ts:ar) (vs:List Value),dq w W ts vs->dq w' W' ts vs
 |[],vs,r=>by simpa [dq]using r
 |t::ts,vs,r=>by
  simp only[dq]at r⊢;obtain⟨v,fW,hv,hr,jy⟩:=r;exact⟨v,fW,hv,aO.aD h hW t v hr,dq.aD h hW ts fW jy⟩
def cS.aD{w w':World}{W W':dJ}(h:KeepsC W w w')(hW:∀b,b<w.heap.size->W' b->W b){b:Nat}(hb:b<w.heap.size)(hn:¬W b):∀(o:Nat) (ts:ar),cS w W b o ts->cS w' W' b o ts
 |_,[],_=>by simp[cS]
 |o,t::ts,r=>by
  simp only[cS]at r⊢;obtain⟨⟨v,hc,h1,hr⟩,jy⟩:=r;exact⟨⟨v,h.cell hn hc,h1,aO.aD h hW t v hr⟩,cS.aD h hW hb hn (o+1) ts jy⟩
def aT.aD{w w':World}{W W':dJ}(h:KeepsC W w w')(hW:∀b,b<w.heap.size->W' b->W b){b:Nat}(hb:b<w.heap.size)(hn:¬W b)(sz:Nat):∀(o:Nat) (rs:List (ar)),aT w W sz b o rs->aT w' W' sz b o rs
 |_,[],_=>by simp[aT]
 |o,r::rs,x=>by
  simp only[aT]at x⊢;exact⟨x.1,cS.aD h hW hb hn o r x.2.1,aT.aD h hW hb hn sz (o+sz) rs x.2.2⟩
end
section
variable{w:World}{W:dJ}
def aT.row{sz b:Nat}:∀{an:List (ar)} {o i:Nat} {r:ar},aT w W sz b o an->an[i]? =some r->r.length=sz/\cS w W b (o+i*sz) r
 |[],_,_,_,_,h=>by simp at h
 |x::xs,o,0,r,hr,h=>by
  simp only[aT]at hr;simp only[pd,bN]at h;subst h;simpa using⟨hr.1,hr.2.1⟩
 |x::xs,o,i+1,r,hr,h=>by
  simp only[aT]at hr;simp only[EN]at h;have:=aT.row hr.2.2 h;rw[show o+(i+1)*sz=o+sz+i*sz by rw[TE];omega];exact this
def cS.vS{b:Nat}:∀(ts:ar) (o:Nat),(∀j t,ts[j]? =some t->∃v,w.cell? ⟨b,o+j,none⟩=some v/\v.oneCell'=true/\aO w W t v)->cS w W b o ts
 |[],_,_=>by simp[cS]
 |t::ts,o,h=>by
  simp only[cS];refine⟨by simpa using h 0 t (by simp),cS.vS ts (o+1) λj u hu=>?_⟩;have:=h (j+1) u (by simpa using hu)
  rwa [show o+1+j=o+(j+1)by omega]
def aT.vf{sz b:Nat}:∀(rs:List (ar)) (o:Nat),(∀i r,rs[i]? =some r->r.length=sz/\cS w W b (o+i*sz) r)->aT w W sz b o rs
 |[],_,_=>by simp[aT]
 |r::rs,o,h=>by
  simp only[aT];have h0:=h 0 r (by simp);refine⟨h0.1,by simpa using h0.2,aT.vf rs (o+sz) λi u hu=>?_⟩;have:=h (i+1) u (by simpa using hu)
  rwa [show o+sz+i*sz=o+(i+1)*sz by rw[TE];omega]
def aN.length:∀{ts:ar} {vs:List Value},aN w W ts vs->vs.length=ts.length
 |[],_,h=>by simp only[aN]at h;simp[h]
 |_::ts,_,h=>by
  simp only[aN]at h;obtain⟨v,fW,rfl,_,_,hr⟩:=h;simp[aN.length hr]
def dq.length:∀{ts:ar} {vs:List Value},dq w W ts vs->vs.length=ts.length
 |[],_,h=>by simp only[dq]at h;simp[h]
 |_::ts,_,h=>by
  simp only[dq]at h;obtain⟨v,fW,rfl,_,hr⟩:=h;simp[dq.length hr]
def aN.get:∀{ts:ar} {vs:List Value} {i:Nat} {t:T},aN w W ts vs->ts[i]? =some t->∃v,vs[i]? =some v/\v.oneCell'=true/\aO w W t v
 |[],_,_,_,_,h=>by simp at h
 |x::xs,_,0,t,hr,h=>by
  simp only[aN]at hr;obtain⟨v,fW,rfl,h1,h2,_⟩:=hr;simp only[pd,bN]at h;subst h;exact⟨v,rfl,h1,h2⟩
 |x::xs,_,i+1,t,hr,h=>by
  simp only[aN]at hr;obtain⟨v,fW,rfl,_,_,hr⟩:=hr;simpa using aN.get hr (by simpa using h)
def dq.get:∀{ts:ar} {vs:List Value} {i:Nat} {t:T},dq w W ts vs->ts[i]? =some t->∃v,vs[i]? =some v/\aO w W t v
 |[],_,_,_,_,h=>by simp at h
 |x::xs,_,0,t,hr,h=>by
  simp only[dq]at hr;obtain⟨v,fW,rfl,h2,_⟩:=hr;simp only[pd,bN]at h;subst h;exact⟨v,rfl,h2⟩
 |x::xs,_,i+1,t,hr,h=>by
  simp only[dq]at hr;obtain⟨v,fW,rfl,_,hr⟩:=hr;simpa using dq.get hr (by simpa using h)
end
class bh where
 cells:List (Nat×ar)
abbrev bh.none:bh:=⟨[]⟩
def vT [bh](w:World)(W:dJ):Prop:=∀p∈bh.cells,p.1<w.heap.size/\¬W p.1/\cS w W p.1 0 p.2
def vT.aD [bh]{w:World}{W:dJ}(h:vT w W)(hk:KeepsC W w w')(hW:∀b,b<w.heap.size->W' b->W b):vT w' W':=λp hp=>by
 obtain⟨h1,h2,h3⟩:=h p hp;exact⟨MG h1 hk.size,λx=>h2 (hW _ h1 x),cS.aD hk hW h1 h2 0 p.2 h3⟩
def vT.empty(w:World)(W:dJ): @vT bh.none w W:=λp hp=>by cases hp
end
end
section
inductive DV where
 |undef
 |skip
 |v (t:T)
 |aF
 |ptr (r off:Nat)
 |aQ (r aX:Nat)
 |jr (an:List (ar)) (i:Int) (off:Nat)
 |gq (cs:ar) (off:Nat)
 |gU (r aX:Nat) (i:Int) (off:Nat)
 |agg (cs:List DV)
 |vU
 |dQ (r:Nat)
 |c8 (r:Nat)
 |dh (ds:List DV)
 |qi (r aX lo n:Nat)
 |uS (f:Fn) (bP:List DV)
 |Al (r n:Nat)
abbrev cQ:=Nat->DV
abbrev iE:=List (Nat×DV)
abbrev bD:=List DV
instance:Inhabited DV:=⟨.undef⟩
inductive Sh where
 |bool|int (k:IntKind)|str
def uT:Sh->T->Bool
 |.bool,.bool _=>true
 |.int k,.int k' _=>k==k'
 |.str,.str _=>true
 |_,_=>false
def cT:List Sh->ar->Prop
 |[],ts=>ts=[]
 |s::ss,t::ts=>uT s t=true/\cT ss ts
 |_::_,[]=>False
inductive Ob where
 |box (cs:bD)
 |aR (aX e sz:Nat) (an:List (ar))
 |map (bB:List Sh) (agg:Bool) (q8:Nat) (es:List (Nat×T×DV))
 |c8 (m ajA:Nat) (seen:bY) (ad4:Nat)
abbrev d0:=List (Nat×Ob)
def Ob.kind:Ob->Nat
 |.box _=>0
 |.aR _ _ _ _=>1
 |.map _ _ _ _=>2
 |.c8 _ _ _ _=>3
abbrev bA:=Nat->Option Ob
structure nO where
 tmps:cQ
 ab:bA
 az:Nat
 low:Nat
 todo:List (ar)
inductive be where
 |tmp (t:Nat)
 |eD (d:DV)
def be.ev(ρ:cQ):be->DV
 |.tmp t=>ρ t
 |.eD d=>d
structure fp where
 ok:Prop
 val:DV
 ab:bA
structure Spec where
 pre:ar->Prop
 fn:ar->T
 gu:Bool
 st:Option (bD->bA->fp):=none
 fresh:Option (Nat×Nat):=none
 d5:Bool:=false
abbrev gP:=FuncId->Option Spec
inductive mQ where
 |jS (x:be)
 |pick (c a b:be)
 |alloc (zero:bD)
 |box (x:be)
 |build (zero:bD) (parts:List (Nat×Nat×be))
 |bslice (len sz:Nat) (zero:bD) (parts:List (Nat×Nat×be))
 |load (n:Nat) (agg:Bool) (x:be)
 |store (n:Nat) (x y:be)
 |bin (op:BinOp) (x y:be)
 |eqT (neg agg:Bool) (bB:List Sh) (x y:be)
 |un (op:UnOp) (x:be)
 |conv (k:IntKind) (x:be)
 |addOff (k:Nat) (x:be)
 |nilCheck (x:be)
 |idxAddr (sz:Nat) (x i:be)
 |arrAddr (len sz:Nat) (x i:be)
 |field (off n:Nat) (agg:Bool) (x:be)
 |slice (sz:Nat) (x:be) (lo hi:Option be)
 |extract (i:Nat) (x:be)
 |call (f:FuncId) (args:List be)
 |callS (f:FuncId) (args:List be)
 |callF (f:FuncId) (args:List be)
 |callR (f:FuncId) (args:List be)
 |callv (x:be) (args:List be)
 |len (x:be)
 |lenS (x:be)
 |minmax (Cl:Bool) (x y:be)
 |append (e sz bytes:Nat) (x y:be)
 |mkSlice (e sz bytes:Nat) (zero:ar) (n:be)
 |mkSliceB (e sz bytes:Nat) (zero:ar) (n:be)
 |mkFn (f:Fn) (bP:List be)
 |mkMap (bB:List Sh) (agg:Bool)
 |lookup (bB:List Sh) (agg:Bool) (zero:DV) (ok:Bool) (x k:be)
 |mapUpd (bB:List Sh) (agg:Bool) (x k y:be)
 |mapDel (bB:List Sh) (agg:Bool) (x k:be)
 |mapEnt (bB:List Sh) (agg:Bool) (zero:DV) (x k:be)
 |entSt (x s y:be)
 |lenM (x:be)
 |rangeM (x:be)
 |entryM (x:be)
 |copy (sz:Nat) (x y:be)
 |isNil (kind:Nat) (neg:Bool) (x:be)
 |indexS (x i:be)
 |fail
structure my where
 ok:Prop
 val:DV
 put:Option (Nat×Ob):=none
def cb:my:=⟨False,.undef,none⟩
def q9:T->Bool
 |.agg _|.dh _=>false
 |.mb v=>v.oneCell'
 |_=>true
def cellsOf:DV->bD
 |.v (.agg cs)=>cs.map .v
 |.agg cs=>cs
 |d=>[d]
def lD:DV->Prop
 |.undef=>False
 |.skip=>False
 |.v (.dh _)=>False
 |.v (.mb x)=>x.oneCell'=true
 |.dh _=>False
 |_=>True
mutual
def nR(ab:bA):DV->T
 |.v t=>t
 |.aF=>.sl []
 |.aQ r _=>match ab r with|some (.aR _ _ _ an)=>.sl an|_=>.sl []
 |.agg cs=>.agg (fR ab cs)
 |.qi r _ lo n=>match ab r with|some (.aR _ _ _ an)=>.sl ((an.drop lo).take n)|_=>.sl []
 |.uS f bP=>.fn f (fR ab bP)
 |_=>.mb undef
def fR(ab:bA):bD->ar
 |[]=>[]
 |d::ds=>nR ab d::fR ab ds
end
mutual
def yg(d5:Bool)(ab:bA):DV->Prop
 |.v _=>True
 |.aF=>True
 |.aQ r aX=>d5=true/\match ab r with|some (.aR bi _ _ _)=>aX=bi|_=>False
 |.agg cs=>oa d5 ab cs
 |.qi r aX lo n=>d5=true/\match ab r with|some (.aR bi _ _ an)=>aX=bi/\lo+n<=an.length|_=>False
 |.uS _ bP=>oa d5 ab bP
 |_=>False
def oa(d5:Bool)(ab:bA):bD->Prop
 |[]=>True
 |d::ds=>yg d5 ab d/\oa d5 ab ds
end
def od:DV->Prop
 |.v t=>q9 t=true
 |.aF=>True
 |_=>False
def fc:bD->Prop
 |[]=>True
 |d::ds=>od d/\fc ds
def rj:bD->Bool
 |[]=>true
 |.v t::ds=>q9 t&&rj ds
 |.aF::ds=>rj ds
 |_::_=>false
def an2:DV->Prop
 |.undef=>False
 |.skip=>False
 |.v t=>q9 t=true
 |.agg _=>False
 |.dh _=>False
 |_=>True
def dm:bD->Prop
 |[]=>True
 |d::ds=>an2 d/\dm ds
def bH{α:Type}(l:List α)(off:Nat)(new:List α):List α:=l.take off++new++l.drop (off+new.length)
def pQ(cells:bD):List (Nat×Nat×DV)->bD
 |[]=>cells
 |(off,_,d)::ps=>pQ (bH cells off (cellsOf d)) ps
def oe(n:Nat):List (Nat×Nat×DV)->Prop
 |[]=>True
 |(off,sz,d)::ps=>(cellsOf d).length=sz/\off+sz<=n/\dm (cellsOf d)/\oe n ps
def rowAt(an:List (ar))(i:Int):ar:=an.getD i.toNat []
def dW(sz:Nat):Nat->ar->List (ar)
 |0,_=>[]
 |n+1,cs=>cs.take sz::dW sz n (cs.drop sz)
def eE(n:Nat)(agg:Bool)(ab:bA):DV->my
 |.ptr r off=>match ab r with
  |some (.box cs)=>⟨off+n<=cs.length/\(agg=true\/n=1),if agg then .agg ((cs.drop off).take n)else cs.getD off .undef,none⟩
  |_=>cb
 |.jr an i off=>⟨off+n<=(rowAt an i).length/\(agg=true\/n=1),if agg then .v (.agg (((rowAt an i).drop off).take n))else .v ((rowAt an i).getD off default),none⟩
 |.gq cs off=>⟨off+n<=cs.length/\(agg=true\/n=1),if agg then .v (.agg ((cs.drop off).take n))else .v (cs.getD off default),none⟩
 |.v (.box cs)=>⟨n<=cs.length/\(agg=true\/n=1),if agg then .v (.agg (cs.take n))else .v (cs.getD 0 default),none⟩
 |.gU r aX i off=>match ab r with
  |some (.aR bi _ _ an)=>⟨aX=bi/\off+n<=(rowAt an i).length/\(agg=true\/n=1),if agg then .v (.agg (((rowAt an i).drop off).take n))else .v ((rowAt an i).getD off default),none⟩
  |_=>cb
 |_=>cb
def jf(n:Nat)(ab:bA)(y:DV):DV->my
 |.ptr r off=>match ab r with
  |some (.box cs)=>⟨(cellsOf y).length=n/\off+n<=cs.length/\dm (cellsOf y),.undef,some (r,.box (bH cs off (cellsOf y)))⟩
  |_=>cb
 |.gU r aX i off=>match ab r with
  |some (.aR bi e sz an)=>⟨aX=bi/\(cellsOf y).length=n/\off+n<=sz/\fc (cellsOf y),.undef,
    some (r,.aR bi e sz (an.set i.toNat (bH (rowAt an i) off (fR ab (cellsOf y)))))⟩
  |_=>cb
 |_=>cb
def og(op:BinOp):DV->DV->my
 |.v (.int k a),.v (.int k' b)=>match op with
  |.add=>⟨k=k',.v (.int k (k.wrap (a+b))),none⟩
  |.sub=>⟨k=k',.v (.int k (k.wrap (a-b))),none⟩
  |.mul=>⟨k=k',.v (.int k (k.wrap (a*b))),none⟩
  |.quo=>⟨k=k'/\b≠0,.v (.int k (k.wrap (a.tdiv b))),none⟩
  |.rem=>⟨k=k'/\b≠0,.v (.int k (a.tmod b)),none⟩
  |.eql=>⟨k=k',.v (.bool (decide (a=b))),none⟩
  |.neq=>⟨k=k',.v (.bool (!decide (a=b))),none⟩
  |.lss=>⟨k=k',.v (.bool (decide (a<b))),none⟩
  |.leq=>⟨k=k',.v (.bool (decide (a<=b))),none⟩
  |.gtr=>⟨k=k',.v (.bool (decide (b<a))),none⟩
  |.geq=>⟨k=k',.v (.bool (decide (b<=a))),none⟩
  |.shl=>⟨0<=b,.v (.int k (k.wrap (a*2^min b.toNat k.bits))),none⟩
  |.shr=>⟨0<=b,.v (.int k (a/2^min b.toNat k.bits)),none⟩
  |.and=>⟨k=k',.v (.int k (k.wrap (BitVec.ofInt k.bits a&&&BitVec.ofInt k.bits b).toNat)),none⟩
  |.or=>⟨k=k',.v (.int k (k.wrap (BitVec.ofInt k.bits a|||BitVec.ofInt k.bits b).toNat)),none⟩
  |.xor=>⟨k=k',.v (.int k (k.wrap (BitVec.ofInt k.bits a^^^BitVec.ofInt k.bits b).toNat)),none⟩
  |_=>cb
 |_,_=>cb
mutual
def eF:T->T->Bool
 |.bool a,.bool b=>a==b
 |.int _ a,.int _ b=>decide (a=b)
 |.str a,.str b=>decide (a=b)
 |.agg as,.agg bs=>mz as bs
 |_,_=>false
def mz:ar->ar->Bool
 |[],[]=>true
 |a::as,b::bs=>eF a b&&mz as bs
 |_,_=>false
end
def vV(neg agg:Bool)(bB:List Sh):T->T->my
 |.agg as,.agg bs=>⟨agg=true/\cT bB as/\cT bB bs,.v (.bool (neg^^mz as bs)),none⟩
 |a,b=>⟨agg=false/\cT bB [a]/\cT bB [b],.v (.bool (neg^^eF a b)),none⟩
def HI(op:UnOp):DV->my
 |.v (.bool b)=>match op with
  |.not=>⟨True,.v (.bool (!b)),none⟩
  |_=>cb
 |.v (.int k n)=>match op with
  |.neg=>⟨True,.v (.int k (k.wrap (-n))),none⟩
  |_=>cb
 |_=>cb
def fe(k:Nat):DV->my
 |.ptr r off=>⟨True,.ptr r (off+k),none⟩
 |.jr an i off=>⟨True,.jr an i (off+k),none⟩
 |.gq cs off=>⟨True,.gq cs (off+k),none⟩
 |.v (.box cs)=>⟨True,.gq cs k,none⟩
 |.gU r aX i off=>⟨True,.gU r aX i (off+k),none⟩
 |_=>cb
def iF:DV->my
 |.ptr r off=>⟨True,.ptr r off,none⟩
 |.jr an i off=>⟨True,.jr an i off,none⟩
 |.gq cs off=>⟨True,.gq cs off,none⟩
 |.v (.box cs)=>⟨True,.v (.box cs),none⟩
 |.gU r aX i off=>⟨True,.gU r aX i off,none⟩
 |.v (.fn (.func f) bP)=>⟨True,.v (.fn (.func f) bP),none⟩
 |_=>cb
def mX(sz:Nat)(ab:bA):DV->DV->my
 |.v (.sl an),.v (.int _ i)=>⟨0<=i/\i<an.length/\(rowAt an i).length=sz,.jr an i 0,none⟩
 |.aQ r aX,.v (.int _ i)=>match ab r with
  |some (.aR bi _ fS an)=>⟨aX=bi/\fS=sz/\0<=i/\i<an.length,.gU r aX i 0,none⟩
  |_=>cb
 |.qi r aX lo n,.v (.int _ i)=>match ab r with
  |some (.aR bi _ fS an)=>⟨aX=bi/\fS=sz/\0<=i/\i<n,.gU r aX (lo+i) 0,none⟩
  |_=>cb
 |.Al r n,.v (.int _ i)=>⟨0<=i/\i<n,.ptr r (i.toNat*sz),none⟩
 |_,_=>cb
def iw(len sz:Nat):DV->DV->my
 |.ptr r off,.v (.int _ i)=>⟨0<=i/\i<len,.ptr r (off+i.toNat*sz),none⟩
 |.jr an j off,.v (.int _ i)=>⟨0<=i/\i<len,.jr an j (off+i.toNat*sz),none⟩
 |.gq cs off,.v (.int _ i)=>⟨0<=i/\i<len,.gq cs (off+i.toNat*sz),none⟩
 |.v (.box cs),.v (.int _ i)=>⟨0<=i/\i<len,.gq cs (i.toNat*sz),none⟩
 |.gU r aX j off,.v (.int _ i)=>⟨0<=i/\i<len,.gU r aX j (off+i.toNat*sz),none⟩
 |_,_=>cb
def jT:DV->Option (bD)
 |.v (.agg cs)=>some (cs.map .v)
 |.agg cs=>some cs
 |_=>none
def kN(off n:Nat)(agg:Bool)(x:DV):my:=
 match jT x with
 |some cs=>⟨off+n<=cs.length/\(agg=true\/n=1),if agg then .agg ((cs.drop off).take n)else cs.getD off .undef,none⟩
 |none=>cb
def vW :DV->Option Int
 |.v (.int _ n)=>some n
 |_=>none
def vX:Option DV->Option Int
 |none=>some 0
 |some d=>vW d
def vY(n:Int):Option DV->Option Int
 |none=>some n
 |some d=>vW d
def gv(sz:Nat)(lo hi:Option DV)(ab:bA):DV->my
 |.v (.sl an)=>
  match vX lo,vY an.length hi with
  |some l,some h=>⟨0<=l/\l<=h/\h<=an.length/\(∀r∈an,r.length=sz),.v (.sl ((an.take h.toNat).drop l.toNat)),none⟩
  |_,_=>cb
 |.aF=>
  match vX lo,vY 0 hi with
  |some l,some h=>⟨l=0/\h=0,.aF,none⟩
  |_,_=>cb
 |.aQ r aX=>match ab r with
  |some (.aR bi _ fS an)=>match vX lo,vY an.length hi with
   |some l,some h=>⟨aX=bi/\fS=sz/\0<=l/\l<=h/\h<=an.length,.qi r aX l.toNat (h.toNat-l.toNat),none⟩
   |_,_=>cb
  |_=>cb
 |.qi r aX Kx n=>match ab r with
  |some (.aR bi _ fS an)=>match vX lo,vY n hi with
   |some l,some h=>⟨aX=bi/\fS=sz/\0<=l/\l<=h/\h<=n,.qi r aX (Kx+l.toNat) (h.toNat-l.toNat),none⟩
   |_,_=>cb
  |_=>cb
 |_=>cb
def mY(i:Nat):DV->my
 |.v (.dh ts)=>⟨i<ts.length,.v (ts.getD i default),none⟩
 |.dh ds=>⟨i<ds.length,ds.getD i .undef,none⟩
 |_=>cb
def qj(ab:bA):DV->my
 |.v (.sl an)=>⟨True,.v (.int .i64 an.length),none⟩
 |.aF=>⟨True,.v (.int .i64 0),none⟩
 |.aQ r aX=>match ab r with
  |some (.aR bi _ _ an)=>⟨aX=bi,.v (.int .i64 an.length),none⟩
  |_=>cb
 |.qi _ _ _ n=>⟨True,.v (.int .i64 n),none⟩
 |.Al _ n=>⟨True,.v (.int .i64 n),none⟩
 |_=>cb
def o9:DV->my
 |.v (.str s)=>⟨True,.v (.int .i64 s.size),none⟩
 |_=>cb
def kD(Cl:Bool):DV->DV->my
 |.v (.int k a),.v (.int k' b)=>⟨k=k',.v (.int k (if Cl then max a b else min a b)),none⟩
 |_,_=>cb
def dT(ab:bA):DV->Option (List (ar))
 |.v (.sl an)=>some an
 |.aF=>some []
 |.aQ r aX=>match ab r with
  |some (.aR bi _ _ an)=>if aX=bi then some an else none
  |_=>none
 |.qi r aX lo n=>match ab r with
  |some (.aR bi _ _ an)=>if aX=bi then some ((an.drop lo).take n)else none
  |_=>none
 |.v (.mb (.slice _ 0 _))=>some []
 |_=>none
def cw(bytes n:Nat):Prop:=n*bytes<=140737488355328/\n<=140737488355328
def ff(e sz bytes:Nat)(name:Nat)(ab:bA)(x y:DV):my:=
 match dT ab y with
 |none=>cb
 |some ys=>
  match x with
  |.aF=>⟨(∀r∈ys,r.length=sz)/\cw bytes ys.length,.aQ name 0,some (name,.aR 0 e sz ys)⟩
  |.aQ r aX=>match ab r with
   |some (.aR bi e' fS an)=>⟨aX=bi/\e'=e/\fS=sz/\(∀r∈ys,r.length=sz)/\cw bytes (an.length+ys.length),.aQ r (aX+1),some (r,.aR (aX+1) e sz (an++ys))⟩
   |_=>cb
  |.qi r aX 0 n=>match ab r with
   |some (.aR bi e' fS an)=>⟨aX=bi/\e'=e/\fS=sz/\(∀r∈ys,r.length=sz)/\cw bytes (n+ys.length),.aQ r (aX+1),some (r,.aR (aX+1) e sz (an.take n++ys))⟩
   |_=>cb
  |_=>cb
def jg(e sz bytes:Nat)(zero:ar)(name:Nat):DV->my
 |.v (.int _ n)=>⟨0<=n/\zero.length=sz/\cw bytes n.toNat,.aQ name 0,some (name,.aR 0 e sz (List.replicate n.toNat zero))⟩
 |_=>cb
def yR:T->DV
 |.sl []=>.aF
 |t=>.v t
def ef(sz bytes:Nat)(zero:ar)(name:Nat):DV->my
 |.v (.int _ n)=>⟨0<=n/\zero.length=sz/\cw bytes n.toNat,.Al name n.toNat,some (name,.box (List.replicate n.toNat (zero.map yR)).flatten)⟩
 |_=>cb
def gJ(sz:Nat)(ab:bA)(x y:DV):my:=
 match dT ab y with
 |none=>cb
 |some ys=>
  match x with
  |.aQ r aX=>match ab r with
   |some (.aR bi e fS an)=>⟨aX=bi/\fS=sz/\(∀r∈ys,r.length=sz),.v (.int .i64 (min ys.length an.length:Nat)),some (r,.aR aX e sz (bH an 0 (ys.take an.length)))⟩
   |_=>cb
  |.qi r aX lo n=>match ab r with
   |some (.aR bi e fS an)=>⟨aX=bi/\fS=sz/\(∀r∈ys,r.length=sz),.v (.int .i64 (min ys.length n:Nat)),some (r,.aR aX e sz (bH an lo (ys.take n)))⟩
   |_=>cb
  |_=>cb
def ej(kind:Nat)(neg:Bool)(ab:bA):DV->my
 |.v (.mb (.slice p _ _))=>⟨kind=0,.v (.bool (neg^^p.isNone)),none⟩
 |.v (.mb (.pointer p))=>⟨kind=1,.v (.bool (neg^^p.isNone)),none⟩
 |.v (.mb .nilFunc)=>⟨kind=2,.v (.bool (neg^^true)),none⟩
 |.v (.sl an)=>⟨kind=0/\an≠[],.v (.bool (neg^^false)),none⟩
 |.v (.fn (.func _) _)=>⟨kind=2,.v (.bool (neg^^false)),none⟩
 |.v (.box _)=>⟨kind=1,.v (.bool (neg^^false)),none⟩
 |.ptr _ _|.gq _ _|.jr _ _ _|.gU _ _ _ _=>⟨kind=1,.v (.bool (neg^^false)),none⟩
 |.uS (.func _) _=>⟨kind=2,.v (.bool (neg^^false)),none⟩
 |.aQ r aX=>match ab r with
  |some (.aR bi _ _ an)=>⟨kind=0/\aX=bi/\an≠[],.v (.bool (neg^^false)),none⟩
  |_=>cb
 |_=>cb
def kF:DV->DV->my
 |.v (.str s),.v (.int _ i)=>⟨0<=i/\i<s.size,.v (.int .u8 (s.data.getD i.toNat 0).toNat),none⟩
 |_,_=>cb
def cU(bB:List Sh)(agg:Bool):T->Prop
 |.agg as=>agg=true/\cT bB as
 |t=>agg=false/\cT bB [t]
def yw:bD->Option (ar)
 |[]=>some []
 |.v t::ds=>(yw ds).map (t::·)
 |_::_=>none
def pI:DV->Option T
 |.v t=>some t
 |.agg cs=>(yw cs).map .agg
 |_=>none
def sF(k:T)(es:List (Nat×T×DV)):Option (Nat×T×DV):=es.find? λe=>eF k e.2.1
def Am(k:T)(y:DV)(q8:Nat)(es:List (Nat×T×DV)):List (Nat×T×DV):=
 match es.findIdx? λe=>eF k e.2.1 with
 |some i=>es.modify i λe=>(e.1,e.2.1,y)
 |none=>es++[(q8,k,y)]
def mZ(k:T)(q8:Nat)(es:List (Nat×T×DV)):Nat:=
 match es.findIdx? λe=>eF k e.2.1 with
 |some _=>q8
 |none=>q8+1
def ad5(k:T)(es:List (Nat×T×DV)):List (Nat×T×DV):=
 match es.findIdx? λe=>eF k e.2.1 with
 |some i=>es.eraseIdx i
 |none=>es
def jB(bB:List Sh)(agg:Bool)(zero:DV)(ok:Bool)(ab:bA)(x k:DV):my:=
 match x,pI k with
 |.dQ r,some kt=>match ab r with
  |some (.map g7 lu _ es)=>⟨g7=bB/\lu=agg/\cU bB agg kt,
    match sF kt es with
    |some e=>if ok then .dh [e.2.2,.v (.bool true)]else e.2.2
    |none=>if ok then .dh [zero,.v (.bool false)]else zero,none⟩
  |_=>cb
 |_,_=>cb
def fL(bB:List Sh)(agg:Bool)(ab:bA)(x k y:DV):my:=
 match x,pI k with
 |.dQ r,some kt=>match ab r with
  |some (.map g7 lu c es)=>⟨g7=bB/\lu=agg/\cU bB agg kt/\lD y,.undef,some (r,.map bB agg (mZ kt c es) (Am kt y c es))⟩
  |_=>cb
 |_,_=>cb
def ad6(k:T)(z:DV)(q8:Nat)(es:List (Nat×T×DV)):List (Nat×T×DV):=
 match es.findIdx? λe=>eF k e.2.1 with
 |some _=>es
 |none=>es++[(q8,k,z)]
def ad7(k:T)(z:DV)(q8:Nat)(es:List (Nat×T×DV)):DV:=
 match sF k es with
 |some e=>.dh [e.2.2,.v (.int .i64 e.1)]
 |none=>.dh [z,.v (.int .i64 q8)]
def fM(bB:List Sh)(agg:Bool)(zero:DV)(ab:bA)(x k:DV):my:=
 match x,pI k with
 |.dQ r,some kt=>match ab r with
  |some (.map g7 lu c es)=>⟨g7=bB/\lu=agg/\cU bB agg kt,
    ad7 kt zero c es,some (r,.map bB agg (mZ kt c es) (ad6 kt zero c es))⟩
  |_=>cb
 |_,_=>cb
def ad8(b:Int)(y:DV)(es:List (Nat×T×DV)):Option (List (Nat×T×DV)):=
 (es.findIdx? λe=>(e.1:Int)==b).map λi=>es.modify i λe=>(e.1,e.2.1,y)
def b0(ab:bA)(x s y:DV):my:=
 match x,s with
 |.dQ r,.v (.int _ b)=>match ab r with
  |some (.map bB agg c es)=>match ad8 b y es with
   |some kg=>⟨True,.undef,some (r,.map bB agg c kg)⟩
   |none=>cb
  |_=>cb
 |_,_=>cb
def fN(bB:List Sh)(agg:Bool)(ab:bA)(x k:DV):my:=
 match x,pI k with
 |.dQ r,some kt=>match ab r with
  |some (.map g7 lu c es)=>⟨g7=bB/\lu=agg/\cU bB agg kt,.v (.dh []),some (r,.map bB agg c (ad5 kt es))⟩
  |_=>cb
 |_,_=>cb
def m0(ab:bA):DV->my
 |.dQ r=>match ab r with
  |some (.map _ _ _ es)=>⟨True,.v (.int .i64 es.length),none⟩
  |_=>cb
 |_=>cb
def iG(name:Nat)(ab:bA):DV->my
 |.dQ r=>match ab r with
  |some (.map _ _ c _)=>⟨True,.c8 name,some (name,.c8 r c [] c)⟩
  |_=>cb
 |_=>cb
def iH(ab:bA):DV->my
 |.c8 r=>match ab r with
  |some (.c8 m _ seen ad4)=>match ab m,seen.getLast? with
   |some (.map _ _ c es),some b=>match es.find? λe=>e.1==b with
    |some e=>⟨c=ad4,.dh [.v e.2.1,e.2.2],none⟩
    |none=>cb
   |_,_=>cb
  |_=>cb
 |_=>cb
def lF(Γ:gP)(f:FuncId)(ab:bA)(args:bD):my:=
 match Γ f with
 |some s=>⟨oa s.gu ab args/\s.pre (fR ab args),.v (s.fn (fR ab args)),none⟩
 |none=>cb
mutual
def aS:DV->bY
 |.ptr r _|.aQ r _|.gU r _ _ _|.dQ r|.c8 r|.qi r _ _ _|.Al r _=>[r]
 |.agg cs|.dh cs|.uS _ cs=>ca cs
 |_=>[]
def ca:bD->bY
 |[]=>[]
 |d::ds=>aS d++ca ds
end
def kO(ab:bA)(args:bD):bA:=λn=>if n∈ca args then ab n else none
def m4(k:bD->bA->fp)(args:bD)(ab:bA):Prop:=
 ∀ay,(∀n∈ca args,ay n=ab n)->(k args ay).ok/\(k args ay).ab=ay/\(k args ay).val=(k args (kO ab args)).val
def kP(Γ:gP)(f:FuncId)(ab:bA)(args:bD):my:=
 match Γ f with
 |some s=>match s.st with
  |some k=>⟨m4 k args ab,(k args (kO ab args)).val,none⟩
  |none=>cb
 |none=>cb
def An{Γ:gP}{f:FuncId}{ab ay:bA}{args:bD}(h:∀n∈ca args,ay n=ab n):kP Γ f ay args=kP Γ f ab args:=by
 have h1:kO ay args=kO ab args:=by
  funext n;unfold kO;split
  ·rename_i hn;exact h n hn
  ·rfl
 have h2:∀k,m4 k args ay=m4 k args ab:=by
  intro k;unfold m4;rw[h1];apply propext;constructor
  ·exact λH o ho=>H o λn hn=>(ho n hn).trans (h n hn).symm
  ·exact λH o ho=>H o λn hn=>(ho n hn).trans (h n hn)
 unfold kP;simp only[h1,h2]
def kQ(Γ:gP)(f:FuncId)(name:Nat)(ab:bA)(args:bD):my:=
 match Γ f with
 |some s=>match s.fresh,s.fn (fR ab args)with
  |some (e,sz),.sl an=>⟨oa s.d5 ab args/\s.pre (fR ab args),.aQ name 0,some (name,.aR 0 e sz an)⟩
  |_,_=>cb
 |none=>cb
def cj(Γ:gP)(d:mQ)(name:Nat)(ρ:cQ)(ab:bA):my:=
 match d with
 |.jS x=>⟨True,x.ev ρ,none⟩
 |.pick c a b=>match c.ev ρ with
  |.v (.bool t)=>⟨True,if t then a.ev ρ else b.ev ρ,none⟩
  |_=>cb
 |.alloc zero=>⟨True,.ptr name 0,some (name,.box zero)⟩
 |.box x=>⟨lD (x.ev ρ),.ptr name 0,some (name,.box (cellsOf (x.ev ρ)))⟩
 |.build zero parts=>⟨oe zero.length (parts.map λp=>(p.1,p.2.1,p.2.2.ev ρ)),.agg (pQ zero (parts.map λp=>(p.1,p.2.1,p.2.2.ev ρ))),none⟩
 |.bslice len sz zero parts=>
  if len=0 then⟨parts=[],.aF,none⟩else
  ⟨oe (len*sz) (parts.map λp=>(p.1,p.2.1,p.2.2.ev ρ))/\fc (pQ zero (parts.map λp=>(p.1,p.2.1,p.2.2.ev ρ))),
   .v (.sl (dW sz len (fR (λ_=>none) (pQ zero (parts.map λp=>(p.1,p.2.1,p.2.2.ev ρ)))))),none⟩
 |.load n agg x=>eE n agg ab (x.ev ρ)
 |.store n x y=>jf n ab (y.ev ρ) (x.ev ρ)
 |.bin op x y=>og op (x.ev ρ) (y.ev ρ)
 |.eqT neg agg bB x y=>⟨yg true ab (x.ev ρ)/\yg true ab (y.ev ρ)/\(vV neg agg bB (nR ab (x.ev ρ)) (nR ab (y.ev ρ))).ok,(vV neg agg bB (nR ab (x.ev ρ)) (nR ab (y.ev ρ))).val,none⟩
 |.un op x=>HI op (x.ev ρ)
 |.conv k x=>match x.ev ρ with
  |.v (.int _ n)=>⟨True,.v (.int k (k.wrap n)),none⟩
  |_=>cb
 |.addOff k x=>fe k (x.ev ρ)
 |.nilCheck x=>iF (x.ev ρ)
 |.idxAddr sz x i=>mX sz ab (x.ev ρ) (i.ev ρ)
 |.arrAddr len sz x i=>iw len sz (x.ev ρ) (i.ev ρ)
 |.field off n agg x=>kN off n agg (x.ev ρ)
 |.slice sz x lo hi=>gv sz (lo.map (·.ev ρ)) (hi.map (·.ev ρ)) ab (x.ev ρ)
 |.extract i x=>mY i (x.ev ρ)
 |.call f args=>lF Γ f ab (args.map (·.ev ρ))
 |.callF f args=>kQ Γ f name ab (args.map (·.ev ρ))
 |.callR f args=>kP Γ f ab (args.map (·.ev ρ))
 |.callS _ _|.callv _ _|.entryM _=>cb
 |.len x=>qj ab (x.ev ρ)
 |.lenS x=>o9 (x.ev ρ)
 |.minmax m x y=>kD m (x.ev ρ) (y.ev ρ)
 |.append e sz bytes x y=>ff e sz bytes name ab (x.ev ρ) (y.ev ρ)
 |.mkSlice e sz bytes zero n=>jg e sz bytes zero name (n.ev ρ)
 |.mkSliceB e sz bytes zero n=>ef sz bytes zero name (n.ev ρ)
 |.mkFn f bP=>⟨dm (bP.map (·.ev ρ)),if rj (bP.map (·.ev ρ))then .v (.fn f (fR (λ_=>none) (bP.map (·.ev ρ))))else .uS f (bP.map (·.ev ρ)),none⟩
 |.mkMap bB agg=>⟨True,.dQ name,some (name,.map bB agg 0 [])⟩
 |.lookup bB agg zero ok x k=>jB bB agg zero ok ab (x.ev ρ) (k.ev ρ)
 |.mapUpd bB agg x k y=>fL bB agg ab (x.ev ρ) (k.ev ρ) (y.ev ρ)
 |.mapDel bB agg x k=>fN bB agg ab (x.ev ρ) (k.ev ρ)
 |.mapEnt bB agg z x k=>fM bB agg z ab (x.ev ρ) (k.ev ρ)
 |.entSt x s y=>b0 ab (x.ev ρ) (s.ev ρ) (y.ev ρ)
 |.lenM x=>m0 ab (x.ev ρ)
 |.rangeM x=>iG name ab (x.ev ρ)
 |.copy sz x y=>gJ sz ab (x.ev ρ) (y.ev ρ)
 |.isNil kind neg x=>ej kind neg ab (x.ev ρ)
 |.indexS x i=>kF (x.ev ρ) (i.ev ρ)
 |.fail=>cb
def mR:mQ->Bool
 |.callS _ _|.callv _ _|.entryM _=>true
 |_=>false
structure abg where
 ok:Prop
 val:DV
 ab:bA
 todo:List (ar)
class cG where
 k:Option (Nat×(bD->bA->fp))
 aS:∀l k',k=some (l,k')->∀args ab,(k' args ab).ok->∀x,ab x=none->(k' args ab).ab x=none
instance(priority:=low)HJ:cG:=⟨none,λ_ _ h=>by cases h⟩
@[simp] def adk: @cG.k HJ=none:=rfl
def Ky:DV->Prop
 |.v (.bool _)=>True
 |_=>False
def Ef:DV->Bool
 |.v (.bool b)=>b
 |_=>false
@[simp] def ad9(b:Bool):Ky (.v (.bool b))=True:=rfl
@[simp] def NH(b:Bool):Ef (.v (.bool b))=b:=rfl
variable [cG]
def ku(Γ:gP)(d:mQ)(ρ:cQ)(ab:bA)(todo:List (ar)):abg:=
 match d with
 |.callS f args=>match Γ f with
  |some s=>match s.st with
   |some k=>⟨(k (args.map (·.ev ρ)) ab).ok,(k (args.map (·.ev ρ)) ab).val,(k (args.map (·.ev ρ)) ab).ab,todo⟩
   |none=>⟨False,.undef,ab,todo⟩
  |none=>⟨False,.undef,ab,todo⟩
 |.callv x args=>match x.ev ρ with
  |.v (.fn (.func f) bP)=>match Γ f with
   |some s=>match s.st with
    |some k=>⟨(k (args.map (·.ev ρ)++bP.map .v) ab).ok,(k (args.map (·.ev ρ)++bP.map .v) ab).val,(k (args.map (·.ev ρ)++bP.map .v) ab).ab,todo⟩
    |none=>⟨(lF Γ f ab (args.map (·.ev ρ)++bP.map .v)).ok,(lF Γ f ab (args.map (·.ev ρ)++bP.map .v)).val,ab,todo⟩
   |none=>⟨False,.undef,ab,todo⟩
  |.uS (.func f) bP=>match Γ f with
   |some s=>match s.st with
    |some k=>⟨(k (args.map (·.ev ρ)++bP) ab).ok,(k (args.map (·.ev ρ)++bP) ab).val,(k (args.map (·.ev ρ)++bP) ab).ab,todo⟩
    |none=>⟨False,.undef,ab,todo⟩
   |none=>⟨False,.undef,ab,todo⟩
  |.vU=>match todo with
   |x::rest=>⟨cG.k=none/\oa false ab (args.map (·.ev ρ))/\fR ab (args.map (·.ev ρ))=x/\ab=(λ_=>none),.v (.bool true),ab,rest⟩
   |[]=>⟨False,.undef,ab,todo⟩
  |.v (.mb v)=>match cG.k with
   |some (l,k)=>⟨v=.func (.yield l) #[] #[]/\todo≠[]/\(k (args.map (·.ev ρ)) ab).ok/\Ky (k (args.map (·.ev ρ)) ab).val,(k (args.map (·.ev ρ)) ab).val,(k (args.map (·.ev ρ)) ab).ab,if Ef (k (args.map (·.ev ρ)) ab).val then todo else []⟩
   |none=>⟨False,.undef,ab,todo⟩
  |_=>⟨False,.undef,ab,todo⟩
 |.entryM x=>⟨(iH ab (x.ev ρ)).ok,(iH ab (x.ev ρ)).val,ab,todo⟩
 |_=>⟨False,.undef,ab,todo⟩
end
open Go.RowKit
section
variable{base r:Nat}{M:dJ}{ds:bD}{vs:List Value}{w0:World}
structure Fr(base:Nat)(M:dJ)(w0 w:World):Prop where
 os:w.os=w0.os
 tape:w.tape=w0.tape
 output:w.output=w0.output
 gz:base<=w0.heap.size
 size:w0.heap.size<=w.heap.size
 block:∀k,k<base->¬M k->w.heap[k]? =w0.heap[k]?
 drawn:w0.drawn<=w.drawn
def Fr.refl{w:World}(h:base<=w.heap.size):Fr base M w w:=⟨rfl,rfl,rfl,h,iV _,λ_ _ _=>rfl,iV _⟩
def Fr.trans{a b c:World}(h:Fr base M a b)(k:Fr base M b c):Fr base M a c:=
 ⟨k.os.trans h.os,k.tape.trans h.tape,k.output.trans h.output,h.gz,wB h.size k.size,λi hi hm=>(k.block i hi hm).trans (h.block i hi hm),wB h.drawn k.drawn⟩
structure Loc where
 gp:Nat->Nat
 sl:Nat->Value
 yl:Nat:=0
def aP:Value->Option Nat
 |.slice (some a) _ c=>if c=0 then none else some a.block
 |_=>none
def Loc.own(L:Loc)(r:Nat):Ob->Option Nat
 |.aR _ _ _ _=>aP (L.sl r)
 |_=>some (L.gp r)
def WW(W:dJ)(ab:bA)(L:Loc)(b:Nat):Prop:=W b\/∃r o,ab r=some o/\L.own r o=some b
section
variable(w:World)(W:dJ)(ab:bA)(L:Loc)
mutual
def ap:DV->Value->Prop
 |.undef,_=>True
 |.skip,x=>x=Go.undef
 |.v t,x=>aO w (WW W ab L) t x
 |.aF,x=>∃a:Option Addr,x=.slice a 0 0
 |.ptr r off,x=>(∃cs,ab r=some (.box cs))/\x=.pointer (some ⟨L.gp r,off,none⟩)
 |.aQ r aX,x=>(∃(p:Option Addr) (n c:Nat),x=.slice p n c)/\∃bi e sz an,ab r=some (.aR bi e sz an)/\aX<=bi/\(aX=bi->x=L.sl r)
 |.jr an i off,x=>∃b o sz,x=.pointer (some ⟨b,o+i.toNat*sz+off,none⟩)/\b<w.heap.size/\¬WW W ab L b/\aT w (WW W ab L) sz b o an/\0<=i/\i<an.length
 |.gq cs off,x=>∃b o,x=.pointer (some ⟨b,o+off,none⟩)/\b<w.heap.size/\¬WW W ab L b/\cS w (WW W ab L) b o cs
 |.gU r aX i off,x=>(∃b o,x=.pointer (some ⟨b,o,none⟩))/\∃bi e sz an,ab r=some (.aR bi e sz an)/\aX<=bi/\(aX=bi->∃g,aP (L.sl r)=some g/\x=.pointer (some ⟨g,i.toNat*sz+off,none⟩)/\0<=i/\i<an.length)
 |.agg cs,x=>∃vs,x=.agg vs/\aH cs vs.toList
 |.vU,x=>x=.func (.yield L.yl) #[] #[]
 |.dQ r,x=>(∃bB agg c es,ab r=some (.map bB agg c es))/\x=.map (some (L.gp r))
 |.c8 r,x=>(∃m s sn l,ab r=some (.c8 m s sn l))/\x=.pointer (some ⟨L.gp r,0,none⟩)
 |.dh ds,x=>∃vs,x=.tuple vs/\db ds vs.toList
 |.qi r aX lo n,x=>(∃(p:Option Addr) (c:Nat),x=.slice p n c)/\∃bi e sz an,ab r=some (.aR bi e sz an)/\aX<=bi/\(aX=bi->lo+n<=an.length/\∃p cap p2,L.sl r=.slice p an.length cap/\x=.slice p2 n (cap-lo)/\(lo<cap->p2=p.map (·.add (lo*sz))))
 |.uS f bP,x=>∃vs,x=.func f #[] vs/\aH bP vs.toList
 |.Al r n,x=>(∃cs,ab r=some (.box cs))/\x=.slice (some ⟨L.gp r,0,none⟩) n n
def aH:bD->List Value->Prop
 |[],vs=>vs=[]
 |d::ds,vs=>∃x fW,vs=x::fW/\x.oneCell'=true/\ap d x/\aH ds fW
def db:bD->List Value->Prop
 |[],vs=>vs=[]
 |d::ds,vs=>∃x fW,vs=x::fW/\ap d x/\db ds fW
end
def aY:List (Nat×T×DV)->List MapEntry->Prop
 |[],xs=>xs=[]
 |e::es,xs=>∃x jU,xs=x::jU/\x.born=e.1/\aO w (WW W ab L) e.2.1 x.key/\ap w W ab L e.2.2 x.val/\aY es jU
def lp(base:Nat)(M:dJ)(r:Nat):Ob->Prop
 |.box cs=>∃c e,w.heap[L.gp r]? =some (.cells c e (0,0))/\aH w W ab L cs c.toList/\(base<=L.gp r\/M (L.gp r))
 |.aR _ e sz an=>0<sz/\(∀x∈an,x.length=sz)/\(∀g,aP (L.sl r)=some g->base<=g\/M g)/\
   ((an=[]/\∃a:Option Addr,L.sl r=.slice a 0 0)\/
    ∃g cap dg,L.sl r=.slice (some ⟨g,0,none⟩) an.length cap/\0<cap/\w.heap[g]? =some (.cells dg e (0,0))/\an.length<=cap/\cap<=maxLen/\dg.size=cap*sz/\
     aN w (WW W ab L) an.flatten (dg.toList.take (an.length*sz)))
 |.map bB agg c es=>∃aR,w.heap[L.gp r]? =some (.map aR c)/\aY w W ab L es aR.toList/\(∀e∈es,cU bB agg e.2.1)/\(∀e∈es,e.1<c)/\(es.map (·.1)).Nodup/\(base<=L.gp r\/M (L.gp r))
 |.c8 m s sn l=>w.heap[L.gp r]? =some (.mapIter (some (L.gp m)) s sn.toArray l)/\(∃bB agg c es,ab m=some (.map bB agg c es))/\(base<=L.gp r\/M (L.gp r))
end
variable [bh]
structure bJ(base:Nat)(W M:dJ)(w0:World)(ab:bA)(w:World)(L:Loc):Prop where
 fr:Fr base M w0 w
 ob:∀r o,ab r=some o->lp w W ab L base M r o
 apart:∀r r' o o' b,r≠r'->ab r=some o->ab r'=some o'->L.own r o=some b->L.own r' o'≠some b
 oh:∀r o b,ab r=some o->L.own r o=some b->¬W b
 under:∀b,W b->b<base
 gl:vT w (WW W ab L)
structure uU(W W':dJ)(ab:bA)(L:Loc)(w:World)(ay:bA)(L':Loc)(w':World):Prop where
 bV:ch (WW W ab L) w w'
 sub:∀b,b<w.heap.size->WW W' ay L' b->WW W ab L b
 fix:∀r o,ab r=some o->o.kind≠1->L'.gp r=L.gp r/\∃o',ay r=some o'/\o'.kind=o.kind
 aR:∀r aX e sz an,ab r=some (.aR aX e sz an)->∃bi e' fS di,ay r=some (.aR bi e' fS di)/\aX<=bi/\(bi=aX->L'.sl r=L.sl r/\fS=sz/\di.length=an.length)
 yl:L'.yl=L.yl
def aea{o:Ob}(h:o.kind=0):∃cs,o=.box cs:=by cases o<;>first|exact⟨_,rfl⟩|cases h
def aeb{o:Ob}(h:o.kind=2):∃bB agg c es,o=.map bB agg c es:=by cases o<;>first|exact⟨_,_,_,_,rfl⟩|cases h
def aec{o:Ob}(h:o.kind=3):∃m s sn l,o=.c8 m s sn l:=by cases o<;>first|exact⟨_,_,_,_,rfl⟩|cases h
section
variable{W W':dJ}{ab:bA}{L:Loc}{w:World}{ay:bA}{L':Loc}{w':World}
def uU.box(h:uU W W' ab L w ay L' w')(r:Nat)(cs:bD)(hr:ab r=some (.box cs)):L'.gp r=L.gp r/\∃sN,ay r=some (.box sN):=by
 obtain⟨h1,o',h2,h3⟩:=h.fix r _ hr (by simp[Ob.kind]);obtain⟨sN,rfl⟩:=aea h3;exact⟨h1,sN,h2⟩
def uU.mp(h:uU W W' ab L w ay L' w')(r:Nat)(hr:∃bB agg c es,ab r=some (.map bB agg c es)):L'.gp r=L.gp r/\∃bB agg c es,ay r=some (.map bB agg c es):=by
 obtain⟨_,_,_,_,hr⟩:=hr;obtain⟨h1,o',h2,h3⟩:=h.fix r _ hr (by simp[Ob.kind]);obtain⟨a,b,c,d,rfl⟩:=aeb h3;exact⟨h1,a,b,c,d,h2⟩
def uU.it(h:uU W W' ab L w ay L' w')(r:Nat)(hr:∃m s sn l,ab r=some (.c8 m s sn l)):L'.gp r=L.gp r/\∃m s sn l,ay r=some (.c8 m s sn l):=by
 obtain⟨_,_,_,_,hr⟩:=hr;obtain⟨h1,o',h2,h3⟩:=h.fix r _ hr (by simp[Ob.kind]);obtain⟨a,b,c,d,rfl⟩:=aec h3;exact⟨h1,a,b,c,d,h2⟩
end
abbrev fX(W:dJ)(ab:bA)(L:Loc)(w:World)(ay:bA)(L':Loc)(w':World):Prop:=uU W W ab L w ay L' w'
def fX.bZ{W:dJ}{ab:bA}{L:Loc}{w w':World}(h:ch (WW W ab L) w w'):fX W ab L w ab L w':=
 ⟨h,λ_ _ x=>x,λ_ o hr _=>⟨rfl,o,hr,rfl⟩,λ_ aX e sz an hr=>⟨aX,e,sz,an,hr,iV _,λ_=>⟨rfl,rfl,rfl⟩⟩,rfl⟩
mutual
def ap.er{W W':dJ}{ab ay:bA}{L L':Loc}{w w':World}(h:uU W W' ab L w ay L' w'):∀(d:DV) (x:Value),ap w W ab L d x->ap w' W' ay L' d x
 |.undef,x,r=>by simp[ap]
 |.skip,x,r=>by simpa [ap]using r
 |.v t,x,r=>by
  simp only[ap]at r⊢;exact aO.aD h.bV.toKeepsC h.sub t x r
 |.aF,x,r=>by simpa [ap]using r
 |.ptr n off,x,r=>by
  simp only[ap]at r⊢;obtain⟨⟨cs,hc⟩,hx⟩:=r;have hb:=h.box n cs hc;exact⟨hb.2,by rw[hb.1];exact hx⟩
 |.aQ n aX,x,r=>by
  simp only[ap]at r⊢;obtain⟨Cm,bi,e,sz,an,ho,iU,hx⟩:=r;obtain⟨mc,e2,yS,jh,lm,Cn,hs⟩:=h.aR n bi e sz an ho;refine⟨Cm,mc,e2,yS,jh,lm,wB iU Cn,λhv=>?_⟩;have h1:mc=bi:=by omega
  rw[(hs h1).1];exact hx (by omega)
 |.jr an i off,x,r=>by
  simp only[ap]at r⊢;obtain⟨b,o,sz,hx,hb,hn,hr,h0,h1⟩:=r;exact⟨b,o,sz,hx,MG hb h.bV.size,λc=>hn (h.sub b hb c),aT.aD h.bV.toKeepsC h.sub hb hn sz o an hr,h0,h1⟩
 |.gq cs off,x,r=>by
  simp only[ap]at r⊢;obtain⟨b,o,hx,hb,hn,hr⟩:=r;exact⟨b,o,hx,MG hb h.bV.size,λc=>hn (h.sub b hb c),cS.aD h.bV.toKeepsC h.sub hb hn o cs hr⟩
 |.gU n aX i off,x,r=>by
  simp only[ap]at r⊢;obtain⟨Cm,bi,e,sz,an,ho,iU,hx⟩:=r;obtain⟨mc,e2,yS,jh,lm,Cn,hs⟩:=h.aR n bi e sz an ho;refine⟨Cm,mc,e2,yS,jh,lm,wB iU Cn,λhv=>?_⟩;have h1:mc=bi:=by omega
  obtain⟨g,hg,hp,h0,hl⟩:=hx (by omega);obtain⟨s1,s2,s3⟩:=hs h1;exact⟨g,by rw[s1];exact hg,by rw[s2];exact hp,h0,by rw[s3];exact hl⟩
 |.agg cs,x,r=>by
  simp only[ap]at r⊢;obtain⟨vs,hv,hr⟩:=r;exact⟨vs,hv,aH.er h cs _ hr⟩
 |.vU,x,r=>by simp only[ap]at r⊢;rw[h.yl];exact r
 |.dQ n,x,r=>by
  simp only[ap]at r⊢;have:=h.mp n r.1;exact⟨this.2,by rw[this.1];exact r.2⟩
 |.c8 n,x,r=>by
  simp only[ap]at r⊢;have:=h.it n r.1;exact⟨this.2,by rw[this.1];exact r.2⟩
 |.dh ds,x,r=>by
  simp only[ap]at r⊢;obtain⟨vs,hv,hr⟩:=r;exact⟨vs,hv,db.er h ds _ hr⟩
 |.uS f ds,x,r=>by
  simp only[ap]at r⊢;obtain⟨vs,hv,hr⟩:=r;exact⟨vs,hv,aH.er h ds _ hr⟩
 |.Al n m,x,r=>by
  simp only[ap]at r⊢;obtain⟨⟨cs,hc⟩,hx⟩:=r;have hb:=h.box n cs hc;exact⟨hb.2,by rw[hb.1];exact hx⟩
 |.qi n aX lo m,x,r=>by
  simp only[ap]at r⊢;obtain⟨Cm,bi,e,sz,an,ho,iU,hx⟩:=r;obtain⟨mc,e2,yS,jh,lm,Cn,hs⟩:=h.aR n bi e sz an ho;refine⟨Cm,mc,e2,yS,jh,lm,wB iU Cn,λhv=>?_⟩;have h1:mc=bi:=by omega
  obtain⟨k1,p,cap,p2,k2,k3,k4⟩:=hx (by omega);obtain⟨s1,s2,s3⟩:=hs h1;exact⟨by rw[s3];exact k1,p,cap,p2,by rw[s1,s3];exact k2,k3,by rw[s2];exact k4⟩
def aH.er{W W':dJ}{ab ay:bA}{L L':Loc}{w w':World}(h:uU W W' ab L w ay L' w'):∀(ds:bD) (xs:List Value),aH w W ab L ds xs->aH w' W' ay L' ds xs
 |[],xs,r=>by simpa [aH]using r
 |d::ds,xs,r=>by
  simp only[aH]at r⊢;obtain⟨x,jU,hx,h1,hr,jy⟩:=r;exact⟨x,jU,hx,h1,ap.er h d x hr,aH.er h ds jU jy⟩
def db.er{W W':dJ}{ab ay:bA}{L L':Loc}{w w':World}(h:uU W W' ab L w ay L' w'):∀(ds:bD) (xs:List Value),db w W ab L ds xs->db w' W' ay L' ds xs
 |[],xs,r=>by simpa [db]using r
 |d::ds,xs,r=>by
  simp only[db]at r⊢;obtain⟨x,jU,hx,hr,jy⟩:=r;exact⟨x,jU,hx,ap.er h d x hr,db.er h ds jU jy⟩
end
def aY.er{W W':dJ}{ab ay:bA}{L L':Loc}{w w':World}(h:uU W W' ab L w ay L' w'):∀(es:List (Nat×T×DV)) (xs:List MapEntry),aY w W ab L es xs->aY w' W' ay L' es xs
 |[],xs,r=>by simpa [aY]using r
 |e::es,xs,r=>by
  simp only[aY]at r⊢;obtain⟨x,jU,hx,h0,h1,hr,jy⟩:=r;exact⟨x,jU,hx,h0,aO.aD h.bV.toKeepsC h.sub _ _ h1,ap.er h _ _ hr,aY.er h es jU jy⟩
section
variable{w:World}{W:dJ}{ab:bA}{L:Loc}
def aH.length:∀{ds:bD} {vs:List Value},aH w W ab L ds vs->vs.length=ds.length
 |[],_,h=>by simp only[aH]at h;simp[h]
 |_::ds,_,h=>by
  simp only[aH]at h;obtain⟨v,fW,rfl,_,_,hr⟩:=h;simp[aH.length hr]
def aH.get:∀{ds:bD} {vs:List Value} {i:Nat} {d:DV},aH w W ab L ds vs->ds[i]? =some d->∃v,vs[i]? =some v/\v.oneCell'=true/\ap w W ab L d v
 |[],_,_,_,_,h=>by simp at h
 |x::xs,_,0,t,hr,h=>by
  simp only[aH]at hr;obtain⟨v,fW,rfl,h1,h2,_⟩:=hr;simp only[pd,bN]at h;subst h;exact⟨v,rfl,h1,h2⟩
 |x::xs,_,i+1,t,hr,h=>by
  simp only[aH]at hr;obtain⟨v,fW,rfl,_,_,hr⟩:=hr;simpa using aH.get hr (by simpa using h)
def aH.append:∀{ds md:bD} {vs fW:List Value},aH w W ab L ds vs->aH w W ab L md fW->aH w W ab L (ds++md) (vs++fW)
 |[],_,_,_,h,h'=>by simp only[aH]at h;subst h;simpa using h'
 |d::ds,_,_,_,h,h'=>by
  simp only[aH]at h;obtain⟨v,fW,rfl,h1,h2,hr⟩:=h;simp only[CE,aH];exact⟨v,_,rfl,h1,h2,aH.append hr h'⟩
def aH.take(n:Nat)(h:aH w W ab L ds vs):aH w W ab L (ds.take n) (vs.take n):=by
 induction n generalizing ds vs with
 |zero=>simp[aH]
 |succ n ih=>
  cases ds with
  |nil=>simp only[aH]at h;subst h;simp[aH]
  |cons d ds=>
   simp only[aH]at h;obtain⟨v,fW,rfl,h1,h2,hr⟩:=h;simp only[ZcT,aH];exact⟨v,_,rfl,h1,h2,ih hr⟩
def aH.drop(n:Nat)(h:aH w W ab L ds vs):aH w W ab L (ds.drop n) (vs.drop n):=by
 induction n generalizing ds vs with
 |zero=>simpa using h
 |succ n ih=>
  cases ds with
  |nil=>simp only[aH]at h;subst h;simp[aH]
  |cons d ds=>
   simp only[aH]at h;obtain⟨v,fW,rfl,h1,h2,hr⟩:=h;simpa using ih hr
def aN.append{ts Eo:ar}:∀{vs fW:List Value},aN w W ts vs->aN w W Eo fW->aN w W (ts++Eo) (vs++fW):=by
 induction ts with
 |nil=>intro vs fW h h';simp only[aN]at h;subst h;simpa using h'
 |cons d ds ih=>
  intro vs fW h h';simp only[aN]at h;obtain⟨v,fW,rfl,h1,h2,hr⟩:=h;simp only[CE,aN];exact⟨v,_,rfl,h1,h2,ih hr h'⟩
def aH.m5:∀{ts:ar} {vs:List Value},aN w (WW W ab L) ts vs->aH w W ab L (ts.map .v) vs
 |[],_,h=>by simpa [aN,aH]using h
 |t::ts,_,h=>by
  simp only[aN]at h;obtain⟨v,fW,rfl,h1,h2,hr⟩:=h;simp only[l8,aH];exact⟨v,fW,rfl,h1,by simpa [ap]using h2,aH.m5 hr⟩
def ap.cells{d:DV}{x:Value}(h:ap w W ab L d x)(hb:lD d):aH w W ab L (cellsOf d) x.cells.toList:=by
 have one:∀{d:DV} {x:Value},cellsOf d=[d]->x.oneCell'=true->ap w W ab L d x->aH w W ab L (cellsOf d) x.cells.toList:=by
  intro d x hc h1 h;rw[hc];simp only[aH];refine⟨x,[], ?_,h1,h,rfl⟩;cases x<;>first|rfl|(simp[Value.oneCell']at h1)
 cases d with
 |undef=>exact hb.elim
 |skip=>exact hb.elim
 |aF=>obtain⟨a,rfl⟩:=(by simpa only[ap]using h);exact one rfl rfl (by simp only[ap];exact⟨a,rfl⟩)
 |ptr r off=>have h':=h;simp only[ap]at h';obtain⟨_,rfl⟩:=h';exact one rfl rfl h
 |aQ r aX=>have h':=h;simp only[ap]at h';obtain⟨⟨p,n,c,rfl⟩,_⟩:=h';exact one rfl rfl h
 |jr an i off=>have h':=h;simp only[ap]at h';obtain⟨b,o,sz,rfl,_⟩:=h';exact one rfl rfl h
 |gq cs off=>have h':=h;simp only[ap]at h';obtain⟨b,o,rfl,_⟩:=h';exact one rfl rfl h
 |gU r aX i off=>have h':=h;simp only[ap]at h';obtain⟨⟨b,o,rfl⟩,_⟩:=h';exact one rfl rfl h
 |agg cs=>simp only[ap]at h;obtain⟨vs,rfl,h⟩:=h;simpa [cellsOf,Value.cells]using h
 |vU=>have h':=h;simp only[ap]at h';subst h';exact one rfl rfl h
 |dQ r=>have h':=h;simp only[ap]at h';obtain⟨_,rfl⟩:=h';exact one rfl rfl h
 |c8 r=>have h':=h;simp only[ap]at h';obtain⟨_,rfl⟩:=h';exact one rfl rfl h
 |dh ds=>exact hb.elim
 |uS f ds=>have h':=h;simp only[ap]at h';obtain⟨vs,rfl,_⟩:=h';exact one rfl rfl h
 |qi r aX lo n=>have h':=h;simp only[ap]at h';obtain⟨⟨p,c,rfl⟩,_⟩:=h';exact one rfl rfl h
 |Al r n=>have h':=h;simp only[ap]at h';obtain⟨_,rfl⟩:=h';exact one rfl rfl h
 |v t=>
  cases t with
  |agg cs=>simp only[ap,aO]at h;obtain⟨vs,rfl,h⟩:=h;simpa [cellsOf,Value.cells]using aH.m5 h
  |dh ts=>exact hb.elim
  |bool b=>have h':=h;simp only[ap,aO]at h';subst h';exact one rfl rfl h
  |int k n=>have h':=h;simp only[ap,aO]at h';subst h';exact one rfl rfl h
  |str s=>have h':=h;simp only[ap,aO]at h';subst h';exact one rfl rfl h
  |sl an=>
   have h':=h;simp only[ap,aO]at h';rcases h' with⟨_,a,c,rfl⟩|⟨b,o,cap,sz,rfl,_⟩<;>exact one rfl rfl h
  |fn f bP=>have h':=h;simp only[ap,aO]at h';obtain⟨vs,rfl,_⟩:=h';exact one rfl rfl h
  |box cs=>have h':=h;simp only[ap,aO]at h';obtain⟨b,o,rfl,_⟩:=h';exact one rfl rfl h
  |mb y=>have h':=h;simp only[ap,aO]at h';subst h';exact one rfl hb h
end
def lp.lt{w:World}{W:dJ}{ab:bA}{L:Loc}{o:Ob}(h:lp w W ab L base M r o){b:Nat}(hb:L.own r o=some b):b<w.heap.size:=by
 cases o with
 |box cs=>
  obtain⟨c,e,hc,_⟩:=h;simp only[Loc.own,bN]at hb;subst hb;exact(kf.1 hc).1
 |aR aX e sz an=>
  obtain⟨_,_,_,h⟩:=h;simp only[Loc.own]at hb;rcases h with⟨_,a,ha⟩|⟨g,cap,dg,hv,hp,hg,_⟩
  ·rw[ha]at hb;cases a<;>simp[aP]at hb
  ·rw[hv]at hb;simp only[aP,mL (Fz.1 hp),bN]at hb;subst hb;exact(kf.1 hg).1
 |map bB agg c es=>
  obtain⟨aR,hc,_⟩:=h;simp only[Loc.own,bN]at hb;subst hb;exact(kf.1 hc).1
 |c8 m s sn l=>
  obtain⟨hc,_⟩:=h;simp only[Loc.own,bN]at hb;subst hb;exact(kf.1 hc).1
def lp.aed{w:World}{W:dJ}{ab:bA}{L:Loc}{o:Ob}(h:lp w W ab L base M r o){b:Nat}(hb:L.own r o=some b):base<=b\/M b:=by
 cases o with
 |box cs=>
  obtain⟨c,e,hc,_,hm⟩:=h;simp only[Loc.own,bN]at hb;subst hb;exact hm
 |aR aX e sz an=>
  obtain⟨_,_,hm,_⟩:=h;exact hm b hb
 |map bB agg c es=>
  obtain⟨aR,hc,_,_,_,_,hm⟩:=h;simp only[Loc.own,bN]at hb;subst hb;exact hm
 |c8 m s sn l=>
  obtain⟨hc,_,hm⟩:=h;simp only[Loc.own,bN]at hb;subst hb;exact hm
def lp.aD{w w':World}{W:dJ}{ab ay:bA}{L L':Loc}{o:Ob}(ha:fX W ab L w ay L' w')
  (h:lp w W ab L base M r o) (hZ:L'.gp r=L.gp r/\L'.sl r=L.sl r) (Ua:∀b,L.own r o=some b->w'.heap[b]? =w.heap[b]?):lp w' W ay L' base M r o:=by
 cases o with
 |box cs=>
  obtain⟨c,e,hc,hr,hm⟩:=h;refine⟨c,e, ?_,aH.er ha cs _ hr, ?_⟩
  ·rw[hZ.1,Ua _ rfl];exact hc
  ·rw[hZ.1];exact hm
 |aR aX e sz an=>
  obtain⟨fG,bX,hm,h⟩:=h;refine⟨fG,bX,by rw[hZ.2];exact hm, ?_⟩;rw[hZ.2];rcases h with h|⟨g,cap,dg,hv,hp,hg,h1,h2,h3,h4⟩
  ·exact .inl h
  ·refine .inr ⟨g,cap,dg,hv,hp, ?_,h1,h2,h3,aN.aD ha.bV.toKeepsC ha.sub _ _ h4⟩;rw[Ua g (by simp[Loc.own,hv,aP,Fz.1 hp])];exact hg
 |map bB agg c es=>
  obtain⟨aR,hc,hr,k1,k2,k3,hm⟩:=h;refine⟨aR, ?_,aY.er ha es _ hr,k1,k2,k3, ?_⟩
  ·rw[hZ.1,Ua _ rfl];exact hc
  ·rw[hZ.1];exact hm
 |c8 m s sn l=>
  obtain⟨hc,HK,hm⟩:=h;have:=ha.mp m HK;refine⟨?_,this.2, ?_⟩
  ·rw[hZ.1,this.1,Ua _ rfl];exact hc
  ·rw[hZ.1];exact hm
def Obj.plain:Obj->Prop
 |.cells _ _ _|.map _ _|.mapIter _ _ _ _=>True
 |_=>False
def lp.cells{w:World}{W:dJ}{ab:bA}{L:Loc}{o:Ob}(h:lp w W ab L base M r o){b:Nat}(hb:L.own r o=some b):∃x,w.heap[b]? =some x/\Obj.plain x:=by
 cases o with
 |box cs=>
  obtain⟨c,e,hc,_⟩:=h;simp only[Loc.own,bN]at hb;subst hb;exact⟨_,hc,trivial⟩
 |map bB agg c es=>
  obtain⟨aR,hc,_⟩:=h;simp only[Loc.own,bN]at hb;subst hb;exact⟨_,hc,trivial⟩
 |c8 m s sn l=>
  obtain⟨hc,_⟩:=h;simp only[Loc.own,bN]at hb;subst hb;exact⟨_,hc,trivial⟩
 |aR aX e sz an=>
  obtain⟨_,_,_,h⟩:=h;simp only[Loc.own]at hb;rcases h with⟨_,a,ha⟩|⟨g,cap,dg,hv,hp,hg,_⟩
  ·rw[ha]at hb;cases a<;>simp[aP]at hb
  ·rw[hv]at hb;simp only[aP,mL (Fz.1 hp),bN]at hb;subst hb;exact⟨_,hg,trivial⟩
def bQ(ab:bA):Option (Nat×Ob)->bA
 |none=>ab
 |some (r,o)=>λx=>if x=r then some o else ab x
def bJ.put{W:dJ}{w w':World}{ab:bA}{L L':Loc}{o':Ob}(h:bJ base W M w0 ab w L)
  (fY:Fr base M w0 w') (fG:w.heap.size<=w'.heap.size)
  (hL:∀x,x≠r->L'.gp x=L.gp x/\L'.sl x=L.sl x) (sH:L'.yl=L.yl)
  (NI:∀b,b<w.heap.size->(∀o,ab r=some o->L.own r o≠some b)->w'.heap[b]? =w.heap[b]?)
  (ia:∀b,L'.own r o'=some b->(∃o,ab r=some o/\L.own r o=some b)\/w.heap.size<=b)
  (ahx:∀o,ab r=some o->o.kind≠1->L'.gp r=L.gp r/\o'.kind=o.kind)
  (Fy:∀aX e sz an,ab r=some (.aR aX e sz an)->∃bi e' fS di,o'=.aR bi e' fS di/\aX<=bi/\(bi=aX->L'.sl r=L.sl r/\fS=sz/\di.length=an.length))
  (c9:fX W ab L w (bQ ab (some (r,o'))) L' w'->lp w' W (bQ ab (some (r,o'))) L' base M r o'):
  bJ base W M w0 (bQ ab (some (r,o'))) w' L'/\fX W ab L w (bQ ab (some (r,o'))) L' w':=by
 have hZ:∀x (o:Ob),x≠r->L'.own x o=L.own x o:=λx o hx=>by
  have:=hL x hx;cases o<;>simp[Loc.own,this.1,this.2]
 have abh:∀x o b,x≠r->ab x=some o->L.own x o=some b->w'.heap[b]? =w.heap[b]? :=λx o b hx ho hb=>
  NI b ((h.ob x o ho).lt hb) λo2 lm i7=>h.apart x r o o2 b hx ho lm hb i7
 have aee:∀(b:Nat) x,w.heap[b]? =some x->¬Obj.plain x->w'.heap[b]? =some x:=λb x hb hx=>by
  refine(NI b (kf.1 hb).1 λo ho i7=>?_).trans hb;obtain⟨y,hc,hy⟩:=(h.ob r o ho).cells i7;rw[hc]at hb;cases hb;exact hx hy
 have er:fX W ab L w (bQ ab (some (r,o'))) L' w':=by
  refine⟨⟨⟨fG,λb c e fr hb hn=>?_⟩,λb hb=>aee b _ hb (λe=>e),λb r hb=>aee b _ hb (λe=>e)⟩,λb hb hw=>?_,λx o hx hk=>?_,λx aX e sz an hx=>?_,sH⟩
  ·exact(NI b (kf.1 hb).1 λo2 lm i7=>hn (.inr ⟨r,o2,lm,i7⟩)).trans hb
  ·rcases hw with hw|⟨x,o,ho,i7⟩
   ·exact .inl hw
   ·by_cases hx:x=r
    ·subst hx;simp only[bQ,yh]at ho;obtain rfl:o'=o:=by simpa using ho
     rcases ia b i7 with⟨o2,lm,yu⟩|yx
     ·exact .inr ⟨x,o2,lm,yu⟩
     ·omega
    ·simp only[bQ,mL hx]at ho;exact .inr ⟨x,o,ho,by rw[<-hZ x o hx];exact i7⟩
  ·by_cases BX:x=r
   ·subst BX;obtain⟨h1,h2⟩:=ahx o hx hk;exact⟨h1,o',by simp[bQ],h2⟩
   ·exact⟨(hL x BX).1,o,by simp[bQ,BX,hx],rfl⟩
  ·by_cases BX:x=r
   ·subst BX;obtain⟨bi,e',fS,di,rfl,h2,h3⟩:=Fy aX e sz an hx;exact⟨bi,e',fS,di,by simp[bQ],h2,h3⟩
   ·exact⟨aX,e,sz,an,by simp[bQ,BX,hx],iV _,λ_=>⟨(hL x BX).2,rfl,rfl⟩⟩
 refine⟨⟨fY,λx o ho=>?_,λx x' o o2 b cZ ho lm hb i7=>?_,λx o b ho hb hw=>?_,h.under,h.gl.aD er.bV.toKeepsC er.sub⟩,er⟩
 ·by_cases hx:x=r
  ·subst hx;simp only[bQ,yh]at ho;obtain rfl:o'=o:=by simpa using ho
   exact c9 er
  ·simp only[bQ,mL hx]at ho;exact lp.aD er (h.ob x o ho) (hL x hx) λb hb=>abh x o b hx ho hb
 ·by_cases hx:x=r
  ·subst hx;simp only[bQ,yh]at ho;obtain rfl:o'=o:=by simpa using ho
   have lq:x'≠x:=λe=>cZ e.symm;simp only[bQ,mL lq]at lm;rw[hZ x' o2 lq]at i7;rcases ia b hb with⟨o3,Kz,yu⟩|yx
   ·exact h.apart x' x o2 o3 b lq lm Kz i7 yu
   ·have:=(h.ob x' o2 lm).lt i7;omega
  ·simp only[bQ,mL hx]at ho;rw[hZ x o hx]at hb;by_cases lq:x'=r
   ·subst lq;simp only[bQ,yh]at lm;obtain rfl:o'=o2:=by simpa using lm
    rcases ia b i7 with⟨o3,Kz,yu⟩|yx
    ·exact h.apart x x' o o3 b cZ ho Kz hb yu
    ·have:=(h.ob x o ho).lt hb;omega
   ·simp only[bQ,mL lq]at lm;rw[hZ x' o2 lq]at i7;exact h.apart x x' o o2 b cZ ho lm hb i7
 ·by_cases hx:x=r
  ·subst hx;simp only[bQ,yh]at ho;obtain rfl:o'=o:=by simpa using ho
   rcases ia b hb with⟨o3,Kz,yu⟩|yx
   ·exact h.oh x o3 b Kz yu hw
   ·have h1:=h.under b hw;have h2:=h.fr.gz;have h3:=h.fr.size;omega
  ·simp only[bQ,mL hx]at ho;rw[hZ x o hx]at hb;exact h.oh x o b ho hb hw
def vT.start{w:World}{W:dJ}{L:Loc}(h:vT w W):vT w (WW W (λ_=>none) L):=
 h.aD (ch.refl W w).toKeepsC λb _ hw=>by
  rcases hw with hw|⟨r,o,hr,_⟩
  ·exact hw
  ·cases hr
def bJ.grow{W:dJ}{w w':World}{ab:bA}{L:Loc}(h:bJ base W M w0 ab w L)(hb:qZ w.heap.size w w'):
  bJ base W M w0 ab w' L/\fX W ab L w ab L w':=by
 have er:fX W ab L w ab L w':=fX.bZ (ch.Ck hb.toBelow);have iU:base<=w.heap.size:=wB h.fr.gz h.fr.size;refine⟨⟨h.fr.trans ⟨hb.os,hb.tape,hb.output,iU,hb.size,λk hk _=>hb.block k (by omega),hb.drawn⟩,λr o ho=>?_,h.apart,h.oh,h.under,h.gl.aD er.bV.toKeepsC er.sub⟩,er⟩;exact lp.aD er (h.ob r o ho) ⟨rfl,rfl⟩ λb i7=>hb.block b ((h.ob r o ho).lt i7)
end
section
variable{P:Program}{vs:List Value}{d:TypeDesc}{ts ds:ar}{base:Nat}{M:dJ}
def jC:Value->Option DV
 |.int k n=>some (.v (.int k n))
 |.bool b=>some (.v (.bool b))
 |.string s=>some (.v (.str s))
 |.slice none 0 0=>some .aF
 |.pointer none=>some (.v (.mb (.pointer none)))
 |.nilFunc=>some (.v (.mb .nilFunc))
 |.nilIface=>some (.v (.mb .nilIface))
 |.map none=>some (.v (.mb (.map none)))
 |_=>none
def m6:Value->Option T
 |.int k n=>some (.int k n)
 |.bool b=>some (.bool b)
 |.string s=>some (.str s)
 |.slice none 0 0=>some (.sl [])
 |.pointer none=>some (.mb (.pointer none))
 |.nilFunc=>some (.mb .nilFunc)
 |.nilIface=>some (.mb .nilIface)
 |.map none=>some (.mb (.map none))
 |_=>none
variable [bh]
def be.of:Operand->Option be
 |.tmp t=>some (.tmp t)
 |.const v=>(jC v).map .eD
 |.func f=>some (.eD (.v (.fn (.func f) [])))
 |.global g=>(bh.cells.find? λp=>p.1==g).map λp=>.eD (.gq p.2 0)
section
variable{w:World}{W:dJ}{ab:bA}{L:Loc}
def qk:∀{x:Value} {d:DV},jC x=some d->ap w W ab L d x/\x.oneCell'=true:=by
 intro x d h;unfold jC at h;split at h<;>simp only[bN,reduceCtorEq]at h<;>subst h<;>simp[ap,aO,Value.oneCell']
def vZ:∀{x:Value} {t:T},m6 x=some t->aO w W t x/\x.oneCell'=true/\q9 t=true:=by
 intro x d h;unfold m6 at h;split at h<;>simp only[bN,reduceCtorEq]at h<;>subst h<;>simp[aO,Value.oneCell',q9]
def fH:∀{xs:List Value} {ds:bD},xs.mapM jC=some ds->aH w W ab L ds xs
 |[],ds,h=>by simp at h;subst h;simp[aH]
 |x::xs,ds,h=>by
  simp only[LQ,I7,gV,fO,bN]at h;obtain⟨d,hd,md,Er,rfl⟩:=h;simp only[aH];have:=qk (w:=w) (W:=W) (ab:=ab) (L:=L) hd;exact⟨x,xs,rfl,this.2,this.1,fH Er⟩
def nF:∀{xs:List Value} {ds:ar},xs.mapM m6=some ds->aN w W ds xs
 |[],ds,h=>by simp at h;subst h;simp[aN]
 |x::xs,ds,h=>by
  simp only[LQ,I7,gV,fO,bN]at h;obtain⟨d,hd,md,Er,rfl⟩:=h;simp only[aN];have:=vZ (w:=w) (W:=W) hd;exact⟨x,xs,rfl,this.2.1,this.1,nF Er⟩
def be.bd{a:Act}{ρ:cQ}(hg:vT w (WW W ab L))(gb:∀t,ap w W ab L (ρ t) (a.tmps.getD t Go.undef)){x:Operand}{y:be}(h:be.of x=some y):ap w W ab L (y.ev ρ) (a.eval x):=by
 cases x with
 |tmp t=>simp only[be.of,bN]at h;subst h;simpa [be.ev,Act.eval]using gb t
 |const v=>
  simp only[be.of,fE]at h;obtain⟨d,hd,rfl⟩:=h;exact(qk hd).1
 |func f=>simp only[be.of,bN]at h;subst h;simp[be.ev,Act.eval,ap,aO,aN]
 |global g=>
  simp only[be.of,fE]at h;obtain⟨p,hp,rfl⟩:=h;have h1:=List.find?_some hp;obtain rfl:p.1=g:=by simpa using h1
  obtain⟨h2,h3,h4⟩:=hg p (YG hp);simp only[be.ev,Act.eval,ap];exact⟨p.1,0,rfl,h2,h3,h4⟩
def jL(b o n:Nat):(⟨b,o,none⟩:Addr).add n=⟨b,o+n,none⟩:=by unfold Addr.add;split<;>simp_all
def ue{w:World}{b o:Nat}(h:∀j v,vs[j]? =some v->w.cell? ⟨b,o+j,none⟩=some v):
  (loadCells ⟨b,o,none⟩ vs.length).run P w=.ok vs.toArray w:=
 run_loadCells_list w _ vs λj v hv=>by rw[jL];exact h j v hv
def yT{w:World}{t:TypeId}(h:P.underlying t=some d):(isAgg t).run P w=.ok (match d with|.struct _|.array _ _=>true|_=>false) w:=by
 simp only[isAgg,Sem.run_bind,run_underlying h,Result.andThen_ok];cases d<;>rfl
def run_sizeOf{w:World}{t:TypeId}{i:TypeInfo}(h:P.info? t=some i):(sizeOf t).run P w=.ok i.size w:=by
 simp[sizeOf,typeInfo,h]
def bu:TypeDesc->Bool
 |.struct _|.array _ _=>true
 |_=>false
def mA{w:World}{t:TypeId}{i:TypeInfo}(hd:P.underlying t=some d)(hi:P.info? t=some i){b o:Nat}
  (hl:vs.length=i.size) (h:∀j v,vs[j]? =some v->w.cell? ⟨b,o+j,none⟩=some v) (hs:bu d=true\/i.size=1):
  (Instr.loadAt t (.pointer (some ⟨b,o,none⟩))).run P w=.ok (if bu d then .agg vs.toArray else vs.getD 0 Go.undef) w:=by
 have h1:(isAgg t).run P w=.ok (bu d) w:=by rw[yT hd];cases d<;>rfl
 simp only[Instr.loadAt,Instr.sureAddr,loadVar,Sem.run_bind,Sem.run_pure,Result.andThen_ok,h1];by_cases ha:bu d=true
 ·simp only[ha,yh,Sem.run_bind,run_sizeOf hi,Result.andThen_ok];rw[<-hl,ue h];rfl
 ·have h1:vs.length=1:=by rw[hl];exact hs.resolve_left ha
  match vs,h1 with
  |[v],_=>
   have:=h 0 v rfl;simp only[ET]at this;simp[ha,this]
def cS.anM{b:Nat}:∀{ts:ar} {o:Nat},cS w W b o ts->∃vs,aN w W ts vs/\∀j v,vs[j]? =some v->w.cell? ⟨b,o+j,none⟩=some v
 |[],o,_=>⟨[],by simp[aN],by simp⟩
 |t::ts,o,h=>by
  simp only[cS]at h;obtain⟨⟨v,hc,h1,hr⟩,jy⟩:=h;obtain⟨vs,hv,pR⟩:=cS.anM jy;refine⟨v::vs,by simp only[aN];exact⟨v,vs,rfl,h1,hr,hv⟩,λj u hu=>?_⟩;cases j with
  |zero=>simp only[pd,bN]at hu;subst hu;simpa using hc
  |succ j=>
   have:=pR j u (by simpa using hu)
   rwa [show o+(j+1)=o+1+j by omega]
def aN.split{Eo:ar}:∀{vs:List Value},aN w W (ts++Eo) vs->∃v1 v2,vs=v1++v2/\aN w W ts v1/\aN w W Eo v2:=by
 induction ts with
 |nil=>intro vs h;exact⟨[],vs,rfl,by simp[aN],h⟩
 |cons t ts ih=>
  intro vs h;simp only[CE,aN]at h;obtain⟨v,fW,rfl,h1,h2,hr⟩:=h;obtain⟨v1,v2,rfl,ha,hb⟩:=ih hr;exact⟨v::v1,v2,rfl,by simp only[aN];exact⟨v,v1,rfl,h1,h2,ha⟩,hb⟩
def cS.m5{b o:Nat}(h:aN w W ts vs)(hc:∀j v,vs[j]? =some v->w.cell? ⟨b,o+j,none⟩=some v):cS w W b o ts:=
 cS.vS ts o λj t ht=>by
  obtain⟨v,hv,h1,hr⟩:=aN.get h ht;exact⟨v,hc j v hv,h1,hr⟩
def aT.gB{sz b:Nat}:∀{an:List (ar)} {o:Nat} {vs:List Value},aN w W an.flatten vs->(∀r∈an,r.length=sz)->(∀j v,vs[j]? =some v->w.cell? ⟨b,o+j,none⟩=some v)->aT w W sz b o an
 |[],_,_,_,_,_=>by simp[aT]
 |r::rs,o,vs,h,hl,hc=>by
  simp only[TC]at h;obtain⟨v1,v2,rfl,ha,hb⟩:=aN.split h;have hr:r.length=sz:=hl r (by simp);have E8:v1.length=sz:=by rw[aN.length ha,hr]
  simp only[aT];refine⟨hr,cS.m5 ha λj v hv=>hc j v ?_,aT.gB hb (λx hx=>hl x (by simp[hx])) λj v hv=>?_⟩
  ·rw[V8 (E9.1 hv).1];exact hv
  ·have:=hc (sz+j) v (by rw[MH (by omega),E8];simpa using hv)
   rwa [show o+sz+j=o+(sz+j)by omega]
def aT.flatten{sz b:Nat}:∀{an:List (ar)} {o:Nat},aT w W sz b o an->∃vs,vs.length=an.length*sz/\aN w W an.flatten vs/\∀j v,vs[j]? =some v->w.cell? ⟨b,o+j,none⟩=some v
 |[],o,_=>⟨[],by simp,by simp[aN],by simp⟩
 |r::rs,o,h=>by
  simp only[aT]at h;obtain⟨v1,h1,cn⟩:=cS.anM h.2.1;obtain⟨v2,Co,h2,fg⟩:=aT.flatten h.2.2;have E8:v1.length=sz:=by rw[aN.length h1,h.1]
  refine⟨v1++v2,by simp[E8,Co,TE];omega,by simpa using aN.append h1 h2,λj v hv=>?_⟩;by_cases hj:j<v1.length
  ·rw[V8 hj]at hv;exact cn j v hv
  ·rw[MH (by omega)]at hv;have:=fg (j-v1.length) v hv
   rwa [show o+sz+(j-v1.length)=o+j by omega]at this
def lp.an{r aX e sz:Nat}{an:List (ar)}(h:lp w W ab L base M r (.aR aX e sz an)){g:Nat}(hg:aP (L.sl r)=some g):
  aT w (WW W ab L) sz g 0 an:=by
 obtain⟨_,hl,_,h⟩:=h;rcases h with⟨rfl,_⟩|⟨g',cap,dg,hv,hp,hh,h1,h2,h3,h4⟩
 ·simp[aT]
 ·rw[hv]at hg;simp only[aP,mL (Fz.1 hp),bN]at hg;subst hg;refine aT.gB h4 hl λj v hv=>?_;rw[Cf,cell_of_row w g' j dg e (0,0) hh];rw[Fo]at hv;split at hv
  ·simpa using hv
  ·cases hv
def sO{an:List (ar)}{i:Int}(h0:0<=i)(h1:i<an.length):an[i.toNat]? =some (rowAt an i):=by
 have:i.toNat<an.length:=by omega
 simp[rowAt,List.getD,this]
def aN.take(n:Nat):∀{vs:List Value},aN w W ds vs->aN w W (ds.take n) (vs.take n):=by
 induction n generalizing ds with
 |zero=>intro vs h;simp[aN]
 |succ n ih=>
  intro vs h;cases ds with
  |nil=>simp only[aN]at h;subst h;simp[aN]
  |cons d ds=>
   simp only[aN]at h;obtain⟨v,fW,rfl,h1,h2,hr⟩:=h;simp only[ZcT,aN];exact⟨v,_,rfl,h1,h2,ih hr⟩
def aN.drop(n:Nat):∀{vs:List Value},aN w W ds vs->aN w W (ds.drop n) (vs.drop n):=by
 induction n generalizing ds with
 |zero=>intro vs h;simpa using h
 |succ n ih=>
  intro vs h;cases ds with
  |nil=>simp only[aN]at h;subst h;simp[aN]
  |cons d ds=>
   simp only[aN]at h;obtain⟨v,fW,rfl,h1,h2,hr⟩:=h;simpa using ih hr
def pa{t:TypeId}{i:TypeInfo}(hd:P.underlying t=some d)(hi:P.info? t=some i){b o off:Nat}{cs:ar}
  (hr:cS w (WW W ab L) b o cs) (aB:off+i.size<=cs.length/\(bu d=true\/i.size=1)):
  ∃v,(Instr.loadAt t (.pointer (some ⟨b,o+off,none⟩))).run P w=.ok v w/\
   ap w W ab L (if bu d then .v (.agg ((cs.drop off).take i.size))else .v (cs.getD off default)) v:=by
 obtain⟨vs,hv,hc⟩:=cS.anM hr;have hl:=aN.length hv;have nG:=aN.take i.size (aN.drop off hv);refine⟨_,mA hd hi (vs:=(vs.drop off).take i.size) (by simp;omega) (λj v hj=>?_) aB.2, ?_⟩
 ·rw[Fo]at hj;split at hj
  ·rw[TU]at hj;have:=hc _ _ hj
   rwa [show o+off+j=o+(off+j)by omega]
  ·cases hj
 ·by_cases ha:bu d=true
  ·simp only[ha,yh,ap,aO];exact⟨_,rfl,by simpa using nG⟩
  ·have h1:i.size=1:=aB.2.resolve_left ha;have dR:off<cs.length:=by omega
   obtain⟨v,nH,_,jV⟩:=aN.get hv (i:=off) (t:=cs[off]) (by simp[dR]);have e1:(List.take i.size (List.drop off vs)).getD 0 Go.undef=v:=by
    rw[h1];simp only[List.getD,Fo,TU,ET,nH];simp
   have e2:cs.getD off default=cs[off]:=by simp[List.getD,dR]
   simp only[ha,e1,e2];exact jV
def ql{w0:World}(hO:bJ base W M w0 ab w L){t:TypeId}{i:TypeInfo}(hd:P.underlying t=some d)(hi:P.info? t=some i)
  {x:DV} {xv:Value} (hx:ap w W ab L x xv) (aB:(eE i.size (bu d) ab x).ok):
  (eE i.size (bu d) ab x).put=none/\∃v,(Instr.loadAt t xv).run P w=.ok v w/\ap w W ab L (eE i.size (bu d) ab x).val v:=by
 cases x with
 |ptr r off=>
  simp only[ap]at hx;obtain⟨⟨cs,hc⟩,rfl⟩:=hx;simp only[eE,hc]at aB⊢;refine⟨trivial, ?_⟩;obtain⟨c,e,hh,hr,_⟩:=hO.ob r _ hc;have hl:=aH.length hr;have nS:=aH.take i.size (aH.drop off hr);refine⟨_,mA hd hi (vs:=(c.toList.drop off).take i.size) (by simp at hl⊢;omega) (λj v hj=>?_) aB.2, ?_⟩
  ·rw[Fo]at hj;split at hj
   ·rw[TU]at hj;rw[cell_of_row w _ _ c e (0,0) hh];simpa using hj
   ·cases hj
  ·by_cases ha:bu d=true
   ·simp only[ha,yh,ap];exact⟨_,rfl,by simpa using nS⟩
   ·have h1:i.size=1:=aB.2.resolve_left ha;have dR:off<cs.length:=by omega
    obtain⟨v,nH,_,jV⟩:=aH.get hr (i:=off) (d:=cs[off]) (by simp[dR]);have e1:(List.take i.size (List.drop off c.toList)).getD 0 Go.undef=v:=by
     rw[h1];simp only[List.getD,Fo,TU,ET,nH];simp
    have e2:cs.getD off .undef=cs[off]:=by simp[List.getD,dR]
    simp only[ha,e1,e2];exact jV
 |jr an j off=>
  simp only[ap]at hx;obtain⟨b,o,sz,rfl,hb,hn,hr,h0,h1⟩:=hx;simp only[eE]at aB⊢;exact⟨trivial,pa hd hi (aT.row hr (sO h0 h1)).2 aB⟩
 |gq cs off=>
  simp only[ap]at hx;obtain⟨b,o,rfl,hb,hn,hr⟩:=hx;simp only[eE]at aB⊢;exact⟨trivial,pa hd hi hr aB⟩
 |v t'=>
  cases t' with
  |box cs=>
   simp only[ap,aO]at hx;obtain⟨b,o,rfl,hb,hn,hr⟩:=hx;simp only[eE]at aB⊢;have:=pa (ab:=ab) (L:=L) (W:=W) hd hi (off:=0) hr (by simpa using aB);refine⟨trivial, ?_⟩;simpa using this
  |_=>simp[eE,cb]at aB
 |gU r aX j off=>
  simp only[ap]at hx;obtain⟨_,bi,e,sz,an,ho,iU,hx⟩:=hx;simp only[eE,ho]at aB⊢;obtain⟨g,hg,rfl,h0,h1⟩:=hx aB.1;have nT:=lp.an (hO.ob r _ ho) hg;have:=(aT.row nT (sO h0 h1)).2;rw[Cf]at this;exact⟨trivial,pa hd hi this aB.2⟩
 |_=>simp[eE,cb]at aB
end
end
section
variable{yv xv z:Value}{va vb xs vs:List Value}{base r off aX sz lo name:Nat}{M:dJ}{w0 w':World}{P:Program}{cs:bD}{α:Type}{an ys:List (ar)}{t' ty e0:TypeId}{zero:ar}
variable [bh]
section
variable{w:World}{W:dJ}{ab:bA}{L:Loc}
def sP{y:DV}(h:dm (cellsOf y))(hl:(cellsOf y).length≠0\/True):lD y:=by
 cases y with
 |undef=>simp[cellsOf,dm,an2]at h
 |skip=>simp[cellsOf,dm,an2]at h
 |v t=>
  cases t<;>simp_all [cellsOf,dm,an2,lD,q9]
 |dh ds=>simp[cellsOf,dm,an2]at h
 |_=>simp[lD]
def me{y:DV}(hy:ap w W ab L y yv)(h:dm (cellsOf y)):aH w W ab L (cellsOf y) yv.cells.toList:=
 ap.cells hy (sP h (.inr trivial))
def aH.one{ds:bD}:∀{vs:List Value},aH w W ab L ds vs->∀v∈vs,v.oneCell'=true:=by
 induction ds with
 |nil=>intro vs h;simp only[aH]at h;subst h;simp
 |cons d ds ih=>
  intro vs h;simp only[aH]at h;obtain⟨v,fW,rfl,h1,_,hr⟩:=h;intro u hu;rcases pH.1 hu with rfl|hu
  ·exact h1
  ·exact ih hr u hu
def aN.one{ds:ar}:∀{vs:List Value},aN w W ds vs->∀v∈vs,v.oneCell'=true:=by
 induction ds with
 |nil=>intro vs h;simp only[aN]at h;subst h;simp
 |cons d ds ih=>
  intro vs h;simp only[aN]at h;obtain⟨v,fW,rfl,h1,_,hr⟩:=h;intro u hu;rcases pH.1 hu with rfl|hu
  ·exact h1
  ·exact ih hr u hu
def aH.bH{a b:bD}(off:Nat)(ha:aH w W ab L a va)(hb:aH w W ab L b vb):aH w W ab L (bH a off b) (bH va off vb):=by
 unfold DM.bH;rw[<-aH.length hb];exact aH.append (aH.append (aH.take off ha) hb) (aH.drop _ ha)
def aN.bH{a b:ar}(off:Nat)(ha:aN w W a va)(hb:aN w W b vb):aN w W (bH a off b) (bH va off vb):=by
 unfold DM.bH;rw[<-aN.length hb];exact aN.append (aN.append (aN.take off ha) hb) (aN.drop _ ha)
def sQ{g:Nat}(cs:Array Value)(h:Fr base M w0 w)(hg:base<=g\/M g):Fr base M w0 (w.setRow g cs):=
 ⟨h.os,h.tape,h.output,h.gz,by simpa using h.size,λk hk hm=>by
  rw[setRow_other w g k cs (by rintro rfl;exact hg.elim (λh1=>by omega) hm)];exact h.block k hk hm,by simpa using h.drawn⟩
def yU{t:TypeId}{i:TypeInfo}(hi:P.info? t=some i){g o:Nat}{e:TypeId}{dg:Array Value}(hg:w.heap[g]? =some (.cells dg e (0,0)))
  (hl:yv.cells.size=i.size) (jD:o+i.size<=dg.size) (h1:∀v∈yv.cells.toList,v.oneCell'=true):
  (Instr.storeAt t (.pointer (some ⟨g,o,none⟩)) yv).run P w=.ok () (w.setRow g (bH dg.toList o yv.cells.toList).toArray):=by
 have hs:=run_storeCells_at P g o e yv.cells.toList 0 dg w hg (by simp[hl];omega) h1;simp only[ET]at hs;simp only[Instr.storeAt,Instr.sureAddr,storeVar,Sem.run_bind,Sem.run_pure,Result.andThen_ok,run_sizeOf hi,hl,ne_eq,not_true_eq_false,Lg];exact hs
def KV(hO:bJ base W M w0 ab w L){t:TypeId}{i:TypeInfo}(hi:P.info? t=some i)
   (hc:ab r=some (.box cs)) {y:DV} (hy:ap w W ab L y yv)
  (hn:(cellsOf y).length=i.size) (jD:off+i.size<=cs.length) (uf:dm (cellsOf y)):
  ∃w',(Instr.storeAt t (.pointer (some ⟨L.gp r,off,none⟩)) yv).run P w=.ok () w'/\
   bJ base W M w0 (bQ ab (some (r,.box (bH cs off (cellsOf y))))) w' L/\fX W ab L w (bQ ab (some (r,.box (bH cs off (cellsOf y))))) L w':=by
 obtain⟨c,e,hh,hr,hm⟩:=hO.ob r _ hc;have mB:=me hy uf;have sH:yv.cells.size=i.size:=by have:=aH.length mB;simpa [hn]using this
 have cD:c.size=cs.length:=by simpa using aH.length hr
 refine⟨_,yU hi hh sH (by omega) (aH.one mB), ?_⟩;refine bJ.put hO (sQ _ hO.fr hm) (by simp) (λ_ _=>⟨rfl,rfl⟩) rfl (λb _ hb=>setRow_other w _ b _ (λx=>hb _ hc (by simp[Loc.own,x])))
  (λb hb=>.inl ⟨_,hc,hb⟩) (λo' jM _=>by rw[hc]at jM;cases jM;exact⟨rfl,rfl⟩) (λaX e sz an h=>by rw[hc]at h;cases h) (λer=>?_)
 refine⟨_,e,setRow_heap w _ c _ e _ hh, ?_,hm⟩;exact aH.bH off (aH.er er _ _ hr) (aH.er er _ _ mB)
def eP{l new:List α}(h:off+new.length<=l.length):(bH l off new).length=l.length:=by
 simp[bH];omega
def ug{l new:List α}{n:Nat}(h:off+new.length<=n)(hn:n<=l.length):(bH l off new).take n=bH (l.take n) off new:=by
 unfold bH;have e1:List.take off (List.take n l)=List.take off l:=by rw[Zdi];congr 1;omega
 have e2:(List.take off l++new).length=off+new.length:=by simp;omega
 rw[e1,List.drop_take,List.take_append,e2,IN (by omega)]
def uh{sz:Nat}:∀(an:List (ar)) (i off:Nat) (new:ar),(∀r∈an,r.length=sz)->i<an.length->off+new.length<=sz->
  (an.set i (bH (an.getD i []) off new)).flatten=bH an.flatten (i*sz+off) new
 |[],i,_,_,_,h,_=>by simp at h
 |r::rs,0,off,new,hl,_,hf=>by
  have hr:r.length=sz:=hl r (by simp);simp only[List.getD_cons_zero,Sm,TC,bH,UL,Cf];rw[Ve (by omega),su (by omega)];simp
 |r::rs,i+1,off,new,hl,h,hf=>by
  have hr:r.length=sz:=hl r (by simp);have ih:=uh rs i off new (λx hx=>hl x (by simp[hx])) (by simpa using h) hf;simp only[EQ,ZcW,TC];rw[show∀(a b:ar),bH (a++b) ((i+1)*sz+off) new=(a++b).take ((i+1)*sz+off)++new++(a++b).drop ((i+1)*sz+off+new.length)from λ_ _=>rfl];have e:(i+1)*sz+off=r.length+(i*sz+off):=by rw[TE,hr];omega
  rw[e,List.take_append,NU];have e1:r.length+(i*sz+off)-r.length=i*sz+off:=by omega
  have e2:r.length+(i*sz+off)+new.length-r.length=i*sz+off+new.length:=by omega
  rw[e1,e2,IN (l:=r) (by omega),zN (as:=r) (by omega)];simp only[z6,KW];rw[ih];simp only[bH,KW]
def Ao{HL:bA}{d:DV}{v:Value}(hp:od d)(h:ap w W ab L d v):aO w (WW W ab L) (nR HL d) v:=by
 cases d with
 |v t=>simpa [nR,ap]using h
 |aF=>
  simp only[ap]at h;obtain⟨a,rfl⟩:=h;simp only[nR,aO];exact .inl ⟨trivial,a,0,rfl⟩
 |_=>exact hp.elim
def kv{HL:bA}:∀{ds:bD} {vs:List Value},fc ds->aH w W ab L ds vs->aN w (WW W ab L) (fR HL ds) vs
 |[],vs,_,h=>by simpa [aH,aN,fR]using h
 |d::ds,vs,hp,h=>by
  simp only[fc]at hp;simp only[aH]at h;obtain⟨v,fW,rfl,h1,h2,hr⟩:=h;simp only[fR,aN];exact⟨v,fW,rfl,h1,Ao hp.1 h2,kv hp.2 hr⟩
def oi:∀{ds:bD},fc ds->dm ds
 |[],_=>trivial
 |d::ds,h=>by
  simp only[fc]at h;simp only[dm];refine⟨?_,oi h.2⟩;have:=h.1;cases d<;>simp_all [od,an2]
def oj:∀(ds:bD),(fR ab ds).length=ds.length
 |[]=>rfl
 |_::ds=>by simp[fR,oj ds]
def KX(hO:bJ base W M w0 ab w L){t:TypeId}{i:TypeInfo}(hi:P.info? t=some i)
  {e:Nat} {j:Int} {g:Nat} (hc:ab r=some (.aR aX e sz an)) (hg:aP (L.sl r)=some g) (h0:0<=j) (h1:j<an.length)
  {y:DV} (hy:ap w W ab L y yv) (hn:(cellsOf y).length=i.size) (jD:off+i.size<=sz) (uf:fc (cellsOf y)):
  ∃w',(Instr.storeAt t (.pointer (some ⟨g,j.toNat*sz+off,none⟩)) yv).run P w=.ok () w'/\
   bJ base W M w0 (bQ ab (some (r,.aR aX e sz (an.set j.toNat (bH (rowAt an j) off (fR ab (cellsOf y))))))) w' L/\
   fX W ab L w (bQ ab (some (r,.aR aX e sz (an.set j.toNat (bH (rowAt an j) off (fR ab (cellsOf y))))))) L w':=by
 have c9:=hO.ob r _ hc;obtain⟨fG,bX,hm,ln⟩:=c9;rcases ln with⟨rfl,_⟩|⟨g',cap,dg,hv,hp,hh,iU,ol,Ap,eZ⟩
 ·simp at h1;omega
 ·rw[hv]at hg;simp only[aP,mL (Fz.1 hp),bN]at hg;subst hg;have mB:=me hy (oi uf);have sH:yv.cells.size=i.size:=by have:=aH.length mB;simpa [hn]using this
  have hj:j.toNat<an.length:=by omega
  have hjs:j.toNat*sz+sz<=an.length*sz:=by
   have:=B7 sz (show j.toNat+1<=an.length by omega)
   rwa [TE,Zde]at this
  have pR:an.length*sz<=cap*sz:=B7 sz iU;have TA:(fR ab (cellsOf y)).length=i.size:=by rw[oj];exact hn
  have sI:yv.cells.toList.length=i.size:=by simpa using sH
  have hZ:L.own r (.aR aX e sz an)=some g':=by simp[Loc.own,hv,aP,Fz.1 hp]
  refine⟨_,yU hi hh sH (by omega) (aH.one mB), ?_⟩;refine bJ.put hO (sQ _ hO.fr (hm g' (by simp[hv,aP,Fz.1 hp]))) (by simp) (λ_ _=>⟨rfl,rfl⟩) rfl (λb _ hb=>setRow_other w _ b _ (λx=>hb _ hc (by rw[hZ,x])))
   (λb hb=>.inl ⟨_,hc,hb⟩) (λo' jM hk=>by rw[hc]at jM;cases jM;exact yV rfl hk) (λbi e' fS di h=>?_) (λer=>?_)
  ·rw[hc]at h;cases h;exact⟨aX,e,sz,_,rfl,iV _,λ_=>⟨rfl,rfl,by simp⟩⟩
  ·refine⟨fG,λx hx=>?_,hm,.inr ⟨g',cap,_,by simpa using hv,hp,setRow_heap w _ dg _ e _ hh,by simpa using iU,ol, ?_, ?_⟩⟩
   ·rcases Yw hx with hx|rfl
    ·exact bX x hx
    ·rw[eP]
     ·exact bX _ (by rw[rowAt,List.getD,fq hj];simp)
     ·have:(rowAt an j).length=sz:=bX _ (by rw[rowAt,List.getD,fq hj];simp);omega
   ·have:=eP (l:=dg.toList) (new:=yv.cells.toList) (off:=j.toNat*sz+off) (by simp only[HM]at sI⊢;omega);simpa using this.trans (by simpa using Ap)
   ·rw[show rowAt an j=an.getD j.toNat []from rfl,uh an j.toNat off _ bX hj (by omega)];simp only[Zdc];have e1:(bH dg.toList (j.toNat*sz+off) yv.cells.toList).toArray.toList.take (an.length*sz)=bH (dg.toList.take (an.length*sz)) (j.toNat*sz+off) yv.cells.toList:=by
     rw[List.toList_toArray];exact ug (by omega) (by simp;omega)
    rw[e1];exact aN.bH _ (aN.aD er.bV.toKeepsC er.sub _ _ eZ) (aN.aD er.bV.toKeepsC er.sub _ _ (kv uf mB))
def Loc.eQ(L:Loc)(r b:Nat):Loc:=⟨λx=>if x=r then b else L.gp x,L.sl,L.yl⟩
def Loc.fZ(L:Loc)(r:Nat)(v:Value):Loc:=⟨L.gp,λx=>if x=r then v else L.sl x,L.yl⟩
def rl(h:Fr base M w0 w)(hb:qZ w.heap.size w w'):Fr base M w0 w':=by
 have iU:base<=w.heap.size:=wB h.gz h.size;exact h.trans ⟨hb.os,hb.tape,hb.output,iU,hb.size,λk hk _=>hb.block k (by omega),hb.drawn⟩
def iJ(o:Obj):qZ w.heap.size w (w.alloc o):=⟨(Below.refl _ _).alloc (iV _) _,iV _⟩
def Aq(hO:bJ base W M w0 ab w L)(hr:ab r=none){c:Array Value}(e:TypeId)(hc:aH w W ab L cs c.toList):
  bJ base W M w0 (bQ ab (some (r,.box cs))) (w.alloc (.cells c e)) (L.eQ r w.heap.size)/\
   fX W ab L w (bQ ab (some (r,.box cs))) (L.eQ r w.heap.size) (w.alloc (.cells c e)):=by
 have hb:=iJ (w:=w) (.cells c e);refine bJ.put hO (rl hO.fr hb) hb.size (λx hx=>⟨by simp[Loc.eQ,hx],rfl⟩) rfl (λb dR _=>hb.block b dR) (λb h=>.inr ?_)
  (λo' h _=>by rw[hr]at h;cases h) (λ_ _ _ _ h=>by rw[hr]at h;cases h) (λer=>?_)
 ·simp only[Loc.own,Loc.eQ,yh,bN]at h;omega
 ·refine⟨c,e, ?_,aH.er er _ _ hc,.inl ?_⟩
  ·simp only[Loc.eQ,yh];exact heap_alloc_new w _
  ·simp only[Loc.eQ,yh];exact wB hO.fr.gz hO.fr.size
def oq(hO:bJ base W M w0 ab w L){e n:Nat}(hc:ab r=some (.aR aX e sz an))
  (hx:lo+n<=an.length/\∃p cap p2,L.sl r=.slice p an.length cap/\xv=.slice p2 n (cap-lo)/\(lo<cap->p2=p.map (·.add (lo*sz)))):
  (n=0/\∃(a:Option Addr) (c:Nat),xv=.slice a 0 c)\/∃g c,aP (L.sl r)=some g/\xv=.slice (some ⟨g,lo*sz,none⟩) n c/\n<=c/\aT w (WW W ab L) sz g (lo*sz) ((an.drop lo).take n):=by
 obtain⟨Es,p,cap,p2,qR,rfl,GV⟩:=hx;by_cases hn:n=0
 ·subst hn;exact .inl ⟨rfl,p2,_,rfl⟩
 ·have c9:=hO.ob r _ hc;obtain⟨_,bX,hm,ln⟩:=c9;rcases ln with⟨rfl,a,ha⟩|⟨g,ahy,dg,h1,h2,h3,h4,h5,h6,h7⟩
  ·simp at Es;omega
  ·have sS:aP (L.sl r)=some g:=by rw[h1];simp[aP,Fz.1 h2]
   have nT:=lp.an (hO.ob r _ hc) sS;rw[qR]at h1;simp only[Value.slice.injEq]at h1;obtain⟨rfl,_,rfl⟩:=h1;have:=GV (by omega);subst this;refine .inr ⟨g,cap-lo,sS,by simp[jL],by omega,aT.vf _ _ λj x hj=>?_⟩;rw[Fo]at hj;split at hj
   ·rw[TU]at hj;have:=aT.row nT hj;rw[Cf,TE]at this;exact this
   ·cases hj
structure NJ(w:World)(W':dJ)(ys:List (ar))(sz:Nat)(v:Value):Prop where
 it:(ys=[]/\∃(a:Option Addr) (c:Nat),v=.slice a 0 c)\/∃b o c,v=.slice (some ⟨b,o,none⟩) ys.length c/\aT w W' sz b o ys
def mC(hO:bJ base W M w0 ab w L){y:DV}(hy:ap w W ab L y yv)(hs:dT ab y=some ys)(hl:∀r∈ys,r.length=sz):
  NJ w (WW W ab L) ys sz yv:=by
 cases y with
 |v t=>
  cases t with
  |sl an=>
   simp only[dT,bN]at hs;subst hs;simp only[ap,aO]at hy;rcases hy with hy|⟨b,o,cap,fS,rfl,_,_,hc,hr⟩
   ·exact⟨.inl hy⟩
   ·refine⟨.inr ⟨b,o,cap,rfl, ?_⟩⟩
    match an,hr with
    |[],_=>simp[aT]
    |r::rs,hr=>
     have h1:=(aT.row hr (i:=0) (r:=r) rfl).1;have h2:=hl r (by simp);have:fS=sz:=by omega
     exact this▸hr
  |mb v=>
   unfold dT at hs;split at hs<;>simp_all
   simp only[ap,aO]at hy;exact⟨.inl ⟨rfl,_,_,hy⟩⟩
  |_=>simp[dT]at hs
 |aF=>
  simp only[dT,bN]at hs;subst hs;simp only[ap]at hy;obtain⟨a,rfl⟩:=hy;exact⟨.inl ⟨rfl,a,0,rfl⟩⟩
 |aQ r aX=>
  simp only[dT]at hs;simp only[ap]at hy;obtain⟨_,bi,e,fS,an,ho,_,hx⟩:=hy;rw[ho]at hs;simp only at hs;split at hs
  ·rename_i hv;simp only[bN]at hs;subst hs;have c9:=hO.ob r _ ho;obtain⟨fG,bX,hm,ln⟩:=c9;rw[hx hv];rcases ln with⟨rfl,a,ha⟩|⟨g',cap,dg,nH,hp,hh,iU,ol,Ap,eZ⟩
   ·exact⟨.inl ⟨rfl,a,0,ha⟩⟩
   ·have nT:=lp.an (hO.ob r _ ho) (g:=g') (by simp[nH,aP,Fz.1 hp]);refine⟨.inr ⟨g',0,cap,nH, ?_⟩⟩
    match an,nT,hl,bX with
    |[],_,_,_=>simp[aT]
    |r::rs,hr,hl,bX=>
     have h1:=bX r (by simp);have h2:=hl r (by simp);have:fS=sz:=by omega
     exact this▸hr
  ·cases hs
 |qi r aX lo n=>
  simp only[dT]at hs;simp only[ap]at hy;obtain⟨_,bi,e,fS,an,ho,_,hx⟩:=hy;rw[ho]at hs;simp only at hs;split at hs
  ·rename_i hv;subst hv;simp only[bN]at hs;subst hs;have Es:=(hx rfl).1;have ja:((an.drop lo).take n).length=n:=by rw[ye,Fx];omega
   rcases oq hO ho (hx rfl)with⟨rfl,a,c,rfl⟩|⟨g,c,_,rfl,_,hr⟩
   ·exact⟨.inl ⟨by simp,a,c,rfl⟩⟩
   ·refine⟨.inr ⟨g,lo*fS,c,by rw[ja], ?_⟩⟩;have bX:=(hO.ob r _ ho).2.1
    match hq:(an.drop lo).take n,hr,hl with
    |[],_,_=>simp[aT]
    |q::qs,hr,hl=>
     have h1:=bX q (EK (ud (by rw[hq];simp)));have h2:=hl q (by simp);have:fS=sz:=by omega
     exact this▸hr
  ·cases hs
 |_=>simp[dT]at hs
def ik(w:World)(t ty e:TypeId)(i:TypeInfo)(ht:P.underlying t=some (.slice e))(hi:P.info? e=some i)(a b:Option Addr)(n cap c:Nat)(hn:n<=cap):
  (Builtin.append_ #[t,t] ty #[.slice a n cap,.slice b 0 c]).run P w=.ok (.slice a n cap) w:=by
 have hf:(Builtin.firstCells i.size 0 (.slice b 0 c)).run P w=.ok #[] w:=by
  cases b<;>simp[Builtin.firstCells,loadCells,loadCellsFrom]
 cases a<;>simp[Builtin.append_,run_underlying ht,sizeOf,typeInfo,hi,Builtin.lenOf,hn,hf,storeCells]
def v6{e:Nat}(BZ:z.cells.size=sz){n m old:Nat}(hx:xs.length=n*sz)(hv:vs.length=m*sz)(Se:n+m<=maxLen):
  (w.drew.alloc (.cells (xs.toArray++vs.toArray++Builtin.zeroCells z.cells (grownCap w (n+m) old e-(n+m))) e)).ownsRow 0 e sz (.slice (some ⟨w.heap.size,0,none⟩) (n+m) (grownCap w (n+m) old e)) (n+m) (xs++vs)/\
   ∀row,w.grownBy (w.drew.alloc (.cells (xs.toArray++vs.toArray++Builtin.zeroCells z.cells (grownCap w (n+m) old e-(n+m))) e)) row:=by
 have yx:=grownCap_ge w (n+m) old e;have Ar:grownCap w (n+m) old e<=maxLen:=grownCap_le_maxLen w (n+m) old e Se;have dI:(xs++vs).length=(n+m)*sz:=by rw[pb,hx,hv,TE]
 refine⟨⟨dI,.inr ⟨w.heap.size,_,_,rfl,Hb _,heap_alloc_new w.drew _,yx,Ar, ?_, ?_⟩⟩,λrow=>⟨rfl,rfl,rfl,by simp,λk hk _=>heap_alloc_old w.drew _ k hk⟩⟩
 ·simp only[Array.size_append,List.size_toArray,size_zeroCells,BZ,hx,hv,<-Nat.add_mul]
  congr 1
  omega
 ·simp only[Array.toList_append,KW];rw[<-List.append_assoc,<-dI];exact Zdj
def KZ{o:Ob}(h:ab r=some o):bQ ab (some (r,o))=ab:=by
 funext x;simp only[bQ];split
 ·rename_i e;rw[e,h]
 ·rfl
def v7{new:List (ar)}(hr:∀r∈an,r.length=sz)(hn:∀r∈new,r.length=sz)(h:lo+new.length<=an.length):(bH an lo new).flatten=bH an.flatten (lo*sz) new.flatten:=by
 have key:∀(l:List (ar)),(∀r∈l,r.length=sz)->l.flatten.length=l.length*sz:=by
  intro l;induction l with
  |nil=>simp
  |cons r rs ih=>intro h;simp[ih (λx hx=>h x (by simp[hx])),h r (by simp),TE];omega
 have tk:∀(k:Nat),k<=an.length->(an.take k).flatten=an.flatten.take (k*sz)/\(an.drop k).flatten=an.flatten.drop (k*sz):=by
  intro k hk;have h8:an.flatten=(an.take k).flatten++(an.drop k).flatten:=by rw[<-List.flatten_append,wb]
  have h9:(an.take k).flatten.length=k*sz:=by rw[key _ (λr h=>hr r (ud h)),ye];congr 1;omega
  rw[h8,Zdd h9,List.drop_left' h9];exact⟨rfl,rfl⟩
 unfold bH;rw[ZcU,ZcU,(tk lo (by omega)).1,(tk _ h).2,key new hn,TE]
def yW(hO:bJ base W M w0 ab w L){t:TypeId}{i:TypeInfo}(ht:P.underlying t=some (.slice e0))(hi:P.info? e0=some i)
  {e n:Nat} (hc:ab r=some (.aR aX e i.size an)) (Es:lo+n<=an.length)
  (iW:(n=0/\∃(a:Option Addr) (c:Nat),xv=.slice a 0 c)\/∃g c,aP (L.sl r)=some g/\xv=.slice (some ⟨g,lo*i.size,none⟩) n c) (hs:NJ w (WW W ab L) ys i.size yv) (sH:∀r∈ys,r.length=i.size):
  ∃w',(Builtin.copy_ #[t,t'] ty #[xv,yv]).run P w=.ok (goInt (min ys.length n:Nat)) w'/\
   bJ base W M w0 (bQ ab (some (r,.aR aX e i.size (bH an lo (ys.take n))))) w' L/\fX W ab L w (bQ ab (some (r,.aR aX e i.size (bH an lo (ys.take n))))) L w':=by
 have aef:ys.take n=[]->bJ base W M w0 (bQ ab (some (r,.aR aX e i.size (bH an lo (ys.take n))))) w L/\fX W ab L w (bQ ab (some (r,.aR aX e i.size (bH an lo (ys.take n))))) L w:=by
  intro h0;have e1:bH an lo (ys.take n)=an:=by rw[h0];simp[bH]
  rw[e1,KZ hc];exact⟨hO,fX.bZ (ch.refl _ _)⟩
 have dI:∃(p:Option Addr) (c:Nat),yv=.slice p ys.length c:=by
  rcases hs.it with⟨rfl,a,c,rfl⟩|⟨b,o,c,rfl,_⟩
  ·exact⟨a,c,rfl⟩
  ·exact⟨_,c,rfl⟩
 have hf0:∀(v:Value) (p:Option Addr) (m c:Nat),v=.slice p m c->(Builtin.firstCells i.size 0 v).run P w=.ok #[] w:=by
  rintro v p m c rfl;cases p<;>simp[Builtin.firstCells,loadCells,loadCellsFrom]
 obtain⟨yp,yc,Sf⟩:=dI;rcases iW with⟨rfl,a,c,rfl⟩|⟨g,c,hg,rfl⟩
 ·refine⟨w, ?_,aef (by simp)⟩;have:=hf0 yv yp _ yc Sf;subst Sf;cases a<;>simp[Builtin.copy_,run_underlying ht,Builtin.lenOf,run_sizeOf hi,this,storeCells]
 ·by_cases hm:min ys.length n=0
  ·refine⟨w, ?_,aef ?_⟩
   ·have:=hf0 yv yp _ yc Sf;subst Sf;have FA:Nat.min ys.length n=0:=hm;simp[Builtin.copy_,run_underlying ht,Builtin.lenOf,run_sizeOf hi,hm,this,storeCells]
   ·by_cases h:ys.length=0
    ·rw[kx h];simp
    ·rw[show n=0 by omega];simp
  ·rcases hs.it with⟨rfl,_⟩|⟨b,o,c',aeg,hr⟩
   ·simp at hm
   ·have c9:=hO.ob r _ hc;obtain⟨fG,bX,HN,ln⟩:=c9;rcases ln with⟨rfl,_⟩|⟨g',cap,dg,h1,h2,h3,h4,h5,h6,h7⟩
    ·simp at Es;omega
    ·have sS:aP (L.sl r)=some g':=by rw[h1];simp[aP,Fz.1 h2]
     rw[sS]at hg;cases hg;obtain⟨vs,sI,vg,NK⟩:=aT.flatten hr;have Ud:min ys.length n*i.size<=vs.length:=by rw[sI];exact B7 _ (Nat.min_le_left _ _)
     have V3:(ys.take n).length=min ys.length n:=by rw[ye,Nat.min_comm]
     have ja:(vs.take (min ys.length n*i.size)).length=min ys.length n*i.size:=by rw[ye];omega
     have NL:(Builtin.firstCells i.size (min ys.length n) yv).run P w=.ok (vs.take (min ys.length n*i.size)).toArray w:=by
      rw[aeg];simp only[Builtin.firstCells];have:=ue (P:=P) (w:=w) (b:=b) (o:=o) (vs:=vs.take (min ys.length n*i.size)) (λj v hj=>NK j v (by
       rw[Fo]at hj;split at hj
       ·exact hj
       ·cases hj))
      rw[ja]at this;exact this
     have hfl:(ys.take n).flatten=ys.flatten.take (min ys.length n*i.size):=by
      have h8:ys.flatten=(ys.take n).flatten++(ys.drop n).flatten:=by rw[<-List.flatten_append,wb]
      rw[h8,Zdd];have key:∀(l:List (ar)),(∀r∈l,r.length=i.size)->l.flatten.length=l.length*i.size:=by
       intro l;induction l with
       |nil=>simp
       |cons r rs ih=>intro h;simp[ih (λx hx=>h x (by simp[hx])),h r (by simp),TE];omega
      rw[key _ (λr h=>sH r (ud h)),V3]
     have jD:lo*i.size+min ys.length n*i.size<=an.length*i.size:=by
      rw[<-Nat.add_mul];exact B7 _ (by omega)
     have ajB:an.length*i.size<=cap*i.size:=B7 _ h4;have Fa:aN w (WW W ab L) (ys.take n).flatten (vs.take (min ys.length n*i.size)):=by rw[hfl];exact aN.take _ vg
     have uR:=run_storeCells_at P g (lo*i.size) e (vs.take (min ys.length n*i.size)) 0 dg w h3 (by rw[ja,h6];omega) (aN.one Fa);have hZ:L.own r (.aR aX e i.size an)=some g:=sS;refine⟨w.setRow g (bH dg.toList (lo*i.size) (vs.take (min ys.length n*i.size))).toArray, ?_, ?_⟩
     ·have FA:Nat.min ys.length n=min ys.length n:=rfl;rw[aeg]at NL⊢;simp only[Builtin.copy_,Builtin.lenOf];simp only[ET]at uR;simp[run_underlying ht,run_sizeOf hi,NL,uR,bH]
     ·refine bJ.put hO (sQ _ hO.fr (HN g sS)) (by simp) (λ_ _=>⟨rfl,rfl⟩) rfl (λb _ hb=>setRow_other w _ b _ (λx=>hb _ hc (by rw[hZ,x])))
       (λb hb=>.inl ⟨_,hc,hb⟩) (λo' jM hk=>by rw[hc]at jM;cases jM;exact yV rfl hk) (λbi e' fS di h=>?_) (λer=>?_)
      ·rw[hc]at h;cases h;exact⟨aX,e,i.size,_,rfl,iV _,λ_=>⟨rfl,rfl,eP (by rw[V3];omega)⟩⟩
      ·have Co:(bH an lo (ys.take n)).length=an.length:=eP (by rw[V3];omega);refine⟨fG,λx hx=>?_,HN,.inr ⟨g,cap,_,by rw[Co];exact h1,h2,setRow_heap w _ dg _ e _ h3,by rw[Co];exact h4,h5, ?_, ?_⟩⟩
       ·simp only[bH,dP]at hx;rcases hx with(hx|hx)|hx
        ·exact bX x (ud hx)
        ·exact sH x (ud hx)
        ·exact bX x (EK hx)
       ·have:=eP (l:=dg.toList) (new:=vs.take (min ys.length n*i.size)) (off:=lo*i.size) (by rw[ja];simp only[HM,h6];omega);simpa using this.trans (by simpa using h6)
       ·rw[Co,v7 bX (λx hx=>sH x (ud hx)) (by rw[V3];omega)];rw[List.toList_toArray,ug (by rw[ja];omega) (by simp only[HM,h6];omega)];exact aN.bH _ (aN.aD er.bV.toKeepsC er.sub _ _ h7) (aN.aD er.bV.toKeepsC er.sub _ _ Fa)
def kR{t e:TypeId}{i:TypeInfo}(ht:P.underlying t=some (.slice e))(hi:P.info? e=some i)(hz:i.zero=some z)(pS:i.size=sz)(BZ:z.cells.size=sz)
  {W':dJ} {v:Value} {n:Nat} (hZ:(n=0/\xs=[]/\∃a:Option Addr,v=.slice a 0 0)\/∃g cap dg,v=.slice (some ⟨g,0,none⟩) n cap/\0<cap/\w.heap[g]? =some (.cells dg e (0,0))/\n<=cap/\cap<=maxLen/\dg.size=cap*sz/\dg.toList.take (n*sz)=xs)
   (hs:NJ w W' ys sz yv) (Mj:∀b o,aT w W' sz b o ys->∃vs,vs.length=ys.length*sz/\aN w W' ys.flatten vs/\∀j v,vs[j]? =some v->w.cell? ⟨b,o+j,none⟩=some v) (rm:cw i.bytes (n+ys.length)):
  ∃v' w' vs,(Builtin.append_ #[t,t] ty #[v,yv]).run P w=.ok v' w'/\aN w W' ys.flatten vs/\vs.length=ys.length*sz/\
   ((n+ys.length=0/\∃a:Option Addr,v'=.slice a 0 0)\/∃g cap dg,v'=.slice (some ⟨g,0,none⟩) (n+ys.length) cap/\0<cap/\w'.heap[g]? =some (.cells dg e (0,0))/\n+ys.length<=cap/\cap<=maxLen/\dg.size=cap*sz/\
     dg.toList.take ((n+ys.length)*sz)=xs++vs)/\
   w.grownBy w' (aP v)/\(∀b,aP v'=some b->aP v=some b\/w.heap.size<=b)/\w.drawn<=w'.drawn:=by
 have Se:n+ys.length<=maxLen:=by have:=rm.2;simp only[maxLen];omega
 have ahz:((n+ys.length:Nat):Int)<=9223372036854775807:=by have:=rm.2;omega
 have HO:w.grownBy w (aP v):=⟨rfl,rfl,rfl,iV _,λ_ _ _=>rfl⟩;rcases hs.it with⟨rfl,b,c,rfl⟩|⟨b,o,c,rfl,hr⟩
 ·rcases hZ with⟨rfl,rfl,a,rfl⟩|⟨g,cap,dg,rfl,hp,hg,h1,h2,h3,h4⟩
  ·exact⟨_,w,[],ik w t ty e i ht hi a b 0 0 c (iV _),by simp[aN],by simp,.inl ⟨rfl,a,rfl⟩,HO,λb hb=>.inl hb,iV _⟩
  ·exact⟨_,w,[],ik w t ty e i ht hi _ b n cap c h1,by simp[aN],by simp,.inr ⟨g,cap,dg,rfl,hp,hg,h1,h2,h3,by simpa using h4⟩,HO,λb hb=>.inl hb,iV _⟩
 ·obtain⟨vs,sI,vg,NK⟩:=Mj b o hr;have abi:∀j v,vs[j]? =some v->w.cell? ((⟨b,o,none⟩:Addr).add j)=some v:=λj v h=>by rw[jL];exact NK j v h
  by_cases Vi:ys.length=0
  ·have:ys=[]:=kx Vi;subst this;rcases hZ with⟨rfl,rfl,a,rfl⟩|⟨g,cap,dg,rfl,hp,hg,h1,h2,h3,h4⟩
   ·exact⟨_,w,[],ik w t ty e i ht hi a _ 0 0 c (iV _),by simp[aN],by simp,.inl ⟨rfl,a,rfl⟩,HO,λb hb=>.inl hb,iV _⟩
   ·exact⟨_,w,[],ik w t ty e i ht hi _ _ n cap c h1,by simp[aN],by simp,.inr ⟨g,cap,dg,rfl,hp,hg,h1,h2,h3,by simpa using h4⟩,HO,λb hb=>.inl hb,iV _⟩
  ·have grow:∀(a:Addr) (old:Nat),old<n+ys.length->xs.length=n*sz->(∀j u,xs[j]? =some u->w.cell? (a.add j)=some u)->
     ∃v' w',(Builtin.append_ #[t,t] ty #[.slice (some a) n old,.slice (some ⟨b,o,none⟩) ys.length c]).run P w=.ok v' w'/\
      (∃g cap dg,v'=.slice (some ⟨g,0,none⟩) (n+ys.length) cap/\0<cap/\w'.heap[g]? =some (.cells dg e (0,0))/\n+ys.length<=cap/\cap<=maxLen/\dg.size=cap*sz/\dg.toList.take ((n+ys.length)*sz)=xs++vs)/\
      (∀row,w.grownBy w' row)/\(∀b,aP v'=some b->w.heap.size<=b)/\w.drawn<=w'.drawn:=by
    intro a old ho vh hxc;have bq:=run_append_grow (P:=P) w t ty e i z ht hi hz a n old xs (by rw[pS];exact vh) hxc ⟨b,o,none⟩ ys.length c vs (by rw[pS];exact sI) abi ho ahz (growslice_fits ho rm.1);have pJ:=v6 (w:=w) (e:=e) (old:=old) BZ vh sI Se;obtain⟨dI,Et⟩:=pJ.1;rcases Et with⟨hn,_⟩|⟨g,cap,dg,hv,_,hg,h1,h2,h3,h4⟩
    ·cases hn
    ·refine⟨_,_,bq,⟨g,cap,dg,hv,by omega,hg,h1,h2,h3,h4⟩,pJ.2,λb hb=>?_,Nat.le_succ _⟩;have ol:grownCap w (n+ys.length) old e≠0:=by have:=grownCap_ge w (n+ys.length) old e;omega
     simp only[aP,mL ol,bN]at hb;omega
   rcases hZ with⟨rfl,rfl,a,rfl⟩|⟨g,cap,dg,rfl,hp,hg,h1,h2,h3,h4⟩
   ·cases a with
    |none=>
     have bq:=run_append_nil (P:=P) w t ty e i z ht hi hz ⟨b,o,none⟩ ys.length c vs (by rw[pS];exact sI) abi (by omega) (by omega) (by have:=growslice_fits (old:=0) (need:=ys.length) (by omega) (by simpa using rm.1);have h2:=rm.1;simp only[Cf]at h2;omega);have pJ:=v6 (w:=w) (e:=e) (old:=0) (n:=0) (xs:=[]) BZ (by simp) sI (by simpa using Se);simp only[Cf,z6,Array.empty_append]at pJ⊢;obtain⟨dI,Et⟩:=pJ.1;rcases Et with⟨hn,_⟩|⟨g,cap,dg,hv,_,hg,h1,h2,h3,h4⟩
     ·cases hn
     ·refine⟨_,_,vs,bq,vg,sI,.inr ⟨g,cap,dg,hv,by omega,hg,h1,h2,h3,h4⟩,pJ.2 _,λb hb=>.inr ?_,Nat.le_succ _⟩;have ol:grownCap w ys.length 0 e≠0:=by have:=grownCap_ge w ys.length 0 e;omega
      simp only[aP,mL ol,bN]at hb;omega
    |some a=>
     obtain⟨v',w',bq,nS,pJ,yi,FB⟩:=grow a 0 (by omega) (by simp) (by simp);exact⟨v',w',vs,bq,vg,sI,.inr nS,pJ _,λb hb=>.inr (yi b hb),FB⟩
   ·have vh:xs.length=n*sz:=by
     rw[<-h4,ye,HM,h3];exact Nat.min_eq_left (B7 sz h1)
    have NM:cap≠0:=Fz.1 hp;by_cases FC:n+ys.length<=cap
    ·have jD:n*i.size+vs.length<=dg.size:=by rw[sI,h3,pS,<-Nat.add_mul];exact B7 _ FC
     have bq:=run_append_room (P:=P) w t ty e i ht hi g n cap dg hg ⟨b,o,none⟩ ys.length c vs (by rw[pS];exact sI) abi (aN.one vg) FC jD;refine⟨_,_,vs,bq,vg,sI,.inr ⟨g,cap,_,rfl,hp,setRow_heap w g dg _ e _ hg,FC,h2, ?_, ?_⟩,⟨rfl,rfl,rfl,by simp,λk _ hk=>setRow_other w g k _ (λe=>hk (by simp[aP,NM,e]))⟩,λb hb=>.inl ?_,by simp⟩
     ·simp only[List.size_toArray,pb,ye,Fx,HM];rw[pS]at jD⊢;omega
     ·have dI:(xs++vs).length=(n+ys.length)*sz:=by rw[pb,vh,sI,TE]
      rw[pS,h4,<-dI];exact Zdj
     ·simpa [aP,NM]using hb
    ·obtain⟨v',w',bq,nS,pJ,yi,FB⟩:=grow ⟨g,0,none⟩ cap (by omega) vh (λj u hu=>by
      rw[jL,Cf,cell_of_row w g j dg e (0,0) hg];rw[<-h4,Fo]at hu;split at hu
      ·simpa using hu
      ·cases hu)
     exact⟨v',w',vs,bq,vg,sI,.inr nS,pJ _,λb hb=>.inr (yi b hb),FB⟩
def ot{sz:Nat}:∀{an:List (ar)},(∀r∈an,r.length=sz)->an.flatten.length=an.length*sz
 |[],_=>by simp
 |r::rs,h=>by
  have:=ot (an:=rs) (sz:=sz) λx hx=>h x (by simp[hx]);simp[this,h r (by simp),TE];omega
def qm(hO:bJ base W M w0 ab w L){bi e:Nat}(fG:0<sz)
  {v v':Value} (Fa:∀x∈an++ys,x.length=sz)
  {V4:List (ar)} (FD:(ab r=none/\an=[]/\aP v=none)\/(ab r=some (.aR aX e sz V4)/\aP (L.sl r)=aP v/\aX<bi))
  (hxs:aN w (WW W ab L) an.flatten xs) (hvs:aN w (WW W ab L) ys.flatten vs)
  (ia:(an.length+ys.length=0/\∃a:Option Addr,v'=.slice a 0 0)\/∃g cap dg,v'=.slice (some ⟨g,0,none⟩) (an.length+ys.length) cap/\0<cap/\w'.heap[g]? =some (.cells dg e (0,0))/\an.length+ys.length<=cap/\cap<=maxLen/\dg.size=cap*sz/\
     dg.toList.take ((an.length+ys.length)*sz)=xs++vs)
  (pJ:w.grownBy w' (aP v)) (yi:∀b,aP v'=some b->aP v=some b\/w.heap.size<=b) (FB:w.drawn<=w'.drawn):
  bJ base W M w0 (bQ ab (some (r,.aR bi e sz (an++ys)))) w' (L.fZ r v')/\fX W ab L w (bQ ab (some (r,.aR bi e sz (an++ys)))) (L.fZ r v') w':=by
 have NN:∀g,aP v=some g->base<=g\/M g:=λg hg=>by
  rcases FD with⟨_,_,h⟩|⟨ho,hv,_⟩
  ·rw[hg]at h;cases h
  ·exact(hO.ob r _ ho).aed (by simpa [Loc.own,hv]using hg)
 have iU:base<=w.heap.size:=wB hO.fr.gz hO.fr.size;have fY:Fr base M w0 w':=hO.fr.trans ⟨pJ.os,pJ.tape,pJ.output,iU,pJ.size,λk hk hm=>pJ.block k (by omega) λx=>by
  rcases NN k x.symm with h|h
  ·omega
  ·exact hm h,FB⟩
 refine bJ.put hO fY pJ.size (λx hx=>⟨rfl,by simp[Loc.fZ,hx]⟩) rfl (λb dR hb=>pJ.block b dR λx=>?_) (λb hb=>?_) (λcs hc hk=>?_) (λmc e2 yS jh hc=>?_) (λer=>?_)
 ·rcases FD with⟨_,_,h⟩|⟨ho,hv,_⟩
  ·rw[h]at x;cases x
  ·exact hb _ ho (by simp[Loc.own,hv,<-x])
 ·simp only[Loc.own,Loc.fZ,yh]at hb;rcases yi b hb with h|h
  ·rcases FD with⟨_,_,h2⟩|⟨ho,hv,_⟩
   ·rw[h]at h2;cases h2
   ·exact .inl ⟨_,ho,by simp[Loc.own,hv,h]⟩
  ·exact .inr h
 ·rcases FD with⟨h,_⟩|⟨h,_⟩<;>rw[hc]at h<;>cases h
  exact yV rfl (by assumption)
 ·rcases FD with⟨h,_⟩|⟨h,_,dR⟩
  ·rw[hc]at h;cases h
  ·rw[hc]at h;cases h;exact⟨bi,e,sz,_,rfl,by omega,λx=>by omega⟩
 ·refine⟨fG,Fa,λg hg=>?_, ?_⟩
  ·simp only[Loc.fZ,yh]at hg;rcases yi g hg with h|h
   ·exact NN g h
   ·exact .inl (wB iU h)
  ·simp only[Loc.fZ,yh,pb];rcases ia with⟨h0,ha⟩|⟨g,cap,dg,hv,hp,hg,h1,h2,h3,h4⟩
   ·refine .inl ⟨?_,ha⟩;have h1:an=[]:=kx (by omega);have h2:ys=[]:=kx (by omega);simp[h1,h2]
   ·refine .inr ⟨g,cap,dg,hv,hp,hg,h1,h2,h3, ?_⟩;rw[h4,ZcU];exact aN.append (aN.aD er.bV.toKeepsC er.sub _ _ hxs) (aN.aD er.bV.toKeepsC er.sub _ _ hvs)
def As(hO:bJ base W M w0 ab w L){t e:TypeId}{i:TypeInfo}(ht:P.underlying t=some (.slice e))(hi:P.info? e=some i)(hz:i.zero=some z)(BZ:z.cells.size=i.size)(fG:0<i.size)
   (dj:ab name=none) {x y:DV} (hx:ap w W ab L x xv) (hy:ap w W ab L y yv) (aB:(ff e i.size i.bytes name ab x y).ok):
  ∃v w' L',(Builtin.append_ #[t,t] ty #[xv,yv]).run P w=.ok v w'/\bJ base W M w0 (bQ ab (ff e i.size i.bytes name ab x y).put) w' L'/\
   fX W ab L w (bQ ab (ff e i.size i.bytes name ab x y).put) L' w'/\ap w' W (bQ ab (ff e i.size i.bytes name ab x y).put) L' (ff e i.size i.bytes name ab x y).val v:=by
 unfold ff at aB⊢;cases hs:dT ab y with
 |none=>simp[hs,cb]at aB
 |some ys=>
  simp only[hs]at aB⊢;have Mj:∀b o,aT w (WW W ab L) i.size b o ys->∃vs,vs.length=ys.length*i.size/\aN w (WW W ab L) ys.flatten vs/\∀j v,vs[j]? =some v->w.cell? ⟨b,o+j,none⟩=some v:=λb o h=>aT.flatten h;cases x with
  |aF=>
   simp only at aB⊢;have lq:=hx;simp only[ap]at lq;obtain⟨a,rfl⟩:=lq;obtain⟨v',w',vs,bq,vg,sI,ia,pJ,yi,FB⟩:=kR (n:=0) (xs:=[]) ht hi hz rfl BZ (.inl ⟨rfl,rfl,a,rfl⟩) (ty:=ty) (mC hO hy hs aB.1) Mj (by simpa using aB.2);have sS:aP (.slice a 0 0)=none:=by cases a<;>simp[aP]
   have:=qm hO (r:=name) (aX:=0) (bi:=0) (V4:=[]) (an:=[]) (ys:=ys) fG (by simpa using aB.1) (.inl ⟨dj,rfl,sS⟩) (xs:=[]) (by simp[aN]) vg (by simpa using ia) pJ yi FB;refine⟨v',w',_,bq,by simpa using this.1,by simpa using this.2, ?_⟩;simp only[ap];refine⟨?_,0,e,i.size,ys,by simp[bQ],iV _,λ_=>by simp[Loc.fZ]⟩;rcases ia with⟨_,a,rfl⟩|⟨g,cap,dg,rfl,_⟩<;>exact⟨_,_,_,rfl⟩
  |aQ r aX=>
   cases ho:ab r with
   |none=>simp[ho,cb]at aB
   |some o=>
    cases o with
    |box cs=>simp[ho,cb]at aB
    |aR bi e' fS an=>
     simp only[ho]at aB⊢;obtain⟨rfl,rfl,rfl,hl,rm⟩:=aB;have lq:=hx;simp only[ap]at lq;obtain⟨_,mc,e2,yS,jh,lm,_,nG⟩:=lq;rw[ho]at lm;cases lm;have hv:=nG rfl;have c9:=hO.ob r _ ho;obtain⟨_,bX,hm,ln⟩:=c9;have hZ:∃xs,aN w (WW W ab L) an.flatten xs/\((an.length=0/\xs=[]/\∃a:Option Addr,xv=.slice a 0 0)\/∃g cap dg,xv=.slice (some ⟨g,0,none⟩) an.length cap/\0<cap/\w.heap[g]? =some (.cells dg e' (0,0))/\an.length<=cap/\cap<=maxLen/\dg.size=cap*i.size/\dg.toList.take (an.length*i.size)=xs):=by
      rcases ln with⟨rfl,a,ha⟩|⟨g,cap,dg,h1,h2,h3,h4,h5,h6,h7⟩
      ·exact⟨[],by simp[aN],.inl ⟨rfl,rfl,a,by rw[hv,ha]⟩⟩
      ·exact⟨_,h7,.inr ⟨g,cap,dg,by rw[hv,h1],h2,h3,h4,h5,h6,rfl⟩⟩
     obtain⟨xs,BX,hZ⟩:=hZ;obtain⟨v',w',vs,bq,vg,sI,ia,pJ,yi,FB⟩:=kR ht hi hz rfl BZ hZ (ty:=ty) (mC hO hy hs hl) Mj rm;have:=qm hO (r:=r) (aX:=aX) (bi:=aX+1) (an:=an) (ys:=ys) fG (λx hx=>(dP.1 hx).elim (bX x) (hl x)) (.inr ⟨ho,by rw[hv],by omega⟩) BX vg ia pJ yi FB;refine⟨v',w',_,bq,this.1,this.2, ?_⟩;simp only[ap];refine⟨?_,aX+1,e',i.size,an++ys,by simp[bQ],iV _,λ_=>by simp[Loc.fZ]⟩;rcases ia with⟨_,a,rfl⟩|⟨g,cap,dg,rfl,_⟩<;>exact⟨_,_,_,rfl⟩
    |_=>simp[ho,cb]at aB
  |qi r aX lo n=>
   cases lo with
   |succ lo=>simp[cb]at aB
   |zero=>
   cases ho:ab r with
   |none=>simp[ho,cb]at aB
   |some o=>
    cases o with
    |aR bi e' fS an=>
     simp only[ho]at aB⊢;obtain⟨rfl,rfl,rfl,hl,rm⟩:=aB;have lq:=hx;simp only[ap]at lq;obtain⟨_,mc,e2,yS,jh,lm,_,nG⟩:=lq;rw[ho]at lm;cases lm;obtain⟨Es,p,NO,p2,qR,rfl,GV⟩:=nG rfl;have c9:=hO.ob r _ ho;obtain⟨_,bX,hm,ln⟩:=c9;have ja:(an.take n).length=n:=by rw[ye];omega
     have sS:aP (L.sl r)=aP (.slice p2 n (NO-0)):=by
      rw[qR];simp only[Mm];by_cases Ue:NO=0
      ·subst Ue;cases p<;>cases p2<;>simp[aP]
      ·have:=GV (by omega);subst this;cases p with
       |none=>simp[aP]
       |some a=>
        obtain⟨b,o,ix⟩:=a;cases ix<;>simp[aP,Ue,Addr.add]
     have hZ:∃xs,aN w (WW W ab L) (an.take n).flatten xs/\((n=0/\xs=[]/\∃a:Option Addr,Value.slice p2 n (NO-0)=.slice a 0 0)\/∃g cap dg,Value.slice p2 n (NO-0)=.slice (some ⟨g,0,none⟩) n cap/\0<cap/\w.heap[g]? =some (.cells dg e' (0,0))/\n<=cap/\cap<=maxLen/\dg.size=cap*i.size/\dg.toList.take (n*i.size)=xs):=by
      rcases ln with⟨rfl,a,ha⟩|⟨g,cap,dg,h1,h2,h3,h4,h5,h6,h7⟩
      ·rw[qR]at ha;simp only[Value.slice.injEq]at ha;obtain⟨_,_,rfl⟩:=ha;have:n=0:=by simp at Es;omega
       subst this;exact⟨[],by simp[aN],.inl ⟨rfl,rfl,p2,rfl⟩⟩
      ·rw[qR]at h1;simp only[Value.slice.injEq]at h1;obtain⟨rfl,_,rfl⟩:=h1;have:=GV h2;subst this;refine⟨_, ?_,.inr ⟨g,NO,dg,by simp[jL],h2,h3,by omega,h5,h6,rfl⟩⟩;have e1:(an.take n).flatten=an.flatten.take (n*i.size):=by
        have h8:an.flatten=(an.take n).flatten++(an.drop n).flatten:=by rw[<-List.flatten_append,wb]
        rw[h8,Zdd (by rw[ot (sz:=i.size) (λr hr=>bX r (ud hr)),ja])]
       have e2:dg.toList.take (n*i.size)=(dg.toList.take (an.length*i.size)).take (n*i.size):=by
        rw[Zdi];congr 1;have:=B7 i.size (show n<=an.length by omega);omega
       rw[e1,e2];exact aN.take _ h7
     obtain⟨xs,BX,hZ⟩:=hZ;obtain⟨v',w',vs,bq,vg,sI,ia,pJ,yi,FB⟩:=kR ht hi hz rfl BZ hZ (ty:=ty) (mC hO hy hs hl) Mj rm;have:=qm hO (r:=r) (aX:=aX) (bi:=aX+1) (an:=an.take n) (ys:=ys) fG (λx hx=>(dP.1 hx).elim (λh=>bX x (ud h)) (hl x)) (.inr ⟨ho,sS,by omega⟩) BX vg (by rw[ja];exact ia) pJ yi FB;refine⟨v',w',_,bq,this.1,this.2, ?_⟩;simp only[ap];refine⟨?_,aX+1,e',i.size,an.take n++ys,by simp[bQ],iV _,λ_=>by simp[Loc.fZ]⟩;rcases ia with⟨_,a,rfl⟩|⟨g,cap,dg,rfl,_⟩<;>exact⟨_,_,_,rfl⟩
    |_=>simp[ho,cb]at aB
  |_=>simp[cb]at aB
def FE(hO:bJ base W M w0 ab w L){t:TypeId}{i:TypeInfo}(ht:P.underlying t=some (.slice e0))(hi:P.info? e0=some i)
  {x y:DV} (hx:ap w W ab L x xv) (hy:ap w W ab L y yv) (aB:(gJ i.size ab x y).ok):
  ∃v w',(Builtin.copy_ #[t,t'] ty #[xv,yv]).run P w=.ok v w'/\bJ base W M w0 (bQ ab (gJ i.size ab x y).put) w' L/\
   fX W ab L w (bQ ab (gJ i.size ab x y).put) L w'/\ap w' W (bQ ab (gJ i.size ab x y).put) L (gJ i.size ab x y).val v:=by
 unfold gJ at aB⊢;cases hs:dT ab y with
 |none=>simp[hs,cb]at aB
 |some ys=>
  simp only[hs]at aB⊢;cases x with
  |aQ r aX=>
   cases ho:ab r with
   |none=>simp[ho,cb]at aB
   |some o=>
    cases o with
    |aR bi e fS an=>
     simp only[ho]at aB⊢;obtain⟨rfl,rfl,hl⟩:=aB;simp only[ap]at hx;obtain⟨_,mc,e2,yS,jh,lm,_,nG⟩:=hx;rw[ho]at lm;cases lm;have hv:=nG rfl;subst hv;have hd:(an.length=0/\∃(a:Option Addr) (c:Nat),L.sl r=.slice a 0 c)\/∃g c,aP (L.sl r)=some g/\L.sl r=.slice (some ⟨g,0*i.size,none⟩) an.length c:=by
      obtain⟨_,_,_,ln⟩:=hO.ob r _ ho;rcases ln with⟨rfl,a,ha⟩|⟨g,cap,dg,h1,h2,_⟩
      ·exact .inl ⟨rfl,a,0,ha⟩
      ·exact .inr ⟨g,cap,by rw[h1];simp[aP,Fz.1 h2],by rw[h1,UL]⟩
     obtain⟨w',h1,h2,h3⟩:=yW hO ht hi (t':=t') (ty:=ty) ho (lo:=0) (n:=an.length) (by omega) hd (mC hO hy hs hl) hl;exact⟨_,w',h1,h2,h3,by simp[ap,aO,goInt]⟩
    |_=>simp[ho,cb]at aB
  |qi r aX lo n=>
   cases ho:ab r with
   |none=>simp[ho,cb]at aB
   |some o=>
    cases o with
    |aR bi e fS an=>
     simp only[ho]at aB⊢;obtain⟨rfl,rfl,hl⟩:=aB;simp only[ap]at hx;obtain⟨_,mc,e2,yS,jh,lm,_,nG⟩:=hx;rw[ho]at lm;cases lm;have hv:=nG rfl;have hd:(n=0/\∃(a:Option Addr) (c:Nat),xv=.slice a 0 c)\/∃g c,aP (L.sl r)=some g/\xv=.slice (some ⟨g,lo*i.size,none⟩) n c:=by
      rcases oq hO ho hv with h|⟨g,c,h1,h2,_⟩
      ·exact .inl h
      ·exact .inr ⟨g,c,h1,h2⟩
     obtain⟨w',h1,h2,h3⟩:=yW hO ht hi (t':=t') (ty:=ty) ho hv.1 hd (mC hO hy hs hl) hl;exact⟨_,w',h1,h2,h3,by simp[ap,aO,goInt]⟩
    |_=>simp[ho,cb]at aB
  |_=>simp[cb]at aB
def gC{α:Type}(l:List α):∀(n j:Nat),j<n*l.length->(List.replicate n l).flatten[j]? =l[j % l.length]?
 |0,j,h=>by simp at h
 |n+1,j,h=>by
  simp only[V5,TC];by_cases hj:j<l.length
  ·rw[V8 hj,Sx hj]
  ·rw[MH (by omega),gC l n (j-l.length) (by rw[TE]at h;omega)];rw[Nat.mod_eq_sub_mod (a:=j) (by omega)]
def rn(z:Array Value)(n:Nat):(madeCells z (n*z.size)).toList=(List.replicate n z.toList).flatten:=by
 apply xX;intro j;by_cases hj:j<n*z.size
 ·have hz:0<z.size:=by
   rcases Nat.eq_zero_or_pos z.size with h|h
   ·rw[h]at hj;simp at hj
   ·exact h
  rw[gC z.toList n j (by simpa using hj)];have hm:=Nat.mod_lt j hz;simp[madeCells,hj,hm]
 ·rw[MI (by simp[size_madeCells];omega),MI (by simp;omega)]
def ou{zero:ar}{zs:List Value}(h:aN w W zero zs):∀n,aN w W (List.replicate n zero).flatten (List.replicate n zs).flatten
 |0=>by simp[aN]
 |n+1=>by simpa [V5]using aN.append h (ou h n)
def Uf(hO:bJ base W M w0 ab w L)(hr:ab r=none){e:Nat}(fG:0<sz)(Fa:∀x∈an,x.length=sz){c:Array Value}(pR:c.size=an.length*sz)
  (hc:aN w (WW W ab L) an.flatten c.toList) (ahA:an.length<=maxLen):
  bJ base W M w0 (bQ ab (some (r,.aR 0 e sz an))) (w.alloc (.cells c e)) (L.fZ r (.slice (some ⟨w.heap.size,0,none⟩) an.length an.length))/\
   fX W ab L w (bQ ab (some (r,.aR 0 e sz an))) (L.fZ r (.slice (some ⟨w.heap.size,0,none⟩) an.length an.length)) (w.alloc (.cells c e)):=by
 have hb:=iJ (w:=w) (.cells c e);refine bJ.put hO (rl hO.fr hb) hb.size (λx hx=>⟨rfl,by simp[Loc.fZ,hx]⟩) rfl (λb dR _=>hb.block b dR) (λb h=>.inr ?_)
  (λo' h _=>by rw[hr]at h;cases h) (λ_ _ _ _ h=>by rw[hr]at h;cases h) (λer=>?_)
 ·simp only[Loc.own,Loc.fZ,yh,aP]at h;split at h
  ·cases h
  ·simp only[bN]at h;omega
 ·refine⟨fG,Fa,λg hg=>?_, ?_⟩
  ·simp only[Loc.fZ,yh,aP]at hg;split at hg
   ·cases hg
   ·simp only[bN]at hg;subst hg;exact .inl (wB hO.fr.gz hO.fr.size)
  ·simp only[Loc.fZ,yh];by_cases h0:an.length=0
   ·refine .inl ⟨kx h0,some ⟨w.heap.size,0,none⟩,by rw[h0]⟩
   ·refine .inr ⟨w.heap.size,an.length,c,rfl,by omega,heap_alloc_new w _,iV _,ahA,pR, ?_⟩;rw[IN (by simp[pR])];exact aN.aD er.bV.toKeepsC er.sub _ _ hc
def v8(hO:bJ base W M w0 ab w L){t e:TypeId}{i:TypeInfo}(ht:P.underlying t=some (.slice e))(hi:P.info? e=some i)(hz:i.zero=some z)(fG:0<i.size)
   (ov:z.cells.toList.mapM m6=some zero) (dj:ab name=none) {x:DV} (hx:ap w W ab L x xv) (aB:(jg e i.size i.bytes zero name x).ok):
  ∃v w' L',(Instr.makeSlice t xv xv).run P w=.ok v w'/\bJ base W M w0 (bQ ab (jg e i.size i.bytes zero name x).put) w' L'/\
   fX W ab L w (bQ ab (jg e i.size i.bytes zero name x).put) L' w'/\ap w' W (bQ ab (jg e i.size i.bytes zero name x).put) L' (jg e i.size i.bytes zero name x).val v:=by
 cases x with
 |v t'=>
  cases t' with
  |int k n=>
   simp only[ap,aO]at hx;subst hx;simp only[jg]at aB⊢;obtain⟨h0,NP,hb,hm⟩:=aB;have Mn:=nF (w:=w) (W:=WW W ab L) ov;have BZ:z.cells.size=i.size:=by have:=aN.length Mn;simpa [NP]using this
   have Mv:(i.bytes:Int)*n<=281474976710656:=by
    have e:(i.bytes:Int)*n=((n.toNat*i.bytes:Nat):Int):=by
     rw[Int.natCast_mul,Int.toNat_of_nonneg h0,Sg]
    rw[e];omega
   have bq:=run_make (P:=P) w t e i z ht hi hz k k n n h0 (V2 _) Mv (by omega);have hc:(madeCells z.cells (n.toNat*i.size)).toList=(List.replicate n.toNat z.cells.toList).flatten:=by rw[<-BZ];exact rn _ _
   have:=Uf hO (e:=e) dj (an:=List.replicate n.toNat zero) fG (λx hx=>by rw[Td hx];exact NP) (c:=madeCells z.cells (n.toNat*i.size)) (by simp[size_madeCells]) (by rw[hc];exact ou Mn _) (by simp only[TD,maxLen];omega);simp only[TD]at this;refine⟨_,_,_,bq,this.1,this.2, ?_⟩;simp only[ap];exact⟨⟨_,_,_,rfl⟩,0,e,i.size,List.replicate n.toNat zero,by simp[bQ],iV _,λ_=>by simp[Loc.fZ]⟩
  |_=>simp[jg,cb]at aB
 |_=>simp[jg,cb]at aB
def FF{ts:ar}:∀{zs:List Value},zs.mapM m6=some ts->aH w W ab L (ts.map yR) zs:=by
 induction ts with
 |nil=>
  intro zs h;cases zs with
  |nil=>simp[aH]
  |cons z zs=>simp[LQ,fO]at h
 |cons t ts ih=>
  intro zs h;cases zs with
  |nil=>simp at h
  |cons z zs=>
   simp only[LQ,I7,gV,fO,bN,BE]at h;obtain⟨t',ht,Eo,uW,rfl,rfl⟩:=h;simp only[l8,aH];have hr:=vZ (w:=w) (W:=WW W ab L) ht;refine⟨z,zs,rfl,hr.2.1, ?_,ih uW⟩;unfold yR;split
   ·unfold m6 at ht;split at ht<;>first|(cases ht;done)|skip
    all_goals first
     |(simp only[ap];exact⟨_,rfl⟩)
     |(cases ht)
   ·simp only[ap];exact hr.1
def nI{zero:bD}{zs:List Value}(h:aH w W ab L zero zs):∀n,aH w W ab L (List.replicate n zero).flatten (List.replicate n zs).flatten
 |0=>by simp[aH]
 |n+1=>by simpa [V5]using aH.append h (nI h n)
def ui(hO:bJ base W M w0 ab w L){t e:TypeId}{i:TypeInfo}(ht:P.underlying t=some (.slice e))(hi:P.info? e=some i)(hz:i.zero=some z)
   (ov:z.cells.toList.mapM m6=some zero) (dj:ab name=none) {x:DV} (hx:ap w W ab L x xv) (aB:(ef i.size i.bytes zero name x).ok):
  ∃v w' L',(Instr.makeSlice t xv xv).run P w=.ok v w'/\bJ base W M w0 (bQ ab (ef i.size i.bytes zero name x).put) w' L'/\
   fX W ab L w (bQ ab (ef i.size i.bytes zero name x).put) L' w'/\ap w' W (bQ ab (ef i.size i.bytes zero name x).put) L' (ef i.size i.bytes zero name x).val v:=by
 cases x with
 |v t'=>
  cases t' with
  |int k n=>
   simp only[ap,aO]at hx;subst hx;simp only[ef]at aB⊢;obtain⟨h0,NP,hb,hm⟩:=aB;have Mn:=FF (w:=w) (W:=W) (ab:=ab) (L:=L) ov;have BZ:z.cells.size=i.size:=by have:=aH.length Mn;simpa [NP]using this
   have Mv:(i.bytes:Int)*n<=281474976710656:=by
    have e:(i.bytes:Int)*n=((n.toNat*i.bytes:Nat):Int):=by
     rw[Int.natCast_mul,Int.toNat_of_nonneg h0,Sg]
    rw[e];omega
   have bq:=run_make (P:=P) w t e i z ht hi hz k k n n h0 (V2 _) Mv (by omega);have hc:(madeCells z.cells (n.toNat*i.size)).toList=(List.replicate n.toNat z.cells.toList).flatten:=by rw[<-BZ];exact rn _ _
   have:=Aq hO dj (c:=madeCells z.cells (n.toNat*i.size)) e (cs:=(List.replicate n.toNat (zero.map yR)).flatten) (by rw[hc];exact nI Mn _);refine⟨_,_,_,bq,this.1,this.2, ?_⟩;simp only[ap];exact⟨⟨(List.replicate n.toNat (zero.map yR)).flatten,by simp[bQ]⟩,by simp[Loc.eQ]⟩
  |_=>simp[ef,cb]at aB
 |_=>simp[ef,cb]at aB
end
end
end Go.DM
namespace Go.DM
open Go.RowKit
variable [bh]
section
def fA(P:Program)(rec:TypeId->Option (List Sh))(off:Nat):List Field->Option (List Sh)
 |[]=>some []
 |f::fs=>
  match rec f.type,P.info? f.type with
  |some s,some i=>if f.name≠ "_" /\f.offset=off/\s.length=i.size then(fA P rec (off+s.length) fs).map (s++·)else none
  |_,_=>none
def iX(P:Program):Nat->TypeId->Option (List Sh)
 |0,_=>none
 |d+1,t=>
  match P.underlying t with
  |some .bool=>some [.bool]
  |some (.int k)=>some [.int k]
  |some .string=>some [.str]
  |some (.struct fs)=>if P.stoodInHeld t then none else fA P (iX P d) 0 fs.toList
  |some (.array n e)=>
   match iX P d e,P.info? e with
   |some s,some i=>if s.length=i.size/\0<i.size then some ((List.replicate n s).flatten)else none
   |_,_=>none
  |_=>none
def Ug:Sh->Value->Bool
 |.bool,.bool _=>true
 |.int k,.int k' _=>k==k'
 |.str,.string _=>true
 |_,_=>false
def anS:List Sh->List Value->Prop
 |[],vs=>vs=[]
 |s::ss,vs=>∃v fW,vs=v::fW/\Ug s v=true/\anS ss fW
def V6:Value->Value->Bool
 |.bool a,.bool b=>a==b
 |.int _ a,.int _ b=>a==b
 |.string a,.string b=>a.toList==b.toList
 |_,_=>false
def jE:List Value->List Value->Bool
 |[],[]=>true
 |a::as,b::bs=>V6 a b&&jE as bs
 |_,_=>false
def anS.length:∀{ss:List Sh} {vs:List Value},anS ss vs->vs.length=ss.length
 |[],_,h=>by simp only[anS]at h;simp[h]
 |_::ss,_,h=>by
  simp only[anS]at h;obtain⟨v,fW,rfl,_,h⟩:=h;simp[anS.length h]
def anS.split:∀{s1 s2:List Sh} {vs:List Value},anS (s1++s2) vs->anS s1 (vs.take s1.length)/\anS s2 (vs.drop s1.length)
 |[],s2,vs,h=>by simpa [anS]using h
 |s::s1,s2,vs,h=>by
  simp only[CE,anS]at h;obtain⟨v,fW,rfl,h1,h⟩:=h;have:=anS.split h;simp only[pc,ZcT,List.drop_succ_cons,anS];exact⟨⟨v,_,rfl,h1,this.1⟩,this.2⟩
def oz:∀{a b c d:List Value},a.length=c.length->jE (a++b) (c++d)=(jE a c&&jE b d)
 |[],b,[],d,_=>by simp[jE]
 |x::a,b,[],d,h=>by simp at h
 |[],b,y::c,d,h=>by simp at h
 |x::a,b,y::c,d,h=>by
  simp only[CE,jE];rw[oz (by simpa using h),Bool.and_assoc]
def sJ(d:TypeDesc)(vs:List Value):Value:=if bu d then .agg vs.toArray else vs.getD 0 Go.undef
section
variable{P:Program}
def jW(w:World){t:TypeId}{d:TypeDesc}{i:TypeInfo}(hd:P.underlying t=some d)(hi:P.info? t=some i){xs:List Value}{off:Nat}(h1:bu d=true\/i.size=1)(hl:off+i.size<=xs.length):
  (part t xs.toArray off).run P w=.ok (sJ d ((xs.drop off).take i.size)) w:=by
 have HP:(isAgg t).run P w=.ok (bu d) w:=by rw[yT hd];cases d<;>rfl
 simp only[part,Sem.run_bind,HP,Result.andThen_ok];by_cases ha:bu d=true
 ·simp only[ha,yh,Sem.run_bind,run_sizeOf hi,Result.andThen_ok,Sem.run_pure,sJ]
  congr 3
  simp only[List.extract_toArray,List.extract_eq_take_drop]
  congr 2
  omega
 ·have h2:=h1.resolve_left ha;have dR:off<xs.length:=by omega
  simp only[ha,sJ,h2];simp[dR]
def vi{d:Nat}{t:TypeId}{bB:List Sh}(h:iX P (d+1) t=some bB):∃desc,P.underlying t=some desc/\(bu desc=true\/bB.length=1):=by
 simp only[iX]at h;split at h
 ·rename_i hu;exact⟨_,hu,.inr (by simp at h;simp[<-h])⟩
 ·rename_i hu;exact⟨_,hu,.inr (by simp at h;simp[<-h])⟩
 ·rename_i hu;exact⟨_,hu,.inr (by simp at h;simp[<-h])⟩
 ·rename_i hu;exact⟨_,hu,.inl rfl⟩
 ·rename_i hu;exact⟨_,hu,.inl rfl⟩
 ·cases h
def NQ{d:Nat}{e:TypeId}{de:TypeDesc}{s:List Sh}{i:TypeInfo}(hd:P.underlying e=some de)(hi:P.info? e=some i)(h1:bu de=true\/i.size=1)(hs:s.length=i.size)(Uh:0<i.size)
  (ih:∀(xs ys:List Value) (w:World),anS s xs->anS s ys->(Op.equalIn d e (sJ de xs) (sJ de ys)).run P w=.ok (jE xs ys) w) (xs ys:List Value):
  ∀(n k:Nat) (w:World),anS ((List.replicate n s).flatten) (xs.drop (k*i.size))->anS ((List.replicate n s).flatten) (ys.drop (k*i.size))->
   (forIn (List.range' k n) (none,()) (λj (_:Option Bool×Unit)=>do
     let a<-part e xs.toArray (j*i.size)
     let b<-part e ys.toArray (j*i.size)
     let r<-Op.equalIn d e a b
     if(!r)=true then pure (ForInStep.done (some false,()))else pure (ForInStep.yield (none,()))):Sem (Option Bool×Unit)).run P w=
    .ok (if jE (xs.drop (k*i.size)) (ys.drop (k*i.size))then(none,())else(some false,())) w
 |0,k,w,hx,hy=>by
  simp only[List.replicate_zero,List.flatten_nil,anS]at hx hy;simp[hx,hy,jE]
 |n+1,k,w,hx,hy=>by
  simp only[V5,TC]at hx hy;have vh:=anS.length hx;have sH:=anS.length hy;simp only[pb,Fx]at vh sH;obtain⟨Au,wa⟩:=anS.split hx;obtain⟨pT,eG⟩:=anS.split hy;have e2:k*i.size+s.length=(k+1)*i.size:=by rw[TE,hs];omega
  rw[Zco,e2]at wa eG;have Mw:0<i.size:=Uh;have p1:=λw=>jW (P:=P) w hd hi (xs:=xs) (off:=k*i.size) h1 (by omega);have p2:=λw=>jW (P:=P) w hd hi (xs:=ys) (off:=k*i.size) h1 (by omega);rw[hs]at Au pT;have hr:=ih _ _ w Au pT;have FG:jE (xs.drop (k*i.size)) (ys.drop (k*i.size))=(jE ((xs.drop (k*i.size)).take i.size) ((ys.drop (k*i.size)).take i.size)&&jE (xs.drop ((k+1)*i.size)) (ys.drop ((k+1)*i.size))):=by
   have a1:xs.drop (k*i.size)=(xs.drop (k*i.size)).take i.size++xs.drop ((k+1)*i.size):=by
    rw[<-e2,hs,<-List.drop_drop,wb]
   have a2:ys.drop (k*i.size)=(ys.drop (k*i.size)).take i.size++ys.drop ((k+1)*i.size):=by
    rw[<-e2,hs,<-List.drop_drop,wb]
   rw[a1,a2,oz (by simp;omega)];rw[<-a1,<-a2]
  simp only[St,ZcN,Sem.run_bind,p1,p2,Result.andThen_ok,hr];rw[FG];cases hb:jE ((xs.drop (k*i.size)).take i.size) ((ys.drop (k*i.size)).take i.size)
  ·simp
  ·have:=NQ hd hi h1 hs Uh ih xs ys n (k+1) w wa eG;simp only[Vq,TP,Lg,Sem.run_pure,Result.andThen_ok,R8];exact this
def yX{d:Nat}(ih:∀(t:TypeId) (bB:List Sh) (desc:TypeDesc),iX P d t=some bB->P.underlying t=some desc->∀(xs ys:List Value) (w:World),anS bB xs->anS bB ys->(Op.equalIn d t (sJ desc xs) (sJ desc ys)).run P w=.ok (jE xs ys) w)
  (Cr:∀(t:TypeId) (bB:List Sh),iX P d t=some bB->∃desc,P.underlying t=some desc/\(bu desc=true\/bB.length=1)) (xs ys:List Value):
  ∀(fs:List Field) (off:Nat) (bB:List Sh) (w:World),fA P (iX P d) off fs=some bB->anS bB (xs.drop off)->anS bB (ys.drop off)->off<=xs.length->off<=ys.length->
   (Op.eqFields d xs.toArray ys.toArray fs).run P w=.ok (jE (xs.drop off) (ys.drop off)) w
 |[],off,bB,w,h,hx,hy,_,_=>by
  simp only[fA,bN]at h;subst h;simp only[anS]at hx hy;simp[Op.eqFields,hx,hy,jE]
 |f::fs,off,bB,w,h,hx,hy,hox,hoy=>by
  simp only[fA]at h;split at h
  ·rename_i s i hs hi;split at h
   ·rename_i hc;obtain⟨hn,rfl,fG⟩:=hc;simp only[fE]at h;obtain⟨rest,pU,rfl⟩:=h;obtain⟨desc,hd,h1⟩:=Cr _ _ hs;have vh:=anS.length hx;have sH:=anS.length hy;simp only[pb,Fx]at vh sH;obtain⟨Au,wa⟩:=anS.split hx;obtain⟨pT,eG⟩:=anS.split hy;rw[Zco]at wa eG;rw[fG]at h1;have p1:=λw=>jW (P:=P) w hd hi (xs:=xs) (off:=f.offset) h1 (by omega);have p2:=λw=>jW (P:=P) w hd hi (xs:=ys) (off:=f.offset) h1 (by omega);have hr:=ih _ _ _ hs hd _ _ w Au pT;rw[fG]at hr;have FG:jE (xs.drop f.offset) (ys.drop f.offset)=(jE ((xs.drop f.offset).take i.size) ((ys.drop f.offset).take i.size)&&jE (xs.drop (f.offset+s.length)) (ys.drop (f.offset+s.length))):=by
     have a1:xs.drop f.offset=(xs.drop f.offset).take i.size++xs.drop (f.offset+s.length):=by rw[fG,<-List.drop_drop,wb]
     have a2:ys.drop f.offset=(ys.drop f.offset).take i.size++ys.drop (f.offset+s.length):=by rw[fG,<-List.drop_drop,wb]
     rw[a1,a2,oz (by simp;omega)];rw[<-a1,<-a2]
    simp only[Op.eqFields,hn,ne_eq,not_false_eq_true,yh,Sem.run_bind,p1,p2,Result.andThen_ok,hr];rw[FG];cases hb:jE ((xs.drop f.offset).take i.size) ((ys.drop f.offset).take i.size)
    ·simp
    ·simp only[Vq,TP,Lg,R8];exact yX ih Cr xs ys fs _ rest w pU wa eG (by omega) (by omega)
   ·cases h
  ·cases h
def m7:∀(d:Nat) (t:TypeId) (bB:List Sh) (desc:TypeDesc),iX P d t=some bB->P.underlying t=some desc->∀(xs ys:List Value) (w:World),anS bB xs->anS bB ys->
  (Op.equalIn d t (sJ desc xs) (sJ desc ys)).run P w=.ok (jE xs ys) w
 |0,t,bB,desc,h,_,_,_,_,_,_=>by simp[iX]at h
 |d+1,t,bB,desc,h,hu,xs,ys,w,hx,hy=>by
  simp only[iX,hu]at h;have one:∀{s:Sh} {zs:List Value},anS [s] zs->∃v,zs=[v]/\Ug s v=true:=by
   intro s zs hz;simp only[anS]at hz;obtain⟨v,fW,rfl,h1,rfl⟩:=hz;exact⟨v,rfl,h1⟩
  cases desc;case bool=>
   simp only[bN]at h;subst h;obtain⟨x,rfl,gx⟩:=one hx;obtain⟨y,rfl,gy⟩:=one hy;cases x<;>first|exact yV gx E6|skip
   cases y<;>first|exact yV gy E6|skip
   simp[sJ,bu,jE,V6,Op.equalIn,run_underlying hu]
  case int k=>
   simp only[bN]at h;subst h;obtain⟨x,rfl,gx⟩:=one hx;obtain⟨y,rfl,gy⟩:=one hy;cases x<;>first|exact yV gx E6|skip
   simp only[Ug,PL]at gx;cases y<;>first|exact yV gy E6|skip
   simp only[Ug,PL]at gy;subst gx gy;simp[sJ,bu,jE,V6,Op.equalIn,run_underlying hu]
  case string=>
   simp only[bN]at h;subst h;obtain⟨x,rfl,gx⟩:=one hx;obtain⟨y,rfl,gy⟩:=one hy;cases x<;>first|exact yV gx E6|skip
   cases y<;>first|exact yV gy E6|skip
   simp[sJ,bu,jE,V6,Op.equalIn,run_underlying hu,beq_toListBytes]
  case struct fs=>
   replace h:(if P.stoodInHeld t then none else fA P (iX P d) 0 fs.toList)=some bB:=h
   split at h
   ·cases h
   ·rename_i hp;have hfo:P.fieldsOf t=fs:=by simp[Program.fieldsOf,hu]
    simp only[sJ,bu,yh];rw[run_equalIn_struct w d t _ _ (by rw[hfo];exact hu) (by simpa using hp),hfo];have:=yX (λt bB desc=>m7 d t bB desc) (λt bB hs=>by
     cases d with
     |zero=>simp[iX]at hs
     |succ d=>exact vi hs) xs ys fs.toList 0 bB w h (by simpa using hx) (by simpa using hy) (by omega) (by omega)
    simpa using this
  case array n e=>
   replace h:(match iX P d e,P.info? e with
    |some s,some i=>if s.length=i.size/\0<i.size then some ((List.replicate n s).flatten)else none
    |_,_=>none)=some bB:=h
   split at h
   ·rename_i s i hs hi;split at h
    ·rename_i hc;simp only[bN]at h;subst h;have Sl:∃desc,P.underlying e=some desc/\(bu desc=true\/s.length=1):=by
      cases d with
      |zero=>simp[iX]at hs
      |succ d=>exact vi hs
     obtain⟨de,hd,h1⟩:=Sl;rw[hc.1]at h1;have:=NQ hd hi h1 hc.1 hc.2 (λxs ys w=>m7 d e s de hs hd xs ys w) xs ys n 0 w (by simpa using hx) (by simpa using hy);simp only[sJ,bu,yh,Op.equalIn,Sem.run_bind,run_underlying hu,Result.andThen_ok,run_sizeOf hi,Std.Legacy.Range.forIn_eq_forIn_range',Std.Legacy.Range.size,Mm,Tm,Nat.div_one];simp only[UL,List.drop_zero]at this;refine(congrArg (λr=>Result.andThen r _) this).trans ?_;cases jE xs ys<;>rfl
    ·cases h
   ·cases h
  all_goals exact yV h (by simp)
end
end
section
def m8(l:List (Nat×Operand))(HQ:Nat->Option (Nat×Nat)):Option (List (Nat×Nat×be)):=
 l.mapM λp=>do
  let q<-HQ p.1
  let x<-be.of p.2
  pure (q.1,q.2,x)
def we(P:Program)(t:TypeId):Option (Nat->Option (Nat×Nat)):=
 match P.underlying t with
 |some (.struct NR)=>(NR.toList.mapM λf=>(P.info? f.type).map λi=>(f.offset,i.size)).map λpl k=>pl[k]?
 |some (.array _ e)=>(P.info? e).map λie k=>some (k*ie.size,ie.size)
 |_=>none
def wg:Option Operand->Option (Option be)
 |none=>some none
 |some x=>(be.of x).map some
def rq:TypeDesc->be->Option Nat
 |.slice _,.eD .aF=>some 0
 |.pointer _,.eD (.v (.mb (.pointer none)))=>some 1
 |.func _ _ _,.eD (.v (.mb .nilFunc))=>some 2
 |_,_=>none
def fb(P:Program)(k:TypeId):Option (List Sh×Bool):=
 match P.underlying k,iX P 10000 k with
 |some d,some s=>some (s,bu d)
 |_,_=>none
def yY(P:Program)(e:TypeId):Option DV:=do
 let i<-P.info? e
 let z<-i.zero
 match z with
 |.agg cs=>(cs.toList.mapM jC).map .agg
 |z=>jC z
def jF(P:Program)(op:BinOp)(t:TypeId)(x y:be):Option mQ:=
 match P.underlying t with
 |some (.int _)=>match op with
  |.add|.sub|.mul|.quo|.rem|.eql|.neq|.lss|.leq|.gtr|.geq|.shl|.shr|.and|.or|.xor=>some (.bin op x y)
  |_=>none
 |some d=>match op,iX P 10000 t with
  |.eql,some bB=>if P.eqGuardType P.depth t then none else some (.eqT false (bu d) bB x y)
  |.neq,some bB=>if P.eqGuardType P.depth t then none else some (.eqT true (bu d) bB x y)
  |.eql,none=>(rq d y).map λk=>.isNil k false x
  |.neq,none=>(rq d y).map λk=>.isNil k true x
  |_,_=>none
 |none=>none
def dc(P:Program)(c:Call):Option mQ:=
 match c.callee with
 |.value (.func f)=>match P.funcs[f]? with
  |some fn=>if fn.name= "runtime.NumGoroutine" \/fn.body.isNone then none else(c.args.toList.mapM be.of).map (.call f)
  |none=>none
 |.value (.tmp t)=>(c.args.toList.mapM be.of).map (.callv (.tmp t))
 |.builtin .len=>match c.args.toList,c.argTypes.toList with
  |[x],[t]=>match P.underlying t with
   |some (.slice _)=>(be.of x).map .len
   |some .string=>(be.of x).map .lenS
   |some (.map _ _)=>(be.of x).map .lenM
   |_=>none
  |_,_=>none
 |.builtin .copy=>match c.args.toList,c.argTypes.toList with
  |[x,y],[t,_]=>match P.underlying t with
   |some (.slice e)=>match P.info? e with
    |some i=>do return .copy i.size (<-be.of x) (<-be.of y)
    |none=>none
   |_=>none
  |_,_=>none
 |.builtin .delete=>match c.args.toList,c.argTypes.toList with
  |[x,k],t::_=>match P.underlying t with
   |some (.map kt _)=>match fb P kt with
    |some ki=>do return .mapDel ki.1 ki.2 (<-be.of x) (<-be.of k)
    |none=>none
   |_=>none
  |_,_=>none
 |.builtin .min=>match c.args.toList with
  |[x,y]=>do return .minmax false (<-be.of x) (<-be.of y)
  |_=>none
 |.builtin .max=>match c.args.toList with
  |[x,y]=>do return .minmax true (<-be.of x) (<-be.of y)
  |_=>none
 |.builtin .append=>match c.args.toList,c.argTypes.toList with
  |[x,y],[t,t']=>if t≠t' then none else match P.underlying t with
   |some (.slice e)=>match P.info? e with
    |some i=>match i.zero with
     |some z=>if z.cells.size=i.size/\0<i.size then do return .append e i.size i.bytes (<-be.of x) (<-be.of y)else none
     |none=>none
    |none=>none
   |_=>none
  |_,_=>none
 |_=>none
def cy(P:Program)(o:Oper):Option mQ:=
 match o.op with
 |.move x|.assign x=>(be.of x).map .jS
 |.pick c a b=>do return .pick (<-be.of c) (<-be.of a) (<-be.of b)
 |.alloc e=>do
  let i<-P.info? e
  let z<-i.zero
  return .alloc (<-z.cells.toList.mapM jC)
 |.box _ x=>(be.of x).map .box
 |.build t parts=>do
  let i<-P.info? t
  let z<-i.zero
  let zs<-z.cells.toList.mapM jC
  let pl<-we P t
  return .build zs (<-m8 parts.toList pl)
 |.buildSlice t len parts=>
  match P.underlying t with
  |some (.slice e)=>do
   let ei<-P.info? e
   if len*ei.size>2^24\/ei.size=0 then none else
   let z<-ei.zero
   let zs<-(((Array.range (len*ei.size)).map (z.cells[· % z.cells.size]!)).toList).mapM jC
   return .bslice len ei.size zs (<-m8 parts.toList λk=>some (k*ei.size,ei.size))
  |_=>none
 |.load t a=>match P.underlying t,P.info? t with
  |some d,some i=>(be.of a).map (.load i.size (bu d))
  |_,_=>none
 |.store t a x=>do
  let i<-P.info? t
  return .store i.size (<-be.of a) (<-be.of x)
 |.nilCheck x=>(be.of x).map .nilCheck
 |.binOp op t x y _=>do jF P op t (<-be.of x) (<-be.of y)
 |.unOp op _ x=>(be.of x).map (.un op)
 |.convert src dst x=>match P.underlying src,P.underlying dst with
  |some (.int _),some (.int k)=>(be.of x).map (.conv k)
  |_,_=>none
 |.fieldAddr s x f=>match P.underlying s with
  |some (.struct fs)=>match fs[f]? with
   |some fd=>match P.info? fd.type with
    |some fi=>if fi.size=0 then none else(be.of x).map (.addOff fd.offset)
    |none=>none
   |none=>none
  |_=>none
 |.field s x f=>match P.underlying s with
  |some (.struct fs)=>match fs[f]? with
   |some fd=>match P.info? fd.type,P.underlying fd.type with
    |some fi,some d=>(be.of x).map (.field fd.offset fi.size (bu d))
    |_,_=>none
   |none=>none
  |_=>none
 |.indexAddr t x ix=>match P.underlying t with
  |some (.slice e)=>match P.info? e with
   |some i=>do return .idxAddr i.size (<-be.of x) (<-be.of ix)
   |none=>none
  |some (.array n e)=>match P.info? e with
   |some i=>do return .arrAddr n i.size (<-be.of x) (<-be.of ix)
   |none=>none
  |_=>none
 |.slice t x lo hi none=>match P.underlying t with
  |some (.slice e)=>match P.info? e with
   |some i=>do return .slice i.size (<-be.of x) (<-wg lo) (<-wg hi)
   |none=>none
  |_=>none
 |.extract t i=>(be.of t).map (.extract i)
 |.makeSlice t l c=>match P.underlying t with
  |some (.slice e)=>match P.info? e with
   |some i=>match i.zero with
    |some z=>match l,c with
     |.tmp a,.tmp b=>if a=b/\0<i.size then do return .mkSlice e i.size i.bytes (<-z.cells.toList.mapM m6) (.tmp a)else none
     |.const (.int k a),.const (.int k' b)=>if a=b/\k=k'/\0<i.size then do return .mkSlice e i.size i.bytes (<-z.cells.toList.mapM m6) (.eD (.v (.int k a)))else none
     |_,_=>none
    |none=>none
   |none=>none
  |_=>none
 |.makeFunc f first bP=>if first.isEmpty then do return .mkFn f (<-bP.toList.mapM be.of)else none
 |.call c=>dc P c
 |.makeMap t none=>match P.underlying t with
  |some (.map kt _)=>(fb P kt).map λki=>.mkMap ki.1 ki.2
  |_=>none
 |.lookup t x k ok=>match P.underlying t with
  |some (.map kt e)=>match fb P kt,yY P e with
   |some ki,some z=>do return .lookup ki.1 ki.2 z ok (<-be.of x) (<-be.of k)
   |_,_=>none
  |_=>none
 |.mapUpdate t x k y=>match P.underlying t with
  |some (.map kt _)=>match fb P kt with
   |some ki=>do return .mapUpd ki.1 ki.2 (<-be.of x) (<-be.of k) (<-be.of y)
   |none=>none
  |_=>none
 |.mapEntry t x k=>match P.underlying t with
  |some (.map kt e)=>match fb P kt,yY P e with
   |some ki,some z=>do return .mapEnt ki.1 ki.2 z (<-be.of x) (<-be.of k)
   |_,_=>none
  |_=>none
 |.entryStore _ x s y=>do return .entSt (<-be.of x) (<-be.of s) (<-be.of y)
 |.range t x=>match P.underlying t with
  |some (.map _ _)=>(be.of x).map .rangeM
  |_=>none
 |.entry x=>(be.of x).map .entryM
 |.index t x i=>match P.underlying t with
  |some .string=>do return .indexS (<-be.of x) (<-be.of i)
  |_=>none
 |.panic _|.makeInterface .. =>some .fail
 |_=>none
section
variable{w:World}{W:dJ}{ab:bA}{L:Loc}
def yZ(off:Nat):∀(vs:List Value) (j0:Nat) (cs:Array Value),off+j0+vs.length<=cs.size->
  (vs.zipIdx j0).foldl (λcs (x:Value×Nat)=>cs.setIfInBounds (off+x.2) x.1) cs=(bH cs.toList (off+j0) vs).toArray
 |[],j0,cs,_=>by simp[bH]
 |v::vs,j0,cs,h=>by
  simp only[pc]at h;simp only[ZbG,F6];rw[yZ off vs (j0+1) _ (by simp;omega)]
  congr 1
  simp only[bH,Array.toList_setIfInBounds,pc];have e:=list_seg_step cs.toList (off+j0) v vs (by simp;omega);simpa [ym]using e
def wh{a:Act}{ρ:cQ}(hg:vT w (WW W ab L))(gb:∀t,ap w W ab L (ρ t) (a.tmps.getD t Go.undef)){HQ:Nat->Option (Nat×Nat)}:∀(ps:List (Nat×Operand)) (qs:List (Nat×Nat×be)),m8 ps HQ=some qs->
  ∀(cells:Array Value) (ds:bD),aH w W ab L ds cells.toList->oe cells.size (qs.map λp=>(p.1,p.2.1,p.2.2.ev ρ))->
   ∃wi,Instr.fill HQ cells (ps.map λp=>(p.1,a.eval p.2))=some wi/\aH w W ab L (pQ ds (qs.map λp=>(p.1,p.2.1,p.2.2.ev ρ))) wi.toList/\wi.size=cells.size
 |[],qs,h,cells,ds,hd,_=>by
  simp[m8]at h;subst h;exact⟨cells,rfl,by simpa [pQ]using hd,rfl⟩
 |p::ps,qs,h,cells,ds,hd,aB=>by
  simp only[m8,LQ,I7,gV,fO,bN]at h;obtain⟨q,⟨pl,MJ,x,hx,rfl⟩,qs',hqs,rfl⟩:=h;simp only[l8,oe]at aB;obtain⟨hl,jD,uf,pU⟩:=aB;have hv:=be.bd hg gb hx;have pR:=me hv uf;have cD:(a.eval p.2).cells.size=pl.2:=by have:=aH.length pR;simpa [hl]using this
  have K0:((a.eval p.2).cells.zipIdx.foldl (λcs (x:Value×Nat)=>cs.setIfInBounds (pl.1+x.2) x.1) cells)=(bH cells.toList pl.1 (a.eval p.2).cells.toList).toArray:=by
   rw[<-Array.foldl_toList,Array.toList_zipIdx];have:=yZ pl.1 (a.eval p.2).cells.toList 0 cells (by simp[cD];omega);simpa using this
  have Hf:aH w W ab L (bH ds pl.1 (cellsOf (x.ev ρ))) (bH cells.toList pl.1 (a.eval p.2).cells.toList).toArray.toList:=by
   simpa using aH.bH pl.1 hd pR
  have fG:(bH cells.toList pl.1 (a.eval p.2).cells.toList).toArray.size=cells.size:=by
   have:=eP (l:=cells.toList) (new:=(a.eval p.2).cells.toList) (off:=pl.1) (by simp[cD];omega);simpa using this
  obtain⟨wi,h1,h2,h3⟩:=wh hg gb ps qs' (by simpa [m8]using hqs) _ _ Hf (by rw[fG];exact pU);refine⟨wi, ?_,by simpa only[l8,pQ]using h2,h3.trans fG⟩;simp only[l8,Instr.fill,MJ,cD];rw[mL (by simp;omega),K0];exact h1
def oC{P:Program}(w:World){t e:TypeId}{i:TypeInfo}{z:Value}(ht:P.underlying t=some (.slice e))(hi:P.info? e=some i)(hz:i.zero=some z)(len:Nat)(dI:¬len*i.size>2^24){parts:Array (Nat×Value)}{cells:Array Value}
  (h:Instr.fill (λk=>some (k*i.size,i.size)) ((Array.range (len*i.size)).map (z.cells[· % z.cells.size]!)) parts.toList=some cells):
  (Instr.buildSlice t len parts).run P w=.ok (.slice (some ⟨w.heap.size,0,none⟩) len len) (w.alloc (.cells cells e)):=by
 by_cases h0:len*i.size=0
 ·have h':Instr.fill (λk=>some (k*i.size,i.size)) #[] parts.toList=some cells:=by
   rw[h0]at h;simpa [Array.range_zero']using h
  simp[Instr.buildSlice,run_underlying ht,run_sizeOf hi,h0,h',newRow,Array.range_zero']
 ·simp[Instr.buildSlice,run_underlying ht,run_sizeOf hi,zeroValue,typeInfo,hi,hz,h0,dI,h,newRow]
end
end
end Go.DM
namespace Go.DM
open Go.RowKit
section
variable{d1 d2 d:DV}{xv yv:Value}
variable [bh]
def bL(P:Program)(base:Nat)(W M:dJ)(w0:World)(ab:bA)(L:Loc)(w:World)(a:Act)(o:Oper)(e:my):Prop:=
 ∃nx v w' L',(execOp a.eval o).run P w=.ok nx w'/\(nx=.value v\/(nx=.skip/\v=Go.undef))/\
  bJ base W M w0 (bQ ab e.put) w' L'/\fX W ab L w (bQ ab e.put) L' w'/\ap w' W (bQ ab e.put) L' e.val v
section
variable{P:Program}{base:Nat}{W M:dJ}{w0:World}{ab:bA}{L:Loc}{w:World}{a:Act}{o:Oper}
def bL.ji(hO:bJ base W M w0 ab w L){e:my}(wj:e.put=none){v:Value}(bq:(execOp a.eval o).run P w=.ok (.value v) w)(hv:ap w W ab L e.val v):bL P base W M w0 ab L w a o e:=
 ⟨.value v,v,w,L,bq,.inl rfl,by rw[wj];exact hO,by rw[wj];exact fX.bZ (ch.refl _ _),by rw[wj];exact hv⟩
def bL.int(hO:bJ base W M w0 ab w L){e:my}(wj:e.put=none){k:IntKind}{n:Int}(dt:e.val=.v (.int k n))(bq:(execOp a.eval o).run P w=.ok (.value (.int k n)) w):bL P base W M w0 ab L w a o e:=
 bL.ji hO wj bq (by rw[dt];simp[ap,aO])
def bL.bool(hO:bJ base W M w0 ab w L){e:my}(wj:e.put=none){b:Bool}(dt:e.val=.v (.bool b))(bq:(execOp a.eval o).run P w=.ok (.value (.bool b)) w):bL P base W M w0 ab L w a o e:=
 bL.ji hO wj bq (by rw[dt];simp[ap,aO])
def K1(hO:bJ base W M w0 ab w L){op:BinOp}{t:TypeId}{x y:Operand}{yt:TypeId}(ho:o.op=.binOp op t x y yt)(h1:ap w W ab L d1 (a.eval x))(h2:ap w W ab L d2 (a.eval y))(aB:(og op d1 d2).ok):
  bL P base W M w0 ab L w a o (og op d1 d2):=by
 have key:∀{k k':IntKind} {p q:Int},d1=.v (.int k p)->d2=.v (.int k' q)->bL P base W M w0 ab L w a o (og op d1 d2):=by
  rintro k k' p q rfl rfl;simp only[ap,aO]at h1 h2;have MK:∀(v:Value),(eqGuard op t x y (.int k p) (.int k' q)).run P w=.ok () w->(binOp op t (.int k p) (.int k' q)).run P w=.ok v w->(execOp a.eval o).run P w=.ok (.value v) w:=by
   intro v e1 e2;simp[execOp,ho,h1,h2,e1,e2]
  have hg:(eqGuard op t x y (.int k p) (.int k' q)).run P w=.ok () w:=by cases op<;>simp[eqGuard]
  cases op<;>simp only[og,cb]at aB⊢
  all_goals first
   |exact aB.elim
   |(subst aB;first
     |(refine bL.int hO rfl rfl (MK _ hg ?_);simp[binOp,Op.intArith];done)
     |(refine bL.int hO rfl rfl (MK _ hg ?_);simp[binOp,Op.intBits];done)
     |(refine bL.bool hO rfl rfl (MK _ hg ?_);simp[binOp,Op.intCmp];done)
     |(refine bL.bool hO rfl rfl (MK _ hg ?_);simp[binOp,Op.intCmp];rfl))
   |(refine bL.int hO rfl rfl (MK _ hg ?_);simp[binOp,shift_shl_any _ _ _ _ aB,shift_shr_any _ _ _ _ aB];done)
   |(obtain⟨rfl,hq⟩:=aB;exact bL.int hO rfl rfl (MK _ hg (by simp[binOp,Op.intDiv,hq])))
 unfold og at aB;split at aB
 ·exact key rfl rfl
 ·exact aB.elim
def Av{x:Value}{cs:bD}(h:ap w W ab L d x)(hc:jT d=some cs):∃vs:Array Value,x=.agg vs/\aH w W ab L cs vs.toList:=by
 cases d with
 |v t=>
  cases t with
  |agg ts=>
   simp only[jT,bN]at hc;subst hc;simp only[ap,aO]at h;obtain⟨vs,rfl,hr⟩:=h;exact⟨vs,rfl,aH.m5 hr⟩
  |_=>simp[jT]at hc
 |agg ds=>
  simp only[jT,bN]at hc;subst hc;simp only[ap]at h;exact h
 |_=>simp[jT]at hc
def Cs{s:TypeId}{f:Nat}{fs:Array Field}{fd:Field}{i:TypeInfo}{desc:TypeDesc}(hs:P.underlying s=some (.struct fs))(hf:fs[f]? =some fd)(hi:P.info? fd.type=some i)(hd:P.underlying fd.type=some desc)
   (h:ap w W ab L d xv) (aB:(kN fd.offset i.size (bu desc) d).ok):
  (kN fd.offset i.size (bu desc) d).put=none/\∃v,(Instr.field s xv f).run P w=.ok v w/\ap w W ab L (kN fd.offset i.size (bu desc) d).val v:=by
 unfold kN at aB⊢;cases hc:jT d with
 |none=>simp[hc,cb]at aB
 |some cs=>
  simp only[hc]at aB⊢;obtain⟨vs,rfl,hr⟩:=Av h hc;have hl:=aH.length hr;have hp:=jW (P:=P) w hd hi (xs:=vs.toList) (off:=fd.offset) aB.2 (by omega);simp only[Zcs]at hp;refine⟨trivial,_,by simp[Instr.field,run_underlying hs,hf,asAgg,hp];rfl, ?_⟩;by_cases ha:bu desc=true
  ·simp only[ha,yh,sJ,ap];exact⟨_,rfl,by simpa using aH.take i.size (aH.drop fd.offset hr)⟩
  ·have h1:i.size=1:=aB.2.resolve_left ha;have dR:fd.offset<cs.length:=by omega
   obtain⟨v,nH,_,jV⟩:=aH.get hr (i:=fd.offset) (d:=cs[fd.offset]) (by simp[dR]);have e1:(List.take i.size (List.drop fd.offset vs.toList)).getD 0 Go.undef=v:=by
    rw[h1];simp only[List.getD,Fo,TU,ET,nH];simp
   have e2:cs.getD fd.offset .undef=cs[fd.offset]:=by simp[List.getD,dR]
   simp only[ha,sJ,e1,e2];exact jV
def Aw{k:Nat}(h:ap w W ab L d xv)(aB:(fe k d).ok):
  (fe k d).put=none/\∃b o,xv=.pointer (some ⟨b,o,none⟩)/\ap w W ab L (fe k d).val (.pointer (some ⟨b,o+k,none⟩)):=by
 cases d with
 |ptr r off=>
  simp only[ap]at h;obtain⟨hc,rfl⟩:=h;exact⟨rfl,_,_,rfl,by simp only[fe,ap];exact⟨hc,trivial⟩⟩
 |jr an i off=>
  simp only[ap]at h;obtain⟨b,o,sz,rfl,rest⟩:=h;exact⟨rfl,_,_,rfl,by simp only[fe,ap];exact⟨b,o,sz,by rw[ym],rest⟩⟩
 |gq cs off=>
  simp only[ap]at h;obtain⟨b,o,rfl,rest⟩:=h;exact⟨rfl,_,_,rfl,by simp only[fe,ap];exact⟨b,o,by rw[ym],rest⟩⟩
 |gU r aX i off=>
  simp only[ap]at h;obtain⟨⟨b,o,rfl⟩,bi,e,sz,an,ho,iU,hx⟩:=h;refine⟨rfl,_,_,rfl, ?_⟩;simp only[fe,ap];refine⟨⟨_,_,rfl⟩,bi,e,sz,an,ho,iU,λhv=>?_⟩;obtain⟨g,hg,hp,h0,h1⟩:=hx hv;simp only[Value.pointer.injEq,bN,Addr.mk.injEq,QM]at hp;exact⟨g,hg,by rw[hp.1,hp.2,ym],h0,h1⟩
 |v t=>
  cases t with
  |box cs=>
   simp only[ap,aO]at h;obtain⟨b,o,rfl,rest⟩:=h;exact⟨rfl,_,_,rfl,by simp only[fe,ap];exact⟨b,o,rfl,rest⟩⟩
  |_=>exact aB.elim
 |_=>exact aB.elim
def wk(h:ap w W ab L d xv)(aB:(iF d).ok):
  (iF d).put=none/\(iF d).val=d/\((∃p,xv=.pointer (some p))\/∃f bP,xv=.func (.func f) #[] bP):=by
 cases d with
 |ptr r off=>simp only[ap]at h;obtain⟨_,rfl⟩:=h;exact⟨rfl,rfl,.inl ⟨_,rfl⟩⟩
 |jr an i off=>simp only[ap]at h;obtain⟨b,o,sz,rfl,_⟩:=h;exact⟨rfl,rfl,.inl ⟨_,rfl⟩⟩
 |gq cs off=>simp only[ap]at h;obtain⟨b,o,rfl,_⟩:=h;exact⟨rfl,rfl,.inl ⟨_,rfl⟩⟩
 |gU r aX i off=>simp only[ap]at h;obtain⟨⟨b,o,rfl⟩,_⟩:=h;exact⟨rfl,rfl,.inl ⟨_,rfl⟩⟩
 |v t=>
  cases t with
  |box cs=>simp only[ap,aO]at h;obtain⟨b,o,rfl,_⟩:=h;exact⟨rfl,rfl,.inl ⟨_,rfl⟩⟩
  |fn f bP=>
   cases f with
   |func f=>simp only[ap,aO]at h;obtain⟨vs,rfl,_⟩:=h;exact⟨rfl,rfl,.inr ⟨_,_,rfl⟩⟩
   |_=>exact aB.elim
  |_=>exact aB.elim
 |_=>exact aB.elim
def K2{t e:TypeId}{i:TypeInfo}(hO:bJ base W M w0 ab w L)(ht:P.underlying t=some (.slice e))(hi:P.info? e=some i)(h:ap w W ab L d xv)(h2:ap w W ab L d2 yv)(aB:(mX i.size ab d d2).ok):
  (mX i.size ab d d2).put=none/\∃v,(Instr.indexAt t xv yv).run P w=.ok v w/\ap w W ab L (mX i.size ab d d2).val v:=by
 have bq:∀(b o n c:Nat) (k:IntKind) (j:Int),0<=j->j<n->(Instr.indexAt t (.slice (some ⟨b,o,none⟩) n c) (.int k j)).run P w=.ok (.pointer (some ⟨b,o+j.toNat*i.size,none⟩)) w:=by
  intro b o n c k j h0 h1;simp[Instr.indexAt,asIntOf,run_underlying ht,h0,h1,run_sizeOf hi,jL]
 unfold mX at aB⊢;split at aB
 ·rename_i an k j;simp only at aB⊢;obtain⟨h0,h1,fG⟩:=aB;simp only[ap,aO]at h h2;subst h2;rcases h with⟨rfl,_⟩|⟨b,o,cap,sz,rfl,hb,hn,hc,hr⟩
  ·simp at h1;omega
  ·have fz:=(aT.row hr (sO h0 h1)).1;have ahB:sz=i.size:=by omega
   subst ahB;refine⟨trivial,_,bq b o _ _ k j h0 h1, ?_⟩;simp only[ap];exact⟨b,o,_,by rw[ET],hb,hn,hr,h0,h1⟩
 ·rename_i r aX k j;cases hc:ab r with
  |none=>simp[hc,cb]at aB
  |some ob=>
   cases ob with
   |box cs=>simp[hc,cb]at aB
   |map _ _ _ _=>simp[hc,cb]at aB
   |c8 _ _ _ _=>simp[hc,cb]at aB
   |aR bi e' fS an=>
    simp only[hc]at aB⊢;obtain⟨rfl,rfl,h0,h1⟩:=aB;simp only[ap,aO]at h h2;subst h2;obtain⟨_,mc,e2,yS,jh,lm,_,hv⟩:=h;rw[hc]at lm;cases lm;have hv:=hv rfl;subst hv;have c9:=hO.ob r _ hc;obtain⟨fG,bX,hm,ln⟩:=c9;rcases ln with⟨rfl,_⟩|⟨g',cap,dg,nH,hp,hh,iU,ol,Ap,eZ⟩
    ·simp at h1;omega
    ·refine⟨trivial,_,by rw[nH];exact bq g' 0 _ _ k j h0 h1, ?_⟩;simp only[ap];exact⟨⟨_,_,rfl⟩,aX,e',_,an,hc,iV _,λ_=>⟨g',by simp[nH,aP,Fz.1 hp],by simp,h0,h1⟩⟩
 ·rename_i r aX lo n k j;cases hc:ab r with
  |none=>simp[hc,cb]at aB
  |some ob=>
   cases ob with
   |box cs=>simp[hc,cb]at aB
   |map _ _ _ _=>simp[hc,cb]at aB
   |c8 _ _ _ _=>simp[hc,cb]at aB
   |aR bi e' fS an=>
    simp only[hc]at aB⊢;obtain⟨rfl,rfl,h0,h1⟩:=aB;simp only[ap,aO]at h h2;subst h2;obtain⟨_,mc,e2,yS,jh,lm,_,hv⟩:=h;rw[hc]at lm;cases lm;have hv:=hv rfl;rcases oq hO hc hv with⟨rfl,_⟩|⟨g,c,sS,rfl,V7,_⟩
    ·simp at h1;omega
    ·refine⟨trivial,_,bq g _ _ _ k j h0 h1, ?_⟩;have hl:=hv.1;have e1:((lo:Int)+j).toNat=lo+j.toNat:=by omega
     simp only[ap];exact⟨⟨_,_,rfl⟩,aX,e',_,an,hc,iV _,λ_=>⟨g,sS,by rw[e1,TE];simp,by omega,by omega⟩⟩
 ·rename_i r n k j;simp only[ap,aO]at h h2;subst h2;obtain⟨hc,rfl⟩:=h;obtain⟨h0,h1⟩:=aB;refine⟨rfl,_,bq _ _ _ _ k j h0 h1, ?_⟩;simp only[ap];exact⟨hc,by simp⟩
 ·exact aB.elim
def yy{t e:TypeId}{i:TypeInfo}{n:Nat}(ht:P.underlying t=some (.array n e))(hi:P.info? e=some i)(h:ap w W ab L d xv)(h2:ap w W ab L d2 yv)(aB:(iw n i.size d d2).ok):
  (iw n i.size d d2).put=none/\∃v,(Instr.indexAt t xv yv).run P w=.ok v w/\ap w W ab L (iw n i.size d d2).val v:=by
 have bq:∀(b o:Nat) (k:IntKind) (j:Int),0<=j->j<n->(Instr.indexAt t (.pointer (some ⟨b,o,none⟩)) (.int k j)).run P w=.ok (.pointer (some ⟨b,o+j.toNat*i.size,none⟩)) w:=by
  intro b o k j h0 h1;by_cases hn:n<=1<;>simp[Instr.indexAt,asIntOf,run_underlying ht,h0,h1,run_sizeOf hi,jL,Instr.sureAddr]
 unfold iw at aB⊢;split at aB
 ·rename_i r off k j;simp only[ap,aO]at h h2;obtain⟨hc,rfl⟩:=h;subst h2;exact⟨rfl,_,bq _ _ k j aB.1 aB.2,by simp only[ap];exact⟨hc,trivial⟩⟩
 ·rename_i an q off k j;simp only[ap,aO]at h h2;obtain⟨b,o,sz,rfl,rest⟩:=h;subst h2;exact⟨rfl,_,bq _ _ k j aB.1 aB.2,by simp only[ap];exact⟨b,o,sz,by rw[ym],rest⟩⟩
 ·rename_i cs off k j;simp only[ap,aO]at h h2;obtain⟨b,o,rfl,rest⟩:=h;subst h2;exact⟨rfl,_,bq _ _ k j aB.1 aB.2,by simp only[ap];exact⟨b,o,by rw[ym],rest⟩⟩
 ·rename_i cs k j;simp only[ap,aO]at h h2;obtain⟨b,o,rfl,rest⟩:=h;subst h2;exact⟨rfl,_,bq _ _ k j aB.1 aB.2,by simp only[ap];exact⟨b,o,rfl,rest⟩⟩
 ·rename_i r aX q off k j;simp only[ap,aO]at h h2;obtain⟨⟨b,o,rfl⟩,bi,e,sz,an,ho,iU,hx⟩:=h;subst h2;refine⟨rfl,_,bq _ _ k j aB.1 aB.2, ?_⟩;simp only[ap];refine⟨⟨_,_,rfl⟩,bi,e,sz,an,ho,iU,λhv=>?_⟩;obtain⟨g,hg,hp,h0,h1⟩:=hx hv;simp only[Value.pointer.injEq,bN,Addr.mk.injEq,QM]at hp;exact⟨g,hg,by rw[hp.1,hp.2,ym],h0,h1⟩
 ·exact aB.elim
def K3{x:Operand}{t e:TypeId}(hO:bJ base W M w0 ab w L)(ho:o.op=.call {callee:=.builtin .len,args:= #[x],argTypes:= #[t]})(ht:P.underlying t=some (.slice e))(h:ap w W ab L d (a.eval x))(aB:(qj ab d).ok):
  bL P base W M w0 ab L w a o (qj ab d):=by
 have qR:∀(p:Option Addr) (n c:Nat),a.eval x=.slice p n c->(execOp a.eval o).run P w=.ok (.value (.int .i64 n)) w:=by
  rintro p n c hx;simp[execOp,ho,resolve,invoke,builtin,hx,Builtin.len_,run_underlying ht,goInt]
 cases d with
 |v t'=>
  cases t' with
  |sl an=>
   simp only[ap,aO]at h;rcases h with⟨rfl,p,c,hx⟩|⟨b,oo,cap,sz,hx,_⟩
   ·exact bL.int hO rfl rfl (qR _ _ _ hx)
   ·exact bL.int hO rfl rfl (qR _ _ _ hx)
  |_=>exact aB.elim
 |aF=>
  simp only[ap]at h;obtain⟨p,hx⟩:=h;exact bL.int hO rfl rfl (qR _ _ _ hx)
 |aQ r aX=>
  simp only[ap]at h;obtain⟨_,bi,e',sz,an,hc,_,hv⟩:=h;simp only[qj,hc]at aB⊢;have hv:=hv aB;have c9:=hO.ob r _ hc;obtain⟨fG,bX,hm,ln⟩:=c9;rcases ln with⟨rfl,p,hp⟩|⟨g',cap,dg,nH,hp,hh,iU,ol,Ap,eZ⟩
  ·exact bL.int hO rfl rfl (qR _ _ _ (hv.trans hp))
  ·exact bL.int hO rfl rfl (qR _ _ _ (hv.trans nH))
 |qi r aX lo n=>
  simp only[ap]at h;obtain⟨⟨p,c,hx⟩,_⟩:=h;exact bL.int hO rfl rfl (qR _ _ _ hx)
 |Al r n=>
  simp only[ap]at h;obtain⟨_,hx⟩:=h;exact bL.int hO rfl rfl (qR _ _ _ hx)
 |_=>exact aB.elim
def FH{x:Operand}{t:TypeId}(hO:bJ base W M w0 ab w L)(ho:o.op=.call {callee:=.builtin .len,args:= #[x],argTypes:= #[t]})(ht:P.underlying t=some .string)(h:ap w W ab L d (a.eval x))(aB:(o9 d).ok):
  bL P base W M w0 ab L w a o (o9 d):=by
 unfold o9 at aB⊢;split at aB
 ·simp only[ap,aO]at h;refine bL.int hO rfl rfl ?_;simp[execOp,ho,resolve,invoke,builtin,h,Builtin.len_,run_underlying ht,goInt]
 ·exact aB.elim
def ru{x y:Operand}{ts:Array TypeId}(m:Bool)(hO:bJ base W M w0 ab w L)(ho:o.op=.call {callee:=.builtin (if m then .max else .min),args:= #[x,y],argTypes:=ts})(h1:ap w W ab L d1 (a.eval x))(h2:ap w W ab L d2 (a.eval y))(aB:(kD m d1 d2).ok):
  bL P base W M w0 ab L w a o (kD m d1 d2):=by
 unfold kD at aB⊢;split at aB
 ·rename_i k p k' q;simp only[ap,aO]at h1 h2;have abj:k=k':=aB;subst abj;cases m
  ·have e:(if q<p then q else p)=min p q:=by omega
   refine bL.int hO rfl rfl ?_;simp[execOp,ho,resolve,invoke,builtin,h1,h2,run_min_int2,e]
  ·have e:(if q>p then q else p)=max p q:=by omega
   refine bL.int hO rfl rfl ?_;simp only[gt_iff_lt]at e;simp[execOp,ho,resolve,invoke,builtin,h1,h2,run_max_int2,e]
 ·exact aB.elim
def y5{x:Value}{n:Int}(h:ap w W ab L d x)(hi:vW d=some n):∃k,x=.int k n:=by
 unfold vW at hi;split at hi
 ·simp only[bN]at hi;subst hi;simp only[ap,aO]at h;exact⟨_,h⟩
 ·cases hi
def Ct(hO:bJ base W M w0 ab w L){t e:TypeId}{i:TypeInfo}(ht:P.underlying t=some (.slice e))(hi:P.info? e=some i)(h:ap w W ab L d xv){lo vG:Option DV}{lv hv:Option Value}
  (hlo:(lo=none/\lv=none)\/∃dl vl,lo=some dl/\lv=some vl/\ap w W ab L dl vl) (hhi:(vG=none/\hv=none)\/∃dl vl,vG=some dl/\hv=some vl/\ap w W ab L dl vl)
  (aB:(gv i.size lo vG ab d).ok):
  (gv i.size lo vG ab d).put=none/\∃v,(Instr.sliceAt t xv lv hv none).run P w=.ok v w/\ap w W ab L (gv i.size lo vG ab d).val v:=by
 have bq:∀(p:Option Addr) (n c:Nat) (l hh:Int),0<=l->l<=hh->hh<=n->n<=c->(lv=none/\l=0\/∃k,lv=some (.int k l))->(hv=none/\hh=n\/∃k,hv=some (.int k hh))->
   (Instr.sliceAt t (.slice p n c) lv hv none).run P w=.ok (.slice (if c=l.toNat then p else p.map (·.add (l.toNat*i.size))) (hh.toNat-l.toNat) (c-l.toNat)) w:=by
  intro p n c l hh h0 h1 h2 h3 hl hh';have b2:hh<=c:=by omega
  have b3:0<=hh:=by omega
  have b4:l<=(hh.toNat:Int):=by omega
  have b5:((hh.toNat:Nat):Int)=hh:=by omega
  rcases hl with⟨rfl,rfl⟩|⟨k,rfl⟩<;>rcases hh' with⟨rfl,rfl⟩|⟨k',rfl⟩
  ·simp[Instr.sliceAt,Instr.slice,run_underlying ht,Instr.sliceBounds,run_sizeOf hi]
  ·simp[Instr.sliceAt,Instr.slice,run_underlying ht,Instr.sliceBounds,run_sizeOf hi,Instr.sliceBound,asIntOf,b2,b3]
  ·have b6:l<=(n:Int):=h1;simp[Instr.sliceAt,Instr.slice,run_underlying ht,Instr.sliceBounds,run_sizeOf hi,Instr.sliceBound,asIntOf,b6,h0]
  ·simp[Instr.sliceAt,Instr.slice,run_underlying ht,Instr.sliceBounds,run_sizeOf hi,Instr.sliceBound,asIntOf,b2,b3,h0,b5,h1]
 have NS:∀{l:Int},vX lo=some l->(lv=none/\l=0\/∃k,lv=some (.int k l)):=by
  intro l hl;rcases hlo with⟨rfl,rfl⟩|⟨dl,vl,rfl,rfl,hr⟩
  ·simp only[vX,bN]at hl;exact .inl ⟨rfl,hl.symm⟩
  ·obtain⟨k,rfl⟩:=y5 hr hl;exact .inr ⟨k,rfl⟩
 have dt:∀{n:Int} {l:Int},vY n vG=some l->(hv=none/\l=n\/∃k,hv=some (.int k l)):=by
  intro n l hl;rcases hhi with⟨rfl,rfl⟩|⟨dl,vl,rfl,rfl,hr⟩
  ·simp only[vY,bN]at hl;exact .inl ⟨rfl,hl.symm⟩
  ·obtain⟨k,rfl⟩:=y5 hr hl;exact .inr ⟨k,rfl⟩
 cases d with
 |v t'=>
  cases t' with
  |sl an=>
   simp only[gv]at aB⊢;cases el:vX lo with
   |none=>simp[el,cb]at aB
   |some l=>
    cases eh:vY an.length vG with
    |none=>simp[el,eh,cb]at aB
    |some hh=>
     simp only[el,eh]at aB⊢;obtain⟨h0,h1,h2,fG⟩:=aB;refine⟨trivial, ?_⟩;simp only[ap,aO]at h;have dI:((an.take hh.toNat).drop l.toNat).length=hh.toNat-l.toNat:=by simp;omega
     rcases h with⟨rfl,p,c,rfl⟩|⟨b,oo,cap,sz,rfl,hb,hn,hc,hr⟩
     ·have z1:hh=0:=by simp at h2;omega
      have z2:l=0:=by omega
      subst z1 z2;refine⟨_,bq p 0 c 0 0 h0 h1 (by omega) (by omega) (NS el) (dt eh), ?_⟩;simp only[ap,aO];exact .inl ⟨by simp,_,_,rfl⟩
     ·refine⟨_,bq _ _ cap l hh h0 h1 h2 hc (NS el) (dt eh), ?_⟩;simp only[ap,aO];by_cases uf:cap=l.toNat
      ·refine .inl ⟨?_,_,_,by rw[show hh.toNat-l.toNat=0 by omega]⟩;apply kx;omega
      ·refine .inr ⟨b,oo+l.toNat*i.size,cap-l.toNat,i.size, ?_,hb,hn,by omega, ?_⟩
       ·rw[dI,mL uf];simp[jL]
       ·refine aT.vf _ _ λj r hj=>?_;rw[TU,Fo]at hj;split at hj
        ·have fz:=aT.row hr hj;have Fa:=fG r (zM hj);have:sz=i.size:=by omega
         subst this;refine⟨Fa, ?_⟩;have e2:oo+l.toNat*i.size+j*i.size=oo+(l.toNat+j)*i.size:=by rw[TE];omega
         rw[e2];exact fz.2
        ·cases hj
  |_=>exact aB.elim
 |aF=>
  simp only[gv]at aB⊢;cases el:vX lo with
  |none=>simp[el,cb]at aB
  |some l=>
   cases eh:vY 0 vG with
   |none=>simp[el,eh,cb]at aB
   |some hh=>
    simp only[el,eh]at aB⊢;obtain⟨rfl,rfl⟩:=aB;refine⟨trivial, ?_⟩;simp only[ap]at h;obtain⟨p,rfl⟩:=h;refine⟨_,bq p 0 0 0 0 (V2 _) (V2 _) (by omega) (iV _) (NS el) (dt eh), ?_⟩;simp[ap]
 |aQ r aX=>
  simp only[gv]at aB⊢;cases hc:ab r with
  |none=>simp[hc,cb]at aB
  |some ob=>
   cases ob with
   |aR bi e' fS an=>
    simp only[hc]at aB⊢;cases el:vX lo with
    |none=>simp[el,cb]at aB
    |some l=>
     cases eh:vY an.length vG with
     |none=>simp[el,eh,cb]at aB
     |some hh=>
      simp only[el,eh]at aB⊢;obtain⟨rfl,rfl,h0,h1,h2⟩:=aB;refine⟨trivial, ?_⟩;simp only[ap]at h;obtain⟨_,mc,e2,yS,jh,lm,_,nG⟩:=h;rw[hc]at lm;cases lm;have nG:=nG rfl;subst nG;obtain⟨_,_,_,ln⟩:=hO.ob r _ hc;have qR:∃p cap,L.sl r=.slice p an.length cap/\an.length<=cap:=by
       rcases ln with⟨rfl,a,ha⟩|⟨g,cap,dg,k1,k2,k3,k4,_⟩
       ·exact⟨a,0,ha,iV _⟩
       ·exact⟨_,cap,k1,k4⟩
      obtain⟨p,cap,qR,ol⟩:=qR;refine⟨_,by rw[qR];exact bq p an.length cap l hh h0 h1 h2 ol (NS el) (dt eh), ?_⟩;simp only[ap];exact⟨⟨_,_,rfl⟩,aX,e',_,an,hc,iV _,λ_=>⟨by omega,p,cap,_,qR,rfl,λdR=>by rw[mL (by omega)]⟩⟩
   |_=>simp[hc,cb]at aB
 |qi r aX lo0 n=>
  simp only[gv]at aB⊢;cases hc:ab r with
  |none=>simp[hc,cb]at aB
  |some ob=>
   cases ob with
   |aR bi e' fS an=>
    simp only[hc]at aB⊢;cases el:vX lo with
    |none=>simp[el,cb]at aB
    |some l=>
     cases eh:vY n vG with
     |none=>simp[el,eh,cb]at aB
     |some hh=>
      simp only[el,eh]at aB⊢;obtain⟨rfl,rfl,h0,h1,h2⟩:=aB;refine⟨trivial, ?_⟩;simp only[ap]at h;obtain⟨_,mc,e2,yS,jh,lm,_,nG⟩:=h;rw[hc]at lm;cases lm;obtain⟨Es,p,cap,p2,qR,rfl,GV⟩:=nG rfl;obtain⟨_,_,_,ln⟩:=hO.ob r _ hc;have ol:an.length<=cap/\∀q,p=some q->0<cap->∃g,q=⟨g,0,none⟩:=by
       rcases ln with⟨rfl,a,ha⟩|⟨g,ahy,dg,k1,k2,k3,k4,_⟩
       ·exact⟨by simp,λq hq Ue=>by rw[qR]at ha;cases ha;omega⟩
       ·rw[qR]at k1;cases k1;exact⟨k4,λq hq _=>⟨g,by simpa using hq.symm⟩⟩
      refine⟨_,bq p2 n (cap-lo0) l hh h0 h1 h2 (by omega) (NS el) (dt eh), ?_⟩;simp only[ap];refine⟨⟨_,_,rfl⟩,aX,e',_,an,hc,iV _,λ_=>⟨by omega,p,cap,_,qR,by rw[Nat.sub_sub],λdR=>?_⟩⟩;rw[mL (by omega),GV (by omega)];cases p with
      |none=>rfl
      |some q=>
       obtain⟨g,rfl⟩:=ol.2 q rfl (by omega);simp[jL,TE]
   |_=>simp[hc,cb]at aB
 |_=>exact aB.elim
end
end
section
variable{W':dJ}{bB:List Sh}{agg:Bool}{es:List (Nat×T×DV)}
variable [bh]
section
variable{P:Program}{base:Nat}{W M:dJ}{w0:World}{ab:bA}{L:Loc}{w:World}{a:Act}{o:Oper}
def fP{W':dJ}:∀{bB:List Sh} {ts:ar} {vs:List Value},cT bB ts->aN w W' ts vs->anS bB vs
 |[],ts,vs,h,hr=>by
  simp only[cT]at h;subst h;simpa [aN,anS]using hr
 |s::ss,[],vs,h,_=>by simp[cT]at h
 |s::ss,t::ts,vs,h,hr=>by
  simp only[cT]at h;simp only[aN]at hr;obtain⟨v,fW,rfl,_,h2,hr⟩:=hr;simp only[anS];refine⟨v,fW,rfl, ?_,fP h.2 hr⟩;have h1:=h.1;cases s<;>cases t<;>first|exact yV h1 E6|skip
  all_goals (simp only[aO]at h2;subst h2;first|rfl|exact h1)
def Cv{s:Sh}{t u:T}{x y:Value}(ht:uT s t=true)(hu:uT s u=true)(hx:aO w W' t x)(hy:aO w W' u y):eF t u=V6 x y:=by
 cases s<;>cases t<;>(first|exact yV ht E6|skip)<;>cases u<;>(first|exact yV hu E6|skip)
 all_goals (simp only[aO]at hx hy;subst hx hy;simp only[eF,V6])
 ·rfl
 ·rename_i s1 s2;by_cases h:s1=s2
  ·subst h;simp
  ·have cZ:s1.toList≠s2.toList:=λe=>h (by
    rw[ByteArray.toList_eq,ByteArray.toList_eq]at e;obtain⟨d1⟩:=s1;obtain⟨d2⟩:=s2;exact congrArg ByteArray.mk (Array.ext' e))
   simp[h,cZ]
def sT{W':dJ}:∀{bB:List Sh} {ts us:ar} {xs ys:List Value},cT bB ts->cT bB us->aN w W' ts xs->aN w W' us ys->mz ts us=jE xs ys
 |[],ts,us,xs,ys,h1,h2,hx,hy=>by
  simp only[cT]at h1 h2;subst h1 h2;simp only[aN]at hx hy;subst hx hy;rfl
 |s::ss,[],_,_,_,h,_,_,_=>by simp[cT]at h
 |s::ss,_::_,[],_,_,_,h,_,_=>by simp[cT]at h
 |s::ss,t::ts,u::us,xs,ys,h1,h2,hx,hy=>by
  simp only[cT]at h1 h2;simp only[aN]at hx hy;obtain⟨x,jU,rfl,_,Au,hx⟩:=hx;obtain⟨y,ys',rfl,_,pT,hy⟩:=hy;simp only[mz,jE];rw[Cv h1.1 h2.1 Au pT,sT h1.2 h2.2 hx hy]
def ed{t:T}(h:cT bB [t]):∃s,bB=[s]/\uT s t=true:=by
 cases bB with
 |nil=>simp[cT]at h
 |cons s ss=>
  simp only[cT]at h;cases ss with
  |nil=>exact⟨s,rfl,h.1⟩
  |cons s2 ss=>simp[cT]at h
def r8{em:Bool}{d:Nat}(ih:∀(t:TypeId) (bB:List Sh) (desc:TypeDesc),iX P d t=some bB->P.underlying t=some desc->∀(xs:List Value) (w:World),anS bB xs->(Instr.checkKey em d t (sJ desc xs)).run P w=.ok () w)
  (Cr:∀(t:TypeId) (bB:List Sh),iX P d t=some bB->∃desc,P.underlying t=some desc/\(bu desc=true\/bB.length=1)) (xs:List Value):
  ∀(fs:List Field) (off:Nat) (bB:List Sh) (w:World),fA P (iX P d) off fs=some bB->anS bB (xs.drop off)->off<=xs.length->
   (forIn fs PUnit.unit (λf (_:PUnit)=>
      if f.name≠ "_" then do
       let x<-part f.type xs.toArray f.offset
       Instr.checkKey em d f.type x
       pure (ForInStep.yield PUnit.unit)
      else pure (ForInStep.yield PUnit.unit)):Sem PUnit).run P w=.ok PUnit.unit w
 |[],off,bB,w,h,hx,_=>by simp
 |f::fs,off,bB,w,h,hx,hox=>by
  simp only[fA]at h;split at h
  ·rename_i s i hs hi;split at h
   ·rename_i hc;obtain⟨hn,rfl,fG⟩:=hc;simp only[fE]at h;obtain⟨rest,pU,rfl⟩:=h;obtain⟨desc,hd,h1⟩:=Cr _ _ hs;have vh:=anS.length hx;simp only[pb,Fx]at vh;obtain⟨Au,wa⟩:=anS.split hx;rw[Zco]at wa;rw[fG]at h1;have p1:=λw=>jW (P:=P) w hd hi (xs:=xs) (off:=f.offset) h1 (by omega);have hr:=ih _ _ _ hs hd _ w Au;rw[fG]at hr;simp only[ZcN,hn,ne_eq,not_false_eq_true,yh,Sem.run_bind,p1,Result.andThen_ok,hr,Sem.run_pure];exact r8 ih Cr xs fs _ rest w pU wa (by omega)
   ·cases h
  ·cases h
def s9{em:Bool}{d:Nat}{e:TypeId}{de:TypeDesc}{s:List Sh}{i:TypeInfo}(hd:P.underlying e=some de)(hi:P.info? e=some i)(h1:bu de=true\/i.size=1)(hs:s.length=i.size)
  (ih:∀(xs:List Value) (w:World),anS s xs->(Instr.checkKey em d e (sJ de xs)).run P w=.ok () w) (xs:List Value):
  ∀(n k:Nat) (w:World),anS ((List.replicate n s).flatten) (xs.drop (k*i.size))->
   (forIn (List.range' k n) PUnit.unit (λj (_:PUnit)=>do
      let sz<-sizeOf e
      let x<-part e xs.toArray (j*sz)
      Instr.checkKey em d e x
      pure (ForInStep.yield PUnit.unit)):Sem PUnit).run P w=.ok PUnit.unit w
 |0,k,w,hx=>by simp
 |n+1,k,w,hx=>by
  simp only[V5,TC]at hx;have vh:=anS.length hx;simp only[pb,Fx]at vh;obtain⟨Au,wa⟩:=anS.split hx;have e2:k*i.size+s.length=(k+1)*i.size:=by rw[TE,hs];omega
  rw[Zco,e2]at wa;by_cases hz:i.size=0
  ·have fG:∀(w:World),k*i.size+i.size<=xs.length\/xs.length<k*i.size:=λ_=>by omega
   have HP:=h1.elim id (λh=>by omega);have p1:=λw=>jW (P:=P) w hd hi (xs:=xs) (off:=k*i.size) h1 (by rw[hz];simp);rw[hs]at Au;have hr:=ih _ w Au;simp only[St,ZcN,Sem.run_bind,run_sizeOf hi,p1,Result.andThen_ok,hr,Sem.run_pure];exact s9 hd hi h1 hs ih xs n (k+1) w wa
  ·have p1:=λw=>jW (P:=P) w hd hi (xs:=xs) (off:=k*i.size) h1 (by omega);rw[hs]at Au;have hr:=ih _ w Au;simp only[St,ZcN,Sem.run_bind,run_sizeOf hi,p1,Result.andThen_ok,hr,Sem.run_pure];exact s9 hd hi h1 hs ih xs n (k+1) w wa
def ta(em:Bool):∀(d:Nat) (t:TypeId) (bB:List Sh) (desc:TypeDesc),iX P d t=some bB->P.underlying t=some desc->∀(xs:List Value) (w:World),anS bB xs->(Instr.checkKey em d t (sJ desc xs)).run P w=.ok () w
 |0,t,bB,desc,h,_,_,_,_=>by simp[iX]at h
 |d+1,t,bB,desc,h,hu,xs,w,hx=>by
  simp only[iX,hu]at h;cases desc;case bool=>simp[sJ,bu,Instr.checkKey,run_underlying hu]
  case int k=>simp[sJ,bu,Instr.checkKey,run_underlying hu]
  case string=>simp[sJ,bu,Instr.checkKey,run_underlying hu]
  case struct fs=>
   replace h:(if P.stoodInHeld t then none else fA P (iX P d) 0 fs.toList)=some bB:=h
   split at h
   ·cases h
   ·have:=r8 (em:=em) (λt bB desc=>ta em d t bB desc) (λt bB hs=>by
     cases d with
     |zero=>simp[iX]at hs
     |succ d=>exact vi hs) xs fs.toList 0 bB w h (by simpa using hx) (by omega)
    simp only[sJ,bu,yh];rw[Instr.checkKey];simp only[Sem.run_bind,run_underlying hu,Result.andThen_ok];rw[<-Array.forIn_toList];refine(congrArg (λr=>Result.andThen r _) this).trans ?_;rfl
  case array n e=>
   replace h:(match iX P d e,P.info? e with
    |some s,some i=>if s.length=i.size/\0<i.size then some ((List.replicate n s).flatten)else none
    |_,_=>none)=some bB:=h
   split at h
   ·rename_i s i hs hi;split at h
    ·rename_i hc;simp only[bN]at h;subst h;have Sl:∃desc,P.underlying e=some desc/\(bu desc=true\/s.length=1):=by
      cases d with
      |zero=>simp[iX]at hs
      |succ d=>exact vi hs
     obtain⟨de,hd,h1⟩:=Sl;rw[hc.1]at h1;have:=s9 hd hi h1 hc.1 (λxs w=>ta em d e s de hs hd xs w) xs n 0 w (by simpa using hx);simp only[sJ,bu,yh];rw[Instr.checkKey];simp only[Sem.run_bind,run_underlying hu,Result.andThen_ok,Std.Legacy.Range.forIn_eq_forIn_range',Std.Legacy.Range.size,Mm,Tm,Nat.div_one];refine(congrArg (λr=>Result.andThen r _) this).trans ?_;rfl
    ·cases h
   ·cases h
  all_goals exact yV h (by simp)
def oS:T->ar
 |.agg as=>as
 |t=>[t]
def iA{t:T}(h:cU bB agg t):cT bB (oS t):=by
 cases t<;>simp only[cU]at h<;>exact h.2
def te{desc:TypeDesc}{t:T}{x:Value}(h:cU bB (bu desc) t)(hr:aO w W' t x):∃vs,x=sJ desc vs/\aN w W' (oS t) vs:=by
 cases t with
 |agg as=>
  simp only[cU]at h;simp only[aO]at hr;obtain⟨vs,rfl,hr⟩:=hr;exact⟨vs.toList,by simp[sJ,h.1],hr⟩
 |_=>
  simp only[cU]at h;refine⟨[x],by simp[sJ,h.1], ?_⟩;simp only[oS,aN];obtain⟨s,rfl,hs⟩:=ed h.2;refine⟨x,[],rfl, ?_,hr,rfl⟩;cases s<;>first|exact yV hs E6|(simp only[aO]at hr;subst hr;rfl)
def xg{t u:T}(h:cU bB agg t)(k:cU bB agg u):eF t u=mz (oS t) (oS u):=by
 cases t with
 |agg as=>
  cases u with
  |agg bs=>rfl
  |_=>simp only[cU]at h k;rw[h.1]at k;exact yV k.1 (by simp)
 |_=>
  cases u with
  |agg bs=>simp only[cU]at h k;rw[k.1]at h;exact yV h.1 (by simp)
  |_=>simp[oS,mz]
def OQ{s:Sh}{t u:T}(ht:uT s t=true)(hu:uT s u=true)(h:eF t u=true):t=u:=by
 cases s<;>cases t<;>(first|exact yV ht E6|skip)<;>cases u<;>(first|exact yV hu E6|skip)
 ·simp only[eF,PL]at h;rw[h]
 ·simp only[uT,PL]at ht hu;simp only[eF,o5]at h;subst ht hu h;rfl
 ·simp only[eF,o5]at h;rw[h]
def zn:∀{bB:List Sh} {ts us:ar},cT bB ts->cT bB us->mz ts us=true->ts=us
 |[],ts,us,h1,h2,_=>by simp only[cT]at h1 h2;rw[h1,h2]
 |s::ss,[],_,h,_,_=>by simp[cT]at h
 |s::ss,_::_,[],_,h,_=>by simp[cT]at h
 |s::ss,t::ts,u::us,h1,h2,h=>by
  simp only[cT]at h1 h2;simp only[mz,iS]at h;rw[OQ h1.1 h2.1 h.1,zn h1.2 h2.2 h.2]
def H9{t u:T}(h:cU bB agg t)(k:cU bB agg u)(e:eF t u=true):t=u:=by
 have h1:=iA h;have k1:=iA k;rw[xg h k]at e;have:=zn h1 k1 e;cases t with
 |agg as=>
  cases u with
  |agg bs=>simpa [oS]using this
  |_=>simp only[cU]at h k;rw[h.1]at k;exact yV k.1 (by simp)
 |_=>
  cases u with
  |agg bs=>simp only[cU]at h k;rw[k.1]at h;exact yV h.1 (by simp)
  |_=>exact(List.cons.inj this).1
def LG{k:TypeId}(hk:fb P k=some (bB,agg)){t u:T}{x y:Value}(ht:cU bB agg t)(hu:cU bB agg u)(hx:aO w W' t x)(hy:aO w W' u y):
  (Op.equal k x y).run P w=.ok (eF t u) w:=by
 unfold fb at hk;split at hk
 ·rename_i d s hd hs;simp only[bN,l7]at hk;obtain⟨rfl,rfl⟩:=hk;obtain⟨vs,rfl,h1⟩:=te ht hx;obtain⟨us,rfl,h2⟩:=te hu hy;rw[xg ht hu,sT (iA ht) (iA hu) h1 h2];exact m7 10000 k s d hs hd vs us w (fP (iA ht) h1) (fP (iA hu) h2)
 ·cases hk
def np{k:TypeId}(hk:fb P k=some (bB,agg)){t:T}{x:Value}(ht:cU bB agg t)(hx:aO w W' t x)(em:Bool):
  (Instr.checkKey em 10000 k x).run P w=.ok () w:=by
 unfold fb at hk;split at hk
 ·rename_i d s hd hs;simp only[bN,l7]at hk;obtain⟨rfl,rfl⟩:=hk;obtain⟨vs,rfl,h1⟩:=te ht hx;exact ta em 10000 k s d hs hd vs w (fP (iA ht) h1)
 ·cases hk
def Ia{t:T}{v:Value}(hk:cU bB agg t)(hr:aO w W' t v):
  (∀k a,v=.int k a->t=.int k a)/\(∀s,v=.string s->t=.str s)/\(∀b,v=.bool b->t=.bool b):=by
 have cb:∀{x:T},cT bB [x]->(∀s,uT s x=false)->False:=λh1 h2=>by
  obtain⟨s,_,hs⟩:=ed h1;rw[h2]at hs;cases hs
 cases t with
 |agg as=>simp only[aO]at hr;obtain⟨_,rfl,_⟩:=hr;exact⟨λ_ _ e=>(by cases e),λ_ e=>(by cases e),λ_ e=>(by cases e)⟩
 |int k a=>simp only[aO]at hr;subst hr;exact⟨λ_ _ e=>(by cases e;rfl),λ_ e=>(by cases e),λ_ e=>(by cases e)⟩
 |str a=>simp only[aO]at hr;subst hr;exact⟨λ_ _ e=>(by cases e),λ_ e=>(by cases e;rfl),λ_ e=>(by cases e)⟩
 |bool a=>simp only[aO]at hr;subst hr;exact⟨λ_ _ e=>(by cases e),λ_ e=>(by cases e),λ_ e=>(by cases e;rfl)⟩
 |_=>exact(cb hk.2 (λs=>by cases s<;>rfl)).elim
def iq(t:T)(es:List (Nat×T×DV))(xs:List MapEntry)(i:Nat):Option (Nat×Value):=
 match es.findIdx? λe=>eF t e.2.1 with
 |some j=>(xs[j]?).map λe=>(i+j,e.val)
 |none=>none
def r9(t:T)(e:Nat×T×DV)(es:List (Nat×T×DV))(x:MapEntry)(xs:List MapEntry)(i:Nat):iq t (e::es) (x::xs) i=if eF t e.2.1 then some (i,x.val)else iq t es xs (i+1):=by
 simp only[iq,YE];by_cases h:eF t e.2.1=true
 ·simp[h]
 ·simp only[h];cases List.findIdx? (λe=>eF t e.2.1) es with
  |none=>simp
  |some j=>simp[show i+1+j=i+(j+1)by omega]
def uE{k:TypeId}{bB:List Sh}{agg:Bool}(hk:fb P k=some (bB,agg)){t:T}{x:Value}(ht:cU bB agg t)(hx:aO w (WW W ab L) t x):∀(es:List (Nat×T×DV)) (xs:List MapEntry) (i:Nat),aY w W ab L es xs->(∀e∈es,cU bB agg e.2.1)->
  (Instr.findAsking k x xs i).run P w=.ok (iq t es xs i) w
 |[],xs,i,h,_=>by simp only[aY]at h;subst h;simp[Instr.findAsking,iq]
 |e::es,xs,i,h,cJ=>by
  simp only[aY]at h;obtain⟨y,ys,rfl,_,h2,_,h4⟩:=h;have:=LG hk ht (cJ e (by simp)) hx h2;rw[r9];simp only[Instr.findAsking,Sem.run_bind,this,Result.andThen_ok];cases eF t e.2.1
  ·simpa using uE hk ht hx es ys (i+1) h4 λe he=>cJ e (by simp[he])
  ·simp
def uF{k:TypeId}{bB:List Sh}{d:TypeDesc}(hd:P.underlying k=some d)(hs:iX P 10000 k=some bB){t:T}{x:Value}(ht:cU bB (bu d) t)(hx:aO w (WW W ab L) t x):∀(es:List (Nat×T×DV)) (xs:List MapEntry) (i:Nat),aY w W ab L es xs->(∀e∈es,cU bB (bu d) e.2.1)->
  Instr.findNow d x xs i=some (iq t es xs i)\/Instr.findNow d x xs i=none
 |[],xs,i,h,_=>by simp only[aY]at h;subst h;simp[Instr.findNow,iq]
 |e::es,xs,i,h,cJ=>by
  simp only[aY]at h;obtain⟨y,ys,rfl,_,h2,_,h4⟩:=h;rw[r9];simp only[Instr.findNow];cases OR:Instr.sameNow d x y.key with
  |none=>right;rfl
  |some r=>
   have hr:r=eF t e.2.1:=by
    have lx:=Ia ht hx;have ly:=Ia (cJ e (by simp)) h2;unfold Instr.sameNow at OR;split at OR
    ·rename_i k1 a1 k2 a2 e2;split at OR
     ·rename_i KT;subst KT;simp only[bN]at OR;rw[lx.1 _ _ rfl,ly.1 _ _ e2,<-OR];simp only[eF];by_cases h:a1=a2<;>simp[h]
     ·cases OR
    ·rename_i a1 a2 e2;simp only[bN]at OR;rw[lx.2.1 _ rfl,ly.2.1 _ e2,<-OR];simp only[eF];by_cases h:a1=a2
     ·subst h;obtain⟨x⟩:=a1;simp only[decide_true];exact(show(x==x)=true by simp)
     ·simp only[h,decide_false];cases hb:a1==a2 with
      |false=>rfl
      |true=>exact yV (by
        obtain⟨x⟩:=a1;obtain⟨y⟩:=a2;have e:x=y:=by simpa using(show(x==y)=true from hb)
        rw[e]) h
    ·rename_i a1 a2 e2;simp only[bN]at OR;rw[lx.2.2 _ rfl,ly.2.2 _ e2,<-OR];rfl
    ·cases OR
   subst hr;cases eF t e.2.1
   ·exact uF hd hs ht hx es ys (i+1) h4 λe he=>cJ e (by simp[he])
   ·simp
def pu{k:TypeId}(hk:fb P k=some (bB,agg)){t:T}{x:Value}(ht:cU bB agg t)(hx:aO w (WW W ab L) t x){xs:List MapEntry}(h:aY w W ab L es xs)(cJ:∀e∈es,cU bB agg e.2.1):
  (Instr.findKey k x xs).run P w=.ok (iq t es xs 0) w:=by
 have ha:=uE hk ht hx es xs 0 h cJ;unfold fb at hk;split at hk
 ·rename_i d s hd hs;simp only[bN,l7]at hk;obtain⟨rfl,rfl⟩:=hk;unfold Instr.findKey;simp only[Sem.run_bind,run_underlying hd,Result.andThen_ok];rcases uF hd hs ht hx es xs 0 h cJ with h1|h1
  ·rw[h1];simp
  ·rw[h1];exact ha
 ·cases hk
def aY.length:∀{es:List (Nat×T×DV)} {xs:List MapEntry},aY w W ab L es xs->xs.length=es.length
 |[],_,h=>by simp only[aY]at h;simp[h]
 |e::es,_,h=>by
  simp only[aY]at h;obtain⟨x,jU,rfl,_,_,_,h4⟩:=h;simp[aY.length h4]
def aY.get:∀{es:List (Nat×T×DV)} {xs:List MapEntry} {i:Nat} {e:Nat×T×DV},aY w W ab L es xs->es[i]? =some e->∃x,xs[i]? =some x/\x.born=e.1/\aO w (WW W ab L) e.2.1 x.key/\ap w W ab L e.2.2 x.val
 |[],_,_,_,_,h=>by simp at h
 |e::es,_,0,_,hr,h=>by
  simp only[aY]at hr;obtain⟨x,jU,rfl,h1,h2,h3,_⟩:=hr;simp only[pd,bN]at h;subst h;exact⟨x,rfl,h1,h2,h3⟩
 |e::es,_,i+1,_,hr,h=>by
  simp only[aY]at hr;obtain⟨x,jU,rfl,_,_,_,h4⟩:=hr;simpa using aY.get h4 (by simpa using h)
def aY.append:∀{es kg:List (Nat×T×DV)} {xs jU:List MapEntry},aY w W ab L es xs->aY w W ab L kg jU->aY w W ab L (es++kg) (xs++jU)
 |[],_,_,_,h,k=>by simp only[aY]at h;subst h;simpa using k
 |e::es,_,_,_,h,k=>by
  simp only[aY]at h;obtain⟨x,Tl,rfl,h1,h2,h3,h4⟩:=h;simp only[CE,aY];exact⟨x,_,rfl,h1,h2,h3,aY.append h4 k⟩
def aY.modify{y:DV}{v:Value}(hy:ap w W ab L y v):∀{es:List (Nat×T×DV)} {xs:List MapEntry} (i:Nat),aY w W ab L es xs->aY w W ab L (es.modify i λe=>(e.1,e.2.1,y)) (xs.modify i λe=>{e with val:=v})
 |[],_,i,h=>by simp only[aY]at h;subst h;simp[aY]
 |e::es,_,0,h=>by
  simp only[aY]at h;obtain⟨x,Tl,rfl,h1,h2,h3,h4⟩:=h;simp only[YI,aY];exact⟨_,_,rfl,h1,h2,hy,h4⟩
 |e::es,_,i+1,h=>by
  simp only[aY]at h;obtain⟨x,Tl,rfl,h1,h2,h3,h4⟩:=h;simp only[pC,aY];exact⟨_,_,rfl,h1,h2,h3,aY.modify hy i h4⟩
def aY.erase:∀{es:List (Nat×T×DV)} {xs:List MapEntry} (i:Nat),aY w W ab L es xs->aY w W ab L (es.eraseIdx i) (xs.eraseIdx i)
 |[],_,i,h=>by simp only[aY]at h;subst h;simp[aY]
 |e::es,_,0,h=>by
  simp only[aY]at h;obtain⟨x,Tl,rfl,h1,h2,h3,h4⟩:=h;simpa using h4
 |e::es,_,i+1,h=>by
  simp only[aY]at h;obtain⟨x,Tl,rfl,h1,h2,h3,h4⟩:=h;simp only[List.eraseIdx_cons_succ,aY];exact⟨_,_,rfl,h1,h2,h3,aY.erase i h4⟩
def sa{d:DV}{x:Value}{t:T}(h:ap w W ab L d x)(hk:pI d=some t):aO w (WW W ab L) t x:=by
 cases d with
 |v t'=>simp only[pI,bN]at hk;subst hk;simpa only[ap]using h
 |agg cs=>
  simp only[pI,fE]at hk;obtain⟨ts,uW,rfl⟩:=hk;simp only[ap]at h;obtain⟨vs,rfl,hr⟩:=h;simp only[aO];refine⟨vs,rfl, ?_⟩;have key:∀(cs:bD) (ts:ar) (vs:List Value),yw cs=some ts->aH w W ab L cs vs->aN w (WW W ab L) ts vs:=by
   intro cs;induction cs with
   |nil=>intro ts vs h1 h2;simp only[yw,bN]at h1;subst h1;simpa [aH,aN]using h2
   |cons c cs ih=>
    intro ts vs h1 h2;cases c with
    |v u=>
     simp only[yw,fE]at h1;obtain⟨us,hus,rfl⟩:=h1;simp only[aH]at h2;obtain⟨y,ys,rfl,k1,k2,k3⟩:=h2;simp only[aN];exact⟨y,ys,rfl,k1,by simpa only[ap]using k2,ih us ys hus k3⟩
    |_=>simp[yw]at h1
  exact key cs ts _ uW hr
 |_=>simp[pI]at hk
def Obj.WC:Obj->Prop
 |.cells _ _ _=>False
 |_=>True
def abM(s:ByteArray):(s==s)=true:=by
 obtain⟨x⟩:=s;exact(show(x==x)=true by simp)
def ep{b:Nat}{x:Obj}(h:w.heap[b]? =some x)(hx:Obj.WC x):(getObj b).run P w=.ok x w:=by
 cases x<;>first|exact hx.elim|simp[getObj,Sem.run,h]
def _root_.Go.World.eH(w:World)(b:Nat)(x:Obj):World:={w with heap:=w.heap.setIfInBounds b x}
def nC{b:Nat}{x y:Obj}(h:w.heap[b]? =some x)(hx:Obj.WC x):(setObj b y).run P w=.ok () (w.eH b y):=by
 cases x<;>first|exact hx.elim|simp[setObj,Sem.run,h,World.eH]
def uG{b:Nat}{x y:Obj}(h:w.heap[b]? =some x):(w.eH b y).heap[b]? =some y:=by
 have dR:b<w.heap.size:=(kf.1 h).1;simp[World.eH,dR]
def nq{b k:Nat}{y:Obj}(h:k≠b):(w.eH b y).heap[k]? =w.heap[k]? :=by simp[World.eH,Ne.symm h]
def oT{b:Nat}{y:Obj}:(w.eH b y).heap.size=w.heap.size:=by simp[World.eH]
def zo{g:Nat}(x:Obj)(h:Fr base M w0 w)(hg:base<=g\/M g):Fr base M w0 (w.eH g x):=
 ⟨h.os,h.tape,h.output,h.gz,by rw[oT];exact h.size,λk hk hm=>by
  rw[nq (by
    rintro rfl;rcases hg with h1|h1;·omega
    exact hm h1)]
  exact h.block k hk hm,h.drawn⟩
def sG(hO:bJ base W M w0 ab w L){r c c':Nat}{g7:List Sh}{lu:Bool}{kg:List (Nat×T×DV)}(hc:ab r=some (.map bB agg c es)){xi:Array MapEntry}
  (hr:aY w W ab L kg xi.toList) (h1:∀e∈kg,cU g7 lu e.2.1) (h2:∀e∈kg,e.1<c') (h3:(kg.map (·.1)).Nodup):
  bJ base W M w0 (bQ ab (some (r,.map g7 lu c' kg))) (w.eH (L.gp r) (.map xi c')) L/\fX W ab L w (bQ ab (some (r,.map g7 lu c' kg))) L (w.eH (L.gp r) (.map xi c')):=by
 obtain⟨aR,hh,_,_,_,_,hm⟩:=hO.ob r _ hc;refine bJ.put hO (zo _ hO.fr hm) (by rw[oT];exact iV _) (λ_ _=>⟨rfl,rfl⟩) rfl (λb _ hb=>nq (λx=>hb _ hc (by simp[Loc.own,x])))
  (λb hb=>.inl ⟨_,hc,hb⟩) (λo' jM _=>by rw[hc]at jM;cases jM;exact⟨rfl,rfl⟩) (λaX e sz an h=>by rw[hc]at h;cases h) (λer=>?_)
 exact⟨xi,uG hh,aY.er er _ _ hr,h1,h2,h3,hm⟩
def mm:∀{bB:List Sh} {ts:ar} {vs:List Value} {W':dJ} (n:Nat),cT bB ts->aN w W' ts vs->(vs.zip vs).all (λx=>Instr.sameBits n x.1 x.2)=true
 |[],ts,vs,W',n,h,hr=>by simp only[cT]at h;subst h;simp only[aN]at hr;subst hr;rfl
 |s::ss,[],_,_,_,h,_=>by simp[cT]at h
 |s::ss,t::ts,vs,W',n,h,hr=>by
  simp only[cT]at h;simp only[aN]at hr;obtain⟨v,fW,rfl,_,h1,h2⟩:=hr;simp only[List.zip_cons_cons,Yx,iS];refine⟨?_,mm n h.2 h2⟩;have hs:=h.1;cases s<;>cases t<;>first|exact yV hs E6|skip
  all_goals (simp only[aO]at h1;subst h1;cases n<;>simp[Instr.sameBits,abM])
def CW{t:T}{x:Value}(h:cU bB agg t)(hr:aO w W' t x):Instr.sameBits 10000 x x=true:=by
 cases t with
 |agg as=>
  simp only[cU]at h;simp only[aO]at hr;obtain⟨vs,rfl,hr⟩:=hr;simp only[Instr.sameBits,beq_self_eq_true,R8];exact mm 9999 h.2 hr
 |_=>
  simp only[cU]at h;obtain⟨s,rfl,hs⟩:=ed h.2;have h1:x.oneCell'=true:=by cases s<;>first|exact yV hs E6|(simp only[aO]at hr;subst hr;rfl)
  have:=mm (w:=w) (W':=W') 10000 h.2 (vs:=[x]) (by simp only[aN];exact⟨x,[],rfl,h1,hr,rfl⟩);simpa using this
def zp:∀{bB:List Sh} {ts:ar} {vs us:List Value} {W':dJ},cT bB ts->aN w W' ts vs->aN w W' ts us->vs=us
 |[],ts,vs,us,W',h,h1,h2=>by simp only[cT]at h;subst h;simp only[aN]at h1 h2;rw[h1,h2]
 |s::ss,[],_,_,_,h,_,_=>by simp[cT]at h
 |s::ss,t::ts,vs,us,W',h,h1,h2=>by
  simp only[cT]at h;simp only[aN]at h1 h2;obtain⟨v,fW,rfl,_,k1,k2⟩:=h1;obtain⟨u,us',rfl,_,l1,l2⟩:=h2;have hs:=h.1;rw[zp h.2 k2 l2]
  congr 1
  cases s<;>cases t<;>first|exact yV hs E6|skip
  all_goals (simp only[aO]at k1 l1;rw[k1,l1])
def Ib{t:T}{x y:Value}(h:cU bB agg t)(hx:aO w W' t x)(hy:aO w W' t y):x=y:=by
 cases t with
 |agg as=>
  simp only[cU]at h;simp only[aO]at hx hy;obtain⟨vs,rfl,hx⟩:=hx;obtain⟨us,rfl,hy⟩:=hy;have:=zp h.2 hx hy;rw[Array.toList_inj.1 this]
 |_=>
  simp only[cU]at h;obtain⟨s,rfl,hs⟩:=ed h.2;cases s<;>first|exact yV hs E6|(simp only[aO]at hx hy;rw[hx,hy])
end
end
section
variable{et kt yt:TypeId}{z d1 d2 d3 d:DV}{es:List (Nat×T×DV)}{bB:List Sh}{agg neg:Bool}{xs:List MapEntry}{name:Nat}{op:BinOp}{y':be}
variable [bh]
section
variable{P:Program}{base:Nat}{W M:dJ}{w0:World}{ab:bA}{L:Loc}{w:World}{a:Act}{o:Oper}
def zq(h:yY P et=some z):∃zv,(zeroValue et).run P w=.ok zv w/\ap w W ab L z zv:=by
 unfold yY at h;simp only[gV,fO]at h;obtain⟨i,hi,zv,hz,h⟩:=h;refine⟨zv,by simp[zeroValue,typeInfo,hi,hz], ?_⟩;split at h
 ·rename_i cs;simp only[fE]at h;obtain⟨ds,Er,rfl⟩:=h;simp only[ap];exact⟨cs,rfl,fH Er⟩
 ·exact(qk h).1
def sb(t:T)(es:List (Nat×T×DV)):sF t es=(es.findIdx? λe=>eF t e.2.1).bind (es[·]?):=by
 unfold sF;induction es with
 |nil=>rfl
 |cons e es ih=>
  simp only[E3,YE];by_cases h:eF t e.2.1=true
  ·simp[h]
  ·simp only[h,ih];cases List.findIdx? (λe=>eF t e.2.1) es<;>simp
def i5{t:T}{i:Nat}(h:(es.findIdx? λe=>eF t e.2.1)=some i):∃e,es[i]? =some e/\eF t e.2.1=true:=by
 induction es generalizing i with
 |nil=>simp at h
 |cons e es ih=>
  simp only[YE]at h;by_cases he:eF t e.2.1=true
  ·simp only[he,yh,bN]at h;subst h;exact⟨e,rfl,he⟩
  ·rw[mL he,fE]at h;obtain⟨j,hj,rfl⟩:=h;simpa using ih hj
def Ax(hO:bJ base W M w0 ab w L){t:TypeId}{x k:Operand}{ok:Bool}(ho:o.op=.lookup t x k ok)(ht:P.underlying t=some (.map kt et))(hk:fb P kt=some (bB,agg))(hz:yY P et=some z)
   (h1:ap w W ab L d1 (a.eval x)) (h2:ap w W ab L d2 (a.eval k)) (aB:(jB bB agg z ok ab d1 d2).ok):bL P base W M w0 ab L w a o (jB bB agg z ok ab d1 d2):=by
 unfold jB at aB⊢;split at aB
 ·rename_i r OS OT;cases hc:ab r with
  |none=>simp[hc,cb]at aB
  |some ob=>
   cases ob with
   |map g7 lu c es=>
    simp only[hc]at aB⊢;obtain⟨rfl,rfl,lr⟩:=aB;simp only[ap]at h1;obtain⟨_,hx⟩:=h1;have CX:=sa h2 OT;obtain⟨aR,hh,lc,cJ,_,_,_⟩:=hO.ob r _ hc;have zr:=λem=>np (P:=P) (w:=w) hk lr CX em;have hf:=pu (P:=P) hk lr CX lc cJ;have hg:=ep (P:=P) hh trivial;simp only[OT];rw[sb];unfold iq at hf;cases hi:es.findIdx? (λe=>eF OS e.2.1)with
    |none=>
     simp only[hi]at hf;obtain⟨zv,Ul,Q0⟩:=zq (P:=P) (w:=w) (W:=W) (ab:=ab) (L:=L) hz;simp only[Option.bind_none];have bq:(Instr.lookup t (.map (some (L.gp r))) (a.eval k) ok).run P w=.ok (if ok then .tuple #[zv,.bool false]else zv) w:=by
      simp[Instr.lookup,run_underlying ht,hg,zr,hf,Ul]
     refine bL.ji hO rfl (v:=if ok then .tuple #[zv,.bool false]else zv) (by simp[execOp,ho,hx,bq]) ?_;cases ok
     ·simpa using Q0
     ·simp only[yh,ap];exact⟨_,rfl,by simp only[db];exact⟨zv,_,rfl,Q0,.bool false,[],rfl,by simp[ap,aO],rfl⟩⟩
    |some i=>
     obtain⟨e,he,hq⟩:=i5 hi;obtain⟨xe,qY,_,_,hv⟩:=aY.get lc he;simp only[hi,qY,V1]at hf;simp only[Hc,he];have bq:(Instr.lookup t (.map (some (L.gp r))) (a.eval k) ok).run P w=.ok (if ok then .tuple #[xe.val,.bool true]else xe.val) w:=by
      simp[Instr.lookup,run_underlying ht,hg,zr,hf]
     refine bL.ji hO rfl (v:=if ok then .tuple #[xe.val,.bool true]else xe.val) (by simp[execOp,ho,hx,bq]) ?_;cases ok
     ·simpa using hv
     ·simp only[yh,ap];exact⟨_,rfl,by simp only[db];exact⟨xe.val,_,rfl,hv,.bool true,[],rfl,by simp[ap,aO],rfl⟩⟩
   |_=>simp[hc,cb]at aB
 ·exact aB.elim
def sc{y:DV}(i:Nat):(es.modify i λe=>(e.1,e.2.1,y)).map (·.1)=es.map (·.1):=by
 induction es generalizing i with
 |nil=>simp
 |cons e es ih=>cases i<;>simp[ih]
def lN{y:DV}(i:Nat){e:Nat×T×DV}(h:e∈es.modify i λe=>(e.1,e.2.1,y)):∃e'∈es,e.1=e'.1/\e.2.1=e'.2.1:=by
 induction es generalizing i with
 |nil=>simp at h
 |cons e0 es ih=>
  cases i with
  |zero=>
   simp only[YI,pH]at h;rcases h with rfl|h
   ·exact⟨e0,by simp,rfl,rfl⟩
   ·exact⟨e,by simp[h],rfl,rfl⟩
  |succ i=>
   simp only[pC,pH]at h;rcases h with rfl|h
   ·exact⟨e,by simp,rfl,rfl⟩
   ·obtain⟨e',h1,h2⟩:=ih i h;exact⟨e',by simp[h1],h2⟩
def Gj{es:List (Nat×T×DV)}{i:Nat}{v key:Value}{x:MapEntry}(hx:xs[i]? =some x)(hk:x.key=key):(xs.modify i λe=>{e with key:=key,val:=v})=xs.modify i λe=>{e with val:=v}:=by
 induction xs generalizing i with
 |nil=>simp
 |cons y ys ih=>
  cases i with
  |zero=>
   simp only[pd,bN]at hx;subst hx hk;simp
  |succ i=>
   simp only[pC,BE,E4];exact ih (by simpa using hx)
def Ay(hO:bJ base W M w0 ab w L){t:TypeId}{x k y:Operand}(ho:o.op=.mapUpdate t x k y)(ht:P.underlying t=some (.map kt et))(hk:fb P kt=some (bB,agg))
   (h1:ap w W ab L d1 (a.eval x)) (h2:ap w W ab L d2 (a.eval k)) (h3:ap w W ab L d3 (a.eval y)) (aB:(fL bB agg ab d1 d2 d3).ok):bL P base W M w0 ab L w a o (fL bB agg ab d1 d2 d3):=by
 unfold fL at aB⊢;split at aB
 ·rename_i r OS OT;cases hc:ab r with
  |none=>simp[hc,cb]at aB
  |some ob=>
   cases ob with
   |map g7 lu c es=>
    simp only[hc]at aB⊢;obtain⟨rfl,rfl,lr,hb⟩:=aB;simp only[ap]at h1;obtain⟨_,hx⟩:=h1;have CX:=sa h2 OT;obtain⟨aR,hh,lc,cJ,dR,wu,hm⟩:=hO.ob r _ hc;have zr:=λem=>np (P:=P) (w:=w) hk lr CX em;have hf:=pu (P:=P) hk lr CX lc cJ;have hg:=ep (P:=P) hh trivial;have hs:=λy=>nC (P:=P) (y:=y) hh trivial;simp only[OT];unfold iq at hf;unfold Am mZ;cases hi:es.findIdx? (λe=>eF OS e.2.1)with
    |none=>
     simp only[hi]at hf;simp only;have bq:(Instr.mapUpdate t (.map (some (L.gp r))) (a.eval k) (a.eval y)).run P w=.ok () (w.eH (L.gp r) (.map (aR.push {key:=a.eval k,val:=a.eval y,born:=c}) (c+1))):=by
      simp[Instr.mapUpdate,run_underlying ht,hg,zr,hf,hs]
     have:=sG hO hc (g7:=g7) (lu:=lu) (c':=c+1) (kg:=es++[(c,OS,d3)]) (xi:=aR.push {key:=a.eval k,val:=a.eval y,born:=c})
      (by rw[Array.toList_push];exact aY.append lc (by simp only[aY];exact⟨_,_,rfl,rfl,CX,h3,rfl⟩))
      (λe he=>by
        rcases dP.1 he with he|he;·exact cJ e he
        ·simp only[ic]at he;subst he;exact lr)
      (λe he=>by
        rcases dP.1 he with he|he;·have:=dR e he;omega
        ·simp only[ic]at he;subst he;simp)
      (by rw[qQ,Rc];exact⟨wu,by simp,λb hb b2 i7=>by
         simp only[l8,Ui,ic]at i7;obtain⟨e,he,rfl⟩:=kL.1 hb;have:=dR e he;omega⟩)
     exact⟨.skip,Go.undef,_,L,by simp[execOp,ho,hx,bq],.inr ⟨rfl,rfl⟩,this.1,this.2,by simp[ap]⟩
    |some i=>
     obtain⟨e,he,hq⟩:=i5 hi;obtain⟨xe,qY,_,U9,hv⟩:=aY.get lc he;simp only[hi,qY,V1]at hf;have QP:OS=e.2.1:=H9 lr (cJ e (zM he)) hq;have Gk:xe.key=a.eval k:=Ib lr (by rw[QP];exact U9) CX;have abN:(Instr.keyThatStays xe.key (a.eval k)).run P w=.ok (a.eval k) w:=by
      rw[Gk];simp[Instr.keyThatStays,CW lr CX]
     have Va:aR[i]? =some xe:=by simpa using qY
     have bq:(Instr.mapUpdate t (.map (some (L.gp r))) (a.eval k) (a.eval y)).run P w=.ok () (w.eH (L.gp r) (.map (aR.modify i λe=>{e with key:=a.eval k,val:=a.eval y}) c)):=by
      simp[Instr.mapUpdate,run_underlying ht,hg,zr,hf,hs,Va,abN]
     have Fy:(aR.modify i λe=>{e with key:=a.eval k,val:=a.eval y}).toList=aR.toList.modify i λe=>{e with val:=a.eval y}:=by
      rw[S3];exact Gj (es:=es) (by simpa using Va) Gk
     simp only;have:=sG hO hc (g7:=g7) (lu:=lu) (c':=c) (kg:=es.modify i λe=>(e.1,e.2.1,d3)) (xi:=aR.modify i λe=>{e with key:=a.eval k,val:=a.eval y})
      (by rw[Fy];exact aY.modify h3 i lc)
      (λe he=>by obtain⟨e',h1,_,h2⟩:=lN i he;rw[h2];exact cJ e' h1)
      (λe he=>by obtain⟨e',h1,h2,_⟩:=lN i he;rw[h2];exact dR e' h1)
      (by rw[sc];exact wu)
     exact⟨.skip,Go.undef,_,L,by simp[execOp,ho,hx,bq],.inr ⟨rfl,rfl⟩,this.1,this.2,by simp[ap]⟩
   |_=>simp[hc,cb]at aB
 ·exact aB.elim
def Az(hO:bJ base W M w0 ab w L){t:TypeId}{x k:Operand}(ho:o.op=.mapEntry t x k)(ht:P.underlying t=some (.map kt et))(hk:fb P kt=some (bB,agg))(hz:yY P et=some z)
   (h1:ap w W ab L d1 (a.eval x)) (h2:ap w W ab L d2 (a.eval k)) (aB:(fM bB agg z ab d1 d2).ok):bL P base W M w0 ab L w a o (fM bB agg z ab d1 d2):=by
 unfold fM at aB⊢;split at aB
 ·rename_i r OS OT;cases hc:ab r with
  |none=>simp[hc,cb]at aB
  |some ob=>
   cases ob with
   |map g7 lu c es=>
    simp only[hc]at aB⊢;obtain⟨rfl,rfl,lr⟩:=aB;simp only[ap]at h1;obtain⟨_,hx⟩:=h1;have CX:=sa h2 OT;obtain⟨aR,hh,lc,cJ,dR,wu,hm⟩:=hO.ob r _ hc;have zr:=λem=>np (P:=P) (w:=w) hk lr CX em;have hf:=pu (P:=P) hk lr CX lc cJ;have hg:=ep (P:=P) hh trivial;have hs:=λy=>nC (P:=P) (y:=y) hh trivial;simp only[OT];unfold ad7;rw[sb];unfold iq at hf;unfold ad6 mZ;cases hi:es.findIdx? (λe=>eF OS e.2.1)with
    |none=>
     simp only[hi]at hf;obtain⟨zv,Ul,Q0⟩:=zq (P:=P) (w:=w) (W:=W) (ab:=ab) (L:=L) hz;simp only[Option.bind_none];have bq:(Instr.mapEntry t (.map (some (L.gp r))) (a.eval k)).run P w=.ok (.tuple #[zv,goInt c]) (w.eH (L.gp r) (.map (aR.push {key:=a.eval k,val:=zv,born:=c}) (c+1))):=by
      simp[Instr.mapEntry,run_underlying ht,hg,zr,hf,hs,Ul]
     have:=sG hO hc (g7:=g7) (lu:=lu) (c':=c+1) (kg:=es++[(c,OS,z)]) (xi:=aR.push {key:=a.eval k,val:=zv,born:=c})
      (by rw[Array.toList_push];exact aY.append lc (by simp only[aY];exact⟨_,_,rfl,rfl,CX,Q0,rfl⟩))
      (λe he=>by
        rcases dP.1 he with he|he;·exact cJ e he
        ·simp only[ic]at he;subst he;exact lr)
      (λe he=>by
        rcases dP.1 he with he|he;·have:=dR e he;omega
        ·simp only[ic]at he;subst he;simp)
      (by rw[qQ,Rc];exact⟨wu,by simp,λb hb b2 i7=>by
         simp only[l8,Ui,ic]at i7;obtain⟨e,he,rfl⟩:=kL.1 hb;have:=dR e he;omega⟩)
     refine⟨.value (.tuple #[zv,goInt c]),.tuple #[zv,goInt c],_,L,by simp[execOp,ho,hx,bq],.inl rfl,this.1,this.2, ?_⟩;have Gl:=ap.er this.2 _ _ Q0;simp only[ap];exact⟨_,rfl,by simp only[db];exact⟨zv,_,rfl,Gl,goInt c,[],rfl,by simp[ap,aO,goInt],rfl⟩⟩
    |some i=>
     obtain⟨e,he,hq⟩:=i5 hi;obtain⟨xe,qY,hxb,U9,hv⟩:=aY.get lc he;simp only[hi,qY,V1]at hf;have QP:OS=e.2.1:=H9 lr (cJ e (zM he)) hq;have Gk:xe.key=a.eval k:=Ib lr (by rw[QP];exact U9) CX;have abN:(Instr.keyThatStays xe.key (a.eval k)).run P w=.ok (a.eval k) w:=by
      rw[Gk];simp[Instr.keyThatStays,CW lr CX]
     have Va:aR[i]? =some xe:=by simpa using qY
     have Fy:(aR.modify i λe=>{e with key:=a.eval k}).toList=aR.toList:=by
      rw[S3];apply xX;intro j;rw[List.getElem?_modify];split
      ·rename_i hj;subst hj;rw[qY];simp[<-Gk]
      ·simp
     have bq:(Instr.mapEntry t (.map (some (L.gp r))) (a.eval k)).run P w=.ok (.tuple #[xe.val,goInt xe.born]) (w.eH (L.gp r) (.map (aR.modify i λe=>{e with key:=a.eval k}) c)):=by
      simp[Instr.mapEntry,run_underlying ht,hg,zr,hf,hs,Va,abN]
     have:=sG hO hc (g7:=g7) (lu:=lu) (c':=c) (kg:=es) (xi:=aR.modify i λe=>{e with key:=a.eval k})
      (by rw[Fy];exact lc) cJ dR wu
     simp only[Hc,he];refine⟨.value (.tuple #[xe.val,goInt xe.born]),.tuple #[xe.val,goInt xe.born],_,L,by simp[execOp,ho,hx,bq],.inl rfl,this.1,this.2, ?_⟩;have Gl:=ap.er this.2 _ _ hv;simp only[ap];exact⟨_,rfl,by simp only[db];exact⟨xe.val,_,rfl,Gl,goInt xe.born,[],rfl,by simp[ap,aO,goInt,hxb],rfl⟩⟩
   |_=>simp[hc,cb]at aB
 ·exact aB.elim
def OU{b:Int}(h:aY w W ab L es xs):xs.findIdx? (λe=>(e.born:Int)==b)=es.findIdx? (λe=>(e.1:Int)==b):=by
 induction es generalizing xs with
 |nil=>simp only[aY]at h;subst h;rfl
 |cons e es ih=>
  simp only[aY]at h;obtain⟨x,jU,rfl,hb,_,_,hr⟩:=h;simp only[YE,ih hr,hb]
def Cx(hO:bJ base W M w0 ab w L){t:TypeId}{x s y:Operand}(ho:o.op=.entryStore t x s y)
   (h1:ap w W ab L d1 (a.eval x)) (h2:ap w W ab L d2 (a.eval s)) (h3:ap w W ab L d3 (a.eval y)) (aB:(b0 ab d1 d2 d3).ok):bL P base W M w0 ab L w a o (b0 ab d1 d2 d3):=by
 unfold b0 at aB⊢;split at aB
 ·rename_i r kk b;cases hc:ab r with
  |none=>simp[hc,cb]at aB
  |some ob=>
   cases ob with
   |map bB agg c es=>
    simp only[hc]at aB⊢;simp only[ap,aO]at h1 h2;obtain⟨_,hx⟩:=h1;obtain⟨aR,hh,lc,cJ,dR,wu,hm⟩:=hO.ob r _ hc;have hg:=ep (P:=P) hh trivial;have hs:=λy=>nC (P:=P) (y:=y) hh trivial;unfold ad8 at aB⊢;cases hi:es.findIdx? (λe=>(e.1:Int)==b)with
    |none=>simp[hi,cb]at aB
    |some i=>
     simp only[V1];have Mv:=(OU (b:=b) lc).trans hi;have ah2:aR.findIdx? (λe=>(e.born:Int)==b)=some i:=by rw[<-Mv];cases aR;simp
     have bq:(Instr.entryStore t (.map (some (L.gp r))) (.int kk b) (a.eval y)).run P w=.ok () (w.eH (L.gp r) (.map (aR.modify i λe=>{e with val:=a.eval y}) c)):=by
      simp[Instr.entryStore,hg,hs,asInt,asIntOf,ah2]
     have:=sG hO hc (g7:=bB) (lu:=agg) (c':=c) (kg:=es.modify i λe=>(e.1,e.2.1,d3)) (xi:=aR.modify i λe=>{e with val:=a.eval y})
      (by rw[S3];exact aY.modify h3 i lc)
      (λe he=>by obtain⟨e',h1,_,h2⟩:=lN i he;rw[h2];exact cJ e' h1)
      (λe he=>by obtain⟨e',h1,h2,_⟩:=lN i he;rw[h2];exact dR e' h1)
      (by rw[sc];exact wu)
     exact⟨.skip,Go.undef,_,L,by simp[execOp,ho,hx,h2,bq],.inr ⟨rfl,rfl⟩,this.1,this.2,by simp[ap]⟩
   |_=>simp[hc,cb]at aB
 ·exact aB.elim
def AC(hO:bJ base W M w0 ab w L){t:TypeId}{x k:Operand}{ts:Array TypeId}(uW:ts[0]? =some t)(ho:o.op=.call {callee:=.builtin .delete,args:= #[x,k],argTypes:=ts})(ht:P.underlying t=some (.map kt et))(hk:fb P kt=some (bB,agg))
   (h1:ap w W ab L d1 (a.eval x)) (h2:ap w W ab L d2 (a.eval k)) (aB:(fN bB agg ab d1 d2).ok):bL P base W M w0 ab L w a o (fN bB agg ab d1 d2):=by
 unfold fN at aB⊢;split at aB
 ·rename_i r OS OT;cases hc:ab r with
  |none=>simp[hc,cb]at aB
  |some ob=>
   cases ob with
   |map g7 lu c es=>
    simp only[hc]at aB⊢;obtain⟨rfl,rfl,lr⟩:=aB;simp only[ap]at h1;obtain⟨_,hx⟩:=h1;have CX:=sa h2 OT;obtain⟨aR,hh,lc,cJ,dR,wu,hm⟩:=hO.ob r _ hc;have zr:=λem=>np (P:=P) (w:=w) hk lr CX em;have hf:=pu (P:=P) hk lr CX lc cJ;have hg:=ep (P:=P) hh trivial;have hs:=λy=>nC (P:=P) (y:=y) hh trivial;simp only[OT];unfold iq at hf;unfold ad5;cases hi:es.findIdx? (λe=>eF OS e.2.1)with
    |none=>
     simp only[hi]at hf;simp only;have:=sG hO hc (g7:=g7) (lu:=lu) (c':=c) (kg:=es) (xi:=aR) lc cJ dR wu;refine⟨.value (.tuple #[]),.tuple #[],_,L, ?_,.inl rfl,this.1,this.2,by simp only[ap,aO,dq];exact⟨_,rfl,rfl⟩⟩;simp[execOp,ho,resolve,invoke,builtin,Builtin.delete_,uW,hx,run_underlying ht,hg,zr,hf,hs]
    |some i=>
     obtain⟨e,he,hq⟩:=i5 hi;obtain⟨xe,qY,_,U9,hv⟩:=aY.get lc he;simp only[hi,qY,V1]at hf;have Fy:(aR.eraseIdxIfInBounds i).toList=aR.toList.eraseIdx i:=by
      have:i<aR.size:=by have:=(E9.1 qY).1;simpa using this
      unfold Array.eraseIdxIfInBounds;simp[this]
     simp only;have:=sG hO hc (g7:=g7) (lu:=lu) (c':=c) (kg:=es.eraseIdx i) (xi:=aR.eraseIdxIfInBounds i)
      (by rw[Fy];exact aY.erase i lc)
      (λe he=>cJ e (Zc7 he))
      (λe he=>dR e (Zc7 he))
      (List.Sublist.nodup ((List.eraseIdx_sublist _ _).map _) wu)
     refine⟨.value (.tuple #[]),.tuple #[],_,L, ?_,.inl rfl,this.1,this.2,by simp only[ap,aO,dq];exact⟨_,rfl,rfl⟩⟩;simp[execOp,ho,resolve,invoke,builtin,Builtin.delete_,uW,hx,run_underlying ht,hg,zr,hf,hs]
   |_=>simp[hc,cb]at aB
 ·exact aB.elim
def FK(hO:bJ base W M w0 ab w L){x:Operand}{t:TypeId}(ho:o.op=.call {callee:=.builtin .len,args:= #[x],argTypes:= #[t]})(ht:P.underlying t=some (.map kt et))(h:ap w W ab L d (a.eval x))(aB:(m0 ab d).ok):
  bL P base W M w0 ab L w a o (m0 ab d):=by
 unfold m0 at aB⊢;split at aB
 ·rename_i r;cases hc:ab r with
  |none=>simp[hc,cb]at aB
  |some ob=>
   cases ob with
   |map bB agg c es=>
    simp only[ap]at h;obtain⟨_,hx⟩:=h;obtain⟨aR,hh,lc,_⟩:=hO.ob r _ hc;have hg:=ep (P:=P) hh trivial;have hl:=aY.length lc;simp only[HM]at hl;refine bL.int hO rfl rfl ?_;simp[execOp,ho,resolve,invoke,builtin,hx,Builtin.len_,run_underlying ht,goInt,hg,hl]
   |_=>simp[hc,cb]at aB
 ·exact aB.elim
def Cw(hO:bJ base W M w0 ab w L)(dj:ab name=none){t:TypeId}(ho:o.op=.makeMap t none)(bB:List Sh)(agg:Bool):
  bL P base W M w0 ab L w a o ⟨True,.dQ name,some (name,.map bB agg 0 [])⟩:=by
 have hb:=iJ (w:=w) (.map #[] 0);have h:=bJ.put hO (r:=name) (L':=L.eQ name w.heap.size) (o':=.map bB agg 0 []) (rl hO.fr hb) hb.size (λx hx=>⟨by simp[Loc.eQ,hx],rfl⟩) rfl (λb dR _=>hb.block b dR) (λb h=>.inr (by
   simp only[Loc.own,Loc.eQ,yh,bN]at h;omega))
  (λo' h _=>by rw[dj]at h;cases h) (λ_ _ _ _ h=>by rw[dj]at h;cases h) (λer=>by
   refine⟨#[], ?_,by simp[aY],by simp,by simp,by simp,.inl ?_⟩
   ·simp only[Loc.eQ,yh];exact heap_alloc_new w _
   ·simp only[Loc.eQ,yh];exact wB hO.fr.gz hO.fr.size)
 refine⟨_,.map (some w.heap.size),_,_, ?_,.inl rfl,h.1,h.2, ?_⟩
 ·simp[execOp,ho,Instr.makeMap]
 ·simp only[ap];exact⟨⟨bB,agg,0,[],by simp[bQ]⟩,by simp[Loc.eQ]⟩
def AA(hO:bJ base W M w0 ab w L)(dj:ab name=none){x:Operand}{t:TypeId}(ho:o.op=.range t x)(ht:P.underlying t=some (.map kt et))(h:ap w W ab L d (a.eval x))(aB:(iG name ab d).ok):
  bL P base W M w0 ab L w a o (iG name ab d):=by
 unfold iG at aB⊢;split at aB
 ·rename_i r;cases hc:ab r with
  |none=>simp[hc,cb]at aB
  |some ob=>
   cases ob with
   |map bB agg c es=>
    simp only[ap]at h;obtain⟨HK,hx⟩:=h;obtain⟨aR,hh,lc,_⟩:=hO.ob r _ hc;have hg:=ep (P:=P) hh trivial;have cZ:r≠name:=λe=>by rw[e,dj]at hc;cases hc
    have hb:=iJ (w:=w) (.mapIter (some (L.gp r)) c #[] c);have h:=bJ.put hO (r:=name) (L':=L.eQ name w.heap.size) (o':=.c8 r c [] c) (rl hO.fr hb) hb.size (λx hx=>⟨by simp[Loc.eQ,hx],rfl⟩) rfl (λb dR _=>hb.block b dR) (λb h=>.inr (by
      simp only[Loc.own,Loc.eQ,yh,bN]at h;omega))
     (λo' h _=>by rw[dj]at h;cases h) (λ_ _ _ _ h=>by rw[dj]at h;cases h) (λer=>by
      refine⟨?_,⟨bB,agg,c,es,by simp[bQ,cZ,hc]⟩,.inl ?_⟩
      ·simp only[Loc.eQ,yh,cZ,Lg];exact heap_alloc_new w _
      ·simp only[Loc.eQ,yh];exact wB hO.fr.gz hO.fr.size)
    simp only[];refine⟨_,.pointer (some ⟨w.heap.size,0,none⟩),_,_, ?_,.inl rfl,h.1,h.2, ?_⟩
    ·simp[execOp,ho,Instr.range,hx,run_underlying ht,hg]
    ·simp only[ap];exact⟨⟨r,c,[],c,by simp[bQ]⟩,by simp[Loc.eQ]⟩
   |_=>simp[hc,cb]at aB
 ·exact aB.elim
def xj{b:Nat}:∀{es:List (Nat×T×DV)} {xs:List MapEntry},aY w W ab L es xs->∀{e:Nat×T×DV},(es.find? λe=>e.1==b)=some e->∃x,(xs.find? λx=>x.born==b)=some x/\aO w (WW W ab L) e.2.1 x.key/\ap w W ab L e.2.2 x.val
 |[],_,_,e,h=>by simp at h
 |e0::es,xs,hr,e,h=>by
  simp only[aY]at hr;obtain⟨x,jU,rfl,h1,h2,h3,h4⟩:=hr;simp only[E3,h1]at h⊢;by_cases hb:(e0.1==b)=true
  ·simp only[hb]at h⊢;cases h;exact⟨x,rfl,h2,h3⟩
  ·simp only[hb]at h⊢;exact xj h4 h
def AG(hO:bJ base W M w0 ab w L){x:Operand}(ho:o.op=.entry x)(h:ap w W ab L d (a.eval x))(aB:(iH ab d).ok):
  bL P base W M w0 ab L w a o (iH ab d):=by
 unfold iH at aB⊢;split at aB
 ·rename_i r;cases hc:ab r with
  |none=>simp[hc,cb]at aB
  |some ob=>
   cases ob with
   |c8 m s sn l=>
    simp only[hc]at aB⊢;cases hm:ab m with
    |none=>simp[hm,cb]at aB
    |some om=>
     cases om with
     |map bB agg c es=>
      simp only[hm]at aB⊢;cases hl:sn.getLast? with
      |none=>simp[hl,cb]at aB
      |some b=>
       simp only[hl]at aB⊢;cases hf:es.find? (λe=>e.1==b)with
       |none=>simp[hf,cb]at aB
       |some e=>
        simp only[hf]at aB⊢;subst aB;simp only[ap]at h;obtain⟨_,hx⟩:=h;obtain⟨hh,_,_⟩:=hO.ob r _ hc;obtain⟨aR,hh2,lc,_⟩:=hO.ob m _ hm;have hg:=ep (P:=P) hh trivial;have Mz:=ep (P:=P) hh2 trivial;obtain⟨xe,qY,k1,k2⟩:=xj lc hf;have aeY:sn.toArray.back? =some b:=by rw[List.back?_toArray];exact hl
        have K7:aR.find? (λx=>x.born==b)=some xe:=by rw[<-Array.find?_toList];exact qY
        refine bL.ji hO rfl (v:=.tuple #[xe.key,xe.val]) ?_ ?_
        ·simp[execOp,ho,Instr.entry,hx,hg,aeY,Mz,K7]
        ·simp only[ap];exact⟨_,rfl,by simp only[db];exact⟨_,_,rfl,by simpa [ap]using k1,_,_,rfl,k2,rfl⟩⟩
     |_=>simp[hm,cb]at aB
   |_=>simp[hc,cb]at aB
 ·exact aB.elim
def AB(hO:bJ base W M w0 ab w L){t:TypeId}{x i:Operand}(ho:o.op=.index t x i)(ht:P.underlying t=some .string)(h1:ap w W ab L d1 (a.eval x))(h2:ap w W ab L d2 (a.eval i))(aB:(kF d1 d2).ok):
  bL P base W M w0 ab L w a o (kF d1 d2):=by
 unfold kF at aB⊢;split at aB
 ·rename_i s k j;simp only[ap,aO]at h1 h2;obtain⟨h0,dR⟩:=aB;have hj:j.toNat<s.size:=by omega
  have MA:j.toNat<s.data.size:=hj;have Oi:s[j.toNat]? =some (s.data.getD j.toNat 0):=by
   rw[getElem?_pos s j.toNat hj];simp[Array.getD,ByteArray.getElem_eq_getElem_data];intro h;omega
  refine bL.int hO rfl rfl ?_;simp[execOp,ho,Instr.index,h1,h2,asIntOf,run_underlying ht,h0,Oi]
 ·exact aB.elim
def A0(NT:op=if neg then .neq else .eql){t:TypeId}{x y:Operand}(ho:o.op=.binOp op t x y yt){r:Bool}(cZ:∀k n,a.eval x≠ .int k n)(hni:a.eval x≠ .nilIface)(hna:∀cs,a.eval x≠ .agg cs)(hnf:∀k b,a.eval x≠ .float k b)(V7:∀k b c,a.eval x≠ .complex k b c)(hns:∀s,a.eval x≠ .string s)
  (he:(Op.equal t (a.eval x) (a.eval y)).run P w=.ok r w) (hg:(eqGuard op t x y (a.eval x) (a.eval y)).run P w=.ok () w):(execOp a.eval o).run P w=.ok (.value (.bool (neg^^r))) w:=by
 have hb:(binOp op t (a.eval x) (a.eval y)).run P w=.ok (.bool (neg^^r)) w:=by
  generalize a.eval x=xv at*
  subst NT;cases neg<;>cases xv<;>first|exact yV rfl (cZ _ _)|exact yV rfl hni|exact yV rfl (hna _)|exact yV rfl (hnf _ _)|exact yV rfl (V7 _ _ _)|exact yV rfl (hns _)|simp[binOp,he]
 simp[execOp,ho,hg,hb]
def CY{d:TypeDesc}{y:Operand}{k:Nat}(hy:be.of y=some y')(h:rq d y'=some k):
  (k=0/\(∃e,d=.slice e)/\a.eval y=.slice none 0 0)\/(k=1/\(∃e,d=.pointer e)/\a.eval y=.pointer none)\/(k=2/\(∃p r v,d=.func p r v)/\a.eval y=.nilFunc):=by
 unfold rq at h;have key:∀{z:DV},be.of y=some (.eD z)->∃v,a.eval y=v/\(jC v=some z\/(∃f,z=.v (.fn f []))\/∃c,z=.gq c 0):=by
  intro z hz;cases y with
  |tmp t=>simp[be.of]at hz
  |const v=>simp only[be.of,fE,be.eD.injEq]at hz;obtain⟨d,hd,rfl⟩:=hz;exact⟨v,rfl,.inl hd⟩
  |func f=>simp only[be.of,bN,be.eD.injEq]at hz;subst hz;exact⟨_,rfl,.inr (.inl ⟨_,rfl⟩)⟩
  |global g=>
   simp only[be.of,fE,be.eD.injEq]at hz;obtain⟨p,_,rfl⟩:=hz;exact⟨_,rfl,.inr (.inr ⟨_,rfl⟩)⟩
 split at h
 ·obtain⟨v,hv,hc|⟨f,hf⟩|⟨f,hf⟩⟩:=key hy
  ·unfold jC at hc;split at hc<;>simp at hc
   exact .inl ⟨by simpa using h.symm,⟨_,rfl⟩,hv⟩
  ·cases hf
  ·cases hf
 ·obtain⟨v,hv,hc|⟨f,hf⟩|⟨f,hf⟩⟩:=key hy
  ·unfold jC at hc;split at hc<;>simp at hc
   exact .inr (.inl ⟨by simpa using h.symm,⟨_,rfl⟩,hv⟩)
  ·cases hf
  ·cases hf
 ·obtain⟨v,hv,hc|⟨f,hf⟩|⟨f,hf⟩⟩:=key hy
  ·unfold jC at hc;split at hc<;>simp at hc
   exact .inr (.inr ⟨by simpa using h.symm,⟨_,_,_,rfl⟩,hv⟩)
  ·cases hf
  ·cases hf
 ·cases h
def qz(d:Nat)(hd:d=9999)(t:TypeId)(x y:Value):(Op.equal t x y)=Op.equalIn (d+1) t x y:=by subst hd;rfl
def tf(t e:TypeId)(p:Option Addr)(n c:Nat)(h:P.underlying t=some (.slice e)):(Op.equal t (.slice p n c) (.slice none 0 0)).run P w=.ok p.isNone w:=by
 obtain⟨d,hd⟩:∃d,d=9999:=⟨_,rfl⟩;rw[qz d hd,Op.equalIn];cases p<;>simp[run_underlying h]
def xk(t e:TypeId)(p:Option Addr)(h:P.underlying t=some (.pointer e)):(Op.equal t (.pointer p) (.pointer none)).run P w=.ok p.isNone w:=by
 obtain⟨d,hd⟩:∃d,d=9999:=⟨_,rfl⟩;rw[qz d hd,Op.equalIn];cases p<;>simp[run_underlying h]
def yD(t:TypeId){q1 q2 q3}(v:Value)(r:Bool)(h:P.underlying t=some (.func q1 q2 q3))(hv:(v=.nilFunc/\r=true)\/(∃f b c,v=.func f b c)/\r=false):(Op.equal t v .nilFunc).run P w=.ok r w:=by
 obtain⟨d,hd⟩:∃d,d=9999:=⟨_,rfl⟩;rw[qz d hd,Op.equalIn];rcases hv with⟨rfl,rfl⟩|⟨⟨f,b,c,rfl⟩,rfl⟩<;>simp[run_underlying h]
def ul(hO:bJ base W M w0 ab w L)(NT:op=if neg then .neq else .eql){t:TypeId}{x y:Operand}(ho:o.op=.binOp op t x y yt){d:TypeDesc}(hd:P.underlying t=some d)(hy:be.of y=some y'){k:Nat}(hk:rq d y'=some k)
   (h1:ap w W ab L d1 (a.eval x)) (aB:(ej k neg ab d1).ok):bL P base W M w0 ab L w a o (ej k neg ab d1):=by
 have hv:=CY (a:=a) hy hk;have je:∀{r:Bool},ej k neg ab d1=⟨(ej k neg ab d1).ok,.v (.bool (neg^^r)),none⟩->(execOp a.eval o).run P w=.ok (.value (.bool (neg^^r))) w->bL P base W M w0 ab L w a o (ej k neg ab d1):=by
  intro r e h;rw[e];exact bL.bool hO rfl rfl h
 have sl:∀{p:Option Addr} {n c:Nat},k=0->a.eval x=.slice p n c->(execOp a.eval o).run P w=.ok (.value (.bool (neg^^p.isNone))) w:=by
  intro p n c h0 hx;rcases hv with⟨_,⟨e,rfl⟩,Fc⟩|⟨h,_⟩|⟨h,_⟩
  ·refine A0 NT ho (by simp[hx]) (by simp[hx]) (by simp[hx]) (by simp[hx]) (by simp[hx]) (by simp[hx]) (by rw[hx,Fc];exact tf t e p n c hd) ?_;rw[hx,Fc,NT];cases neg<;>simp[eqGuard]
  ·omega
  ·omega
 have pt:∀{p:Option Addr},k=1->a.eval x=.pointer p->(execOp a.eval o).run P w=.ok (.value (.bool (neg^^p.isNone))) w:=by
  intro p h0 hx;rcases hv with⟨h,_⟩|⟨_,⟨e,rfl⟩,Fc⟩|⟨h,_⟩
  ·omega
  ·refine A0 NT ho (by simp[hx]) (by simp[hx]) (by simp[hx]) (by simp[hx]) (by simp[hx]) (by simp[hx]) (by rw[hx,Fc];exact xk t e p hd) ?_;rw[hx,Fc,NT];cases neg<;>simp[eqGuard]
  ·omega
 have fn:∀{v:Value} {r:Bool},k=2->a.eval x=v->(v=.nilFunc/\r=true)\/(∃f b c,v=.func f b c)/\r=false->(execOp a.eval o).run P w=.ok (.value (.bool (neg^^r))) w:=by
  intro v r h0 hx vg;rcases hv with⟨h,_⟩|⟨h,_⟩|⟨_,⟨q1,q2,q3,rfl⟩,Fc⟩
  ·omega
  ·omega
  ·have he:=yD (w:=w) t v r hd vg;subst hx;refine A0 NT ho ?_ ?_ ?_ ?_ ?_ ?_ (by rw[Fc];exact he) ?_;all_goals rcases vg with⟨hx,rfl⟩|⟨⟨f,b,c,hx⟩,rfl⟩<;>first|(simp[hx];done)|(rw[hx,Fc,NT];cases neg<;>simp[eqGuard])
 cases d1 with
 |v t'=>
  cases t' with
  |sl an=>
   simp only[ej]at aB;obtain⟨h0,cZ⟩:=aB;simp only[ap,aO]at h1;rcases h1 with⟨rfl,_⟩|⟨b,oo,c,sz,hx,_⟩
   ·exact yV rfl cZ
   ·exact je (r:=false) rfl (sl h0 hx)
  |fn f bP=>
   cases f with
   |func f=>simp only[ap,aO]at h1;obtain⟨vs,hx,_⟩:=h1;exact je (r:=false) rfl (fn aB hx (.inr ⟨⟨_,_,_,rfl⟩,rfl⟩))
   |_=>exact aB.elim
  |box cs=>simp only[ap,aO]at h1;obtain⟨b,oo,hx,_⟩:=h1;exact je (r:=false) rfl (pt aB hx)
  |mb v=>
   simp only[ap,aO]at h1;cases v with
   |slice p n c=>exact je (r:=p.isNone) rfl (sl aB h1)
   |pointer p=>exact je (r:=p.isNone) rfl (pt aB h1)
   |nilFunc=>exact je (r:=true) rfl (fn aB h1 (.inl ⟨rfl,rfl⟩))
   |_=>exact aB.elim
  |_=>exact aB.elim
 |ptr r off=>simp only[ap]at h1;exact je (r:=false) rfl (pt aB h1.2)
 |gq cs off=>simp only[ap]at h1;obtain⟨b,oo,hx,_⟩:=h1;exact je (r:=false) rfl (pt aB hx)
 |jr an i off=>simp only[ap]at h1;obtain⟨b,oo,sz,hx,_⟩:=h1;exact je (r:=false) rfl (pt aB hx)
 |gU r aX i off=>simp only[ap]at h1;obtain⟨⟨b,oo,hx⟩,_⟩:=h1;exact je (r:=false) rfl (pt aB hx)
 |uS f bP=>
  cases f with
  |func f=>simp only[ap]at h1;obtain⟨vs,hx,_⟩:=h1;exact je (r:=false) rfl (fn aB hx (.inr ⟨⟨_,_,_,rfl⟩,rfl⟩))
  |_=>exact aB.elim
 |aQ r aX=>
  cases hc:ab r with
  |none=>simp[ej,hc,cb]at aB
  |some ob=>
   cases ob with
   |aR bi e' fS an=>
    have e1:ej k neg ab (.aQ r aX)=⟨k=0/\aX=bi/\an≠[],.v (.bool (neg^^false)),none⟩:=by simp only[ej,hc]
    rw[e1]at aB;obtain⟨h0,rfl,cZ⟩:=aB;simp only[ap]at h1;obtain⟨_,mc,e2,yS,jh,lm,_,nG⟩:=h1;rw[hc]at lm;cases lm;have hx:=nG rfl;obtain⟨_,_,_,ln⟩:=hO.ob r _ hc;rcases ln with⟨rfl,_⟩|⟨g,cap,dg,k1,_⟩
    ·exact yV rfl cZ
    ·exact je (r:=false) (by rw[e1]) (sl h0 (hx.trans k1))
   |_=>simp[ej,hc,cb]at aB
 |_=>exact aB.elim
def F2(hO:bJ base W M w0 ab w L){r m s l c:Nat}{sn:bY}(hr:ab r=some (.c8 m s sn l))(hm:ab m=some (.map bB agg c es))(dR:∀e∈es,e.1<s)(hl:s<=l)(ty:TypeId):
  ((∀e∈es,e.1∈sn)/\(Instr.next (.pointer (some ⟨L.gp r,0,none⟩)) false ty).run P w=.ok (.tuple #[.bool false]) w)\/
  ∃e∈es,e.1∉sn/\∃k v w',(Instr.next (.pointer (some ⟨L.gp r,0,none⟩)) false ty).run P w=.ok (.tuple #[.bool true,k,v]) w'/\
   bJ base W M w0 (bQ ab (some (r,.c8 m s (sn++[e.1]) c))) w' L/\fX W ab L w (bQ ab (some (r,.c8 m s (sn++[e.1]) c))) L w':=by
 obtain⟨hh,_,HN⟩:=hO.ob r _ hr;obtain⟨aR,hh2,lc,_⟩:=hO.ob m _ hm;have hg:=ep (P:=P) hh trivial;have Mz:=ep (P:=P) hh2 trivial;have WD:∀x∈aR.toList,x.born<s:=by
  intro x hx;obtain⟨i,hi⟩:=Kv hx;have MF:i<es.length:=by rw[<-aY.length lc];exact(E9.1 hi).1
  obtain⟨x',lq,hb,_⟩:=aY.get lc (fq MF);rw[hi]at lq;cases lq;rw[hb];exact dR _ (ME MF)
 have aeZ:(!(sn.toArray).isEmpty&& !aR.isEmpty&&aR.all (λx=>decide (x.born>=l)))=false:=by
  cases he:aR.isEmpty with
  |true=>simp
  |false=>
   have cJ:aR.all (λx=>decide (x.born>=l))=false:=by
    rw[Bool.eq_false_iff];intro h;rw[Array.all_eq_true_iff_forall_mem]at h;have h0:0<aR.size:=by
     rcases Nat.eq_zero_or_pos aR.size with h0|h0
     ·simp[Array.isEmpty,h0]at he
     ·exact h0
    have h1:=h _ (Array.getElem_mem h0);have h2:=WD aR[0] (by simp);simp at h1;omega
   simp[cJ]
 have Ic:∀x,x∈aR.filter (λe=> !sn.toArray.contains e.born)↔x∈aR.toList/\x.born∉sn:=by
  intro x;simp
 have qA:∀x∈(aR.filter (λe=> !sn.toArray.contains e.born)),x.born<s:=λx hx=>WD x ((Ic x).1 hx).1;simp only[Instr.next,Sem.run_bind,hg,Mz,Result.andThen_ok,aeZ,TP,Lg];generalize hL:aR.filter (λe=> !sn.toArray.contains e.born)=A at Ic qA⊢;have e1:A.filter (λx=>decide (x.born<s))=A:=Array.filter_eq_self.2 (λx hx=>by simpa using qA x hx);have e2:A.filter (λx=>decide (x.born>=s))= #[]:=by
  rw[Array.filter_eq_empty_iff];intro x hx;have:=qA x hx;simp;omega
 simp only[e1,e2,BG];by_cases h0:A.size=0
 ·left;have:A= #[]:=Array.eq_empty_of_size_eq_zero h0;subst this;refine⟨λe he=>?_, ?_⟩
  ·obtain⟨i,hi⟩:=Kv he;obtain⟨x,hx,hb,_⟩:=aY.get lc hi;by_cases h:e.1∈sn
   ·exact h
   ·have:=(Ic x).2 ⟨zM hx,by rw[hb];exact h⟩;simp at this
  ·simp[choose,Sem.run,Question.forced]
 ·right;have cZ:A.isEmpty=false:=by simp[Array.isEmpty,h0]
  simp only[cZ,TP,Lg,Array.empty_append,Array.size_map];have hch:∃(j:Nat) (w1:World),j<A.size/\(w1=w\/w1=w.drew)/\(choose (Question.mapNext A.size)).run P w=.ok j w1:=by
   by_cases hf:A.size<=1
   ·exact⟨0,w,by omega,.inl rfl,by simp[choose,Sem.run,Question.forced,hf]⟩
   ·exact⟨_,w.drew,Nat.mod_lt _ (by omega),.inr rfl,by
     simp only[choose,Sem.run,Question.forced,o5,hf,Lg,Question.cut];rfl⟩
  obtain⟨j,w1,hj,Up,bq⟩:=hch;have Ac:=(Ic A[j]).1 (Array.getElem_mem hj);obtain⟨i,hi⟩:=Kv Ac.1;have MF:i<es.length:=by rw[<-aY.length lc];exact(E9.1 hi).1
  obtain⟨x',lq,hb,_⟩:=aY.get lc (fq MF);rw[hi]at lq;cases lq;have hhe:w1.heap=w.heap:=by rcases Up with rfl|rfl<;>rfl
  have hh1:w1.heap[L.gp r]? =some (.mapIter (some (L.gp m)) s sn.toArray l):=by rw[hhe];exact hh
  have ah3:Fr base M w0 w1:=by
   rcases Up with rfl|rfl
   ·exact hO.fr
   ·exact⟨hO.fr.os,hO.fr.tape,hO.fr.output,hO.fr.gz,hO.fr.size,hO.fr.block,Nat.le_succ_of_le hO.fr.drawn⟩
  refine⟨es[i],ME MF,by rw[<-hb];exact Ac.2,A[j].key,A[j].val,w1.eH (L.gp r) (.mapIter (some (L.gp m)) s (sn.toArray.push A[j].born) c), ?_, ?_⟩
  ·simp only[bq,Array.getElem?_map,E2 hj,V1,Sem.run_bind,nC (P:=P) hh1 trivial,Result.andThen_ok,Sem.run_pure]
  ·rw[hb];refine bJ.put hO (zo _ ah3 HN) (by rw[oT,hhe];exact iV _) (λ_ _=>⟨rfl,rfl⟩) rfl (λb _ hb=>(nq (λx=>hb _ hr (by simp[Loc.own,x]))).trans (by rw[hhe]))
    (λb hb=>.inl ⟨_,hr,hb⟩) (λo' jM _=>by rw[hr]at jM;cases jM;exact⟨rfl,rfl⟩) (λaX e sz an h=>by rw[hr]at h;cases h) (λer=>?_)
   refine⟨?_, ?_,HN⟩
   ·rw[uG hh1];simp
   ·have cZ:m≠r:=λe=>by rw[e,hr]at hm;cases hm
    exact⟨bB,agg,c,es,by simp[bQ,cZ,hm]⟩
end
end
section
variable{neg:Bool}{bB:List Sh}{desc:TypeDesc}{sz FI:Nat}{zero:ar}
variable [bh]
section
variable{P:Program}{base:Nat}{W M:dJ}{w0:World}{ab:bA}{L:Loc}{w:World}{a:Act}{o:Oper}{Γ:gP}{name:Nat}{ρ:cQ}{d:mQ}
def rz{d5:Bool}(W':dJ)(hO:bJ base W M w0 ab w L)(hW:d5=true->∀r o b,ab r=some o->L.own r o=some b->¬W' b)(K4:∀b,W' b->WW W ab L b):
  (∀(d:DV) (x:Value),ap w W ab L d x->yg d5 ab d->aO w W' (nR ab d) x)/\(∀(ds:bD) (xs:List Value),aH w W ab L ds xs->oa d5 ab ds->aN w W' (fR ab ds) xs):=by
 have hk:ch (WW W ab L) w w:=ch.refl _ _;have one:∀(n:Nat),(∀(d:DV) (x:Value),SizeOf.sizeOf d<n->ap w W ab L d x->yg d5 ab d->aO w W' (nR ab d) x)/\(∀(ds:bD) (xs:List Value),SizeOf.sizeOf ds<n->aH w W ab L ds xs->oa d5 ab ds->aN w W' (fR ab ds) xs):=by
  intro n;induction n with
  |zero=>exact⟨λ_ _ h=>by omega,λ_ _ h=>by omega⟩
  |succ n ih=>
   refine⟨λd x hn h aB=>?_,λds xs hn h aB=>?_⟩
   ·cases d with
    |v t=>simp only[ap]at h;simp only[nR];exact aO.aD hk.toKeepsC (λb _ hb=>K4 b hb) t x h
    |aF=>
     simp only[ap]at h;obtain⟨p,rfl⟩:=h;simp only[nR,aO];exact .inl ⟨trivial,p,0,rfl⟩
    |aQ r aX=>
     simp only[yg]at aB;obtain⟨hl,aB⟩:=aB;simp only[ap]at h;obtain⟨_,bi,e,sz,an,hc,_,hv⟩:=h;simp only[hc]at aB;have hv:=hv aB;subst hv;simp only[nR,hc,aO];have c9:=hO.ob r _ hc;obtain⟨fG,bX,hm,ln⟩:=c9;rcases ln with⟨rfl,p,hp⟩|⟨g',cap,dg,nH,hp,hh,iU,ol,Ap,eZ⟩
     ·exact .inl ⟨rfl,p,0,hp⟩
     ·have sS:aP (L.sl r)=some g':=by simp[nH,aP,Fz.1 hp]
      refine .inr ⟨g',0,cap,sz,nH,(kf.1 hh).1,hW hl r _ g' hc (by simpa [Loc.own]using sS),iU, ?_⟩;have nT:=lp.an (hO.ob r _ hc) (g:=g') (by simp[nH,aP,Fz.1 hp]);by_cases hg:g'<w.heap.size
      ·obtain⟨vs,sI,vg,NK⟩:=aT.flatten nT;exact aT.gB (aN.aD hk.toKeepsC (λb _ hb=>K4 b hb) _ _ vg) bX NK
      ·exact yV (kf.1 hh).1 hg
    |agg cs=>
     simp only[ap]at h;obtain⟨vs,rfl,hr⟩:=h;simp only[nR,aO];simp only[yg]at aB;exact⟨vs,rfl,ih.2 cs _ (by simp at hn⊢;omega) hr aB⟩
    |uS f cs=>
     simp only[ap]at h;obtain⟨vs,rfl,hr⟩:=h;simp only[nR,aO];simp only[yg]at aB;exact⟨vs,rfl,ih.2 cs _ (by simp at hn⊢;omega) hr aB⟩
    |qi r aX lo m=>
     simp only[yg]at aB;obtain⟨hl,aB⟩:=aB;simp only[ap]at h;obtain⟨_,bi,e,sz,an,hc,_,hv⟩:=h;simp only[hc]at aB;have hv:=hv aB.1;simp only[nR,hc,aO];have ja:((an.drop lo).take m).length=m:=by rw[ye,Fx];omega
     rcases oq hO hc hv with⟨rfl,a,c,rfl⟩|⟨g,c,sS,rfl,V7,hr⟩
     ·exact .inl ⟨by simp,a,c,rfl⟩
     ·refine .inr ⟨g,lo*sz,c,sz,by rw[ja],(hO.ob r _ hc).lt (by simpa [Loc.own]using sS),hW hl r _ g hc (by simpa [Loc.own]using sS),by omega, ?_⟩;obtain⟨vs,sI,vg,NK⟩:=aT.flatten hr;exact aT.gB (aN.aD hk.toKeepsC (λb _ hb=>K4 b hb) _ _ vg) (λx hx=>(hO.ob r _ hc).2.1 x (EK (ud hx))) NK
    |_=>exact aB.elim
   ·cases ds with
    |nil=>simpa [aH,aN,fR]using h
    |cons d ds=>
     simp only[aH]at h;obtain⟨x,jU,rfl,h1,h2,hr⟩:=h;simp only[oa]at aB;simp only[fR,aN];exact⟨x,jU,rfl,h1,ih.1 d x (by simp at hn⊢;omega) h2 aB.1,ih.2 ds jU (by simp at hn⊢;omega) hr aB.2⟩
 exact⟨λd x=>(one (SizeOf.sizeOf d+1)).1 d x (by omega),λds xs=>(one (SizeOf.sizeOf ds+1)).2 ds xs (by omega)⟩
def FJ{agg:Bool}{t u:T}(h:¬((∃as,t=.agg as)/\∃bs,u=.agg bs)):vV neg agg bB t u=⟨agg=false/\cT bB [t]/\cT bB [u],.v (.bool (neg^^eF t u)),none⟩:=by
 cases t<;>first|rfl|(cases u<;>first|rfl|exact yV ⟨⟨_,rfl⟩,⟨_,rfl⟩⟩ h)
def HR{n:Nat}{t:TypeId}{s:Sh}(hs:iX P (n+1) t=some [s])(hd:P.underlying t=some desc)(ha:bu desc=false):(s=.bool/\desc=.bool)\/(s=.str/\desc=.string)\/∃k,s=.int k/\desc=.int k:=by
 simp only[iX,hd]at hs;cases desc;case bool=>simp at hs;exact .inl ⟨hs.symm,rfl⟩
 case int k=>simp at hs;exact .inr (.inr ⟨k,hs.symm,rfl⟩)
 case string=>simp at hs;exact .inr (.inl ⟨hs.symm,rfl⟩)
 case struct=>exact yV ha (by simp[bu])
 case array=>exact yV ha (by simp[bu])
 all_goals exact yV hs (by simp)
def Cu{op:BinOp}{t:TypeId}{x y:Operand}{yt:TypeId}(NT:op=if neg then .neq else .eql)(ho:o.op=.binOp op t x y yt)(hd:P.underlying t=some desc)(HS:∀k,desc≠ .int k)(hs:iX P 10000 t=some bB)(hg:P.eqGuardType P.depth t=false)
  (hO:bJ base W M w0 ab w L) {d1 d2:DV} (h1:ap w W ab L d1 (a.eval x)) (h2:ap w W ab L d2 (a.eval y)) (k1:yg true ab d1) (k2:yg true ab d2) (aB:(vV neg (bu desc) bB (nR ab d1) (nR ab d2)).ok):
  bL P base W M w0 ab L w a o ⟨True,(vV neg (bu desc) bB (nR ab d1) (nR ab d2)).val,none⟩:=by
 have r1:=(rz (d5:=true) (λ_=>False) hO (λ_ _ _ _ _ _ h=>h) (λ_ h=>h.elim)).1 d1 _ h1 k1;have r2:=(rz (d5:=true) (λ_=>False) hO (λ_ _ _ _ _ _ h=>h) (λ_ h=>h.elim)).1 d2 _ h2 k2;by_cases aeh:(∃as,nR ab d1=.agg as)/\∃bs,nR ab d2=.agg bs
 ·obtain⟨⟨as,t1⟩,bs,t2⟩:=aeh;simp only[t1,t2,vV]at aB⊢;obtain⟨ha,f1,f2⟩:=aB;rw[t1]at r1;rw[t2]at r2;simp only[aO]at r1 r2;obtain⟨xs,e1,g1⟩:=r1;obtain⟨ys,e2,g2⟩:=r2;have hq:(Op.equal t (.agg xs) (.agg ys)).run P w=.ok (mz as bs) w:=by
   have:=m7 10000 t bB desc hs hd xs.toList ys.toList w (fP f1 g1) (fP f2 g2);simp only[sJ,ha,yh,Zcs]at this;rw[sT f1 f2 g1 g2];exact this
  have akP:=run_eqGuard_agg w op t x y xs ys hg;refine bL.bool hO rfl rfl ?_;subst NT;cases neg<;>simp only[yh,Lg,TP]at ho akP<;>simp[execOp,ho,e1,e2,akP,binOp,hq]
 ·rw[FJ aeh]at aB⊢;obtain⟨ha,f1,f2⟩:=aB;obtain⟨s,rfl,g1⟩:=ed f1;obtain⟨s2,Uk,g2⟩:=ed f2;obtain rfl:s=s2:=by simpa using Uk
  refine bL.bool hO rfl rfl ?_;rw[Cv g1 g2 r1 r2];subst NT;cases s with
  |bool=>
   have hdb:P.underlying t=some .bool:=by
    rcases HR (n:=9999) hs hd ha with⟨_,rfl⟩|⟨h,_⟩|⟨k,h,_⟩
    ·exact hd
    ·cases h
    ·cases h
   cases HP:nR ab d1<;>rw[HP]at g1 r1<;>first|exact yV g1 E6|skip
   cases M4:nR ab d2<;>rw[M4]at g2 r2<;>first|exact yV g2 E6|skip
   simp only[aO]at r1 r2;cases neg<;>simp[execOp,ho,r1,r2,eqGuard,run_eql_bool,run_neq_bool,hdb,V6]
  |str=>
   cases HP:nR ab d1<;>rw[HP]at g1 r1<;>first|exact yV g1 E6|skip
   cases M4:nR ab d2<;>rw[M4]at g2 r2<;>first|exact yV g2 E6|skip
   simp only[aO]at r1 r2;cases neg<;>simp[execOp,ho,r1,r2,eqGuard,binOp,Op.stringOp,V6]
  |int k=>
   rcases HR (n:=9999) hs hd ha with⟨h,_⟩|⟨h,_⟩|⟨k',_,h⟩
   ·cases h
   ·cases h
   ·exact yV h (HS k')
def uj{W':dJ}{sz:Nat}:∀(n:Nat) (cs:ar) (vs:List Value) (b o:Nat),cs.length=n*sz->aN w W' cs vs->(∀j v,vs[j]? =some v->w.cell? ⟨b,o+j,none⟩=some v)->aT w W' sz b o (dW sz n cs)
 |0,_,_,_,_,_,_,_=>by simp[dW,aT]
 |n+1,cs,vs,b,o,hl,hr,hc=>by
  have fG:sz<=cs.length:=by rw[hl,TE];omega
  have sI:=aN.length hr;simp only[dW,aT];refine⟨by simp;omega, ?_, ?_⟩
  ·refine cS.m5 (aN.take sz hr) λj v hj=>hc j v ?_;rw[Fo]at hj;split at hj
   ·exact hj
   ·cases hj
  ·refine uj n _ (vs.drop sz) b (o+sz) (by rw[Fx,hl,TE];omega) (aN.drop sz hr) λj v hj=>?_;rw[TU]at hj;have:=hc (sz+j) v hj
   rwa [show o+sz+j=o+(sz+j)by omega]
def rB(sz:Nat):∀(n:Nat) (cs:ar),(dW sz n cs).length=n
 |0,_=>rfl
 |n+1,cs=>by simp[dW,rB sz n]
def rC:∀(ps:List (Nat×Nat×DV)) (ds:bD),oe ds.length ps->(pQ ds ps).length=ds.length
 |[],ds,_=>rfl
 |(off,sz,d)::ps,ds,h=>by
  simp only[oe]at h;obtain⟨h1,h2,h3,h4⟩:=h;have hl:(bH ds off (cellsOf d)).length=ds.length:=eP (by omega);simp only[pQ];rw[rC ps _ (by rw[hl];exact h4),hl]
def uk(hg:vT w (WW W ab L))(gb:∀t,ap w W ab L (ρ t) (a.tmps.getD t Go.undef)):∀{xs:List Operand} {ys:List be},xs.mapM be.of=some ys->∀(i:Nat) (x:Operand) (y:be),xs[i]? =some x->ys[i]? =some y->ap w W ab L (y.ev ρ) (a.eval x)
 |[],ys,h,i,x,y,hx,_=>by simp at hx
 |x::xs,ys,h,i,p,q,hp,hq=>by
  simp only[LQ,I7,gV,fO,bN]at h;obtain⟨y,hy,ys',mB,rfl⟩:=h;cases i with
  |zero=>
   simp only[pd,bN]at hp hq;subst hp hq;exact be.bd hg gb hy
  |succ i=>exact uk hg gb mB i p q (by simpa using hp) (by simpa using hq)
def oD:∀{xs:List Operand} {ys:List be},xs.mapM be.of=some ys->ys.length=xs.length
 |[],ys,h=>by simp at h;simp[h]
 |x::xs,ys,h=>by
  simp only[LQ,I7,gV,fO,bN]at h;obtain⟨y,hy,ys',mB,rfl⟩:=h;simp[oD mB]
def wl(hg:vT w (WW W ab L))(gb:∀t,ap w W ab L (ρ t) (a.tmps.getD t Go.undef)){x:Option Operand}{y:Option be}(h:wg x=some y):(y.map (·.ev ρ)=none/\x.map a.eval=none)\/∃dl vl,y.map (·.ev ρ)=some dl/\x.map a.eval=some vl/\ap w W ab L dl vl:=by
 cases x with
 |none=>simp only[wg,bN]at h;subst h;exact .inl ⟨rfl,rfl⟩
 |some x=>
  simp only[wg,fE]at h;obtain⟨z,hz,rfl⟩:=h;exact .inr ⟨_,_,rfl,rfl,be.bd hg gb hz⟩
def NV{d:DV}{v:Value}(hp:od d)(h:ap w W ab L d v):v.oneCell'=true:=by
 cases d with
 |aF=>simp only[ap]at h;obtain⟨p,rfl⟩:=h;rfl
 |v t=>
  simp only[ap]at h;cases t with
  |agg ts=>exact yV hp E6
  |dh ts=>exact yV hp E6
  |mb x=>simp only[aO]at h;subst h;exact hp
  |sl an=>simp only[aO]at h;rcases h with⟨_,_,_,rfl⟩|⟨_,_,_,_,rfl,_⟩<;>rfl
  |fn f bP=>simp only[aO]at h;obtain⟨_,rfl,_⟩:=h;rfl
  |box cs=>simp only[aO]at h;obtain⟨_,_,rfl,_⟩:=h;rfl
  |bool b=>simp only[aO]at h;subst h;rfl
  |int k n=>simp only[aO]at h;subst h;rfl
  |str k=>simp only[aO]at h;subst h;rfl
 |_=>exact hp.elim
def NW{d:DV}{v:Value}(hp:an2 d)(h:ap w W ab L d v):v.oneCell'=true:=by
 cases d with
 |undef=>exact hp.elim
 |skip=>exact hp.elim
 |agg cs=>exact hp.elim
 |dh cs=>exact hp.elim
 |v t=>exact NV (d:=.v t) hp h
 |aF=>simp only[ap]at h;obtain⟨p,rfl⟩:=h;rfl
 |ptr r off=>simp only[ap]at h;obtain⟨_,rfl⟩:=h;rfl
 |aQ r aX=>simp only[ap]at h;obtain⟨⟨_,_,_,rfl⟩,_⟩:=h;rfl
 |jr an i off=>simp only[ap]at h;obtain⟨_,_,_,rfl,_⟩:=h;rfl
 |gq cs off=>simp only[ap]at h;obtain⟨_,_,rfl,_⟩:=h;rfl
 |gU r aX i off=>simp only[ap]at h;obtain⟨⟨_,_,rfl⟩,_⟩:=h;rfl
 |vU=>simp only[ap]at h;subst h;rfl
 |dQ r=>simp only[ap]at h;obtain⟨_,rfl⟩:=h;rfl
 |c8 r=>simp only[ap]at h;obtain⟨_,rfl⟩:=h;rfl
 |qi r aX lo n=>simp only[ap]at h;obtain⟨⟨_,_,rfl⟩,_⟩:=h;rfl
 |Al r n=>simp only[ap]at h;obtain⟨_,rfl⟩:=h;rfl
 |uS f cs=>simp only[ap]at h;obtain⟨_,rfl,_⟩:=h;rfl
def y6(hg:vT w (WW W ab L))(gb:∀t,ap w W ab L (ρ t) (a.tmps.getD t Go.undef)):∀{xs:List Operand} {ys:List be},xs.mapM be.of=some ys->dm (ys.map (·.ev ρ))->aH w W ab L (ys.map (·.ev ρ)) (xs.map a.eval)
 |[],ys,h,_=>by simp at h;subst h;simp[aH]
 |x::xs,ys,h,hp=>by
  simp only[LQ,I7,gV,fO,bN]at h;obtain⟨y,hy,ys',mB,rfl⟩:=h;simp only[l8,dm]at hp;simp only[l8,aH];have r:=be.bd hg gb hy;exact⟨_,_,rfl,NW hp.1 r,r,y6 hg gb mB hp.2⟩
def sU:∀{ds:bD},rj ds=true->fc ds
 |[],_=>trivial
 |d::ds,h=>by
  cases d with
  |v t=>simp only[rj,iS]at h;exact⟨h.1,sU h.2⟩
  |aF=>simp only[rj]at h;exact⟨trivial,sU h⟩
  |_=>simp[rj]at h
def NX(hc:cy P o=some d)(kh:∀f args,d≠ .call f args)(gb:∀t,ap w W ab L (ρ t) (a.tmps.getD t Go.undef))(hO:bJ base W M w0 ab w L)(dj:ab name=none)(aB:(cj Γ d name ρ ab).ok):
  bL P base W M w0 ab L w a o (cj Γ d name ρ ab):=by
 unfold cy at hc;cases ho:o.op<;>simp only[ho,reduceCtorEq]at hc
 case move x=>
  simp only[fE]at hc;obtain⟨y,hy,rfl⟩:=hc;exact bL.ji hO rfl (v:=a.eval x) (by simp[execOp,ho]) (be.bd hO.gl gb hy)
 case assign x=>
  simp only[fE]at hc;obtain⟨y,hy,rfl⟩:=hc;exact bL.ji hO rfl (v:=a.eval x) (by simp[execOp,ho]) (be.bd hO.gl gb hy)
 case pick c x y=>
  simp only[I7,gV,fO,bN]at hc;obtain⟨c',V9,x',hx,y',hy,rfl⟩:=hc;have r:=be.bd hO.gl gb V9;unfold cj at aB⊢;simp only at aB⊢;split at aB
  ·rename_i t ht;rw[ht]at r;simp only[ap,aO]at r;refine bL.ji hO rfl (v:=if t then a.eval x else a.eval y) (by simp[execOp,ho,r,asBool]) ?_;cases t
   ·exact be.bd hO.gl gb hy
   ·exact be.bd hO.gl gb hx
  ·exact aB.elim
 case alloc e=>
  simp only[I7,gV,fO,bN]at hc;obtain⟨i,hi,z,hz,zs,BZ,rfl⟩:=hc;have h:=Aq hO dj e (fH BZ);refine⟨_,.pointer (some ⟨w.heap.size,0,none⟩),_,_, ?_,.inl rfl,h.1,h.2, ?_⟩
  ·simp[execOp,ho,Instr.alloc,zeroValue,typeInfo,hi,hz,newVar,newRow]
  ·simp only[cj,ap];exact⟨⟨zs,by simp[bQ]⟩,by simp[Loc.eQ]⟩
 case box e x=>
  simp only[fE]at hc;obtain⟨y,hy,rfl⟩:=hc;have h:=Aq hO dj e (ap.cells (be.bd hO.gl gb hy) aB);refine⟨_,.pointer (some ⟨w.heap.size,0,none⟩),_,_, ?_,.inl rfl,h.1,h.2, ?_⟩
  ·simp[execOp,ho,Instr.box,newVar,newRow]
  ·simp only[cj,ap];exact⟨⟨cellsOf (y.ev ρ),by simp[bQ]⟩,by simp[Loc.eQ]⟩
 case build t parts=>
  simp only[I7,gV,fO,bN]at hc;obtain⟨i,hi,z,hz,zs,BZ,pl,MJ,ps,NY,rfl⟩:=hc;have Ul:=fH (w:=w) (W:=W) (ab:=ab) (L:=L) BZ;have NP:=aH.length Ul;simp only[HM]at NP;simp only[cj]at aB⊢;obtain⟨cells,h1,h2,h3⟩:=wh hO.gl gb parts.toList ps NY z.cells zs Ul (by rw[NP];exact aB);have hb:P.built t (parts.map λx=>(x.1,a.eval x.2)).toList=some cells:=by
   unfold Program.built;unfold we at MJ;cases hu:P.underlying t with
   |none=>simp[hu]at MJ
   |some desc=>
    cases desc<;>simp only[hu,reduceCtorEq]at MJ
    case array n e=>
     simp only[fE]at MJ;obtain⟨ie,Ex,rfl⟩:=MJ;simpa [hi,hz,Ex]using h1
    case struct NR=>
     simp only[fE]at MJ;obtain⟨pl',ahC,rfl⟩:=MJ;simp only[hi,hz,ahC,Array.toList_map];simpa using h1
  refine bL.ji hO rfl (v:=.agg cells) ?_ (by simp only[ap];exact⟨cells,rfl,h2⟩);have:=run_build w t (parts.map λx=>(x.1,a.eval x.2)) cells hb;simp[execOp,ho,this]
 case buildSlice t len parts=>
  split at hc
  ·rename_i e hu;simp only[I7,gV,fO]at hc;obtain⟨i,hi,hc⟩:=hc;split at hc
   ·cases hc
   ·rename_i fG;simp only[fO,bN]at hc;obtain⟨z,hz,zs,BZ,ps,NY,rfl⟩:=hc;have Ul:=fH (w:=w) (W:=W) (ab:=ab) (L:=L) BZ;have NP:=aH.length Ul;have dI:¬len*i.size>2^24:=λh=>fG (.inl h);have Uh:i.size≠0:=λh=>fG (.inr h);simp only[HM,Array.size_map,Array.size_range]at NP;simp only[cj]at aB⊢;by_cases h0:len=0
    ·subst h0;simp only[yh]at aB⊢;subst aB;have Sn:parts.toList=[]:=by
      cases hp:parts.toList with
      |nil=>rfl
      |cons p ps'=>
       rw[hp]at NY;simp only[m8,LQ,I7,gV,fO,bN,reduceCtorEq,Ba,Hz]at NY
     have hp1:parts= #[]:=by cases parts;simp_all
     have hr:=oC (P:=P) w hu hi hz 0 (by simp) (parts:= #[]) (cells:= #[]) (by simp[Instr.fill,Array.range_zero']);have hg:=bJ.grow hO (iJ (w:=w) (.cells #[] e));refine⟨_,.slice (some ⟨w.heap.size,0,none⟩) 0 0,_,L, ?_,.inl rfl,hg.1,hg.2,by simp only[ap];exact⟨_,rfl⟩⟩;simp[execOp,ho,hp1,hr]
    ·simp only[h0,Lg]at aB⊢;obtain⟨hf,NZ⟩:=aB;obtain⟨cells,h1,h2,h3⟩:=wh hO.gl gb parts.toList ps NY _ zs Ul (by simpa using hf);have hr:=oC (P:=P) w hu hi hz len dI (parts:=parts.map λx=>(x.1,a.eval x.2)) (cells:=cells) (by simpa using h1);have hg:=bJ.grow hO (iJ (w:=w) (.cells cells e));refine⟨_,.slice (some ⟨w.heap.size,0,none⟩) len len,_,L, ?_,.inl rfl,hg.1,hg.2, ?_⟩
     ·simp[execOp,ho,hr]
     ·have Co:=kv (HL:=λ_=>none) NZ (aH.er hg.2 _ _ h2);simp only[bQ,ap,aO,rB];refine .inr ⟨w.heap.size,0,len,i.size,rfl,by simp, ?_,iV _, ?_⟩
      ·rintro(hw|⟨r,ob,mU,nS⟩)
       ·have h1:=hO.under _ hw;have h2:=hO.fr.gz;have h3:=hO.fr.size;omega
       ·have:=(hO.ob r ob mU).lt nS;omega
      ·refine uj len _ cells.toList _ _ ?_ Co λj v hj=>?_
       ·rw[oj,rC _ _ (by rw[<-NP];exact hf),<-NP]
       ·rw[Cf,cell_of_row (w.alloc (.cells cells e)) w.heap.size j cells e (0,0) (heap_alloc_new w _)];simpa using hj
  ·cases hc
 case load t x=>
  split at hc
  ·rename_i desc i hd hi;simp only[fE]at hc;obtain⟨y,hy,rfl⟩:=hc;simp only[cj]at aB⊢;obtain⟨hp,v,bq,hv⟩:=ql hO hd hi (be.bd hO.gl gb hy) aB;exact bL.ji hO hp (v:=v) (by simp[execOp,ho,bq]) hv
  ·cases hc
 case store t x y=>
  simp only[I7,gV,fO,bN]at hc;obtain⟨i,hi,x',hx,y',hy,rfl⟩:=hc;have rx:=be.bd hO.gl gb hx;have ry:=be.bd hO.gl gb hy;simp only[cj]at aB⊢;cases hd:x'.ev ρ with
  |ptr r off=>
   rw[hd]at rx;simp only[ap]at rx;obtain⟨⟨cs,pR⟩,Wa⟩:=rx;simp only[hd,jf,pR]at aB⊢;obtain⟨w',h1,h2,h3⟩:=KV hO hi pR ry aB.1 aB.2.1 aB.2.2;exact⟨.skip,Go.undef,w',L,by simp[execOp,ho,Wa,h1],.inr ⟨rfl,rfl⟩,h2,h3,by simp[ap]⟩
  |gU r aX j off=>
   rw[hd]at rx;simp only[ap]at rx;obtain⟨_,bi,e,sz,an,pR,_,wa⟩:=rx;simp only[hd,jf,pR]at aB⊢;obtain⟨rfl,hn,jD,NZ⟩:=aB;obtain⟨g,hg,Wa,h0,h1⟩:=wa rfl;obtain⟨w',h1,h2,h3⟩:=KX hO hi pR hg h0 h1 ry hn jD NZ;exact⟨.skip,Go.undef,w',L,by simp[execOp,ho,Wa,h1],.inr ⟨rfl,rfl⟩,h2,h3,by simp[ap]⟩
  |_=>rw[hd]at aB;exact aB.elim
 case nilCheck x=>
  simp only[fE]at hc;obtain⟨y,hy,rfl⟩:=hc;have rx:=be.bd hO.gl gb hy;simp only[cj]at aB⊢;obtain⟨h1,h2,h3⟩:=wk rx aB;refine bL.ji hO h1 (v:=a.eval x) ?_ (by rw[h2];exact rx);rcases h3 with⟨p,hp⟩|⟨f,bP,hp⟩
  ·simp only[execOp,ho,hp];simp
  ·simp only[execOp,ho,hp];simp
 case binOp op t x y yt=>
  simp only[gV,fO]at hc;obtain⟨x',hx,y',hy,hc⟩:=hc;have rx:=be.bd hO.gl gb hx;have ry:=be.bd hO.gl gb hy;unfold jF at hc;split at hc
  ·split at hc;all_goals first
    |(simp only[bN]at hc;subst hc;exact K1 hO ho rx ry aB)
    |cases hc
  ·rename_i desc HS hd;split at hc
   ·rename_i bB hs;split at hc
    ·cases hc
    ·rename_i hg;simp only[bN]at hc;subst hc;simp only[cj]at aB⊢;obtain⟨k1,k2,aB⟩:=aB;exact Cu (neg:=false) rfl ho hd (λk hk=>HS k hk) hs (by simpa using hg) hO rx ry k1 k2 aB
   ·rename_i bB hs;split at hc
    ·cases hc
    ·rename_i hg;simp only[bN]at hc;subst hc;simp only[cj]at aB⊢;obtain⟨k1,k2,aB⟩:=aB;exact Cu (neg:=true) rfl ho hd (λk hk=>HS k hk) hs (by simpa using hg) hO rx ry k1 k2 aB
   ·simp only[fE]at hc;obtain⟨k,hk,rfl⟩:=hc;exact ul (neg:=false) hO rfl ho hd hy hk rx aB
   ·simp only[fE]at hc;obtain⟨k,hk,rfl⟩:=hc;exact ul (neg:=true) hO rfl ho hd hy hk rx aB
   ·cases hc
  ·cases hc
 case makeMap t ahD=>
  cases ahD with
  |some h=>cases hc
  |none=>
   simp only at hc;split at hc
   ·simp only[fE]at hc;obtain⟨ki,_,rfl⟩:=hc;exact Cw hO dj ho _ _
   ·cases hc
 case lookup t x k ok=>
  split at hc
  ·rename_i kt et ht;split at hc
   ·rename_i ki z Fb hz;simp only[I7,gV,fO,bN]at hc;obtain⟨x',hx,k',hk,rfl⟩:=hc;exact Ax hO ho ht Fb hz (be.bd hO.gl gb hx) (be.bd hO.gl gb hk) aB
   ·cases hc
  ·cases hc
 case mapUpdate t x k y=>
  split at hc
  ·rename_i kt et ht;split at hc
   ·rename_i ki Fb;simp only[I7,gV,fO,bN]at hc;obtain⟨x',hx,k',hk,y',hy,rfl⟩:=hc;exact Ay hO ho ht Fb (be.bd hO.gl gb hx) (be.bd hO.gl gb hk) (be.bd hO.gl gb hy) aB
   ·cases hc
  ·cases hc
 case mapEntry t x k=>
  split at hc
  ·rename_i kt et ht;split at hc
   ·rename_i ki z Fb hz;simp only[I7,gV,fO,bN]at hc;obtain⟨x',hx,k',hk,rfl⟩:=hc;exact Az hO ho ht Fb hz (be.bd hO.gl gb hx) (be.bd hO.gl gb hk) aB
   ·cases hc
  ·cases hc
 case entryStore t x s y=>
  simp only[I7,gV,fO,bN]at hc;obtain⟨x',hx,k',hk,y',hy,rfl⟩:=hc;exact Cx hO ho (be.bd hO.gl gb hx) (be.bd hO.gl gb hk) (be.bd hO.gl gb hy) aB
 case range t x=>
  split at hc
  ·rename_i kt et ht;simp only[fE]at hc;obtain⟨x',hx,rfl⟩:=hc;exact AA hO dj ho ht (be.bd hO.gl gb hx) aB
  ·cases hc
 case entry x=>
  simp only[fE]at hc;obtain⟨x',hx,rfl⟩:=hc;exact aB.elim
 case index t x i=>
  split at hc
  ·rename_i ht;simp only[I7,gV,fO,bN]at hc;obtain⟨x',hx,i',hi,rfl⟩:=hc;exact AB hO ho ht (be.bd hO.gl gb hx) (be.bd hO.gl gb hi) aB
  ·cases hc
 case panic x=>simp only[bN]at hc;subst hc;exact aB.elim
 case makeInterface _ _=>simp only[bN]at hc;subst hc;exact aB.elim
 case unOp op t x=>
  simp only[fE]at hc;obtain⟨y,hy,rfl⟩:=hc;have rx:=be.bd hO.gl gb hy;unfold cj HI at aB⊢;simp only at aB⊢;split at aB
  ·rename_i b hb;rw[hb]at rx;simp only[ap,aO]at rx;split at aB
   ·exact bL.bool hO rfl rfl (by simp[execOp,ho,rx,Op.unary])
   ·exact aB.elim
  ·rename_i k n hb;rw[hb]at rx;simp only[ap,aO]at rx;split at aB
   ·exact bL.int hO rfl rfl (by simp[execOp,ho,rx,Op.unary,Op.intArith])
   ·exact aB.elim
  ·exact aB.elim
 case convert src dst x=>
  split at hc
  ·rename_i k0 k hs hd;simp only[fE]at hc;obtain⟨y,hy,rfl⟩:=hc;have rx:=be.bd hO.gl gb hy;unfold cj at aB⊢;simp only at aB⊢;split at aB
   ·rename_i k1 n hb;rw[hb]at rx;simp only[ap,aO]at rx;exact bL.int hO rfl rfl (by simp[execOp,ho,rx,convert,run_underlying hs,run_underlying hd,Conv.intToInt])
   ·exact aB.elim
  ·cases hc
 case fieldAddr s x f=>
  split at hc
  ·rename_i fs hs;split at hc
   ·rename_i fd hf;split at hc
    ·rename_i fi hi;split at hc
     ·cases hc
     ·rename_i fG;simp only[fE]at hc;obtain⟨y,hy,rfl⟩:=hc;have rx:=be.bd hO.gl gb hy;simp only[cj]at aB⊢;obtain⟨hp,b,oo,Wa,hv⟩:=Aw rx aB;refine bL.ji hO hp (v:=.pointer (some ⟨b,oo+fd.offset,none⟩)) ?_ hv;simp[execOp,ho,Wa,Instr.fieldAt,run_underlying hs,hf,Instr.sureAddr,fieldPlace,run_sizeOf hi,fG,jL]
    ·cases hc
   ·cases hc
  ·cases hc
 case field s x f=>
  split at hc
  ·rename_i fs hs;split at hc
   ·rename_i fd hf;split at hc
    ·rename_i fi desc hi hd;simp only[fE]at hc;obtain⟨y,hy,rfl⟩:=hc;have rx:=be.bd hO.gl gb hy;simp only[cj]at aB⊢;obtain⟨hp,v,bq,hv⟩:=Cs hs hf hi hd rx aB;exact bL.ji hO hp (v:=v) (by simp[execOp,ho,bq]) hv
    ·cases hc
   ·cases hc
  ·cases hc
 case indexAddr t x ix=>
  split at hc
  ·rename_i e ht;split at hc
   ·rename_i i hi;simp only[I7,gV,fO,bN]at hc;obtain⟨x',hx,y',hy,rfl⟩:=hc;simp only[cj]at aB⊢;obtain⟨hp,v,bq,hv⟩:=K2 hO ht hi (be.bd hO.gl gb hx) (be.bd hO.gl gb hy) aB;exact bL.ji hO hp (v:=v) (by simp[execOp,ho,bq]) hv
   ·cases hc
  ·rename_i n e ht;split at hc
   ·rename_i i hi;simp only[I7,gV,fO,bN]at hc;obtain⟨x',hx,y',hy,rfl⟩:=hc;simp only[cj]at aB⊢;obtain⟨hp,v,bq,hv⟩:=yy ht hi (be.bd hO.gl gb hx) (be.bd hO.gl gb hy) aB;exact bL.ji hO hp (v:=v) (by simp[execOp,ho,bq]) hv
   ·cases hc
  ·cases hc
 case slice t x lo vG mx=>
  cases mx with
  |some m=>cases hc
  |none=>
   simp only at hc;split at hc
   ·rename_i e ht;split at hc
    ·rename_i i hi;simp only[I7,gV,fO,bN]at hc;obtain⟨x',hx,Kx,hlo,hi2,hhi,rfl⟩:=hc;simp only[cj]at aB⊢;obtain⟨hp,v,bq,hv⟩:=Ct hO ht hi (be.bd hO.gl gb hx) (wl hO.gl gb hlo) (wl hO.gl gb hhi) aB;exact bL.ji hO hp (v:=v) (by simp[execOp,ho,bq]) hv
    ·cases hc
   ·cases hc
 case extract x i=>
  simp only[fE]at hc;obtain⟨y,hy,rfl⟩:=hc;have rx:=be.bd hO.gl gb hy;unfold cj mY at aB⊢;simp only at aB⊢;split at aB
  ·rename_i ts hb;rw[hb]at rx;simp only[ap,aO]at rx;obtain⟨vs,hv,hr⟩:=rx;obtain⟨v,nG,nS⟩:=dq.get hr (i:=i) (t:=ts.getD i default) (by simp[List.getD,show i<ts.length from aB]);refine bL.ji hO rfl (v:=v) ?_ (by simp only[ap];exact nS);have:vs[i]? =some v:=by simpa using nG
   simp[execOp,ho,hv,Instr.extract,this]
  ·rename_i ds hb;rw[hb]at rx;simp only[ap]at rx;obtain⟨vs,hv,hr⟩:=rx;have key:∀(ds:bD) (vs:List Value) (i:Nat),db w W ab L ds vs->i<ds.length->∃v,vs[i]? =some v/\ap w W ab L (ds.getD i .undef) v:=by
    intro ds;induction ds with
    |nil=>intro vs i _ h;simp at h
    |cons d ds ih=>
     intro vs i h hi;simp only[db]at h;obtain⟨v,fW,rfl,h1,h2⟩:=h;cases i with
     |zero=>exact⟨v,rfl,h1⟩
     |succ i=>simpa using ih fW i h2 (by simpa using hi)
   obtain⟨v,nG,nS⟩:=key ds _ i hr aB;refine bL.ji hO rfl (v:=v) ?_ nS;have:vs[i]? =some v:=by simpa using nG
   simp[execOp,ho,hv,Instr.extract,this]
  ·exact aB.elim
 case makeSlice t l c=>
  split at hc
  ·rename_i e ht;split at hc
   ·rename_i i hi;split at hc
    ·rename_i z hz;split at hc
     ·rename_i p q;split at hc
      ·rename_i EJ;obtain⟨rfl,fG⟩:=EJ;simp only[I7,gV,fO,bN]at hc;obtain⟨zero,ov,rfl⟩:=hc;simp only[cj]at aB⊢;obtain⟨v,w',L',h1,h2,h3,h4⟩:=v8 hO ht hi hz fG ov dj (be.bd hO.gl gb (x:=.tmp p) rfl) aB;exact⟨.value v,v,w',L',by simp[execOp,ho,h1],.inl rfl,h2,h3,h4⟩
      ·cases hc
     ·rename_i k p k' q;split at hc
      ·rename_i EJ;obtain⟨rfl,rfl,fG⟩:=EJ;simp only[I7,gV,fO,bN]at hc;obtain⟨zero,ov,rfl⟩:=hc;simp only[cj]at aB⊢;obtain⟨v,w',L',h1,h2,h3,h4⟩:=v8 hO ht hi hz fG ov dj (be.bd (ρ:=ρ) hO.gl gb (x:=.const (.int k p)) rfl) aB;exact⟨.value v,v,w',L',by simp[execOp,ho,h1],.inl rfl,h2,h3,h4⟩
      ·cases hc
     ·cases hc
    ·cases hc
   ·cases hc
  ·cases hc
 case makeFunc f first bP=>
  split at hc
  ·rename_i hf;simp only[I7,gV,fO,bN]at hc;obtain⟨cs,pR,rfl⟩:=hc;simp only[cj]at aB⊢;have hr:aH w W ab L (cs.map (·.ev ρ)) (bP.map a.eval).toList:=by
    simpa using y6 hO.gl gb pR aB
   refine bL.ji hO rfl (v:=.func f #[] (bP.map a.eval)) ?_ ?_
   ·have:first= #[]:=by simpa using hf
    simp[execOp,ho,this,Instr.makeFunc]
   ·by_cases Mx:rj (cs.map (·.ev ρ))=true
    ·simp only[Mx,yh,ap,aO];exact⟨_,rfl,kv (sU Mx) hr⟩
    ·simp only[Mx];exact⟨_,rfl,hr⟩
  ·cases hc
 case call c=>
  have rD:∀{xs:List Operand},c.args.toList=xs->c.args=xs.toArray:=λh=>by rw[<-h,Zcs]
  have abk:∀{xs:List TypeId},c.argTypes.toList=xs->c.argTypes=xs.toArray:=λh=>by rw[<-h,Zcs]
  unfold dc at hc;split at hc
  ·split at hc
   ·split at hc
    ·cases hc
    ·simp only[fE]at hc;obtain⟨y,_,rfl⟩:=hc;exact yV rfl (kh _ _)
   ·cases hc
  ·obtain⟨ys,_,rfl⟩:=fE.1 hc;exact aB.elim
  ·rename_i gW;split at hc
   ·rename_i x t hx ht;have uf:c={callee:=.builtin .len,args:= #[x],argTypes:= #[t]}:=by
     have h1:=rD hx;have h2:=abk ht;cases c
     simp_all
    subst uf;split at hc
    ·rename_i e hu;simp only[fE]at hc;obtain⟨y,hy,rfl⟩:=hc;exact K3 hO ho hu (be.bd hO.gl gb hy) aB
    ·rename_i hu;simp only[fE]at hc;obtain⟨y,hy,rfl⟩:=hc;exact FH hO ho hu (be.bd hO.gl gb hy) aB
    ·rename_i kt et hu;simp only[fE]at hc;obtain⟨y,hy,rfl⟩:=hc;exact FK hO ho hu (be.bd hO.gl gb hy) aB
    ·cases hc
   ·cases hc
  ·rename_i gW;split at hc
   ·rename_i x y t t' hx ht;have uf:c={callee:=.builtin .copy,args:= #[x,y],argTypes:= #[t,t']}:=by
     have h1:=rD hx;have h2:=abk ht;cases c
     simp_all
    subst uf;split at hc
    ·rename_i e hu;split at hc
     ·rename_i i hi;simp only[I7,gV,fO,bN]at hc;obtain⟨x',lq,y',Fc,rfl⟩:=hc;simp only[cj]at aB⊢;obtain⟨v,w',h1,h2,h3,h4⟩:=FE (t:=t) (t':=t') (ty:=o.type) hO hu hi (be.bd hO.gl gb lq) (be.bd hO.gl gb Fc) aB;exact⟨.value v,v,w',L,by simp[execOp,ho,resolve,invoke,builtin,h1],.inl rfl,h2,h3,h4⟩
     ·cases hc
    ·cases hc
   ·cases hc
  ·rename_i gW;split at hc
   ·rename_i x k t Eo hx ht;have uf:c={callee:=.builtin .delete,args:= #[x,k],argTypes:=c.argTypes}:=by
     have h1:=rD hx;cases c
     simp_all
    have uW:c.argTypes[0]? =some t:=by rw[<-Array.getElem?_toList,ht];rfl
    split at hc
    ·rename_i kt et hu;split at hc
     ·rename_i ki Fb;simp only[I7,gV,fO,bN]at hc;obtain⟨x',lq,k',wn,rfl⟩:=hc;exact AC hO uW (by rw[ho,<-uf]) hu Fb (be.bd hO.gl gb lq) (be.bd hO.gl gb wn) aB
     ·cases hc
    ·cases hc
   ·cases hc
  ·rename_i gW;split at hc
   ·rename_i x y hx;have uf:c={callee:=.builtin .min,args:= #[x,y],argTypes:=c.argTypes}:=by
     have h1:=rD hx;cases c
     simp_all
    simp only[I7,gV,fO,bN]at hc;obtain⟨x',lq,y',Fc,rfl⟩:=hc;exact ru false hO (by rw[ho,uf];rfl) (be.bd hO.gl gb lq) (be.bd hO.gl gb Fc) aB
   ·cases hc
  ·rename_i gW;split at hc
   ·rename_i x y hx;have uf:c={callee:=.builtin .max,args:= #[x,y],argTypes:=c.argTypes}:=by
     have h1:=rD hx;cases c
     simp_all
    simp only[I7,gV,fO,bN]at hc;obtain⟨x',lq,y',Fc,rfl⟩:=hc;exact ru true hO (by rw[ho,uf];rfl) (be.bd hO.gl gb lq) (be.bd hO.gl gb Fc) aB
   ·cases hc
  ·rename_i gW;split at hc
   ·rename_i x y t t' hx ht;have uf:c={callee:=.builtin .append,args:= #[x,y],argTypes:= #[t,t']}:=by
     have h1:=rD hx;have h2:=abk ht;cases c
     simp_all
    subst uf;split at hc
    ·cases hc
    ·rename_i Um;have Um:t=t':=by simpa using Um
     subst Um;split at hc
     ·rename_i e hu;split at hc
      ·rename_i i hi;split at hc
       ·rename_i z hz;split at hc
        ·rename_i fG;simp only[I7,gV,fO,bN]at hc;obtain⟨x',lq,y',Fc,rfl⟩:=hc;simp only[cj]at aB⊢;obtain⟨v,w',L',h1,h2,h3,h4⟩:=As (ty:=o.type) hO hu hi hz fG.1 fG.2 dj (be.bd hO.gl gb lq) (be.bd hO.gl gb Fc) aB;exact⟨.value v,v,w',L',by simp[execOp,ho,resolve,invoke,builtin,h1],.inl rfl,h2,h3,h4⟩
        ·cases hc
       ·cases hc
      ·cases hc
     ·cases hc
   ·cases hc
  ·cases hc
def K5(hO:bJ base W M w0 ab w L){e:Nat}{n:be}(hc:cy P o=some (.mkSlice e sz FI zero n))(gb:∀t,ap w W ab L (ρ t) (a.tmps.getD t Go.undef))(dj:ab name=none)
  (aB:(ef sz FI zero name (n.ev ρ)).ok):bL P base W M w0 ab L w a o (ef sz FI zero name (n.ev ρ)):=by
 unfold cy at hc;cases ho:o.op<;>simp only[ho,reduceCtorEq]at hc
 case makeSlice t l c=>
  split at hc
  ·rename_i e' ht;split at hc
   ·rename_i i hi;split at hc
    ·rename_i z hz;split at hc
     ·rename_i p q;split at hc
      ·rename_i EJ;obtain⟨rfl,fG⟩:=EJ;simp only[I7,gV,fO,bN,mQ.mkSlice.injEq]at hc;obtain⟨aei,ov,rfl,rfl,rfl,rfl,rfl⟩:=hc;obtain⟨v,w',L',h1,h2,h3,h4⟩:=ui hO ht hi hz ov dj (be.bd hO.gl gb (x:=.tmp p) rfl) aB;exact⟨.value v,v,w',L',by simp[execOp,ho,h1],.inl rfl,h2,h3,h4⟩
      ·cases hc
     ·rename_i k p k' q;split at hc
      ·rename_i EJ;obtain⟨rfl,rfl,fG⟩:=EJ;simp only[I7,gV,fO,bN,mQ.mkSlice.injEq]at hc;obtain⟨aei,ov,rfl,rfl,rfl,rfl,rfl⟩:=hc;obtain⟨v,w',L',h1,h2,h3,h4⟩:=ui hO ht hi hz ov dj (be.bd (ρ:=ρ) hO.gl gb (x:=.const (.int k p)) rfl) aB;exact⟨.value v,v,w',L',by simp[execOp,ho,h1],.inl rfl,h2,h3,h4⟩
      ·cases hc
     ·cases hc
    ·cases hc
   ·cases hc
  ·cases hc
 case binOp op t x y yt=>
  exfalso;simp only[gV,fO]at hc;obtain⟨x',hx,y',hy,hc⟩:=hc;unfold jF at hc;repeat' split at hc
  all_goals first|(cases hc;done)|(simp only[fE,reduceCtorEq,Ba,Hz]at hc;done)
 case makeMap t h=>
  exfalso;cases h with
  |some m=>cases hc
  |none=>
   simp only at hc;split at hc
   ·simp only[fE,reduceCtorEq,Ba,Hz]at hc
   ·cases hc
 case slice t x lo hi mx=>
  exfalso;cases mx with
  |some m=>cases hc
  |none=>
   simp only at hc;repeat' split at hc
   all_goals simp only[fE,I7,gV,fO,bN,reduceCtorEq,Ba,Hz]at hc
 case call c=>
  exfalso;unfold dc at hc;repeat' split at hc
  all_goals first
   |(cases hc;done)
   |(simp only[fE,I7,gV,fO,bN,reduceCtorEq,Ba,Hz]at hc;done)
   |skip
 all_goals exfalso
 all_goals first
  |(simp only[fE,reduceCtorEq,Ba,Hz]at hc;done)
  |(simp only[I7,gV,fO,bN,reduceCtorEq,Ba,Hz]at hc;done)
  |(repeat' split at hc)<;>first
    |(simp only[fE,I7,gV,fO,bN,reduceCtorEq,Ba,Hz]at hc;done)
    |(simp[fO]at hc;done)
def abl{e:Nat}{n:be}(hc:cy P o=some (.mkSliceB e sz FI zero n)):False:=by
 unfold cy at hc;cases ho:o.op<;>simp only[ho,reduceCtorEq]at hc
 case makeSlice t l c=>
  repeat' split at hc
  all_goals first
   |(cases hc;done)
   |(simp only[I7,gV,fO,bN,reduceCtorEq,Ba,Hz]at hc;done)
 case binOp op t x y yt=>
  simp only[gV,fO]at hc;obtain⟨x',hx,y',hy,hc⟩:=hc;unfold jF at hc;repeat' split at hc
  all_goals first|(cases hc;done)|(simp only[fE,reduceCtorEq,Ba,Hz]at hc;done)
 case makeMap t h=>
  cases h with
  |some m=>cases hc
  |none=>
   simp only at hc;split at hc
   ·simp only[fE,reduceCtorEq,Ba,Hz]at hc
   ·cases hc
 case slice t x lo hi mx=>
  cases mx with
  |some m=>cases hc
  |none=>
   simp only at hc;repeat' split at hc
   all_goals simp only[fE,I7,gV,fO,bN,reduceCtorEq,Ba,Hz]at hc
 case call c=>
  unfold dc at hc;repeat' split at hc
  all_goals first
   |(cases hc;done)
   |(simp only[fE,I7,gV,fO,bN,reduceCtorEq,Ba,Hz]at hc;done)
 all_goals first
  |(simp only[fE,reduceCtorEq,Ba,Hz]at hc;done)
  |(simp only[I7,gV,fO,bN,reduceCtorEq,Ba,Hz]at hc;done)
  |(repeat' split at hc)<;>first
    |(simp only[fE,I7,gV,fO,bN,reduceCtorEq,Ba,Hz]at hc;done)
    |(simp[fO]at hc;done)
end
end
end Go.DM
