/- Part. Conditions: none. -/
import Derived.Test.YtbmaafemenldnaaGreatDoorYaa
import Derived.Laws.Shifts
import Derived.OrdersIn
import Derived.RangeFuncCalls
set_option linter.all false
namespace Go.DM
open Go.RowKit
section
variable{d1 d2 d:DV}{xv yv:Value}
variable [bD]
def cu(P:Program)(base:Nat)(W M:fm)(w0:World)(ab:bS)(L:Loc)(w:World)(a:Act)(o:Oper)(e:D9):Prop:=
 ∃nx v w' L',(execOp a.eval o).run P w=.ok nx w'/\(nx=.value v\/(nx=.skip/\v=Go.undef))/\
  ci base W M w0 (cC ab e.put) w' L'/\jA W ab L w (cC ab e.put) L' w'/\aD w' W (cC ab e.put) L' e.val v
section
variable{P:Program}{base:Nat}{W M:fm}{w0:World}{ab:bS}{L:Loc}{w:World}{a:Act}{o:Oper}
def cu.l7(hO:ci base W M w0 ab w L){e:D9}(Cd:e.put=none){v:Value}(bO:(execOp a.eval o).run P w=.ok (.value v) w)(hv:aD w W ab L e.val v):cu P base W M w0 ab L w a o e:=
 ⟨.value v,v,w,L,bO,.inl rfl,by rw[Cd];exact hO,by rw[Cd];exact jA.cS (c8.refl _ _),by rw[Cd];exact hv⟩
def cu.int(hO:ci base W M w0 ab w L){e:D9}(Cd:e.put=none){k:IntKind}{n:Int}(dB:e.val=.v (.int k n))(bO:(execOp a.eval o).run P w=.ok (.value (.int k n)) w):cu P base W M w0 ab L w a o e:=
 cu.l7 hO Cd bO (by rw[dB];simp[aD,be])
def cu.bool(hO:ci base W M w0 ab w L){e:D9}(Cd:e.put=none){b:Bool}(dB:e.val=.v (.bool b))(bO:(execOp a.eval o).run P w=.ok (.value (.bool b)) w):cu P base W M w0 ab L w a o e:=
 cu.l7 hO Cd bO (by rw[dB];simp[aD,be])
def af8(hO:ci base W M w0 ab w L){op:BinOp}{t:TypeId}{x y:Operand}{yt:TypeId}(ho:o.op=.binOp op t x y yt)(h1:aD w W ab L d1 (a.eval x))(h2:aD w W ab L d2 (a.eval y))(aN:(tJ op d1 d2).ok):
  cu P base W M w0 ab L w a o (tJ op d1 d2):=by
 have key:∀{k k':IntKind} {p q:Int},d1=.v (.int k p)->d2=.v (.int k' q)->cu P base W M w0 ab L w a o (tJ op d1 d2):=by
  rintro k k' p q rfl rfl;simp only[aD,be]at h1 h2;have Tj:∀(v:Value),(eqGuard op t x y (.int k p) (.int k' q)).run P w=.ok () w->(binOp op t (.int k p) (.int k' q)).run P w=.ok v w->(execOp a.eval o).run P w=.ok (.value v) w:=by
   intro v e1 e2;simp[execOp,ho,h1,h2,e1,e2]
  have hg:(eqGuard op t x y (.int k p) (.int k' q)).run P w=.ok () w:=by cases op<;>simp[eqGuard]
  cases op<;>simp only[tJ,cW]at aN⊢
  all_goals first
   |exact aN.elim
   |(subst aN;first
     |(refine cu.int hO rfl rfl (Tj _ hg ?_);simp[binOp,Op.intArith];done)
     |(refine cu.int hO rfl rfl (Tj _ hg ?_);simp[binOp,Op.intBits];done)
     |(refine cu.bool hO rfl rfl (Tj _ hg ?_);simp[binOp,Op.intCmp];done)
     |(refine cu.bool hO rfl rfl (Tj _ hg ?_);simp[binOp,Op.intCmp];rfl))
   |(refine cu.int hO rfl rfl (Tj _ hg ?_);simp[binOp,shift_shl_any _ _ _ _ aN,shift_shr_any _ _ _ _ aN];done)
   |(obtain⟨rfl,hq⟩:=aN;exact cu.int hO rfl rfl (Tj _ hg (by simp[binOp,Op.intDiv,hq])))
 unfold tJ at aN;split at aN
 .exact key rfl rfl
 .exact aN.elim
def GD{x:Value}{cs:bW}(h:aD w W ab L d x)(hc:ni d=some cs):∃vs:Array Value,x=.agg vs/\aU w W ab L cs vs.toList:=by
 cases d with
 |v t=>
  cases t with
  |agg ts=>
   simp only[ni,cq]at hc;subst hc;simp only[aD,be]at h;obtain⟨vs,rfl,hr⟩:=h;exact⟨vs,rfl,aU.FI hr⟩
  |_=>simp[ni]at hc
 |agg ds=>
  simp only[ni,cq]at hc;subst hc;simp only[aD]at h;exact h
 |_=>simp[ni]at hc
def I2{s:TypeId}{f:Nat}{fs:Array Field}{fd:Field}{i:TypeInfo}{desc:TypeDesc}(hs:P.underlying s=some (.struct fs))(hf:fs[f]? =some fd)(hi:P.info? fd.type=some i)(hd:P.underlying fd.type=some desc)
   (h:aD w W ab L d xv) (aN:(oN fd.offset i.size (bU desc) d).ok):
  (oN fd.offset i.size (bU desc) d).put=none/\∃v,(Instr.field s xv f).run P w=.ok v w/\aD w W ab L (oN fd.offset i.size (bU desc) d).val v:=by
 unfold oN at aN⊢;cases hc:ni d with
 |none=>simp[hc,cW]at aN
 |some cs=>
  simp only[hc]at aN⊢;obtain⟨vs,rfl,hr⟩:=GD h hc;have hl:=aU.length hr;have hp:=yw (P:=P) w hd hi (xs:=vs.toList) (off:=fd.offset) aN.2 (by omega);simp only[ZcN]at hp;refine⟨trivial,_,by simp[Instr.field,run_underlying hs,hf,asAgg,hp];rfl, ?_⟩;by_cases ha:bU desc=true
  .simp only[ha,Eg,yA,aD];exact⟨_,rfl,by simpa using aU.take i.size (aU.drop fd.offset hr)⟩
  .have h1:i.size=1:=aN.2.resolve_left ha;have cQ:fd.offset<cs.length:=by omega
   obtain⟨v,sG,_,nl⟩:=aU.get hr (i:=fd.offset) (d:=cs[fd.offset]) (by simp[cQ]);have e1:(List.take i.size (List.drop fd.offset vs.toList)).getD 0 Go.undef=v:=by
    rw[h1];simp only[List.getD,L7,ZbY,Zb2,sG];simp
   have e2:cs.getD fd.offset .undef=cs[fd.offset]:=by simp[List.getD,cQ]
   simp only[ha,yA,e1,e2];exact nl
def GF{k:Nat}(h:aD w W ab L d xv)(aN:(pi k d).ok):
  (pi k d).put=none/\∃b o,xv=.pointer (some ⟨b,o,none⟩)/\aD w W ab L (pi k d).val (.pointer (some ⟨b,o+k,none⟩)):=by
 cases d with
 |ptr r off=>
  simp only[aD]at h;obtain⟨hc,rfl⟩:=h;exact⟨rfl,_,_,rfl,by simp only[pi,aD];exact⟨hc,trivial⟩⟩
 |mw aC i off=>
  simp only[aD]at h;obtain⟨b,o,sz,rfl,rest⟩:=h;exact⟨rfl,_,_,rfl,by simp only[pi,aD];exact⟨b,o,sz,by rw[pn],rest⟩⟩
 |j9 cs off=>
  simp only[aD]at h;obtain⟨b,o,rfl,rest⟩:=h;exact⟨rfl,_,_,rfl,by simp only[pi,aD];exact⟨b,o,by rw[pn],rest⟩⟩
 |kr r bG i off=>
  simp only[aD]at h;obtain⟨⟨b,o,rfl⟩,bM,e,sz,aC,ho,io,hx⟩:=h;refine⟨rfl,_,_,rfl, ?_⟩;simp only[pi,aD];refine⟨⟨_,_,rfl⟩,bM,e,sz,aC,ho,io,λhv=>?_⟩;obtain⟨g,hg,hp,h0,h1⟩:=hx hv;simp only[Value.pointer.injEq,cq,Addr.mk.injEq,ZI]at hp;exact⟨g,hg,by rw[hp.1,hp.2,pn],h0,h1⟩
 |v t=>
  cases t with
  |box cs=>
   simp only[aD,be]at h;obtain⟨b,o,rfl,rest⟩:=h;exact⟨rfl,_,_,rfl,by simp only[pi,aD];exact⟨b,o,rfl,rest⟩⟩
  |_=>exact aN.elim
 |_=>exact aN.elim
def Ce(h:aD w W ab L d xv)(aN:(li d).ok):
  (li d).put=none/\(li d).val=d/\((∃p,xv=.pointer (some p))\/∃f cz,xv=.func (.func f) #[] cz):=by
 cases d with
 |ptr r off=>simp only[aD]at h;obtain⟨_,rfl⟩:=h;exact⟨rfl,rfl,.inl ⟨_,rfl⟩⟩
 |mw aC i off=>simp only[aD]at h;obtain⟨b,o,sz,rfl,_⟩:=h;exact⟨rfl,rfl,.inl ⟨_,rfl⟩⟩
 |j9 cs off=>simp only[aD]at h;obtain⟨b,o,rfl,_⟩:=h;exact⟨rfl,rfl,.inl ⟨_,rfl⟩⟩
 |kr r bG i off=>simp only[aD]at h;obtain⟨⟨b,o,rfl⟩,_⟩:=h;exact⟨rfl,rfl,.inl ⟨_,rfl⟩⟩
 |v t=>
  cases t with
  |box cs=>simp only[aD,be]at h;obtain⟨b,o,rfl,_⟩:=h;exact⟨rfl,rfl,.inl ⟨_,rfl⟩⟩
  |fn f cz=>
   cases f with
   |func f=>simp only[aD,be]at h;obtain⟨vs,rfl,_⟩:=h;exact⟨rfl,rfl,.inr ⟨_,_,rfl⟩⟩
   |_=>exact aN.elim
  |_=>exact aN.elim
 |_=>exact aN.elim
def Ru{t e:TypeId}{i:TypeInfo}(hO:ci base W M w0 ab w L)(ht:P.underlying t=some (.slice e))(hi:P.info? e=some i)(h:aD w W ab L d xv)(h2:aD w W ab L d2 yv)(aN:(rj i.size ab d d2).ok):
  (rj i.size ab d d2).put=none/\∃v,(Instr.indexAt t xv yv).run P w=.ok v w/\aD w W ab L (rj i.size ab d d2).val v:=by
 have bO:∀(b o n c:Nat) (k:IntKind) (j:Int),0<=j->j<n->(Instr.indexAt t (.slice (some ⟨b,o,none⟩) n c) (.int k j)).run P w=.ok (.pointer (some ⟨b,o+j.toNat*i.size,none⟩)) w:=by
  intro b o n c k j h0 h1;simp[Instr.indexAt,asIntOf,run_underlying ht,h0,h1,run_sizeOf hi,mY]
 unfold rj at aN⊢;split at aN
 .rename_i aC k j;simp only at aN⊢;obtain⟨h0,h1,jc⟩:=aN;simp only[aD,be]at h h2;subst h2;rcases h with⟨rfl,_⟩|⟨b,o,cap,sz,rfl,hb,hn,hc,hr⟩
  .simp at h1;omega
  .have gf:=(bw.row hr (yK h0 h1)).1;have atM:sz=i.size:=by omega
   subst atM;refine⟨trivial,_,bO b o _ _ k j h0 h1, ?_⟩;simp only[aD];exact⟨b,o,_,by rw[Zb2],hb,hn,hr,h0,h1⟩
 .rename_i r bG k j;cases hc:ab r with
  |none=>simp[hc,cW]at aN
  |some ob=>
   cases ob with
   |box cs=>simp[hc,cW]at aN
   |map _ _ _ _=>simp[hc,cW]at aN
   |eo _ _ _ _=>simp[hc,cW]at aN
   |bm bM e' jt aC=>
    simp only[hc]at aN⊢;obtain⟨rfl,rfl,h0,h1⟩:=aN;simp only[aD,be]at h h2;subst h2;obtain⟨_,pW,e2,EZ,lZ,po,_,hv⟩:=h;rw[hc]at po;cases po;have hv:=hv rfl;subst hv;have eH:=hO.ob r _ hc;obtain⟨jc,cK,hm,mE⟩:=eH;rcases mE with⟨rfl,_⟩|⟨g',cap,eJ,sG,hp,hh,io,tN,Gx,ip⟩
    .simp at h1;omega
    .refine⟨trivial,_,by rw[sG];exact bO g' 0 _ _ k j h0 h1, ?_⟩;simp only[aD];exact⟨⟨_,_,rfl⟩,bG,e',_,aC,hc,gJ _,λ_=>⟨g',by simp[sG,bk,Et.1 hp],by simp,h0,h1⟩⟩
 .rename_i r bG lo n k j;cases hc:ab r with
  |none=>simp[hc,cW]at aN
  |some ob=>
   cases ob with
   |box cs=>simp[hc,cW]at aN
   |map _ _ _ _=>simp[hc,cW]at aN
   |eo _ _ _ _=>simp[hc,cW]at aN
   |bm bM e' jt aC=>
    simp only[hc]at aN⊢;obtain⟨rfl,rfl,h0,h1⟩:=aN;simp only[aD,be]at h h2;subst h2;obtain⟨_,pW,e2,EZ,lZ,po,_,hv⟩:=h;rw[hc]at po;cases po;have hv:=hv rfl;rcases tO hO hc hv with⟨rfl,_⟩|⟨g,c,wg,rfl,Rv,_⟩
    .simp at h1;omega
    .refine⟨trivial,_,bO g _ _ _ k j h0 h1, ?_⟩;have hl:=hv.1;have e1:((lo:Int)+j).toNat=lo+j.toNat:=by omega
     simp only[aD];exact⟨⟨_,_,rfl⟩,bG,e',_,aC,hc,gJ _,λ_=>⟨g,wg,by rw[e1,Fb];simp,by omega,by omega⟩⟩
 .rename_i r n k j;simp only[aD,be]at h h2;subst h2;obtain⟨hc,rfl⟩:=h;obtain⟨h0,h1⟩:=aN;refine⟨rfl,_,bO _ _ _ _ k j h0 h1, ?_⟩;simp only[aD];exact⟨hc,by simp⟩
 .exact aN.elim
def Ev{t e:TypeId}{i:TypeInfo}{n:Nat}(ht:P.underlying t=some (.array n e))(hi:P.info? e=some i)(h:aD w W ab L d xv)(h2:aD w W ab L d2 yv)(aN:(kY n i.size d d2).ok):
  (kY n i.size d d2).put=none/\∃v,(Instr.indexAt t xv yv).run P w=.ok v w/\aD w W ab L (kY n i.size d d2).val v:=by
 have bO:∀(b o:Nat) (k:IntKind) (j:Int),0<=j->j<n->(Instr.indexAt t (.pointer (some ⟨b,o,none⟩)) (.int k j)).run P w=.ok (.pointer (some ⟨b,o+j.toNat*i.size,none⟩)) w:=by
  intro b o k j h0 h1;by_cases hn:n<=1<;>simp[Instr.indexAt,asIntOf,run_underlying ht,h0,h1,run_sizeOf hi,mY,Instr.sureAddr]
 unfold kY at aN⊢;split at aN
 .rename_i r off k j;simp only[aD,be]at h h2;obtain⟨hc,rfl⟩:=h;subst h2;exact⟨rfl,_,bO _ _ k j aN.1 aN.2,by simp only[aD];exact⟨hc,trivial⟩⟩
 .rename_i aC q off k j;simp only[aD,be]at h h2;obtain⟨b,o,sz,rfl,rest⟩:=h;subst h2;exact⟨rfl,_,bO _ _ k j aN.1 aN.2,by simp only[aD];exact⟨b,o,sz,by rw[pn],rest⟩⟩
 .rename_i cs off k j;simp only[aD,be]at h h2;obtain⟨b,o,rfl,rest⟩:=h;subst h2;exact⟨rfl,_,bO _ _ k j aN.1 aN.2,by simp only[aD];exact⟨b,o,by rw[pn],rest⟩⟩
 .rename_i cs k j;simp only[aD,be]at h h2;obtain⟨b,o,rfl,rest⟩:=h;subst h2;exact⟨rfl,_,bO _ _ k j aN.1 aN.2,by simp only[aD];exact⟨b,o,rfl,rest⟩⟩
 .rename_i r bG q off k j;simp only[aD,be]at h h2;obtain⟨⟨b,o,rfl⟩,bM,e,sz,aC,ho,io,hx⟩:=h;subst h2;refine⟨rfl,_,bO _ _ k j aN.1 aN.2, ?_⟩;simp only[aD];refine⟨⟨_,_,rfl⟩,bM,e,sz,aC,ho,io,λhv=>?_⟩;obtain⟨g,hg,hp,h0,h1⟩:=hx hv;simp only[Value.pointer.injEq,cq,Addr.mk.injEq,ZI]at hp;exact⟨g,hg,by rw[hp.1,hp.2,pn],h0,h1⟩
 .exact aN.elim
def Rw{x:Operand}{t e:TypeId}(hO:ci base W M w0 ab w L)(ho:o.op=.call {callee:=.builtin .len,args:= #[x],argTypes:= #[t]})(ht:P.underlying t=some (.slice e))(h:aD w W ab L d (a.eval x))(aN:(v8 ab d).ok):
  cu P base W M w0 ab L w a o (v8 ab d):=by
 have xw:∀(p:Option Addr) (n c:Nat),a.eval x=.slice p n c->(execOp a.eval o).run P w=.ok (.value (.int .i64 n)) w:=by
  rintro p n c hx;simp[execOp,ho,resolve,invoke,builtin,hx,Builtin.len_,run_underlying ht,goInt]
 cases d with
 |v t'=>
  cases t' with
  |sl aC=>
   simp only[aD,be]at h;rcases h with⟨rfl,p,c,hx⟩|⟨b,oo,cap,sz,hx,_⟩
   .exact cu.int hO rfl rfl (xw _ _ _ hx)
   .exact cu.int hO rfl rfl (xw _ _ _ hx)
  |_=>exact aN.elim
 |aZ=>
  simp only[aD]at h;obtain⟨p,hx⟩:=h;exact cu.int hO rfl rfl (xw _ _ _ hx)
 |aW r bG=>
  simp only[aD]at h;obtain⟨_,bM,e',sz,aC,hc,_,hv⟩:=h;simp only[v8,hc]at aN⊢;have hv:=hv aN;have eH:=hO.ob r _ hc;obtain⟨jc,cK,hm,mE⟩:=eH;rcases mE with⟨rfl,p,hp⟩|⟨g',cap,eJ,sG,hp,hh,io,tN,Gx,ip⟩
  .exact cu.int hO rfl rfl (xw _ _ _ (hv.trans hp))
  .exact cu.int hO rfl rfl (xw _ _ _ (hv.trans sG))
 |v7 r bG lo n=>
  simp only[aD]at h;obtain⟨⟨p,c,hx⟩,_⟩:=h;exact cu.int hO rfl rfl (xw _ _ _ hx)
 |AH r n=>
  simp only[aD]at h;obtain⟨_,hx⟩:=h;exact cu.int hO rfl rfl (xw _ _ _ hx)
 |_=>exact aN.elim
def Ma{x:Operand}{t:TypeId}(hO:ci base W M w0 ab w L)(ho:o.op=.call {callee:=.builtin .len,args:= #[x],argTypes:= #[t]})(ht:P.underlying t=some .string)(h:aD w W ab L d (a.eval x))(aN:(uH d).ok):
  cu P base W M w0 ab L w a o (uH d):=by
 unfold uH at aN⊢;split at aN
 .simp only[aD,be]at h;refine cu.int hO rfl rfl ?_;simp[execOp,ho,resolve,invoke,builtin,h,Builtin.len_,run_underlying ht,goInt]
 .exact aN.elim
def xC{x y:Operand}{ts:Array TypeId}(m:Bool)(hO:ci base W M w0 ab w L)(ho:o.op=.call {callee:=.builtin (if m then .max else .min),args:= #[x,y],argTypes:=ts})(h1:aD w W ab L d1 (a.eval x))(h2:aD w W ab L d2 (a.eval y))(aN:(oC m d1 d2).ok):
  cu P base W M w0 ab L w a o (oC m d1 d2):=by
 unfold oC at aN⊢;split at aN
 .rename_i k p k' q;simp only[aD,be]at h1 h2;have afB:k=k':=aN;subst afB;cases m
  .have e:(if q<p then q else p)=min p q:=by omega
   refine cu.int hO rfl rfl ?_;simp[execOp,ho,resolve,invoke,builtin,h1,h2,run_min_int2,e]
  .have e:(if q>p then q else p)=max p q:=by omega
   refine cu.int hO rfl rfl ?_;simp only[gt_iff_lt]at e;simp[execOp,ho,resolve,invoke,builtin,h1,h2,run_max_int2,e]
 .exact aN.elim
def E7{x:Value}{n:Int}(h:aD w W ab L d x)(hi:B1 d=some n):∃k,x=.int k n:=by
 unfold B1 at hi;split at hi
 .simp only[cq]at hi;subst hi;simp only[aD,be]at h;exact⟨_,h⟩
 .cases hi
def I3(hO:ci base W M w0 ab w L){t e:TypeId}{i:TypeInfo}(ht:P.underlying t=some (.slice e))(hi:P.info? e=some i)(h:aD w W ab L d xv){lo wY:Option DV}{lv hv:Option Value}
  (hlo:(lo=none/\lv=none)\/∃dl vl,lo=some dl/\lv=some vl/\aD w W ab L dl vl) (hhi:(wY=none/\hv=none)\/∃dl vl,wY=some dl/\hv=some vl/\aD w W ab L dl vl)
  (aN:(jM i.size lo wY ab d).ok):
  (jM i.size lo wY ab d).put=none/\∃v,(Instr.sliceAt t xv lv hv none).run P w=.ok v w/\aD w W ab L (jM i.size lo wY ab d).val v:=by
 have bO:∀(p:Option Addr) (n c:Nat) (l hh:Int),0<=l->l<=hh->hh<=n->n<=c->(lv=none/\l=0\/∃k,lv=some (.int k l))->(hv=none/\hh=n\/∃k,hv=some (.int k hh))->
   (Instr.sliceAt t (.slice p n c) lv hv none).run P w=.ok (.slice (if c=l.toNat then p else p.map (·.add (l.toNat*i.size))) (hh.toNat-l.toNat) (c-l.toNat)) w:=by
  intro p n c l hh h0 h1 h2 h3 hl hh';have b2:hh<=c:=by omega
  have b3:0<=hh:=by omega
  have b4:l<=(hh.toNat:Int):=by omega
  have b5:((hh.toNat:Nat):Int)=hh:=by omega
  rcases hl with⟨rfl,rfl⟩|⟨k,rfl⟩<;>rcases hh' with⟨rfl,rfl⟩|⟨k',rfl⟩
  .simp[Instr.sliceAt,Instr.slice,run_underlying ht,Instr.sliceBounds,run_sizeOf hi]
  .simp[Instr.sliceAt,Instr.slice,run_underlying ht,Instr.sliceBounds,run_sizeOf hi,Instr.sliceBound,asIntOf,b2,b3]
  .have b6:l<=(n:Int):=h1;simp[Instr.sliceAt,Instr.slice,run_underlying ht,Instr.sliceBounds,run_sizeOf hi,Instr.sliceBound,asIntOf,b6,h0]
  .simp[Instr.sliceAt,Instr.slice,run_underlying ht,Instr.sliceBounds,run_sizeOf hi,Instr.sliceBound,asIntOf,b2,b3,h0,b5,h1]
 have Ux:∀{l:Int},QS lo=some l->(lv=none/\l=0\/∃k,lv=some (.int k l)):=by
  intro l hl;rcases hlo with⟨rfl,rfl⟩|⟨dl,vl,rfl,rfl,hr⟩
  .simp only[QS,cq]at hl;exact .inl ⟨rfl,hl.symm⟩
  .obtain⟨k,rfl⟩:=E7 hr hl;exact .inr ⟨k,rfl⟩
 have dB:∀{n:Int} {l:Int},B3 n wY=some l->(hv=none/\l=n\/∃k,hv=some (.int k l)):=by
  intro n l hl;rcases hhi with⟨rfl,rfl⟩|⟨dl,vl,rfl,rfl,hr⟩
  .simp only[B3,cq]at hl;exact .inl ⟨rfl,hl.symm⟩
  .obtain⟨k,rfl⟩:=E7 hr hl;exact .inr ⟨k,rfl⟩
 cases d with
 |v t'=>
  cases t' with
  |sl aC=>
   simp only[jM]at aN⊢;cases el:QS lo with
   |none=>simp[el,cW]at aN
   |some l=>
    cases eh:B3 aC.length wY with
    |none=>simp[el,eh,cW]at aN
    |some hh=>
     simp only[el,eh]at aN⊢;obtain⟨h0,h1,h2,jc⟩:=aN;refine⟨trivial, ?_⟩;simp only[aD,be]at h;have ct:((aC.take hh.toNat).drop l.toNat).length=hh.toNat-l.toNat:=by simp;omega
     rcases h with⟨rfl,p,c,rfl⟩|⟨b,oo,cap,sz,rfl,hb,hn,hc,hr⟩
     .have z1:hh=0:=by simp at h2;omega
      have z2:l=0:=by omega
      subst z1 z2;refine⟨_,bO p 0 c 0 0 h0 h1 (by omega) (by omega) (Ux el) (dB eh), ?_⟩;simp only[aD,be];exact .inl ⟨by simp,_,_,rfl⟩
     .refine⟨_,bO _ _ cap l hh h0 h1 h2 hc (Ux el) (dB eh), ?_⟩;simp only[aD,be];by_cases tg:cap=l.toNat
      .refine .inl ⟨?_,_,_,by rw[show hh.toNat-l.toNat=0 by omega]⟩;apply oK;omega
      .refine .inr ⟨b,oo+l.toNat*i.size,cap-l.toNat,i.size, ?_,hb,hn,by omega, ?_⟩
       .rw[ct,iK tg];simp[mY]
       .refine bw.A9 _ _ λj r hj=>?_;rw[ZbY,L7]at hj;split at hj
        .have gf:=bw.row hr hj;have qU:=jc r (Hf hj);have:sz=i.size:=by omega
         subst this;refine⟨qU, ?_⟩;have e2:oo+l.toNat*i.size+j*i.size=oo+(l.toNat+j)*i.size:=by rw[Fb];omega
         rw[e2];exact gf.2
        .cases hj
  |_=>exact aN.elim
 |aZ=>
  simp only[jM]at aN⊢;cases el:QS lo with
  |none=>simp[el,cW]at aN
  |some l=>
   cases eh:B3 0 wY with
   |none=>simp[el,eh,cW]at aN
   |some hh=>
    simp only[el,eh]at aN⊢;obtain⟨rfl,rfl⟩:=aN;refine⟨trivial, ?_⟩;simp only[aD]at h;obtain⟨p,rfl⟩:=h;refine⟨_,bO p 0 0 0 0 (Tg _) (Tg _) (by omega) (gJ _) (Ux el) (dB eh), ?_⟩;simp[aD]
 |aW r bG=>
  simp only[jM]at aN⊢;cases hc:ab r with
  |none=>simp[hc,cW]at aN
  |some ob=>
   cases ob with
   |bm bM e' jt aC=>
    simp only[hc]at aN⊢;cases el:QS lo with
    |none=>simp[el,cW]at aN
    |some l=>
     cases eh:B3 aC.length wY with
     |none=>simp[el,eh,cW]at aN
     |some hh=>
      simp only[el,eh]at aN⊢;obtain⟨rfl,rfl,h0,h1,h2⟩:=aN;refine⟨trivial, ?_⟩;simp only[aD]at h;obtain⟨_,pW,e2,EZ,lZ,po,_,nk⟩:=h;rw[hc]at po;cases po;have nk:=nk rfl;subst nk;obtain⟨_,_,_,mE⟩:=hO.ob r _ hc;have xw:∃p cap,L.sl r=.slice p aC.length cap/\aC.length<=cap:=by
       rcases mE with⟨rfl,a,ha⟩|⟨g,cap,eJ,k1,k2,k3,k4,_⟩
       .exact⟨a,0,ha,gJ _⟩
       .exact⟨_,cap,k1,k4⟩
      obtain⟨p,cap,xw,tN⟩:=xw;refine⟨_,by rw[xw];exact bO p aC.length cap l hh h0 h1 h2 tN (Ux el) (dB eh), ?_⟩;simp only[aD];exact⟨⟨_,_,rfl⟩,bG,e',_,aC,hc,gJ _,λ_=>⟨by omega,p,cap,_,xw,rfl,λcQ=>by rw[iK (by omega)]⟩⟩
   |_=>simp[hc,cW]at aN
 |v7 r bG lo0 n=>
  simp only[jM]at aN⊢;cases hc:ab r with
  |none=>simp[hc,cW]at aN
  |some ob=>
   cases ob with
   |bm bM e' jt aC=>
    simp only[hc]at aN⊢;cases el:QS lo with
    |none=>simp[el,cW]at aN
    |some l=>
     cases eh:B3 n wY with
     |none=>simp[el,eh,cW]at aN
     |some hh=>
      simp only[el,eh]at aN⊢;obtain⟨rfl,rfl,h0,h1,h2⟩:=aN;refine⟨trivial, ?_⟩;simp only[aD]at h;obtain⟨_,pW,e2,EZ,lZ,po,_,nk⟩:=h;rw[hc]at po;cases po;obtain⟨hln,p,cap,p2,xw,rfl,Un⟩:=nk rfl;obtain⟨_,_,_,mE⟩:=hO.ob r _ hc;have tN:aC.length<=cap/\∀q,p=some q->0<cap->∃g,q=⟨g,0,none⟩:=by
       rcases mE with⟨rfl,a,ha⟩|⟨g,atH,eJ,k1,k2,k3,k4,_⟩
       .exact⟨by simp,λq hq Er=>by rw[xw]at ha;cases ha;omega⟩
       .rw[xw]at k1;cases k1;exact⟨k4,λq hq _=>⟨g,by simpa using hq.symm⟩⟩
      refine⟨_,bO p2 n (cap-lo0) l hh h0 h1 h2 (by omega) (Ux el) (dB eh), ?_⟩;simp only[aD];refine⟨⟨_,_,rfl⟩,bG,e',_,aC,hc,gJ _,λ_=>⟨by omega,p,cap,_,xw,by rw[Nat.sub_sub],λcQ=>?_⟩⟩;rw[iK (by omega),Un (by omega)];cases p with
      |none=>rfl
      |some q=>
       obtain⟨g,rfl⟩:=tN.2 q rfl (by omega);simp[mY,Fb]
   |_=>simp[hc,cW]at aN
 |_=>exact aN.elim
end
end
section
variable{W':fm}{bZ:List Sh}{agg:Bool}{es:List (Nat×T×DV)}
variable [bD]
section
variable{P:Program}{base:Nat}{W M:fm}{w0:World}{ab:bS}{L:Loc}{w:World}{a:Act}{o:Oper}
def jo{W':fm}:∀{bZ:List Sh} {ts:aG} {vs:List Value},d8 bZ ts->dt w W' ts vs->f9 bZ vs
 |[],ts,vs,h,hr=>by
  simp only[d8]at h;subst h;simpa [dt,f9]using hr
 |s::ss,[],vs,h,_=>by simp[d8]at h
 |s::ss,t::ts,vs,h,hr=>by
  simp only[d8]at h;simp only[dt]at hr;obtain⟨v,jz,rfl,_,h2,hr⟩:=hr;simp only[f9];refine⟨v,jz,rfl, ?_,jo h.2 hr⟩;have h1:=h.1;cases s<;>cases t<;>first|exact qe h1 A1|skip
  all_goals (simp only[be]at h2;subst h2;first|rfl|exact h1)
def I5{s:Sh}{t u:T}{x y:Value}(ht:AJ s t=true)(hu:AJ s u=true)(hx:be w W' t x)(hy:be w W' u y):gQ t u=veq x y:=by
 cases s<;>cases t<;>(first|exact qe ht A1|skip)<;>cases u<;>(first|exact qe hu A1|skip)
 all_goals (simp only[be]at hx hy;subst hx hy;simp only[gQ,veq])
 .rfl
 .rename_i s1 s2;by_cases h:s1=s2
  .subst h;simp
  .have dd:s1.toList≠s2.toList:=λe=>h (by
    rw[ByteArray.toList_eq,ByteArray.toList_eq]at e;obtain⟨d1⟩:=s1;obtain⟨d2⟩:=s2;exact congrArg ByteArray.mk (Array.ext' e))
   simp[h,dd]
def yO{W':fm}:∀{bZ:List Sh} {ts us:aG} {xs ys:List Value},d8 bZ ts->d8 bZ us->dt w W' ts xs->dt w W' us ys->F2 ts us=mP xs ys
 |[],ts,us,xs,ys,h1,h2,hx,hy=>by
  simp only[d8]at h1 h2;subst h1 h2;simp only[dt]at hx hy;subst hx hy;rfl
 |s::ss,[],_,_,_,h,_,_,_=>by simp[d8]at h
 |s::ss,_::_,[],_,_,_,h,_,_=>by simp[d8]at h
 |s::ss,t::ts,u::us,xs,ys,h1,h2,hx,hy=>by
  simp only[d8]at h1 h2;simp only[dt]at hx hy;obtain⟨x,nj,rfl,_,GC,hx⟩:=hx;obtain⟨y,ys',rfl,_,vy,hy⟩:=hy;simp only[F2,mP];rw[I5 h1.1 h2.1 GC vy,yO h1.2 h2.2 hx hy]
def oE{t:T}(h:d8 bZ [t]):∃s,bZ=[s]/\AJ s t=true:=by
 cases bZ with
 |nil=>simp[d8]at h
 |cons s ss=>
  simp only[d8]at h;cases ss with
  |nil=>exact⟨s,rfl,h.1⟩
  |cons s2 ss=>simp[d8]at h
def xX{em:Bool}{d:Nat}(ih:∀(t:TypeId) (bZ:List Sh) (desc:TypeDesc),lH P d t=some bZ->P.underlying t=some desc->∀(xs:List Value) (w:World),f9 bZ xs->(Instr.checkKey em d t (yA desc xs)).run P w=.ok () w)
  (I1:∀(t:TypeId) (bZ:List Sh),lH P d t=some bZ->∃desc,P.underlying t=some desc/\(bU desc=true\/bZ.length=1)) (xs:List Value):
  ∀(fs:List Field) (off:Nat) (bZ:List Sh) (w:World),iX P (lH P d) off fs=some bZ->f9 bZ (xs.drop off)->off<=xs.length->
   (forIn fs PUnit.unit (λf (_:PUnit)=>
      if f.name≠ "_" then do
       let x<-part f.type xs.toArray f.offset
       Instr.checkKey em d f.type x
       pure (ForInStep.yield PUnit.unit)
      else pure (ForInStep.yield PUnit.unit)):Sem PUnit).run P w=.ok PUnit.unit w
 |[],off,bZ,w,h,hx,_=>by simp
 |f::fs,off,bZ,w,h,hx,hox=>by
  simp only[iX]at h;split at h
  .rename_i s i hs hi;split at h
   .rename_i hc;obtain⟨hn,rfl,jc⟩:=hc;simp only[ju]at h;obtain⟨rest,vK,rfl⟩:=h;obtain⟨desc,hd,h1⟩:=I1 _ _ hs;have wX:=f9.length hx;simp only[nH,OJ]at wX;obtain⟨GC,xA⟩:=f9.split hx;rw[ZcI]at xA;rw[jc]at h1;have p1:=λw=>yw (P:=P) w hd hi (xs:=xs) (off:=f.offset) h1 (by omega);have hr:=ih _ _ _ hs hd _ w GC;rw[jc]at hr;simp only[Zde,hn,ne_eq,not_false_eq_true,Eg,Sem.run_bind,p1,Result.andThen_ok,hr,Sem.run_pure];exact xX ih I1 xs fs _ rest w vK xA (by omega)
   .cases h
  .cases h
def y5{em:Bool}{d:Nat}{e:TypeId}{de:TypeDesc}{s:List Sh}{i:TypeInfo}(hd:P.underlying e=some de)(hi:P.info? e=some i)(h1:bU de=true\/i.size=1)(hs:s.length=i.size)
  (ih:∀(xs:List Value) (w:World),f9 s xs->(Instr.checkKey em d e (yA de xs)).run P w=.ok () w) (xs:List Value):
  ∀(n k:Nat) (w:World),f9 ((List.replicate n s).flatten) (xs.drop (k*i.size))->
   (forIn (List.range' k n) PUnit.unit (λj (_:PUnit)=>do
      let sz<-sizeOf e
      let x<-part e xs.toArray (j*sz)
      Instr.checkKey em d e x
      pure (ForInStep.yield PUnit.unit)):Sem PUnit).run P w=.ok PUnit.unit w
 |0,k,w,hx=>by simp
 |n+1,k,w,hx=>by
  simp only[Q5,Th]at hx;have wX:=f9.length hx;simp only[nH,OJ]at wX;obtain⟨GC,xA⟩:=f9.split hx;have e2:k*i.size+s.length=(k+1)*i.size:=by rw[Fb,hs];omega
  rw[ZcI,e2]at xA;by_cases hz:i.size=0
  .have jc:∀(w:World),k*i.size+i.size<=xs.length\/xs.length<k*i.size:=λ_=>by omega
   have OR:=h1.elim id (λh=>by omega);have p1:=λw=>yw (P:=P) w hd hi (xs:=xs) (off:=k*i.size) h1 (by rw[hz];simp);rw[hs]at GC;have hr:=ih _ w GC;simp only[Zdz,Zde,Sem.run_bind,run_sizeOf hi,p1,Result.andThen_ok,hr,Sem.run_pure];exact y5 hd hi h1 hs ih xs n (k+1) w xA
  .have p1:=λw=>yw (P:=P) w hd hi (xs:=xs) (off:=k*i.size) h1 (by omega);rw[hs]at GC;have hr:=ih _ w GC;simp only[Zdz,Zde,Sem.run_bind,run_sizeOf hi,p1,Result.andThen_ok,hr,Sem.run_pure];exact y5 hd hi h1 hs ih xs n (k+1) w xA
def y6(em:Bool):∀(d:Nat) (t:TypeId) (bZ:List Sh) (desc:TypeDesc),lH P d t=some bZ->P.underlying t=some desc->∀(xs:List Value) (w:World),f9 bZ xs->(Instr.checkKey em d t (yA desc xs)).run P w=.ok () w
 |0,t,bZ,desc,h,_,_,_,_=>by simp[lH]at h
 |d+1,t,bZ,desc,h,hu,xs,w,hx=>by
  simp only[lH,hu]at h;cases desc;case bool=>simp[yA,bU,Instr.checkKey,run_underlying hu]
  case int k=>simp[yA,bU,Instr.checkKey,run_underlying hu]
  case string=>simp[yA,bU,Instr.checkKey,run_underlying hu]
  case struct fs=>
   replace h:(if P.stoodInHeld t then none else iX P (lH P d) 0 fs.toList)=some bZ:=h
   split at h
   .cases h
   .have:=xX (em:=em) (λt bZ desc=>y6 em d t bZ desc) (λt bZ hs=>by
     cases d with
     |zero=>simp[lH]at hs
     |succ d=>exact Be hs) xs fs.toList 0 bZ w h (by simpa using hx) (by omega)
    simp only[yA,bU,Eg];rw[Instr.checkKey];simp only[Sem.run_bind,run_underlying hu,Result.andThen_ok];rw[<-Array.forIn_toList];refine(congrArg (λr=>Result.andThen r _) this).trans ?_;rfl
  case array n e=>
   replace h:(match lH P d e,P.info? e with
    |some s,some i=>if s.length=i.size/\0<i.size then some ((List.replicate n s).flatten)else none
    |_,_=>none)=some bZ:=h
   split at h
   .rename_i s i hs hi;split at h
    .rename_i hc;simp only[cq]at h;subst h;have hde:∃desc,P.underlying e=some desc/\(bU desc=true\/s.length=1):=by
      cases d with
      |zero=>simp[lH]at hs
      |succ d=>exact Be hs
     obtain⟨de,hd,h1⟩:=hde;rw[hc.1]at h1;have:=y5 hd hi h1 hc.1 (λxs w=>y6 em d e s de hs hd xs w) xs n 0 w (by simpa using hx);simp only[yA,bU,Eg];rw[Instr.checkKey];simp only[Sem.run_bind,run_underlying hu,Result.andThen_ok,Std.Legacy.Range.forIn_eq_forIn_range',Std.Legacy.Range.size,ZcG,ZcZ,Nat.div_one];refine(congrArg (λr=>Result.andThen r _) this).trans ?_;rfl
    .cases h
   .cases h
  all_goals exact qe h (by simp)
def bl:T->aG
 |.agg as=>as
 |t=>[t]
def k9{t:T}(h:d9 bZ agg t):d8 bZ (bl t):=by
 cases t<;>simp only[d9]at h<;>exact h.2
def y7{desc:TypeDesc}{t:T}{x:Value}(h:d9 bZ (bU desc) t)(hr:be w W' t x):∃vs,x=yA desc vs/\dt w W' (bl t) vs:=by
 cases t with
 |agg as=>
  simp only[d9]at h;simp only[be]at hr;obtain⟨vs,rfl,hr⟩:=hr;exact⟨vs.toList,by simp[yA,h.1],hr⟩
 |_=>
  simp only[d9]at h;refine⟨[x],by simp[yA,h.1], ?_⟩;simp only[bl,dt];obtain⟨s,rfl,hs⟩:=oE h.2;refine⟨x,[],rfl, ?_,hr,rfl⟩;cases s<;>first|exact qe hs A1|(simp only[be]at hr;subst hr;rfl)
def CV{t u:T}(h:d9 bZ agg t)(k:d9 bZ agg u):gQ t u=F2 (bl t) (bl u):=by
 cases t with
 |agg as=>
  cases u with
  |agg bs=>rfl
  |_=>simp only[d9]at h k;rw[h.1]at k;exact qe k.1 (by simp)
 |_=>
  cases u with
  |agg bs=>simp only[d9]at h k;rw[k.1]at h;exact qe h.1 (by simp)
  |_=>simp[bl,F2]
def Vq{s:Sh}{t u:T}(ht:AJ s t=true)(hu:AJ s u=true)(h:gQ t u=true):t=u:=by
 cases s<;>cases t<;>(first|exact qe ht A1|skip)<;>cases u<;>(first|exact qe hu A1|skip)
 .simp only[gQ,Zcu]at h;rw[h]
 .simp only[AJ,Zcu]at ht hu;simp only[gQ,yN]at h;subst ht hu h;rfl
 .simp only[gQ,yN]at h;rw[h]
def Fq:∀{bZ:List Sh} {ts us:aG},d8 bZ ts->d8 bZ us->F2 ts us=true->ts=us
 |[],ts,us,h1,h2,_=>by simp only[d8]at h1 h2;rw[h1,h2]
 |s::ss,[],_,h,_,_=>by simp[d8]at h
 |s::ss,_::_,[],_,h,_=>by simp[d8]at h
 |s::ss,t::ts,u::us,h1,h2,h=>by
  simp only[d8]at h1 h2;simp only[F2,mA]at h;rw[Vq h1.1 h2.1 h.1,Fq h1.2 h2.2 h.2]
def Pb{t u:T}(h:d9 bZ agg t)(k:d9 bZ agg u)(e:gQ t u=true):t=u:=by
 have h1:=k9 h;have k1:=k9 k;rw[CV h k]at e;have:=Fq h1 k1 e;cases t with
 |agg as=>
  cases u with
  |agg bs=>simpa [bl]using this
  |_=>simp only[d9]at h k;rw[h.1]at k;exact qe k.1 (by simp)
 |_=>
  cases u with
  |agg bs=>simp only[d9]at h k;rw[k.1]at h;exact qe h.1 (by simp)
  |_=>exact(ZcS this).1
def Sc{k:TypeId}(hk:iu P k=some (bZ,agg)){t u:T}{x y:Value}(ht:d9 bZ agg t)(hu:d9 bZ agg u)(hx:be w W' t x)(hy:be w W' u y):
  (Op.equal k x y).run P w=.ok (gQ t u) w:=by
 unfold iu at hk;split at hk
 .rename_i d s hd hs;simp only[cq,eX]at hk;obtain⟨rfl,rfl⟩:=hk;obtain⟨vs,rfl,h1⟩:=y7 ht hx;obtain⟨us,rfl,h2⟩:=y7 hu hy;rw[CV ht hu,yO (k9 ht) (k9 hu) h1 h2];exact rD 10000 k s d hs hd vs us w (jo (k9 ht) h1) (jo (k9 hu) h2)
 .cases hk
def rU{k:TypeId}(hk:iu P k=some (bZ,agg)){t:T}{x:Value}(ht:d9 bZ agg t)(hx:be w W' t x)(em:Bool):
  (Instr.checkKey em 10000 k x).run P w=.ok () w:=by
 unfold iu at hk;split at hk
 .rename_i d s hd hs;simp only[cq,eX]at hk;obtain⟨rfl,rfl⟩:=hk;obtain⟨vs,rfl,h1⟩:=y7 ht hx;exact y6 em 10000 k s d hs hd vs w (jo (k9 ht) h1)
 .cases hk
def Pc{t:T}{v:Value}(hk:d9 bZ agg t)(hr:be w W' t v):
  (∀k a,v=.int k a->t=.int k a)/\(∀s,v=.string s->t=.str s)/\(∀b,v=.bool b->t=.bool b):=by
 have cW:∀{x:T},d8 bZ [x]->(∀s,AJ s x=false)->False:=λh1 h2=>by
  obtain⟨s,_,hs⟩:=oE h1;rw[h2]at hs;cases hs
 cases t with
 |agg as=>simp only[be]at hr;obtain⟨_,rfl,_⟩:=hr;exact⟨λ_ _ e=>(by cases e),λ_ e=>(by cases e),λ_ e=>(by cases e)⟩
 |int k a=>simp only[be]at hr;subst hr;exact⟨λ_ _ e=>(by cases e;rfl),λ_ e=>(by cases e),λ_ e=>(by cases e)⟩
 |str a=>simp only[be]at hr;subst hr;exact⟨λ_ _ e=>(by cases e),λ_ e=>(by cases e;rfl),λ_ e=>(by cases e)⟩
 |bool a=>simp only[be]at hr;subst hr;exact⟨λ_ _ e=>(by cases e),λ_ e=>(by cases e),λ_ e=>(by cases e;rfl)⟩
 |_=>exact(cW hk.2 (λs=>by cases s<;>rfl)).elim
def kW(t:T)(es:List (Nat×T×DV))(xs:List MapEntry)(i:Nat):Option (Nat×Value):=
 match es.findIdx? λe=>gQ t e.2.1 with
 |some j=>(xs[j]?).map λe=>(i+j,e.val)
 |none=>none
def xY(t:T)(e:Nat×T×DV)(es:List (Nat×T×DV))(x:MapEntry)(xs:List MapEntry)(i:Nat):kW t (e::es) (x::xs) i=if gQ t e.2.1 then some (i,x.val)else kW t es xs (i+1):=by
 simp only[kW,Rd];by_cases h:gQ t e.2.1=true
 .simp[h]
 .simp only[h];cases List.findIdx? (λe=>gQ t e.2.1) es with
  |none=>simp
  |some j=>simp[show i+1+j=i+(j+1)by omega]
def Ap{k:TypeId}{bZ:List Sh}{agg:Bool}(hk:iu P k=some (bZ,agg)){t:T}{x:Value}(ht:d9 bZ agg t)(hx:be w (WW W ab L) t x):∀(es:List (Nat×T×DV)) (xs:List MapEntry) (i:Nat),bH w W ab L es xs->(∀e∈es,d9 bZ agg e.2.1)->
  (Instr.findAsking k x xs i).run P w=.ok (kW t es xs i) w
 |[],xs,i,h,_=>by simp only[bH]at h;subst h;simp[Instr.findAsking,kW]
 |e::es,xs,i,h,dJ=>by
  simp only[bH]at h;obtain⟨y,ys,rfl,_,h2,_,h4⟩:=h;have:=Sc hk ht (dJ e (by simp)) hx h2;rw[xY];simp only[Instr.findAsking,Sem.run_bind,this,Result.andThen_ok];cases gQ t e.2.1
  .simpa using Ap hk ht hx es ys (i+1) h4 λe he=>dJ e (by simp[he])
  .simp
def Aq{k:TypeId}{bZ:List Sh}{d:TypeDesc}(hd:P.underlying k=some d)(hs:lH P 10000 k=some bZ){t:T}{x:Value}(ht:d9 bZ (bU d) t)(hx:be w (WW W ab L) t x):∀(es:List (Nat×T×DV)) (xs:List MapEntry) (i:Nat),bH w W ab L es xs->(∀e∈es,d9 bZ (bU d) e.2.1)->
  Instr.findNow d x xs i=some (kW t es xs i)\/Instr.findNow d x xs i=none
 |[],xs,i,h,_=>by simp only[bH]at h;subst h;simp[Instr.findNow,kW]
 |e::es,xs,i,h,dJ=>by
  simp only[bH]at h;obtain⟨y,ys,rfl,_,h2,_,h4⟩:=h;rw[xY];simp only[Instr.findNow];cases Ot:Instr.sameNow d x y.key with
  |none=>right;rfl
  |some r=>
   have hr:r=gQ t e.2.1:=by
    have lx:=Pc ht hx;have ly:=Pc (dJ e (by simp)) h2;unfold Instr.sameNow at Ot;split at Ot
    .rename_i k1 a1 k2 a2 e2;split at Ot
     .rename_i vr;subst vr;simp only[cq]at Ot;rw[lx.1 _ _ rfl,ly.1 _ _ e2,<-Ot];simp only[gQ];by_cases h:a1=a2<;>simp[h]
     .cases Ot
    .rename_i a1 a2 e2;simp only[cq]at Ot;rw[lx.2.1 _ rfl,ly.2.1 _ e2,<-Ot];simp only[gQ];by_cases h:a1=a2
     .subst h;obtain⟨x⟩:=a1;simp only[decide_true];exact(show(x==x)=true by simp)
     .simp only[h,decide_false];cases hb:a1==a2 with
      |false=>rfl
      |true=>exact qe (by
        obtain⟨x⟩:=a1;obtain⟨y⟩:=a2;have e:x=y:=by simpa using(show(x==y)=true from hb)
        rw[e]) h
    .rename_i a1 a2 e2;simp only[cq]at Ot;rw[lx.2.2 _ rfl,ly.2.2 _ e2,<-Ot];rfl
    .cases Ot
   subst hr;cases gQ t e.2.1
   .exact Aq hd hs ht hx es ys (i+1) h4 λe he=>dJ e (by simp[he])
   .simp
def uV{k:TypeId}(hk:iu P k=some (bZ,agg)){t:T}{x:Value}(ht:d9 bZ agg t)(hx:be w (WW W ab L) t x){xs:List MapEntry}(h:bH w W ab L es xs)(dJ:∀e∈es,d9 bZ agg e.2.1):
  (Instr.findKey k x xs).run P w=.ok (kW t es xs 0) w:=by
 have ha:=Ap hk ht hx es xs 0 h dJ;unfold iu at hk;split at hk
 .rename_i d s hd hs;simp only[cq,eX]at hk;obtain⟨rfl,rfl⟩:=hk;unfold Instr.findKey;simp only[Sem.run_bind,run_underlying hd,Result.andThen_ok];rcases Aq hd hs ht hx es xs 0 h dJ with h1|h1
  .rw[h1];simp
  .rw[h1];exact ha
 .cases hk
def bH.length:∀{es:List (Nat×T×DV)} {xs:List MapEntry},bH w W ab L es xs->xs.length=es.length
 |[],_,h=>by simp only[bH]at h;simp[h]
 |e::es,_,h=>by
  simp only[bH]at h;obtain⟨x,nj,rfl,_,_,_,h4⟩:=h;simp[bH.length h4]
def bH.get:∀{es:List (Nat×T×DV)} {xs:List MapEntry} {i:Nat} {e:Nat×T×DV},bH w W ab L es xs->es[i]? =some e->∃x,xs[i]? =some x/\x.born=e.1/\be w (WW W ab L) e.2.1 x.key/\aD w W ab L e.2.2 x.val
 |[],_,_,_,_,h=>by simp at h
 |e::es,_,0,_,hr,h=>by
  simp only[bH]at hr;obtain⟨x,nj,rfl,h1,h2,h3,_⟩:=hr;simp only[Bd,cq]at h;subst h;exact⟨x,rfl,h1,h2,h3⟩
 |e::es,_,i+1,_,hr,h=>by
  simp only[bH]at hr;obtain⟨x,nj,rfl,_,_,_,h4⟩:=hr;simpa using bH.get h4 (by simpa using h)
def bH.append:∀{es nW:List (Nat×T×DV)} {xs nj:List MapEntry},bH w W ab L es xs->bH w W ab L nW nj->bH w W ab L (es++nW) (xs++nj)
 |[],_,_,_,h,k=>by simp only[bH]at h;subst h;simpa using k
 |e::es,_,_,_,h,k=>by
  simp only[bH]at h;obtain⟨x,xs1,rfl,h1,h2,h3,h4⟩:=h;simp only[IW,bH];exact⟨x,_,rfl,h1,h2,h3,bH.append h4 k⟩
def bH.modify{y:DV}{v:Value}(hy:aD w W ab L y v):∀{es:List (Nat×T×DV)} {xs:List MapEntry} (i:Nat),bH w W ab L es xs->bH w W ab L (es.modify i λe=>(e.1,e.2.1,y)) (xs.modify i λe=>{e with val:=v})
 |[],_,i,h=>by simp only[bH]at h;subst h;simp[bH]
 |e::es,_,0,h=>by
  simp only[bH]at h;obtain⟨x,xs1,rfl,h1,h2,h3,h4⟩:=h;simp only[ZcK,bH];exact⟨_,_,rfl,h1,h2,hy,h4⟩
 |e::es,_,i+1,h=>by
  simp only[bH]at h;obtain⟨x,xs1,rfl,h1,h2,h3,h4⟩:=h;simp only[Zcp,bH];exact⟨_,_,rfl,h1,h2,h3,bH.modify hy i h4⟩
def bH.erase:∀{es:List (Nat×T×DV)} {xs:List MapEntry} (i:Nat),bH w W ab L es xs->bH w W ab L (es.eraseIdx i) (xs.eraseIdx i)
 |[],_,i,h=>by simp only[bH]at h;subst h;simp[bH]
 |e::es,_,0,h=>by
  simp only[bH]at h;obtain⟨x,xs1,rfl,h1,h2,h3,h4⟩:=h;simpa using h4
 |e::es,_,i+1,h=>by
  simp only[bH]at h;obtain⟨x,xs1,rfl,h1,h2,h3,h4⟩:=h;simp only[List.eraseIdx_cons_succ,bH];exact⟨_,_,rfl,h1,h2,h3,bH.erase i h4⟩
def xZ{d:DV}{x:Value}{t:T}(h:aD w W ab L d x)(hk:vv d=some t):be w (WW W ab L) t x:=by
 cases d with
 |v t'=>simp only[vv,cq]at hk;subst hk;simpa only[aD]using h
 |agg cs=>
  simp only[vv,ju]at hk;obtain⟨ts,xz,rfl⟩:=hk;simp only[aD]at h;obtain⟨vs,rfl,hr⟩:=h;simp only[be];refine⟨vs,rfl, ?_⟩;have key:∀(cs:bW) (ts:aG) (vs:List Value),Gt cs=some ts->aU w W ab L cs vs->dt w (WW W ab L) ts vs:=by
   intro cs;induction cs with
   |nil=>intro ts vs h1 h2;simp only[Gt,cq]at h1;subst h1;simpa [aU,dt]using h2
   |cons c cs ih=>
    intro ts vs h1 h2;cases c with
    |v u=>
     simp only[Gt,ju]at h1;obtain⟨us,hus,rfl⟩:=h1;simp only[aU]at h2;obtain⟨y,ys,rfl,k1,k2,k3⟩:=h2;simp only[dt];exact⟨y,ys,rfl,k1,by simpa only[aD]using k2,ih us ys hus k3⟩
    |_=>simp[Gt]at h1
  exact key cs ts _ xz hr
 |_=>simp[vv]at hk
def Obj.aef:Obj->Prop
 |.cells _ _ _=>False
 |_=>True
def af5(s:ByteArray):(s==s)=true:=by
 obtain⟨x⟩:=s;exact(show(x==x)=true by simp)
def gn{b:Nat}{x:Obj}(h:w.heap[b]? =some x)(hx:Obj.aef x):(getObj b).run P w=.ok x w:=by
 cases x<;>first|exact hx.elim|simp[getObj,Sem.run,h]
def _root_.Go.World.gR(w:World)(b:Nat)(x:Obj):World:={w with heap:=w.heap.setIfInBounds b x}
def pa{b:Nat}{x y:Obj}(h:w.heap[b]? =some x)(hx:Obj.aef x):(setObj b y).run P w=.ok () (w.gR b y):=by
 cases x<;>first|exact hx.elim|simp[setObj,Sem.run,h,World.gR]
def Ar{b:Nat}{x y:Obj}(h:w.heap[b]? =some x):(w.gR b y).heap[b]? =some y:=by
 have cQ:b<w.heap.size:=(cM.1 h).1;simp[World.gR,cQ]
def rV{b k:Nat}{y:Obj}(h:k≠b):(w.gR b y).heap[k]? =w.heap[k]? :=by simp[World.gR,Ne.symm h]
def ug{b:Nat}{y:Obj}:(w.gR b y).heap.size=w.heap.size:=by simp[World.gR]
def Fs{g:Nat}(x:Obj)(h:Fr base M w0 w)(hg:base<=g\/M g):Fr base M w0 (w.gR g x):=
 ⟨h.os,h.tape,h.output,h.jN,by rw[ug];exact h.size,λk hk hm=>by
  rw[rV (by
    rintro rfl;rcases hg with h1|h1;·omega
    exact hm h1)]
  exact h.block k hk hm,h.drawn⟩
def rW(hO:ci base W M w0 ab w L){r c c':Nat}{kL:List Sh}{kM:Bool}{nW:List (Nat×T×DV)}(hc:ab r=some (.map bZ agg c es)){CW:Array MapEntry}
  (hr:bH w W ab L nW CW.toList) (h1:∀e∈nW,d9 kL kM e.2.1) (h2:∀e∈nW,e.1<c') (h3:(nW.map (·.1)).Nodup):
  ci base W M w0 (cC ab (some (r,.map kL kM c' nW))) (w.gR (L.jK r) (.map CW c')) L/\jA W ab L w (cC ab (some (r,.map kL kM c' nW))) L (w.gR (L.jK r) (.map CW c')):=by
 obtain⟨bm,hh,_,_,_,_,hm⟩:=hO.ob r _ hc;refine ci.put hO (Fs _ hO.fr hm) (by rw[ug];exact gJ _) (λ_ _=>⟨rfl,rfl⟩) rfl (λb _ hb=>rV (λx=>hb _ hc (by simp[Loc.own,x])))
  (λb hb=>.inl ⟨_,hc,hb⟩) (λo' j5 _=>by rw[hc]at j5;cases j5;exact⟨rfl,rfl⟩) (λbG e sz aC h=>by rw[hc]at h;cases h) (λgq=>?_)
 exact⟨CW,Ar hh,bH.gq gq _ _ hr,h1,h2,h3,hm⟩
def qa:∀{bZ:List Sh} {ts:aG} {vs:List Value} {W':fm} (n:Nat),d8 bZ ts->dt w W' ts vs->(vs.zip vs).all (λx=>Instr.sameBits n x.1 x.2)=true
 |[],ts,vs,W',n,h,hr=>by simp only[d8]at h;subst h;simp only[dt]at hr;subst hr;rfl
 |s::ss,[],_,_,_,h,_=>by simp[d8]at h
 |s::ss,t::ts,vs,W',n,h,hr=>by
  simp only[d8]at h;simp only[dt]at hr;obtain⟨v,jz,rfl,_,h1,h2⟩:=hr;simp only[List.zip_cons_cons,ZdK,mA];refine⟨?_,qa n h.2 h2⟩;have hs:=h.1;cases s<;>cases t<;>first|exact qe hs A1|skip
  all_goals (simp only[be]at h1;subst h1;cases n<;>simp[Instr.sameBits,af5])
def Jw{t:T}{x:Value}(h:d9 bZ agg t)(hr:be w W' t x):Instr.sameBits 10000 x x=true:=by
 cases t with
 |agg as=>
  simp only[d9]at h;simp only[be]at hr;obtain⟨vs,rfl,hr⟩:=hr;simp only[Instr.sameBits,beq_self_eq_true,Zc8];exact qa 9999 h.2 hr
 |_=>
  simp only[d9]at h;obtain⟨s,rfl,hs⟩:=oE h.2;have h1:x.oneCell'=true:=by cases s<;>first|exact qe hs A1|(simp only[be]at hr;subst hr;rfl)
  have:=qa (w:=w) (W':=W') 10000 h.2 (vs:=[x]) (by simp only[dt];exact⟨x,[],rfl,h1,hr,rfl⟩);simpa using this
def Ft:∀{bZ:List Sh} {ts:aG} {vs us:List Value} {W':fm},d8 bZ ts->dt w W' ts vs->dt w W' ts us->vs=us
 |[],ts,vs,us,W',h,h1,h2=>by simp only[d8]at h;subst h;simp only[dt]at h1 h2;rw[h1,h2]
 |s::ss,[],_,_,_,h,_,_=>by simp[d8]at h
 |s::ss,t::ts,vs,us,W',h,h1,h2=>by
  simp only[d8]at h;simp only[dt]at h1 h2;obtain⟨v,jz,rfl,_,k1,k2⟩:=h1;obtain⟨u,us',rfl,_,l1,l2⟩:=h2;have hs:=h.1;rw[Ft h.2 k2 l2]
  congr 1
  cases s<;>cases t<;>first|exact qe hs A1|skip
  all_goals (simp only[be]at k1 l1;rw[k1,l1])
def Pd{t:T}{x y:Value}(h:d9 bZ agg t)(hx:be w W' t x)(hy:be w W' t y):x=y:=by
 cases t with
 |agg as=>
  simp only[d9]at h;simp only[be]at hx hy;obtain⟨vs,rfl,hx⟩:=hx;obtain⟨us,rfl,hy⟩:=hy;have:=Ft h.2 hx hy;rw[ZdA.1 this]
 |_=>
  simp only[d9]at h;obtain⟨s,rfl,hs⟩:=oE h.2;cases s<;>first|exact qe hs A1|(simp only[be]at hx hy;rw[hx,hy])
end
end
section
variable{et kt yt:TypeId}{z d1 d2 d3 d:DV}{es:List (Nat×T×DV)}{bZ:List Sh}{agg neg:Bool}{xs:List MapEntry}{name:Nat}{op:BinOp}{y':bK}
variable [bD]
section
variable{P:Program}{base:Nat}{W M:fm}{w0:World}{ab:bS}{L:Loc}{w:World}{a:Act}{o:Oper}
def Fu(h:E5 P et=some z):∃zv,(zeroValue et).run P w=.ok zv w/\aD w W ab L z zv:=by
 unfold E5 at h;simp only[kw,jE]at h;obtain⟨i,hi,zv,hz,h⟩:=h;refine⟨zv,by simp[zeroValue,typeInfo,hi,hz], ?_⟩;split at h
 .rename_i cs;simp only[ju]at h;obtain⟨ds,hds,rfl⟩:=h;simp only[aD];exact⟨cs,rfl,jd hds⟩
 .exact(wa h).1
def x5(t:T)(es:List (Nat×T×DV)):pE t es=(es.findIdx? λe=>gQ t e.2.1).bind (es[·]?):=by
 unfold pE;induction es with
 |nil=>rfl
 |cons e es ih=>
  simp only[Ii,Rd];by_cases h:gQ t e.2.1=true
  .simp[h]
  .simp only[h,ih];cases List.findIdx? (λe=>gQ t e.2.1) es<;>simp
def jG{t:T}{i:Nat}(h:(es.findIdx? λe=>gQ t e.2.1)=some i):∃e,es[i]? =some e/\gQ t e.2.1=true:=by
 induction es generalizing i with
 |nil=>simp at h
 |cons e es ih=>
  simp only[Rd]at h;by_cases he:gQ t e.2.1=true
  .simp only[he,Eg,cq]at h;subst h;exact⟨e,rfl,he⟩
  .rw[iK he,ju]at h;obtain⟨j,hj,rfl⟩:=h;simpa using ih hj
def GG(hO:ci base W M w0 ab w L){t:TypeId}{x k:Operand}{ok:Bool}(ho:o.op=.lookup t x k ok)(ht:P.underlying t=some (.map kt et))(hk:iu P kt=some (bZ,agg))(hz:E5 P et=some z)
   (h1:aD w W ab L d1 (a.eval x)) (h2:aD w W ab L d2 (a.eval k)) (aN:(mO bZ agg z ok ab d1 d2).ok):cu P base W M w0 ab L w a o (mO bZ agg z ok ab d1 d2):=by
 unfold mO at aN⊢;split at aN
 .rename_i r Vr hkt;cases hc:ab r with
  |none=>simp[hc,cW]at aN
  |some ob=>
   cases ob with
   |map kL kM c es=>
    simp only[hc]at aN⊢;obtain⟨rfl,rfl,px⟩:=aN;simp only[aD]at h1;obtain⟨_,hx⟩:=h1;have Jx:=xZ h2 hkt;obtain⟨bm,hh,nN,dJ,_,_,_⟩:=hO.ob r _ hc;have CX:=λem=>rU (P:=P) (w:=w) hk px Jx em;have hf:=uV (P:=P) hk px Jx nN dJ;have hg:=gn (P:=P) hh trivial;simp only[hkt];rw[x5];unfold kW at hf;cases hi:es.findIdx? (λe=>gQ Vr e.2.1)with
    |none=>
     simp only[hi]at hf;obtain⟨zv,hzr,hzd⟩:=Fu (P:=P) (w:=w) (W:=W) (ab:=ab) (L:=L) hz;simp only[Option.bind_none];have bO:(Instr.lookup t (.map (some (L.jK r))) (a.eval k) ok).run P w=.ok (if ok then .tuple #[zv,.bool false]else zv) w:=by
      simp[Instr.lookup,run_underlying ht,hg,CX,hf,hzr]
     refine cu.l7 hO rfl (v:=if ok then .tuple #[zv,.bool false]else zv) (by simp[execOp,ho,hx,bO]) ?_;cases ok
     .simpa using hzd
     .simp only[Eg,aD];exact⟨_,rfl,by simp only[eA];exact⟨zv,_,rfl,hzd,.bool false,[],rfl,by simp[aD,be],rfl⟩⟩
    |some i=>
     obtain⟨e,he,hq⟩:=jG hi;obtain⟨xe,ov,_,_,hv⟩:=bH.get nN he;simp only[hi,ov,Rp]at hf;simp only[ZcO,he];have bO:(Instr.lookup t (.map (some (L.jK r))) (a.eval k) ok).run P w=.ok (if ok then .tuple #[xe.val,.bool true]else xe.val) w:=by
      simp[Instr.lookup,run_underlying ht,hg,CX,hf]
     refine cu.l7 hO rfl (v:=if ok then .tuple #[xe.val,.bool true]else xe.val) (by simp[execOp,ho,hx,bO]) ?_;cases ok
     .simpa using hv
     .simp only[Eg,aD];exact⟨_,rfl,by simp only[eA];exact⟨xe.val,_,rfl,hv,.bool true,[],rfl,by simp[aD,be],rfl⟩⟩
   |_=>simp[hc,cW]at aN
 .exact aN.elim
def x6{y:DV}(i:Nat):(es.modify i λe=>(e.1,e.2.1,y)).map (·.1)=es.map (·.1):=by
 induction es generalizing i with
 |nil=>simp
 |cons e es ih=>cases i<;>simp[ih]
def pL{y:DV}(i:Nat){e:Nat×T×DV}(h:e∈es.modify i λe=>(e.1,e.2.1,y)):∃e'∈es,e.1=e'.1/\e.2.1=e'.2.1:=by
 induction es generalizing i with
 |nil=>simp at h
 |cons e0 es ih=>
  cases i with
  |zero=>
   simp only[ZcK,jv]at h;rcases h with rfl|h
   .exact⟨e0,by simp,rfl,rfl⟩
   .exact⟨e,by simp[h],rfl,rfl⟩
  |succ i=>
   simp only[Zcp,jv]at h;rcases h with rfl|h
   .exact⟨e,by simp,rfl,rfl⟩
   .obtain⟨e',h1,h2⟩:=ih i h;exact⟨e',by simp[h1],h2⟩
def MJ{es:List (Nat×T×DV)}{i:Nat}{v key:Value}{x:MapEntry}(hx:xs[i]? =some x)(hk:x.key=key):(xs.modify i λe=>{e with key:=key,val:=v})=xs.modify i λe=>{e with val:=v}:=by
 induction xs generalizing i with
 |nil=>simp
 |cons y ys ih=>
  cases i with
  |zero=>
   simp only[Bd,cq]at hx;subst hx hk;simp
  |succ i=>
   simp only[Zcp,Gf,Em];exact ih (by simpa using hx)
def GH(hO:ci base W M w0 ab w L){t:TypeId}{x k y:Operand}(ho:o.op=.mapUpdate t x k y)(ht:P.underlying t=some (.map kt et))(hk:iu P kt=some (bZ,agg))
   (h1:aD w W ab L d1 (a.eval x)) (h2:aD w W ab L d2 (a.eval k)) (h3:aD w W ab L d3 (a.eval y)) (aN:(jl bZ agg ab d1 d2 d3).ok):cu P base W M w0 ab L w a o (jl bZ agg ab d1 d2 d3):=by
 unfold jl at aN⊢;split at aN
 .rename_i r Vr hkt;cases hc:ab r with
  |none=>simp[hc,cW]at aN
  |some ob=>
   cases ob with
   |map kL kM c es=>
    simp only[hc]at aN⊢;obtain⟨rfl,rfl,px,hb⟩:=aN;simp only[aD]at h1;obtain⟨_,hx⟩:=h1;have Jx:=xZ h2 hkt;obtain⟨bm,hh,nN,dJ,cQ,Bg,hm⟩:=hO.ob r _ hc;have CX:=λem=>rU (P:=P) (w:=w) hk px Jx em;have hf:=uV (P:=P) hk px Jx nN dJ;have hg:=gn (P:=P) hh trivial;have hs:=λy=>pa (P:=P) (y:=y) hh trivial;simp only[hkt];unfold kW at hf;unfold Gu rn;cases hi:es.findIdx? (λe=>gQ Vr e.2.1)with
    |none=>
     simp only[hi]at hf;simp only;have bO:(Instr.mapUpdate t (.map (some (L.jK r))) (a.eval k) (a.eval y)).run P w=.ok () (w.gR (L.jK r) (.map (bm.push {key:=a.eval k,val:=a.eval y,born:=c}) (c+1))):=by
      simp[Instr.mapUpdate,run_underlying ht,hg,CX,hf,hs]
     have:=rW hO hc (kL:=kL) (kM:=kM) (c':=c+1) (nW:=es++[(c,Vr,d3)]) (CW:=bm.push {key:=a.eval k,val:=a.eval y,born:=c})
      (by rw[Array.toList_push];exact bH.append nN (by simp only[bH];exact⟨_,_,rfl,rfl,Jx,h3,rfl⟩))
      (λe he=>by
        rcases lF.1 he with he|he;·exact dJ e he
        .simp only[uy]at he;subst he;exact px)
      (λe he=>by
        rcases lF.1 he with he|he;·have:=cQ e he;omega
        .simp only[uy]at he;subst he;simp)
      (by rw[Lc,Zct];exact⟨Bg,by simp,λb hb b2 jZ=>by
         simp only[vG,Zcg,uy]at jZ;obtain⟨e,he,rfl⟩:=sE.1 hb;have:=cQ e he;omega⟩)
     exact⟨.skip,Go.undef,_,L,by simp[execOp,ho,hx,bO],.inr ⟨rfl,rfl⟩,this.1,this.2,by simp[aD]⟩
    |some i=>
     obtain⟨e,he,hq⟩:=jG hi;obtain⟨xe,ov,_,hxk,hv⟩:=bH.get nN he;simp only[hi,ov,Rp]at hf;have hte:Vr=e.2.1:=Pb px (dJ e (Hf he)) hq;have ML:xe.key=a.eval k:=Pd px (by rw[hte];exact hxk) Jx;have af6:(Instr.keyThatStays xe.key (a.eval k)).run P w=.ok (a.eval k) w:=by
      rw[ML];simp[Instr.keyThatStays,Jw px Jx]
     have hai:bm[i]? =some xe:=by simpa using ov
     have bO:(Instr.mapUpdate t (.map (some (L.jK r))) (a.eval k) (a.eval y)).run P w=.ok () (w.gR (L.jK r) (.map (bm.modify i λe=>{e with key:=a.eval k,val:=a.eval y}) c)):=by
      simp[Instr.mapUpdate,run_underlying ht,hg,CX,hf,hs,hai,af6]
     have LY:(bm.modify i λe=>{e with key:=a.eval k,val:=a.eval y}).toList=bm.toList.modify i λe=>{e with val:=a.eval y}:=by
      rw[Zdn];exact MJ (es:=es) (by simpa using hai) ML
     simp only;have:=rW hO hc (kL:=kL) (kM:=kM) (c':=c) (nW:=es.modify i λe=>(e.1,e.2.1,d3)) (CW:=bm.modify i λe=>{e with key:=a.eval k,val:=a.eval y})
      (by rw[LY];exact bH.modify h3 i nN)
      (λe he=>by obtain⟨e',h1,_,h2⟩:=pL i he;rw[h2];exact dJ e' h1)
      (λe he=>by obtain⟨e',h1,h2,_⟩:=pL i he;rw[h2];exact cQ e' h1)
      (by rw[x6];exact Bg)
     exact⟨.skip,Go.undef,_,L,by simp[execOp,ho,hx,bO],.inr ⟨rfl,rfl⟩,this.1,this.2,by simp[aD]⟩
   |_=>simp[hc,cW]at aN
 .exact aN.elim
def GI(hO:ci base W M w0 ab w L){t:TypeId}{x k:Operand}(ho:o.op=.mapEntry t x k)(ht:P.underlying t=some (.map kt et))(hk:iu P kt=some (bZ,agg))(hz:E5 P et=some z)
   (h1:aD w W ab L d1 (a.eval x)) (h2:aD w W ab L d2 (a.eval k)) (aN:(jm bZ agg z ab d1 d2).ok):cu P base W M w0 ab L w a o (jm bZ agg z ab d1 d2):=by
 unfold jm at aN⊢;split at aN
 .rename_i r Vr hkt;cases hc:ab r with
  |none=>simp[hc,cW]at aN
  |some ob=>
   cases ob with
   |map kL kM c es=>
    simp only[hc]at aN⊢;obtain⟨rfl,rfl,px⟩:=aN;simp only[aD]at h1;obtain⟨_,hx⟩:=h1;have Jx:=xZ h2 hkt;obtain⟨bm,hh,nN,dJ,cQ,Bg,hm⟩:=hO.ob r _ hc;have CX:=λem=>rU (P:=P) (w:=w) hk px Jx em;have hf:=uV (P:=P) hk px Jx nN dJ;have hg:=gn (P:=P) hh trivial;have hs:=λy=>pa (P:=P) (y:=y) hh trivial;simp only[hkt];unfold alF;rw[x5];unfold kW at hf;unfold alE rn;cases hi:es.findIdx? (λe=>gQ Vr e.2.1)with
    |none=>
     simp only[hi]at hf;obtain⟨zv,hzr,hzd⟩:=Fu (P:=P) (w:=w) (W:=W) (ab:=ab) (L:=L) hz;simp only[Option.bind_none];have bO:(Instr.mapEntry t (.map (some (L.jK r))) (a.eval k)).run P w=.ok (.tuple #[zv,goInt c]) (w.gR (L.jK r) (.map (bm.push {key:=a.eval k,val:=zv,born:=c}) (c+1))):=by
      simp[Instr.mapEntry,run_underlying ht,hg,CX,hf,hs,hzr]
     have:=rW hO hc (kL:=kL) (kM:=kM) (c':=c+1) (nW:=es++[(c,Vr,z)]) (CW:=bm.push {key:=a.eval k,val:=zv,born:=c})
      (by rw[Array.toList_push];exact bH.append nN (by simp only[bH];exact⟨_,_,rfl,rfl,Jx,hzd,rfl⟩))
      (λe he=>by
        rcases lF.1 he with he|he;·exact dJ e he
        .simp only[uy]at he;subst he;exact px)
      (λe he=>by
        rcases lF.1 he with he|he;·have:=cQ e he;omega
        .simp only[uy]at he;subst he;simp)
      (by rw[Lc,Zct];exact⟨Bg,by simp,λb hb b2 jZ=>by
         simp only[vG,Zcg,uy]at jZ;obtain⟨e,he,rfl⟩:=sE.1 hb;have:=cQ e he;omega⟩)
     refine⟨.value (.tuple #[zv,goInt c]),.tuple #[zv,goInt c],_,L,by simp[execOp,ho,hx,bO],.inl rfl,this.1,this.2, ?_⟩;have AS:=aD.gq this.2 _ _ hzd;simp only[aD];exact⟨_,rfl,by simp only[eA];exact⟨zv,_,rfl,AS,goInt c,[],rfl,by simp[aD,be,goInt],rfl⟩⟩
    |some i=>
     obtain⟨e,he,hq⟩:=jG hi;obtain⟨xe,ov,hxb,hxk,hv⟩:=bH.get nN he;simp only[hi,ov,Rp]at hf;have hte:Vr=e.2.1:=Pb px (dJ e (Hf he)) hq;have ML:xe.key=a.eval k:=Pd px (by rw[hte];exact hxk) Jx;have af6:(Instr.keyThatStays xe.key (a.eval k)).run P w=.ok (a.eval k) w:=by
      rw[ML];simp[Instr.keyThatStays,Jw px Jx]
     have hai:bm[i]? =some xe:=by simpa using ov
     have LY:(bm.modify i λe=>{e with key:=a.eval k}).toList=bm.toList:=by
      rw[Zdn];apply Zb0;intro j;rw[List.getElem?_modify];split
      .rename_i hj;subst hj;rw[ov];simp[<-ML]
      .simp
     have bO:(Instr.mapEntry t (.map (some (L.jK r))) (a.eval k)).run P w=.ok (.tuple #[xe.val,goInt xe.born]) (w.gR (L.jK r) (.map (bm.modify i λe=>{e with key:=a.eval k}) c)):=by
      simp[Instr.mapEntry,run_underlying ht,hg,CX,hf,hs,hai,af6]
     have:=rW hO hc (kL:=kL) (kM:=kM) (c':=c) (nW:=es) (CW:=bm.modify i λe=>{e with key:=a.eval k})
      (by rw[LY];exact nN) dJ cQ Bg
     simp only[ZcO,he];refine⟨.value (.tuple #[xe.val,goInt xe.born]),.tuple #[xe.val,goInt xe.born],_,L,by simp[execOp,ho,hx,bO],.inl rfl,this.1,this.2, ?_⟩;have AS:=aD.gq this.2 _ _ hv;simp only[aD];exact⟨_,rfl,by simp only[eA];exact⟨xe.val,_,rfl,AS,goInt xe.born,[],rfl,by simp[aD,be,goInt,hxb],rfl⟩⟩
   |_=>simp[hc,cW]at aN
 .exact aN.elim
def Vt{b:Int}(h:bH w W ab L es xs):xs.findIdx? (λe=>(e.born:Int)==b)=es.findIdx? (λe=>(e.1:Int)==b):=by
 induction es generalizing xs with
 |nil=>simp only[bH]at h;subst h;rfl
 |cons e es ih=>
  simp only[bH]at h;obtain⟨x,nj,rfl,hb,_,_,hr⟩:=h;simp only[Rd,ih hr,hb]
def I7(hO:ci base W M w0 ab w L){t:TypeId}{x s y:Operand}(ho:o.op=.entryStore t x s y)
   (h1:aD w W ab L d1 (a.eval x)) (h2:aD w W ab L d2 (a.eval s)) (h3:aD w W ab L d3 (a.eval y)) (aN:(kN ab d1 d2 d3).ok):cu P base W M w0 ab L w a o (kN ab d1 d2 d3):=by
 unfold kN at aN⊢;split at aN
 .rename_i r kk b;cases hc:ab r with
  |none=>simp[hc,cW]at aN
  |some ob=>
   cases ob with
   |map bZ agg c es=>
    simp only[hc]at aN⊢;simp only[aD,be]at h1 h2;obtain⟨_,hx⟩:=h1;obtain⟨bm,hh,nN,dJ,cQ,Bg,hm⟩:=hO.ob r _ hc;have hg:=gn (P:=P) hh trivial;have hs:=λy=>pa (P:=P) (y:=y) hh trivial;unfold alG at aN⊢;cases hi:es.findIdx? (λe=>(e.1:Int)==b)with
    |none=>simp[hi,cW]at aN
    |some i=>
     simp only[Rp];have hbi:=(Vt (b:=b) nN).trans hi;have auf:bm.findIdx? (λe=>(e.born:Int)==b)=some i:=by rw[<-hbi];cases bm;simp
     have bO:(Instr.entryStore t (.map (some (L.jK r))) (.int kk b) (a.eval y)).run P w=.ok () (w.gR (L.jK r) (.map (bm.modify i λe=>{e with val:=a.eval y}) c)):=by
      simp[Instr.entryStore,hg,hs,asInt,asIntOf,auf]
     have:=rW hO hc (kL:=bZ) (kM:=agg) (c':=c) (nW:=es.modify i λe=>(e.1,e.2.1,d3)) (CW:=bm.modify i λe=>{e with val:=a.eval y})
      (by rw[Zdn];exact bH.modify h3 i nN)
      (λe he=>by obtain⟨e',h1,_,h2⟩:=pL i he;rw[h2];exact dJ e' h1)
      (λe he=>by obtain⟨e',h1,h2,_⟩:=pL i he;rw[h2];exact cQ e' h1)
      (by rw[x6];exact Bg)
     exact⟨.skip,Go.undef,_,L,by simp[execOp,ho,hx,h2,bO],.inr ⟨rfl,rfl⟩,this.1,this.2,by simp[aD]⟩
   |_=>simp[hc,cW]at aN
 .exact aN.elim
def GL(hO:ci base W M w0 ab w L){t:TypeId}{x k:Operand}{ts:Array TypeId}(xz:ts[0]? =some t)(ho:o.op=.call {callee:=.builtin .delete,args:= #[x,k],argTypes:=ts})(ht:P.underlying t=some (.map kt et))(hk:iu P kt=some (bZ,agg))
   (h1:aD w W ab L d1 (a.eval x)) (h2:aD w W ab L d2 (a.eval k)) (aN:(jn bZ agg ab d1 d2).ok):cu P base W M w0 ab L w a o (jn bZ agg ab d1 d2):=by
 unfold jn at aN⊢;split at aN
 .rename_i r Vr hkt;cases hc:ab r with
  |none=>simp[hc,cW]at aN
  |some ob=>
   cases ob with
   |map kL kM c es=>
    simp only[hc]at aN⊢;obtain⟨rfl,rfl,px⟩:=aN;simp only[aD]at h1;obtain⟨_,hx⟩:=h1;have Jx:=xZ h2 hkt;obtain⟨bm,hh,nN,dJ,cQ,Bg,hm⟩:=hO.ob r _ hc;have CX:=λem=>rU (P:=P) (w:=w) hk px Jx em;have hf:=uV (P:=P) hk px Jx nN dJ;have hg:=gn (P:=P) hh trivial;have hs:=λy=>pa (P:=P) (y:=y) hh trivial;simp only[hkt];unfold kW at hf;unfold alD;cases hi:es.findIdx? (λe=>gQ Vr e.2.1)with
    |none=>
     simp only[hi]at hf;simp only;have:=rW hO hc (kL:=kL) (kM:=kM) (c':=c) (nW:=es) (CW:=bm) nN dJ cQ Bg;refine⟨.value (.tuple #[]),.tuple #[],_,L, ?_,.inl rfl,this.1,this.2,by simp only[aD,be,eS];exact⟨_,rfl,rfl⟩⟩;simp[execOp,ho,resolve,invoke,builtin,Builtin.delete_,xz,hx,run_underlying ht,hg,CX,hf,hs]
    |some i=>
     obtain⟨e,he,hq⟩:=jG hi;obtain⟨xe,ov,_,hxk,hv⟩:=bH.get nN he;simp only[hi,ov,Rp]at hf;have LY:(bm.eraseIdxIfInBounds i).toList=bm.toList.eraseIdx i:=by
      have:i<bm.size:=by have:=(tp.1 ov).1;simpa using this
      unfold Array.eraseIdxIfInBounds;simp[this]
     simp only;have:=rW hO hc (kL:=kL) (kM:=kM) (c':=c) (nW:=es.eraseIdx i) (CW:=bm.eraseIdxIfInBounds i)
      (by rw[LY];exact bH.erase i nN)
      (λe he=>dJ e (Zc2 he))
      (λe he=>cQ e (Zc2 he))
      (List.Sublist.nodup ((List.eraseIdx_sublist _ _).map _) Bg)
     refine⟨.value (.tuple #[]),.tuple #[],_,L, ?_,.inl rfl,this.1,this.2,by simp only[aD,be,eS];exact⟨_,rfl,rfl⟩⟩;simp[execOp,ho,resolve,invoke,builtin,Builtin.delete_,xz,hx,run_underlying ht,hg,CX,hf,hs]
   |_=>simp[hc,cW]at aN
 .exact aN.elim
def Md(hO:ci base W M w0 ab w L){x:Operand}{t:TypeId}(ho:o.op=.call {callee:=.builtin .len,args:= #[x],argTypes:= #[t]})(ht:P.underlying t=some (.map kt et))(h:aD w W ab L d (a.eval x))(aN:(Fz ab d).ok):
  cu P base W M w0 ab L w a o (Fz ab d):=by
 unfold Fz at aN⊢;split at aN
 .rename_i r;cases hc:ab r with
  |none=>simp[hc,cW]at aN
  |some ob=>
   cases ob with
   |map bZ agg c es=>
    simp only[aD]at h;obtain⟨_,hx⟩:=h;obtain⟨bm,hh,nN,_⟩:=hO.ob r _ hc;have hg:=gn (P:=P) hh trivial;have hl:=bH.length nN;simp only[Lt]at hl;refine cu.int hO rfl rfl ?_;simp[execOp,ho,resolve,invoke,builtin,hx,Builtin.len_,run_underlying ht,goInt,hg,hl]
   |_=>simp[hc,cW]at aN
 .exact aN.elim
def I6(hO:ci base W M w0 ab w L)(eO:ab name=none){t:TypeId}(ho:o.op=.makeMap t none)(bZ:List Sh)(agg:Bool):
  cu P base W M w0 ab L w a o ⟨True,.fH name,some (name,.map bZ agg 0 [])⟩:=by
 have hb:=ln (w:=w) (.map #[] 0);have h:=ci.put hO (r:=name) (L':=L.gX name w.heap.size) (o':=.map bZ agg 0 []) (xu hO.fr hb) hb.size (λx hx=>⟨by simp[Loc.gX,hx],rfl⟩) rfl (λb cQ _=>hb.block b cQ) (λb h=>.inr (by
   simp only[Loc.own,Loc.gX,Eg,cq]at h;omega))
  (λo' h _=>by rw[eO]at h;cases h) (λ_ _ _ _ h=>by rw[eO]at h;cases h) (λgq=>by
   refine⟨#[], ?_,by simp[bH],by simp,by simp,by simp,.inl ?_⟩
   .simp only[Loc.gX,Eg];exact heap_alloc_new w _
   .simp only[Loc.gX,Eg];exact zN hO.fr.jN hO.fr.size)
 refine⟨_,.map (some w.heap.size),_,_, ?_,.inl rfl,h.1,h.2, ?_⟩
 .simp[execOp,ho,Instr.makeMap]
 .simp only[aD];exact⟨⟨bZ,agg,0,[],by simp[cC]⟩,by simp[Loc.gX]⟩
def GJ(hO:ci base W M w0 ab w L)(eO:ab name=none){x:Operand}{t:TypeId}(ho:o.op=.range t x)(ht:P.underlying t=some (.map kt et))(h:aD w W ab L d (a.eval x))(aN:(lj name ab d).ok):
  cu P base W M w0 ab L w a o (lj name ab d):=by
 unfold lj at aN⊢;split at aN
 .rename_i r;cases hc:ab r with
  |none=>simp[hc,cW]at aN
  |some ob=>
   cases ob with
   |map bZ agg c es=>
    simp only[aD]at h;obtain⟨ON,hx⟩:=h;obtain⟨bm,hh,nN,_⟩:=hO.ob r _ hc;have hg:=gn (P:=P) hh trivial;have dd:r≠name:=λe=>by rw[e,eO]at hc;cases hc
    have hb:=ln (w:=w) (.mapIter (some (L.jK r)) c #[] c);have h:=ci.put hO (r:=name) (L':=L.gX name w.heap.size) (o':=.eo r c [] c) (xu hO.fr hb) hb.size (λx hx=>⟨by simp[Loc.gX,hx],rfl⟩) rfl (λb cQ _=>hb.block b cQ) (λb h=>.inr (by
      simp only[Loc.own,Loc.gX,Eg,cq]at h;omega))
     (λo' h _=>by rw[eO]at h;cases h) (λ_ _ _ _ h=>by rw[eO]at h;cases h) (λgq=>by
      refine⟨?_,⟨bZ,agg,c,es,by simp[cC,dd,hc]⟩,.inl ?_⟩
      .simp only[Loc.gX,Eg,dd,A0];exact heap_alloc_new w _
      .simp only[Loc.gX,Eg];exact zN hO.fr.jN hO.fr.size)
    simp only[];refine⟨_,.pointer (some ⟨w.heap.size,0,none⟩),_,_, ?_,.inl rfl,h.1,h.2, ?_⟩
    .simp[execOp,ho,Instr.range,hx,run_underlying ht,hg]
    .simp only[aD];exact⟨⟨r,c,[],c,by simp[cC]⟩,by simp[Loc.gX]⟩
   |_=>simp[hc,cW]at aN
 .exact aN.elim
def CY{b:Nat}:∀{es:List (Nat×T×DV)} {xs:List MapEntry},bH w W ab L es xs->∀{e:Nat×T×DV},(es.find? λe=>e.1==b)=some e->∃x,(xs.find? λx=>x.born==b)=some x/\be w (WW W ab L) e.2.1 x.key/\aD w W ab L e.2.2 x.val
 |[],_,_,e,h=>by simp at h
 |e0::es,xs,hr,e,h=>by
  simp only[bH]at hr;obtain⟨x,nj,rfl,h1,h2,h3,h4⟩:=hr;simp only[Ii,h1]at h⊢;by_cases hb:(e0.1==b)=true
  .simp only[hb]at h⊢;cases h;exact⟨x,rfl,h2,h3⟩
  .simp only[hb]at h⊢;exact CY h4 h
def GP(hO:ci base W M w0 ab w L){x:Operand}(ho:o.op=.entry x)(h:aD w W ab L d (a.eval x))(aN:(lm ab d).ok):
  cu P base W M w0 ab L w a o (lm ab d):=by
 unfold lm at aN⊢;split at aN
 .rename_i r;cases hc:ab r with
  |none=>simp[hc,cW]at aN
  |some ob=>
   cases ob with
   |eo m s sn l=>
    simp only[hc]at aN⊢;cases hm:ab m with
    |none=>simp[hm,cW]at aN
    |some om=>
     cases om with
     |map bZ agg c es=>
      simp only[hm]at aN⊢;cases hl:sn.getLast? with
      |none=>simp[hl,cW]at aN
      |some b=>
       simp only[hl]at aN⊢;cases hf:es.find? (λe=>e.1==b)with
       |none=>simp[hf,cW]at aN
       |some e=>
        simp only[hf]at aN⊢;subst aN;simp only[aD]at h;obtain⟨_,hx⟩:=h;obtain⟨hh,_,_⟩:=hO.ob r _ hc;obtain⟨bm,hh2,nN,_⟩:=hO.ob m _ hm;have hg:=gn (P:=P) hh trivial;have hg2:=gn (P:=P) hh2 trivial;obtain⟨xe,ov,k1,k2⟩:=CY nN hf;have amv:sn.toArray.back? =some b:=by rw[List.back?_toArray];exact hl
        have RA:bm.find? (λx=>x.born==b)=some xe:=by rw[<-Array.find?_toList];exact ov
        refine cu.l7 hO rfl (v:=.tuple #[xe.key,xe.val]) ?_ ?_
        .simp[execOp,ho,Instr.entry,hx,hg,amv,hg2,RA]
        .simp only[aD];exact⟨_,rfl,by simp only[eA];exact⟨_,_,rfl,by simpa [aD]using k1,_,_,rfl,k2,rfl⟩⟩
     |_=>simp[hm,cW]at aN
   |_=>simp[hc,cW]at aN
 .exact aN.elim
def GK(hO:ci base W M w0 ab w L){t:TypeId}{x i:Operand}(ho:o.op=.index t x i)(ht:P.underlying t=some .string)(h1:aD w W ab L d1 (a.eval x))(h2:aD w W ab L d2 (a.eval i))(aN:(oD d1 d2).ok):
  cu P base W M w0 ab L w a o (oD d1 d2):=by
 unfold oD at aN⊢;split at aN
 .rename_i s k j;simp only[aD,be]at h1 h2;obtain⟨h0,cQ⟩:=aN;have hj:j.toNat<s.size:=by omega
  have hj':j.toNat<s.data.size:=hj;have UX:s[j.toNat]? =some (s.data.getD j.toNat 0):=by
   rw[getElem?_pos s j.toNat hj];simp[Array.getD,ByteArray.getElem_eq_getElem_data];intro h;omega
  refine cu.int hO rfl rfl ?_;simp[execOp,ho,Instr.index,h1,h2,asIntOf,run_underlying ht,h0,UX]
 .exact aN.elim
def Ha(Uy:op=if neg then .neq else .eql){t:TypeId}{x y:Operand}(ho:o.op=.binOp op t x y yt){r:Bool}(dd:∀k n,a.eval x≠ .int k n)(hni:a.eval x≠ .nilIface)(hna:∀cs,a.eval x≠ .agg cs)(hnf:∀k b,a.eval x≠ .float k b)(Rv:∀k b c,a.eval x≠ .complex k b c)(hns:∀s,a.eval x≠ .string s)
  (he:(Op.equal t (a.eval x) (a.eval y)).run P w=.ok r w) (hg:(eqGuard op t x y (a.eval x) (a.eval y)).run P w=.ok () w):(execOp a.eval o).run P w=.ok (.value (.bool (neg^^r))) w:=by
 have hb:(binOp op t (a.eval x) (a.eval y)).run P w=.ok (.bool (neg^^r)) w:=by
  generalize a.eval x=xv at*
  subst Uy;cases neg<;>cases xv<;>first|exact qe rfl (dd _ _)|exact qe rfl hni|exact qe rfl (hna _)|exact qe rfl (hnf _ _)|exact qe rfl (Rv _ _ _)|exact qe rfl (hns _)|simp[binOp,he]
 simp[execOp,ho,hg,hb]
def Jy{d:TypeDesc}{y:Operand}{k:Nat}(hy:bK.of y=some y')(h:xB d y'=some k):
  (k=0/\(∃e,d=.slice e)/\a.eval y=.slice none 0 0)\/(k=1/\(∃e,d=.pointer e)/\a.eval y=.pointer none)\/(k=2/\(∃p r v,d=.func p r v)/\a.eval y=.nilFunc):=by
 unfold xB at h;have key:∀{z:DV},bK.of y=some (.wW z)->∃v,a.eval y=v/\(vm v=some z\/(∃f,z=.v (.fn f []))\/∃c,z=.j9 c 0):=by
  intro z hz;cases y with
  |tmp t=>simp[bK.of]at hz
  |const v=>simp only[bK.of,ju,bK.wW.injEq]at hz;obtain⟨d,hd,rfl⟩:=hz;exact⟨v,rfl,.inl hd⟩
  |func f=>simp only[bK.of,cq,bK.wW.injEq]at hz;subst hz;exact⟨_,rfl,.inr (.inl ⟨_,rfl⟩)⟩
  |global g=>
   simp only[bK.of,ju,bK.wW.injEq]at hz;obtain⟨p,_,rfl⟩:=hz;exact⟨_,rfl,.inr (.inr ⟨_,rfl⟩)⟩
 split at h
 .obtain⟨v,hv,hc|⟨f,hf⟩|⟨f,hf⟩⟩:=key hy
  .unfold vm at hc;split at hc<;>simp at hc
   exact .inl ⟨by simpa using h.symm,⟨_,rfl⟩,hv⟩
  .cases hf
  .cases hf
 .obtain⟨v,hv,hc|⟨f,hf⟩|⟨f,hf⟩⟩:=key hy
  .unfold vm at hc;split at hc<;>simp at hc
   exact .inr (.inl ⟨by simpa using h.symm,⟨_,rfl⟩,hv⟩)
  .cases hf
  .cases hf
 .obtain⟨v,hv,hc|⟨f,hf⟩|⟨f,hf⟩⟩:=key hy
  .unfold vm at hc;split at hc<;>simp at hc
   exact .inr (.inr ⟨by simpa using h.symm,⟨_,_,_,rfl⟩,hv⟩)
  .cases hf
  .cases hf
 .cases h
def wx(d:Nat)(hd:d=9999)(t:TypeId)(x y:Value):(Op.equal t x y)=Op.equalIn (d+1) t x y:=by subst hd;rfl
def y8(t e:TypeId)(p:Option Addr)(n c:Nat)(h:P.underlying t=some (.slice e)):(Op.equal t (.slice p n c) (.slice none 0 0)).run P w=.ok p.isNone w:=by
 obtain⟨d,hd⟩:∃d,d=9999:=⟨_,rfl⟩;rw[wx d hd,Op.equalIn];cases p<;>simp[run_underlying h]
def CZ(t e:TypeId)(p:Option Addr)(h:P.underlying t=some (.pointer e)):(Op.equal t (.pointer p) (.pointer none)).run P w=.ok p.isNone w:=by
 obtain⟨d,hd⟩:∃d,d=9999:=⟨_,rfl⟩;rw[wx d hd,Op.equalIn];cases p<;>simp[run_underlying h]
def EA(t:TypeId){q1 q2 q3}(v:Value)(r:Bool)(h:P.underlying t=some (.func q1 q2 q3))(hv:(v=.nilFunc/\r=true)\/(∃f b c,v=.func f b c)/\r=false):(Op.equal t v .nilFunc).run P w=.ok r w:=by
 obtain⟨d,hd⟩:∃d,d=9999:=⟨_,rfl⟩;rw[wx d hd,Op.equalIn];rcases hv with⟨rfl,rfl⟩|⟨⟨f,b,c,rfl⟩,rfl⟩<;>simp[run_underlying h]
def Ab(hO:ci base W M w0 ab w L)(Uy:op=if neg then .neq else .eql){t:TypeId}{x y:Operand}(ho:o.op=.binOp op t x y yt){d:TypeDesc}(hd:P.underlying t=some d)(hy:bK.of y=some y'){k:Nat}(hk:xB d y'=some k)
   (h1:aD w W ab L d1 (a.eval x)) (aN:(gk k neg ab d1).ok):cu P base W M w0 ab L w a o (gk k neg ab d1):=by
 have hv:=Jy (a:=a) hy hk;have dM:∀{r:Bool},gk k neg ab d1=⟨(gk k neg ab d1).ok,.v (.bool (neg^^r)),none⟩->(execOp a.eval o).run P w=.ok (.value (.bool (neg^^r))) w->cu P base W M w0 ab L w a o (gk k neg ab d1):=by
  intro r e h;rw[e];exact cu.bool hO rfl rfl h
 have sl:∀{p:Option Addr} {n c:Nat},k=0->a.eval x=.slice p n c->(execOp a.eval o).run P w=.ok (.value (.bool (neg^^p.isNone))) w:=by
  intro p n c h0 hx;rcases hv with⟨_,⟨e,rfl⟩,Lj⟩|⟨h,_⟩|⟨h,_⟩
  .refine Ha Uy ho (by simp[hx]) (by simp[hx]) (by simp[hx]) (by simp[hx]) (by simp[hx]) (by simp[hx]) (by rw[hx,Lj];exact y8 t e p n c hd) ?_;rw[hx,Lj,Uy];cases neg<;>simp[eqGuard]
  .omega
  .omega
 have pt:∀{p:Option Addr},k=1->a.eval x=.pointer p->(execOp a.eval o).run P w=.ok (.value (.bool (neg^^p.isNone))) w:=by
  intro p h0 hx;rcases hv with⟨h,_⟩|⟨_,⟨e,rfl⟩,Lj⟩|⟨h,_⟩
  .omega
  .refine Ha Uy ho (by simp[hx]) (by simp[hx]) (by simp[hx]) (by simp[hx]) (by simp[hx]) (by simp[hx]) (by rw[hx,Lj];exact CZ t e p hd) ?_;rw[hx,Lj,Uy];cases neg<;>simp[eqGuard]
  .omega
 have fn:∀{v:Value} {r:Bool},k=2->a.eval x=v->(v=.nilFunc/\r=true)\/(∃f b c,v=.func f b c)/\r=false->(execOp a.eval o).run P w=.ok (.value (.bool (neg^^r))) w:=by
  intro v r h0 hx Bc;rcases hv with⟨h,_⟩|⟨h,_⟩|⟨_,⟨q1,q2,q3,rfl⟩,Lj⟩
  .omega
  .omega
  .have he:=EA (w:=w) t v r hd Bc;subst hx;refine Ha Uy ho ?_ ?_ ?_ ?_ ?_ ?_ (by rw[Lj];exact he) ?_;all_goals rcases Bc with⟨hx,rfl⟩|⟨⟨f,b,c,hx⟩,rfl⟩<;>first|(simp[hx];done)|(rw[hx,Lj,Uy];cases neg<;>simp[eqGuard])
 cases d1 with
 |v t'=>
  cases t' with
  |sl aC=>
   simp only[gk]at aN;obtain⟨h0,dd⟩:=aN;simp only[aD,be]at h1;rcases h1 with⟨rfl,_⟩|⟨b,oo,c,sz,hx,_⟩
   .exact qe rfl dd
   .exact dM (r:=false) rfl (sl h0 hx)
  |fn f cz=>
   cases f with
   |func f=>simp only[aD,be]at h1;obtain⟨vs,hx,_⟩:=h1;exact dM (r:=false) rfl (fn aN hx (.inr ⟨⟨_,_,_,rfl⟩,rfl⟩))
   |_=>exact aN.elim
  |box cs=>simp only[aD,be]at h1;obtain⟨b,oo,hx,_⟩:=h1;exact dM (r:=false) rfl (pt aN hx)
  |tf v=>
   simp only[aD,be]at h1;cases v with
   |slice p n c=>exact dM (r:=p.isNone) rfl (sl aN h1)
   |pointer p=>exact dM (r:=p.isNone) rfl (pt aN h1)
   |nilFunc=>exact dM (r:=true) rfl (fn aN h1 (.inl ⟨rfl,rfl⟩))
   |_=>exact aN.elim
  |_=>exact aN.elim
 |ptr r off=>simp only[aD]at h1;exact dM (r:=false) rfl (pt aN h1.2)
 |j9 cs off=>simp only[aD]at h1;obtain⟨b,oo,hx,_⟩:=h1;exact dM (r:=false) rfl (pt aN hx)
 |mw aC i off=>simp only[aD]at h1;obtain⟨b,oo,sz,hx,_⟩:=h1;exact dM (r:=false) rfl (pt aN hx)
 |kr r bG i off=>simp only[aD]at h1;obtain⟨⟨b,oo,hx⟩,_⟩:=h1;exact dM (r:=false) rfl (pt aN hx)
 |AI f cz=>
  cases f with
  |func f=>simp only[aD]at h1;obtain⟨vs,hx,_⟩:=h1;exact dM (r:=false) rfl (fn aN hx (.inr ⟨⟨_,_,_,rfl⟩,rfl⟩))
  |_=>exact aN.elim
 |aW r bG=>
  cases hc:ab r with
  |none=>simp[gk,hc,cW]at aN
  |some ob=>
   cases ob with
   |bm bM e' jt aC=>
    have e1:gk k neg ab (.aW r bG)=⟨k=0/\bG=bM/\aC≠[],.v (.bool (neg^^false)),none⟩:=by simp only[gk,hc]
    rw[e1]at aN;obtain⟨h0,rfl,dd⟩:=aN;simp only[aD]at h1;obtain⟨_,pW,e2,EZ,lZ,po,_,nk⟩:=h1;rw[hc]at po;cases po;have hx:=nk rfl;obtain⟨_,_,_,mE⟩:=hO.ob r _ hc;rcases mE with⟨rfl,_⟩|⟨g,cap,eJ,k1,_⟩
    .exact qe rfl dd
    .exact dM (r:=false) (by rw[e1]) (sl h0 (hx.trans k1))
   |_=>simp[gk,hc,cW]at aN
 |_=>exact aN.elim
def Mt(hO:ci base W M w0 ab w L){r m s l c:Nat}{sn:cN}(hr:ab r=some (.eo m s sn l))(hm:ab m=some (.map bZ agg c es))(cQ:∀e∈es,e.1<s)(hl:s<=l)(ty:TypeId):
  ((∀e∈es,e.1∈sn)/\(Instr.next (.pointer (some ⟨L.jK r,0,none⟩)) false ty).run P w=.ok (.tuple #[.bool false]) w)\/
  ∃e∈es,e.1∉sn/\∃k v w',(Instr.next (.pointer (some ⟨L.jK r,0,none⟩)) false ty).run P w=.ok (.tuple #[.bool true,k,v]) w'/\
   ci base W M w0 (cC ab (some (r,.eo m s (sn++[e.1]) c))) w' L/\jA W ab L w (cC ab (some (r,.eo m s (sn++[e.1]) c))) L w':=by
 obtain⟨hh,_,IM⟩:=hO.ob r _ hr;obtain⟨bm,hh2,nN,_⟩:=hO.ob m _ hm;have hg:=gn (P:=P) hh trivial;have hg2:=gn (P:=P) hh2 trivial;have aeg:∀x∈bm.toList,x.born<s:=by
  intro x hx;obtain⟨i,hi⟩:=Zcf hx;have sW:i<es.length:=by rw[<-bH.length nN];exact(tp.1 hi).1
  obtain⟨x',nK,hb,_⟩:=bH.get nN (mM sW);rw[hi]at nK;cases nK;rw[hb];exact cQ _ (MK sW)
 have amw:(!(sn.toArray).isEmpty&& !bm.isEmpty&&bm.all (λx=>decide (x.born>=l)))=false:=by
  cases he:bm.isEmpty with
  |true=>simp
  |false=>
   have dJ:bm.all (λx=>decide (x.born>=l))=false:=by
    rw[Bool.eq_false_iff];intro h;rw[Array.all_eq_true_iff_forall_mem]at h;have h0:0<bm.size:=by
     rcases Zc1 bm.size with h0|h0
     .simp[Array.isEmpty,h0]at he
     .exact h0
    have h1:=h _ (Array.getElem_mem h0);have h2:=aeg bm[0] (by simp);simp at h1;omega
   simp[dJ]
 have Pe:∀x,x∈bm.filter (λe=> !sn.toArray.contains e.born)↔x∈bm.toList/\x.born∉sn:=by
  intro x;simp
 have pq:∀x∈(bm.filter (λe=> !sn.toArray.contains e.born)),x.born<s:=λx hx=>aeg x ((Pe x).1 hx).1;simp only[Instr.next,Sem.run_bind,hg,hg2,Result.andThen_ok,amw,Ig,A0];generalize hL:bm.filter (λe=> !sn.toArray.contains e.born)=A at Pe pq⊢;have e1:A.filter (λx=>decide (x.born<s))=A:=Array.filter_eq_self.2 (λx hx=>by simpa using pq x hx);have e2:A.filter (λx=>decide (x.born>=s))= #[]:=by
  rw[Array.filter_eq_empty_iff];intro x hx;have:=pq x hx;simp;omega
 simp only[e1,e2,Zb8];by_cases h0:A.size=0
 .left;have:A= #[]:=Array.eq_empty_of_size_eq_zero h0;subst this;refine⟨λe he=>?_, ?_⟩
  .obtain⟨i,hi⟩:=Zcf he;obtain⟨x,hx,hb,_⟩:=bH.get nN hi;by_cases h:e.1∈sn
   .exact h
   .have:=(Pe x).2 ⟨Hf hx,by rw[hb];exact h⟩;simp at this
  .simp[choose,Sem.run,Question.forced]
 .right;have dd:A.isEmpty=false:=by simp[Array.isEmpty,h0]
  simp only[dd,Ig,A0,Array.empty_append,Array.size_map];have hch:∃(j:Nat) (w1:World),j<A.size/\(w1=w\/w1=w.drew)/\(choose (Question.mapNext A.size)).run P w=.ok j w1:=by
   by_cases hf:A.size<=1
   .exact⟨0,w,by omega,.inl rfl,by simp[choose,Sem.run,Question.forced,hf]⟩
   .exact⟨_,w.drew,Nat.mod_lt _ (by omega),.inr rfl,by
     simp only[choose,Sem.run,Question.forced,yN,hf,A0,Question.cut];rfl⟩
  obtain⟨j,w1,hj,hw1,bO⟩:=hch;have mX:=(Pe A[j]).1 (Array.getElem_mem hj);obtain⟨i,hi⟩:=Zcf mX.1;have sW:i<es.length:=by rw[<-bH.length nN];exact(tp.1 hi).1
  obtain⟨x',nK,hb,_⟩:=bH.get nN (mM sW);rw[hi]at nK;cases nK;have hhe:w1.heap=w.heap:=by rcases hw1 with rfl|rfl<;>rfl
  have hh1:w1.heap[L.jK r]? =some (.mapIter (some (L.jK m)) s sn.toArray l):=by rw[hhe];exact hh
  have aug:Fr base M w0 w1:=by
   rcases hw1 with rfl|rfl
   .exact hO.fr
   .exact⟨hO.fr.os,hO.fr.tape,hO.fr.output,hO.fr.jN,hO.fr.size,hO.fr.block,Nat.le_succ_of_le hO.fr.drawn⟩
  refine⟨es[i],MK sW,by rw[<-hb];exact mX.2,A[j].key,A[j].val,w1.gR (L.jK r) (.mapIter (some (L.jK m)) s (sn.toArray.push A[j].born) c), ?_, ?_⟩
  .simp only[bO,Array.getElem?_map,ZbV hj,Rp,Sem.run_bind,pa (P:=P) hh1 trivial,Result.andThen_ok,Sem.run_pure]
  .rw[hb];refine ci.put hO (Fs _ aug IM) (by rw[ug,hhe];exact gJ _) (λ_ _=>⟨rfl,rfl⟩) rfl (λb _ hb=>(rV (λx=>hb _ hr (by simp[Loc.own,x]))).trans (by rw[hhe]))
    (λb hb=>.inl ⟨_,hr,hb⟩) (λo' j5 _=>by rw[hr]at j5;cases j5;exact⟨rfl,rfl⟩) (λbG e sz aC h=>by rw[hr]at h;cases h) (λgq=>?_)
   refine⟨?_, ?_,IM⟩
   .rw[Ar hh1];simp
   .have dd:m≠r:=λe=>by rw[e,hr]at hm;cases hm
    exact⟨bZ,agg,c,es,by simp[cC,dd,hm]⟩
end
end
section
variable{neg:Bool}{bZ:List Sh}{desc:TypeDesc}{sz Mb:Nat}{zero:aG}
variable [bD]
section
variable{P:Program}{base:Nat}{W M:fm}{w0:World}{ab:bS}{L:Loc}{w:World}{a:Act}{o:Oper}{Γ:kv}{name:Nat}{ρ:dW}{d:qO}
def xD{fT:Bool}(W':fm)(hO:ci base W M w0 ab w L)(hW:fT=true->∀r o b,ab r=some o->L.own r o=some b->¬W' b)(Rx:∀b,W' b->WW W ab L b):
  (∀(d:DV) (x:Value),aD w W ab L d x->Ed fT ab d->be w W' (sY ab d) x)/\(∀(ds:bW) (xs:List Value),aU w W ab L ds xs->tF fT ab ds->dt w W' (jr ab ds) xs):=by
 have hk:c8 (WW W ab L) w w:=c8.refl _ _;have one:∀(n:Nat),(∀(d:DV) (x:Value),SizeOf.sizeOf d<n->aD w W ab L d x->Ed fT ab d->be w W' (sY ab d) x)/\(∀(ds:bW) (xs:List Value),SizeOf.sizeOf ds<n->aU w W ab L ds xs->tF fT ab ds->dt w W' (jr ab ds) xs):=by
  intro n;induction n with
  |zero=>exact⟨λ_ _ h=>by omega,λ_ _ h=>by omega⟩
  |succ n ih=>
   refine⟨λd x hn h aN=>?_,λds xs hn h aN=>?_⟩
   .cases d with
    |v t=>simp only[aD]at h;simp only[sY];exact be.aL hk.toKeepsC (λb _ hb=>Rx b hb) t x h
    |aZ=>
     simp only[aD]at h;obtain⟨p,rfl⟩:=h;simp only[sY,be];exact .inl ⟨trivial,p,0,rfl⟩
    |aW r bG=>
     simp only[Ed]at aN;obtain⟨hl,aN⟩:=aN;simp only[aD]at h;obtain⟨_,bM,e,sz,aC,hc,_,hv⟩:=h;simp only[hc]at aN;have hv:=hv aN;subst hv;simp only[sY,hc,be];have eH:=hO.ob r _ hc;obtain⟨jc,cK,hm,mE⟩:=eH;rcases mE with⟨rfl,p,hp⟩|⟨g',cap,eJ,sG,hp,hh,io,tN,Gx,ip⟩
     .exact .inl ⟨rfl,p,0,hp⟩
     .have wg:bk (L.sl r)=some g':=by simp[sG,bk,Et.1 hp]
      refine .inr ⟨g',0,cap,sz,sG,(cM.1 hh).1,hW hl r _ g' hc (by simpa [Loc.own]using wg),io, ?_⟩;have pY:=pw.aC (hO.ob r _ hc) (g:=g') (by simp[sG,bk,Et.1 hp]);by_cases hg:g'<w.heap.size
      .obtain⟨vs,qN,Bc,Up⟩:=bw.flatten pY;exact bw.jO (dt.aL hk.toKeepsC (λb _ hb=>Rx b hb) _ _ Bc) cK Up
      .exact qe (cM.1 hh).1 hg
    |agg cs=>
     simp only[aD]at h;obtain⟨vs,rfl,hr⟩:=h;simp only[sY,be];simp only[Ed]at aN;exact⟨vs,rfl,ih.2 cs _ (by simp at hn⊢;omega) hr aN⟩
    |AI f cs=>
     simp only[aD]at h;obtain⟨vs,rfl,hr⟩:=h;simp only[sY,be];simp only[Ed]at aN;exact⟨vs,rfl,ih.2 cs _ (by simp at hn⊢;omega) hr aN⟩
    |v7 r bG lo m=>
     simp only[Ed]at aN;obtain⟨hl,aN⟩:=aN;simp only[aD]at h;obtain⟨_,bM,e,sz,aC,hc,_,hv⟩:=h;simp only[hc]at aN;have hv:=hv aN.1;simp only[sY,hc,be];have mq:((aC.drop lo).take m).length=m:=by rw[Ee,OJ];omega
     rcases tO hO hc hv with⟨rfl,a,c,rfl⟩|⟨g,c,wg,rfl,Rv,hr⟩
     .exact .inl ⟨by simp,a,c,rfl⟩
     .refine .inr ⟨g,lo*sz,c,sz,by rw[mq],(hO.ob r _ hc).lt (by simpa [Loc.own]using wg),hW hl r _ g hc (by simpa [Loc.own]using wg),by omega, ?_⟩;obtain⟨vs,qN,Bc,Up⟩:=bw.flatten hr;exact bw.jO (dt.aL hk.toKeepsC (λb _ hb=>Rx b hb) _ _ Bc) (λx hx=>(hO.ob r _ hc).2.1 x (Zcd (yS hx))) Up
    |_=>exact aN.elim
   .cases ds with
    |nil=>simpa [aU,dt,jr]using h
    |cons d ds=>
     simp only[aU]at h;obtain⟨x,nj,rfl,h1,h2,hr⟩:=h;simp only[tF]at aN;simp only[jr,dt];exact⟨x,nj,rfl,h1,ih.1 d x (by simp at hn⊢;omega) h2 aN.1,ih.2 ds nj (by simp at hn⊢;omega) hr aN.2⟩
 exact⟨λd x=>(one (SizeOf.sizeOf d+1)).1 d x (by omega),λds xs=>(one (SizeOf.sizeOf ds+1)).2 ds xs (by omega)⟩
def Mc{agg:Bool}{t u:T}(h:¬((∃as,t=.agg as)/\∃bs,u=.agg bs)):B0 neg agg bZ t u=⟨agg=false/\d8 bZ [t]/\d8 bZ [u],.v (.bool (neg^^gQ t u)),none⟩:=by
 cases t<;>first|rfl|(cases u<;>first|rfl|exact qe ⟨⟨_,rfl⟩,⟨_,rfl⟩⟩ h)
def OU{n:Nat}{t:TypeId}{s:Sh}(hs:lH P (n+1) t=some [s])(hd:P.underlying t=some desc)(ha:bU desc=false):(s=.bool/\desc=.bool)\/(s=.str/\desc=.string)\/∃k,s=.int k/\desc=.int k:=by
 simp only[lH,hd]at hs;cases desc;case bool=>simp at hs;exact .inl ⟨hs.symm,rfl⟩
 case int k=>simp at hs;exact .inr (.inr ⟨k,hs.symm,rfl⟩)
 case string=>simp at hs;exact .inr (.inl ⟨hs.symm,rfl⟩)
 case struct=>exact qe ha (by simp[bU])
 case array=>exact qe ha (by simp[bU])
 all_goals exact qe hs (by simp)
def I4{op:BinOp}{t:TypeId}{x y:Operand}{yt:TypeId}(Uy:op=if neg then .neq else .eql)(ho:o.op=.binOp op t x y yt)(hd:P.underlying t=some desc)(OV:∀k,desc≠ .int k)(hs:lH P 10000 t=some bZ)(hg:P.eqGuardType P.depth t=false)
  (hO:ci base W M w0 ab w L) {d1 d2:DV} (h1:aD w W ab L d1 (a.eval x)) (h2:aD w W ab L d2 (a.eval y)) (k1:Ed true ab d1) (k2:Ed true ab d2) (aN:(B0 neg (bU desc) bZ (sY ab d1) (sY ab d2)).ok):
  cu P base W M w0 ab L w a o ⟨True,(B0 neg (bU desc) bZ (sY ab d1) (sY ab d2)).val,none⟩:=by
 have r1:=(xD (fT:=true) (λ_=>False) hO (λ_ _ _ _ _ _ h=>h) (λ_ h=>h.elim)).1 d1 _ h1 k1;have r2:=(xD (fT:=true) (λ_=>False) hO (λ_ _ _ _ _ _ h=>h) (λ_ h=>h.elim)).1 d2 _ h2 k2;by_cases alP:(∃as,sY ab d1=.agg as)/\∃bs,sY ab d2=.agg bs
 .obtain⟨⟨as,t1⟩,bs,t2⟩:=alP;simp only[t1,t2,B0]at aN⊢;obtain⟨ha,f1,f2⟩:=aN;rw[t1]at r1;rw[t2]at r2;simp only[be]at r1 r2;obtain⟨xs,e1,g1⟩:=r1;obtain⟨ys,e2,g2⟩:=r2;have hq:(Op.equal t (.agg xs) (.agg ys)).run P w=.ok (F2 as bs) w:=by
   have:=rD 10000 t bZ desc hs hd xs.toList ys.toList w (jo f1 g1) (jo f2 g2);simp only[yA,ha,Eg,ZcN]at this;rw[yO f1 f2 g1 g2];exact this
  have Uz:=run_eqGuard_agg w op t x y xs ys hg;refine cu.bool hO rfl rfl ?_;subst Uy;cases neg<;>simp only[Eg,A0,Ig]at ho Uz<;>simp[execOp,ho,e1,e2,Uz,binOp,hq]
 .rw[Mc alP]at aN⊢;obtain⟨ha,f1,f2⟩:=aN;obtain⟨s,rfl,g1⟩:=oE f1;obtain⟨s2,Tk,g2⟩:=oE f2;obtain rfl:s=s2:=by simpa using Tk
  refine cu.bool hO rfl rfl ?_;rw[I5 g1 g2 r1 r2];subst Uy;cases s with
  |bool=>
   have hdb:P.underlying t=some .bool:=by
    rcases OU (n:=9999) hs hd ha with⟨_,rfl⟩|⟨h,_⟩|⟨k,h,_⟩
    .exact hd
    .cases h
    .cases h
   cases OR:sY ab d1<;>rw[OR]at g1 r1<;>first|exact qe g1 A1|skip
   cases T5:sY ab d2<;>rw[T5]at g2 r2<;>first|exact qe g2 A1|skip
   simp only[be]at r1 r2;cases neg<;>simp[execOp,ho,r1,r2,eqGuard,run_eql_bool,run_neq_bool,hdb,veq]
  |str=>
   cases OR:sY ab d1<;>rw[OR]at g1 r1<;>first|exact qe g1 A1|skip
   cases T5:sY ab d2<;>rw[T5]at g2 r2<;>first|exact qe g2 A1|skip
   simp only[be]at r1 r2;cases neg<;>simp[execOp,ho,r1,r2,eqGuard,binOp,Op.stringOp,veq]
  |int k=>
   rcases OU (n:=9999) hs hd ha with⟨h,_⟩|⟨h,_⟩|⟨k',_,h⟩
   .cases h
   .cases h
   .exact qe h (OV k')
def z8{W':fm}{sz:Nat}:∀(n:Nat) (cs:aG) (vs:List Value) (b o:Nat),cs.length=n*sz->dt w W' cs vs->(∀j v,vs[j]? =some v->w.cell? ⟨b,o+j,none⟩=some v)->bw w W' sz b o (di sz n cs)
 |0,_,_,_,_,_,_,_=>by simp[di,bw]
 |n+1,cs,vs,b,o,hl,hr,hc=>by
  have jc:sz<=cs.length:=by rw[hl,Fb];omega
  have qN:=dt.length hr;simp only[di,bw];refine⟨by simp;omega, ?_, ?_⟩
  .refine dY.FI (dt.take sz hr) λj v hj=>hc j v ?_;rw[L7]at hj;split at hj
   .exact hj
   .cases hj
  .refine z8 n _ (vs.drop sz) b (o+sz) (by rw[OJ,hl,Fb];omega) (dt.drop sz hr) λj v hj=>?_;rw[ZbY]at hj;have:=hc (sz+j) v hj
   rwa [show o+sz+j=o+(sz+j)by omega]
def xE(sz:Nat):∀(n:Nat) (cs:aG),(di sz n cs).length=n
 |0,_=>rfl
 |n+1,cs=>by simp[di,xE sz n]
def xF:∀(ps:List (Nat×Nat×DV)) (ds:bW),tH ds.length ps->(vI ds ps).length=ds.length
 |[],ds,_=>rfl
 |(off,sz,d)::ps,ds,h=>by
  simp only[tH]at h;obtain⟨h1,h2,h3,h4⟩:=h;have hl:(cg ds off (cellsOf d)).length=ds.length:=gW (by omega);simp only[vI];rw[xF ps _ (by rw[hl];exact h4),hl]
def Aa(hg:BY w (WW W ab L))(jF:∀t,aD w W ab L (ρ t) (a.tmps.getD t Go.undef)):∀{xs:List Operand} {ys:List bK},xs.mapM bK.of=some ys->∀(i:Nat) (x:Operand) (y:bK),xs[i]? =some x->ys[i]? =some y->aD w W ab L (y.ev ρ) (a.eval x)
 |[],ys,h,i,x,y,hx,_=>by simp at hx
 |x::xs,ys,h,i,p,q,hp,hq=>by
  simp only[Zbw,vj,kw,jE,cq]at h;obtain⟨y,hy,ys',qq,rfl⟩:=h;cases i with
  |zero=>
   simp only[Bd,cq]at hp hq;subst hp hq;exact bK.bJ hg jF hy
  |succ i=>exact Aa hg jF qq i p q (by simpa using hp) (by simpa using hq)
def tU:∀{xs:List Operand} {ys:List bK},xs.mapM bK.of=some ys->ys.length=xs.length
 |[],ys,h=>by simp at h;simp[h]
 |x::xs,ys,h=>by
  simp only[Zbw,vj,kw,jE,cq]at h;obtain⟨y,hy,ys',qq,rfl⟩:=h;simp[tU qq]
def Cf(hg:BY w (WW W ab L))(jF:∀t,aD w W ab L (ρ t) (a.tmps.getD t Go.undef)){x:Option Operand}{y:Option bK}(h:Ca x=some y):(y.map (·.ev ρ)=none/\x.map a.eval=none)\/∃dl vl,y.map (·.ev ρ)=some dl/\x.map a.eval=some vl/\aD w W ab L dl vl:=by
 cases x with
 |none=>simp only[Ca,cq]at h;subst h;exact .inl ⟨rfl,rfl⟩
 |some x=>
  simp only[Ca,ju]at h;obtain⟨z,hz,rfl⟩:=h;exact .inr ⟨_,_,rfl,rfl,bK.bJ hg jF hz⟩
def UA{d:DV}{v:Value}(hp:tG d)(h:aD w W ab L d v):v.oneCell'=true:=by
 cases d with
 |aZ=>simp only[aD]at h;obtain⟨p,rfl⟩:=h;rfl
 |v t=>
  simp only[aD]at h;cases t with
  |agg ts=>exact qe hp A1
  |dh ts=>exact qe hp A1
  |tf x=>simp only[be]at h;subst h;exact hp
  |sl aC=>simp only[be]at h;rcases h with⟨_,_,_,rfl⟩|⟨_,_,_,_,rfl,_⟩<;>rfl
  |fn f cz=>simp only[be]at h;obtain⟨_,rfl,_⟩:=h;rfl
  |box cs=>simp only[be]at h;obtain⟨_,_,rfl,_⟩:=h;rfl
  |bool b=>simp only[be]at h;subst h;rfl
  |int k n=>simp only[be]at h;subst h;rfl
  |str k=>simp only[be]at h;subst h;rfl
 |_=>exact hp.elim
def UB{d:DV}{v:Value}(hp:kK d)(h:aD w W ab L d v):v.oneCell'=true:=by
 cases d with
 |undef=>exact hp.elim
 |skip=>exact hp.elim
 |agg cs=>exact hp.elim
 |dh cs=>exact hp.elim
 |v t=>exact UA (d:=.v t) hp h
 |aZ=>simp only[aD]at h;obtain⟨p,rfl⟩:=h;rfl
 |ptr r off=>simp only[aD]at h;obtain⟨_,rfl⟩:=h;rfl
 |aW r bG=>simp only[aD]at h;obtain⟨⟨_,_,_,rfl⟩,_⟩:=h;rfl
 |mw aC i off=>simp only[aD]at h;obtain⟨_,_,_,rfl,_⟩:=h;rfl
 |j9 cs off=>simp only[aD]at h;obtain⟨_,_,rfl,_⟩:=h;rfl
 |kr r bG i off=>simp only[aD]at h;obtain⟨⟨_,_,rfl⟩,_⟩:=h;rfl
 |BZ=>simp only[aD]at h;subst h;rfl
 |fH r=>simp only[aD]at h;obtain⟨_,rfl⟩:=h;rfl
 |eo r=>simp only[aD]at h;obtain⟨_,rfl⟩:=h;rfl
 |v7 r bG lo n=>simp only[aD]at h;obtain⟨⟨_,_,rfl⟩,_⟩:=h;rfl
 |AH r n=>simp only[aD]at h;obtain⟨_,rfl⟩:=h;rfl
 |AI f cs=>simp only[aD]at h;obtain⟨_,rfl,_⟩:=h;rfl
def E8(hg:BY w (WW W ab L))(jF:∀t,aD w W ab L (ρ t) (a.tmps.getD t Go.undef)):∀{xs:List Operand} {ys:List bK},xs.mapM bK.of=some ys->eQ (ys.map (·.ev ρ))->aU w W ab L (ys.map (·.ev ρ)) (xs.map a.eval)
 |[],ys,h,_=>by simp at h;subst h;simp[aU]
 |x::xs,ys,h,hp=>by
  simp only[Zbw,vj,kw,jE,cq]at h;obtain⟨y,hy,ys',qq,rfl⟩:=h;simp only[vG,eQ]at hp;simp only[vG,aU];have r:=bK.bJ hg jF hy;exact⟨_,_,rfl,UB hp.1 r,r,E8 hg jF qq hp.2⟩
def yP:∀{ds:bW},xq ds=true->iA ds
 |[],_=>trivial
 |d::ds,h=>by
  cases d with
  |v t=>simp only[xq,mA]at h;exact⟨h.1,yP h.2⟩
  |aZ=>simp only[xq]at h;exact⟨trivial,yP h⟩
  |_=>simp[xq]at h
def UC(hc:dq P o=some d)(nX:∀f args,d≠ .call f args)(jF:∀t,aD w W ab L (ρ t) (a.tmps.getD t Go.undef))(hO:ci base W M w0 ab w L)(eO:ab name=none)(aN:(db Γ d name ρ ab).ok):
  cu P base W M w0 ab L w a o (db Γ d name ρ ab):=by
 unfold dq at hc;cases ho:o.op<;>simp only[ho,reduceCtorEq]at hc
 case move x=>
  simp only[ju]at hc;obtain⟨y,hy,rfl⟩:=hc;exact cu.l7 hO rfl (v:=a.eval x) (by simp[execOp,ho]) (bK.bJ hO.gl jF hy)
 case assign x=>
  simp only[ju]at hc;obtain⟨y,hy,rfl⟩:=hc;exact cu.l7 hO rfl (v:=a.eval x) (by simp[execOp,ho]) (bK.bJ hO.gl jF hy)
 case pick c x y=>
  simp only[vj,kw,jE,cq]at hc;obtain⟨c',hc',x',hx,y',hy,rfl⟩:=hc;have r:=bK.bJ hO.gl jF hc';unfold db at aN⊢;simp only at aN⊢;split at aN
  .rename_i t ht;rw[ht]at r;simp only[aD,be]at r;refine cu.l7 hO rfl (v:=if t then a.eval x else a.eval y) (by simp[execOp,ho,r,asBool]) ?_;cases t
   .exact bK.bJ hO.gl jF hy
   .exact bK.bJ hO.gl jF hx
  .exact aN.elim
 case alloc e=>
  simp only[vj,kw,jE,cq]at hc;obtain⟨i,hi,z,hz,zs,XS,rfl⟩:=hc;have h:=Gz hO eO e (jd XS);refine⟨_,.pointer (some ⟨w.heap.size,0,none⟩),_,_, ?_,.inl rfl,h.1,h.2, ?_⟩
  .simp[execOp,ho,Instr.alloc,zeroValue,typeInfo,hi,hz,newVar,newRow]
  .simp only[db,aD];exact⟨⟨zs,by simp[cC]⟩,by simp[Loc.gX]⟩
 case box e x=>
  simp only[ju]at hc;obtain⟨y,hy,rfl⟩:=hc;have h:=Gz hO eO e (aD.cells (bK.bJ hO.gl jF hy) aN);refine⟨_,.pointer (some ⟨w.heap.size,0,none⟩),_,_, ?_,.inl rfl,h.1,h.2, ?_⟩
  .simp[execOp,ho,Instr.box,newVar,newRow]
  .simp only[db,aD];exact⟨⟨cellsOf (y.ev ρ),by simp[cC]⟩,by simp[Loc.gX]⟩
 case build t parts=>
  simp only[vj,kw,jE,cq]at hc;obtain⟨i,hi,z,hz,zs,XS,pl,Ti,ps,UD,rfl⟩:=hc;have hzr:=jd (w:=w) (W:=W) (ab:=ab) (L:=L) XS;have Ut:=aU.length hzr;simp only[Lt]at Ut;simp only[db]at aN⊢;obtain⟨cells,h1,h2,h3⟩:=Cb hO.gl jF parts.toList ps UD z.cells zs hzr (by rw[Ut];exact aN);have hb:P.built t (parts.map λx=>(x.1,a.eval x.2)).toList=some cells:=by
   unfold Program.built;unfold B9 at Ti;cases hu:P.underlying t with
   |none=>simp[hu]at Ti
   |some desc=>
    cases desc<;>simp only[hu,reduceCtorEq]at Ti
    case array n e=>
     simp only[ju]at Ti;obtain⟨ie,hie,rfl⟩:=Ti;simpa [hi,hz,hie]using h1
    case struct Uw=>
     simp only[ju]at Ti;obtain⟨pl',atN,rfl⟩:=Ti;simp only[hi,hz,atN,Array.toList_map];simpa using h1
  refine cu.l7 hO rfl (v:=.agg cells) ?_ (by simp only[aD];exact⟨cells,rfl,h2⟩);have:=run_build w t (parts.map λx=>(x.1,a.eval x.2)) cells hb;simp[execOp,ho,this]
 case buildSlice t len parts=>
  split at hc
  .rename_i e hu;simp only[vj,kw,jE]at hc;obtain⟨i,hi,hc⟩:=hc;split at hc
   .cases hc
   .rename_i jc;simp only[jE,cq]at hc;obtain⟨z,hz,zs,XS,ps,UD,rfl⟩:=hc
    replace XS:(((Array.range (len*i.size)).map (z.cells[· % z.cells.size]!)).toList).mapM vm=some zs:=by simpa using XS
    have hzr:=jd (w:=w) (W:=W) (ab:=ab) (L:=L) XS;have Ut:=aU.length hzr;have ct:¬len*i.size>2^24:=λh=>jc (.inl h);have Uv:i.size≠0:=λh=>jc (.inr h);simp only[Lt,Array.size_map,Array.size_range]at Ut;simp only[db]at aN⊢;by_cases h0:len=0
    .subst h0;simp only[Eg]at aN⊢;subst aN;have hp0:parts.toList=[]:=by
      cases hp:parts.toList with
      |nil=>rfl
      |cons p ps'=>
       rw[hp]at UD;simp only[rE,Zbw,vj,kw,jE,cq,reduceCtorEq,Lh,Ei]at UD
     have Zg:parts= #[]:=by cases parts;simp_all
     have hr:=tT (P:=P) w hu hi hz 0 (by simp) (parts:= #[]) (cells:= #[]) (by simp[Instr.fill,Array.range_zero']);have hg:=ci.grow hO (ln (w:=w) (.cells #[] e));refine⟨_,.slice (some ⟨w.heap.size,0,none⟩) 0 0,_,L, ?_,.inl rfl,hg.1,hg.2,by simp only[aD];exact⟨_,rfl⟩⟩;simp[execOp,ho,Zg,hr]
    .simp only[h0,A0]at aN⊢;obtain⟨hf,UE⟩:=aN;obtain⟨cells,h1,h2,h3⟩:=Cb hO.gl jF parts.toList ps UD _ zs hzr (by simpa using hf);have hr:=tT (P:=P) w hu hi hz len ct (parts:=parts.map λx=>(x.1,a.eval x.2)) (cells:=cells) (by simpa using h1);have hg:=ci.grow hO (ln (w:=w) (.cells cells e));refine⟨_,.slice (some ⟨w.heap.size,0,none⟩) len len,_,L, ?_,.inl rfl,hg.1,hg.2, ?_⟩
     .simp[execOp,ho,hr]
     .have BS:=oa (OO:=λ_=>none) UE (aU.gq hg.2 _ _ h2);simp only[cC,aD,be,xE];refine .inr ⟨w.heap.size,0,len,i.size,rfl,by simp, ?_,gJ _, ?_⟩
      .rintro(hw|⟨r,ob,ql,qd⟩)
       .have h1:=hO.under _ hw;have h2:=hO.fr.jN;have h3:=hO.fr.size;omega
       .have:=(hO.ob r ob ql).lt qd;omega
      .refine z8 len _ cells.toList _ _ ?_ BS λj v hj=>?_
       .rw[tM,xF _ _ (by rw[<-Ut];exact hf),<-Ut]
       .rw[Ow,cell_of_row (w.alloc (.cells cells e)) w.heap.size j cells e (0,0) (heap_alloc_new w _)];simpa using hj
  .cases hc
 case load t x=>
  split at hc
  .rename_i desc i hd hi;simp only[ju]at hc;obtain⟨y,hy,rfl⟩:=hc;simp only[db]at aN⊢;obtain⟨hp,v,bO,hv⟩:=wb hO hd hi (bK.bJ hO.gl jF hy) aN;exact cu.l7 hO hp (v:=v) (by simp[execOp,ho,bO]) hv
  .cases hc
 case store t x y=>
  simp only[vj,kw,jE,cq]at hc;obtain⟨i,hi,x',hx,y',hy,rfl⟩:=hc;have rx:=bK.bJ hO.gl jF hx;have ry:=bK.bJ hO.gl jF hy;simp only[db]at aN⊢;cases hd:x'.ev ρ with
  |ptr r off=>
   rw[hd]at rx;simp only[aD]at rx;obtain⟨⟨cs,mZ⟩,hxv⟩:=rx;simp only[hd,lV,mZ]at aN⊢;obtain⟨w',h1,h2,h3⟩:=Rm hO hi mZ ry aN.1 aN.2.1 aN.2.2;exact⟨.skip,Go.undef,w',L,by simp[execOp,ho,hxv,h1],.inr ⟨rfl,rfl⟩,h2,h3,by simp[aD]⟩
  |kr r bG j off=>
   rw[hd]at rx;simp only[aD]at rx;obtain⟨_,bM,e,sz,aC,mZ,_,xA⟩:=rx;simp only[hd,lV,mZ]at aN⊢;obtain⟨rfl,hn,QT,UE⟩:=aN;obtain⟨g,hg,hxv,h0,h1⟩:=xA rfl;obtain⟨w',h1,h2,h3⟩:=Rn hO hi mZ hg h0 h1 ry hn QT UE;exact⟨.skip,Go.undef,w',L,by simp[execOp,ho,hxv,h1],.inr ⟨rfl,rfl⟩,h2,h3,by simp[aD]⟩
  |_=>rw[hd]at aN;exact aN.elim
 case nilCheck x=>
  simp only[ju]at hc;obtain⟨y,hy,rfl⟩:=hc;have rx:=bK.bJ hO.gl jF hy;simp only[db]at aN⊢;obtain⟨h1,h2,h3⟩:=Ce rx aN;refine cu.l7 hO h1 (v:=a.eval x) ?_ (by rw[h2];exact rx);rcases h3 with⟨p,hp⟩|⟨f,cz,hp⟩
  .simp only[execOp,ho,hp];simp
  .simp only[execOp,ho,hp];simp
 case binOp op t x y yt=>
  simp only[kw,jE]at hc;obtain⟨x',hx,y',hy,hc⟩:=hc;have rx:=bK.bJ hO.gl jF hx;have ry:=bK.bJ hO.gl jF hy;unfold mQ at hc;split at hc
  .split at hc;all_goals first
    |(simp only[cq]at hc;subst hc;exact af8 hO ho rx ry aN)
    |cases hc
  .rename_i desc OV hd;split at hc
   .rename_i bZ hs;split at hc
    .cases hc
    .rename_i hg;simp only[cq]at hc;subst hc;simp only[db]at aN⊢;obtain⟨k1,k2,aN⟩:=aN;exact I4 (neg:=false) rfl ho hd (λk hk=>OV k hk) hs (by simpa using hg) hO rx ry k1 k2 aN
   .rename_i bZ hs;split at hc
    .cases hc
    .rename_i hg;simp only[cq]at hc;subst hc;simp only[db]at aN⊢;obtain⟨k1,k2,aN⟩:=aN;exact I4 (neg:=true) rfl ho hd (λk hk=>OV k hk) hs (by simpa using hg) hO rx ry k1 k2 aN
   .simp only[ju]at hc;obtain⟨k,hk,rfl⟩:=hc;exact Ab (neg:=false) hO rfl ho hd hy hk rx aN
   .simp only[ju]at hc;obtain⟨k,hk,rfl⟩:=hc;exact Ab (neg:=true) hO rfl ho hd hy hk rx aN
   .cases hc
  .cases hc
 case makeMap t atO=>
  cases atO with
  |some h=>cases hc
  |none=>
   simp only at hc;split at hc
   .simp only[ju]at hc;obtain⟨ki,_,rfl⟩:=hc;exact I6 hO eO ho _ _
   .cases hc
 case lookup t x k ok=>
  split at hc
  .rename_i kt et ht;split at hc
   .rename_i ki z Li hz;simp only[vj,kw,jE,cq]at hc;obtain⟨x',hx,k',hk,rfl⟩:=hc;exact GG hO ho ht Li hz (bK.bJ hO.gl jF hx) (bK.bJ hO.gl jF hk) aN
   .cases hc
  .cases hc
 case mapUpdate t x k y=>
  split at hc
  .rename_i kt et ht;split at hc
   .rename_i ki Li;simp only[vj,kw,jE,cq]at hc;obtain⟨x',hx,k',hk,y',hy,rfl⟩:=hc;exact GH hO ho ht Li (bK.bJ hO.gl jF hx) (bK.bJ hO.gl jF hk) (bK.bJ hO.gl jF hy) aN
   .cases hc
  .cases hc
 case mapEntry t x k=>
  split at hc
  .rename_i kt et ht;split at hc
   .rename_i ki z Li hz;simp only[vj,kw,jE,cq]at hc;obtain⟨x',hx,k',hk,rfl⟩:=hc;exact GI hO ho ht Li hz (bK.bJ hO.gl jF hx) (bK.bJ hO.gl jF hk) aN
   .cases hc
  .cases hc
 case entryStore t x s y=>
  simp only[vj,kw,jE,cq]at hc;obtain⟨x',hx,k',hk,y',hy,rfl⟩:=hc;exact I7 hO ho (bK.bJ hO.gl jF hx) (bK.bJ hO.gl jF hk) (bK.bJ hO.gl jF hy) aN
 case range t x=>
  split at hc
  .rename_i kt et ht;simp only[ju]at hc;obtain⟨x',hx,rfl⟩:=hc;exact GJ hO eO ho ht (bK.bJ hO.gl jF hx) aN
  .cases hc
 case entry x=>
  simp only[ju]at hc;obtain⟨x',hx,rfl⟩:=hc;exact aN.elim
 case index t x i=>
  split at hc
  .rename_i ht;simp only[vj,kw,jE,cq]at hc;obtain⟨x',hx,i',hi,rfl⟩:=hc;exact GK hO ho ht (bK.bJ hO.gl jF hx) (bK.bJ hO.gl jF hi) aN
  .cases hc
 case panic x=>simp only[cq]at hc;subst hc;exact aN.elim
 case makeInterface _ _=>simp only[cq]at hc;subst hc;exact aN.elim
 case unOp op t x=>
  simp only[ju]at hc;obtain⟨y,hy,rfl⟩:=hc;have rx:=bK.bJ hO.gl jF hy;unfold db OL at aN⊢;simp only at aN⊢;split at aN
  .rename_i b hb;rw[hb]at rx;simp only[aD,be]at rx;split at aN
   .exact cu.bool hO rfl rfl (by simp[execOp,ho,rx,Op.unary])
   .exact aN.elim
  .rename_i k n hb;rw[hb]at rx;simp only[aD,be]at rx;split at aN
   .exact cu.int hO rfl rfl (by simp[execOp,ho,rx,Op.unary,Op.intArith])
   .exact aN.elim
  .exact aN.elim
 case convert src dst x=>
  split at hc
  .rename_i k0 k hs hd;simp only[ju]at hc;obtain⟨y,hy,rfl⟩:=hc;have rx:=bK.bJ hO.gl jF hy;unfold db at aN⊢;simp only at aN⊢;split at aN
   .rename_i k1 n hb;rw[hb]at rx;simp only[aD,be]at rx;exact cu.int hO rfl rfl (by simp[execOp,ho,rx,convert,run_underlying hs,run_underlying hd,Conv.intToInt])
   .exact aN.elim
  .cases hc
 case fieldAddr s x f=>
  split at hc
  .rename_i fs hs;split at hc
   .rename_i fd hf;split at hc
    .rename_i fi hi;split at hc
     .cases hc
     .rename_i jc;simp only[ju]at hc;obtain⟨y,hy,rfl⟩:=hc;have rx:=bK.bJ hO.gl jF hy;simp only[db]at aN⊢;obtain⟨hp,b,oo,hxv,hv⟩:=GF rx aN;refine cu.l7 hO hp (v:=.pointer (some ⟨b,oo+fd.offset,none⟩)) ?_ hv;simp[execOp,ho,hxv,Instr.fieldAt,run_underlying hs,hf,Instr.sureAddr,fieldPlace,run_sizeOf hi,jc,mY]
    .cases hc
   .cases hc
  .cases hc
 case field s x f=>
  split at hc
  .rename_i fs hs;split at hc
   .rename_i fd hf;split at hc
    .rename_i fi desc hi hd;simp only[ju]at hc;obtain⟨y,hy,rfl⟩:=hc;have rx:=bK.bJ hO.gl jF hy;simp only[db]at aN⊢;obtain⟨hp,v,bO,hv⟩:=I2 hs hf hi hd rx aN;exact cu.l7 hO hp (v:=v) (by simp[execOp,ho,bO]) hv
    .cases hc
   .cases hc
  .cases hc
 case indexAddr t x ix=>
  split at hc
  .rename_i e ht;split at hc
   .rename_i i hi;simp only[vj,kw,jE,cq]at hc;obtain⟨x',hx,y',hy,rfl⟩:=hc;simp only[db]at aN⊢;obtain⟨hp,v,bO,hv⟩:=Ru hO ht hi (bK.bJ hO.gl jF hx) (bK.bJ hO.gl jF hy) aN;exact cu.l7 hO hp (v:=v) (by simp[execOp,ho,bO]) hv
   .cases hc
  .rename_i n e ht;split at hc
   .rename_i i hi;simp only[vj,kw,jE,cq]at hc;obtain⟨x',hx,y',hy,rfl⟩:=hc;simp only[db]at aN⊢;obtain⟨hp,v,bO,hv⟩:=Ev ht hi (bK.bJ hO.gl jF hx) (bK.bJ hO.gl jF hy) aN;exact cu.l7 hO hp (v:=v) (by simp[execOp,ho,bO]) hv
   .cases hc
  .cases hc
 case slice t x lo wY mx=>
  cases mx with
  |some m=>cases hc
  |none=>
   simp only at hc;split at hc
   .rename_i e ht;split at hc
    .rename_i i hi;simp only[vj,kw,jE,cq]at hc;obtain⟨x',hx,lo',hlo,hi2,hhi,rfl⟩:=hc;simp only[db]at aN⊢;obtain⟨hp,v,bO,hv⟩:=I3 hO ht hi (bK.bJ hO.gl jF hx) (Cf hO.gl jF hlo) (Cf hO.gl jF hhi) aN;exact cu.l7 hO hp (v:=v) (by simp[execOp,ho,bO]) hv
    .cases hc
   .cases hc
 case extract x i=>
  simp only[ju]at hc;obtain⟨y,hy,rfl⟩:=hc;have rx:=bK.bJ hO.gl jF hy;unfold db EI at aN⊢;simp only at aN⊢;split at aN
  .rename_i ts hb;rw[hb]at rx;simp only[aD,be]at rx;obtain⟨vs,hv,hr⟩:=rx;obtain⟨v,nk,qd⟩:=eS.get hr (i:=i) (t:=ts.getD i default) (by simp[List.getD,show i<ts.length from aN]);refine cu.l7 hO rfl (v:=v) ?_ (by simp only[aD];exact qd);have:vs[i]? =some v:=by simpa using nk
   simp[execOp,ho,hv,Instr.extract,this]
  .rename_i ds hb;rw[hb]at rx;simp only[aD]at rx;obtain⟨vs,hv,hr⟩:=rx;have key:∀(ds:bW) (vs:List Value) (i:Nat),eA w W ab L ds vs->i<ds.length->∃v,vs[i]? =some v/\aD w W ab L (ds.getD i .undef) v:=by
    intro ds;induction ds with
    |nil=>intro vs i _ h;simp at h
    |cons d ds ih=>
     intro vs i h hi;simp only[eA]at h;obtain⟨v,jz,rfl,h1,h2⟩:=h;cases i with
     |zero=>exact⟨v,rfl,h1⟩
     |succ i=>simpa using ih jz i h2 (by simpa using hi)
   obtain⟨v,nk,qd⟩:=key ds _ i hr aN;refine cu.l7 hO rfl (v:=v) ?_ qd;have:vs[i]? =some v:=by simpa using nk
   simp[execOp,ho,hv,Instr.extract,this]
  .exact aN.elim
 case makeSlice t l c=>
  split at hc
  .rename_i e ht;split at hc
   .rename_i i hi;split at hc
    .rename_i z hz;split at hc
     .rename_i p q;split at hc
      .rename_i hpq;obtain⟨rfl,jc⟩:=hpq;simp only[vj,kw,jE,cq]at hc;obtain⟨zero,tR,rfl⟩:=hc;simp only[db]at aN⊢;obtain⟨v,w',L',h1,h2,h3,h4⟩:=B7 hO ht hi hz jc tR eO (bK.bJ hO.gl jF (x:=.tmp p) rfl) aN;exact⟨.value v,v,w',L',by simp[execOp,ho,h1],.inl rfl,h2,h3,h4⟩
      .cases hc
     .rename_i k p k' q;split at hc
      .rename_i hpq;obtain⟨rfl,rfl,jc⟩:=hpq;simp only[vj,kw,jE,cq]at hc;obtain⟨zero,tR,rfl⟩:=hc;simp only[db]at aN⊢;obtain⟨v,w',L',h1,h2,h3,h4⟩:=B7 hO ht hi hz jc tR eO (bK.bJ (ρ:=ρ) hO.gl jF (x:=.const (.int k p)) rfl) aN;exact⟨.value v,v,w',L',by simp[execOp,ho,h1],.inl rfl,h2,h3,h4⟩
      .cases hc
     .cases hc
    .cases hc
   .cases hc
  .cases hc
 case makeFunc f first cz=>
  split at hc
  .rename_i hf;simp only[vj,kw,jE,cq]at hc;obtain⟨cs,mZ,rfl⟩:=hc;simp only[db]at aN⊢;have hr:aU w W ab L (cs.map (·.ev ρ)) (cz.map a.eval).toList:=by
    simpa using E8 hO.gl jF mZ aN
   refine cu.l7 hO rfl (v:=.func f #[] (cz.map a.eval)) ?_ ?_
   .have:first= #[]:=by simpa using hf
    simp[execOp,ho,this,Instr.makeFunc]
   .by_cases hpb:xq (cs.map (·.ev ρ))=true
    .simp only[hpb,Eg,aD,be];exact⟨_,rfl,oa (yP hpb) hr⟩
    .simp only[hpb];exact⟨_,rfl,hr⟩
  .cases hc
 case call c=>
  have xG:∀{xs:List Operand},c.args.toList=xs->c.args=xs.toArray:=λh=>by rw[<-h,ZcN]
  have afC:∀{xs:List TypeId},c.argTypes.toList=xs->c.argTypes=xs.toArray:=λh=>by rw[<-h,ZcN]
  unfold eB at hc;split at hc
  .split at hc
   .split at hc
    .cases hc
    .simp only[ju]at hc;obtain⟨y,_,rfl⟩:=hc;exact qe rfl (nX _ _)
   .cases hc
  .obtain⟨ys,_,rfl⟩:=ju.1 hc;exact aN.elim
  .rename_i kx;split at hc
   .rename_i x t hx ht;have tg:c={callee:=.builtin .len,args:= #[x],argTypes:= #[t]}:=by
     have h1:=xG hx;have h2:=afC ht;cases c
     simp_all
    subst tg;split at hc
    .rename_i e hu;simp only[ju]at hc;obtain⟨y,hy,rfl⟩:=hc;exact Rw hO ho hu (bK.bJ hO.gl jF hy) aN
    .rename_i hu;simp only[ju]at hc;obtain⟨y,hy,rfl⟩:=hc;exact Ma hO ho hu (bK.bJ hO.gl jF hy) aN
    .rename_i kt et hu;simp only[ju]at hc;obtain⟨y,hy,rfl⟩:=hc;exact Md hO ho hu (bK.bJ hO.gl jF hy) aN
    .cases hc
   .cases hc
  .rename_i kx;split at hc
   .rename_i x y t t' hx ht;have tg:c={callee:=.builtin .copy,args:= #[x,y],argTypes:= #[t,t']}:=by
     have h1:=xG hx;have h2:=afC ht;cases c
     simp_all
    subst tg;split at hc
    .rename_i e hu;split at hc
     .rename_i i hi;simp only[vj,kw,jE,cq]at hc;obtain⟨x',nK,y',Lj,rfl⟩:=hc;simp only[db]at aN⊢;obtain⟨v,w',h1,h2,h3,h4⟩:=L6 (t:=t) (t':=t') (ty:=o.type) hO hu hi (bK.bJ hO.gl jF nK) (bK.bJ hO.gl jF Lj) aN;exact⟨.value v,v,w',L,by simp[execOp,ho,resolve,invoke,builtin,h1],.inl rfl,h2,h3,h4⟩
     .cases hc
    .cases hc
   .cases hc
  .rename_i kx;split at hc
   .rename_i x k t ts' hx ht;have tg:c={callee:=.builtin .delete,args:= #[x,k],argTypes:=c.argTypes}:=by
     have h1:=xG hx;cases c
     simp_all
    have xz:c.argTypes[0]? =some t:=by rw[<-Array.getElem?_toList,ht];rfl
    split at hc
    .rename_i kt et hu;split at hc
     .rename_i ki Li;simp only[vj,kw,jE,cq]at hc;obtain⟨x',nK,k',wi,rfl⟩:=hc;exact GL hO xz (by rw[ho,<-tg]) hu Li (bK.bJ hO.gl jF nK) (bK.bJ hO.gl jF wi) aN
     .cases hc
    .cases hc
   .cases hc
  .rename_i kx;split at hc
   .rename_i x y hx;have tg:c={callee:=.builtin .min,args:= #[x,y],argTypes:=c.argTypes}:=by
     have h1:=xG hx;cases c
     simp_all
    simp only[vj,kw,jE,cq]at hc;obtain⟨x',nK,y',Lj,rfl⟩:=hc;exact xC false hO (by rw[ho,tg];rfl) (bK.bJ hO.gl jF nK) (bK.bJ hO.gl jF Lj) aN
   .cases hc
  .rename_i kx;split at hc
   .rename_i x y hx;have tg:c={callee:=.builtin .max,args:= #[x,y],argTypes:=c.argTypes}:=by
     have h1:=xG hx;cases c
     simp_all
    simp only[vj,kw,jE,cq]at hc;obtain⟨x',nK,y',Lj,rfl⟩:=hc;exact xC true hO (by rw[ho,tg];rfl) (bK.bJ hO.gl jF nK) (bK.bJ hO.gl jF Lj) aN
   .cases hc
  .rename_i kx;split at hc
   .rename_i x y t t' hx ht;have tg:c={callee:=.builtin .append,args:= #[x,y],argTypes:= #[t,t']}:=by
     have h1:=xG hx;have h2:=afC ht;cases c
     simp_all
    subst tg;split at hc
    .cases hc
    .rename_i UF;have UF:t=t':=by simpa using UF
     subst UF;split at hc
     .rename_i e hu;split at hc
      .rename_i i hi;split at hc
       .rename_i z hz;split at hc
        .rename_i jc;simp only[vj,kw,jE,cq]at hc;obtain⟨x',nK,y',Lj,rfl⟩:=hc;simp only[db]at aN⊢;obtain⟨v,w',L',h1,h2,h3,h4⟩:=GB (ty:=o.type) hO hu hi hz jc.1 jc.2 eO (bK.bJ hO.gl jF nK) (bK.bJ hO.gl jF Lj) aN;exact⟨.value v,v,w',L',by simp[execOp,ho,resolve,invoke,builtin,h1],.inl rfl,h2,h3,h4⟩
        .cases hc
       .cases hc
      .cases hc
     .cases hc
   .cases hc
  .cases hc
def Ry(hO:ci base W M w0 ab w L){e:Nat}{n:bK}(hc:dq P o=some (.mkSlice e sz Mb zero n))(jF:∀t,aD w W ab L (ρ t) (a.tmps.getD t Go.undef))(eO:ab name=none)
  (aN:(gj sz Mb zero name (n.ev ρ)).ok):cu P base W M w0 ab L w a o (gj sz Mb zero name (n.ev ρ)):=by
 unfold dq at hc;cases ho:o.op<;>simp only[ho,reduceCtorEq]at hc
 case makeSlice t l c=>
  split at hc
  .rename_i e' ht;split at hc
   .rename_i i hi;split at hc
    .rename_i z hz;split at hc
     .rename_i p q;split at hc
      .rename_i hpq;obtain⟨rfl,jc⟩:=hpq;simp only[vj,kw,jE,cq,qO.mkSlice.injEq]at hc;obtain⟨I8,tR,rfl,rfl,rfl,rfl,rfl⟩:=hc;obtain⟨v,w',L',h1,h2,h3,h4⟩:=z7 hO ht hi hz tR eO (bK.bJ hO.gl jF (x:=.tmp p) rfl) aN;exact⟨.value v,v,w',L',by simp[execOp,ho,h1],.inl rfl,h2,h3,h4⟩
      .cases hc
     .rename_i k p k' q;split at hc
      .rename_i hpq;obtain⟨rfl,rfl,jc⟩:=hpq;simp only[vj,kw,jE,cq,qO.mkSlice.injEq]at hc;obtain⟨I8,tR,rfl,rfl,rfl,rfl,rfl⟩:=hc;obtain⟨v,w',L',h1,h2,h3,h4⟩:=z7 hO ht hi hz tR eO (bK.bJ (ρ:=ρ) hO.gl jF (x:=.const (.int k p)) rfl) aN;exact⟨.value v,v,w',L',by simp[execOp,ho,h1],.inl rfl,h2,h3,h4⟩
      .cases hc
     .cases hc
    .cases hc
   .cases hc
  .cases hc
 case binOp op t x y yt=>
  exfalso;simp only[kw,jE]at hc;obtain⟨x',hx,y',hy,hc⟩:=hc;unfold mQ at hc;repeat' split at hc
  all_goals first|(cases hc;done)|(simp only[ju,reduceCtorEq,Lh,Ei]at hc;done)
 case makeMap t h=>
  exfalso;cases h with
  |some m=>cases hc
  |none=>
   simp only at hc;split at hc
   .simp only[ju,reduceCtorEq,Lh,Ei]at hc
   .cases hc
 case slice t x lo hi mx=>
  exfalso;cases mx with
  |some m=>cases hc
  |none=>
   simp only at hc;repeat' split at hc
   all_goals simp only[ju,vj,kw,jE,cq,reduceCtorEq,Lh,Ei]at hc
 case call c=>
  exfalso;unfold eB at hc;repeat' split at hc
  all_goals first
   |(cases hc;done)
   |(simp only[ju,vj,kw,jE,cq,reduceCtorEq,Lh,Ei]at hc;done)
   |skip
 all_goals exfalso
 all_goals first
  |(simp only[ju,reduceCtorEq,Lh,Ei]at hc;done)
  |(simp only[vj,kw,jE,cq,reduceCtorEq,Lh,Ei]at hc;done)
  |(repeat' split at hc)<;>first
    |(simp only[ju,vj,kw,jE,cq,reduceCtorEq,Lh,Ei]at hc;done)
    |(simp[jE]at hc;done)
def afD{e:Nat}{n:bK}(hc:dq P o=some (.mkSliceB e sz Mb zero n)):False:=by
 unfold dq at hc;cases ho:o.op<;>simp only[ho,reduceCtorEq]at hc
 case makeSlice t l c=>
  repeat' split at hc
  all_goals first
   |(cases hc;done)
   |(simp only[vj,kw,jE,cq,reduceCtorEq,Lh,Ei]at hc;done)
 case binOp op t x y yt=>
  simp only[kw,jE]at hc;obtain⟨x',hx,y',hy,hc⟩:=hc;unfold mQ at hc;repeat' split at hc
  all_goals first|(cases hc;done)|(simp only[ju,reduceCtorEq,Lh,Ei]at hc;done)
 case makeMap t h=>
  cases h with
  |some m=>cases hc
  |none=>
   simp only at hc;split at hc
   .simp only[ju,reduceCtorEq,Lh,Ei]at hc
   .cases hc
 case slice t x lo hi mx=>
  cases mx with
  |some m=>cases hc
  |none=>
   simp only at hc;repeat' split at hc
   all_goals simp only[ju,vj,kw,jE,cq,reduceCtorEq,Lh,Ei]at hc
 case call c=>
  unfold eB at hc;repeat' split at hc
  all_goals first
   |(cases hc;done)
   |(simp only[ju,vj,kw,jE,cq,reduceCtorEq,Lh,Ei]at hc;done)
 all_goals first
  |(simp only[ju,reduceCtorEq,Lh,Ei]at hc;done)
  |(simp only[vj,kw,jE,cq,reduceCtorEq,Lh,Ei]at hc;done)
  |(repeat' split at hc)<;>first
    |(simp only[ju,vj,kw,jE,cq,reduceCtorEq,Lh,Ei]at hc;done)
    |(simp[jE]at hc;done)
end
end
section
variable{ro:Option Nat}{f:FuncId}{todo:List (aG)}{r:Loop}{go ab aM:bS}{gL L':Loc}{d:qO}{args:List bK}{ds:bW}{cT:Array Value}{vs:List Value}{o':Obj}
variable [bD] [dF]
structure RO where
 d:qO
 dst:Option Nat
 guard:Option (Nat×Bool)
 after:cN
 km:Option (cN):=none
abbrev cA:=List RO
structure RS where
 tmps:dW
 ab:bS
 todo:List (aG)
def cO(f:dW):Option Nat->DV->Nat->DV
 |none,_=>f
 |some k,v=>λx=>if x=k then v else f x
def fQ(g:Option (Nat×Bool))(ρ:dW):Option Bool:=
 match g with
 |none=>some true
 |some (s,lI)=>match ρ s with
  |.v (.bool b)=>some (b==lI)
  |.skip=>some false
  |_=>none
def bQ(aP:Nat):Option Nat->Nat
 |some d=>aP+d+1
 |none=>aP
def od(Γ:kv)(aP:Nat)(r:RO)(st:RS):D9:=db Γ r.d (bQ aP r.dst) st.tmps st.ab
def bT:qO->List bK
 |.Lg x|.box x|.load _ _ x|.un _ x|.conv _ x|.addOff _ x|.nilCheck x|.field _ _ _ x|.extract _ x|.len x|.lenS x|.mkSlice _ _ _ _ x|.mkSliceB _ _ _ _ x|.lenM x|.rangeM x|.entryM x|.isNil _ _ x=>[x]
 |.pick c a b=>[c,a,b]
 |.alloc _|.mkMap _ _|.fail=>[]
 |.build _ ps|.bslice _ _ _ ps=>ps.map (·.2.2)
 |.store _ x y|.bin _ x y|.eqT _ _ _ x y|.idxAddr _ x y|.arrAddr _ _ x y|.minmax _ x y|.append _ _ _ x y|.lookup _ _ _ _ x y|.mapDel _ _ x y|.copy _ x y|.indexS x y=>[x,y]
 |.mapUpd _ _ x k y=>[x,k,y]
 |.mapEnt _ _ _ x k=>[x,k]
 |.entSt x s y=>[x,s,y]
 |.slice _ x lo hi=>x::(lo.toList++hi.toList)
 |.call _ xs|.callS _ xs|.callF _ xs|.callR _ xs|.mkFn _ xs=>xs
 |.callv x xs=>x::xs
def dN(r:RO)(ρ:dW):Prop:=
 match r.km with
 |none=>True
 |some l=>∀x∈bT r.d,∀n∈br (x.ev ρ),n∈l
def post(Γ:kv)(aP:Nat)(r:RO)(st:RS):afy:=
 if qP r.d then zL Γ r.d st.tmps st.ab st.todo
 else⟨(od Γ aP r st).ok,(od Γ aP r st).val,cC st.ab (od Γ aP r st).put,st.todo⟩
def tV(r:RO)(o o':bS):Prop:=qP r.d=true->∀l,r.km=some l->∀n,n∉l->o' n=o n
def cI(Γ:kv)(aP:Nat)(r:RO)(st:RS):Prop:=
 match fQ r.guard st.tmps with
 |some true=>(post Γ aP r st).ok/\dN r st.tmps/\tV r st.ab (post Γ aP r st).ab
 |some false=>True
 |none=>False
def dX(Γ:kv)(aP:Nat)(r:RO)(st:RS):RS:=
 match fQ r.guard st.tmps with
 |some true=>⟨cO st.tmps r.dst (post Γ aP r st).val,(post Γ aP r st).ab,(post Γ aP r st).todo⟩
 |some false=>⟨cO st.tmps r.dst .skip,st.ab,st.todo⟩
 |none=>st
def iY:T->Bool
 |.bool _|.int _ _|.str _=>true
 |.dh ts=>je ts
 |.agg ts=>je ts
 |_=>false
where
 je:aG->Bool
 |[]=>true
 |t::ts=>iY t&&je ts
def wj:∀(n:Nat),(∀(t:T) (w w':World) (W W':fm) (v:Value),SizeOf.sizeOf t<n->iY t=true->be w W t v->be w' W' t v)/\
  (∀(ts:aG) (w w':World) (W W':fm) (vs:List Value),SizeOf.sizeOf ts<n->iY.je ts=true->(dt w W ts vs->dt w' W' ts vs)/\(eS w W ts vs->eS w' W' ts vs))
 |0=>⟨λ_ _ _ _ _ _ h=>by omega,λ_ _ _ _ _ _ h=>by omega⟩
 |n+1=>by
  have ih:=wj n;refine⟨λt w w' W W' v hn hs h=>?_,λts w w' W W' vs hn hs=>?_⟩
  .cases t with
   |agg ts=>simp only[be]at h⊢;obtain⟨vs,hv,hr⟩:=h;exact⟨vs,hv,(ih.2 ts w w' W W' _ (by simp at hn⊢;omega) hs).1 hr⟩
   |dh ts=>simp only[be]at h⊢;obtain⟨vs,hv,hr⟩:=h;exact⟨vs,hv,(ih.2 ts w w' W W' _ (by simp at hn⊢;omega) hs).2 hr⟩
   |bool b=>simpa [be]using h
   |int k n=>simpa [be]using h
   |str s=>simpa [be]using h
   |_=>exact qe hs A1
  .cases ts with
   |nil=>exact⟨λh=>by simpa [dt]using h,λh=>by simpa [eS]using h⟩
   |cons t ts=>
    simp only[iY.je,mA]at hs;have h2:=ih.2 ts w w' W W';refine⟨λh=>?_,λh=>?_⟩
    .simp only[dt]at h⊢;obtain⟨v,jz,rfl,h1,hr,mK⟩:=h;exact⟨v,jz,rfl,h1,ih.1 t w w' W W' v (by simp at hn⊢;omega) hs.1 hr,(h2 _ (by simp at hn⊢;omega) hs.2).1 mK⟩
    .simp only[eS]at h⊢;obtain⟨v,jz,rfl,hr,mK⟩:=h;exact⟨v,jz,rfl,ih.1 t w w' W W' v (by simp at hn⊢;omega) hs.1 hr,(h2 _ (by simp at hn⊢;omega) hs.2).2 mK⟩
def Cg(P:Program)(f:FuncId):Prop:=∃fn,P.funcs[f]? =some fn/\fn.name≠ "runtime.NumGoroutine" /\fn.body.isNone=false
structure aJ(P:Program)(f:FuncId)(ts:aG)(t:T):Prop where
 entry:Cg P f
 run:∀(W:fm) (w:World) (cT:Array Value),(∀b,W b->b<w.heap.size)->BY w W->eS w W ts cT.toList->
  Calls P f cT w λe w'=>∃v,e=.returned v/\xl w.heap.size w w'/\be w' W t v
structure Ch(n0:Nat)(w':World)(W:fm)(e sz:Nat)(aC:List (aG))(v:Value):Prop where
 pos:0<sz
 len:∀x∈aC,x.length=sz
 it:(aC=[]/\∃a:Option Addr,v=.slice a 0 0)\/∃g cap eJ,v=.slice (some ⟨g,0,none⟩) aC.length cap/\0<cap/\n0<=g/\w'.heap[g]? =some (.cells eJ e (0,0))/\aC.length<=cap/\cap<=maxLen/\eJ.size=cap*sz/\dt w' (λb=>W b\/b=g) aC.flatten (eJ.toList.take (aC.length*sz))
structure oS(P:Program)(f:FuncId)(ts:aG)(e sz:Nat)(aC:List (aG)):Prop where
 entry:Cg P f
 run:∀(W:fm) (w:World) (cT:Array Value),(∀b,W b->b<w.heap.size)->BY w W->eS w W ts cT.toList->
  Calls P f cT w λe' w'=>∃v,e'=.returned v/\xl w.heap.size w w'/\Ch w.heap.size w' W e sz aC v
def lp(w:World)(W:fm)(ab:bS)(L:Loc)(ds:bW)(vs:List Value):Prop:=
 vs.length=ds.length/\∀(i:Nat) (d:DV) (v:Value),ds[i]? =some d->vs[i]? =some v->aD w W ab L d v
structure ce(P:Program)(f:FuncId)(args:bW)(ab:bS)(r:iw):Prop where
 entry:Cg P f
 run:∀(base:Nat) (W M:fm) (w0 w:World) (L:Loc) (cT:Array Value),ci base W M w0 ab w L->lp w W ab L args cT.toList->
  Calls P f cT w λe w'=>∃v L',e=.returned v/\ci base W M w0 r.ab w' L'/\jA W ab L w r.ab L' w'/\aD w' W r.ab L' r.val v
structure UG(P:Program)(f:FuncId)(s:Spec):Prop where
 pure:∀ts,s.pre ts->aJ P f ts (s.fn ts)/\(s.jL=true->iY (s.fn ts)=true)
 fresh:∀e sz,s.fresh=some (e,sz)->∀ts,s.pre ts->∃aC,s.fn ts=.sl aC/\oS P f ts e sz aC/\(s.fT=true->iY.je aC.flatten=true)
 st:∀k,s.st=some k->∀args ab,(k args ab).ok->(∀N,(∀r,N<=r->ab r=none)->ce P f args ab (k args ab))/\∀r,ab r=none->(k args ab).ab r=none
def aw(P:Program)(Γ:kv):Prop:=∀f s,Γ f=some s->UG P f s
def vf(ro:Option Nat):Fence:={Fence.wide with round:=ro}
def jW{n:Nat}{P:Program}{args:Array Value}{w:World}{R:Ending->World->Prop}(h:Calls P f args w R):CallsIn (vf ro) n P f args w R:=by
 have h0:CallsIn Fence.wide n P f args w R:=callsIn_wide.2 h;exact h0
structure oT where
 W:fm
 go:bS
 gL:Loc
 gw:World
 base:Nat
 M:fm
 w0:World
 J:Option (fm->List (aG)->World->Prop)
 ro:Option Nat
 Y:Option (Nat×Loop×Loop):=none
def oT.At(κ:oT)(todo:List (aG))(W:fm)(base:Nat)(M:fm)(w0:World):Prop:=
 match κ.J with
 |none=>(κ.Y=none->todo=[])/\W=κ.W/\base=κ.base/\M=κ.M/\w0=κ.w0
 |some J=>J W todo w0/\base=w0.heap.size/\M=(λ_=>False)/\(∀b,W b->κ.W b\/κ.gw.heap.size<=b)/\∀b,κ.W b->W b
structure Yields(P:Program)(l:Nat)(J:fm->List (aG)->World->Prop):Prop where
 adZ:∀(W:fm) (todo:List (aG)) (A B:World),J W todo A->xl A.heap.size A B->J W todo B
 round:∀(W:fm) (x:aG) (rest:List (aG)) (cT:Array Value) (A:World),J W (x::rest) A->eS A W x cT.toList->
  ∃fn tmps assign body,(Instr.yield l cT).run P A=.ok (.round l fn tmps assign body) A/\RoundIn Fence.wide 0 P l fn tmps assign body A λe B=>
   e=.returned (.bool true)/\∃W',J W' rest B/\c8 W A B/\(∀b,W' b->b<B.heap.size/\(W b\/A.heap.size<=b))/\∀b,W b->W' b
structure aam(P:Program)(l:Nat)(r s:Loop)(k:bW->bS->iw)(base:Nat)(W M:fm)(w0:World)(go:bS)(gL:Loc)(gw:World):Prop where
 round:∀(w:World) (L:Loc) (ab:bS) (args:bW) (cT:Array Value),(k args ab).ok->yIs (k args ab).val->(∃N,∀x,N<=x->ab x=none)->w.heap[l]? =some (.loop r)->
  jA W go gL gw ab L w->ci base W M w0 ab w L->lp w W ab L args cT.toList->
  ∃fn tmps assign body,(Instr.yield l cT).run P w=.ok (.round l fn tmps assign body) w/\RoundIn Fence.wide 0 P l fn tmps assign body w λe B=>
   e=.returned (.bool (yGo (k args ab).val))/\∃L',ci base W M w0 (k args ab).ab B L'/\jA W ab L (w.putObj l (.loop (if yGo (k args ab).val then r else s))) (k args ab).ab L' B
def _root_.Go.World.I9{w:World}{l:Nat}{o:Obj}(h:w.heap[l]? =some o):w.putObj l o=w:=by
 obtain⟨hl,e⟩:=cM.1 h;have:w.heap.setIfInBounds l o=w.heap:=by
  refine Array.ext_getElem? λi=>?_;rw[Zcm];split
  .rename_i e2;subst e2;exact h.symm
  .rfl
 unfold World.putObj;rw[this]
def oT.Il(κ:oT)(todo:List (aG)):World:=match κ.Y with
 |none=>κ.gw
 |some (l,r,s)=>κ.gw.putObj l (.loop (match todo with|[]=>s|_=>r))
def oT.xH(κ:oT)(todo:List (aG)):(κ.Il todo).heap.size=κ.gw.heap.size:=by
 unfold oT.Il;split
 .rfl
 .simp[World.putObj]
def oT.Ja{κ:oT}(h:κ.Y=none)(todo:List (aG)):κ.Il todo=κ.gw:=by simp[oT.Il,h]
structure oT.Good(P:Program)(κ:oT):Prop where
 y:∀J,κ.J=some J->Yields P κ.gL.yl J/\dF.k=none/\κ.Y=none
 ys:∀l r s,κ.Y=some (l,r,s)->κ.base<=l/\κ.gw.heap[l]? =some (.loop r)/\∃k,dF.k=some (l,k)/\aam P l r s k κ.base κ.W κ.M κ.w0 κ.go κ.gL κ.gw
 rd:∀l,κ.ro=some l->∃r,κ.gw.heap[l]? =some (.loop r)
def mark(D:Nat):Deferred:={target:=.collected D,args:= #[]}
structure R0(base:Nat)(W M:fm)(w0:World)(nt:Nat)(tmps:dW)(ab:bS)(a:Act)(w:World)(L:Loc):Prop where
 size:a.tmps.size=nt
 tmps:∀t,aD w W ab L (tmps t) (a.tmps.getD t Go.undef)
 o:ci base W M w0 ab w L
structure fz(κ:oT)(nt:Nat)(st:RS)(a:Act)(w:World)(L:Loc):Prop where
 ex:∃W base M w0,κ.At st.todo W base M w0/\R0 base W M w0 nt st.tmps st.ab a w L
 gq:jA κ.W κ.go κ.gL (κ.Il st.todo) st.ab L w
 defers:∃Ds:cN,a.defers=Ds.map mark/\Ds.Nodup/\(∀D∈Ds,w.heap[D]? =some (.deferred (some []))/\κ.gw.heap.size<=D)/\(κ.J.isSome=true->Ds=[])
 bg:κ.J=none->κ.base<=κ.gw.heap.size
 dM:∃N,∀r,N<=r->st.ab r=none
def oT.At.sub{κ:oT}{W:fm}{base:Nat}{M:fm}{w0:World}(h:κ.At todo W base M w0):(∀b,W b->κ.W b\/κ.gw.heap.size<=b)/\∀b,κ.W b->W b:=by
 unfold oT.At at h;split at h
 .obtain⟨_,rfl,_⟩:=h;exact⟨λ_ h=>.inl h,λ_ h=>h⟩
 .exact⟨h.2.2.2.1,h.2.2.2.2⟩
def oT.At.UH{κ:oT}{W:fm}{base:Nat}{M:fm}{w0:World}(h:κ.At todo W base M w0)(td:List (aG)):∀b,W b->κ.W b\/(κ.Il td).heap.size<=b:=by
 rw[oT.xH];exact h.sub.1
def oT.UI{κ:oT}{l:Nat}(td:List (aG))(h:κ.gw.heap[l]? =some (.loop r)):∃r',(κ.Il td).heap[l]? =some (.loop r'):=by
 unfold oT.Il;split
 .exact⟨r,h⟩
 .rename_i l' _ _ _;by_cases e:l=l'
  .subst e;exact⟨_,World.putObj_heap_same (cM.1 h).1⟩
  .exact⟨r,by rw[World.putObj_heap_other e];exact h⟩
def jA.comp{W V:fm}{L:Loc}{gw w w':World}(h:jA V go gL gw ab L w)(k:jA W ab L w aM L' w')(h1:∀b,W b->V b\/gw.heap.size<=b)(h2:∀b,V b->W b):
  jA V go gL gw aM L' w':=by
 have up:∀b,b<gw.heap.size->WW W ab L b->WW V ab L b:=λb hb hw=>by
  rcases hw with hw|hw
  .rcases h1 b hw with h3|h3
   .exact .inl h3
   .omega
  .exact .inr hw
 refine⟨⟨⟨zN h.cL.size k.cL.size,λb c e fr hb hn=>?_⟩,λb hb=>k.cL.OI b (h.cL.OI b hb),λb r hb=>k.cL.Rj b r (h.cL.Rj b r hb)⟩,λb hb hw=>?_,λr o hr hk=>?_,λr bG e sz aC hr=>?_,k.yl.trans h.yl⟩
 .have cQ:=(cM.1 hb).1;exact k.cL.jK b c e fr (h.cL.jK b c e fr hb hn) λx=>hn (h.sub b cQ (up b cQ x))
 .refine h.sub b hb (up b hb (k.sub b (ze hb h.cL.size) ?_));rcases hw with hw|hw
  .exact .inl (h2 b hw)
  .exact .inr hw
 .obtain⟨e1,o1,ql,mr⟩:=h.fix r o hr hk;obtain⟨e2,o2,qd,sI⟩:=k.fix r o1 ql (by rw[mr];exact hk);exact⟨e2.trans e1,o2,qd,sI.trans mr⟩
 .obtain⟨v1,e1,s1,r1,ql,l1,k1⟩:=h.bm r bG e sz aC hr;obtain⟨v2,e2,s2,r2,qd,l2,k2⟩:=k.bm r v1 e1 s1 r1 ql;refine⟨v2,e2,s2,r2,qd,zN l1 l2,λhv=>?_⟩;have Bb:v1=bG:=by omega
  obtain⟨a1,a2,a3⟩:=k1 Bb;obtain⟨b1,b2,b3⟩:=k2 (by omega);exact⟨b1.trans a1,b2.trans a2,b3.trans a3⟩
section
variable{P:Program}{κ:oT}{base:Nat}{W M:fm}{w0:World}{nt:Nat}{Γ:kv}{aP:Nat}
def Ci(tmps:Array Value)(d t:Nat)(v:Value)(hd:d<tmps.size):(tmps.setIfInBounds d v).getD t Go.undef=if t=d then v else tmps.getD t Go.undef:=by
 simp only[vq,Zcm];by_cases h:d=t
 .subst h;simp[hd]
 .have:t≠d:=λe=>h e.symm;simp[h,this]
def R0.put{tmps:dW}{a:Act}{w w':World}{L:Loc}(h:R0 base W M w0 nt tmps ab a w L)(dst:Option Nat)(lG:∀d,dst=some d->d<nt){v:DV}{x:Value}
  (hO:ci base W M w0 aM w' L') (hA:jA W ab L w aM L' w') (hv:aD w' W aM L' v x):
  R0 base W M w0 nt (cO tmps dst v) aM (a.put dst x) w' L':=by
 cases dst with
 |none=>exact⟨h.size,λt=>aD.gq hA _ _ (h.tmps t),hO⟩
 |some d=>
  refine⟨by simpa [Act.put]using h.size,λt=>?_,hO⟩;simp only[cO,Act.put];rw[Ci _ _ _ _ (by rw[h.size];exact lG d rfl)];by_cases ht:t=d
  .simp only[ht,Eg];exact hv
  .simp only[ht,A0];exact aD.gq hA _ _ (h.tmps t)
def wk(a:Act)(dst:Option Nat)(x:Value):(a.put dst x).defers=a.defers:=by cases dst<;>rfl
def fz.put{st:RS}{a:Act}{w w':World}{L:Loc}(hR:fz κ nt st a w L)(gG:κ.At st.todo W base M w0)(h:R0 base W M w0 nt st.tmps st.ab a w L)
  (dst:Option Nat) (lG:∀d,dst=some d->d<nt) {v:DV} {x:Value} (hO:ci base W M w0 aM w' L') (hA:jA W st.ab L w aM L' w') (hv:aD w' W aM L' v x) (fN:∃N,∀r,N<=r->aM r=none):
  fz κ nt ⟨cO st.tmps dst v,aM,st.todo⟩ (a.put dst x) w' L':=
 ⟨⟨W,base,M,w0,gG,h.put dst lG hO hA hv⟩,hR.gq.comp hA (gG.UH _) gG.sub.2,by
  obtain⟨Ds,h1,h2,h3,h4⟩:=hR.defers;exact⟨Ds,by rw[wk];exact h1,h2,λD hD=>⟨hA.cL.OI D (h3 D hD).1,(h3 D hD).2⟩,h4⟩,hR.bg,fN⟩
def fz.skip{st:RS}{a:Act}{w:World}{L:Loc}(h:fz κ nt st a w L)(dst:Option Nat)(lG:∀d,dst=some d->d<nt):
  fz κ nt ⟨cO st.tmps dst .skip,st.ab,st.todo⟩ (a.put dst Go.undef) w L:=by
 obtain⟨W,base,M,w0,gG,h0⟩:=h.ex;exact fz.put h gG h0 dst lG h0.o (jA.cS (c8.refl _ _)) (by simp[aD]) h.dM
def oU(o:Oper)(w:World)(ρ:Operand->Value):∀f,o.about P w ρ=some f->(vf ro).fn f:=λ_ _=>trivial
def sJ{o:Oper}(h:dq P o=some d):∀c,o.op≠ .defer c:=by
 intro c hc;simp[dq,hc]at h
def fU{o:Oper}(hc:dq P o=some d)(hd':(∃f args,d=.call f args)\/(∃f args,d=.callS f args)\/(∃f args,d=.callv f args)\/(∃f args,d=.callF f args)\/∃f args,d=.callR f args):∃c,o.op=.call c/\eB P c=some d:=by
 rcases hd' with⟨f,args,rfl⟩|⟨f,args,rfl⟩|⟨f,args,rfl⟩|⟨f,args,rfl⟩|⟨f,args,rfl⟩;all_goals
  unfold dq at hc;cases ho:o.op<;>simp only[ho,reduceCtorEq]at hc
  case call c=>exact⟨c,rfl,hc⟩
  case binOp op t x y yt=>
   exfalso;simp only[kw,jE]at hc;obtain⟨x',hx,y',hy,hc⟩:=hc;unfold mQ at hc;repeat' split at hc
   all_goals first|(cases hc;done)|(simp only[ju,reduceCtorEq,Lh,Ei]at hc;done)
  case makeMap t h=>
   exfalso;cases h with
   |some m=>cases hc
   |none=>
    simp only at hc;split at hc
    .simp only[ju,reduceCtorEq,Lh,Ei]at hc
    .cases hc
  case slice t x lo hi mx=>
   exfalso;cases mx with
   |some m=>cases hc
   |none=>
    simp only at hc;repeat' split at hc
    all_goals simp only[vj,kw,jE,cq,reduceCtorEq,Lh,Ei]at hc
  all_goals exfalso
  all_goals first
   |(simp only[ju,reduceCtorEq,Lh,Ei]at hc;done)
   |(simp only[vj,kw,jE,cq,reduceCtorEq,Lh,Ei]at hc;done)
   |(repeat' split at hc)<;>first
     |(simp only[ju,vj,kw,jE,cq,reduceCtorEq,Lh,Ei]at hc;done)
     |(simp[jE]at hc;done)
def yx{c:Call}(h:eB P c=some (.call f args)):∃fn,c.callee=.value (.func f)/\P.funcs[f]? =some fn/\fn.name≠ "runtime.NumGoroutine" /\fn.body.isNone=false/\c.args.toList.mapM bK.of=some args:=by
 unfold eB at h;split at h
 .rename_i g kx;split at h
  .rename_i fn yB;split at h
   .cases h
   .rename_i hnr;simp only[ju,qO.call.injEq]at h;obtain⟨ys,qq,rfl,rfl⟩:=h;refine⟨fn,kx,yB,λe=>hnr (.inl e), ?_,qq⟩;cases hb:fn.body.isNone
    .rfl
    .exact qe (.inr hb) hnr
  .cases h
 all_goals
  repeat' split at h
  all_goals first
   |(simp only[ju,vj,kw,jE,cq,reduceCtorEq,Lh,Ei]at h;done)
   |skip
def GN{c:Call}{x:bK}(h:eB P c=some (.callv x args)):∃t,c.callee=.value (.tmp t)/\x=.tmp t/\c.args.toList.mapM bK.of=some args:=by
 unfold eB at h;split at h
 .split at h
  .split at h
   .cases h
   .simp at h
  .cases h
 .rename_i t kx;simp only[ju,qO.callv.injEq]at h;obtain⟨ys,qq,rfl,rfl⟩:=h;exact⟨t,kx,rfl,qq⟩
 all_goals
  repeat' split at h
  all_goals first
   |(simp only[ju,vj,kw,jE,cq,reduceCtorEq,Lh,Ei]at h;done)
   |skip
def Ac:qO->qO
 |.callS f args=>.call f args
 |.callF f args=>.call f args
 |.callR f args=>.call f args
 |.mkSliceB e sz bytes zero n=>.mkSlice e sz bytes zero n
 |d=>d
def mR(W':fm){fT:Bool}{ab:bS}{w:World}{L:Loc}(hO:ci base W M w0 ab w L)(hW:fT=true->∀r o b,ab r=some o->L.own r o=some b->¬W' b)(Rx:∀b,W' b->WW W ab L b):
  ∀{ds:bW} {vs:List Value},lp w W ab L ds vs->tF fT ab ds->eS w W' (jr ab ds) vs
 |[],vs,h,_=>by
  have:vs=[]:=oK h.1;subst this;simp[eS,jr]
 |d::ds,[],h,_=>by have:=h.1;simp at this
 |d::ds,v::vs,h,hk=>by
  simp only[tF]at hk;simp only[eS,jr];exact⟨v,vs,rfl,(xD W' hO hW Rx).1 _ _ (h.2 0 d v rfl rfl) hk.1,mR W' hO hW Rx ⟨by simpa using h.1,λi x y hx hy=>h.2 (i+1) x y (by simpa using hx) (by simpa using hy)⟩ hk.2⟩
def E9(bb:aw P Γ){w:World}{L:Loc}(hO:ci base W M w0 ab w L){g:FuncId}{s:Spec}(hg:Γ g=some s)(oV:tF s.jL ab ds)(oL:s.pre (jr ab ds))
  (hr:lp w W ab L ds cT.toList):Calls P g cT w λe w'=>∃v,e=.returned v/\ci base W M w0 ab w' L/\jA W ab L w ab L w'/\aD w' W ab L (.v (s.fn (jr ab ds))) v:=by
 obtain⟨rF,hsc⟩:=(bb g s hg).pure _ oL;have Bf:∀b,WW W ab L b->b<w.heap.size:=by
  have io:base<=w.heap.size:=zN hO.fr.jN hO.fr.size;rintro b (hb|⟨r',o',h1,h2⟩)
  .have:=hO.under b hb;omega
  .exact(hO.ob r' o' h1).lt h2
 cases hs:s.jL with
 |true=>
  rw[hs]at oV;have sD:=mR (λ_=>False) (fT:=true) hO (λ_ _ _ _ _ _ x=>x) (λ_ x=>x.elim) hr oV;refine(rF.run (λ_=>False) w cT (λ_ x=>x.elim) (hO.gl.aL (c8.refl (WW W ab L) _).toKeepsC λ_ _ h=>h.elim) sD).mono ?_;rintro e w' ⟨v,rfl,hb,hv⟩;obtain⟨hO',hA⟩:=ci.grow hO hb;refine⟨v,rfl,hO',hA, ?_⟩;simp only[aD];exact(wj _).1 _ w' w' (λ_=>False) (WW W ab L) v (TZ _) (hsc hs) hv
 |false=>
  rw[hs]at oV;have sD:=mR (WW W ab L) (fT:=false) hO (λx=>by cases x) (λ_ x=>x) hr oV;refine(rF.run (WW W ab L) w cT Bf hO.gl sD).mono ?_;rintro e w' ⟨v,rfl,hb,hv⟩;obtain⟨hO',hA⟩:=ci.grow hO hb;exact⟨v,rfl,hO',hA,by simp only[aD];exact hv⟩
def Me{w:World}{L:Loc}(hO:ci base W M w0 ab w L){g:FuncId}{fT:Bool}(oV:tF fT ab ds){e sz:Nat}{aC:List (aG)}(rF:oS P g (jr ab ds) e sz aC)(hsc:fT=true->iY.je aC.flatten=true)
  (hr:lp w W ab L ds cT.toList) {name:Nat} (eO:ab name=none):Calls P g cT w λe' w'=>∃v L',e'=.returned v/\ci base W M w0 (cC ab (some (name,.bm 0 e sz aC))) w' L'/\jA W ab L w (cC ab (some (name,.bm 0 e sz aC))) L' w'/\aD w' W (cC ab (some (name,.bm 0 e sz aC))) L' (.aW name 0) v:=by
 have io:base<=w.heap.size:=zN hO.fr.jN hO.fr.size;have Bf:∀b,WW W ab L b->b<w.heap.size:=by
  rintro b (hb|⟨r',o',h1,h2⟩)
  .have:=hO.under b hb;omega
  .exact(hO.ob r' o' h1).lt h2
 have c9:Calls P g cT w λe' w'=>∃v,e'=.returned v/\xl w.heap.size w w'/\Ch w.heap.size w' (WW W ab L) e sz aC v:=by
  cases fT with
  |false=>
   have sD:=mR (WW W ab L) (fT:=false) hO (λx=>by cases x) (λ_ x=>x) hr oV;exact rF.run (WW W ab L) w cT Bf hO.gl sD
  |true=>
   have sD:=mR (λ_=>False) (fT:=true) hO (λ_ _ _ _ _ _ x=>x) (λ_ x=>x.elim) hr oV;refine(rF.run (λ_=>False) w cT (λ_ x=>x.elim) (hO.gl.aL (c8.refl (WW W ab L) _).toKeepsC λ_ _ h=>h.elim) sD).mono ?_;rintro e' w' ⟨v,h1,h2,h3⟩;refine⟨v,h1,h2,h3.pos,h3.len, ?_⟩;rcases h3.it with h4|⟨g',cap,eJ,k1,k2,k3,k4,k5,k6,k7,k8⟩
   .exact .inl h4
   .exact .inr ⟨g',cap,eJ,k1,k2,k3,k4,k5,k6,k7,((wj _).2 _ w' w' _ _ _ (TZ _) (hsc rfl)).1 k8⟩
 refine c9.mono ?_;rintro e' w' ⟨v,rfl,hb,hf⟩;have h:=ci.put hO (r:=name) (L':=L.jP name v) (o':=.bm 0 e sz aC) (hO.fr.trans ⟨hb.os,hb.tape,hb.output,io,hb.size,λk hk _=>hb.block k (by omega),hb.drawn⟩) hb.size (λx hx=>⟨rfl,by simp[Loc.jP,hx]⟩) rfl (λb cQ _=>hb.block b cQ)
  (λb h=>.inr (by
   simp only[Loc.own,Loc.jP,Eg]at h;rcases hf.it with⟨_,a,rfl⟩|⟨g',cap,eJ,rfl,hp,Ba,_⟩
   .cases a<;>simp[bk]at h
   .simp only[bk,iK (Et.1 hp),cq]at h;omega))
  (λo' h _=>by rw[eO]at h;cases h) (λ_ _ _ _ h=>by rw[eO]at h;cases h) (λgq=>by
   refine⟨hf.pos,hf.len,λg' hg=>?_, ?_⟩
   .simp only[Loc.jP,Eg]at hg;rcases hf.it with⟨_,a,rfl⟩|⟨g2,cap,eJ,rfl,hp,Ba,_⟩
    .cases a<;>simp[bk]at hg
    .simp only[bk,iK (Et.1 hp),cq]at hg;exact .inl (by omega)
   .simp only[Loc.jP,Eg];rcases hf.it with⟨h1,a,h2⟩|⟨g2,cap,eJ,h1,hp,Ba,h2,h3,h4,h5,h6⟩
    .exact .inl ⟨h1,a,h2⟩
    .refine .inr ⟨g2,cap,eJ,h1,hp,h2,h3,h4,h5,dt.aL (c8.refl (λb=>WW W ab L b\/b=g2) w').toKeepsC (λb _ hb=>?_) _ _ h6⟩;rcases hb with hb|⟨r',o',nl,hb⟩
     .exact .inl (.inl hb)
     .simp only[cC]at nl;split at nl
      .rename_i e1;cases nl;subst e1;simp only[Loc.own,Eg,h1,bk,iK (Et.1 hp),cq]at hb;exact .inr hb.symm
      .rename_i dd;refine .inl (.inr ⟨r',o',nl, ?_⟩);cases o'<;>simpa [Loc.own,Loc.jP,dd]using hb)
 refine⟨v,_,rfl,h.1,h.2, ?_⟩;simp only[aD];refine⟨?_,0,e,sz,aC,by simp[cC],gJ _,λ_=>by simp[Loc.jP]⟩;rcases hf.it with⟨_,a,rfl⟩|⟨g2,cap,eJ,rfl,_⟩<;>exact⟨_,_,_,rfl⟩
def gY{w:World}{L:Loc}{a:Act}{ρ:dW}(hg:BY w (WW W ab L))(jF:∀t,aD w W ab L (ρ t) (a.tmps.getD t Go.undef)){xs:List Operand}{ys:List bK}(h:xs.mapM bK.of=some ys):lp w W ab L (ys.map (·.ev ρ)) (xs.map a.eval):=by
 refine⟨by simp[tU h],λi d v hd hv=>?_⟩;rw[ZbH,ju]at hd hv;obtain⟨y,hy,rfl⟩:=hd;obtain⟨x,hx,rfl⟩:=hv;exact Aa hg jF h i x y hx hy
def lp.append{w:World}{L:Loc}{pX:bW}{jz:List Value}(h:lp w W ab L ds vs)(k:lp w W ab L pX jz):lp w W ab L (ds++pX) (vs++jz):=by
 refine⟨by simp[h.1,k.1],λi d v hd hv=>?_⟩;by_cases hi:i<ds.length
 .rw[ZbM hi]at hd;rw[ZbM (by rw[h.1];exact hi)]at hv;exact h.2 i d v hd hv
 .rw[ZbI (by omega)]at hd;rw[ZbI (by rw[h.1];omega),h.1]at hv;exact k.2 _ d v hd hv
def Cj{w:World}{L:Loc}{ts:aG}(h:dt w (WW W ab L) ts vs):lp w W ab L (ts.map .v) vs:=by
 refine⟨by simp[dt.length h],λi d v hd hv=>?_⟩;rw[ZbH,ju]at hd;obtain⟨t,ht,rfl⟩:=hd;obtain⟨v',sG,_,hr⟩:=dt.get h ht;rw[hv]at sG;cases sG;simpa [aD]using hr
def Jb{w:World}{L:Loc}(h:aU w W ab L ds vs):lp w W ab L ds vs:=by
 refine⟨by simp[aU.length h],λi d v hd hv=>?_⟩;obtain⟨v',sG,_,hr⟩:=aU.get h hd;rw[hv]at sG;cases sG;exact hr
def Ew{o:Oper}{x:bK}(hc:dq P o=some (.entryM x)):∃y,o.op=.entry y/\bK.of y=some x:=by
 unfold dq at hc;cases ho:o.op<;>simp only[ho,reduceCtorEq]at hc
 case entry y=>
  simp only[ju,qO.entryM.injEq]at hc;obtain⟨y',hy,rfl⟩:=hc;exact⟨y,rfl,hy⟩
 case binOp op t x y yt=>
  exfalso;simp only[kw,jE]at hc;obtain⟨x',hx,y',hy,hc⟩:=hc;unfold mQ at hc;repeat' split at hc
  all_goals first|(cases hc;done)|(simp only[ju,reduceCtorEq,Lh,Ei]at hc;done)
 case call c=>
  exfalso;unfold eB at hc;repeat' split at hc
  all_goals first
   |(cases hc;done)
   |(simp only[ju,vj,kw,jE,cq,reduceCtorEq,Lh,Ei]at hc;done)
 case slice t x lo hi mx=>
  exfalso;cases mx with
  |some m=>cases hc
  |none=>
   simp only at hc;repeat' split at hc
   all_goals simp only[vj,kw,jE,cq,reduceCtorEq,Lh,Ei]at hc
 case makeMap t h=>
  exfalso;cases h with
  |some m=>cases hc
  |none=>
   simp only at hc;split at hc
   .simp only[ju,reduceCtorEq,Lh,Ei]at hc
   .cases hc
 all_goals exfalso
 all_goals first
  |(simp only[ju,reduceCtorEq,Lh,Ei]at hc;done)
  |(simp only[vj,kw,jE,cq,reduceCtorEq,Lh,Ei]at hc;done)
  |(repeat' split at hc)<;>first
    |(simp only[ju,vj,kw,jE,cq,reduceCtorEq,Lh,Ei]at hc;done)
    |(simp[jE]at hc;done)
def lq{o:Oper}{a:Act}{w:World}{c:Call}(ho:o.op=.call c){g:FuncId}{cz:Array Value}(hv:∀f,c.callee=.value f->a.eval f=.func (.func g) #[] cz)(hc:∃f,c.callee=.value f)(hg:Cg P g):
  (execOp a.eval o).run P w=.ok (.enter g (c.args.map a.eval++cz)) w:=by
 obtain⟨f,hf⟩:=hc;obtain⟨fn,yB,dd,Rz⟩:=hg;simp[execOp,ho,resolve,hf,hv f hf,Deferred.ofValue,invoke,callFunc,yB,dd];intro xI;simp[xI]at Rz
def vL{n l:Nat}{fn:FuncId}{tmps:Array Value}{assign body:Code}{w:World}{R:Ending->World->Prop}(h:RoundIn Fence.wide 0 P l fn tmps assign body w R):
  RoundIn (vf ro) n P l fn tmps assign body w R:=by
 have h0:RoundIn Fence.wide n P l fn tmps assign body w R:=⟨h.1,λc cs _=>h.2 c cs (by simp[Fence.room,Fence.wide])⟩;exact h0
def mS{W:fm}{L:Loc}{w w':World}(wl:KeepsC (WW W ab L) w w'):∀n,(∀(d:DV) (x:Value),SizeOf.sizeOf d<n->aD w W ab L d x->aD w' W ab L d x)/\(∀(ds:bW) (xs:List Value),SizeOf.sizeOf ds<n->aU w W ab L ds xs->aU w' W ab L ds xs)/\(∀(ds:bW) (xs:List Value),SizeOf.sizeOf ds<n->eA w W ab L ds xs->eA w' W ab L ds xs):=by
 have wn:∀b,b<w.heap.size->WW W ab L b->WW W ab L b:=λ_ _ h=>h;intro n;induction n with
 |zero=>exact⟨λ_ _ h=>by omega,λ_ _ h=>by omega,λ_ _ h=>by omega⟩
 |succ n ih=>
  refine⟨λd x hn hx=>?_,λds xs hn hx=>?_,λds xs hn hx=>?_⟩
  .cases d with
   |v t=>simp only[aD]at hx⊢;exact be.aL wl wn t x hx
   |dh cs=>
    simp only[aD]at hx⊢;obtain⟨vs,hv,hr⟩:=hx;exact⟨vs,hv,ih.2.2 cs _ (by simp at hn⊢;omega) hr⟩
   |AI f cs=>
    simp only[aD]at hx⊢;obtain⟨vs,hv,hr⟩:=hx;exact⟨vs,hv,ih.2.1 cs _ (by simp at hn⊢;omega) hr⟩
   |mw aC i off=>
    simp only[aD]at hx⊢;obtain⟨b,o,sz,hx,hb,Ck,hr,h1,h2⟩:=hx;exact⟨b,o,sz,hx,ze hb wl.size,Ck,bw.aL wl wn hb Ck sz o aC hr,h1,h2⟩
   |j9 cs off=>
    simp only[aD]at hx⊢;obtain⟨b,o,hx,hb,Ck,hr⟩:=hx;exact⟨b,o,hx,ze hb wl.size,Ck,dY.aL wl wn hb Ck o cs hr⟩
   |agg cs=>
    simp only[aD]at hx⊢;obtain⟨vs,hv,hr⟩:=hx;exact⟨vs,hv,ih.2.1 cs _ (by simp at hn⊢;omega) hr⟩
   |_=>exact hx
  .cases ds with
   |nil=>simpa only[aU]using hx
   |cons d ds=>
    simp only[aU]at hx⊢;obtain⟨y,ys,hv,h1,h2,h3⟩:=hx;exact⟨y,ys,hv,h1,ih.1 d y (by simp at hn⊢;omega) h2,ih.2.1 ds ys (by simp at hn⊢;omega) h3⟩
  .cases ds with
   |nil=>simpa only[eA]using hx
   |cons d ds=>
    simp only[eA]at hx⊢;obtain⟨y,ys,hv,h2,h3⟩:=hx;exact⟨y,ys,hv,ih.1 d y (by simp at hn⊢;omega) h2,ih.2.2 ds ys (by simp at hn⊢;omega) h3⟩
def l8{w:World}{l:Nat}{o:Obj}(hl:w.heap[l]? =some o)(Rv:¬Obj.plain o):∀(b:Nat) x,Obj.plain x->w.heap[b]? =some x->(w.putObj l o').heap[b]? =some x:=λb x hx hb=>by
 rw[World.putObj_heap_other (by rintro rfl;rw[hl]at hb;cases hb;exact Rv hx)];exact hb
def tW{base:Nat}{W M:fm}{w0 w:World}{L:Loc}(h:ci base W M w0 ab w L){l:Nat}{o:Obj}(hl:w.heap[l]? =some o)(Rv:¬Obj.plain o)(hb:base<=l):
  ci base W M w0 ab (w.putObj l o') L:=by
 have jc:(w.putObj l o').heap.size=w.heap.size:=by simp[World.putObj]
 have oW:=l8 (o':=o') hl Rv;have wl:KeepsC (WW W ab L) w (w.putObj l o'):=⟨by rw[jc];exact gJ _,λb c e fr hb _=>oW b _ trivial hb⟩;have f:=h.fr;refine⟨⟨f.os,f.tape,f.output,f.jN,by rw[jc];exact f.size,λk hk hm=>?_,f.drawn⟩,λr o ho=>?_,h.apart,h.tK,h.under,h.gl.aL wl λ_ _ h=>h⟩
 .rw[World.putObj_heap_other (by omega)];exact f.block k hk hm
 .have eH:=h.ob r o ho;cases o with
  |box cs=>
   obtain⟨c,e,hc,hr,hm⟩:=eH;exact⟨c,e,oW _ _ trivial hc,(mS wl (SizeOf.sizeOf cs+1)).2.1 cs _ (by omega) hr,hm⟩
  |map bZ agg c es=>
   obtain⟨bm,hc,hr,k1,k2,k3,hm⟩:=eH;refine⟨bm,oW _ _ trivial hc, ?_,k1,k2,k3,hm⟩;have key:∀(es:List (Nat×T×DV)) (xs:List MapEntry),bH w W ab L es xs->bH (w.putObj l o') W ab L es xs:=by
    intro es;induction es with
    |nil=>intro xs h;simpa only[bH]using h
    |cons e es ih=>
     intro xs h;simp only[bH]at h⊢;obtain⟨x,nj,hx,h1,h2,h3,h4⟩:=h;exact⟨x,nj,hx,h1,be.aL wl (λ_ _ h=>h) _ _ h2,(mS wl (SizeOf.sizeOf e.2.2+1)).1 _ _ (by omega) h3,ih nj h4⟩
   exact key es _ hr
  |eo m s sn lt=>
   obtain⟨hc,ON,hm⟩:=eH;exact⟨oW _ _ trivial hc,ON,hm⟩
  |bm bG e sz aC=>
   obtain⟨g1,g2,g3,g4⟩:=eH;refine⟨g1,g2,g3, ?_⟩;rcases g4 with g4|⟨g,cap,eJ,hv,hp,hh,k1,k2,k3,k4⟩
   .exact .inl g4
   .exact .inr ⟨g,cap,eJ,hv,hp,oW _ _ trivial hh,k1,k2,k3,dt.aL wl (λ_ _ h=>h) _ _ k4⟩
def jA.aan{V:fm}{L:Loc}{gw w:World}{l:Nat}{r':Loop}(hg:l<gw.heap.size)(h:jA V go gL (gw.putObj l (.loop r)) ab L w):
  jA V go gL (gw.putObj l (.loop r')) ab L (w.putObj l (.loop r')):=by
 have hl:w.heap[l]? =some (.loop r):=h.cL.Rj _ _ (World.putObj_heap_same hg);have Tl:=(cM.1 hl).1;have s1:(gw.putObj l (.loop r')).heap.size=gw.heap.size:=by simp[World.putObj]
 have s2:(gw.putObj l (.loop r)).heap.size=gw.heap.size:=by simp[World.putObj]
 have s3:(w.putObj l (.loop r')).heap.size=w.heap.size:=by simp[World.putObj]
 have g1:(gw.putObj l (.loop r')).heap[l]? =some (.loop r'):=World.putObj_heap_same hg;have g3:(w.putObj l (.loop r')).heap[l]? =some (.loop r'):=World.putObj_heap_same Tl;have o1:∀b,b≠l->(gw.putObj l (.loop r')).heap[b]? =(gw.putObj l (.loop r)).heap[b]? :=λb hb=>(World.putObj_heap_other hb).trans (World.putObj_heap_other hb).symm;have o3:∀b,b≠l->(w.putObj l (.loop r')).heap[b]? =w.heap[b]? :=λb hb=>World.putObj_heap_other hb;have hk:=h.cL.size;refine⟨⟨⟨by rw[s1,s3];rw[s2]at hk;exact hk,λb c e fr hb hn=>?_⟩,λb hb=>?_,λb rr hb=>?_⟩,λb hb hw=>?_,h.fix,h.bm,h.yl⟩
 .have dd:b≠l:=by rintro rfl;rw[g1]at hb;cases hb
  rw[o1 b dd]at hb;rw[o3 b dd];exact h.cL.jK b c e fr hb hn
 .have dd:b≠l:=by rintro rfl;rw[g1]at hb;cases hb
  rw[o1 b dd]at hb;rw[o3 b dd];exact h.cL.OI b hb
 .by_cases dd:b=l
  .subst dd;rw[g1]at hb;rw[g3];exact hb
  .rw[o1 b dd]at hb;rw[o3 b dd];exact h.cL.Rj b rr hb
 .rw[s1]at hb;exact h.sub b (by rw[s2];exact hb) hw
def OW{n:Nat}(bb:aw P Γ)(AL:κ.Good P){o:Oper}{r:RO}(hc:dq P o=some (Ac r.d))(lG:r.dst=o.dst){st:RS}{a:Act}{w:World}{L:Loc}(h:fz κ nt st a w L)(hd:∀d,r.dst=some d->d<nt)
  (eO:st.ab (bQ aP r.dst)=none) (aN:(post Γ aP r st).ok) {K:Act->World->Prop} {Q:Exit->Act->World->Prop}
  (hK:∀a' w' L',fz κ nt ⟨cO st.tmps r.dst (post Γ aP r st).val,(post Γ aP r st).ab,(post Γ aP r st).todo⟩ a' w' L'->K a' w'):
  o.wpIn (vf ro) n P a w K Q:=by
 have hR:=h;obtain⟨⟨W,base,M,w0,gG,h0⟩,Ex,hdf,hbg,fN⟩:=h;refine⟨oU o w _, ?_⟩;have Bg:∀c,o.op≠ .defer c:=sJ hc;rw[show(vf ro).round=ro from rfl,Oper.semAt_eq ro _ o Bg];by_cases h4:qP r.d=true
 .unfold post at aN hK;rw[ee h4]at aN hK;cases Oy:r.d<;>rw[Oy]at h4<;>first|(simp[qP]at h4;done)|skip
  case callS f args=>
   rw[Oy]at hc aN hK;obtain⟨c,ho,aS⟩:=fU hc (.inl ⟨f,args,rfl⟩);obtain⟨fn,kx,yB,dd,Rz,qq⟩:=yx aS;have bO:=lq (P:=P) (w:=w) (a:=a) (g:=f) (cz:= #[]) ho (λx hx=>by rw[kx]at hx;cases hx;rfl) ⟨_,kx⟩ ⟨fn,yB,dd,Rz⟩;rw[Zb8]at bO;rw[bO,Oper.uponIn_enter];refine⟨λhx=>(by cases hx),jW ?_⟩;simp only[zL]at aN hK;cases hg:Γ f with
   |none=>simp[hg]at aN
   |some s=>
    simp only[hg]at aN hK;cases hk:s.st with
    |none=>simp[hk]at aN
    |some k=>
     simp only[hk]at aN hK;obtain⟨c9,ZU⟩:=(bb f s hg).st k hk _ _ aN;obtain⟨N,hN⟩:=fN;have c9:=c9 N hN;refine(c9.run base W M w0 w L (c.args.map a.eval) h0.o (by simpa using gY h0.o.gl h0.tmps qq)).mono ?_;rintro e w' ⟨v,L',rfl,hO,hA,hv⟩;have:=hK _ _ _ (fz.put hR gG h0 r.dst hd hO hA hv ⟨N,λr hr=>ZU r (hN r hr)⟩);rw[<-lG];exact this
  case callv x args=>
   rw[Oy]at hc aN hK;obtain⟨c,ho,aS⟩:=fU hc (.inr (.inr (.inl ⟨_,_,rfl⟩)));obtain⟨t,kx,rfl,qq⟩:=GN aS;have ht:=h0.tmps t;simp only[zL,show bK.ev st.tmps (.tmp t)=st.tmps t from rfl]at aN hK;cases hv:st.tmps t with
   |v tv=>
    rw[hv]at ht aN hK;cases tv with
    |fn fv cz=>
     cases fv with
     |func g=>
      simp only at aN hK;simp only[aD,be]at ht;obtain⟨vs,hx,Fa⟩:=ht;cases hg:Γ g with
      |none=>simp[hg]at aN
      |some s=>
       simp only[hg]at aN hK;cases hk:s.st with
       |none=>
        simp only[hk]at aN hK;unfold pF at aN hK;simp only[hg]at aN hK;obtain⟨oV,oL⟩:=aN;have bO:=lq (P:=P) (w:=w) (a:=a) (g:=g) (cz:=vs) ho (λx nK=>by rw[kx]at nK;cases nK;exact hx) ⟨_,kx⟩ ((bb g s hg).pure _ oL).1.entry;rw[bO,Oper.uponIn_enter];refine⟨λhx=>(by cases hx),jW ?_⟩;have Lb:lp w W st.ab L (args.map (·.ev st.tmps)++cz.map .v) (c.args.map a.eval++vs).toList:=by
         simpa using lp.append (gY h0.o.gl h0.tmps qq) (Cj Fa)
        refine(E9 bb h0.o hg oV oL Lb).mono ?_;rintro e w' ⟨v,rfl,hO,hA,sG⟩;have:=hK _ _ _ (fz.put hR gG h0 r.dst hd hO hA sG fN);rw[<-lG];exact this
       |some k=>
        simp only[hk]at aN hK;obtain⟨c9,ZU⟩:=(bb g s hg).st k hk _ _ aN;obtain⟨N,hN⟩:=fN;have c9:=c9 N hN;have bO:=lq (P:=P) (w:=w) (a:=a) (g:=g) (cz:=vs) ho (λx nK=>by rw[kx]at nK;cases nK;exact hx) ⟨_,kx⟩ c9.entry;rw[bO,Oper.uponIn_enter];refine⟨λhx=>(by cases hx),jW ?_⟩;have Lb:lp w W st.ab L (args.map (·.ev st.tmps)++cz.map .v) (c.args.map a.eval++vs).toList:=by
         simpa using lp.append (gY h0.o.gl h0.tmps qq) (Cj Fa)
        refine(c9.run base W M w0 w L _ h0.o Lb).mono ?_;rintro e w' ⟨v,L',rfl,hO,hA,sG⟩;have:=hK _ _ _ (fz.put hR gG h0 r.dst hd hO hA sG ⟨N,λr hr=>ZU r (hN r hr)⟩);rw[<-lG];exact this
     |_=>simp at aN
    |tf rv=>
     simp only at aN hK;cases Tm:(dF.k:Option (Nat×(bW->bS->iw)))with
     |none=>simp[Tm]at aN
     |some p=>
      obtain⟨l,k⟩:=p;simp only[Tm]at aN hK;obtain⟨hrv,htd,px,hkb⟩:=aN;subst hrv;simp only[aD,be]at ht;cases hJ:κ.J with
      |some J=>
       have:=(AL.y J hJ).2.1;rw[Tm]at this;cases this
      |none=>
       have Cl:=gG;unfold oT.At at Cl;simp only[hJ]at Cl;obtain⟨ht0,rfl,rfl,rfl,rfl⟩:=Cl;cases hY:κ.Y with
       |none=>exact qe (ht0 hY) htd
       |some p=>
        obtain⟨l',r1,s1⟩:=p;obtain⟨hb,hg,k',wi,az5⟩:=AL.ys l' r1 s1 hY;rw[Tm]at wi;cases wi;have hgw:κ.Il st.todo=κ.gw.putObj l (.loop r1):=by
         cases atQ:st.todo with
         |nil=>exact qe atQ htd
         |cons _ _=>simp only[oT.Il,hY]
        rw[hgw]at Ex;have alQ:=(cM.1 hg).1;have Tl:w.heap[l]? =some (.loop r1):=Ex.cL.Rj _ _ (World.putObj_heap_same alQ);have Lb:lp w κ.W st.ab L (args.map (·.ev st.tmps)) (c.args.map a.eval).toList:=by
         simpa using gY h0.o.gl h0.tmps qq
        obtain⟨fn,tmps,assign,body,OX,GO⟩:=az5.round w L st.ab _ (c.args.map a.eval) px hkb fN Tl (by rw[World.I9 hg]at Ex;exact Ex) h0.o Lb;have bO:(execOp a.eval o).run P w=.ok (.round l fn tmps assign body) w:=by
         have:a.eval (.tmp t)=.func (.yield l) #[] #[]:=ht;simp[execOp,ho,resolve,kx,this,Deferred.ofValue,invoke,OX]
        rw[bO,Oper.uponIn_round];refine⟨λhx=>(by cases hx),vL ?_⟩;refine GO.mono ?_;rintro e B ⟨rfl,L',hO',hA'⟩;obtain⟨r2,qd⟩:=aY ((if yGo (k (args.map (·.ev st.tmps)) st.ab).val=true then r1 else s1));rw[qd]at hA';have ZQ:¬Obj.plain (.loop r1):=λe=>e;have wl:KeepsC (WW κ.W st.ab L) w (w.putObj l (.loop r2)):=⟨by simp[World.putObj],λb c e fr hb _=>l8 Tl ZQ b _ trivial hb⟩;have h1:R0 κ.base κ.W κ.M κ.w0 nt st.tmps st.ab a (w.putObj l (.loop r2)) L:=⟨h0.size,λt=>(mS wl (SizeOf.sizeOf (st.tmps t)+1)).1 (st.tmps t) _ (TZ _) (h0.tmps t),tW h0.o Tl ZQ hb⟩;obtain⟨Ds,hDs,hDn,hDk,hDJ⟩:=hdf;obtain⟨N,hN⟩:=fN;obtain⟨go,hgo⟩:=aY (yGo (k (args.map (·.ev st.tmps)) st.ab).val);have dB:(k (args.map (·.ev st.tmps)) st.ab).val=.v (.bool go):=by
         rw[<-hgo];revert hkb;cases(k (args.map (·.ev st.tmps)) st.ab).val with
         |v x=>cases x<;>simp[yIs,yGo]
         |_=>simp[yIs]
        rw[hgo]at qd;simp only[dB,Ul]at hK;have hR:fz κ nt ⟨cO st.tmps r.dst (.v (.bool go)),(k (args.map (·.ev st.tmps)) st.ab).ab,if go=true then st.todo else []⟩ (a.put r.dst (.bool go)) B L':=by
         refine⟨⟨κ.W,κ.base,κ.M,κ.w0, ?_,h1.put r.dst hd hO' hA' (by simp[aD,be])⟩, ?_,⟨Ds,by rw[wk];exact hDs,hDn,λD hD=>⟨hA'.cL.OI D ?_,(hDk D hD).2⟩,hDJ⟩,hbg,⟨N,λx hx=>dF.br _ _ Tm _ _ px x (hN x hx)⟩⟩
         .unfold oT.At;simp only[hJ];exact⟨(λh=>by rw[hY]at h;cases h),trivial,trivial,trivial,trivial⟩
         .have hg2:κ.Il (if go=true then st.todo else [])=κ.gw.putObj l (.loop r2):=by
           rw[<-qd];cases go
           .simp[oT.Il,hY]
           .rw[ee rfl,hgw];simp
          rw[hg2];exact(jA.aan alQ Ex).comp hA' (λ_ h=>.inl h) (λ_ h=>h)
         .rw[World.putObj_heap_other (by rintro rfl;rw[(hDk _ hD).1]at Tl;cases Tl)];exact(hDk D hD).1
        have:=hK _ _ _ hR;rw[<-lG,hgo];exact this
    |_=>simp at aN
   |BZ=>
    rw[hv]at ht aN hK;simp only[aD]at ht;cases htd:st.todo with
    |nil=>simp[htd]at aN
    |cons y rest=>
     simp only[htd]at aN hK;obtain⟨Tm,oV,atR,UJ⟩:=aN;rw[htd]at gG;unfold oT.At at gG;cases hJ:κ.J with
     |none=>
      simp only[hJ]at gG;have hY:κ.Y=none:=by
       cases hY:κ.Y with
       |none=>rfl
       |some p=>obtain⟨_,_,k,hk,_⟩:=AL.ys p.1 p.2.1 p.2.2 hY;rw[Tm]at hk;cases hk
      exact qe (gG.1 hY) (by simp)
     |some J=>
      simp only[hJ]at gG;obtain⟨hj,rfl,rfl,hw1,hw2⟩:=gG;have hY:=(AL.y J hJ).2.2;rw[oT.Ja hY]at Ex;have hy:=(AL.y J hJ).1;have hbw:xl w0.heap.size w0 w:=⟨⟨h0.o.fr.os,h0.o.fr.tape,h0.o.fr.output,h0.o.fr.size,λk hk=>h0.o.fr.block k hk (λx=>x)⟩,h0.o.fr.drawn⟩;have hjw:=hy.adZ W (y::rest) w0 w hj hbw;have Bf:∀b,WW W st.ab L b->W b:=by
       rintro b (hb|⟨r',o',h1,_⟩)
       .exact hb
       .rw[UJ]at h1;cases h1
      have sD:eS w W y (c.args.map a.eval).toList:=by
       rw[<-atR];have:=mR W (fT:=false) h0.o (λx=>by cases x) (λb hb=>.inl hb) (gY h0.o.gl h0.tmps qq) oV;simpa using this
      obtain⟨fn,tmps,assign,body,OX,GO⟩:=hy.round W y rest (c.args.map a.eval) w hjw sD;have bO:(execOp a.eval o).run P w=.ok (.round L.yl fn tmps assign body) w:=by
       rw[<-Ex.yl]at OX;have:a.eval (.tmp t)=.func (.yield L.yl) #[] #[]:=ht;simp[execOp,ho,resolve,kx,this,Deferred.ofValue,invoke,OX]
      rw[bO,Oper.uponIn_round];refine⟨λhx=>(by cases hx),vL ?_⟩;rw[<-Ex.yl]at GO;refine GO.mono ?_;rintro e B ⟨rfl,W',hj',wi,nI,alR⟩;have py:∀b,W b->b<w.heap.size:=λb hb=>by
       have h1:=h0.o.under b hb;have h2:=h0.o.fr.size;omega
      have hA0:jA W st.ab L w st.ab L B:=jA.cS (wi.mono λb hb=>.inl hb);obtain⟨Ds,hDs,hDn,hDk,hDJ⟩:=hdf;have UK:AK W W' st.ab L w st.ab L B:=by
       refine⟨wi.mono λb hb=>.inl hb,λb hb hw=>?_,λr o hr _=>⟨rfl,o,hr,rfl⟩,λr bG e sz aC hr=>⟨bG,e,sz,aC,hr,gJ _,λ_=>⟨rfl,rfl,rfl⟩⟩,rfl⟩;rcases hw with hw|⟨r',o',h1,_⟩
       .rcases(nI b hw).2 with h2|h2
        .exact .inl h2
        .omega
       .rw[UJ]at h1;cases h1
      have move:∀(d:DV) (x:Value),aD w W st.ab L d x->aD B W' st.ab L d x:=aD.gq UK;have hO':ci B.heap.size W' (λ_=>False) B st.ab B L:=by
       refine⟨Fr.refl (gJ _),λr o ho=>?_,λr r' o o' b _ ho=>?_,λr o b ho=>?_,λb hb=>(nI b hb).1,h0.o.gl.aL UK.cL.toKeepsC UK.sub⟩;all_goals rw[UJ]at ho;cases ho
      have hR:fz κ nt ⟨cO st.tmps r.dst (.v (.bool true)),st.ab,rest⟩ (a.put r.dst (.bool true)) B L:=by
       refine⟨⟨W',B.heap.size,λ_=>False,B, ?_, ?_⟩,(by rw[oT.Ja hY];exact Ex.comp hA0 hw1 hw2),⟨Ds,by rw[wk];exact hDs,hDn,λD hD=>⟨wi.OI D (hDk D hD).1,(hDk D hD).2⟩,hDJ⟩,hbg,fN⟩
       .unfold oT.At;simp only[hJ];refine⟨hj',trivial,trivial,λb hb=>?_,λb hb=>alR b (hw2 b hb)⟩;rcases(nI b hb).2 with h1|h1
        .exact hw1 b h1
        .exact .inr (zN Ex.cL.size h1)
       .have h1:R0 B.heap.size W' (λ_=>False) B nt st.tmps st.ab a B L:=⟨h0.size,λt=>move _ _ (h0.tmps t),hO'⟩;exact h1.put r.dst hd hO' (jA.cS (c8.refl _ _)) (by simp[aD,be])
      have:=hK _ _ _ hR;rw[<-lG];exact this
   |AI fv cz=>
    rw[hv]at ht aN hK;cases fv with
    |func g=>
     simp only at aN hK;simp only[aD]at ht;obtain⟨vs,hx,Fa⟩:=ht;cases hg:Γ g with
     |none=>simp[hg]at aN
     |some s=>
      simp only[hg]at aN hK;cases hk:s.st with
      |none=>simp[hk]at aN
      |some k=>
       simp only[hk]at aN hK;obtain⟨c9,ZU⟩:=(bb g s hg).st k hk _ _ aN;obtain⟨N,hN⟩:=fN;have c9:=c9 N hN;have bO:=lq (P:=P) (w:=w) (a:=a) (g:=g) (cz:=vs) ho (λx nK=>by rw[kx]at nK;cases nK;exact hx) ⟨_,kx⟩ c9.entry;rw[bO,Oper.uponIn_enter];refine⟨λhx=>(by cases hx),jW ?_⟩;have Lb:lp w W st.ab L (args.map (·.ev st.tmps)++cz) (c.args.map a.eval++vs).toList:=by
        simpa using lp.append (gY h0.o.gl h0.tmps qq) (Jb Fa)
       refine(c9.run base W M w0 w L _ h0.o Lb).mono ?_;rintro e w' ⟨v,L',rfl,hO,hA,sG⟩;have:=hK _ _ _ (fz.put hR gG h0 r.dst hd hO hA sG ⟨N,λr hr=>ZU r (hN r hr)⟩);rw[<-lG];exact this
    |_=>simp at aN
   |_=>rw[hv]at aN;simp at aN
  case entryM x=>
   rw[Oy]at hc aN hK;have hc':dq P o=some (.entryM x):=hc;obtain⟨y,ho,hy⟩:=Ew hc';simp only[zL]at aN hK;obtain⟨nx,v,w',L',bO,AN,hO,hA,hv⟩:=GP h0.o ho (bK.bJ h0.o.gl h0.tmps hy) aN;have Cd:(lm st.ab (x.ev st.tmps)).put=none:=by unfold lm;(repeat' split)<;>rfl
   rw[Cd]at hO hA hv;rw[bO];rcases AN with rfl|⟨rfl,rfl⟩
   .rw[Oper.uponIn_value,<-lG];exact hK _ _ _ (fz.put hR gG h0 r.dst hd hO hA hv fN)
   .rw[Oper.uponIn_skip,<-lG];exact hK _ _ _ (fz.put hR gG h0 r.dst hd hO hA hv fN)
 .have h4':qP r.d=false:=by simpa using h4
  have Er:=hc;have atS:∀f args,r.d=.callF f args->Ac r.d=.call f args:=λf args h=>by rw[h];rfl
  unfold post at aN hK;rw[iK h4]at aN hK;simp only at aN hK;by_cases nX:∃f args,r.d=.call f args
  .obtain⟨f,args,RA⟩:=nX;rw[RA]at hc;obtain⟨c,ho,aS⟩:=fU hc (.inl ⟨f,args,rfl⟩);obtain⟨fn,kx,yB,dd,Rz,qq⟩:=yx aS;have bO:=lq (P:=P) (w:=w) (a:=a) (g:=f) (cz:= #[]) ho (λx hx=>by rw[kx]at hx;cases hx;rfl) ⟨_,kx⟩ ⟨fn,yB,dd,Rz⟩;rw[Zb8]at bO;rw[bO,Oper.uponIn_enter];refine⟨λhx=>(by cases hx),jW ?_⟩;simp only[od,RA,db,pF]at aN hK;cases hg:Γ f with
   |none=>simp[hg,cW]at aN
   |some s=>
    simp only[hg]at aN hK;obtain⟨oV,oL⟩:=aN;refine(E9 bb h0.o hg oV oL (cT:=c.args.map a.eval) (by simpa using gY h0.o.gl h0.tmps qq)).mono ?_;rintro e w' ⟨v,rfl,hO,hA,sG⟩;have:=hK _ _ _ (fz.put hR gG h0 r.dst hd hO hA sG fN);rw[<-lG];exact this
  .by_cases Mf:∃f args,r.d=.callF f args
   .obtain⟨f,args,RA⟩:=Mf;have gD:dq P o=some (.call f args):=by rw[<-atS f args RA];exact Er
    obtain⟨c,ho,aS⟩:=fU gD (.inl ⟨f,args,rfl⟩);obtain⟨fn,kx,yB,dd,Rz,qq⟩:=yx aS;have bO:=lq (P:=P) (w:=w) (a:=a) (g:=f) (cz:= #[]) ho (λx hx=>by rw[kx]at hx;cases hx;rfl) ⟨_,kx⟩ ⟨fn,yB,dd,Rz⟩;rw[Zb8]at bO;rw[bO,Oper.uponIn_enter];refine⟨λhx=>(by cases hx),jW ?_⟩;simp only[od,RA,db,oQ]at aN hK;cases hg:Γ f with
    |none=>simp[hg,cW]at aN
    |some s=>
     simp only[hg]at aN hK;cases kc:s.fresh with
     |none=>simp[kc,cW]at aN
     |some q=>
      obtain⟨e,sz⟩:=q;simp only[kc]at aN hK;cases hrw:s.fn (jr st.ab (args.map (·.ev st.tmps)))<;>simp only[hrw,cW]at aN hK<;>try exact aN.elim
      rename_i aC;obtain⟨oV,oL⟩:=aN;obtain⟨eN,h1,h2,h3⟩:=(bb f s hg).fresh e sz kc _ oL;rw[hrw]at h1;cases h1;refine(Me h0.o oV h2 h3 (cT:=c.args.map a.eval) (by simpa using gY h0.o.gl h0.tmps qq) eO).mono ?_;rintro e' w' ⟨v,L',rfl,hO,hA,sG⟩;have Cm:∃N,∀r',N<=r'->(cC st.ab (some (bQ aP r.dst,.bm 0 e sz aC))) r'=none:=by
       obtain⟨N,hN⟩:=fN;refine⟨max N (bQ aP r.dst+1),λr' nl=>?_⟩;simp only[cC];rw[iK (by omega)];exact hN r' (by omega)
      have:=hK _ _ _ (fz.put hR gG h0 r.dst hd hO hA sG Cm);rw[<-lG];exact this
   by_cases Mg:∃f args,r.d=.callR f args
   .obtain⟨f,args,RA⟩:=Mg;have gD:dq P o=some (.call f args):=by rw[show(qO.call f args)=Ac r.d by rw[RA];rfl];exact Er
    obtain⟨c,ho,aS⟩:=fU gD (.inl ⟨f,args,rfl⟩);obtain⟨fn,kx,yB,dd,Rz,qq⟩:=yx aS;have bO:=lq (P:=P) (w:=w) (a:=a) (g:=f) (cz:= #[]) ho (λx hx=>by rw[kx]at hx;cases hx;rfl) ⟨_,kx⟩ ⟨fn,yB,dd,Rz⟩;rw[Zb8]at bO;rw[bO,Oper.uponIn_enter];refine⟨λhx=>(by cases hx),jW ?_⟩;simp only[od,RA,db,oP]at aN hK;cases hg:Γ f with
    |none=>simp[hg,cW]at aN
    |some s=>
     simp only[hg]at aN hK;cases hk:s.st with
     |none=>simp[hk,cW]at aN
     |some k=>
      simp only[hk]at aN hK;obtain⟨Mh,UJ,dB⟩:=aN st.ab (λ_ _=>rfl);obtain⟨c9,ZU⟩:=(bb f s hg).st k hk _ _ Mh;obtain⟨N,hN⟩:=fN;have c9:=c9 N hN;refine(c9.run base W M w0 w L (c.args.map a.eval) h0.o (by simpa using gY h0.o.gl h0.tmps qq)).mono ?_;rintro e w' ⟨v,L',rfl,hO,hA,hv⟩;rw[UJ]at hO hA hv;rw[dB]at hv;have:=hK _ _ _ (fz.put hR gG h0 r.dst hd hO hA hv ⟨N,hN⟩);rw[<-lG];exact this
   by_cases afE:∃e sz Mb zero n,r.d=.mkSliceB e sz Mb zero n
   .obtain⟨e,sz,Mb,zero,n,RA⟩:=afE;have gD:dq P o=some (.mkSlice e sz Mb zero n):=by rw[show(qO.mkSlice e sz Mb zero n)=Ac r.d by rw[RA];rfl];exact Er
    simp only[od,RA,db]at aN hK;obtain⟨nx,v,w',L',bO,AN,hO,hA,hv⟩:=Ry h0.o gD h0.tmps eO aN;have Cm:∃N,∀r',N<=r'->(cC st.ab (gj sz Mb zero (bQ aP r.dst) (n.ev st.tmps)).put) r'=none:=by
     obtain⟨N,hN⟩:=fN;cases hp:(gj sz Mb zero (bQ aP r.dst) (n.ev st.tmps)).put with
     |none=>exact⟨N,hN⟩
     |some q=>
      obtain⟨t,o'⟩:=q;refine⟨max N (t+1),λr' nl=>?_⟩;simp only[cC];rw[iK (by omega)];exact hN r' (by omega)
    rw[bO];rcases AN with rfl|⟨rfl,rfl⟩
    .rw[Oper.uponIn_value,<-lG];exact hK _ _ _ (fz.put hR gG h0 r.dst hd hO hA hv Cm)
    .rw[Oper.uponIn_skip,<-lG];exact hK _ _ _ (fz.put hR gG h0 r.dst hd hO hA hv Cm)
   have hbd:Ac r.d=r.d:=by
    cases Oy:r.d<;>rw[Oy]at h4' Mf Mg afE<;>first|rfl|(simp[qP]at h4';done)|exact qe ⟨_,_,rfl⟩ Mf|exact qe ⟨_,_,rfl⟩ Mg|exact qe ⟨_,_,_,_,_,rfl⟩ afE
   rw[hbd]at hc;have Cm:∃N,∀r',N<=r'->(cC st.ab (od Γ aP r st).put) r'=none:=by
    obtain⟨N,hN⟩:=fN;cases hp:(od Γ aP r st).put with
    |none=>exact⟨N,hN⟩
    |some q=>
     obtain⟨t,o'⟩:=q;refine⟨max N (t+1),λr' nl=>?_⟩;simp only[cC];rw[iK (by omega)];exact hN r' (by omega)
   obtain⟨nx,v,w',L',bO,AN,hO,hA,hv⟩:=UC (Γ:=Γ) (name:=bQ aP r.dst) hc (λf args e=>nX ⟨f,args,e⟩) h0.tmps h0.o eO aN;rw[bO];rcases AN with rfl|⟨rfl,rfl⟩
   .rw[Oper.uponIn_value,<-lG];exact hK _ _ _ (fz.put hR gG h0 r.dst hd hO hA hv Cm)
   .rw[Oper.uponIn_skip,<-lG];exact hK _ _ _ (fz.put hR gG h0 r.dst hd hO hA hv Cm)
end
end
end Go.DM
