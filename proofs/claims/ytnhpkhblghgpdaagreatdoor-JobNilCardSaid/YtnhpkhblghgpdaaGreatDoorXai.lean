/- Part of the proof. Conditions: none. -/
import Derived.Test.YtnhpkhblghgpdaaGreatDoorXah
set_option linter.unusedSectionVars false
set_option linter.unusedSimpArgs false
set_option linter.unusedVariables false
set_option linter.defProp false
set_option maxRecDepth 20000
set_option maxHeartbeats 16000000
namespace Go.Proofs
namespace cC
open Go.DM
section
variable{b7:bO}
def Fs{n:aD}(hn:dO n)(hp:dY n b7):J6 n.an (kb n b7):=by
 have h:=hn.ok;obtain⟨p1,p2⟩:=hp;refine⟨by have:=h.1;omega,by have:=h.2.1;omega,by simp only[kb,Zbn];have:=h.2.2.1;omega,λe he=>?_⟩;simp only[kb,Zak]at he;obtain⟨r,hr,rfl⟩:=he;obtain⟨q1,q2,q3,q4,q5⟩:=h.2.2.2 r hr;have hc:0<=(fu b7 r).aH/\(fu b7 r).aH<=4000000000000:=by
  unfold fu;split
  ·rename_i h2;have ha:r.a.toNat<b7.length:=by omega
   have:=p2 _ ha;unfold wX at this;simp only;omega
  ·simp only;omega
 refine⟨q1,q2,λt ht=>?_,hc.1,hc.2,by have:=Fo r;simp only[fu];omega⟩;simp only[fu,jk]at ht;split at ht
 ·simp only[Zan]at ht;omega
 ·split at ht
  ·simp only[Zah,Zal,or_false]at ht;omega
  ·cases ht
def eu(n:aD)(b7:bO):bR:=if dO n/\dY n b7 then fS n.an (kb n b7)else []
abbrev s20:DM.Spec:=cT (λts=>∃a b c l,ts=[.agg [ti a,ti b,ti c,.sl (aU l)]]/\l.length<=9223372036854775807) (fun|[n]=>.bool (decide (dO (Mm n)))|_=>.bool false) true
abbrev s44:DM.Spec:=cT (λts=>∃a b c l i,ts=[.agg [ti a,ti b,ti c,.sl (aU l)],.sl (aG i)]/\i.length<=9223372036854775807) (fun|[n,.sl i]=>.bool (decide (dY (Mm n) (lS i)))|_=>.bool false) true
abbrev s67:DM.Spec:=cT (λts=>∃a b c l i,ts=[.agg [ti a,ti b,ti c,.sl (aU l)],.sl (aG i)]/\AD ⟨a,b,c,l⟩/\dY ⟨a,b,c,l⟩ i) (fun|[n,.sl i]=>.agg [ti (Mm n).an,.sl (bk (kb (Mm n) (lS i)))]|_=>.bool false) false
abbrev s66:DM.Spec:=cT (λts=>∃nd es,ts=[.agg [ti nd,.sl (bk es)]]/\J6 nd es) (fun|[.agg [.int _ nd,.sl es]]=>.eo [.sl (bC (fS nd (Fm es))),.sl (aG (wm (Fm es) (fS nd (Fm es)) nd es.length))]|_=>.bool false) false
abbrev s45:DM.Spec:=cT (λts=>∃a b c l i,ts=[.agg [ti a,ti b,ti c,.sl (aU l)],.sl (aG i)]/\l.length<=9223372036854775807/\i.length<=9223372036854775807) (fun|[n,.sl i]=>.sl (bC (eu (Mm n) (lS i)))|_=>.bool false) false
def okV1:ay aj (bu [(34,s20),(35,s44),(62,s67),(61,s66)]):=by
 refine ay.cons (ay.cons (ay.cons (ay.cons ay.nil ?_) ?_) ?_) ?_
 ·rintro ts ⟨nd,es,rfl,h⟩;exact⟨by simpa using t66 nd es h,λh=>by cases h⟩
 ·rintro ts ⟨a,b,c,l,i,rfl,h1,h2⟩;exact⟨by simpa [aD.enc]using t67 ⟨a,b,c,l⟩ i h1 h2,λh=>by cases h⟩
 ·rintro ts ⟨a,b,c,l,i,rfl,h⟩;exact⟨by simpa [aD.enc]using t44 ⟨a,b,c,l⟩ i h,λ_=>rfl⟩
 ·rintro ts ⟨a,b,c,l,rfl,h⟩;exact⟨by simpa [aD.enc]using t20 ⟨a,b,c,l⟩ h,λ_=>rfl⟩
def t45(n:aD)(b7:bO)(h1:n.au.length<=9223372036854775807)(h2:b7.length<=9223372036854775807):bl aj 36 [n.enc,.sl (aG b7)] (.sl (bC (eu n b7))):=by
 obtain⟨R,hR⟩:=bb (eu n b7);rw[hR];unfold eu at hR;obtain⟨nt,nn,ns,au⟩:=n;simp only at h1;have aC:=okV1;refine c45.ok (by simp) (aO ?_);simp[aD.enc];apply aa.ag aC fw [1,2];simp[K8];refine aa.le (Le.bi (o:=[]) (l:=[(1,.v (.sl (aG b7))),(2,.v (.box [ti nt,ti nn,ti ns,.sl (aU au)]))]) (ba:=1200) ?_ ?_ ?_ ?_) ?_;iterate 4(·simp)
 apply aa.seq;obtain⟨c1,bU⟩:=bb (decide (¬dO ⟨nt,nn,ns,au⟩\/¬dY ⟨nt,nn,ns,au⟩ b7):Bool);refine aa.cz aC fw [(1,.v (.sl (aG b7))),(2,.v (.box [ti nt,ti nn,ti ns,.sl (aU au)])),(15,.v (.bool c1))] ?_ ?_
 ·by_cases q1:dO ⟨nt,nn,ns,au⟩
  ·by_cases q2:dY ⟨nt,nn,ns,au⟩ b7
   ·have:c1=false:=by rw[<-bU];simp[q1,q2]
    simp[Ed,Zba,h1,h2,q1,q2,this]
   ·have:c1=true:=by rw[<-bU];simp[q2]
    simp[Ed,Zba,h1,h2,q1,q2,this]
  ·have:c1=true:=by rw[<-bU];simp[q1]
   simp[Ed,Zba,h1,q1,this]
 refine aa.cond rfl (λg=>?_) (λg=>?_)
 ·rw[g]at bU;have bU:=Zat bU;rw[Zab (λh=>bU.elim (λq=>q h.1) (λq=>q h.2))]at hR;subst hR;apply aa.ag aC fw [4];simp[K9];apply aa.ret;simp[wT]
 ·rw[g]at bU;have bU:=Zay bU;simp only[not_or,Classical.not_not]at bU;obtain⟨Bk,mQ⟩:=bU;apply aa.skip;simp;rw[Zai ⟨Bk,mQ⟩]at hR;have hg:=Fs Bk mQ;have hn:=Bk.ok;simp only at hR hg;apply aa.ag aC fw [5];simp[La,Zba,hn,mQ,hg,hR];apply aa.ag aC fw [4];simp[Lb];apply aa.ret;simp[wT]
def sO(v:bR)(i:Nat):Prop:=¬(v.getD i default).size>1000
instance(v:bR)(i:Nat):Decidable (sO v i):=by unfold sO;infer_instance
def Gj(n:aD)(b7:bO):Prop:=(dO n/\dY n b7)/\∀i,i<(eu n b7).length->sO (eu n b7) i
instance(n:aD)(b7:bO):Decidable (Gj n b7):=by unfold Gj;infer_instance
def okV2:ay aj (bu [(34,s20),(35,s44),(36,s45)]):=by
 refine ay.cons (ay.cons (ay.cons ay.nil ?_) ?_) ?_
 ·rintro ts ⟨a,b,c,l,i,rfl,h1,h2⟩;exact⟨by simpa [aD.enc]using t45 ⟨a,b,c,l⟩ i h1 h2,λh=>by cases h⟩
 ·rintro ts ⟨a,b,c,l,i,rfl,h⟩;exact⟨by simpa [aD.enc]using t44 ⟨a,b,c,l⟩ i h,λ_=>rfl⟩
 ·rintro ts ⟨a,b,c,l,rfl,h⟩;exact⟨by simpa [aD.enc]using t20 ⟨a,b,c,l⟩ h,λ_=>rfl⟩
def Mr{n:aD}(h1:dO n)(h2:dY n b7):(eu n b7).length<=1000:=by
 unfold eu;rw[Zai ⟨h1,h2⟩];have:=(AJ (Fs h1 h2)).1;have:=h1.ok.2.1;omega
def t22(n:aD)(b7:bO)(h1:n.au.length<=9223372036854775807)(h2:b7.length<=9223372036854775807):bl aj 22 [n.enc,.sl (aG b7)] (.bool (decide (Gj n b7))):=by
 obtain⟨v,hv⟩:=bb (decide (Gj n b7));rw[hv];have c7:Gj n b7↔(dO n/\dY n b7)/\∀i,i<(eu n b7).length->sO (eu n b7) i:=Iff.rfl;have cZ:¬Gj n b7->v=false:=λh=>by rw[<-hv];simp[h]
 have Wc:=λa b=>Mr (n:=n) (b7:=b7) a b;obtain⟨V,hV⟩:=bb (eu n b7);rw[hV]at c7 Wc;obtain⟨nt,nn,ns,au⟩:=n;simp only at h1;have aC:=okV2;refine c22.ok (by simp) (aO ?_);simp[aD.enc];apply aa.ag aC fw [1,2];simp[d22r0];refine aa.le (Le.bi (o:=[]) (l:=[(1,.v (.sl (aG b7))),(2,.v (.box [ti nt,ti nn,ti ns,.sl (aU au)]))]) (ba:=1200) ?_ ?_ ?_ ?_) ?_;iterate 4(·simp)
 apply aa.seq;obtain⟨c1,bU⟩:=bb (decide (¬dO ⟨nt,nn,ns,au⟩\/¬dY ⟨nt,nn,ns,au⟩ b7):Bool);refine aa.cz aC fw [(1,.v (.sl (aG b7))),(2,.v (.box [ti nt,ti nn,ti ns,.sl (aU au)])),(15,.v (.bool c1))] ?_ ?_
 ·by_cases q1:dO ⟨nt,nn,ns,au⟩
  ·by_cases q2:dY ⟨nt,nn,ns,au⟩ b7
   ·have:c1=false:=by rw[<-bU];simp[q1,q2]
    simp[QZ,Zba,h1,h2,q1,q2,this]
   ·have:c1=true:=by rw[<-bU];simp[q2]
    simp[QZ,Zba,h1,h2,q1,q2,this]
  ·have:c1=true:=by rw[<-bU];simp[q1]
   simp[QZ,Zba,h1,q1,this]
 refine aa.cond rfl (λg=>?_) (λg=>?_)
 ·rw[g]at bU;have bU:=Zat bU;apply aa.ag aC fw [4];simp[d22r2];apply aa.ret;rw[cZ λh=>bU.elim (λq=>q (c7.1 h).1.1) (λq=>q (c7.1 h).1.2)];simp[Iw]
 ·rw[g]at bU;have bU:=Zay bU;simp only[not_or,Classical.not_not]at bU;obtain⟨Bk,mQ⟩:=bU;apply aa.skip;simp;have hVl:=Wc Bk mQ;apply aa.ag aC fw [5];simp[d22r3,Zba,h1,h2,hV];apply aa.seq;apply aa.ag aC fw [5,6];simp[d22r4];apply aa.block;refine aa.loop (λy:Nat=>⟨DM.look [(5,.v (.sl (bC V))),(6,.v (ti y))],cM [],2000,1000,[]⟩)
   (λy=>y<=V.length/\∀i,i<y->sO V i) (λy=>V.length-y) 0 (Le.bi (o:=[]) ?_ ?_ ?_ ?_) (by simp) (λy hy=>?_)
  iterate 4(·simp)
  obtain⟨lq,fJ⟩:=hy;apply aa.seq;apply aa.ag aC fw [5,6,22];simp[d22r5];refine aa.cond rfl (λcR=>?_) (λcR=>?_)
  ·have cR:y<V.length:=by simpa using cR
   apply aa.skip;simp;apply aa.seq;apply aa.block;have rr:=dd cR;obtain⟨x,hx⟩:=bb (V.getD y default);rw[hx]at rr;apply aa.ag aC fw [5,6,30];simp[d22r6,cR,rr];refine aa.cond rfl (λh8=>?_) (λh8=>?_)
   ·have h8:x.size>1000:=by simpa using h8
    apply aa.ag aC fw [4];simp[d22r7];apply aa.ret;rw[cZ λh=>by have:=(c7.1 h).2 y cR;unfold sO at this;rw[hx]at this;exact this h8];simp[Iw]
   ·have h8:¬x.size>1000:=by simpa using h8
    apply aa.skip;simp;apply aa.fK aC fw [5,6];simp[d22r8];rw[aF (x:=(y:Int)+1) (by omega)];refine⟨y+1,Le.bi (o:=[]) ?_ ?_ ?_ ?_,⟨by omega,λi hi=>?_⟩,by omega⟩;iterate 4(·simp)
    ·by_cases e:i=y
     ·subst e;unfold sO;rw[hx];exact h8
     ·exact fJ i (by omega)
  ·have hy3:y=V.length:=by simp at cR;omega
   subst hy3;apply aa.exit;simp;apply aa.ag aC fw [4];simp[d22r9];apply aa.ret;have:v=true:=by rw[<-hv];exact decide_eq_true (c7.2 ⟨⟨Bk,mQ⟩,fJ⟩)
   rw[this];simp[Iw]
end
def inpOk(x:Input):Prop:=OI x/\x.aw.length<=60/\x.insert.length<=100/\∀c∈x.aw,c.read.length=x.insert.length
def ref_lOk{x:Input}(h:inpOk x):F7 (ci x):=by
 obtain⟨h1,h2,h3,h4⟩:=h;have hs:(ci x).bn=2*x.aw.length+1:=rfl;have ha:(ci x).bE=jo x:=rfl;refine⟨by omega,by omega,by rw[ha];have:=BL h3 h2;omega,λa hm=>?_⟩;rw[ha]at hm;have h5:=(Jf h1 h2 a hm).2.2.2.2.2;have h6:=(Bh hm).2;omega
def g8(l:List Bool):List (aK):=l.map λb=>[.bool b]
@[simp] def boolsT_len(l:List Bool):(g8 l).length=l.length:=by simp[g8]
def Fa(l:List Bool)(i:Nat)(b:Bool):g8 (l.set i b)=(g8 l).set i [.bool b]:=by simp[g8,Zcd]
def jG{l:List Bool}{y:Nat}(h:y<l.length):DM.rowAt (g8 l) y=[.bool (l.getD y default)]:=by simp[DM.rowAt,g8,h]
section
variable{f:bq}{sp:Nat}
structure NN where
 (rb rf rh q a hp m:Nat)
structure dn where
 ak:bR
 bZ:List Bool
 fl:bO
 s:Qs
structure eY where
 n:aD
 l:aV
 c:d6
 (fr to:Int)
def ma(k:NN)(z:eY):bB:=[.v (ti z.n.aL),.v (ti z.n.an),.v (ti z.n.start),.v (.sl (aU z.n.au)),.v (ti z.l.bn),.v (.sl (j7 z.l.bE)),.v (.sl (aG z.l.uH)),.v (ti z.c.an),.v (ti z.c.bn),.v (.sl (cu z.c.cells)),.v (ti z.fr),.v (ti z.to),.bA k.rb 0,.bA k.rf 0,.bA k.rh 0,.ptr k.q 0]
def qK(s:dn):Ob:=.arr 0 63 2 (bC s.ak)
def rU(s:dn):Ob:=.arr 0 4 1 (g8 s.bZ)
def rV(s:dn):Ob:=.arr 0 3 1 (aG s.fl)
structure SV where
 k:NN
 z:eY
 s:dn
structure SV.at(v:SV)(f:bq)(p:Nat):Prop where
 sp:f p=some (.box (ma v.k v.z))
 rb:f v.k.rb=some (qK v.s)
 rf:f v.k.rf=some (rU v.s)
 rh:f v.k.rh=some (rV v.s)
 q:f v.k.q=some (qB v.k.a v.k.hp v.k.m v.s.s)
 hp:f v.k.hp=some (hB v.s.s)
 m:f v.k.m=some (mB v.s.s)
 a:f v.k.a=some (.box [.ptr p 0])
@[simp] def PY{a b:List Bool}:g8 a=g8 b↔a=b:=⟨λh=>by
 unfold g8 at h;exact List.map_inj_right (f:=λb:Bool=>[T.bool b]) (λx y h=>by simpa using h)|>.1 h,λh=>by rw[h]⟩
def SV.Cg{v w:SV}(h:v.at f sp)(k:w.at f sp):v=w:=by
 obtain⟨⟨rb,rf,rh,q,a,hp,m⟩,⟨⟨nt,nn,ns,au⟩,⟨ls,bE,bZ⟩,⟨cn,cs,cl⟩,fr,to⟩,⟨ak,fn,fl,⟨heap,bD,es,mc,next,clock⟩⟩⟩:=v;obtain⟨⟨rb',rf',rh',q',a',hp',m'⟩,⟨⟨nt',nn',ns',rules'⟩,⟨ls',arcs',fin'⟩,⟨cn',cs',cl'⟩,fr',to'⟩,⟨best',fn',hdl',⟨Yu,cg,m0,mc',next',clock'⟩⟩⟩:=w;obtain⟨h1,h2,h3,h4,h5,h6,h7,h8⟩:=h;obtain⟨k1,k2,k3,k4,k5,k6,k7,k8⟩:=k;simp only[ma]at h1 k1;rw[h1]at k1;simp only[Zaa,Ob.box.injEq,Za1,DV.v.injEq,T.int.injEq,T.sl.injEq,Pd,V7,G5,Pe,DV.bA.injEq,DV.ptr.injEq,and_true,true_and]at k1;obtain⟨rfl,rfl,rfl,rfl,rfl,rfl,rfl,rfl,rfl,rfl,rfl,rfl,rfl,rfl,rfl,rfl⟩:=k1;simp only[qK,rU,rV]at h2 h3 h4 k2 k3 k4;rw[h2]at k2;rw[h3]at k3;rw[h4]at k4;simp only[Zaa,Ob.arr.injEq,rn,PY,G5,true_and]at k2 k3 k4;subst k2 k3 k4;simp only[qB]at h5 k5;rw[h5]at k5;simp only[Zaa,Ob.box.injEq,Za1,DV.nG.injEq,DV.ptr.injEq,DV.bA.injEq,DV.iE.injEq,DV.v.injEq,T.int.injEq,true_and,and_true]at k5;obtain⟨rfl,⟨rfl,rfl⟩,rfl,rfl,rfl⟩:=k5;simp only[hB]at h6 k6;rw[h6]at k6;simp only[Zaa,Ob.arr.injEq,vI,true_and]at k6;simp only[mB]at h7 k7;rw[h7]at k7;simp only[Zaa,Ob.map.injEq,JA,true_and]at k7;obtain⟨rfl,rfl⟩:=k7;subst k6;rfl
open Classical in
noncomputable def jm(f:bq)(sp:Nat):SV:=if h:∃v:SV,v.at f sp then Classical.choose h else⟨⟨0,0,0,0,0,0,0⟩,⟨⟨0,0,0,[]⟩,⟨0,[],[]⟩,⟨0,0,[]⟩,0,0⟩,⟨[],[],[],⟨[],0,[],0,0,0⟩⟩⟩
def io{v:SV}(h:v.at f sp):jm f sp=v:=by
 have hx:∃v:SV,v.at f sp:=⟨v,h⟩;unfold jm;rw[ZcV hx];exact SV.Cg (Classical.choose_spec hx) h
def SV.qv(v:SV)(sp:Nat):QV:=⟨v.k.a,v.k.hp,v.k.m,⟨sp,v.k.rb,ma v.k v.z,v.s.ak⟩,v.s.s⟩
def SV.at.qv{v:SV}(h:v.at f sp):(v.qv sp).at f v.k.q:=⟨h.q,h.hp,h.m,⟨h.a,h.sp,rfl,h.rb⟩⟩
abbrev SV.to(v:SV)(s:dn):SV:=⟨v.k,v.z,s⟩
def bX(f:bq)(v:SV)(s:dn):bq:=aM [(v.k.rb,qK s),(v.k.rf,rU s),(v.k.rh,rV s),(v.k.q,qB v.k.a v.k.hp v.k.m s.s),(v.k.hp,hB s.s),(v.k.m,mB s.s)] f
structure SV.Ne(v:SV)(sp:Nat):Prop where
 nV:sp≠v.k.rb
 nW:sp≠v.k.rf
 nX:sp≠v.k.rh
 uP:sp≠v.k.q
 nw:sp≠v.k.hp
 uQ:sp≠v.k.m
 PZ:sp≠v.k.a
 qc:v.k.rb≠sp
 pq:v.k.rb≠v.k.rf
 qd:v.k.rb≠v.k.rh
 zi:v.k.rb≠v.k.q
 qe:v.k.rb≠v.k.hp
 zj:v.k.rb≠v.k.m
 P0:v.k.rb≠v.k.a
 pu:v.k.rf≠sp
 nY:v.k.rf≠v.k.rb
 qf:v.k.rf≠v.k.rh
 zk:v.k.rf≠v.k.q
 qg:v.k.rf≠v.k.hp
 zl:v.k.rf≠v.k.m
 P3:v.k.rf≠v.k.a
 qh:v.k.rh≠sp
 nZ:v.k.rh≠v.k.rb
 oa:v.k.rh≠v.k.rf
 zm:v.k.rh≠v.k.q
 qi:v.k.rh≠v.k.hp
 zn:v.k.rh≠v.k.m
 P4:v.k.rh≠v.k.a
 zo:v.k.q≠sp
 tH:v.k.q≠v.k.rb
 tJ:v.k.q≠v.k.rf
 tK:v.k.q≠v.k.rh
 xo:v.k.q≠v.k.hp
 PD:v.k.q≠v.k.m
 nqa:v.k.q≠v.k.a
 qj:v.k.hp≠sp
 mo:v.k.hp≠v.k.rb
 mq:v.k.hp≠v.k.rf
 mr:v.k.hp≠v.k.rh
 vS:v.k.hp≠v.k.q
 xp:v.k.hp≠v.k.m
 P5:v.k.hp≠v.k.a
 zp:v.k.m≠sp
 tM:v.k.m≠v.k.rb
 tN:v.k.m≠v.k.rf
 tO:v.k.m≠v.k.rh
 NM:v.k.m≠v.k.q
 vT:v.k.m≠v.k.hp
 nma:v.k.m≠v.k.a
 P6:v.k.a≠sp
 Nb:v.k.a≠v.k.rb
 Nc:v.k.a≠v.k.rf
 Nd:v.k.a≠v.k.rh
 naq:v.k.a≠v.k.q
 Nf:v.k.a≠v.k.hp
 nam:v.k.a≠v.k.m
def SV.at.ne{v:SV}(h:v.at f sp):v.Ne sp:=by
 obtain⟨hsp,oO,oP,nz,hq,lU,hm,ha⟩:=h;simp only[ma,qK,rU,rV,qB,hB,mB]at hsp oO oP nz hq lU hm;exact⟨λe=>by rw[e,oO]at hsp;simp at hsp,
  λe=>by rw[e,oP]at hsp;simp at hsp,
  λe=>by rw[e,nz]at hsp;simp at hsp,
  λe=>by rw[e,hq]at hsp;simp at hsp,
  λe=>by rw[e,lU]at hsp;simp at hsp,
  λe=>by rw[e,hm]at hsp;simp at hsp,
  λe=>by rw[e,ha]at hsp;simp at hsp,
  λe=>by rw[e,hsp]at oO;simp at oO,
  λe=>by rw[e,oP]at oO;simp at oO,
  λe=>by rw[e,nz]at oO;simp at oO,
  λe=>by rw[e,hq]at oO;simp at oO,
  λe=>by rw[e,lU]at oO;simp at oO,
  λe=>by rw[e,hm]at oO;simp at oO,
  λe=>by rw[e,ha]at oO;simp at oO,
  λe=>by rw[e,hsp]at oP;simp at oP,
  λe=>by rw[e,oO]at oP;simp at oP,
  λe=>by rw[e,nz]at oP;simp at oP,
  λe=>by rw[e,hq]at oP;simp at oP,
  λe=>by rw[e,lU]at oP;simp at oP,
  λe=>by rw[e,hm]at oP;simp at oP,
  λe=>by rw[e,ha]at oP;simp at oP,
  λe=>by rw[e,hsp]at nz;simp at nz,
  λe=>by rw[e,oO]at nz;simp at nz,
  λe=>by rw[e,oP]at nz;simp at nz,
  λe=>by rw[e,hq]at nz;simp at nz,
  λe=>by rw[e,lU]at nz;simp at nz,
  λe=>by rw[e,hm]at nz;simp at nz,
  λe=>by rw[e,ha]at nz;simp at nz,
  λe=>by rw[e,hsp]at hq;simp at hq,
  λe=>by rw[e,oO]at hq;simp at hq,
  λe=>by rw[e,oP]at hq;simp at hq,
  λe=>by rw[e,nz]at hq;simp at hq,
  λe=>by rw[e,lU]at hq;simp at hq,
  λe=>by rw[e,hm]at hq;simp at hq,
  λe=>by rw[e,ha]at hq;simp at hq,
  λe=>by rw[e,hsp]at lU;simp at lU,
  λe=>by rw[e,oO]at lU;simp at lU,
  λe=>by rw[e,oP]at lU;simp at lU,
  λe=>by rw[e,nz]at lU;simp at lU,
  λe=>by rw[e,hq]at lU;simp at lU,
  λe=>by rw[e,hm]at lU;simp at lU,
  λe=>by rw[e,ha]at lU;simp at lU,
  λe=>by rw[e,hsp]at hm;simp at hm,
  λe=>by rw[e,oO]at hm;simp at hm,
  λe=>by rw[e,oP]at hm;simp at hm,
  λe=>by rw[e,nz]at hm;simp at hm,
  λe=>by rw[e,hq]at hm;simp at hm,
  λe=>by rw[e,lU]at hm;simp at hm,
  λe=>by rw[e,ha]at hm;simp at hm,
  λe=>by rw[e,hsp]at ha;simp at ha,
  λe=>by rw[e,oO]at ha;simp at ha,
  λe=>by rw[e,oP]at ha;simp at ha,
  λe=>by rw[e,nz]at ha;simp at ha,
  λe=>by rw[e,hq]at ha;simp at ha,
  λe=>by rw[e,lU]at ha;simp at ha,
  λe=>by rw[e,hm]at ha;simp at ha⟩
def kH{v:SV}(h:v.at f sp)(s:dn):(v.to s).at (bX f v s) sp:=by
 obtain⟨nV,nW,nX,uP,nw,uQ,PZ,qc,pq,qd,zi,qe,zj,P0,pu,nY,qf,zk,qg,zl,P3,qh,nZ,oa,zm,qi,zn,P4,zo,tH,tJ,tK,xo,PD,nqa,qj,mo,mq,mr,vS,xp,P5,zp,tM,tN,tO,NM,vT,nma,P6,Nb,Nc,Nd,naq,Nf,nam⟩:=h.ne;refine⟨?_, ?_, ?_, ?_, ?_, ?_, ?_, ?_⟩
 ·simp[bX,nV,nW,nX,uP,nw,uQ,h.sp]
 ·simp[bX]
 ·simp[bX,nY]
 ·simp[bX,nZ,oa]
 ·simp[bX,tH,tJ,tK]
 ·simp[bX,mo,mq,mr,vS]
 ·simp[bX,tM,tN,tO,NM,vT]
 ·simp[bX,Nb,Nc,Nd,naq,Nf,nam,h.a]
def zr(f:bq)(v:SV)(s s':dn):bX (bX f v s) (v.to s) s'=bX f v s':=by
 funext k;simp only[bX,aP,cm];by_cases h1:k=v.k.rb<;>by_cases h2:k=v.k.rf<;>by_cases h3:k=v.k.rh<;>by_cases h4:k=v.k.q<;>by_cases h5:k=v.k.hp<;>by_cases h6:k=v.k.m<;>simp[h1,h2,h3,h4,h5,h6]
def gK{v:SV}{r:Nat}(h:v.at f sp)(s:dn)(hr:f r=none):bX f v s r=none:=by
 have e1:r≠v.k.rb:=λe=>by rw[e,h.rb]at hr;cases hr
 have e2:r≠v.k.rf:=λe=>by rw[e,h.rf]at hr;cases hr
 have e3:r≠v.k.rh:=λe=>by rw[e,h.rh]at hr;cases hr
 have e4:r≠v.k.q:=λe=>by rw[e,h.q]at hr;cases hr
 have e5:r≠v.k.hp:=λe=>by rw[e,h.hp]at hr;cases hr
 have e6:r≠v.k.m:=λe=>by rw[e,h.m]at hr;cases hr
 simp[bX,e1,e2,e3,e4,e5,e6,hr]
def eH{v:SV}(h:v.at f sp):bX f v v.s=f:=by
 funext k;simp only[bX,aP,cm];split
 ·rename_i e;rw[e];exact h.rb.symm
 ·split
  ·rename_i e;rw[e];exact h.rf.symm
  ·split
   ·rename_i e;rw[e];exact h.rh.symm
   ·split
    ·rename_i e;rw[e];exact h.q.symm
    ·split
     ·rename_i e;rw[e];exact h.hp.symm
     ·split
      ·rename_i e;rw[e];exact h.m.symm
      ·rfl
def le_s{f0:bq}{N aJ ba:Nat}{tm:dw}{l:fA}{L:cV}{v:SV}(s:dn)(aT:dh f0 N)(hv:v.at f0 sp)(hn:N<=ba)
  (hL:∀p∈L,p.1=v.k.rb\/p.1=v.k.rf\/p.1=v.k.rh\/p.1=v.k.q\/p.1=v.k.hp\/p.1=v.k.m\/N<=p.1) (hF:∀r,r<N->aM L f0 r=bX f0 v s r)
  (ik:fR (aM L f0) (bX f0 v s) id tm l):
  Le ⟨tm,aM L f0,aJ,N,[]⟩ ⟨DM.look l,bX f0 v s,ba,N,[]⟩:=by
 have hin:∀{r o},f0 r=some o->r<N:=λh=>(aT _ _ h).1;have hP:=kH hv s;obtain⟨nV,nW,nX,uP,nw,uQ,PZ,qc,pq,qd,zi,qe,zj,P0,pu,nY,qf,zk,qg,zl,P3,qh,nZ,oa,zm,qi,zn,P4,zo,tH,tJ,tK,xo,PD,nqa,qj,mo,mq,mr,vS,xp,P5,zp,tM,tN,tO,NM,vT,nma,P6,Nb,Nc,Nd,naq,Nf,nam⟩:=hv.ne;refine Le.dV aT hn ?_ ?_ ?_ ik
 ·have:=hin hv.rb;have:=hin hv.rf;have:=hin hv.rh;have:=hin hv.q;have:=hin hv.hp;have:=hin hv.m;simp;omega
 ·have:∀(L:cV),(∀p∈L,p.1=v.k.rb\/p.1=v.k.rf\/p.1=v.k.rh\/p.1=v.k.q\/p.1=v.k.hp\/p.1=v.k.m\/N<=p.1)->bK N [(v.k.rb,qK s),(v.k.rf,rU s),(v.k.rh,rV s),(v.k.q,qB v.k.a v.k.hp v.k.m s.s),(v.k.hp,hB s.s),(v.k.m,mB s.s)] L:=by
   intro L;induction L with
   |nil=>intro _;trivial
   |cons p L ih=>
    intro h;refine⟨λhq=>?_,ih λp hp=>h p (by simp[hp])⟩;rcases h p (by simp)with h|h|h|h|h|h|h
    ·exact⟨_,by rw[h];exact .head _⟩
    ·exact⟨_,by rw[h];exact .tail _ (.head _)⟩
    ·exact⟨_,by rw[h];exact .tail _ (.tail _ (.head _))⟩
    ·exact⟨_,by rw[h];exact .tail _ (.tail _ (.tail _ (.head _)))⟩
    ·exact⟨_,by rw[h];exact .tail _ (.tail _ (.tail _ (.tail _ (.head _))))⟩
    ·exact⟨_,by rw[h];exact .tail _ (.tail _ (.tail _ (.tail _ (.tail _ (.head _)))))⟩
    ·omega
  exact this _ hL
 ·have g:∀{r o o'},f0 r=some o'->bX f0 v s r=some o->aM L f0 r=some o:=λh1 h2=>(hF _ (hin h1)).trans h2;refine⟨⟨_,g hv.rb hP.rb,.inr ⟨rfl,λk hk=>by simp[aZ,qK]at hk⟩,λ_=>be _⟩,⟨_,g hv.rf hP.rf,.inr ⟨rfl,λk hk=>by simp[aZ,rU]at hk⟩,λ_=>be _⟩,⟨_,g hv.rh hP.rh,.inr ⟨rfl,λk hk=>by simp[aZ,rV]at hk⟩,λ_=>be _⟩,
   ⟨_,g hv.q hP.q,.inr ⟨rfl,λk hk=>?_⟩,λ_=>be _⟩,⟨_,g hv.hp hP.hp,.inr ⟨rfl,λk hk=>by simp[aZ,hB]at hk⟩,λ_=>be _⟩,⟨_,g hv.m hP.m,.inr ⟨rfl,λk hk=>?_⟩,λ_=>be _⟩,trivial⟩
  ·simp only[qB,aZ,bM,aN,ZaC,Zaq,Zah,Zal,or_false]at hk;rcases hk with rfl|rfl|rfl
   ·exact⟨_,_,g hv.a hP.a,hP.a,be _⟩
   ·exact⟨_,_,g hv.hp hP.hp,hP.hp,be _⟩
   ·exact⟨_,_,g hv.m hP.m,hP.m,be _⟩
  ·exfalso;simp only[mB,aZ,ZaV,uO,Zak]at hk;obtain⟨e,⟨e',_,rfl⟩,hk⟩:=hk;simp[aN]at hk
end
section
variable{h:Int}
abbrev s37:DM.Spec:=cT (λts=>∃cn cs cl h f t,ts=[.agg [ti cn,ti cs,.sl (cu cl)],.agg [ti h,ti f,ti t]]/\zH ⟨cn,cs,cl⟩) (fun|[c,.agg [.int _ h,.int _ f,.int _ t]]=>.agg [ti (NJ (Pc c) h f t).aH,ti (NJ (Pc c) h f t).size,ti (NJ (Pc c) h f t).qE,ti (NJ (Pc c) h f t).arg]|_=>.bool false) true
def ok37{l:List (Nat×DM.Spec)}(h:ay aj (bu l)):ay aj (bu ((144,s37)::l)):=by
 refine ay.cons h ?_;rintro ts ⟨cn,cs,cl,h,f,t,rfl,h1⟩;exact⟨by simpa [d6.enc,Cell.enc]using t37 ⟨cn,cs,cl⟩ h f t h1,λ_=>rfl⟩
def jY(z:eY)(ak:bR)(h f t:Int):c8:=if f=z.fr/\t=z.to then bv ak h else(NJ z.c h f t).val
def t83{f0:bq}{p N:Nat}{f t:Int}{v:SV}(hN:∀r,N<=r->f0 r=none)(hv:v.at f0 p)(hc:zH v.z.c)(hh:f=v.z.fr/\t=v.z.to->0<=h/\h<v.s.ak.length):
  aR aj 122 [.ptr p 0,.v (ti h),.v (ti f),.v (ti t)] f0 ⟨True,.v (.agg [ti (jY v.z v.s.ak h f t).aH,ti (jY v.z v.s.ak h f t).size]),f0⟩:=by
 obtain⟨R,hR⟩:=bb (jY v.z v.s.ak h f t);rw[hR];unfold jY at hR;have aC:=ok37 ay.nil;refine c83.pQ hN (by simp) λaT=>?_;have h1:=hv.sp;have h2:=hv.rb;have nu:p<N:=(aT p _ h1).1;have UN:v.k.rb<N:=(aT v.k.rb _ h2).1;simp only[ma,qK]at h1 h2;obtain⟨⟨cn,cs,cl⟩,hz⟩:=bb v.z.c;rw[hz]at h1 hc hR;simp only at h1;have np:∀k,p≠N+k:=λk=>by omega
 have nb:∀k,v.k.rb≠N+k:=λk=>by omega
 simp;apply aa.ag aC fw [0,1,2,3,8];simp[d83r0];apply aa.seq;obtain⟨c1,bU⟩:=bb (decide (f=v.z.fr/\t=v.z.to):Bool);refine aa.cz aC fw [(0,.ptr p 0),(1,.v (ti h)),(2,.v (ti f)),(3,.v (ti t)),(8,.ptr (N+8+1) 0),(22,.v (.bool c1))] ?_ ?_
 ·by_cases q1:f=v.z.fr
  ·by_cases q2:t=v.z.to
   ·have:c1=true:=by rw[<-bU];simp[q1,q2]
    simp[Q0,h1,np,Nat.add_assoc,q1,q2,this]
   ·have:c1=false:=by rw[<-bU];simp[q2]
    simp[Q0,h1,np,Nat.add_assoc,q1,q2,this]
  ·have:c1=false:=by rw[<-bU];simp[q1]
   simp[Q0,h1,np,Nat.add_assoc,q1,this]
 refine aa.cond rfl (λg=>?_) (λg=>?_)
 ·have g:c1=true:=by simpa using g
  rw[g]at bU;have q:=Zat bU;rw[Zai q]at hR;obtain⟨x0,x1⟩:=hh q;obtain⟨x,rfl⟩:=Zae x0;have hx:x<v.s.ak.length:=by omega
  have rr:=dd hx;have hb:v.s.ak.getD x default=R:=by rw[<-hR];simp[bv]
  rw[hb]at rr;apply aa.ag aC fw [8];simp[d83r2,h1,h2,np,nb,Nat.add_assoc,hx,rr];refine aa.le (le_s (v:=v) v.s (l:=[(8,.v (.box [ti R.aH,ti R.size]))]) (ba:=N+1000) aT hv (by omega) ?_ ?_ ?_) ?_
  ·simp
  ·intro r hr;rw[eH hv];have:∀k,r≠N+k:=λk=>by omega
   simp[this,Nat.add_assoc]
  ·simp;rw[eH hv];exact bL (l:=[]) aT (by omega) (by simp)
  rw[eH hv];apply aa.ret;simp[OP]
 ·have g:c1=false:=by simpa using g
  rw[g]at bU;have q:=Zay bU;rw[Zab q]at hR;obtain⟨⟨a1,a2,a3,a4⟩,ha⟩:=bb (NJ ⟨cn,cs,cl⟩ h f t);rw[ha]at hR;subst hR;apply aa.skip;simp;apply aa.ag aC fw [8];simp[d83r3,h1,np,Nat.add_assoc,Zba,hc,ha];refine aa.le (le_s (v:=v) v.s (l:=[(8,.v (.box [ti a1,ti a2]))]) (ba:=N+1000) aT hv (by omega) ?_ ?_ ?_) ?_
  ·simp
  ·intro r hr;rw[eH hv];have:∀k,r≠N+k:=λk=>by omega
   simp[this,Nat.add_assoc]
  ·simp;rw[eH hv];exact bL (l:=[]) aT (by omega) (by simp)
  rw[eH hv];apply aa.ret;simp[OP]
noncomputable def k83:bB->bq->fI
 |[.ptr p 0,.v (.int .i64 h),.v (.int .i64 g),.v (.int .i64 t)],f=>⟨(∃v:SV,v.at f p)/\zH (jm f p).z.c/\(g=(jm f p).z.fr/\t=(jm f p).z.to->0<=h/\h<(jm f p).s.ak.length),.v (.agg [ti (jY (jm f p).z (jm f p).s.ak h g t).aH,ti (jY (jm f p).z (jm f p).s.ak h g t).size]),f⟩
 |_,f=>⟨False,.undef,f⟩
def k83_eq{v:SV}{f:bq}{p:Nat}{g t:Int}(hv:v.at f p):k83 [.ptr p 0,.v (ti h),.v (ti g),.v (ti t)] f=⟨zH v.z.c/\(g=v.z.fr/\t=v.z.to->0<=h/\h<v.s.ak.length),.v (.agg [ti (jY v.z v.s.ak h g t).aH,ti (jY v.z v.s.ak h g t).size]),f⟩:=by
 have hx:∃v:SV,v.at f p:=⟨v,hv⟩;simp only[k83,io hv,hx,true_and]
def k83_ok:∀args ab,(k83 args ab).ok->(∀N,(∀r,N<=r->ab r=none)->aR aj 122 args ab (k83 args ab))/\∀r,ab r=none->(k83 args ab).ab r=none:=by
 intro args ab h;unfold k83 at h⊢;split at h
 ·rename_i p h' g t;obtain⟨⟨v,hv⟩,hc,hh⟩:=h;rw[io hv]at hc hh⊢;exact⟨λN hN=>aR.of (t83 hN hv hc hh) rfl rfl,λr hr=>hr⟩
 ·exact h.elim
def ok83{l:List (Nat×DM.Spec)}(h:ay aj (bu l)):ay aj (bu ((122,eS k83)::l)):=ay.gS h k83_ok
end
section
variable{f0:bq}
abbrev It:=Int×Int×Int
def itT(x:It):aK:=[ti x.1,ti x.2.1,ti x.2.2]
def mb(l:List It):List (aK):=l.map itT
@[simp] def FP(l:List It):(mb l).length=l.length:=by simp[mb]
def A2{l:List It}{y:Nat}(h:y<l.length):DM.rowAt (mb l) y=itT (l.getD y default):=by simp[DM.rowAt,mb,h]
def me(z:eY)(x:It):Prop:=x.2.1=z.fr/\x.2.2=z.to
instance(z:eY)(x:It):Decidable (me z x):=by unfold me;infer_instance
def ff(z:eY)(l:List It):Bool:=l.any λx=>decide (me z x)
def kO{N aJ ba:Nat}{tm:dw}{l:fA}{L:cV}(aT:dh f0 N)(hn:N<=ba)(hL:∀p∈L,N<=p.1)(ik:fR (aM L f0) (aM [] f0) id tm l):
  Le ⟨tm,aM L f0,aJ,N,[]⟩ ⟨DM.look l,aM [] f0,ba,N,[]⟩:=by
 refine Le.dV (l1:=[]) aT hn (by simp) ?_ (by simp[dN]) ik;clear ik;induction L with
 |nil=>trivial
 |cons q L ih=>
  refine⟨λhq=>?_,ih λp hp=>hL p (by simp[hp])⟩;have:=hL q (by simp);omega
def t59{p N:Nat}{l:List It}{v:SV}(hN:∀r,N<=r->f0 r=none)(hv:v.at f0 p)(hl:l.length<=1000):
  aR aj 87 [.ptr p 0,.v (.sl (mb l))] f0 ⟨True,.v (.bool (ff v.z l)),f0⟩:=by
 obtain⟨R,hR⟩:=bb (ff v.z l);rw[hR];have aC:=cF;refine c59.pQ hN (by simp) λaT=>?_;have h1:=hv.sp;have nu:p<N:=(aT p _ h1).1;simp only[ma]at h1;have np:∀k,p≠N+k:=λk=>by omega
 simp;apply aa.ag aC fw [0,1];simp[Zq];apply aa.seq;apply aa.ag aC fw [0,7,8,9];simp[Zr];apply aa.block;refine aa.loop (λi:Nat=>⟨DM.look [(0,.ptr p 0),(7,.v (.sl (mb l))),(8,.v (ti l.length)),(9,.v (ti i))],aM [] f0,N+1000,N,[]⟩)
  (λi=>i<=l.length/\ff v.z (l.take i)=false) (λi=>l.length-i) 0 (kO aT (by omega) (by simp) ?_) (by simp[ff]) (λi hi=>?_)
 ·simp[h1]
 obtain⟨hi,hw⟩:=hi;apply aa.ag aC fw [0,7,8,9,10];simp[Zs];apply aa.seq;refine aa.cond rfl (λg=>?_) (λg=>?_)
 ·have g:i<l.length:=by simpa using g
  have rr:=A2 g;obtain⟨⟨xh,xf,xt⟩,hx⟩:=bb (l.getD i default);rw[hx]at rr;simp only[itT]at rr;have FD:ff v.z (l.take (i+1))=decide (me v.z (xh,xf,xt)):=by
   rw[cW g,hx];unfold ff at hw⊢;rw[List.any_append,hw];simp
  apply aa.skip;simp;apply aa.seq;apply aa.block;apply aa.ag aC fw [0,6,7,8,9];simp[d59r3,rr,g];refine aa.le (kO (l:=[(0,.ptr p 0),(6,.v (.box [ti xh,ti xf,ti xt])),(7,.v (.sl (mb l))),(8,.v (ti l.length)),(9,.v (ti i))]) (ba:=N+2000) aT (by omega) (by simp;omega) ?_) ?_
  ·simp[Nat.add_assoc,h1];exact bL (l:=[]) aT (by omega) (by simp)
  obtain⟨c1,bU⟩:=bb (decide (me v.z (xh,xf,xt)):Bool);refine aa.cz aC fw [(0,.ptr p 0),(7,.v (.sl (mb l))),(8,.v (ti l.length)),(9,.v (ti i)),(28,.v (.bool c1))] ?_ ?_
  ·by_cases q1:xf=v.z.fr
   ·by_cases q2:xt=v.z.to
    ·have:c1=true:=by rw[<-bU];simp[me,q1,q2]
     simp[Ra,h1,q1,q2,this]
    ·have:c1=false:=by rw[<-bU];simp[me,q2]
     simp[Ra,h1,q1,q2,this]
   ·have:c1=false:=by rw[<-bU];simp[me,q1]
    simp[Ra,h1,q1,this]
  refine aa.cond rfl (λg2=>?_) (λg2=>?_)
  ·have g2:c1=true:=by simpa using g2
   subst g2;have:R=true:=by
    rw[<-hR];unfold ff;rw[Zce];exact⟨(xh,xf,xt),hx▸bm g,by simpa using bU⟩
   subst this;apply aa.ag aC fw [4];simp[d59r5];apply aa.ret;simp[Iy];rfl
  ·have g2:c1=false:=by simpa using g2
   subst g2;apply aa.skip;simp;apply aa.fK aC fw [0,7,8,9];simp[d59r6];rw[aF (by omega)];refine⟨i+1,kO aT (by omega) (by simp) ?_,⟨by omega,by rw[FD,bU]⟩,by omega⟩;simp[h1]
 ·have g:¬i<l.length:=by simpa using g
  have:R=false:=by
   rw[<-hR,<-hw,ZaX (by omega)]
  subst this;apply aa.exit;simp;apply aa.ag aC fw [4];simp[Zt];apply aa.ret;simp[Iy];rfl
end
section
variable{f:bq}
def decIt:aK->It
 |[a,b,c]=>(dH a,dH b,dH c)
 |_=>(0,0,0)
def mK(l:List (aK)):List It:=l.map decIt
@[simp] def xD(l:List It):mK (mb l)=l:=gq (λx=>by simp[decIt,itT,dH]) l
@[simp] def itsT_nil:mb []=[]:=rfl
def t59n{f0:bq}{p N:Nat}{v:SV}(hN:∀r,N<=r->f0 r=none)(hv:v.at f0 p):
  aR aj 87 [.ptr p 0,.aW] f0 ⟨True,.v (.bool false),f0⟩:=by
 have aC:=cF;refine c59.pQ hN (by simp) λaT=>?_;have h1:=hv.sp;simp only[ma]at h1;simp;apply aa.ag aC fw [0,1];simp[Zq];apply aa.seq;apply aa.ag aC fw [8,9];simp[Zr];apply aa.block;refine aa.loop (λi:Nat=>⟨DM.look [(8,.v (ti 0)),(9,.v (ti 0))],aM [] f0,N+1000,N,[]⟩)
  (λi=>True) (λi=>0) 0 (kO aT (by omega) (by simp) ?_) trivial (λi hi=>?_)
 ·simp
 apply aa.ag aC fw [10];simp[Zs];apply aa.seq;refine aa.cond rfl (λg=>by cases g) (λg=>?_);apply aa.exit;simp;apply aa.ag aC fw [4];simp[Zt];apply aa.ret;simp[Iy];rfl
noncomputable def k59:bB->bq->fI
 |[.ptr p 0,.v (.sl av)],f=>⟨(∃v:SV,v.at f p)/\av=mb (mK av)/\av.length<=1000,.v (.bool (ff (jm f p).z (mK av))),f⟩
 |[.ptr p 0,.aW],f=>⟨∃v:SV,v.at f p,.v (.bool false),f⟩
 |_,f=>⟨False,.undef,f⟩
def k59_eq{v:SV}{p:Nat}{l:List It}(hv:v.at f p):k59 [.ptr p 0,.v (.sl (mb l))] f=⟨l.length<=1000,.v (.bool (ff v.z l)),f⟩:=by
 have hx:∃v:SV,v.at f p:=⟨v,hv⟩;simp only[k59,io hv,hx,true_and,xD,FP]
def k59_nil{v:SV}{p:Nat}(hv:v.at f p):k59 [.ptr p 0,.aW] f=⟨True,.v (.bool false),f⟩:=by
 have hx:∃v:SV,v.at f p:=⟨v,hv⟩;simp only[k59,hx]
def k59_ok:∀args ab,(k59 args ab).ok->(∀N,(∀r,N<=r->ab r=none)->aR aj 87 args ab (k59 args ab))/\∀r,ab r=none->(k59 args ab).ab r=none:=by
 intro args ab h;unfold k59 at h⊢;split at h
 ·rename_i p av;obtain⟨⟨v,hv⟩,hr,hl⟩:=h;obtain⟨l,Wc⟩:=bb (mK av);rw[Wc]at hr⊢;subst hr;rw[io hv];exact⟨λN hN=>aR.of (t59 hN hv (by simpa using hl)) rfl rfl,λr hr=>hr⟩
 ·rename_i p;obtain⟨v,hv⟩:=h;exact⟨λN hN=>aR.of (t59n hN hv) rfl rfl,λr hr=>hr⟩
 ·exact h.elim
def ok59{l:List (Nat×DM.Spec)}(h:ay aj (bu l)):ay aj (bu ((87,eS k59)::l)):=ay.gS h k59_ok
abbrev s84:DM.Spec:=cT (λts=>∃c l,ts=[ti c,.sl (bC l)]/\(∀v∈l,jj v)/\0<=c/\c<=4000000000000/\l.length<=1000000) (fun|[.int _ c,.sl l]=>.agg [ti (dU c (mT l)).aH,ti (dU c (mT l)).size]|_=>.bool false) true
def ok84{l:List (Nat×DM.Spec)}(h:ay aj (bu l)):ay aj (bu ((123,s84)::l)):=by
 refine ay.cons h ?_;rintro ts ⟨c,l,rfl,h1,h2,h3,h4⟩;exact⟨by simpa using t84 c l h1 h2 h3 h4,λ_=>rfl⟩
def j8(z:eY)(ak:bR)(cq:Int)(l:List It):c8:=dU cq (l.map λx=>jY z ak x.1 x.2.1 x.2.2)
def itOk(z:eY)(ak:bR)(l:List It):Prop:=∀x∈l,x.2.1=z.fr/\x.2.2=z.to->0<=x.1/\x.1<ak.length
def JU{z:eY}{ak:bR}(hc:NI z.c)(hb:∀v∈ak,jj v)(h f t:Int):jj (jY z ak h f t):=by
 unfold jY;split
 ·unfold bv;rw[List.getD];cases e:ak[h.toNat]? with
  |none=>simp[jj,default];decide
  |some x=>exact hb x (Zax e)
 ·exact aaC hc h f t
end
section
variable{f0:bq}
def pB{N r:Nat}{L:cV}(hr:r<N)(hL:∀p∈L,N<=p.1):aM L f0 r=f0 r:=
 fj λo' h=>by have:=hL _ h;simp only at this;omega
def SV.at.aM{v:SV}{p N:Nat}{L:cV}(h:v.at f0 p)(aT:dh f0 N)(hL:∀p∈L,N<=p.1):v.at (DM.aM L f0) p:=by
 have g:∀{r o},f0 r=some o->DM.aM L f0 r=some o:=λe=>(pB (aT _ _ e).1 hL).trans e;exact⟨g h.sp,g h.rb,g h.rf,g h.rh,g h.q,g h.hp,g h.m,g h.a⟩
def t61{p N:Nat}{cq:Int}{l:List It}{v:SV}(hN:∀r,N<=r->f0 r=none)(hv:v.at f0 p)(hc:zH v.z.c)(gI:NI v.z.c)(hb:∀x∈v.s.ak,jj x)(hi:itOk v.z v.s.ak l)(hp:0<=cq/\cq<=4000000000000)(hl:l.length<=1000):
  aR aj 89 [.ptr p 0,.v (ti cq),.v (.sl (mb l))] f0 ⟨True,.v (.agg [ti (j8 v.z v.s.ak cq l).aH,ti (j8 v.z v.s.ak cq l).size]),f0⟩:=by
 obtain⟨R,hR⟩:=bb (j8 v.z v.s.ak cq l);rw[hR];unfold j8 at hR;obtain⟨Vs,NL⟩:=bb (l.map (λx=>jY v.z v.s.ak x.1 x.2.1 x.2.2));rw[NL]at hR;have hVl:Vs.length=l.length:=by rw[<-NL];simp
 have Gk:∀x∈Vs,jj x:=by
  rw[<-NL];intro x hx;obtain⟨y,_,rfl⟩:=Zak.1 hx;exact JU gI hb _ _ _
 have aC:=ok83 (ok84 ay.nil);refine c61.pQ hN (by simp) λaT=>?_;have h1:=hv.sp;have nu:p<N:=(aT p _ h1).1;have np:∀k,p≠N+k:=λk=>by omega
 have en:(∃cs,f0 p=some (.box cs)):=⟨_,h1⟩;simp;apply aa.ag aC fw [0,1,2,6];simp[Zu];apply aa.ag aC fw [0,1,2,6,7];simp[Zv];apply aa.seq;apply aa.ag aC fw [0,1,6,7,10,11,12];simp[Zw];refine aa.le (Le.dV (l1:=[(N+7,.box [.v (ti 0),.v (ti 0)])]) (l:=[(0,.ptr p 0),(1,.v (ti cq)),(6,.ptr (N+7) 0),(7,.aW),(10,.v (.sl (mb l))),(11,.v (ti l.length)),(12,.v (ti 0))]) (ba:=N+500) aT ?_ ?_ ?_ ?_ ?_) ?_
 ·omega
 ·simp
 ·simp[bK,Nat.add_assoc]
 ·simp[dN,eA,Nat.add_assoc]
 ·simp[np,Nat.add_assoc,en]
 refine aa.le (Le.vr (k:=7) 63 (sz:=2) (by omega) (by simp)) ?_;rw[jT];apply aa.block;refine aa.loop (λi:Nat=>⟨DM.look [(0,.ptr p 0),(1,.v (ti cq)),(6,.ptr (N+7) 0),(7,.bA (N+500) i),(10,.v (.sl (mb l))),(11,.v (ti l.length)),(12,.v (ti i))],aM [(N+7,.box [.v (ti 0),.v (ti 0)]),(N+500,.arr i 63 2 (bC (Vs.take i)))] f0,N+1000,N,[]⟩)
  (λi=>i<=l.length) (λi=>l.length-i) 0 (Le.dV aT ?_ ?_ ?_ ?_ ?_) (by omega) (λi hi2=>?_)
 ·omega
 ·simp
 ·simp[bK]
 ·simp[dN,eA]
 ·simp[np,en]
 apply aa.ag aC fw [0,1,6,7,10,11,12,13];simp[Zx];apply aa.seq;refine aa.cond rfl (λg=>?_) (λg=>?_)
 ·have g:i<l.length:=by simpa using g
  have rr:=A2 g;have Ow:=hi _ (show l.getD i default∈l by simp[List.getD,g]);have hV:Vs.take (i+1)=Vs.take i++[jY v.z v.s.ak (l.getD i default).1 (l.getD i default).2.1 (l.getD i default).2.2]:=by
   rw[ZbO,Zas (by omega)];simp only[<-NL,ZbQ,Option.toList_some];simp[List.getD,g]
  obtain⟨⟨xh,xf,xt⟩,hx⟩:=bb (l.getD i default);rw[hx]at rr Ow hV;simp only[itT]at rr Ow hV;obtain⟨⟨vc,vz⟩,hvv⟩:=bb (jY v.z v.s.ak xh xf xt);rw[hvv]at hV;apply aa.skip;simp;apply aa.seq;apply aa.block;apply aa.ag aC fw [0,1,6,7,9,10,11,12];simp[d61r4,rr,g];refine aa.le (Le.dV (l1:=[(N+7,.box [.v (ti 0),.v (ti 0)]),(N+500,.arr i 63 2 (bC (Vs.take i)))]) (l:=[(0,.ptr p 0),(1,.v (ti cq)),(6,.ptr (N+7) 0),(7,.bA (N+500) i),(9,.v (.box [ti xh,ti xf,ti xt])),(10,.v (.sl (mb l))),(11,.v (ti l.length)),(12,.v (ti i))]) (ba:=N+3000) aT ?_ ?_ ?_ ?_ ?_) ?_
  ·omega
  ·simp
  ·simp[bK,Nat.add_assoc]
  ·simp[dN,eA,Nat.add_assoc]
  ·simp[np,Nat.add_assoc,en];exact bL aT (by omega) (by simp)
  have mQ:v.at (aM [(N+7,.box [.v (ti 0),.v (ti 0)]),(N+500,.arr i 63 2 (bC (Vs.take i)))] f0) p:=hv.aM aT (by simp);have k1:=k83_eq (h:=xh) (g:=xf) (t:=xt) mQ;rw[hvv]at k1;have hch:fU 2 1 [ti vc,ti vz]=[[ti vc,ti vz]]:=rfl;have hroom:dK 16 (i+1):=by simp[dK];omega
  have hTl:(Vs.take i).length=i:=by rw[ZaB];omega
  apply aa.Iq aC fw (rs:=OQ) rfl (by kernel_rfl) [0,1,6,7,10,11,12];simp[OQ,k1,hc,hch,hTl,hroom];refine⟨λz1 z2=>Ow ⟨z1,z2⟩, ?_⟩;have hvt:bC (Vs.take (i+1))=bC (Vs.take i)++[[ti vc,ti vz]]:=by rw[hV];simp[bC]
  apply aa.fK aC fw [0,1,6,7,10,11,12];simp[d61r6];rw[aF (by omega)];refine⟨i+1,Le.dV aT ?_ ?_ ?_ ?_ ?_,by omega,by omega⟩
  ·omega
  ·simp
  ·simp[bK]
  ·simp[dN,eA,hvt]
  ·simp[np,en,hvt]
 ·have g:¬i<l.length:=by simpa using g
  have hie:i=l.length:=by omega
  subst hie;rw[ZaX (by omega)];apply aa.exit;simp;refine aa.le (Le.dV (l1:=[(N+7,.box [.v (ti 0),.v (ti 0)])]) (l:=[(1,.v (ti cq)),(6,.ptr (N+7) 0),(7,.v (.sl (bC Vs)))]) (ba:=N+5000) aT ?_ ?_ ?_ ?_ ?_) ?_
  ·omega
  ·simp
  ·simp[bK]
  ·simp[dN,eA]
  ·simp;exact bL aT (by omega) (by simp)
  apply aa.ag aC fw [6];simp[Zy,Zba,hVl,hR];refine⟨Gk,hp.1,hp.2,by omega, ?_⟩;refine aa.le (kO (l:=[(6,.v (.box [ti R.aH,ti R.size]))]) (ba:=N+6000) aT (by omega) (by simp) ?_) ?_
  ·simp;exact bL (l:=[]) aT (by omega) (by simp)
  apply aa.ret;simp[OR];rfl
end
section
variable{f:bq}
def t61n{f0:bq}{p N:Nat}{cq:Int}{v:SV}(hN:∀r,N<=r->f0 r=none)(hv:v.at f0 p)(hp:0<=cq/\cq<=4000000000000):
  aR aj 89 [.ptr p 0,.v (ti cq),.aW] f0 ⟨True,.v (.agg [ti (j8 v.z v.s.ak cq []).aH,ti (j8 v.z v.s.ak cq []).size]),f0⟩:=by
 obtain⟨R,hR⟩:=bb (j8 v.z v.s.ak cq []);rw[hR];unfold j8 at hR;simp only[ZbL]at hR;have aC:=ok83 (ok84 ay.nil);refine c61.pQ hN (by simp) λaT=>?_;simp;apply aa.ag aC fw [0,1,2,6];simp[Zu];apply aa.ag aC fw [0,1,2,6,7];simp[Zv];apply aa.seq;apply aa.ag aC fw [1,6,7,11,12];simp[Zw];apply aa.block;refine aa.loop (λi:Nat=>⟨DM.look [(1,.v (ti cq)),(6,.ptr (N+7) 0),(7,.aW),(11,.v (ti 0)),(12,.v (ti 0))],aM [(N+7,.box [.v (ti 0),.v (ti 0)])] f0,N+1000,N,[]⟩)
  (λi=>True) (λi=>0) 0 (Le.dV aT ?_ ?_ ?_ ?_ ?_) trivial (λi hi=>?_)
 ·omega
 ·simp
 ·simp[bK,Nat.add_assoc]
 ·simp[dN,eA,Nat.add_assoc]
 ·simp[Nat.add_assoc]
 apply aa.ag aC fw [1,6,7,13];simp[Zx];apply aa.seq;refine aa.cond rfl (λg=>by cases g) (λg=>?_);apply aa.exit;simp;apply aa.ag aC fw [6];simp[Zy,Zba,hR,hp];refine aa.le (kO (l:=[(6,.v (.box [ti R.aH,ti R.size]))]) (ba:=N+6000) aT (by omega) (by simp) ?_) ?_
 ·simp;exact bL (l:=[]) aT (by omega) (by simp)
 apply aa.ret;simp[OR];rfl
structure SV.okB(v:SV):Prop where
 cf:zH v.z.c
 co:NI v.z.c
 b:∀x∈v.s.ak,jj x
noncomputable def k61:bB->bq->fI
 |[.ptr p 0,.v (.int .i64 c),.v (.sl av)],f=>⟨(∃v:SV,v.at f p)/\(jm f p).okB/\av=mb (mK av)/\av.length<=1000/\itOk (jm f p).z (jm f p).s.ak (mK av)/\0<=c/\c<=4000000000000,.v (.agg [ti (j8 (jm f p).z (jm f p).s.ak c (mK av)).aH,ti (j8 (jm f p).z (jm f p).s.ak c (mK av)).size]),f⟩
 |[.ptr p 0,.v (.int .i64 c),.aW],f=>⟨(∃v:SV,v.at f p)/\0<=c/\c<=4000000000000,.v (.agg [ti (j8 (jm f p).z (jm f p).s.ak c []).aH,ti (j8 (jm f p).z (jm f p).s.ak c []).size]),f⟩
 |_,f=>⟨False,.undef,f⟩
def k61_eq{v:SV}{p:Nat}{c:Int}{l:List It}(hv:v.at f p):k61 [.ptr p 0,.v (ti c),.v (.sl (mb l))] f=⟨v.okB/\l.length<=1000/\itOk v.z v.s.ak l/\0<=c/\c<=4000000000000,.v (.agg [ti (j8 v.z v.s.ak c l).aH,ti (j8 v.z v.s.ak c l).size]),f⟩:=by
 have hx:∃v:SV,v.at f p:=⟨v,hv⟩;simp only[k61,io hv,hx,true_and,xD,FP]
def k61_nil{v:SV}{p:Nat}{c:Int}(hv:v.at f p):k61 [.ptr p 0,.v (ti c),.aW] f=⟨0<=c/\c<=4000000000000,.v (.agg [ti (j8 v.z v.s.ak c []).aH,ti (j8 v.z v.s.ak c []).size]),f⟩:=by
 have hx:∃v:SV,v.at f p:=⟨v,hv⟩;simp only[k61,io hv,hx,true_and]
def k61_ok:∀args ab,(k61 args ab).ok->(∀N,(∀r,N<=r->ab r=none)->aR aj 89 args ab (k61 args ab))/\∀r,ab r=none->(k61 args ab).ab r=none:=by
 intro args ab h;unfold k61 at h⊢;split at h
 ·rename_i p c av;obtain⟨⟨v,hv⟩,ho,hr,hl,hi,hp⟩:=h;obtain⟨l,Wc⟩:=bb (mK av);rw[Wc]at hr hi⊢;subst hr;rw[io hv]at ho hi⊢;exact⟨λN hN=>aR.of (t61 hN hv ho.cf ho.co ho.b hi hp (by simpa using hl)) rfl rfl,λr hr=>hr⟩
 ·rename_i p c;obtain⟨⟨v,hv⟩,hp⟩:=h;rw[io hv];exact⟨λN hN=>aR.of (t61n hN hv hp) rfl rfl,λr hr=>hr⟩
 ·exact h.elim
def ok61{l:List (Nat×DM.Spec)}(h:ay aj (bu l)):ay aj (bu ((89,eS k61)::l)):=ay.gS h k61_ok
end
def od(z:eY)(bZ:List Bool)(l:List It):Bool:=l.any λx=>decide (me z x)&& !(bZ.getD x.1.toNat default)
def t89{f0:bq}{p N:Nat}{l:List It}{v:SV}(hN:∀r,N<=r->f0 r=none)(hv:v.at f0 p)(hf:∀x∈l,me v.z x->0<=x.1/\x.1<v.s.bZ.length)(hl:l.length<=1000):
  aR aj 128 [.ptr p 0,.v (.sl (mb l))] f0 ⟨True,.v (.bool (!od v.z v.s.bZ l)),f0⟩:=by
 obtain⟨R,hR⟩:=bb ((!od v.z v.s.bZ l));rw[hR];have aC:=cF;refine c89.pQ hN (by simp) λaT=>?_;have h1:=hv.sp;have nu:p<N:=(aT p _ h1).1;simp only[ma]at h1;have h2:=hv.rf;simp only[rU]at h2;have np:∀k,p≠N+k:=λk=>by omega
 simp;apply aa.ag aC fw [0,1];simp[d89r0];apply aa.seq;apply aa.ag aC fw [0,7,8,9];simp[d89r1];apply aa.block;refine aa.loop (λi:Nat=>⟨DM.look [(0,.ptr p 0),(7,.v (.sl (mb l))),(8,.v (ti l.length)),(9,.v (ti i))],aM [] f0,N+1000,N,[]⟩)
  (λi=>i<=l.length/\od v.z v.s.bZ (l.take i)=false) (λi=>l.length-i) 0 (kO aT (by omega) (by simp) ?_) (by simp[od]) (λi hi=>?_)
 ·simp[h1]
 obtain⟨hi,hw⟩:=hi;apply aa.ag aC fw [0,7,8,9,10];simp[d89r2];apply aa.seq;refine aa.cond rfl (λg=>?_) (λg=>?_)
 ·have g:i<l.length:=by simpa using g
  have rr:=A2 g;obtain⟨⟨xh,xf,xt⟩,hx⟩:=bb (l.getD i default);rw[hx]at rr;simp only[itT]at rr;have FD:od v.z v.s.bZ (l.take (i+1))=(decide (me v.z (xh,xf,xt))&& !(v.s.bZ.getD xh.toNat default)):=by
   rw[cW g,hx];unfold od at hw⊢;rw[List.any_append,hw];simp
  apply aa.skip;simp;apply aa.seq;apply aa.block;apply aa.ag aC fw [0,6,7,8,9];simp[d89r3,rr,g];refine aa.le (kO (l:=[(0,.ptr p 0),(6,.v (.box [ti xh,ti xf,ti xt])),(7,.v (.sl (mb l))),(8,.v (ti l.length)),(9,.v (ti i))]) (ba:=N+2000) aT (by omega) (by simp;omega) ?_) ?_
  ·simp[Nat.add_assoc,h1];exact bL (l:=[]) aT (by omega) (by simp)
  obtain⟨c1,bU⟩:=bb ((decide (me v.z (xh,xf,xt))&& !(v.s.bZ.getD xh.toNat default)):Bool);refine aa.cz aC fw [(0,.ptr p 0),(7,.v (.sl (mb l))),(8,.v (ti l.length)),(9,.v (ti i)),(39,.v (.bool c1))] ?_ ?_
  ·by_cases q1:xf=v.z.fr
   ·by_cases q2:xt=v.z.to
    ·obtain⟨x0,x1⟩:=hf _ (show(xh,xf,xt)∈l from hx▸bm g) ⟨q1,q2⟩;simp only at x0 x1;obtain⟨y,rfl⟩:=Zae x0;have hy:y<v.s.bZ.length:=by omega
     have rb:=jG hy;obtain⟨b,hb⟩:=bb (v.s.bZ.getD y default);rw[hb]at rb;have:c1= !b:=by rw[<-bU];simp only[Zag,hb];simp[me,q1,q2]
     cases b<;>simp[Rb,h1,h2,hy,rb,q1,q2,this]
    ·have:c1=false:=by rw[<-bU];simp[me,q2]
     simp[Rb,h1,q1,q2,this]
   ·have:c1=false:=by rw[<-bU];simp[me,q1]
    simp[Rb,h1,q1,this]
  refine aa.cond rfl (λg2=>?_) (λg2=>?_)
  ·have g2:c1=true:=by simpa using g2
   subst g2;have:R=false:=by
    rw[<-hR];have:od v.z v.s.bZ l=true:=by
     unfold od;rw[Zce];exact⟨(xh,xf,xt),hx▸bm g,bU⟩
    rw[this];rfl
   subst this;apply aa.ag aC fw [4];simp[d89r5];apply aa.ret;simp[OS];rfl
  ·have g2:c1=false:=by simpa using g2
   subst g2;apply aa.skip;simp;apply aa.fK aC fw [0,7,8,9];simp[d89r6];rw[aF (by omega)];refine⟨i+1,kO aT (by omega) (by simp) ?_,⟨by omega,by rw[FD,bU]⟩,by omega⟩;simp[h1]
 ·have g:¬i<l.length:=by simpa using g
  have:R=true:=by
   rw[ZaX (by omega)]at hw;rw[<-hR,hw];rfl
  subst this;apply aa.exit;simp;apply aa.ag aC fw [4];simp[d89r7];apply aa.ret;simp[OS];rfl
noncomputable def k89:bB->bq->fI
 |[.ptr p 0,.v (.sl av)],f=>⟨(∃v:SV,v.at f p)/\av=mb (mK av)/\av.length<=1000/\(∀x∈mK av,me (jm f p).z x->0<=x.1/\x.1<(jm f p).s.bZ.length),.v (.bool (!od (jm f p).z (jm f p).s.bZ (mK av))),f⟩
 |_,f=>⟨False,.undef,f⟩
def k89_eq{v:SV}{f:bq}{p:Nat}{l:List It}(hv:v.at f p):k89 [.ptr p 0,.v (.sl (mb l))] f=⟨l.length<=1000/\(∀x∈l,me v.z x->0<=x.1/\x.1<v.s.bZ.length),.v (.bool (!od v.z v.s.bZ l)),f⟩:=by
 have hx:∃v:SV,v.at f p:=⟨v,hv⟩;simp only[k89,io hv,hx,true_and,xD,FP]
def k89_ok:∀args ab,(k89 args ab).ok->(∀N,(∀r,N<=r->ab r=none)->aR aj 128 args ab (k89 args ab))/\∀r,ab r=none->(k89 args ab).ab r=none:=by
 intro args ab h;unfold k89 at h⊢;split at h
 ·rename_i p av;obtain⟨⟨v,hv⟩,hr,hl,hf⟩:=h;obtain⟨l,Wc⟩:=bb (mK av);rw[Wc]at hr hf⊢;subst hr;rw[io hv]at hf⊢;exact⟨λN hN=>aR.of (t89 hN hv hf (by simpa using hl)) rfl rfl,λr hr=>hr⟩
 ·exact h.elim
def ok89{l:List (Nat×DM.Spec)}(h:ay aj (bu l)):ay aj (bu ((128,eS k89)::l)):=ay.gS h k89_ok
section
variable{ak:bR}
def ilt(a:Int):a<0\/0<=a:=by omega
def fG(st:dn)(h:Int)(v:c8):dn:=
 if st.bZ.getD h.toNat false=true\/v.aH>=1099511627776\/¬v.lt (bv st.ak h)then st
 else if 0<=st.fl.getD h.toNat 0 then⟨st.ak.set h.toNat v,st.bZ,st.fl,tS (st.ak.set h.toNat v) st.s (st.fl.getD h.toNat 0) h⟩
 else⟨st.ak.set h.toNat v,st.bZ,st.fl.set h.toNat st.s.next,gX (st.ak.set h.toNat v) st.s h⟩
def pU(st:dn):dn:=⟨st.ak,st.bZ.set (st.s.e 0).x.toNat true,st.fl,fC st.ak st.s⟩
def pigeon:∀(n:Nat) (l:cO),l.Nodup->(∀x∈l,x<n)->l.length<=n
 |0,[],_,_=>by simp
 |0,a::l,_,h=>by have:=h a (by simp);omega
 |n+1,l,hn,h=>by
  have:=pigeon n (l.erase n) (hn.erase n) λx hx=>by
   have h1:=h x (List.mem_of_mem_erase hx);have h2:x≠n:=(hn.mem_erase_iff.1 hx).1;omega
  have:=List.le_length_erase (a:=n) (l:=l);omega
structure WF(n:Nat)(st:dn):Prop where
 lb:st.ak.length=n
 lf:st.bZ.length=n
 lh:st.fl.length=n
 ok:st.s.ok st.ak
 pl:c6 st.s
 hp:oz st.ak st.s
 vU:∀e∈st.s.heap,0<=e.x/\e.x<n/\st.bZ.getD e.x.toNat false=false/\st.fl.getD e.x.toNat 0=e.h/\0<=e.h
 Xl:∀x:Nat,x<n->0<=st.fl.getD x 0->st.bZ.getD x false=false->∃e∈st.s.heap,e.x=x
 old:∀x:Nat,x<n->st.fl.getD x 0<0->st.bZ.getD x false=false/\st.ak.getD x default=⟨1099511627776,0⟩
 Qb:∀x:Nat,x<n->0<=st.fl.getD x 0->(st.ak.getD x default).aH<1099511627776
 nx:∀x:Nat,x<n->st.fl.getD x 0<st.s.next
 nc:0<=st.s.next/\st.s.next<=st.s.clock
 bo:∀v∈st.ak,jj v
def Qs.ok.of{s:Qs}{a b:bR}(h:s.ok a)(e:b.length=a.length):s.ok b:=⟨h.pl,h.st,h.pO,λx hx=>by rw[e];exact h.r x hx⟩
def eI{α:Type}{l:List α}{i j:Nat}{d x:α}(hi:i<l.length):(l.set i x).getD j d=if j=i then x else l.getD j d:=by
 by_cases h:j=i
 ·subst h;simp[List.getD,hi]
 ·have:¬i=j:=λe=>h e.symm;simp[List.getD,this,h]
section
variable{n:Nat}{st:dn}
def WF.Cg(h:WF n st){i j:Nat}(hi:i<st.s.heap.length)(hj:j<st.s.heap.length)(e:(st.s.e i).x=(st.s.e j).x):i=j:=by
 obtain⟨_,_,_,a,_⟩:=h.vU _ (fD.2 ⟨i,hi,rfl⟩);obtain⟨_,_,_,b,_⟩:=h.vU _ (fD.2 ⟨j,hj,rfl⟩);refine h.pl.nd i j hi hj ?_;rw[<-a,<-b,e]
def WF.len(h:WF n st):st.s.heap.length<=n:=by
 have:=pigeon n (st.s.heap.map λe=>e.x.toNat) ?_ ?_
 ·simpa using this
 ·unfold List.Nodup;rw[Zc0];intro i j hi0 hj hij e;simp only[Zbn]at hj;have hi:i<st.s.heap.length:=by omega
  have a:=h.vU _ (fD.2 ⟨i,hi,rfl⟩);have b:=h.vU _ (fD.2 ⟨j,hj,rfl⟩);have:=h.Cg hi hj ?_
  ·omega
  ·simp only[ZbQ]at e;simp only[Qs.e,Zag,List.getD,Zas hi,Zas hj,Zbd]at a b⊢;omega
 ·intro x hx;obtain⟨e,he,rfl⟩:=Zak.1 hx;have:=h.vU e he;omega
def WF.canon(h:WF n st){x:Nat}(hx:x<n):(st.ak.getD x default).aH<1099511627776\/(st.ak.getD x default).size=0:=by
 rcases ilt (st.fl.getD x 0)with h0|h0
 ·right;rw[(h.old x hx h0).2]
 ·exact .inl (h.Qb x hx h0)
def mL(st:dn)(h:Int)(v:c8):(fG st h v).bZ=st.bZ:=by
 unfold fG;split
 ·rfl
 ·split<;>rfl
def Qc(st:dn)(h:Int)(v:c8):(fG st h v).ak=st.ak\/((fG st h v).ak=st.ak.set h.toNat v/\st.bZ.getD h.toNat false=false/\v.aH<1099511627776/\v.lt (bv st.ak h)):=by
 unfold fG;split
 ·exact .inl rfl
 ·rename_i hc;have gI:st.bZ.getD h.toNat false=false/\v.aH<1099511627776/\v.lt (bv st.ak h):=by
   simp only[not_or,Decidable.not_not]at hc;exact⟨by simpa using hc.1,by omega,hc.2.2⟩
  split<;>exact .inr ⟨rfl,gI⟩
def mem_upd1{s:Qs}{i:Nat}{x:Int}(hi:i<s.heap.length)(e:kh):e∈(mJ s i x).heap↔e=⟨x,(s.e i).h,s.clock⟩\/∃k:Nat,k<s.heap.length/\k≠i/\e=s.e k:=by
 have hl:(mJ s i x).heap.length=s.heap.length:=by simp[mJ]
 rw[fD];constructor
 ·rintro⟨k,hk,rfl⟩;rw[te hi];split
  ·exact .inl rfl
  ·exact .inr ⟨k,by omega,by assumption,rfl⟩
 ·rintro(rfl|⟨k,hk,bT,rfl⟩)
  ·exact⟨i,by omega,by rw[te hi,Zai rfl]⟩
  ·exact⟨k,by omega,by rw[te hi,Zab bT]⟩
def Nh{s:Qs}{i:Nat}{x:Int}(hp:c6 s)(hi:i<s.heap.length):lu (mJ s i x) (tS ak s (s.e i).h x):=by
 have Xj:(mJ s i x).heap.length=s.heap.length:=by simp[mJ]
 unfold tS;rw[hp i hi];simp only[Zbd,Zag];exact(vJ (by omega)).trans (li rfl)
def ok_upd{s:Qs}{i:Nat}{x:Int}(ho:s.ok ak)(hp:c6 s)(hi:i<s.heap.length)(hx:0<=x/\x<ak.length):(tS ak s (s.e i).h x).ok ak:=by
 have Xj:(mJ s i x).heap.length=s.heap.length:=by simp[mJ]
 unfold tS;rw[hp i hi];simp only[Zbd,Zag];exact CU rfl (FB (U1 ho hi hx) (by omega)).1
def WF.FC(h:WF n st){x:Int}(hx:0<=x/\x<n){v:c8}(hv:jj v):WF n (fG st x v):=by
 unfold fG;split
 ·exact h
 ·rename_i hc;simp only[not_or,Decidable.not_not]at hc;obtain⟨c1,c2,c3⟩:=hc;have c1:st.bZ.getD x.toNat false=false:=by simpa using c1
  have NG:0<=x/\x<st.ak.length:=by have:=h.lb;omega
  have hxn:x.toNat<n:=by omega
  have Ox:(st.ak.set x.toNat v).length=st.ak.length:=by simp
  have Bv:∀w∈st.ak.set x.toNat v,jj w:=λw hw=>by
   rcases ZaS hw with hw|rfl
   ·exact h.bo w hw
   ·exact hv
  have hbd:∀y:Nat,y<n->(st.ak.set x.toNat v).getD y default=if y=x.toNat then v else st.ak.getD y default:=λy hy=>eI (by omega)
  split
  ·rename_i hh;obtain⟨e,he,Dn⟩:=h.Xl x.toNat hxn hh c1;obtain⟨i,hi,rfl⟩:=fD.1 he;have Dn:(st.s.e i).x=x:=by omega
   have hd:st.fl.getD x.toNat 0=(st.s.e i).h:=by rw[<-Dn];exact(h.vU _ he).2.2.2.1
   rw[hd];have hs:=Nh (ak:=st.ak.set x.toNat v) (x:=x) h.pl hi;have kx:∀e,e∈(tS (st.ak.set x.toNat v) st.s (st.s.e i).h x).heap↔e=⟨x,(st.s.e i).h,st.s.clock⟩\/∃k:Nat,k<st.s.heap.length/\k≠i/\e=st.s.e k:=λe=>(hs.mem e).trans (mem_upd1 hi e);have tw:(tS (st.ak.set x.toNat v) st.s (st.s.e i).h x).next=st.s.next:=hs.next;have JF:(tS (st.ak.set x.toNat v) st.s (st.s.e i).h x).clock=st.s.clock+1:=hs.clock;refine⟨by simp[h.lb],h.lf,h.lh,ok_upd (h.ok.of Ox) h.pl hi (by rw[Ox];exact NG),WU h.pl hi,
    WV h.pl hi (upd_heap h.hp h.ok.r hi NG Dn (λk hk bT e=>bT (h.Cg hk hi (e.trans Dn.symm))) c3),λe he=>?_,λy hy lq fJ=>?_,λy hy lq=>?_,λy hy lq=>?_,λy hy=>?_, ?_,Bv⟩
   ·rcases(kx e).1 he with rfl|⟨k,hk,_,rfl⟩
    ·exact⟨hx.1,hx.2,c1,hd,(h.vU _ (fD.2 ⟨i,hi,rfl⟩)).2.2.2.2⟩
    ·exact h.vU _ (fD.2 ⟨k,hk,rfl⟩)
   ·obtain⟨e,he,hey⟩:=h.Xl y hy lq fJ;obtain⟨k,hk,rfl⟩:=fD.1 he;by_cases HV:k=i
    ·subst HV;exact⟨_,(kx _).2 (.inl rfl),by simp only;omega⟩
    ·exact⟨_,(kx _).2 (.inr ⟨k,hk,HV,rfl⟩),hey⟩
   ·have:=h.old y hy lq;refine⟨this.1, ?_⟩;simp only;rw[hbd y hy,Zab]
    ·exact this.2
    ·rintro rfl;simp only at lq;omega
   ·simp only;rw[hbd y hy];split
    ·omega
    ·exact h.Qb y hy lq
   ·rw[show(dn.mk (st.ak.set x.toNat v) st.bZ st.fl (tS (st.ak.set x.toNat v) st.s (st.s.e i).h x)).s.next=st.s.next from tw];exact h.nx y hy
   ·have:=h.nc;simp only[tw,JF];omega
  ·rename_i hh;have bT:∀e∈st.s.heap,e.x≠x:=λe he ex=>by
    obtain⟨a1,a2,a3,a4,a5⟩:=h.vU e he;rw[ex]at a4;omega
   have hbef:∀a b:kh,a∈st.s.heap->b∈st.s.heap->(iC (st.ak.set x.toNat v) a b↔iC st.ak a b):=λa b ha hb=>by
    unfold iC;rw[A3 NG (h.vU a ha).1,A3 NG (h.vU b hb).1,Zab (bT a ha),Zab (bT b hb)]
   have Ko:oz (st.ak.set x.toNat v) st.s:=λk k1 k2 hk=>h.hp k k1 k2 ((hbef _ _ (fD.2 ⟨k,k2,rfl⟩) (fD.2 ⟨_,by omega,rfl⟩)).1 hk);have hs:lu (fM st.s x) (gX (st.ak.set x.toNat v) st.s x):=vJ (by simp[fM]);have kx:∀e,e∈(gX (st.ak.set x.toNat v) st.s x).heap↔e∈st.s.heap\/e=⟨x,st.s.next,st.s.clock⟩:=λe=>(hs.mem e).trans (by simp[fM]);have tw:(gX (st.ak.set x.toNat v) st.s x).next=st.s.next+1:=hs.next;have JF:(gX (st.ak.set x.toNat v) st.s x).clock=st.s.clock+1:=hs.clock;have hhd:∀y:Nat,y<n->(st.fl.set x.toNat st.s.next).getD y 0=if y=x.toNat then st.s.next else st.fl.getD y 0:=λy hy=>eI (by have:=h.lh;omega)
   have hnc:=h.nc;refine⟨by simp[h.lb],h.lf,by simp[h.lh],(FB (uS (h.ok.of Ox) (by rw[Ox];exact NG)) (by simp[fM])).1,xq h.pl (λe he=>?_),AU Ko,λe he=>?_,λy hy lq fJ=>?_,λy hy lq=>?_,λy hy lq=>?_,λy hy=>?_, ?_,Bv⟩
   ·obtain⟨a1,a2,a3,a4,a5⟩:=h.vU e he;have:=h.nx e.x.toNat (by omega);omega
   ·rcases(kx e).1 he with he|rfl
    ·obtain⟨a1,a2,a3,a4,a5⟩:=h.vU e he;refine⟨a1,a2,a3, ?_,a5⟩;simp only;rw[hhd _ (by omega),Zab]
     ·exact a4
     ·have:=bT e he;omega
    ·refine⟨hx.1,hx.2,c1, ?_,hnc.1⟩;simp only;rw[hhd _ (by omega),Zai rfl]
   ·simp only at lq;rw[hhd y hy]at lq;split at lq
    ·rename_i e;exact⟨_,(kx _).2 (.inr rfl),by simp only;omega⟩
    ·obtain⟨e,he,hey⟩:=h.Xl y hy lq fJ;exact⟨e,(kx e).2 (.inl he),hey⟩
   ·simp only at lq;rw[hhd y hy]at lq;split at lq
    ·omega
    ·rename_i e;have:=h.old y hy lq;refine⟨this.1, ?_⟩;simp only;rw[hbd y hy,Zab e];exact this.2
   ·simp only at lq⊢;rw[hhd y hy]at lq;rw[hbd y hy];split
    ·omega
    ·rename_i e;rw[Zab e]at lq;exact h.Qb y hy lq
   ·show(st.fl.set x.toNat st.s.next).getD y 0<(gX (st.ak.set x.toNat v) st.s x).next;rw[hhd y hy,tw];have:=h.nx y hy;split<;>omega
   ·simp only[tw,JF];omega
def BY(h:WF n st){x:Int}(hx:0<=x/\x<n)(v:c8):(fG st x v).s.clock<=st.s.clock+1:=by
 unfold fG;split
 ·omega
 ·rename_i hc;simp only[not_or,Decidable.not_not]at hc;obtain⟨c1,c2,c3⟩:=hc;have c1:st.bZ.getD x.toNat false=false:=by simpa using c1
  split
  ·rename_i hh;obtain⟨e,he,Dn⟩:=h.Xl x.toNat (by omega) hh c1;obtain⟨i,hi,rfl⟩:=fD.1 he;have Dn:(st.s.e i).x=x:=by omega
   have hd:st.fl.getD x.toNat 0=(st.s.e i).h:=by rw[<-Dn];exact(h.vU _ he).2.2.2.1
   rw[hd];have hs:=Nh (ak:=st.ak.set x.toNat v) (x:=x) h.pl hi;exact Int.le_of_eq hs.clock
  ·have hs:lu (fM st.s x) (gX (st.ak.set x.toNat v) st.s x):=vJ (by simp[fM]);exact Int.le_of_eq hs.clock
def qb(st:dn)(x:Int)(v:c8):Prop:=
 (0<=x/\x<st.ak.length)/\st.bZ.length=st.ak.length/\st.fl.length=st.ak.length/\jj v/\
  (¬(st.bZ.getD x.toNat false=true\/v.aH>=1099511627776\/¬v.lt (bv st.ak x))->
   if 0<=st.fl.getD x.toNat 0 then M8 st.s (st.ak.set x.toNat v) (st.fl.getD x.toNat 0) x else xm st.s (st.ak.set x.toNat v) x)
def WF.qb(h:WF n st){x:Int}(hx:0<=x/\x<n){v:c8}(hv:jj v)(hn:n<=1000)(hc:st.s.clock<=1000000000000):qb st x v:=by
 have NG:0<=x/\x<st.ak.length:=by have:=h.lb;omega
 refine⟨NG,by rw[h.lf,h.lb],by rw[h.lh,h.lb],hv,λc=>?_⟩;simp only[not_or,Decidable.not_not]at c;obtain⟨c1,c2,c3⟩:=c;have c1:st.bZ.getD x.toNat false=false:=by simpa using c1
 have hl:=h.len;have hnc:=h.nc;have Ox:(st.ak.set x.toNat v).length=st.ak.length:=by simp
 split
 ·rename_i hh;obtain⟨e,he,Dn⟩:=h.Xl x.toNat (by omega) hh c1;obtain⟨i,hi,rfl⟩:=fD.1 he;have Dn:(st.s.e i).x=x:=by omega
  have hd:st.fl.getD x.toNat 0=(st.s.e i).h:=by rw[<-Dn];exact(h.vU _ he).2.2.2.1
  rw[hd];exact updOk_of (h.ok.of Ox) h.pl hi (by rw[Ox];exact NG) (by omega) (by omega)
 ·exact⟨h.ok.of Ox,by rw[Ox];exact NG,by omega,by omega,by omega⟩
def zt{s:Qs}(bT:s.heap≠[])(e:kh):e∈(fC ak s).heap↔∃k:Nat,0<k/\k<s.heap.length/\s.e k=e:=by
 have xN:0<s.heap.length:=ZaT.2 bT;have hl:(fT s).heap.length=s.heap.length-1:=by
  simp only[fT,ZaB,Qs.dI];omega
 unfold fC;rw[Zab bT,((li rfl).mem e),fD,hl];constructor
 ·rintro⟨k,hk,rfl⟩;rw[pw hk];split
  ·exact⟨s.heap.length-1,by omega,by omega,rfl⟩
  ·exact⟨k,by omega,by omega,rfl⟩
 ·rintro⟨k,k1,k2,rfl⟩;by_cases hk:k=s.heap.length-1
  ·refine⟨0,by omega, ?_⟩;rw[pw (by omega),Zai rfl,hk]
  ·refine⟨k,by omega, ?_⟩;rw[pw (by omega),Zab (by omega)]
def WF.wo(h:WF n st)(hn:n<=1000):wo st.s st.ak:=⟨h.ok,h.pl.nd,by have:=h.len;omega⟩
def WF.pop(h:WF n st)(bT:st.s.heap≠[]):WF n (pU st):=by
 have xN:0<st.s.heap.length:=ZaT.2 bT;obtain⟨x,hx⟩:=bb ((st.s.e 0).x);have Ow:(st.s.e (0:Nat)).x=x:=hx;obtain⟨a1,a2,a3,a4,a5⟩:=h.vU _ (fD.2 ⟨0,xN,rfl⟩);rw[Ow]at a1 a2 a3 a4;unfold pU;rw[hx];have hs:lu (fT st.s) (fC st.ak st.s):=by unfold fC;rw[Zab bT];exact li rfl
 have hfd:∀y:Nat,y<n->(st.bZ.set x.toNat true).getD y false=if y=x.toNat then true else st.bZ.getD y false:=λy hy=>eI (by have:=h.lf;omega)
 have tw:(fC st.ak st.s).next=st.s.next:=hs.next;have JF:(fC st.ak st.s).clock=st.s.clock:=hs.clock;refine⟨h.lb,by simp[h.lf],h.lh, ?_,vK h.pl,zx h.hp,λe he=>?_,λy hy lq fJ=>?_,λy hy lq=>?_,h.Qb,λy hy=>?_, ?_,h.bo⟩
 ·show(fC st.ak st.s).ok st.ak;unfold fC;rw[Zab bT];exact CU rfl (zw h.ok h.pl.nd xN)
 ·obtain⟨k,k1,k2,rfl⟩:=(zt bT e).1 he;obtain⟨b1,b2,b3,b4,b5⟩:=h.vU _ (fD.2 ⟨k,k2,rfl⟩);refine⟨b1,b2, ?_,b4,b5⟩;simp only;rw[hfd _ (by omega),Zab]
  ·exact b3
  ·intro e;have:=h.Cg k2 xN (by rw[Ow];omega);omega
 ·simp only at fJ lq;rw[hfd y hy]at fJ;split at fJ
  ·cases fJ
  ·rename_i hyx;obtain⟨e,he,hey⟩:=h.Xl y hy lq fJ;obtain⟨k,hk,rfl⟩:=fD.1 he;refine⟨_,(zt bT _).2 ⟨k, ?_,hk,rfl⟩,hey⟩;rcases ZcY k with rfl|Cd
   ·rw[Ow]at hey;omega
   ·exact Cd
 ·have:=h.old y hy lq;simp only at lq⊢;refine⟨?_,this.2⟩;rw[hfd y hy,Zab]
  ·exact this.1
  ·rintro rfl;omega
 ·show st.fl.getD y 0<(fC st.ak st.s).next;rw[tw];exact h.nx y hy
 ·show 0<=(fC st.ak st.s).next/\(fC st.ak st.s).next<=(fC st.ak st.s).clock;rw[tw,JF];exact h.nc
end
end
def jv(r:di)(x:Int):Prop:=(r.kind=3/\r.a=x)\/(r.kind=4/\(r.a=x\/r.b=x))
instance(r:di)(x:Int):Decidable (jv r x):=by unfold jv;infer_instance
def t86(r:di)(x:Int):bl aj 125 [.agg r.enc,ti x] (.bool (decide (jv r x))):=by
 obtain⟨k,h,a,b,p,o⟩:=r;obtain⟨c1,bU⟩:=bb (decide (jv ⟨k,h,a,b,p,o⟩ x):Bool);rw[bU];simp only[jv]at bU;have aC:=cF;refine c86.ok (by simp) (aO ?_);simp[di.enc];apply aa.ag aC fw [1,2];simp[d86r0];refine aa.le (Le.bi (o:=[]) (l:=[(1,.v (ti x)),(2,.v (.box [ti k,ti h,ti a,ti b,ti p,ti o]))]) (ba:=1200) ?_ ?_ ?_ ?_) ?_;iterate 4(·simp)
 refine aa.cz aC fw [(4,.v (.bool c1))] ?_ ?_
 ·by_cases q1:k=3
  ·have q4:¬(3:Int)=4:=by omega
   subst q1;by_cases q2:a=x
   ·have:c1=true:=by rw[<-bU];simp[q2]
    simp[Ei,q2,this]
   ·have:c1=false:=by rw[<-bU];simp[q2]
    simp[Ei,q2,this]
  ·by_cases q4:k=4
   ·subst q4;by_cases q2:a=x
    ·have:c1=true:=by rw[<-bU];simp[q2]
     simp[Ei,q2,this]
    ·by_cases q3:b=x
     ·have:c1=true:=by rw[<-bU];simp[q3]
      simp[Ei,q2,q3,this]
     ·have:c1=false:=by rw[<-bU];simp[q2,q3]
      simp[Ei,q2,q3,this]
   ·have:c1=false:=by rw[<-bU];simp[q1,q4]
    simp[Ei,q1,q4,this]
 apply aa.ret;simp[Zp]
abbrev s86:DM.Spec:=cT (λts=>∃k h a b p o x,ts=[.agg [ti k,ti h,ti a,ti b,ti p,ti o],ti x]) (fun|[.agg [.int _ k,.int _ h,.int _ a,.int _ b,.int _ p,.int _ o],.int _ x]=>.bool (decide (jv ⟨k,h,a,b,p,o⟩ x))|_=>.bool false) true
def ok86{l:List (Nat×DM.Spec)}(h:ay aj (bu l)):ay aj (bu ((125,s86)::l)):=by
 refine ay.cons h ?_;rintro ts ⟨k,h,a,b,p,o,x,rfl⟩;exact⟨by simpa [di.enc]using t86 ⟨k,h,a,b,p,o⟩ x,λ_=>rfl⟩
def lV(z:eY)(a:cw):Prop:=a.f>z.fr\/(a.f=z.fr/\a.t>=z.to)
instance(z:eY)(a:cw):Decidable (lV z a):=by unfold lV;infer_instance
def gr(f:bq)(b:Nat):Nat:=match f b with
 |some (.box [.ptr p _])=>p
 |_=>0
def t108{f0:bq}{b p N i:Nat}{v:SV}(hN:∀r,N<=r->f0 r=none)(hb:f0 b=some (.box [.ptr p 0]))(hv:v.at f0 p)(hi:i<v.z.l.bE.length):
  aR aj 141 [.v (ti i),.ptr b 0] f0 ⟨True,.v (.bool (decide (lV v.z (v.z.l.bE.getD i default)))),f0⟩:=by
 obtain⟨R,hR⟩:=bb (decide (lV v.z (v.z.l.bE.getD i default)));rw[hR];have aC:=cF;refine c108.pQ hN (by simp) λaT=>?_;have h1:=hv.sp;have nu:p<N:=(aT p _ h1).1;have UN:b<N:=(aT b _ hb).1;simp only[ma]at h1;have np:∀k,p≠N+k:=λk=>by omega
 have nb:∀k,b≠N+k:=λk=>by omega
 have rr:=w7 hi;obtain⟨⟨af,wW,ae,ac,ao⟩,hx⟩:=bb (v.z.l.bE.getD i default);rw[hx]at rr;simp only[hx,lV]at hR;simp only[cw.enc]at rr;simp;apply aa.ag aC fw [0,1];simp[ZY];apply aa.ag aC fw [1,4];simp[ZZ,hb,h1,hi,rr];refine aa.le (kO (l:=[(1,.ptr b 0),(4,.v (.box [ti af,ti wW,ti ae,ti ac,.sl (ia ao)]))]) (ba:=N+2000) aT (by omega) (by simp;omega) ?_) ?_
 ·simp[Nat.add_assoc,hb];exact bL (l:=[]) aT (by omega) (by simp)
 refine aa.cz aC fw [(3,.v (.bool R))] ?_ ?_
 ·by_cases q1:af>v.z.fr
  ·have:R=true:=by rw[<-hR];simp[q1]
   simp[Ej,hb,h1,q1,this]
  ·by_cases q2:af=v.z.fr
   ·subst q2;by_cases q3:wW>=v.z.to
    ·have:R=true:=by rw[<-hR];simp[q3]
     simp[Ej,hb,h1,q3,this]
    ·have:R=false:=by rw[<-hR];simp[q3]
     simp[Ej,hb,h1,q3,this]
   ·have:R=false:=by rw[<-hR];simp[q1,q2]
    simp[Ej,hb,h1,q1,q2,this]
 apply aa.ret;simp[Rh];rfl
noncomputable def P7:bB->bq->fI
 |[.v (.int .i64 i),.ptr b 0],f=>⟨f b=some (.box [.ptr (gr f b) 0])/\(∃v:SV,v.at f (gr f b))/\0<=i/\i<(jm f (gr f b)).z.l.bE.length,.v (.bool (decide (lV (jm f (gr f b)).z ((jm f (gr f b)).z.l.bE.getD i.toNat default)))),f⟩
 |_,f=>⟨False,.undef,f⟩
def k108_eq{v:SV}{f:bq}{b p:Nat}{i:Int}(hb:f b=some (.box [.ptr p 0]))(hv:v.at f p):P7 [.v (ti i),.ptr b 0] f=⟨0<=i/\i<v.z.l.bE.length,.v (.bool (decide (lV v.z (v.z.l.bE.getD i.toNat default)))),f⟩:=by
 have hx:∃v:SV,v.at f p:=⟨v,hv⟩;have hd:gr f b=p:=by simp[gr,hb]
 simp only[P7,hd,io hv,hx,hb,true_and]
def k108_ok:∀args ab,(P7 args ab).ok->(∀N,(∀r,N<=r->ab r=none)->aR aj 141 args ab (P7 args ab))/\∀r,ab r=none->(P7 args ab).ab r=none:=by
 intro args ab h;unfold P7 at h⊢;split at h
 ·rename_i i b;obtain⟨hb,⟨v,hv⟩,i0,i1⟩:=h;rw[io hv]at i1⊢;obtain⟨i,rfl⟩:=Zae i0;exact⟨λN hN=>aR.of (t108 hN hb hv (by omega)) rfl rfl,λr hr=>hr⟩
 ·exact h.elim
def ok108{l:List (Nat×DM.Spec)}(h:ay aj (bu l)):ay aj (bu ((141,eS P7)::l)):=ay.gS h k108_ok
def jn(z:eY):Nat:=z.l.bE.findIdx λa=>decide (lV z a)
def mono(z:eY):Prop:=∀i j:Nat,i<=j->j<z.l.bE.length->lV z (z.l.bE.getD i default)->lV z (z.l.bE.getD j default)
def loI_eq{z:eY}{k:Nat}(hk:k<=z.l.bE.length)(h1:∀i,i<k->¬lV z (z.l.bE.getD i default))(h2:k<z.l.bE.length->lV z (z.l.bE.getD k default)):jn z=k:=by
 unfold jn;by_cases hl:k<z.l.bE.length
 ·rw[List.findIdx_eq hl];refine⟨?_,λj hj=>?_⟩
  ·have:=h2 hl;simpa [List.getD,hl]using this
  ·have J3:j<z.l.bE.length:=by omega
   have:=h1 j hj;simpa [List.getD,J3]using this
 ·obtain rfl:k=z.l.bE.length:=by omega
  rw[List.findIdx_eq_length];intro x hx;obtain⟨i,hi,rfl⟩:=ZaO hx;have:=h1 i hi;simpa [List.getD,hi]using this
def t107{f0:bq}{b p N:Nat}{v:SV}(hN:∀r,N<=r->f0 r=none)(hb:f0 b=some (.box [.ptr p 0]))(hv:v.at f0 p)(hm:mono v.z)(hl:v.z.l.bE.length<=1000000000):
  aR aj 140 [.v (ti v.z.l.bE.length),.nG (.func 141) [.ptr b 0]] f0 ⟨True,.v (ti (jn v.z)),f0⟩:=by
 obtain⟨n,hn⟩:=bb v.z.l.bE.length;rw[hn]at hl⊢;have aC:=ok108 ay.nil;refine c107.pQ hN (by simp) λaT=>?_;have UN:b<N:=(aT b _ hb).1;have k1:=λi=>k108_eq (i:=i) hb hv;simp;apply aa.ag aC fw [0,1];simp[ZQ];apply aa.ag aC fw [1,5,6];simp[ZR];apply aa.seq;apply aa.block;refine aa.loop (λq:Nat×Nat=>⟨DM.look [(1,.nG (.func 141) [.ptr b 0]),(5,.v (ti q.1)),(6,.v (ti q.2))],aM [] f0,N+1000,N,[]⟩)
  (λq=>q.1<=q.2/\q.2<=n/\(∀i,i<q.1->¬lV v.z (v.z.l.bE.getD i default))/\(∀i,q.2<=i->i<n->lV v.z (v.z.l.bE.getD i default))) (λq=>q.2-q.1) (0,n) (kO aT (by omega) (by simp) ?_) ⟨by simp,by simp,λi hi=>by simp at hi,λi h1 h2=>by simp at h1;omega⟩ (λq hq=>?_)
 ·simp[hb]
 obtain⟨lo,hi⟩:=q;obtain⟨q1,q2,q3,q4⟩:=hq;simp only at q1 q2 q3 q4;apply aa.seq;apply aa.ag aC fw [1,5,6,11];simp[ZS];refine aa.cond rfl (λg=>?_) (λg=>?_)
 ·have g:lo<hi:=by simpa using g
  have w1:IntKind.i64.wrap ((lo:Int)+hi)=(lo:Int)+hi:=aF (by omega);obtain⟨md,hmd⟩:=bb ((lo+hi)/2);apply aa.skip;simp;apply aa.block;apply aa.ag aC fw [1,5,6,7];have hu:IntKind.u64.wrap ((lo:Int)+hi)=(lo:Int)+hi:=by
   unfold IntKind.wrap;simp[IntKind.signed,IntKind.bits];omega
  have w2:IntKind.i64.wrap (IntKind.u64.wrap ((lo:Int)+hi)/2^min 1 IntKind.u64.bits)=md:=by
   rw[hu,show min 1 IntKind.u64.bits=1 from rfl,aF (by omega)];omega
  have hmd2:lo<=md/\md<hi:=by omega
  simp[ZT,w1,w2];obtain⟨c1,bU⟩:=bb (decide (lV v.z (v.z.l.bE.getD md default)):Bool);have gI:=k1 md;simp only[Zag,bU]at gI;have hmn:md<v.z.l.bE.length:=by omega
  apply aa.ag aC fw [1,5,6,7,21];rw[show aM [] f0=f0 from rfl];simp[ZU,gI,hmn];refine aa.cond rfl (λg2=>?_) (λg2=>?_)
  ·have g2:c1=false:=by simpa using g2
   subst g2;have h3:=Zay bU;have w3:IntKind.i64.wrap ((md:Int)+1)=((md+1:Nat):Int):=by rw[aF (by omega)];omega
   apply aa.fK aC fw [1,5,6];simp[ZV,w3];refine⟨md+1,hi,kO (L:=[]) aT (by omega) (by simp) ?_,⟨by omega,by omega,λi hi3 hp=>h3 (hm i md (by omega) hmn (by simpa using hp)),λi h4 h5=>by simpa using q4 i h4 h5⟩,by omega⟩;simp[hb]
  ·have g2:c1=true:=by simpa using g2
   subst g2;have h3:=Zat bU;apply aa.fK aC fw [1,5,6];simp[ZW];refine⟨lo,md,kO (L:=[]) aT (by omega) (by simp) ?_,⟨by omega,by omega,λi hi3=>by simpa using q3 i hi3,λi h4 h5=>by simpa using hm md i h4 (by omega) h3⟩,by omega⟩;simp[hb]
 ·have g:¬lo<hi:=by simpa using g
  have he:lo=hi:=by omega
  subst he;have hL:jn v.z=lo:=loI_eq (by omega) q3 λh=>q4 lo (Zaf _) (by omega);apply aa.exit;simp;apply aa.ag aC fw [4];simp[ZX,hL];apply aa.ret;simp[Rg];rfl
section
variable{f:bq}
noncomputable def P8:bB->bq->fI
 |[.v (.int .i64 n),.nG (.func 141) [.ptr b 0]],f=>⟨f b=some (.box [.ptr (gr f b) 0])/\(∃v:SV,v.at f (gr f b))/\n=(jm f (gr f b)).z.l.bE.length/\mono (jm f (gr f b)).z/\(jm f (gr f b)).z.l.bE.length<=1000000000,.v (ti (jn (jm f (gr f b)).z)),f⟩
 |_,f=>⟨False,.undef,f⟩
def k107_eq{v:SV}{b p:Nat}{n:Int}(hb:f b=some (.box [.ptr p 0]))(hv:v.at f p):P8 [.v (ti n),.nG (.func 141) [.ptr b 0]] f=⟨n=v.z.l.bE.length/\mono v.z/\v.z.l.bE.length<=1000000000,.v (ti (jn v.z)),f⟩:=by
 have hx:∃v:SV,v.at f p:=⟨v,hv⟩;have hd:gr f b=p:=by simp[gr,hb]
 simp only[P8,hd,io hv,hx,hb,true_and]
def k107_ok:∀args ab,(P8 args ab).ok->(∀N,(∀r,N<=r->ab r=none)->aR aj 140 args ab (P8 args ab))/\∀r,ab r=none->(P8 args ab).ab r=none:=by
 intro args ab h;unfold P8 at h⊢;split at h
 ·rename_i n b;obtain⟨hb,⟨v,hv⟩,hn,hm,hl⟩:=h;rw[io hv]at hn hm hl⊢;subst hn;exact⟨λN hN=>aR.of (t107 hN hb hv hm hl) rfl rfl,λr hr=>hr⟩
 ·exact h.elim
def ok107{l:List (Nat×DM.Spec)}(h:ay aj (bu l)):ay aj (bu ((140,eS P8)::l)):=ay.gS h k107_ok
def Kc(z:eY)(a:cw):Prop:=a.f=z.fr/\a.t=z.to
instance(z:eY)(a:cw):Decidable (Kc z a):=by unfold Kc;infer_instance
def tW(z:eY):Nat:=jn z+(z.l.bE.drop (jn z)).findIdx λa=> !decide (Kc z a)
def hiI_eq{z:eY}{k:Nat}(h0:jn z<=k)(hk:k<=z.l.bE.length)(h1:∀i,jn z<=i->i<k->Kc z (z.l.bE.getD i default))(h2:k<z.l.bE.length->¬Kc z (z.l.bE.getD k default)):tW z=k:=by
 unfold tW;have fl:(z.l.bE.drop (jn z)).length=z.l.bE.length-jn z:=Zbo ..
 suffices (z.l.bE.drop (jn z)).findIdx (λa=> !decide (Kc z a))=k-jn z by omega
 by_cases hl:k<z.l.bE.length
 ·rw[List.findIdx_eq (by omega)];refine⟨?_,λj hj=>?_⟩
  ·have:=h2 hl;rw[Zcm];simpa [List.getD,hl,show jn z+(k-jn z)=k by omega]using this
  ·have J3:jn z+j<z.l.bE.length:=by omega
   have:=h1 (jn z+j) (by omega) (by omega);rw[Zcm];simpa [List.getD,J3]using this
 ·obtain rfl:k=z.l.bE.length:=by omega
  rw[<-fl,List.findIdx_eq_length];intro x hx;obtain⟨i,hi,rfl⟩:=ZaO hx;rw[fl]at hi;have As:jn z+i<z.l.bE.length:=by omega
  have:=h1 (jn z+i) (by omega) (by omega);rw[Zcm];simpa [List.getD,As]using this
def loI_le(z:eY):jn z<=z.l.bE.length:=List.findIdx_le_length
def t80{f0:bq}{p N:Nat}{v:SV}(hN:∀r,N<=r->f0 r=none)(hv:v.at f0 p)(hm:mono v.z)(hl:v.z.l.bE.length<=1000000000):
  aR aj 119 [.ptr p 0] f0 ⟨True,.v (.eo [ti (jn v.z),ti (tW v.z)]),f0⟩:=by
 have aC:=ok107 ay.nil;refine c80.pQ hN (by simp) λaT=>?_;have h1:=hv.sp;have nu:p<N:=(aT p _ h1).1;simp only[ma]at h1;have np:∀k,p≠N+k:=λk=>by omega
 have en:∃cs,f0 p=some (.box cs):=⟨_,h1⟩;obtain⟨lo,hlo⟩:=bb (jn v.z);have Wc:=loI_le v.z;rw[hlo]at Wc⊢;simp;apply aa.ag aC fw [1];simp[d80r0];refine aa.le (Le.dV (l1:=[(N+2,.box [.ptr p 0])]) (l:=[(1,.ptr (N+2) 0)]) (ba:=N+500) aT ?_ ?_ ?_ ?_ ?_) ?_
 ·omega
 ·simp
 ·simp[bK,Nat.add_assoc]
 ·simp[dN,eA,np,Nat.add_assoc,en]
 ·simp[Nat.add_assoc]
 have mQ:v.at (aM [(N+2,.box [.ptr p 0])] f0) p:=hv.aM aT (by simp);have k1:=λn=>k107_eq (n:=n) (b:=N+2) (f:=aM [(N+2,.box [.ptr p 0])] f0) (by simp) mQ;rw[hlo]at k1;apply aa.cX aC fw (rs:=O1) rfl (by kernel_rfl) [1,4];simp[O1,h1,np,k1,hm,hl];have jy:∀{tm aJ ba l},N+3<=ba->fR (aM [(N+2,.box [.ptr p 0])] f0) (aM [(N+2,.box [.ptr p 0])] f0) id tm l->Le ⟨tm,aM [(N+2,.box [.ptr p 0])] f0,aJ,N,[]⟩ ⟨DM.look l,aM [(N+2,.box [.ptr p 0])] f0,ba,N,[]⟩:=by
  intro tm aJ ba l hn ik;refine Le.dV aT (by omega) ?_ ?_ ?_ ik
  ·simp;omega
  ·simp[bK]
  ·simp[dN,eA,np,en]
 apply aa.ag aC fw [1,4,5];simp[d80r2];apply aa.seq;apply aa.block;refine aa.loop (λj:Nat=>⟨DM.look [(1,.ptr (N+2) 0),(4,.v (ti lo)),(5,.v (ti j))],aM [(N+2,.box [.ptr p 0])] f0,N+1000,N,[]⟩)
  (λj=>lo<=j/\j<=v.z.l.bE.length/\∀i,lo<=i->i<j->Kc v.z (v.z.l.bE.getD i default)) (λj=>v.z.l.bE.length-j) lo (jy (by omega) ?_) ⟨Zaf _,Wc,λi a b=>by omega⟩ (λj hj=>?_)
 ·simp
 obtain⟨j1,j2,j3⟩:=hj;obtain⟨c1,bU⟩:=bb (decide (j<v.z.l.bE.length/\Kc v.z (v.z.l.bE.getD j default)):Bool);apply aa.seq;refine aa.cz aC fw [(1,.ptr (N+2) 0),(4,.v (ti lo)),(5,.v (ti j)),(54,.v (.bool c1))] ?_ ?_
 ·by_cases q1:j<v.z.l.bE.length
  ·have rr:=w7 q1;obtain⟨⟨af,wW,ae,ac,ao⟩,hx⟩:=bb (v.z.l.bE.getD j default);rw[hx]at rr bU;simp only[cw.enc]at rr;simp only[Kc]at bU;by_cases q2:af=v.z.fr
   ·by_cases q3:wW=v.z.to
    ·have:c1=true:=by rw[<-bU];simp[q1,q2,q3]
     simp[Ll,h1,np,q1,rr,q2,q3,this]
    ·have:c1=false:=by rw[<-bU];simp[q3]
     simp[Ll,h1,np,q1,rr,q2,q3,this]
   ·have:c1=false:=by rw[<-bU];simp[q2]
    simp[Ll,h1,np,q1,rr,q2,this]
  ·have:c1=false:=by rw[<-bU];simp;omega
   simp[Ll,h1,np,q1,this]
 refine aa.cond rfl (λg=>?_) (λg=>?_)
 ·have g:c1=true:=by simpa using g
  subst g;obtain⟨g1,g2⟩:=Zat bU;have w1:IntKind.i64.wrap ((j:Int)+1)=((j+1:Nat):Int):=by rw[aF (by omega)];omega
  apply aa.skip;simp;apply aa.block;apply aa.fK aC fw [1,4,5];simp[d80r4,w1];refine⟨j+1,jy (by omega) ?_,⟨by omega,by omega,λi a b=>?_⟩,by omega⟩
  ·simp
  ·by_cases e:i=j
   ·subst e;simpa using g2
   ·simpa using j3 i a (by omega)
 ·have g:c1=false:=by simpa using g
  subst g;have hn:=Zay bU;have hH:tW v.z=j:=hiI_eq (by omega) j2 (by rw[hlo];exact j3) λh hp=>hn ⟨h,hp⟩;rw[hH];apply aa.exit;simp;apply aa.ag aC fw [2,3];simp[d80r5];refine aa.le (kO (l:=[(2,.v (ti lo)),(3,.v (ti j))]) (ba:=N+6000) aT (by omega) (by simp) ?_) ?_
  ·simp
  apply aa.ret;simp[Z0];rfl
noncomputable def k80:bB->bq->fI
 |[.ptr p 0],f=>⟨(∃v:SV,v.at f p)/\mono (jm f p).z/\(jm f p).z.l.bE.length<=1000000000,.v (.eo [ti (jn (jm f p).z),ti (tW (jm f p).z)]),f⟩
 |_,f=>⟨False,.undef,f⟩
def k80_eq{v:SV}{p:Nat}(hv:v.at f p):k80 [.ptr p 0] f=⟨mono v.z/\v.z.l.bE.length<=1000000000,.v (.eo [ti (jn v.z),ti (tW v.z)]),f⟩:=by
 have hx:∃v:SV,v.at f p:=⟨v,hv⟩;simp only[k80,io hv,hx,true_and]
def k80_ok:∀args ab,(k80 args ab).ok->(∀N,(∀r,N<=r->ab r=none)->aR aj 119 args ab (k80 args ab))/\∀r,ab r=none->(k80 args ab).ab r=none:=by
 intro args ab h;unfold k80 at h⊢;split at h
 ·rename_i p;obtain⟨⟨v,hv⟩,hm,hl⟩:=h;rw[io hv]at hm hl⊢;exact⟨λN hN=>aR.of (t80 hN hv hm hl) rfl rfl,λr hr=>hr⟩
 ·exact h.elim
def ok80{l:List (Nat×DM.Spec)}(h:ay aj (bu l)):ay aj (bu ((119,eS k80)::l)):=ay.gS h k80_ok
end
section
variable{h:Int}
inductive jU(n:aD)(l:aV):Int->Nat->Nat->Nat->Int->c8->Prop
 |empty {s k:Nat} {r:di} (hk:n.au[k]? =some r) (h1:r.kind=1) (hv:(dU r.cq []).aH<1099511627776):jU n l r.head s s k s (dU r.cq [])
 |term {s t k a:Nat} {r:di} {x:cw} (hk:n.au[k]? =some r) (h1:r.kind=2) (ha:l.bE[a]? =some x) (h2:x.f=s) (h3:x.t=t) (h4:x.term=r.a)
   (hv:(dU (r.cq+x.aH) []).aH<1099511627776):jU n l r.head s t k a (dU (r.cq+x.aH) [])
 |unary {s t k k1:Nat} {g1:Int} {r:di} {v:c8} (hk:n.au[k]? =some r) (h1:r.kind=3) (d:jU n l r.a s t k1 g1 v) (hv:(dU r.cq [v]).aH<1099511627776):jU n l r.head s t k s (dU r.cq [v])
 |wV {s m t k k1 k2:Nat} {g1 g2:Int} {r:di} {v w:c8} (hk:n.au[k]? =some r) (h1:r.kind=4) (hs:s<=m) (ht:m<=t) (d1:jU n l r.a s m k1 g1 v) (d2:jU n l r.b m t k2 g2 w)
   (hv:(dU r.cq [v,w]).aH<1099511627776):jU n l r.head s t k m (dU r.cq [v,w])
def Der(n:aD)(l:aV)(h:Int)(s t:Nat)(v:c8):Prop:=∃k g,jU n l h s t k g v
def BN(k:Int)(g:Int)(k':Int)(g':Int):Prop:=k<k'\/(k=k'/\g<=g')
structure Good(n:aD)(l:aV)(h:Int)(s t:Nat)(x:Cell):Prop where
 UJ:∀v,Der n l h s t v->¬v.lt x.val
 top:x=lP\/((∃k:Nat,x.qE=k/\jU n l h s t k x.arg x.val)/\∀(k':Nat) g',jU n l h s t k' g' x.val->BN x.qE x.arg k' g')
def jU.bZ{n:aD}{l:aV}{s t k:Nat}{g:Int}{v:c8}(d:jU n l h s t k g v):v.aH<1099511627776:=by
 cases d<;>assumption
def Der.bZ{n:aD}{l:aV}{s t:Nat}{v:c8}(d:Der n l h s t v):v.aH<1099511627776:=by
 obtain⟨k,g,d⟩:=d;exact d.bZ
def c8.uL{a b:c8}(h1:¬a.lt b)(h2:¬b.lt a):a=b:=by
 obtain⟨a1,a2⟩:=a;obtain⟨b1,b2⟩:=b;simp only[c8.lt]at h1 h2;have:a1=b1:=by omega
 have:a2=b2:=by omega
 simp[*]
def Cell.ext'{a b:Cell}(h1:a.val=b.val)(h2:a.qE=b.qE)(h3:a.arg=b.arg):a=b:=by
 obtain⟨a1,a2,a3,a4⟩:=a;obtain⟨b1,b2,b3,b4⟩:=b;simp only[Cell.val,c8.mk.injEq]at h1 h2 h3;simp[h1,h2,h3]
def Good.val_eq{n:aD}{l:aV}{s t:Nat}{x y:Cell}(hx:Good n l h s t x)(hy:Good n l h s t y):x.val=y.val:=by
 have key:∀{x y:Cell},Good n l h s t x->Good n l h s t y->x=lP->x.val=y.val:=by
  intro x y hx hy e;subst e;rcases hy.top with rfl|⟨⟨k,_,d⟩,_⟩
  ·rfl
  ·exact Zar (show y.val.lt lP.val by left;exact d.bZ) (hx.UJ _ ⟨k,_,d⟩)
 rcases hx.top with e|⟨⟨k,_,d⟩,_⟩
 ·exact key hx hy e
 ·rcases hy.top with e|⟨⟨k',_,d'⟩,_⟩
  ·exact(key hy hx e).symm
  ·exact c8.uL (hy.UJ _ ⟨k,_,d⟩) (hx.UJ _ ⟨k',_,d'⟩)
def Good.unique{n:aD}{l:aV}{s t:Nat}{x y:Cell}(hx:Good n l h s t x)(hy:Good n l h s t y):x=y:=by
 have hv:=hx.val_eq hy;rcases hx.top with e|⟨⟨k,e1,d⟩,m⟩
 ·rcases hy.top with e'|⟨⟨k',_,d'⟩,_⟩
  ·rw[e,e']
  ·have:=d'.bZ;rw[<-hv,e]at this;exact Zar this (by decide)
 ·rcases hy.top with e'|⟨⟨k',e2,d'⟩,m'⟩
  ·have:=d.bZ;rw[hv,e']at this;exact Zar this (by decide)
  ·have a:=m k' y.arg (hv▸d');have b:=m' k x.arg (hv▸d);unfold BN at a b;refine Cell.ext' hv ?_ ?_<;>omega
def aax(c:Int)(v:c8):dU c [v]=if min (c+v.aH) 1099511627776>=1099511627776 then⟨1099511627776,0⟩else⟨min (c+v.aH) 1099511627776,min (1+v.size) 1099511627776⟩:=rfl
def aay(c:Int)(v w:c8):dU c [v,w]=if min (min (c+v.aH) 1099511627776+w.aH) 1099511627776>=1099511627776 then⟨1099511627776,0⟩else⟨min (min (c+v.aH) 1099511627776+w.aH) 1099511627776,min (min (1+v.size) 1099511627776+w.size) 1099511627776⟩:=rfl
def GZ{c:Int}{v:c8}(hc:0<=c)(h:(dU c [v]).aH<1099511627776):v.aH<1099511627776:=by
 rw[aax]at h;split at h
 ·simp at h
 ·simp only at h;omega
def G0{c:Int}{v w:c8}(hc:0<=c)(hv:0<=v.aH)(hw:0<=w.aH)(h:(dU c [v,w]).aH<1099511627776):v.aH<1099511627776/\w.aH<1099511627776:=by
 rw[aay]at h;split at h
 ·simp at h
 ·simp only at h;omega
def sJ{c:Int}{v v':c8}(h:¬v.lt v'):¬(dU c [v]).lt (dU c [v']):=by
 rw[aax,aax];unfold c8.lt at h⊢;split<;>split<;>simp only<;>omega
def sK{c:Int}{v v' w w':c8}(p1:0<=v.aH)(p2:0<=v'.aH)(p3:0<=w.aH)(p4:0<=w'.aH)(hv:¬v.lt v')(hw:¬w.lt w'):¬(dU c [v,w]).lt (dU c [v',w']):=by
 rw[aay,aay];unfold c8.lt at hv hw⊢;split<;>split<;>simp only<;>omega
def jH{a b c:c8}(h:¬b.lt a)(k:¬c.lt b):¬c.lt a:=by
 unfold c8.lt at*
 omega
def pk(n:aD)(l:aV)(c:d6)(own:eV)(s t:Nat)(k:Nat)(g:Int)(v:c8):Prop:=
 ∃r,n.au[k]? =some r/\((r.kind=1/\s=t/\g=s/\v=dU r.cq [])\/
  (r.kind=2/\∃(a:Nat) (x:cw),l.bE[a]? =some x/\x.f=s/\x.t=t/\x.term=r.a/\g=a/\v=dU (r.cq+x.aH) [])\/
  (r.kind=3/\g=s/\v=dU r.cq [eJ c own s t r.a s t])\/
  (r.kind=4/\∃d:Nat,s+d<=t/\g=s+d/\v=dU r.cq [eJ c own s t r.a s (s+d),eJ c own s t r.b (s+d) t]))
def lQ(x:Cell)(v:c8)(i g:Int):jV x v i g=x\/(v.aH<1099511627776/\¬x.val.lt v/\jV x v i g=⟨v.aH,v.size,i,g⟩):=by
 unfold jV;split
 ·exact .inl rfl
 ·rename_i h;split
  ·rename_i h2;refine .inr ⟨by omega, ?_,rfl⟩;rcases h2 with h2|⟨rfl,_⟩
   ·unfold c8.lt at*;omega
   ·unfold c8.lt;omega
  ·exact .inl rfl
def sL{x:Cell}{v:c8}{i g:Int}(h:jV x v i g=x)(hv:v.aH<1099511627776):¬v.lt x.val/\(v=x.val->BN x.qE x.arg i g):=by
 obtain⟨xc,xs,xr,xa⟩:=x;obtain⟨vc,vs⟩:=v;unfold jV at h;rw[Zab (by simp only at hv⊢;omega)]at h;split at h
 ·rename_i h2;simp only[Cell.mk.injEq]at h;obtain⟨rfl,rfl,rfl,rfl⟩:=h;simp only[Cell.val,c8.lt]at h2;exfalso;rcases h2 with h2|⟨_,h2⟩<;>omega
 ·rename_i h2;simp only[not_or,not_and]at h2;refine⟨h2.1,λe=>?_⟩;have:=h2.2 e;unfold BN;simp only at this⊢;omega
def za{n:aD}{l:aV}{c:d6}{own:eV}{s t k:Nat}{r:di}(hk:n.au[k]? =some r)(YW:r.kind=1\/r.kind=2\/r.kind=3\/r.kind=4)(hst:s<=t)(x:Cell):
  rj r l c own s t k x=x\/∃g v,pk n l c own s t k g v/\v.aH<1099511627776/\¬x.val.lt v/\rj r l c own s t k x=⟨v.aH,v.size,k,g⟩:=by
 have L8:∀(f:Cell->Nat->Cell) (N:Nat),(∀y j,j<N->f y j=y\/∃g v,pk n l c own s t k g v/\v.aH<1099511627776/\¬y.val.lt v/\f y j=⟨v.aH,v.size,k,g⟩)->
   (List.range N).foldl f x=x\/∃g v,pk n l c own s t k g v/\v.aH<1099511627776/\¬x.val.lt v/\(List.range N).foldl f x=⟨v.aH,v.size,k,g⟩:=by
  intro f N;induction N with
  |zero=>intro _;exact .inl rfl
  |succ N ih=>
   intro h;rw[ZaR,ZaI];have ih:=ih λy j hj=>h y j (by omega);simp only[ZaN,Zca];obtain⟨y,hy⟩:=bb ((List.range N).foldl f x);rw[hy]at ih⊢;rcases h y N (by omega)with e|⟨g,v,h1,h2,h3,h4⟩
   ·rw[e];exact ih
   ·refine .inr ⟨g,v,h1,h2, ?_,h4⟩;rcases ih with rfl|⟨g',v',_,_,h3',rfl⟩
    ·exact h3
    ·have h3'':¬(⟨v'.aH,v'.size⟩:c8).lt v:=h3;exact jH h3'' h3'
 have one:∀(y:Cell) (v:c8) (g:Int),pk n l c own s t k g v->jV y v k g=y\/∃g v,pk n l c own s t k g v/\v.aH<1099511627776/\¬y.val.lt v/\jV y v k g=⟨v.aH,v.size,k,g⟩:=by
  intro y v g hi;rcases lQ y v k g with e|⟨h1,h2,h3⟩
  ·exact .inl e
  ·exact .inr ⟨g,v,hi,h1,h2,h3⟩
 unfold rj;split
 ·rename_i h1;split
  ·rename_i h2;rcases lQ x (dU r.cq []) k s with e|⟨h3,h4,h5⟩
   ·exact .inl e
   ·exact .inr ⟨_,_,⟨r,hk,.inl ⟨h1,by omega,rfl,rfl⟩⟩,h3,h4,h5⟩
  ·exact .inl rfl
 ·split
  ·rename_i h1;refine L8 _ _ λy j hj=>?_;unfold stepT;split
   ·rename_i h2;have ha:l.bE[j]? =some (l.bE.getD j default):=by simp[List.getD,hj]
    rcases lQ y (dU (r.cq+(l.bE.getD j default).aH) []) k j with e|⟨h3,h4,h5⟩
    ·exact .inl e
    ·exact .inr ⟨_,_,⟨r,hk,.inr (.inl ⟨h1,j,_,ha,h2.1,h2.2.1,h2.2.2,rfl,rfl⟩)⟩,h3,h4,h5⟩
   ·exact .inl rfl
  ·split
   ·rename_i h1;rcases lQ x (dU r.cq [eJ c own s t r.a s t]) k s with e|⟨h3,h4,h5⟩
    ·exact .inl e
    ·exact .inr ⟨_,_,⟨r,hk,.inr (.inr (.inl ⟨h1,rfl,rfl⟩))⟩,h3,h4,h5⟩
   ·rename_i h1 h2 h3;have h4:r.kind=4:=by omega
    refine L8 _ _ λy j hj=>?_;unfold L9;rcases lQ y (dU r.cq [eJ c own s t r.a s (s+j),eJ c own s t r.b (s+j) t]) k (s+j)with e|⟨h5,h6,h7⟩
    ·exact .inl e
    ·exact .inr ⟨_,_,⟨r,hk,.inr (.inr (.inr ⟨h4,j,by omega,rfl,rfl⟩))⟩,h5,h6,h7⟩
def Fb{f:Cell->Nat->Cell}:∀{N:Nat},(∀x k,k<N->mH x->goes x (f x k))->∀x,mH x->(List.range N).foldl f x=x->∀k,k<N->f x k=x
 |0,_,_,_,_,k,h=>by omega
 |N+1,hf,x,hx,he,k,hk=>by
  rw[ZaR,ZaI]at he;simp only[ZaN,Zca]at he;have h1:=AC (λx k hk=>hf x k (by omega)) x hx (N:=N);obtain⟨z,hz⟩:=bb ((List.range N).foldl f x);rw[hz]at h1 he;have h2:=hf z N (by omega) h1.1;rw[he]at h2;have e:z=x:=by
   rcases h1.2 with e|h1
   ·exact e
   ·rcases h2.2 with e|h2
    ·exact e.symm
    ·omega
  subst e;by_cases hkN:k=N
  ·subst hkN;exact he
  ·exact Fb (λx k hk=>hf x k (by omega)) z hx hz k (by omega)
end
section
variable{r:di}{own:eV}{h:Int}{s' t':Nat}
def fB{n:aD}(hn:AD n){k:Nat}(h:n.au[k]? =some r):Fc n r/\k<n.au.length/\n.au.getD k default=r:=by
 have hk:=(Zaw.1 h).1;exact⟨hn.2.2.2 r (Zax h),hk,by simp[List.getD,h]⟩
def G1{n:aD}(h:Fc n r):r.kind=1\/r.kind=2\/r.kind=3\/r.kind=4:=by
 obtain⟨_,_,_,_,h⟩:=h;omega
section
variable{n:aD}{l:aV}{c:d6}{s t:Nat}
structure nl(n:aD)(l:aV)(c:d6)(s t:Nat):Prop where
 hn:AD n
 hl:F7 l
 hc:NI c
 ar:∀a∈l.bE,a.f<=a.t
 st:s<=t
 tm:t<=1000
 Xl:∀(h:Int) (s' t':Nat),0<=h->h<n.an->s<=s'->s'<=t'->t'<=t->(s'≠s\/t'≠t)->Good n l h s' t' (NJ c h s' t')
def PS(n:aD)(l:aV)(c:d6)(s t:Nat)(own:eV):Prop:=
 ∀h:Nat,h<own.length->own.getD h default=lP\/(Der n l h s t (own.getD h default).val/\
  ∃(k:Nat) (g:Int) (v:c8),pk n l c own s t k g v/\(∃r,n.au[k]? =some r/\r.head=h)/\(own.getD h default).qE=k/\(own.getD h default).arg=g/\¬(own.getD h default).val.lt v)
def iv(C:nl n l c s t)(ho:nM n own)(h0:0<=h)(h1:h<n.an)(f t':Int):jj (eJ c own s t h f t'):=
 G2 ⟨C.hc,by have:=ho.1;have:=C.hn.2.1;omega,λ_=>⟨h0,by have:=ho.1;omega⟩⟩ ho.ok.2
def AE(C:nl n l c s t)(ho:nM n own)(hp:PS n l c s t own)(h0:0<=h)(h1:h<n.an)(a1:s<=s')(a2:s'<=t')(a3:t'<=t)
  (hf:(eJ c own s t h s' t').aH<1099511627776):Der n l h s' t' (eJ c own s t h s' t'):=by
 obtain⟨h,rfl⟩:=Zae h0;unfold eJ at hf⊢;split
 ·rename_i e;rw[Zai e]at hf;have e1:s'=s:=by omega
  have e2:t'=t:=by omega
  subst e1 e2;simp only[Zag]at hf⊢;rcases hp h (by have:=ho.1;omega)with e|⟨d,_⟩
  ·rw[e]at hf;exact Zar hf (by decide)
  ·exact d
 ·rename_i e;rw[Zab e]at hf;rcases(C.Xl h s' t' h0 h1 a1 a2 a3 (by omega)).top with e|⟨⟨k,_,d⟩,_⟩
  ·rw[e]at hf;exact Zar hf (by decide)
  ·exact⟨k,_,d⟩
def Ma(C:nl n l c s t)(ho:nM n own)(hp:PS n l c s t own){k:Nat}{g:Int}{v:c8}(hk:n.au[k]? =some r)(h:pk n l c own s t k g v)(hf:v.aH<1099511627776):jU n l r.head s t k g v:=by
 obtain⟨r',tU,h⟩:=h;rw[hk]at tU;cases tU;obtain⟨q1,q2,q3,q4,q5⟩:=(fB C.hn hk).1;rcases h with⟨h1,rfl,rfl,rfl⟩|⟨h1,a,x,ha,h2,h3,h4,rfl,rfl⟩|⟨h1,rfl,rfl⟩|⟨h1,d,hd,rfl,rfl⟩
 ·exact jU.empty hk h1 hf
 ·exact jU.term hk h1 ha h2 h3 h4 hf
 ·obtain⟨k1,g1,d1⟩:=AE C ho hp (h:=r.a) (by omega) (by omega) (Zaf s) C.st (Zaf t) (GZ q3 hf);exact jU.unary hk h1 d1 hf
 ·have o1:=iv C ho (h:=r.a) (by omega) (by omega) s (s+d);have o2:=iv C ho (h:=r.b) (by omega) (by omega) (s+d) t;have hff:=G0 q3 o1.1 o2.1 hf;have e:((s:Int)+d)=((s+d:Nat):Int):=by omega
  rw[e]at hf hff⊢;obtain⟨k1,g1,d1⟩:=AE C ho hp (h:=r.a) (by omega) (by omega) (Zaf s) (by omega) hd hff.1;obtain⟨k2,g2,d2⟩:=AE C ho hp (h:=r.b) (by omega) (by omega) (by omega) hd (Zaf t) hff.2;exact jU.wV hk h1 (by omega) hd d1 d2 hf
def G3(C:nl n l c s t){own':eV}(ho:nM n own)(iA:nM n own')(hm:∀(h f t':Int),0<=h->h<n.an->¬(eJ c own s t h f t').lt (eJ c own' s t h f t')){k:Nat}{g:Int}{v:c8}(h:pk n l c own s t k g v):
  ∃v',pk n l c own' s t k g v'/\¬v.lt v':=by
 obtain⟨r,hk,h⟩:=h;obtain⟨q1,q2,q3,q4,q5⟩:=(fB C.hn hk).1;rcases h with⟨h1,rfl,rfl,rfl⟩|⟨h1,a,x,ha,h2,h3,h4,rfl,rfl⟩|⟨h1,rfl,rfl⟩|⟨h1,d,hd,rfl,rfl⟩
 ·exact⟨_,⟨r,hk,.inl ⟨h1,rfl,rfl,rfl⟩⟩,by unfold c8.lt;omega⟩
 ·exact⟨_,⟨r,hk,.inr (.inl ⟨h1,a,x,ha,h2,h3,h4,rfl,rfl⟩)⟩,by unfold c8.lt;omega⟩
 ·exact⟨_,⟨r,hk,.inr (.inr (.inl ⟨h1,rfl,rfl⟩))⟩,sJ (hm _ _ _ (by omega) (by omega))⟩
 ·refine⟨_,⟨r,hk,.inr (.inr (.inr ⟨h1,d,hd,rfl,rfl⟩))⟩,sK ?_ ?_ ?_ ?_ (hm _ _ _ (by omega) (by omega)) (hm _ _ _ (by omega) (by omega))⟩
  ·exact(iv C ho (by omega) (by omega) _ _).1
  ·exact(iv C iA (by omega) (by omega) _ _).1
  ·exact(iv C ho (by omega) (by omega) _ _).1
  ·exact(iv C iA (by omega) (by omega) _ _).1
def Mb{i h:Nat}{y:Cell}(hi:i<own.length):(own.set i y).getD h default=if h=i then y else own.getD h default:=by
 simp only[List.getD,ZbC];by_cases e:i=h
 ·subst e;simp[hi]
 ·have e':¬h=i:=λx=>e x.symm;simp[e,e']
def UK(C:nl n l c s t){k:Nat}(ho:nM n own)(hk:k<n.au.length)(hp:PS n l c s t own):PS n l c s t (wk n l c s t own k):=by
 have iA:=(Mc C.hn C.hl C.hc ho hk C.st C.tm).1;have hr:n.au[k]? =some (n.au.getD k default):=by simp[List.getD,hk]
 obtain⟨r,er⟩:=bb (n.au.getD k default);unfold wk at iA⊢;unfold kA at iA⊢;rw[er]at hr iA⊢;have hro:=(fB C.hn hr).1;obtain⟨hd,ehd⟩:=Zae hro.1;have fl:hd<own.length:=by have:=ho.1;have:=hro.2.1;omega
 rw[ehd]at iA⊢;simp only[Zag]at iA⊢;obtain⟨x,hx⟩:=bb (own.getD hd default);rw[hx]at iA⊢;rcases za (c:=c) (own:=own) hr (G1 hro) C.st x with e|⟨g,v,hi,hf,jy,e⟩
 ·rw[e,<-hx,Md rfl];exact hp
 ·rw[e]at iA⊢;have hm:∀(h f t':Int),0<=h->h<n.an->¬(eJ c own s t h f t').lt (eJ c (own.set hd ⟨v.aH,v.size,k,g⟩) s t h f t'):=by
   intro h f t' h0 h1;unfold eJ;split
   ·rw[Mb fl];split
    ·rename_i e2;rw[e2,hx];exact jy
    ·unfold c8.lt;omega
   ·unfold c8.lt;omega
  have hder:=Ma C ho hp hr hi hf;intro h hh;rw[Mb fl];split
  ·rename_i e2;subst e2;obtain⟨v',pW,V2⟩:=G3 C ho iA hm hi;exact .inr ⟨⟨k,g,by rw[<-ehd];exact hder⟩,k,g,v',pW,⟨r,hr,ehd⟩,rfl,rfl,V2⟩
  ·rcases hp h (by simpa using hh)with e3|⟨d,k1,g1,v1,hi1,sg,h2,h3,h4⟩
   ·exact .inl e3
   ·obtain⟨v',pW,V2⟩:=G3 C ho iA hm hi1;exact .inr ⟨d,k1,g1,v',pW,sg,h2,h3,jH V2 h4⟩
def UL(C:nl n l c s t):PS n l c s t (Me n):=by
 intro h hh;left;have hh:h<n.an.toNat:=by simpa [Me]using hh
 simp[Me,List.getD,hh]
def Fd(C:nl n l c s t)(ho:nM n own)(B5:Pb n l c s t own){k:Nat}{g:Int}{v:c8}(hk:n.au[k]? =some r)(h:pk n l c own s t k g v)(hf:v.aH<1099511627776):
  ¬v.lt (own.getD r.head.toNat default).val/\(v=(own.getD r.head.toNat default).val->BN (own.getD r.head.toNat default).qE (own.getD r.head.toNat default).arg k g):=by
 obtain⟨r',tU,h⟩:=h;rw[hk]at tU;cases tU;obtain⟨hro,J5,hkd⟩:=fB C.hn hk;have J2:=B5 k J5;unfold kA at J2;rw[hkd]at J2;obtain⟨q1,q2,q3,q4,q5⟩:=hro;have X5:mH (own.getD r.head.toNat default):=ho.2 _ (bm (by have:=ho.1;omega));obtain⟨x,hx⟩:=bb (own.getD r.head.toNat default);rw[hx]at J2 X5⊢;have hk6:=C.hn.2.2.1;have Xj:=C.hl.2.2.1;have hst:=C.st;have ik:=C.tm;unfold rj at J2;rcases h with⟨h1,rfl,rfl,rfl⟩|⟨h1,a,y,ha,h2,h3,h4,rfl,rfl⟩|⟨h1,rfl,rfl⟩|⟨h1,d,hd,rfl,rfl⟩
 ·rw[Zai h1,Zai rfl]at J2;exact sL J2 hf
 ·rw[Zab (by omega),Zai h1]at J2;have hal:=(Zaw.1 ha).1;have had:l.bE.getD a default=y:=by simp[List.getD,ha]
  have:=Fb (λx k hk hx=>by
   unfold stepT;split
   ·have:=C.hl.2.2.2 (l.bE.getD k default) (bm hk);exact kY hx (ju zb (by omega) (by omega)) (by omega) (by omega) (by omega) (by omega)
   ·exact vC hx) x X5 J2 a hal
  unfold stepT at this;rw[had,Zai ⟨h2,h3,h4⟩]at this;exact sL this hf
 ·rw[Zab (by omega),Zab (by omega),Zai h1]at J2;exact sL J2 hf
 ·rw[Zab (by omega),Zab (by omega),Zab (by omega)]at J2;have:=Fb (λx k hk hx=>by
   unfold L9;refine kY hx (ju (λv hv=>?_) q3 (by omega)) (by omega) (by omega) (by omega) (by omega);simp only[Zah,Zal,or_false]at hv;rcases hv with rfl|rfl<;>exact iv C ho (by omega) (by omega) _ _) x X5 J2 d (by omega)
  unfold L9 at this;exact sL this hf
def jU.le(ha:∀a∈l.bE,a.f<=a.t){k:Nat}{g:Int}{v:c8}(d:jU n l h s' t' k g v):s'<=t':=by
 induction d with
 |empty _ _ _=>exact Zaf _
 |term _ _ hx h2 h3 _ _=>have:=ha _ (Zax hx);omega
 |unary _ _ _ _ ih=>exact ih
 |wV _ _ _ _ _ _ _ ih1 ih2=>omega
def jU.pos(hn:AD n)(hl:F7 l){k:Nat}{g:Int}{v:c8}(d:jU n l h s' t' k g v):jj v:=by
 induction d with
 |empty hk _ _=>exact ju zb (fB hn hk).1.2.2.1 (by have:=(fB hn hk).1.2.2.2.1;omega)
 |term hk _ hx _ _ _ _=>exact ju zb (by have:=(fB hn hk).1.2.2.1;have:=hl.2.2.2 _ (Zax hx);omega) (by have:=(fB hn hk).1.2.2.2.1;have:=hl.2.2.2 _ (Zax hx);omega)
 |unary hk _ _ _ ih=>exact ju (λv hv=>by simp only[Zan]at hv;subst hv;exact ih) (fB hn hk).1.2.2.1 (by have:=(fB hn hk).1.2.2.2.1;omega)
 |wV hk _ _ _ _ _ _ ih1 ih2=>exact ju (λv hv=>by simp only[Zah,Zal,or_false]at hv;rcases hv with rfl|rfl<;>assumption) (fB hn hk).1.2.2.1 (by have:=(fB hn hk).1.2.2.2.1;omega)
def Mf(C:nl n l c s t)(ho:nM n own)(B5:Pb n l c s t own){k:Nat}{g:Int}{v:c8}(d:jU n l h s' t' k g v):
  s<=s'->t'<=t->¬v.lt (eJ c own s t h s' t'):=by
 have out:∀{h:Int} {s' t':Nat} {v:c8},0<=h->h<n.an->s<=s'->s'<=t'->t'<=t->(s'≠s\/t'≠t)->Der n l h s' t' v->¬v.lt (eJ c own s t h s' t'):=by
  intro h s' t' v h0 h1 a1 a2 a3 bT d;unfold eJ;rw[Zab (by omega)];exact(C.Xl h s' t' h0 h1 a1 a2 a3 bT).UJ v d
 have onn:∀{r:di} {k:Nat} {g:Int} {v v':c8},n.au[k]? =some r->pk n l c own s t k g v'->¬v.lt v'->v.aH<1099511627776->¬v.lt (eJ c own s t r.head s t):=by
  intro r k g v v' hk hi jy hf;unfold eJ;rw[Zai ⟨rfl,rfl⟩];have mN:v'.aH<1099511627776:=by unfold c8.lt at jy;omega
  exact jH (Fd C ho B5 hk hi mN).1 jy
 induction d with
 | @empty s0 k r hk h1 hv=>
  intro a1 a2;obtain⟨q1,q2,q3,q4,q5⟩:=(fB C.hn hk).1;by_cases e:s0=s/\s0=t
  ·obtain⟨rfl,rfl⟩:=e;exact onn hk ⟨r,hk,.inl ⟨h1,rfl,rfl,rfl⟩⟩ (by unfold c8.lt;omega) hv
  ·exact out q1 q2 a1 (Zaf _) a2 (by omega) ⟨k,_,jU.empty hk h1 hv⟩
 | @term s0 t0 k a r x hk h1 ha h2 h3 h4 hv=>
  intro a1 a2;obtain⟨q1,q2,q3,q4,q5⟩:=(fB C.hn hk).1;by_cases e:s0=s/\t0=t
  ·obtain⟨rfl,rfl⟩:=e;exact onn hk ⟨r,hk,.inr (.inl ⟨h1,a,x,ha,h2,h3,h4,rfl,rfl⟩)⟩ (by unfold c8.lt;omega) hv
  ·exact out q1 q2 a1 (by have:=C.ar x (Zax ha);omega) a2 (by omega) ⟨k,_,jU.term hk h1 ha h2 h3 h4 hv⟩
 | @unary s0 t0 k k1 g1 r v hk h1 d hv ih=>
  intro a1 a2;obtain⟨q1,q2,q3,q4,q5⟩:=(fB C.hn hk).1;by_cases e:s0=s/\t0=t
  ·obtain⟨rfl,rfl⟩:=e;exact onn hk ⟨r,hk,.inr (.inr (.inl ⟨h1,rfl,rfl⟩))⟩ (sJ (ih (Zaf _) (Zaf _))) hv
  ·exact out q1 q2 a1 (d.le C.ar) a2 (by omega) ⟨k,_,jU.unary hk h1 d hv⟩
 | @wV s0 m t0 k k1 k2 g1 g2 r v w hk h1 hs ht d1 d2 hv ih1 ih2=>
  intro a1 a2;obtain⟨q1,q2,q3,q4,q5⟩:=(fB C.hn hk).1;by_cases e:s0=s/\t0=t
  ·obtain⟨rfl,rfl⟩:=e;have em:(m:Int)=(s0:Int)+((m-s0:Nat):Int):=by omega
   refine onn hk ⟨r,hk,.inr (.inr (.inr ⟨h1,m-s0,by omega,rfl,rfl⟩))⟩ (sK ?_ ?_ ?_ ?_ ?_ ?_) hv
   ·exact(d1.pos C.hn C.hl).1
   ·exact(iv C ho (by omega) (by omega) _ _).1
   ·exact(d2.pos C.hn C.hl).1
   ·exact(iv C ho (by omega) (by omega) _ _).1
   ·rw[<-em];exact ih1 (Zaf _) ht
   ·rw[<-em];exact ih2 hs (Zaf _)
  ·exact out q1 q2 a1 (by omega) a2 (by omega) ⟨k,_,jU.wV hk h1 hs ht d1 d2 hv⟩
def Hz(C:nl n l c s t)(ho:nM n own)(B5:Pb n l c s t own){k:Nat}{g:Int}{v:c8}(d:jU n l h s t k g v):
  ∃r v',n.au[k]? =some r/\r.head=h/\pk n l c own s t k g v'/\¬v.lt v':=by
 have jy:=λ{h:Int} {s' t' k:Nat} {g:Int} {v:c8} (d:jU n l h s' t' k g v)=>Mf C ho B5 d;cases d with
 | @empty s0 k r hk h1 hv=>exact⟨r,_,hk,rfl,⟨r,hk,.inl ⟨h1,rfl,rfl,rfl⟩⟩,by unfold c8.lt;omega⟩
 | @term s0 t0 k a r x hk h1 ha h2 h3 h4 hv=>exact⟨r,_,hk,rfl,⟨r,hk,.inr (.inl ⟨h1,a,x,ha,h2,h3,h4,rfl,rfl⟩)⟩,by unfold c8.lt;omega⟩
 | @unary s0 t0 k k1 g1 r v hk h1 d hv=>
  exact⟨r,_,hk,rfl,⟨r,hk,.inr (.inr (.inl ⟨h1,rfl,rfl⟩))⟩,sJ (jy d (Zaf _) (Zaf _))⟩
 | @wV s0 m t0 k k1 k2 g1 g2 r v w hk h1 hs ht d1 d2 hv=>
  obtain⟨q1,q2,q3,q4,q5⟩:=(fB C.hn hk).1;have em:(m:Int)=(s:Int)+((m-s:Nat):Int):=by omega
  refine⟨r,_,hk,rfl,⟨r,hk,.inr (.inr (.inr ⟨h1,m-s,by omega,em,rfl⟩))⟩,sK ?_ ?_ ?_ ?_ ?_ ?_⟩
  ·exact(d1.pos C.hn C.hl).1
  ·exact(iv C ho (by omega) (by omega) _ _).1
  ·exact(d2.pos C.hn C.hl).1
  ·exact(iv C ho (by omega) (by omega) _ _).1
  ·rw[<-em];exact jy d1 (Zaf _) ht
  ·rw[<-em];exact jy d2 hs (Zaf _)
def Mg(C:nl n l c s t)(ho:nM n own)(hp:PS n l c s t own)(B5:Pb n l c s t own)(h:Nat)(hh:(h:Int)<n.an):Good n l h s t (own.getD h default):=by
 have hl:h<own.length:=by have:=ho.1;omega
 have c7:eJ c own s t h s t=(own.getD h default).val:=by unfold eJ;rw[Zai ⟨rfl,rfl⟩];rfl
 refine⟨λv ⟨k,g,d⟩=>?_, ?_⟩
 ·rw[<-c7];exact Mf C ho B5 d (Zaf _) (Zaf _)
 ·rcases hp h hl with e|⟨hd,k,g,v,hi,⟨r,hk,hr⟩,h2,h3,jy⟩
  ·exact .inl e
  ·right;have hf:=hd.bZ;have hvf:v.aH<1099511627776:=by unfold c8.lt at jy;omega
   have hx:=Fd C ho B5 hk hi hvf;rw[hr]at hx;simp only[Zag]at hx;have he:v=(own.getD h default).val:=c8.uL hx.1 jy;refine⟨⟨k,h2, ?_⟩,λk' g' d=>?_⟩
   ·have:=Ma C ho hp hk hi hvf;rw[hr,he]at this;rw[h3];exact this
   ·obtain⟨r',v',tU,gD,pW,V2⟩:=Hz C ho B5 d;have hvf':v'.aH<1099511627776:=by unfold c8.lt at V2;omega
    have mh:=Fd C ho B5 tU pW hvf';rw[gD]at mh;simp only[Zag]at mh;exact mh.2 (c8.uL mh.1 V2)
def G4(C:nl n l c s t)(h:Nat)(hh:(h:Int)<n.an):Good n l h s t ((mm n l c s t).getD h default):=by
 obtain⟨h1,h2,h3⟩:=zc C.hn C.hl C.hc C.st C.tm (PS n l c s t) (UL C) (λown k ho hk hp=>UK C ho hk hp);exact Mg C h1 h2 h3 h hh
end
end
section
variable{z:eY}{r:di}{ak:bR}
abbrev gf:=Int×Int×List It
def tT(z:eY)(r:di)(i:Nat):Option gf:=if(z.l.bE.getD i default).term=r.a then some ((i:Int),r.cq+(z.l.bE.getD i default).aH,[])else none
def pE(z:eY)(r:di)(m:Int):gf:=(m,r.cq,[(r.a,z.fr,m),(r.b,m,z.to)])
def cD(z:eY)(r:di):List gf:=
 if r.kind=1 then(if z.fr=z.to then [(z.fr,r.cq,[])]else [])
 else if r.kind=2 then(List.range' (jn z) (tW z-jn z)).filterMap (tT z r)
 else if r.kind=3 then [(z.fr,r.cq,[(r.a,z.fr,z.to)])]
 else if r.kind=4 then(List.range ((z.to-z.fr).toNat+1)).map λ(d:Nat)=>pE z r (z.fr+(d:Int))
 else []
def eD(z:eY)(r:di):List gf:=if r.kind=4 then [pE z r z.fr,pE z r z.to]else cD z r
def qI(z:eY)(bZ:List Bool)(i:gf):Prop:=∀x∈i.2.2,me z x->bZ.getD x.1.toNat false=true
abbrev qJ(z:eY)(ak:bR)(i:gf):c8:=j8 z ak i.2.1 i.2.2
def wu(z:eY):jn z<=tW z/\tW z<=z.l.bE.length:=by
 have:=loI_le z;unfold tW;have h:(z.l.bE.drop (jn z)).findIdx (λa=> !decide (Kc z a))<=(z.l.bE.drop (jn z)).length:=List.findIdx_le_length;rw[Zbo]at h;omega
def Ni{i:Nat}(h1:jn z<=i)(h2:i<tW z):Kc z (z.l.bE.getD i default):=by
 have hh:=(wu z).2;have h3:i-jn z<(z.l.bE.drop (jn z)).findIdx (λa=> !decide (Kc z a)):=by unfold tW at h2;omega
 have:=List.not_of_lt_findIdx h3;rw[Zcm]at this;have hl:i<z.l.bE.length:=by omega
 simpa [List.getD,hl,show jn z+(i-jn z)=i by omega]using this
def at_range(hm:mono z)(hs:∀i j:Nat,i<=j->j<z.l.bE.length->jn z<=i->Kc z (z.l.bE.getD j default)->Kc z (z.l.bE.getD i default)){i:Nat}(hi:i<z.l.bE.length)(h:Kc z (z.l.bE.getD i default)):jn z<=i/\i<tW z:=by
 have hp:lV z (z.l.bE.getD i default):=.inr ⟨h.1,by have:=h.2;omega⟩;have h1:jn z<=i:=by
  rcases Zc5 i (jn z)with hlt|xL
  ·have:=List.not_of_lt_findIdx hlt;have e:z.l.bE.getD i default=z.l.bE[i]:=by simp[List.getD,hi]
   rw[e]at hp;exact Zar hp (by simpa using this)
  ·exact xL
 refine⟨h1, ?_⟩;rcases Zc5 i (tW z)with hlt|xL
 ·exact hlt
 ·exfalso;have hh:=(wu z).2;have hl:tW z<z.l.bE.length:=by omega
  have h2:(z.l.bE.drop (jn z)).findIdx (λa=> !decide (Kc z a))<(z.l.bE.drop (jn z)).length:=by
   rw[Zbo];unfold tW at hl;omega
  have h3:=List.findIdx_getElem (w:=h2);rw[Zcm]at h3;have h4:=hs (tW z) i xL hi (wu z).1 h;simp only[Zbf,Zaz]at h3;apply h3;have e:z.l.bE.getD (tW z) default=z.l.bE[tW z]:=by simp[List.getD,hl]
  rw[e]at h4;exact h4
def A4(vR:z.fr<=z.to){i:gf}(h:i∈eD z r):i∈cD z r:=by
 unfold eD at h;split at h
 ·rename_i hk;unfold cD;rw[Zab (by omega),Zab (by omega),Zab (by omega),Zai hk,Zak];simp only[Zah,Zal,or_false]at h;rcases h with rfl|rfl
  ·exact⟨0,by simp,by simp⟩
  ·exact⟨(z.to-z.fr).toNat,by simp,by rw[show z.fr+((z.to-z.fr).toNat:Int)=z.to by omega]⟩
 ·exact h
def in_bound{i:gf}(h:i∈cD z r){x:It}(hx:x∈i.2.2)(hi:me z x):i∈eD z r/\jv r x.1:=by
 unfold cD at h;split at h
 ·split at h
  ·simp only[Zah,Zal,or_false]at h;subst h;cases hx
  ·cases h
 ·split at h
  ·obtain⟨k,_,hk⟩:=ZbA.1 h;unfold tT at hk;split at hk
   ·cases hk;cases hx
   ·cases hk
  ·split at h
   ·rename_i h1 h2 h3;simp only[Zah,Zal,or_false]at h;subst h;simp only[Zah,Zal,or_false]at hx;subst hx;refine⟨?_,.inl ⟨h3,rfl⟩⟩;unfold eD cD;rw[Zab (by omega),Zab h1,Zab h2,Zai h3];simp
   ·split at h
    ·rename_i h4;obtain⟨d,_,rfl⟩:=Zak.1 h;unfold eD;rw[Zai h4];simp only[pE,Zah,Zal,or_false]at hx;unfold me at hi;rcases hx with rfl|rfl
     ·refine⟨?_,.inr ⟨h4,.inl rfl⟩⟩;simp only at hi;rw[hi.2];simp
     ·refine⟨?_,.inr ⟨h4,.inr rfl⟩⟩;simp only at hi;rw[hi.1];simp
    ·cases h
def AS{a b:bR}{i:gf}(h:∀x∈i.2.2,me z x->bv a x.1=bv b x.1):qJ z a i=qJ z b i:=by
 show dU _ _=dU _ _
 congr 1
 refine Zbq λx hx=>?_;unfold jY;split
 ·rename_i e;exact h x hx e
 ·rfl
def US{p:Int}(hp:0<=p){l:bR}(hl:∀v∈l,jj v){w:c8}(hw:w∈l)(hw2:w.aH<1099511627776\/w.size=0):¬(dU p l).lt w:=by
 have key:∀(l:bR),(∀v∈l,jj v)->∀(c s:Int),0<=c->0<=s->(∀w∈l,¬(fW c s l).lt w)/\(fW c s l).aH>=min c 1099511627776/\(fW c s l).size>=min s 1099511627776:=by
  intro l;induction l with
  |nil=>intro _ c s _ _;exact⟨λw hw=>(by cases hw),(by simp only[fW];omega),(by simp only[fW];omega)⟩
  |cons v l ih=>
   intro hl c s hc hs;obtain⟨v1,v2,v3,v4⟩:=hl v (by simp);obtain⟨i1,i2,i3⟩:=ih (λv hv=>hl v (by simp[hv])) (min (c+v.aH) 1099511627776) (min (s+v.size) 1099511627776) (by omega) (by omega);simp only[fW];refine⟨λw hw=>?_,by omega,by omega⟩;rcases Zah.1 hw with rfl|hw
   ·unfold c8.lt;omega
   ·exact i1 w hw
 have:=(key l hl p 1 hp (by omega)).1 w hw;unfold dU;split
 ·rename_i h;obtain⟨v1,v2,v3,v4⟩:=hl w hw;unfold c8.lt at this⊢;simp only at this⊢;omega
 ·exact this
structure Kx(z:eY):Prop where
 hn:AD z.n
 hl:F7 z.l
 hc:NI z.c
 ft:0<=z.fr/\z.fr<=z.to
def A5(K:Kx z)(hr:r∈z.n.au){i:gf}(hi:i∈cD z r):0<=i.2.1/\i.2.1<=4000000000000:=by
 obtain⟨q1,q2,q3,q4,q5⟩:=K.hn.2.2.2 r hr;unfold cD at hi;split at hi
 ·split at hi
  ·simp only[Zah,Zal,or_false]at hi;subst hi;simp only;omega
  ·cases hi
 ·split at hi
  ·obtain⟨k,Cd,hk⟩:=ZbA.1 hi;have:=(wu z).2;have:=(wu z).1;simp only[Zb6]at Cd;have J5:k<z.l.bE.length:=by omega
   unfold tT at hk;split at hk
   ·cases hk;have:=K.hl.2.2.2 _ (bm J5);simp only;omega
   ·cases hk
  ·split at hi
   ·simp only[Zah,Zal,or_false]at hi;subst hi;simp only;omega
   ·split at hi
    ·obtain⟨d,_,rfl⟩:=Zak.1 hi;simp only[pE];omega
    ·cases hi
def pF(K:Kx z)(hr:r∈z.n.au){i:gf}(hi:i∈cD z r){x:It}(hx:x∈i.2.2):0<=x.1/\x.1<z.n.an:=by
 obtain⟨q1,q2,q3,q4,q5⟩:=K.hn.2.2.2 r hr;unfold cD at hi;split at hi
 ·split at hi
  ·simp only[Zah,Zal,or_false]at hi;subst hi;cases hx
  ·cases hi
 ·split at hi
  ·obtain⟨k,Cd,hk⟩:=ZbA.1 hi;unfold tT at hk;split at hk
   ·cases hk;cases hx
   ·cases hk
  ·split at hi
   ·simp only[Zah,Zal,or_false]at hi;subst hi;simp only[Zah,Zal,or_false]at hx;subst hx;simp only;omega
   ·split at hi
    ·obtain⟨d,_,rfl⟩:=Zak.1 hi;simp only[pE,Zah,Zal,or_false]at hx;rcases hx with rfl|rfl<;>simp only<;>omega
    ·cases hi
def Nj(K:Kx z)(hb:∀v∈ak,jj v)(i:gf):∀v∈i.2.2.map (λx=>jY z ak x.1 x.2.1 x.2.2),jj v:=by
 intro v hv;obtain⟨x,_,rfl⟩:=Zak.1 hv;exact JU K.hc hb _ _ _
def JW(K:Kx z)(hb:∀v∈ak,jj v)(hr:r∈z.n.au){i:gf}(hi:i∈cD z r):jj (qJ z ak i):=by
 have:=A5 K hr hi;exact ju (Nj K hb i) this.1 this.2
def cmb_ge(K:Kx z)(hb:∀v∈ak,jj v)(hr:r∈z.n.au){i:gf}(hi:i∈cD z r){x:It}(hx:x∈i.2.2)(hin:me z x)(v7:(bv ak x.1).aH<1099511627776\/(bv ak x.1).size=0):¬(qJ z ak i).lt (bv ak x.1):=by
 refine US (A5 K hr hi).1 (Nj K hb i) (Zak.2 ⟨x,hx, ?_⟩) v7;unfold jY;exact Zai hin
end
section
variable{h:Int}{r:di}
def lW(st:dn)(x:Int):Bool:=st.bZ.getD x.toNat false
structure KN(z:eY)(st:dn):Prop where
 wf:WF z.n.an.toNat st
 ord:∀x y:Int,0<=x->x<z.n.an->0<=y->y<z.n.an->lW st x=true->lW st y=false->¬(bv st.ak y).lt (bv st.ak x)
 att:∀x:Int,0<=x->x<z.n.an->(bv st.ak x).aH<1099511627776->∃(k:Nat) (r:di),z.n.au[k]? =some r/\r.head=x/\∃i∈cD z r,qI z st.bZ i/\qJ z st.ak i=bv st.ak x
 der:∀x:Int,0<=x->x<z.n.an->(bv st.ak x).aH<1099511627776->Der z.n z.l x z.fr.toNat z.to.toNat (bv st.ak x)
def done(z:eY)(st:dn)(r:di)(i:gf):Prop:=qI z st.bZ i->¬(qJ z st.ak i).lt (bv st.ak r.head)
section
variable{z:eY}{st:dn}
def FR(st:dn)(x:Int):st.bZ.getD x.toNat false=lW st x:=rfl
def kS(K:Kx z)(W:WF z.n.an.toNat st)(hh:0<=h/\h<z.n.an){v:c8}{y:Int}(hy:0<=y):bv (fG st h v).ak y=bv st.ak y\/(y=h/\bv (fG st h v).ak y=v/\lW st h=false/\v.aH<1099511627776/\v.lt (bv st.ak h)):=by
 rcases Qc st h v with e|⟨e,h1,h2,h3⟩
 ·rw[e];exact .inl rfl
 ·rw[e,A3 ⟨hh.1,by rw[W.lb];omega⟩ hy];split
  ·rename_i e2;exact .inr ⟨e2,rfl,h1,h2,h3⟩
  ·exact .inl rfl
def vM(K:Kx z)(W:WF z.n.an.toNat st)(hh:0<=h/\h<z.n.an){v:c8}(hr:r∈z.n.au){i:gf}(hi:i∈cD z r)(hf:qI z st.bZ i):qJ z (fG st h v).ak i=qJ z st.ak i:=by
 refine AS λx hx hin=>?_;rcases kS K W hh (v:=v) (pF K hr hi hx).1 with e|⟨e,_,h1,_⟩
 ·exact e
 ·have:=hf x hx hin;rw[FR,e,h1]at this;cases this
def offer_le(K:Kx z)(W:WF z.n.an.toNat st)(hh:0<=h/\h<z.n.an){v w:c8}{y:Int}(hy:0<=y)(hw:¬w.lt (bv st.ak y)):¬w.lt (bv (fG st h v).ak y):=by
 rcases kS K W hh (v:=v) hy with e|⟨rfl,e,_,_,h3⟩
 ·rw[e];exact hw
 ·rw[e];unfold c8.lt at*
  omega
def xE(K:Kx z)(W:WF z.n.an.toNat st)(hh:0<=h/\h<z.n.an){v:c8}(hr:r∈z.n.au){i:gf}(hi:i∈cD z r)(hd:done z st r i):done z (fG st h v) r i:=by
 intro hf;rw[mL]at hf;rw[vM K W hh hr hi hf];exact offer_le K W hh (K.hn.2.2.2 r hr).1 (hd hf)
def cmb_der(C:nl z.n z.l z.c z.fr.toNat z.to.toNat)(K:Kx z){ak:bR}(hb:∀v∈ak,jj v)(hd:∀x:Int,0<=x->x<z.n.an->(bv ak x).aH<1099511627776->Der z.n z.l x z.fr.toNat z.to.toNat (bv ak x))
  {k:Nat} (hk:z.n.au[k]? =some r) {i:gf} (hi:i∈cD z r) (hf:(qJ z ak i).aH<1099511627776):jU z.n z.l r.head z.fr.toNat z.to.toNat k i.1 (qJ z ak i):=by
 have hr:r∈z.n.au:=Zax hk;obtain⟨q1,q2,q3,q4,q5⟩:=K.hn.2.2.2 r hr;obtain⟨hf0,hf1⟩:=K.ft;obtain⟨s,hs⟩:=Zae hf0;obtain⟨t,ht⟩:=Zae (show 0<=z.to by omega);have es:z.fr.toNat=s:=by omega
 have et:z.to.toNat=t:=by omega
 have val:∀(x:Int) (a b:Nat),0<=x->x<z.n.an->s<=a->a<=b->b<=t->(jY z ak x a b).aH<1099511627776->Der z.n z.l x a b (jY z ak x a b):=by
  intro x a b h0 h1 a1 a2 a3 hfv;unfold jY at hfv⊢;split
  ·rename_i e;rw[Zai e]at hfv;have e1:a=z.fr.toNat:=by omega
   have e2:b=z.to.toNat:=by omega
   rw[e1,e2];exact hd x h0 h1 hfv
  ·rename_i e;rw[Zab e]at hfv;rcases(C.Xl x a b h0 h1 (by omega) a2 (by omega) (by omega)).top with e|⟨⟨k,_,d⟩,_⟩
   ·rw[e]at hfv;exact Zar hfv (by decide)
   ·exact⟨k,_,d⟩
 have vok:∀(x a b:Int),jj (jY z ak x a b):=λx a b=>JU K.hc hb x a b;unfold cD at hi;split at hi
 ·rename_i h1;split at hi
  ·rename_i h2;simp only[Zah,Zal,or_false]at hi;subst hi;have e:z.to.toNat=z.fr.toNat:=by omega
   rw[e,show z.fr=(z.fr.toNat:Int)by omega];exact jU.empty hk h1 hf
  ·cases hi
 ·split at hi
  ·rename_i h1;obtain⟨a,ha0,ha⟩:=ZbA.1 hi;have:=wu z;simp only[Zb6]at ha0;have hal:a<z.l.bE.length:=by omega
   have dP:=Ni (z:=z) (i:=a) (by omega) (by omega);unfold tT at ha;split at ha
   ·rename_i Nk;cases ha;exact jU.term hk h1 (a:=a) (x:=z.l.bE.getD a default) (by simp[List.getD,hal]) (by rw[dP.1];omega) (by rw[dP.2];omega) Nk hf
   ·cases ha
  ·split at hi
   ·rename_i h1;simp only[Zah,Zal,or_false]at hi;subst hi;have mN:(dU r.cq [jY z ak r.a z.fr z.to]).aH<1099511627776:=hf;have hv:=GZ q3 mN;have d:=val r.a s t (by omega) (by omega) (Zaf _) (by omega) (Zaf _) (by rw[<-hs,<-ht];exact hv);obtain⟨k1,g1,d1⟩:=d;rw[<-hs,<-ht]at d1;have:=jU.unary hk h1 d1 mN;rw[es,et];rw[hs]at this⊢;exact this
   ·split at hi
    ·rename_i h1;obtain⟨d,hd0,rfl⟩:=Zak.1 hi;simp only[Za2]at hd0;have mN:(dU r.cq [jY z ak r.a z.fr (z.fr+(d:Int)),jY z ak r.b (z.fr+(d:Int)) z.to]).aH<1099511627776:=hf;have hv:=G0 q3 (vok _ _ _).1 (vok _ _ _).1 mN;have em:z.fr+(d:Int)=((s+d:Nat):Int):=by omega
     rw[em,hs,ht]at hv;obtain⟨k1,g1,d1⟩:=val r.a s (s+d) (by omega) (by omega) (Zaf _) (by omega) (by omega) hv.1;obtain⟨k2,g2,d2⟩:=val r.b (s+d) t (by omega) (by omega) (by omega) (by omega) (Zaf _) hv.2;rw[em,hs,ht]at mN;have:=jU.wV hk h1 (by omega) (by omega) d1 d2 mN;rw[es,et];show jU z.n z.l r.head s t k (z.fr+(d:Int)) (dU r.cq [jY z ak r.a z.fr (z.fr+(d:Int)),jY z ak r.b (z.fr+(d:Int)) z.to]);rw[em,hs,ht];exact this
    ·cases hi
def KN.FC(C:nl z.n z.l z.c z.fr.toNat z.to.toNat)(K:Kx z)(h:KN z st){k:Nat}(hk:z.n.au[k]? =some r){i:gf}(hi:i∈cD z r)(hf:qI z st.bZ i)
  (ho:(qJ z st.ak i).lt (bv st.ak r.head)->∀x:Int,0<=x->x<z.n.an->lW st x=true->¬(qJ z st.ak i).lt (bv st.ak x)):KN z (fG st r.head (qJ z st.ak i)):=by
 have hr:r∈z.n.au:=Zax hk;have hh:0<=r.head/\r.head<z.n.an:=⟨(K.hn.2.2.2 r hr).1,(K.hn.2.2.2 r hr).2.1⟩;obtain⟨V,hV⟩:=bb (qJ z st.ak i);have Gk:jj V:=by rw[<-hV];exact JW K h.wf.bo hr hi
 have W2:WF z.n.an.toNat (fG st r.head V):=h.wf.FC (by omega) Gk;have lr:∀x,lW (fG st r.head V) x=lW st x:=λx=>by unfold lW;rw[mL]
 rw[hV]at ho⊢;refine⟨W2,λx y x0 x1 y0 y1 fx fy=>?_,λx x0 x1 hx=>?_,λx x0 x1 hx=>?_⟩
 ·rw[lr]at fx fy;have ex:bv (fG st r.head V).ak x=bv st.ak x:=by
   rcases kS K h.wf hh (v:=V) x0 with e|⟨rfl,_,h1,_⟩
   ·exact e
   ·rw[fx]at h1;cases h1
  rw[ex];rcases kS K h.wf hh (v:=V) y0 with e|⟨rfl,e,h1,_,h3⟩
  ·rw[e];exact h.ord x y x0 x1 y0 y1 fx fy
  ·rw[e];exact ho h3 x x0 x1 fx
 ·rcases kS K h.wf hh (v:=V) x0 with e|⟨rfl,e,h1,_,h3⟩
  ·rw[e]at hx⊢;obtain⟨k',r',tU,gD,i',pW,mN,Xb⟩:=h.att x x0 x1 hx;exact⟨k',r',tU,gD,i',pW,by rw[mL];exact mN,by rw[vM K h.wf hh (Zax tU) pW mN];exact Xb⟩
  ·rw[e];exact⟨k,r,hk,rfl,i,hi,by rw[mL];exact hf,by rw[vM K h.wf hh hr hi hf];exact hV⟩
 ·rcases kS K h.wf hh (v:=V) x0 with e|⟨rfl,e,h1,h2,h3⟩
  ·rw[e]at hx⊢;exact h.der x x0 x1 hx
  ·rw[e];have:=cmb_der C K h.wf.bo h.der hk hi (by rw[hV];exact h2);rw[hV]at this;exact⟨_,_,this⟩
def FT(K:Kx z)(W:WF z.n.an.toNat st)(hr:r∈z.n.au){i:gf}(hi:i∈cD z r)(hf:qI z st.bZ i)
  (ho:lW st r.head=true->¬(qJ z st.ak i).lt (bv st.ak r.head)):done z (fG st r.head (qJ z st.ak i)) r i:=by
 have hh:0<=r.head/\r.head<z.n.an:=⟨(K.hn.2.2.2 r hr).1,(K.hn.2.2.2 r hr).2.1⟩;intro _;rw[vM K W hh hr hi hf];have Gk:=JW K W.bo hr hi;obtain⟨V,hV⟩:=bb (qJ z st.ak i);rw[hV]at ho Gk⊢;unfold fG;split
 ·rename_i hc;rcases hc with hc|hc|hc
  ·exact ho hc
  ·have hb:jj (bv st.ak r.head):=W.bo _ (bm (by rw[W.lb];omega));by_cases hlt:V.lt (bv st.ak r.head)
   ·exfalso;obtain⟨b1,b2,b3,b4⟩:=hb;have Bv:(bv st.ak r.head).aH=1099511627776:=by unfold c8.lt at hlt;omega
    have HQ:(bv st.ak r.head)=⟨1099511627776,0⟩:=by
     rcases ilt (st.fl.getD r.head.toNat 0)with h0|h0
     ·exact(W.old r.head.toNat (by omega) h0).2
     ·have:=W.Qb r.head.toNat (by omega) h0;unfold bv at Bv;omega
    rw[HQ]at hlt;obtain⟨c1,c2,c3,c4⟩:=Gk;unfold c8.lt at hlt;simp only at hlt;omega
   ·exact hlt
  ·exact hc
 ·have hbs:bv (st.ak.set r.head.toNat V) r.head=V:=by
   rw[A3 ⟨hh.1,by rw[W.lb];omega⟩ hh.1,Zai rfl]
  split;all_goals
   show ¬V.lt (bv (st.ak.set r.head.toNat V) r.head);rw[hbs];unfold c8.lt;omega
end
end
section
variable{st:dn}{bZ:List Bool}
def iz(z:eY)(r:di)(st:dn)(i:gf):dn:=if ff z i.2.2=true then st else fG st r.head (qJ z st.ak i)
def BZ(z:eY)(st:dn):dn:=z.n.au.foldl (λst r=>(cD z r).foldl (iz z r) st) st
def iP(z:eY)(r:di)(st:dn)(i:gf):dn:=if ff z i.2.2=true/\od z st.bZ i.2.2=false then fG st r.head (qJ z st.ak i)else st
def CZ(z:eY)(x:Int)(st:dn)(r:di):dn:=if jv r x then(eD z r).foldl (iP z r) st else st
def oA(z:eY)(st:dn):dn:=z.n.au.foldl (CZ z (st.s.e 0).x) (pU st)
def ip(z:eY):Nat->dn->dn
 |0,st=>st
 |f+1,st=>if st.s.heap=[]then st else ip z f (oA z st)
def py(st:dn):Nat:=st.bZ.count false
def gG(n:Nat):dn:=⟨List.replicate n ⟨1099511627776,0⟩,List.replicate n false,List.replicate n (-1),⟨[],0,[],0,0,0⟩⟩
abbrev PR:=di×gf
def NO(z:eY)(p:PR):Prop:=p.1∈z.n.au/\p.2∈cD z p.1
def B0(z:eY)(st:dn)(p:PR):Prop:=done z st p.1 p.2
structure FU(z:eY)(P:dn->Prop)(ok:PR->Prop)(f:dn->PR->dn):Prop where
 bi:∀st p,P st->ok p->P (f st p)
 self:∀st p,P st->ok p->B0 z (f st p) p
 rest:∀st p,P st->ok p->∀q,NO z q->B0 z st q->B0 z (f st p) q
 clock:∀st p,P st->ok p->(f st p).s.clock<=st.s.clock+1
def FU.L8{z:eY}{P:dn->Prop}{ok:PR->Prop}{f:dn->PR->dn}(h:FU z P ok f)(hok:∀p,ok p->NO z p):∀(L:List PR),(∀p∈L,ok p)->∀st,P st->
  P (L.foldl f st)/\(∀p∈L,B0 z (L.foldl f st) p)/\(∀q,NO z q->B0 z st q->B0 z (L.foldl f st) q)/\(L.foldl f st).s.clock<=st.s.clock+L.length
 |[],_,st,hp=>⟨hp,λp hp=>(by cases hp),λq _ h=>h,by simp⟩
 |p::L,hL,st,hp=>by
  have h1:=hL p (by simp);obtain⟨a1,a2,a3,a4⟩:=FU.L8 h hok L (λq hq=>hL q (by simp[hq])) (f st p) (h.bi st p hp h1);rw[ZaN];refine⟨a1,λq hq=>?_,λq hq hd=>a3 q hq (h.rest st p hp h1 q hq hd), ?_⟩
  ·rcases Zah.1 hq with rfl|hq
   ·exact a3 _ (hok _ h1) (h.self st _ hp h1)
   ·exact a2 q hq
  ·have:=h.clock st p hp h1;simp only[Za5];omega
def qq{σ α β:Type}(f:σ->α×β->σ)(g:α->List β):∀(l:List α) (x:σ),l.foldl (λx a=>(g a).foldl (λx b=>f x (a,b)) x) x=(l.flatMap λa=>(g a).map λb=>(a,b)).foldl f x
 |[],x=>rfl
 |a::l,x=>by
  rw[ZaN,Zbt,ZaI,qq f g l,ZcC]
def xF{z:eY}{l:List It}(h:¬ff z l=true):∀x∈l,¬me z x:=by
 intro x hx hi;exact h (Zce.2 ⟨x,hx,by simpa using hi⟩)
section
variable{z:eY}
def gY{α:Type}{n x:Nat}{a d:α}(h:x<n):(List.replicate n a).getD x d=a:=by simp[List.getD,h]
def KN0(K:Kx z):KN z (gG z.n.an.toNat):=by
 have hb:∀x:Int,0<=x->x<z.n.an->bv (gG z.n.an.toNat).ak x=⟨1099511627776,0⟩:=λx h0 h1=>gY (by omega);have hf:∀x:Int,0<=x->x<z.n.an->lW (gG z.n.an.toNat) x=false:=λx h0 h1=>gY (by omega);refine⟨⟨by simp[gG],by simp[gG],by simp[gG],⟨by simp[gG,pA],λe he=>by simp[gG]at he,λe he=>by simp[gG]at he,λe he=>by simp[gG]at he⟩,λk hk=>by simp[gG]at hk,λk _ hk=>by simp[gG]at hk,
  λe he=>by simp[gG]at he,λx hx h0 _=>?_,λx hx h0=>⟨gY hx,gY hx⟩,λx hx h0=>?_,λx hx=>?_,by simp[gG],λv hv=>?_⟩,λx y x0 x1 _ _ fx _=>?_,λx x0 x1 hx=>?_,λx x0 x1 hx=>?_⟩
 ·have:=gY (a:=(-1:Int)) (d:=0) hx;simp only[gG]at h0;omega
 ·have:=gY (a:=(-1:Int)) (d:=0) hx;simp only[gG]at h0;omega
 ·have:=gY (a:=(-1:Int)) (d:=0) hx;simp only[gG];omega
 ·rw[ZbI hv];exact⟨by decide,by decide,by decide,by decide⟩
 ·rw[hf x x0 x1]at fx;cases fx
 ·rw[hb x x0 x1]at hx;exact Zar hx (by decide)
 ·rw[hb x x0 x1]at hx;exact Zar hx (by decide)
def U5{p:PR}(h:NO z p):∃k:Nat,z.n.au[k]? =some p.1:=by
 obtain⟨k,hk,e⟩:=ZaO h.1;exact⟨k,by rw[Zas hk,e]⟩
def PI(z:eY)(st:dn):Prop:=KN z st/\∀x:Int,0<=x->x<z.n.an->lW st x=false
def U6(C:nl z.n z.l z.c z.fr.toNat z.to.toNat)(K:Kx z):FU z (PI z) (NO z) (λst p=>iz z p.1 st p.2):=by
 have hh:∀p,NO z p->0<=p.1.head/\p.1.head<z.n.an:=λp hp=>⟨(K.hn.2.2.2 _ hp.1).1,(K.hn.2.2.2 _ hp.1).2.1⟩;refine⟨λst p hp ho=>?_,λst p hp ho=>?_,λst p hp ho q hq hd=>?_,λst p hp ho=>?_⟩<;>unfold iz
 ·split
  ·exact hp
  ·rename_i hw;obtain⟨k,hk⟩:=U5 ho;have hf:qI z st.bZ p.2:=λx hx hi=>Zar hi (xF hw x hx);refine⟨hp.1.FC C K hk ho.2 hf λ_ x x0 x1 fx=>?_,λx x0 x1=>?_⟩
   ·rw[hp.2 x x0 x1]at fx;cases fx
   ·unfold lW;rw[mL];exact hp.2 x x0 x1
 ·split
  ·rename_i hw;intro hf;exfalso;obtain⟨x,hx,hi⟩:=Zce.1 hw;have v7:=pF K ho.1 ho.2 hx;have:=hf x hx (by simpa using hi);rw[FR,hp.2 x.1 v7.1 v7.2]at this;cases this
  ·rename_i hw;refine FT K hp.1.wf ho.1 ho.2 (λx hx hi=>Zar hi (xF hw x hx)) λhf=>?_;rw[hp.2 _ (hh p ho).1 (hh p ho).2]at hf;cases hf
 ·split
  ·exact hd
  ·exact xE K hp.1.wf (hh p ho) hq.1 hq.2 hd
 ·split
  ·omega
  ·exact BY hp.1.wf (by have:=hh p ho;omega) _
def IV(z:eY)(st:dn):Prop:=KN z st/\∀q,NO z q->B0 z st q
def allP(z:eY):List PR:=z.n.au.flatMap λr=>(cD z r).map λi=>(r,i)
def Nl{q:PR}:q∈allP z↔NO z q:=by
 unfold allP NO;constructor
 ·intro h;obtain⟨r,hr,h⟩:=ZaV.1 h;obtain⟨i,hi,rfl⟩:=Zak.1 h;exact⟨hr,hi⟩
 ·rintro⟨h1,h2⟩;exact ZaV.2 ⟨q.1,h1,Zak.2 ⟨q.2,h2,rfl⟩⟩
def initF_eq(st:dn):BZ z st=(allP z).foldl (λst p=>iz z p.1 st p.2) st:=qq (λst (p:PR)=>iz z p.1 st p.2) (cD z) _ _
def PI0(K:Kx z):PI z (gG z.n.an.toNat):=⟨KN0 K,λx h0 h1=>gY (by omega)⟩
def init_iv(C:nl z.n z.l z.c z.fr.toNat z.to.toNat)(K:Kx z):IV z (BZ z (gG z.n.an.toNat))/\(BZ z (gG z.n.an.toNat)).s.clock<=(allP z).length:=by
 rw[initF_eq];obtain⟨a1,a2,a3,a4⟩:=(U6 C K).L8 (λ_ h=>h) (allP z) (λp hp=>Nl.1 hp) _ (PI0 K);exact⟨⟨a1.1,λq hq=>a2 q (Nl.2 hq)⟩,by simpa [gG]using a4⟩
def tf(h:WF z.n.an.toNat st)(bT:st.s.heap≠[]){y:Int}(h0:0<=y)(h1:y<z.n.an):lW (pU st) y=if y=(st.s.e 0).x then true else lW st y:=by
 have xN:0<st.s.heap.length:=ZaT.2 bT;have a:=h.vU _ (fD.2 ⟨0,xN,rfl⟩);have e0:(st.s.e (0:Nat)).x=(st.s.e 0).x:=rfl;rw[e0]at a;unfold lW pU;simp only;rw[eI (by have:=h.lf;omega)];by_cases e:y=(st.s.e 0).x
 ·rw[Zai (by omega),Zai e]
 ·rw[Zab (by omega),Zab e]
def KN.pop(K:Kx z)(h:KN z st)(bT:st.s.heap≠[]):KN z (pU st)/\(0<=(st.s.e 0).x/\(st.s.e 0).x<z.n.an)/\lW st (st.s.e 0).x=false/\(∀y:Int,0<=y->y<z.n.an->lW (pU st) y=true->¬(bv st.ak (st.s.e 0).x).lt (bv st.ak y)):=by
 have xN:0<st.s.heap.length:=ZaT.2 bT;obtain⟨a1,a2,a3,a4,a5⟩:=h.wf.vU _ (fD.2 ⟨0,xN,rfl⟩);have e0:(st.s.e (0:Nat)).x=(st.s.e 0).x:=rfl;rw[e0]at a1 a2 a3 a4;have hx:0<=(st.s.e 0).x/\(st.s.e 0).x<z.n.an:=by omega
 have X9:∀y:Int,0<=y->y<z.n.an->lW st y=false->¬(bv st.ak y).lt (bv st.ak (st.s.e 0).x):=by
  intro y y0 y1 fy;rcases ilt (st.fl.getD y.toNat 0)with h0|h0
  ·have hy:=(h.wf.old y.toNat (by omega) h0).2;have Xp:=h.wf.Qb (st.s.e 0).x.toNat (by omega) (by omega);unfold bv;rw[hy];unfold c8.lt;simp only;omega
  ·obtain⟨e,he,hey⟩:=h.wf.Xl y.toNat (by omega) h0 fy;obtain⟨i,hi,rfl⟩:=fD.1 he;have:=xu h.wf.hp i hi;unfold iC at this;rw[show(st.s.e i).x=y by omega]at this;exact λhlt=>this (.inl hlt)
 refine⟨⟨h.wf.pop bT,λx y x0 x1 y0 y1 fx fy=>?_,λx x0 x1 mh=>?_,h.der⟩,hx,a3,λy y0 y1 fy=>?_⟩
 ·rw[tf h.wf bT x0 x1]at fx;rw[tf h.wf bT y0 y1]at fy;split at fy
  ·cases fy
  ·split at fx
   ·rename_i e;rw[e];exact X9 y y0 y1 fy
   ·exact h.ord x y x0 x1 y0 y1 fx fy
 ·obtain⟨k,r,hk,hr,i,hi,hf,hc⟩:=h.att x x0 x1 mh;refine⟨k,r,hk,hr,i,hi,λw hw hwi=>?_,hc⟩;have hwb:=pF K (Zax hk) hi hw;show lW (pU st) w.1=true;rw[tf h.wf bT hwb.1 hwb.2];split
  ·rfl
  ·exact hf w hw hwi
 ·rw[tf h.wf bT y0 y1]at fy;split at fy
  ·rename_i e;rw[e];unfold c8.lt;omega
  ·exact h.ord y _ y0 y1 hx.1 hx.2 fy a3
structure PS2(z:eY)(x:Int)(bZ:List Bool)(st:dn):Prop where
 kn:KN z st
 bZ:st.bZ=bZ
 mx:∀y:Int,0<=y->y<z.n.an->lW st y=true->¬(bv st.ak x).lt (bv st.ak y)
 old:∀q,NO z q->(∀w∈q.2.2.2,me z w->w.1≠x)->B0 z st q
def FV{i:gf}:(od z bZ i.2.2=false)↔qI z bZ i:=by
 unfold od qI;rw[Zcl];constructor
 ·intro h x hx hi;have:=h x hx;simp only[hi,decide_true,ZcF,Zbf,Bool.not_eq_false]at this;exact this
 ·intro h x hx;by_cases hi:me z x
  ·have:=h x hx hi;rw[show(default:Bool)=false from rfl,this];simp
  ·simp[hi]
def set_ok(C:nl z.n z.l z.c z.fr.toNat z.to.toNat)(K:Kx z){x:Int}(hx:0<=x/\x<z.n.an)(Xp:bZ.getD x.toNat false=true):FU z (PS2 z x bZ) (NO z) (λst p=>iP z p.1 st p.2):=by
 have hh:∀p,NO z p->0<=p.1.head/\p.1.head<z.n.an:=λp hp=>⟨(K.hn.2.2.2 _ hp.1).1,(K.hn.2.2.2 _ hp.1).2.1⟩;have two:∀(st:dn) (p:PR),PS2 z x bZ st->NO z p->qI z st.bZ p.2->(∀y:Int,0<=y->y<z.n.an->lW st y=true->¬(qJ z st.ak p.2).lt (bv st.ak y))\/¬(qJ z st.ak p.2).lt (bv st.ak p.1.head):=by
  intro st p hp ho hf;by_cases hq:∀w∈p.2.2.2,me z w->w.1≠x
  ·exact .inr (hp.old p ho hq hf)
  ·left;intro y y0 y1 fy;have⟨w,hw⟩:=Classical.not_forall.1 hq;obtain⟨Xd,hw⟩:=Classical.not_imp.1 hw;obtain⟨hw2,hw⟩:=Classical.not_imp.1 hw;have hw3:w.1=x:=Decidable.not_not.1 hw;have h1:=cmb_ge K hp.kn.wf.bo ho.1 ho.2 Xd hw2 (by have:=pF K ho.1 ho.2 Xd;exact hp.kn.wf.canon (by omega));rw[hw3]at h1;have h2:=hp.mx y y0 y1 fy;exact jH h2 h1
 refine⟨λst p hp ho=>?_,λst p hp ho=>?_,λst p hp ho q hq hd=>?_,λst p hp ho=>?_⟩<;>unfold iP
 ·split
  ·rename_i hw;have hf:=FV.1 hw.2;obtain⟨k,hk⟩:=U5 ho;refine⟨hp.kn.FC C K hk ho.2 hf λhlt y y0 y1 fy=>?_,by rw[mL];exact hp.bZ,λy y0 y1 fy=>?_,λq hq Xh=>xE K hp.kn.wf (hh p ho) hq.1 hq.2 (hp.old q hq Xh)⟩
   ·rcases two st p hp ho hf with h|h
    ·exact h y y0 y1 fy
    ·exact Zar hlt h
   ·unfold lW at fy;rw[mL]at fy;have fx:lW st x=true:=by unfold lW;rw[hp.bZ];exact Xp
    have fix:∀w:Int,0<=w->lW st w=true->bv (fG st p.1.head (qJ z st.ak p.2)).ak w=bv st.ak w:=λw w0 fw=>by
     rcases kS K hp.kn.wf (hh p ho) (v:=qJ z st.ak p.2) w0 with e|⟨rfl,_,h1,_⟩
     ·exact e
     ·rw[fw]at h1;cases h1
    rw[fix x hx.1 fx,fix y y0 fy];exact hp.mx y y0 y1 fy
  ·exact hp
 ·split
  ·rename_i hw;have hf:=FV.1 hw.2;refine FT K hp.kn.wf ho.1 ho.2 hf λfh=>?_;rcases two st p hp ho hf with h|h
   ·exact h _ (hh p ho).1 (hh p ho).2 fh
   ·exact h
  ·rename_i hw;by_cases h1:ff z p.2.2.2=true
   ·intro hf;exact Zar ⟨h1,FV.2 hf⟩ hw
   ·exact hp.old p ho λw hw hwi=>Zar hwi (xF h1 w hw)
 ·split
  ·exact xE K hp.kn.wf (hh p ho) hq.1 hq.2 hd
  ·exact hd
 ·split
  ·exact BY hp.kn.wf (by have:=hh p ho;omega) _
  ·omega
def setP(z:eY)(x:Int):List PR:=(z.n.au.filter λr=>decide (jv r x)).flatMap λr=>(eD z r).map λi=>(r,i)
def lO{σ α:Type}(p:α->Prop) [DecidablePred p](f:σ->α->σ):∀(l:List α) (x:σ),l.foldl (λx a=>if p a then f x a else x) x=(l.filter λa=>decide (p a)).foldl f x
 |[],x=>rfl
 |a::l,x=>by
  rw[ZaN,lO p f l];by_cases h:p a
  ·rw[Zai h,List.filter_cons_of_pos (by simpa using h),ZaN]
  ·rw[Zab h,List.filter_cons_of_neg (by simpa using h)]
def FW(x:Int)(l:Cf)(st:dn):l.foldl (CZ z x) st=((l.filter λr=>decide (jv r x)).flatMap λr=>(eD z r).map λi=>(r,i)).foldl (λst (p:PR)=>iP z p.1 st p.2) st:=by
 have:=lO (λr=>jv r x) (λst r=>(eD z r).foldl (iP z r) st) l st;show l.foldl (λst r=>if jv r x then(eD z r).foldl (iP z r) st else st) st=_;rw[this];exact qq (λst (p:PR)=>iP z p.1 st p.2) (eD z) _ _
def U7(K:Kx z){x:Int}{l:Cf}(hl:∀r∈l,r∈z.n.au):∀p∈(l.filter λr=>decide (jv r x)).flatMap λr=>(eD z r).map λi=>((r,i):PR),NO z p:=by
 intro p hp;obtain⟨r,hr,h⟩:=ZaV.1 hp;obtain⟨i,hi,rfl⟩:=Zak.1 h;exact⟨hl r (Zbj.1 hr).1,A4 K.ft.2 hi⟩
def pop_ps(C:nl z.n z.l z.c z.fr.toNat z.to.toNat)(K:Kx z)(h:IV z st)(bT:st.s.heap≠[]):PS2 z (st.s.e 0).x (pU st).bZ (pU st):=by
 obtain⟨k1,k2,k3,k4⟩:=h.1.pop K bT;refine⟨k1,rfl,k4,λq hq Xh hf=>h.2 q hq λw hw hwi=>?_⟩;have hwb:=pF K hq.1 hq.2 hw;have:=hf w hw hwi;rw[FR,tf h.1.wf bT hwb.1 hwb.2,Zab (Xh w hw hwi)]at this;exact this
def A6(C:nl z.n z.l z.c z.fr.toNat z.to.toNat)(K:Kx z)(h:IV z st)(bT:st.s.heap≠[]):IV z (oA z st)/\py (oA z st)<py st/\(oA z st).s.clock<=st.s.clock+(setP z (st.s.e 0).x).length:=by
 have hP:=pop_ps C K h bT;obtain⟨k1,k2,k3,k4⟩:=h.1.pop K bT;have xN:0<st.s.heap.length:=ZaT.2 bT;have Xp:(pU st).bZ.getD (st.s.e 0).x.toNat false=true:=by
  show lW (pU st) _=true;rw[tf h.1.wf bT k2.1 k2.2,Zai rfl]
 have aT:(pU st).s.clock=st.s.clock:=by
  have hs:lu (fT st.s) (fC st.ak st.s):=by unfold fC;rw[Zab bT];exact li rfl
  exact hs.clock
 obtain⟨a1,a2,a3,a4⟩:=(set_ok C K k2 Xp).L8 (λ_ h=>h) (setP z (st.s.e 0).x) (U7 K λr h=>h) _ hP;have e:oA z st=(setP z (st.s.e 0).x).foldl (λst p=>iP z p.1 st p.2) (pU st):=FW _ _ _;rw[<-e]at a1 a2 a3 a4;refine⟨⟨a1.kn,λq hq=>?_⟩, ?_,by omega⟩
 ·by_cases Xh:∀w∈q.2.2.2,me z w->w.1≠(st.s.e 0).x
  ·exact a1.old q hq Xh
  ·have⟨w,hw⟩:=Classical.not_forall.1 Xh;obtain⟨Xd,hw⟩:=Classical.not_imp.1 hw;obtain⟨hw2,hw⟩:=Classical.not_imp.1 hw;have hw3:w.1=(st.s.e 0).x:=Decidable.not_not.1 hw;obtain⟨b1,b2⟩:=in_bound hq.2 Xd hw2;rw[hw3]at b2;exact a2 q (ZaV.2 ⟨q.1,Zbj.2 ⟨hq.1,by simpa using b2⟩,Zak.2 ⟨q.2,b1,rfl⟩⟩)
 ·unfold py;rw[a1.bZ];have hlt:(st.s.e 0).x.toNat<st.bZ.length:=by rw[h.1.wf.lf];omega
  show(st.bZ.set _ true).count false<_;have mF:st.bZ[(st.s.e 0).x.toNat]=false:=by
   have:st.bZ.getD (st.s.e 0).x.toNat false=false:=k3;rw[List.getD,Zas hlt]at this;exact this
  rw[List.count_set hlt,mF];have:0<st.bZ.count false:=List.count_pos_iff.2 (mF▸Zbe hlt);simp;omega
end
end
section
variable{f:bq}
def k1(A:bB)(O:bq)(v:DV)(O':bq):bB->bq->fI:=λargs ab=>⟨args=A/\ab=O,v,O'⟩
@[simp] def k1_eq(A:bB)(O:bq)(v:DV)(O':bq)(args:bB)(ab:bq):k1 A O v O' args ab=⟨args=A/\ab=O,v,O'⟩:=rfl
def Hd{f:Nat}{A:bB}{O:bq}{v:DV}{O':bq}{l:List (Nat×DM.Spec)}(h:ay aj (bu l))(hc:∀N,(∀r,N<=r->O r=none)->aR aj f A O ⟨True,v,O'⟩)(hn:∀r,O r=none->O' r=none):
  ay aj (bu ((f,eS (k1 A O v O'))::l)):=
 ay.gS h (by
  rintro args ab ⟨rfl,rfl⟩;exact⟨λN hN=>aR.of (hc N hN) rfl rfl,hn⟩)
def rF{v:SV}{p:Nat}(h:v.at f p)(a:dn)(s:Qs):bH (bX f v a) v.k.q ((v.to a).qv p) s=bX f v ⟨a.ak,a.bZ,a.fl,s⟩:=by
 obtain⟨nV,nW,nX,uP,nw,uQ,PZ,qc,pq,qd,zi,qe,zj,P0,pu,nY,qf,zk,qg,zl,P3,qh,nZ,oa,zm,qi,zn,P4,zo,tH,tJ,tK,xo,PD,nqa,qj,mo,mq,mr,vS,xp,P5,zp,tM,tN,tO,NM,vT,nma,P6,Nb,Nc,Nd,naq,Nf,nam⟩:=h.ne;funext k;simp only[bH,bX,SV.qv,aP,cm,qK,rU,rV];by_cases h1:k=v.k.q
 ·subst h1;simp[tH,tJ,tK]
 ·by_cases h2:k=v.k.hp
  ·subst h2;simp[h1,mo,mq,mr]
  ·by_cases h3:k=v.k.m
   ·subst h3;simp[h1,h2,tM,tN,tO]
   ·simp[h1,h2,h3]
def JE(f:bq)(r:Nat)(o:Ob):cG f (some (r,o))=aM [(r,o)] f:=rfl
def pD{v:SV}{g:bq}{s:dn}(h1:g v.k.rb=some (qK s))(h2:g v.k.rf=some (rU s))(h3:g v.k.rh=some (rV s))(h4:g v.k.q=some (qB v.k.a v.k.hp v.k.m s.s))(h5:g v.k.hp=some (hB s.s))(h6:g v.k.m=some (mB s.s))
  (h7:∀k,k≠v.k.rb->k≠v.k.rf->k≠v.k.rh->k≠v.k.q->k≠v.k.hp->k≠v.k.m->g k=f k):g=bX f v s:=by
 funext k;simp only[bX,aP,cm];repeat' split
 all_goals first|(rename_i e;rw[e];assumption)|(apply h7<;>assumption)
def Fz{v:SV}{p:Nat}(h:v.at f p)(s:dn)(B:bR):aM [(v.k.rb,.arr 0 63 2 (bC B))] (bX f v s)=bX f v ⟨B,s.bZ,s.fl,s.s⟩:=by
 obtain⟨nV,nW,nX,uP,nw,uQ,PZ,qc,pq,qd,zi,qe,zj,P0,pu,nY,qf,zk,qg,zl,P3,qh,nZ,oa,zm,qi,zn,P4,zo,tH,tJ,tK,xo,PD,nqa,qj,mo,mq,mr,vS,xp,P5,zp,tM,tN,tO,NM,vT,nma,P6,Nb,Nc,Nd,naq,Nf,nam⟩:=h.ne;refine pD ?_ ?_ ?_ ?_ ?_ ?_ λk a1 a2 a3 a4 a5 a6=>?_<;>simp[bX, *]<;>rfl
def JC{v:SV}{p:Nat}(h:v.at f p)(s:dn)(B:List Bool):aM [(v.k.rf,.arr 0 4 1 (g8 B))] (bX f v s)=bX f v ⟨s.ak,B,s.fl,s.s⟩:=by
 obtain⟨nV,nW,nX,uP,nw,uQ,PZ,qc,pq,qd,zi,qe,zj,P0,pu,nY,qf,zk,qg,zl,P3,qh,nZ,oa,zm,qi,zn,P4,zo,tH,tJ,tK,xo,PD,nqa,qj,mo,mq,mr,vS,xp,P5,zp,tM,tN,tO,NM,vT,nma,P6,Nb,Nc,Nd,naq,Nf,nam⟩:=h.ne;refine pD ?_ ?_ ?_ ?_ ?_ ?_ λk a1 a2 a3 a4 a5 a6=>?_<;>simp[bX, *]<;>rfl
def JD{v:SV}{p:Nat}(h:v.at f p)(s:dn)(B:bO):aM [(v.k.rh,.arr 0 3 1 (aG B))] (bX f v s)=bX f v ⟨s.ak,s.bZ,B,s.s⟩:=by
 obtain⟨nV,nW,nX,uP,nw,uQ,PZ,qc,pq,qd,zi,qe,zj,P0,pu,nY,qf,zk,qg,zl,P3,qh,nZ,oa,zm,qi,zn,P4,zo,tH,tJ,tK,xo,PD,nqa,qj,mo,mq,mr,vS,xp,P5,zp,tM,tN,tO,NM,vT,nma,P6,Nb,Nc,Nd,naq,Nf,nam⟩:=h.ne;refine pD ?_ ?_ ?_ ?_ ?_ ?_ λk a1 a2 a3 a4 a5 a6=>?_<;>simp[bX, *]<;>rfl
def FX(a b c d N:Nat)(n:Nat):Nat:=if n=0 then a else if n=1 then b else if n=2 then c else if n=3 then d else N+n
def Qg{a b c d N:Nat}(h1:a<N)(h2:b<N)(h3:c<N)(h4:d<N)(n1:a≠b)(n2:a≠c)(n3:a≠d)(n4:b≠c)(n5:b≠d)(n6:c≠d)(x y:Nat)(e:FX a b c d N x=FX a b c d N y):x=y:=by
 unfold FX at e;repeat' split at e
 all_goals omega
def cE{l:bO}{y:Nat}(h:y<l.length):DM.rowAt (aG l) y=[ti (l.getD y default)]:=by simp[DM.rowAt,aG,h]
def t60{f0:bq}{p N:Nat}{h:Int}{x:c8}{v:SV}(hN:∀r,N<=r->f0 r=none)(hv:v.at f0 p)(ho:qb v.s h x):
  aR aj 88 [.ptr p 0,.v (ti h),.v (.agg [ti x.aH,ti x.size])] f0 ⟨True,.v (.eo []),bX f0 v (fG v.s h x)⟩:=by
 obtain⟨⟨Ow,HS⟩,Xj,Bl,hxo,cR⟩:=ho;obtain⟨y,rfl⟩:=Zae Ow;have hy:y<v.s.ak.length:=by omega
 obtain⟨xc,xs⟩:=x;obtain⟨R,hR⟩:=bb (fG v.s y ⟨xc,xs⟩);rw[hR];unfold fG at hR;have aC:=ok56 (ok81 (ok82 ay.nil));refine c60.pQ hN (by simp) λaT=>?_;obtain⟨nV,nW,nX,uP,nw,uQ,PZ,qc,pq,qd,zi,qe,zj,P0,pu,nY,qf,zk,qg,zl,P3,qh,nZ,oa,zm,qi,zn,P4,zo,tH,tJ,tK,xo,PD,nqa,qj,mo,mq,mr,vS,xp,P5,zp,tM,tN,tO,NM,vT,nma,P6,Nb,Nc,Nd,naq,Nf,nam⟩:=hv.ne;have h1:=hv.sp;have h2:=hv.rb;have h3:=hv.rf;have h4:=hv.rh;have nu:p<N:=(aT p _ h1).1;have UN:v.k.rb<N:=(aT _ _ h2).1;have hfN:v.k.rf<N:=(aT _ _ h3).1;have hhN:v.k.rh<N:=(aT _ _ h4).1;have NK:v.k.q<N:=(aT _ _ hv.q).1;have hpqN:v.k.hp<N:=(aT _ _ hv.hp).1;have BS:v.k.m<N:=(aT _ _ hv.m).1;simp only[ma,qK,rU,rV]at h1 h2 h3 h4;have rr1:=dd hy;have rr2:=jG (show y<v.s.bZ.length by omega);have rr3:=cE (show y<v.s.fl.length by omega);obtain⟨⟨bc,bs⟩,hbe⟩:=bb (v.s.ak.getD y default);obtain⟨fb,MC⟩:=bb (v.s.bZ.getD y false);obtain⟨hd,hhd⟩:=bb (v.s.fl.getD y 0);rw[hbe]at rr1;rw[show(default:Bool)=false from rfl,MC]at rr2;rw[show(default:Int)=0 from rfl,hhd]at rr3;have JG:bv v.s.ak y=⟨bc,bs⟩:=hbe;simp only[Zag,MC,hhd,JG]at hR cR;have lq:y<v.s.bZ.length:=by omega
 have fJ:y<v.s.fl.length:=by omega
 simp;apply aa.ag aC fw [0,1,5];simp[Lh];refine aa.le (kO (l:=[(0,.ptr p 0),(1,.v (ti y)),(5,.v (.box [ti xc,ti xs]))]) (ba:=N+500) aT (by omega) (by simp;omega) ?_) ?_
 ·have np:∀k,p≠N+k:=λk=>by omega
  simp[Nat.add_assoc,hv.sp];exact bL (l:=[]) aT (by omega) (by simp)
 apply aa.seq;obtain⟨c1,bU⟩:=bb (decide (fb=true\/xc>=1099511627776\/¬(⟨xc,xs⟩:c8).lt ⟨bc,bs⟩):Bool);refine aa.cz aC fw [(0,.ptr p 0),(1,.v (ti y)),(5,.v (.box [ti xc,ti xs])),(29,.v (.bool c1))] ?_ ?_
 ·cases fb with
  |true=>
   have:c1=true:=by rw[<-bU];simp
   simp[BM,h1,h3,lq,rr2,this]
  |false=>
   by_cases q2:xc>=1099511627776
   ·have:c1=true:=by rw[<-bU];simp[q2]
    simp[BM,h1,h3,lq,rr2,q2,this]
   ·by_cases q3:(⟨xc,xs⟩:c8).lt ⟨bc,bs⟩
    ·have:c1=false:=by rw[<-bU];simp[q2,q3]
     simp[BM,h1,h2,h3,hy,lq,rr1,rr2,q2,q3,this]
    ·have:c1=true:=by rw[<-bU];simp[q3]
     simp[BM,h1,h2,h3,hy,lq,rr1,rr2,q2,q3,this]
 refine aa.cond rfl (λg=>?_) (λg=>?_)
 ·have g:c1=true:=by simpa using g
  subst g;rw[Zai (Zat bU)]at hR;rw[<-hR,eH hv];apply aa.ret;simp[wU];rfl
 ·have g:c1=false:=by simpa using g
  subst g;have hc:=Zay bU;rw[Zab hc]at hR;have cR:=cR hc;apply aa.skip;simp;obtain⟨B,hB⟩:=bb (v.s.ak.set y ⟨xc,xs⟩);have hBT:bC B=(bC v.s.ak).set y [ti xc,ti xs]:=by rw[<-hB];simp[bC,Zcd]
  rw[hB]at hR cR;have hrow:∀w,DM.rowAt ((bC v.s.ak).set y w) (y:Int)=w:=λw=>by simp[DM.rowAt,hy]
  apply aa.ag aC fw [0,1];simp[Li,h1,h2,hy,rr1];have e1:=Fz hv v.s B;rw[eH hv,hBT]at e1;rw[e1];have mQ:=kH hv ⟨B,v.s.bZ,v.s.fl,v.s.s⟩;obtain⟨G,hG⟩:=bb (bX f0 v ⟨B,v.s.bZ,v.s.fl,v.s.s⟩);have j1:=mQ.sp;have j4:=mQ.rh;have k81:=λa b=>k81_eq (hd:=a) (x:=b) mQ.qv;have k82:=λa=>k82_eq (x:=a) mQ.qv;have eq:=λs=>rF hv ⟨B,v.s.bZ,v.s.fl,v.s.s⟩ s;rw[hG]at j1 j4 k81 k82 eq⊢;simp only[ma,rV,SV.qv]at j1 j4 k81 k82 eq;apply aa.ag aC fw [0,1,44];simp[Lj,j1,j4,fJ,rr3];refine aa.cond rfl (λg=>?_) (λg=>?_)
  ·have g:0<=hd:=by simpa using g
   rw[Zai g]at hR cR;refine aa.pe aC fw (rs:=eR ZO []) (.inr ⟨_,rfl⟩) (by kernel_rfl) [] ?_;simp[ZO,eR,j1,j4,fJ,rr3,k81,cR,eq,wU,hR]
  ·have g:¬0<=hd:=by simpa using g
   rw[Zab g]at hR cR;have hkn:∀s',GL [v.k.q,v.k.hp,v.k.m] G (bX f0 v ⟨B,v.s.bZ,v.s.fl,s'⟩):=by
    intro s' n hn;simp only[Zah,Zal,or_false,not_or]at hn;rw[<-eq s'];simp[bH,hn]
   obtain⟨S',hS'⟩:=bb (gX B v.s.s y);rw[hS']at hR;have e2:=JD hv ⟨B,v.s.bZ,v.s.fl,S'⟩ (v.s.fl.set y v.s.s.next);have hHT:aG (v.s.fl.set y v.s.s.next)=(aG v.s.fl).set y [ti v.s.s.next]:=by simp[aG,Zcd]
   rw[hHT]at e2;have hv3:=(kH hv ⟨B,v.s.bZ,v.s.fl,S'⟩).rh;simp only[rV]at hv3;refine aa.pe aC fw (rs:=c5 (FX p v.k.q v.k.hp v.k.m N) (eR ZP [none,none,none,some [0],none,none,none,none,none,none,some [1,2,3],none,none])) (.inr ⟨_,rfl⟩) ((dX (Qg nu NK hpqN BS uP nw uQ xo PD xp) _ _ _).trans (by kernel_rfl)) [] ?_;simp[ZP,eR,c5,fk,FX,cP,bG,aN,j1,fJ,rr3,k82,cR,eq,wU,hS',hkn,hv3,JE,e2,hR]
end
section
variable{fn:Nat}{bY:bB}
def j9(l:List It):DV:=if l=[]then .aW else .v (.sl (mb l))
def FY(D:DV)(r:di):Prop:=mO D/\cellsOf D=[.v (ti r.kind),.v (ti r.head),.v (ti r.a),.v (ti r.b),.v (ti r.cq),.v (ti r.origin)]
def Qh(r:di):FY (.agg [.v (ti r.kind),.v (ti r.head),.v (ti r.a),.v (ti r.b),.v (ti r.cq),.v (ti r.origin)]) r:=⟨trivial,rfl⟩
def ruleD2(r:di):FY (.v (.agg r.enc)) r:=⟨trivial,rfl⟩
structure zL(fn:Nat)(bY:bB)(L:List gf)(F:Nat->bq)(B:Nat->Bool)(m:Nat):Prop where
 call:∀j i,L[j]? =some i->j<m->∀N,(∀r,N<=r->F j r=none)->aR aj fn ([.v (ti i.1),.v (ti i.2.1),j9 i.2.2]++bY) (F j) ⟨True,.v (.bool (B j)),F (j+1)⟩
 none:∀j r,j<m->F j r=none->F (j+1) r=none
 go:∀j,j+1<m->B j=true
 stop:m=L.length\/(0<m/\m<=L.length/\B (m-1)=false)
def zL.le{L:List gf}{F:Nat->bq}{B:Nat->Bool}{m:Nat}(h:zL fn bY L F B m):m<=L.length:=by
 rcases h.stop with h|h<;>omega
def zL.next{L:List gf}{F:Nat->bq}{B:Nat->Bool}{m j:Nat}(h:zL fn bY L F B m)(hb:∀k,k<j->B k=true)(hj:j<L.length):j<m:=by
 rcases h.stop with h1|⟨h1,h2,h3⟩
 ·omega
 ·rcases Zc5 j m with h4|h4
  ·exact h4
  ·have:=hb (m-1) (by omega);rw[h3]at this;cases this
def zL.end{L:List gf}{F:Nat->bq}{B:Nat->Bool}{m j:Nat}(h:zL fn bY L F B m)(hj:j<m)(hb:B j=false):m=j+1:=by
 rcases Zc5 (j+1) m with h1|h1
 ·have:=h.go j h1;rw[hb]at this;cases this
 ·omega
def zL.env{L:List gf}{F:Nat->bq}{B:Nat->Bool}{m j:Nat}{i:gf}(h:zL fn bY L F B m)(hi:L[j]? =some i)(hj:j<m):
  ay aj (bu [(fn,eS (k1 ([.v (ti i.1),.v (ti i.2.1),j9 i.2.2]++bY) (F j) (.v (.bool (B j))) (F (j+1))))]):=
 Hd ay.nil (λN hN=>h.call j i hi hj N hN) (λr hr=>h.none j r hj hr)
structure Seen(z:eY)(p N:Nat)(k:NN)(F:Nat->bq)(m:Nat):Prop where
 wW:∀j,j<=m->∃s:dn,(⟨k,z,s⟩:SV).at (F j) p
 cl:∀j,j<=m->dh (F j) N
def Seen.sp{z:eY}{p N m j:Nat}{k:NN}{F:Nat->bq}(h:Seen z p N k F m)(hj:j<=m):F j p=some (.box (ma k z)):=by
 obtain⟨s,hs⟩:=h.wW j hj;exact hs.sp
end
end cC
end Go.Proofs
