/- Part of the proof. Conditions: none. -/
import Derived.Test.YtljcdomdjgolkaaGreatDoorXaf
import Derived.Test.YtljcdomdjgolkaaGreatDoorXae
import Derived.Test.YtljcdomdjgolkaaGreatDoorXac
import Derived.KernelRfl
set_option linter.unusedSectionVars false
set_option linter.unusedSimpArgs false
set_option linter.unusedVariables false
set_option maxRecDepth 100000
namespace Go.Proofs
open Go.DM
theorem se{x:Input}{k:Int}(h:mw x k):H2 x/\x.aj.length<=60/\x.insert.length<=5/\(∀c∈x.aj,c.read.length=x.insert.length):=by
 obtain⟨⟨h1,h2⟩,h3,h4⟩:=h;have P7:nj x.aj x.insert.length:=by
  by_cases e:nj x.aj x.insert.length
  ·exact e
  ·exact absurd (.inr (.inr (.inr (.inr (.inr e))))) h3
 have hc:∀c∈x.aj,y9 c x.insert.length:=by
  intro c hc;obtain⟨i,hi,rfl⟩:=ZaZ hc;have:=P7 i hi
  rwa [show x.aj.getD i default=x.aj[i]by simp[List.getD,hi]]at this
 have zR:0<=x.swap/\x.swap<=60000:=by
  constructor
  ·by_cases e:x.swap<0
   ·exact absurd (.inr (.inr (.inr (.inl e)))) h3
   ·omega
  ·by_cases e:x.swap>60000
   ·exact absurd (.inr (.inr (.inr (.inr (.inl e))))) h3
   ·omega
 have hn:x.aj.length<=60:=by
  by_cases e:(x.aj.length:Int)>60
  ·exact absurd (.inr (.inl e)) h3
  ·omega
 have Wv:∀c∈x.aj,c.read.length=x.insert.length:=by
  intro c Ee;have:=(hc c Ee).1;omega
 refine⟨⟨⟨by omega,λc Ee=>?_⟩,λc Ee=>⟨by rw[Wv c Ee];omega,λp hp=>?_⟩,by omega,λp hp=>?_,zR.1,by omega⟩,hn,by omega,Wv⟩
 ·have:=(hc c Ee).1;omega
 ·obtain⟨t,ht,rfl⟩:=ZaZ hp;have:=(hc c Ee).2 t (by rw[Wv c Ee]at ht;simpa using ht);unfold nD at this;rw[show c.read.getD t default=c.read[t]by simp[List.getD,ht]]at this;omega
 ·obtain⟨t,ht,rfl⟩:=ZaZ hp;have:=h4 t (by simpa using ht);unfold D5 at this;rw[show x.insert.getD t default=x.insert[t]by simp[List.getD,ht]]at this;omega
theorem yO{a b:bn}{l:List bn}(h:b∈(eW a l).2):b∈l\/b=a:=by
 have key:∀(l:List bn) (p:Bool×List bn),b∈(l.foldl (dp a) p).2->b∈p.2\/b∈l\/b=a:=by
  intro l;induction l with
  |nil=>intro p h;exact .inl h
  |cons c l ih=>
   intro p h;rcases ih _ h with h|h|h
   ·unfold dp at h;split at h
    ·simp only[Zao,Zah]at h;rcases h with h|h
     ·exact .inl h
     ·split at h
      ·exact .inr (.inr h)
      ·exact .inr (.inl (by simp[h]))
    ·split at h
     ·simp only[Zao,Zah]at h;rcases h with(h|h)|h
      ·exact .inl h
      ·exact .inr (.inr h)
      ·exact .inr (.inl (by simp[h]))
     ·simp only[Zao,Zah]at h;rcases h with h|h
      ·exact .inl h
      ·exact .inr (.inl (by simp[h]))
   ·exact .inr (.inl (by simp[h]))
   ·exact .inr (.inr h)
 rcases key l (false,[]) h with h|h|h
 ·simp at h
 ·exact .inl h
 ·exact .inr h
theorem Vt{a b:bn}{l:List bn}(h:b∈oZ l a):b∈l\/b=a:=by
 unfold oZ at h;split at h
 ·exact .inl h
 ·split at h
  ·exact yO h
  ·rw[Zao,Zah]at h;rcases h with h|h
   ·exact yO h
   ·exact .inr h
theorem uo{b:bn}:∀(cs l:List bn),b∈bl l cs->b∈l\/b∈cs
 |[],l,h=>.inl h
 |c::cs,l,h=>by
  rcases uo cs (oZ l c) h with h|h
  ·rcases Vt h with h|h
   ·exact .inl h
   ·exact .inr (by simp[h])
  ·exact .inr (by simp[h])
theorem dz{α:Type}{f:Nat->List α}{i m:Nat}{a:α}(h:a∈ft f i m):∃k,i<=k/\k<m/\a∈f k:=by
 unfold ft at h;obtain⟨e,he,ha⟩:=ZaV.1 h;rw[ZaQ]at he;exact⟨i+e,by omega,by omega,ha⟩
def X1(n:Nat)(a:bn):Prop:=0<=a.f/\a.f<(2*n+1:Nat)/\0<=a.t/\a.t<(2*n+1:Nat)/\a.ops.length<=1000000/\0<=a.cost
theorem BF(n:Nat):(dd n).length=n:=by simp[dd]
theorem E8{x:Input}(hx:H2 x)(hn:x.aj.length<=60):∀a∈dS x,X1 x.aj.length a:=by
 obtain⟨hd,mE,hins,Vc,hsw0,zR⟩:=hx;have YK:=eF hd;intro a ha;unfold dS at ha;rcases uo _ _ ha with ha|ha
 ·rcases uo _ _ ha with ha|ha
  ·cases ha
  ·obtain⟨i,_,hi,ha⟩:=dz ha;unfold rI at ha;rcases Zao.1 ha with ha|ha
   ·obtain⟨m,wA,Eg,ha⟩:=dz ha;unfold rM at ha;rcases Zao.1 ha with ha|ha
    ·obtain⟨t,_,ht,ha⟩:=dz ha;unfold rA at ha;split at ha
     ·rename_i hc;rw[Zah]at ha;subst ha;have:=uN (YK i m).1 hc.2;refine⟨by simp only;omega,by simp only;omega,by simp only;omega,by simp only;omega,by simp[BF];omega,this⟩
     ·cases ha
    ·unfold rS at ha;split at ha
     ·rename_i hc;have Ah:m+1<x.aj.length:=by simp[bX]at hc;exact hc.1
      rw[Zah]at ha;subst ha;have:=uN (YK i m).1 hsw0;refine⟨by simp only;omega,by simp only;omega,by simp only;omega,by simp only;omega,by simp[BF];omega,this⟩
     ·cases ha
   ·unfold rT at ha;split at ha
    ·rename_i hc;have Ah:i+1<x.aj.length:=by simp[bX]at hc;exact hc.1
     rw[Zah]at ha;subst ha;refine⟨by simp only;omega,by simp only;omega,by simp only;omega,by simp only;omega,by simp,by simp⟩
    ·cases ha
 ·obtain⟨i,_,hi,ha⟩:=dz ha;unfold iI at ha;obtain⟨m,wA,Eg,ha⟩:=dz ha;unfold iM at ha;obtain⟨t,_,ht,ha⟩:=dz ha;unfold iT at ha;rw[Zah]at ha;subst ha;have:=uN (YK i m).1 (Vc (x.insert.getD t default) (by simp[List.getD,ht])).1;refine⟨by simp only;omega,by simp only;omega,by simp only;omega,by simp only;omega,by simp[BF];omega,this⟩
theorem Jy(x:Input)(k:Nat):(dU x k).length=2*x.aj.length+1:=by simp[dU]
theorem x8{x:Input}(ht:x.insert.length<=100)(hn:x.aj.length<=60):(dS x).length<=900000:=by
 unfold dS;have h1:=iv (ft (iI x) 0 (x.aj.length+1)) (bl [] (ft (rI x) 0 (x.aj.length+1)));have h2:=iv (ft (rI x) 0 (x.aj.length+1)) [];have h3:=lN (f:=iI x) (B:=7000) (λk=>Vr x k ht hn) 0 (x.aj.length+1);have h4:=lN (f:=rI x) (B:=7000) (λk=>Vp x k ht hn) 0 (x.aj.length+1);simp at h2;omega
end Go.Proofs
namespace Go.Proofs
open Go.DM Go.DM.NS
theorem sameKey_iff{a b:bn}:sameKey a b=true↔a.f=b.f/\a.t=b.t/\a.term=b.term:=by simp[sameKey]
theorem DY(a:bn):sameKey a a=true:=by simp[sameKey]
theorem jN(a b:bn):sameKey a b=sameKey b a:=by
 simp only[sameKey,decide_eq_decide];omega
theorem oY{a b:bn}(h:sameKey a b=true)(k:bn):sameKey k a=sameKey k b:=by
 rw[sameKey_iff]at h;simp only[sameKey,decide_eq_decide];omega
theorem before_irrefl(a:bn):¬before a a:=by unfold before;omega
theorem before_trans{a b c:bn}(h:before a b)(h2:before b c):before a c:=by unfold before at*;omega
theorem DZ{a b:bn}(h:before a b):¬before b a:=by unfold before at*;omega
theorem zK{a b:bn}(h:before a b):sameKey a b=false:=by
 cases e:sameKey a b with
 |false=>rfl
 |true=>rw[sameKey_iff]at e;unfold before at h;omega
theorem zL{a b:bn}(h1:sameKey a b=false)(h2:¬before a b):before b a:=by
 have:¬(a.f=b.f/\a.t=b.t/\a.term=b.term):=λe=>by rw[sameKey_iff.2 e]at h1;cases h1
 unfold before at*;omega
theorem F8{a b c:bn}(h:sameKey a b=true)(h2:before a c):before b c:=by
 rw[sameKey_iff]at h;unfold before at*;omega
def fN(k:bn)(o:Option bn)(a:bn):Option bn:=
 if a.cost<1099511627776/\sameKey k a=true then
  match o with
  |none=>some a
  |some b=>if a.cost<b.cost then some a else some b
 else o
def Js(a:bn):List bn->List bn
 |[]=>[a]
 |b::l=>if sameKey a b=true then(if a.cost<b.cost then a else b)::l else b::Js a l
theorem WN{a:bn}(h:a.cost<1099511627776)(al:List bn):tC al a=Js a al:=by
 unfold tC;rw[if_pos h];induction al with
 |nil=>simp[Js]
 |cons b l ih=>
  rw[Za4];unfold Js;cases e:sameKey a b with
  |true=>simp;split<;>rfl
  |false=>
   simp;rw[<-ih];cases hf:l.findIdx? (sameKey a)with
   |none=>simp
   |some i=>simp;split<;>rfl
theorem CF(k a:bn):∀l:List bn,(Js a l).find? (sameKey k)=if sameKey k a=true then(match l.find? (sameKey k)with|none=>some a|some b=>if a.cost<b.cost then some a else some b)else l.find? (sameKey k)
 |[]=>by unfold Js;rw[ZaN];cases sameKey k a<;>simp
 |b::l=>by
  unfold Js;split
  ·rename_i e;have h1:=oY e k;have h2:sameKey k (if a.cost<b.cost then a else b)=sameKey k b:=by split<;>simp[h1]
   rw[ZaN,ZaN,h2,h1];cases h3:sameKey k b with
   |true=>simp;split<;>rfl
   |false=>simp
  ·rename_i e;rw[ZaN,ZaN];cases h3:sameKey k b with
   |true=>
    have:sameKey k a=false:=by
     cases h4:sameKey k a with
     |false=>rfl
     |true=>
      exfalso;apply e;rw[sameKey_iff]at h3 h4⊢;omega
    simp[this]
   |false=>simp only[];exact CF k a l
theorem F9(k:bn)(cs:List bn):∀al:List bn,(bS al cs).find? (sameKey k)=cs.foldl (fN k) (al.find? (sameKey k)):=by
 induction cs with
 |nil=>intro al;rfl
 |cons c cs ih=>
  intro al;show(bS (tC al c) cs).find? (sameKey k)=_;rw[ih,ZaB]
  congr 1
  by_cases hc:c.cost<1099511627776
  ·rw[WN hc,CF];unfold fN;simp[hc]
  ·unfold tC fN;rw[if_neg hc,if_neg (λe=>hc e.1)]
def uJ(a:bn):List bn->List bn
 |[]=>[a]
 |b::l=>if sameKey b a=true then(if a.cost<b.cost then a else b)::l else if before a b then a::b::l else b::uJ a l
theorem uK(a:bn)(l acc:List bn):l.foldl (dp a) (true,acc)=(true,acc++l):=by
 induction l generalizing acc with
 |nil=>simp
 |cons b l ih=>simp only[ZaB,dp];simp[ih]
def D1(a:bn)(p:Bool×List bn):List bn:=if p.1=true then p.2 else p.2++[a]
theorem xY(a:bn):∀(l acc:List bn),D1 a (l.foldl (dp a) (false,acc))=acc++uJ a l
 |[],acc=>by simp[uJ,D1]
 |b::l,acc=>by
  rw[ZaB];unfold uJ;by_cases h1:sameKey b a=true
  ·have:dp a (false,acc) b=(true,acc++[if a.cost<b.cost then a else b]):=by simp[dp,h1]
   rw[this,uK];simp[h1,D1]
  ·by_cases h2:before a b
   ·have:dp a (false,acc) b=(true,acc++[a]++[b]):=by simp[dp,h1,h2]
    rw[this,uK];simp[h1,h2,D1]
   ·have:dp a (false,acc) b=(false,acc++[b]):=by simp[dp,h1,h2]
    rw[this,xY a l];simp[h1,h2]
theorem Mk{a:bn}(h:a.cost<1099511627776)(l:List bn):oZ l a=uJ a l:=by
 unfold oZ;rw[if_neg (by omega)];have:=xY a l [];simp only[ZaK]at this;exact this
theorem Ga{a c:bn}:∀{l:List bn},c∈uJ a l->c=a\/c∈l
 |[],h=>by simp[uJ]at h;exact .inl h
 |b::l,h=>by
  unfold uJ at h;split at h
  ·rcases Zag.1 h with h|h
   ·split at h
    ·exact .inl h
    ·exact .inr (by simp[h])
   ·exact .inr (by simp[h])
  ·split at h
   ·rcases Zag.1 h with h|h
    ·exact .inl h
    ·exact .inr h
   ·rcases Zag.1 h with h|h
    ·exact .inr (by simp[h])
    ·rcases Ga h with h|h
     ·exact .inl h
     ·exact .inr (by simp[h])
theorem xZ{a:bn}:∀{l:List bn},l.Pairwise before->(uJ a l).Pairwise before
 |[],_=>by simp[uJ]
 |b::l,h=>by
  rw[ZaL]at h;unfold uJ;split
  ·rename_i e;rw[ZaL];refine⟨λc hc=>?_,h.2⟩;split
   ·exact F8 e (h.1 c hc)
   ·exact h.1 c hc
  ·rename_i e;split
   ·rename_i e2;rw[ZaL];refine⟨λc hc=>?_,ZaL.2 h⟩;rcases Zag.1 hc with rfl|hc
    ·exact e2
    ·exact before_trans e2 (h.1 c hc)
   ·rename_i e2;rw[ZaL];refine⟨λc hc=>?_,xZ h.2⟩;rcases Ga hc with rfl|hc
    ·exact zL (by rw[jN];simpa using e) e2
    ·exact h.1 c hc
theorem CG(k a:bn):∀l:List bn,l.Pairwise before->(uJ a l).find? (sameKey k)=if sameKey k a=true then(match l.find? (sameKey k)with|none=>some a|some b=>if a.cost<b.cost then some a else some b)else l.find? (sameKey k)
 |[],_=>by unfold uJ;rw[ZaN];cases sameKey k a<;>simp
 |b::l,h=>by
  rw[ZaL]at h;unfold uJ;split
  ·rename_i e;rw[jN]at e;have h1:=oY e k;have h2:sameKey k (if a.cost<b.cost then a else b)=sameKey k b:=by split<;>simp[h1]
   rw[ZaN,ZaN,h2,h1];cases h3:sameKey k b with
   |true=>simp;split<;>rfl
   |false=>simp
  ·rename_i e;split
   ·rename_i e2;rw[ZaN];cases h3:sameKey k a with
    |true=>
     have:(b::l).find? (sameKey k)=none:=by
      rw[Zcy];intro c hc hk;have hb:before a c:=by
       rcases Zag.1 hc with rfl|hc
       ·exact e2
       ·exact before_trans e2 (h.1 c hc)
      have:=zK hb;rw[sameKey_iff]at h3 hk;rw[sameKey_iff.2 (by omega)]at this;cases this
     rw[this];rfl
    |false=>rfl
   ·rename_i e2;rw[ZaN,ZaN];cases h3:sameKey k b with
    |true=>
     have:sameKey k a=false:=by
      cases h4:sameKey k a with
      |false=>rfl
      |true=>
       exfalso;apply e;rw[sameKey_iff]at h3 h4⊢;omega
     simp[this]
    |false=>simp only[];exact CG k a l h.2
theorem x5{l:List bn}(h:l.Pairwise before)(a:bn):(oZ l a).Pairwise before:=by
 by_cases hc:a.cost<1099511627776
 ·rw[Mk hc];exact xZ h
 ·unfold oZ;rw[if_pos (by omega)];exact h
theorem ta(cs:List bn):∀{al:List bn},al.Pairwise before->(bl al cs).Pairwise before:=by
 induction cs with
 |nil=>intro al h;exact h
 |cons c cs ih=>intro al h;exact ih (x5 h c)
theorem qz(k:bn)(cs:List bn):∀{al:List bn},al.Pairwise before->(bl al cs).find? (sameKey k)=cs.foldl (fN k) (al.find? (sameKey k)):=by
 induction cs with
 |nil=>intro al h;rfl
 |cons c cs ih=>
  intro al h;show(bl (oZ al c) cs).find? (sameKey k)=_;rw[ih (x5 h c),ZaB]
  congr 1
  by_cases hc:c.cost<1099511627776
  ·rw[Mk hc,CG k c al h];unfold fN;simp[hc]
  ·unfold oZ fN;rw[if_pos (by omega),if_neg (λe=>hc e.1)]
theorem mu:∀{l:List bn},l.Pairwise (λa b=>sameKey a b=false)->∀a,a∈l↔l.find? (sameKey a)=some a
 |[],_,a=>by simp
 |b::l,h,a=>by
  rw[ZaL]at h;rw[ZaN,Zag];cases e:sameKey a b with
  |true=>
   simp only[Zaa];constructor
   ·rintro(h2|h2)
    ·exact h2.symm
    ·have:=h.1 a h2;rw[jN,e]at this;cases this
   ·exact λh2=>.inl h2.symm
  |false=>
   rw[<-mu h.2 a];constructor
   ·rintro(h2|h2)
    ·subst h2;rw[DY]at e;cases e
    ·exact h2
   ·exact .inr
theorem zM:∀{l1 l2:List bn},l1.Pairwise before->l2.Pairwise before->(∀a,a∈l1↔a∈l2)->l1=l2
 |[],[],_,_,_=>rfl
 |[],b::t,_,_,h=>absurd ((h b).2 (by simp)) (by simp)
 |a::t,[],_,_,h=>absurd ((h a).1 (by simp)) (by simp)
 |a::t1,b::t2,h1,h2,h=>by
  rw[ZaL]at h1 h2;have e:a=b:=by
   have ha:=(h a).1 (by simp);have hb:=(h b).2 (by simp);rcases Zag.1 ha with ha|ha
   ·exact ha
   ·rcases Zag.1 hb with hb|hb
    ·exact hb.symm
    ·exact absurd (h1.1 b hb) (DZ (h2.1 a ha))
  subst e
  congr 1
  refine zM h1.2 h2.2 λx=>?_;constructor
  ·intro hx;rcases Zag.1 ((h x).1 (by simp[hx]))with e|e
   ·subst e;exact absurd (h1.1 x hx) (before_irrefl x)
   ·exact e
  ·intro hx;rcases Zag.1 ((h x).2 (by simp[hx]))with e|e
   ·subst e;exact absurd (h2.1 x hx) (before_irrefl x)
   ·exact e
theorem qA{l:List bn}(h:l.Pairwise before):l.Pairwise (λa b=>sameKey a b=false):=h.imp zK
theorem nodup_keys{l:List bn}(h:(l.map bV).Nodup):l.Pairwise (λa b=>sameKey a b=false):=by
 unfold List.Nodup at h;rw[Zci]at h;refine h.imp λ{a b} YF=>?_;cases e:sameKey a b with
 |false=>rfl
 |true=>exact absurd (o5.2 e) YF
theorem CH{α:Type}(lt:α->α->Bool)(x:α):∀l:List α,(oi lt x l).Perm (x::l)
 |[]=>ZcR _
 |y::ys=>by
  simp only[oi];split
  ·exact((CH lt x ys).cons y).trans (List.Perm.swap x y ys)
  ·exact ZcR _
theorem Gb{α:Type}(lt:α->α->Bool)(l:List α):(jc lt l).Perm l:=by
 have key:∀(l acc:List α),(l.foldl (λacc x=>oi lt x acc) acc).Perm (l++acc):=by
  intro l;induction l with
  |nil=>intro acc;exact ZcR _
  |cons x l ih=>
   intro acc;rw[ZaB];refine(ih _).trans ?_;refine((CH lt x acc).append_left l).trans ?_;exact List.perm_middle
 unfold jc zN;refine(List.reverse_perm _).trans ?_;simpa using key l []
theorem tD{al:List bn}(h:(al.map bV).Nodup){a:bn}(ha:a∈al):oj al (bV a)=a:=by
 have h1:=(sb ha).1;have h2:=(sb ha).2.1;have h3:=(mu (nodup_keys h) a).1 ha;have h4:=(mu (nodup_keys h) _).1 h2;have e:sameKey (oj al (bV a))=sameKey a:=by
  funext b;rw[jN _ b,jN _ b];exact(oY h1 b).symm
 rw[e,h3]at h4;exact(ZbK h4).symm
theorem D2{al:List bn}(h:(al.map bV).Nodup)(a:bn):a∈jd al↔a∈al:=by
 unfold jd;rw[Zal];constructor
 ·rintro⟨r,hr,rfl⟩;rw[sc]at hr;obtain⟨b,hb,rfl⟩:=Zal.1 hr;exact(sb hb).2.1
 ·intro ha;exact⟨bV a,by rw[sc];exact Zal.2 ⟨a,ha,rfl⟩,tD h ha⟩
theorem y8{al:List bn}(h:(al.map bV).Nodup):(jd al).Pairwise before:=by
 unfold jd;rw[Zci];have h1:(jc (wF dy) (al.map bV)).Nodup:=(Gb _ _).symm.nodup h;have h2:=o6 Gc (al.map bV);unfold tE at h2;unfold List.Nodup at h1;refine(h1.and h2).imp_of_mem λ{r s} hr hs jL=>?_;rw[sc]at hr hs;obtain⟨a,ha,rfl⟩:=Zal.1 hr;obtain⟨b,hb,rfl⟩:=Zal.1 hs;rw[tD h ha,tD h hb];have h3:sameKey a b=false:=by
  cases e:sameKey a b with
  |false=>rfl
  |true=>exact absurd (o5.2 e) jL.1
 by_cases kz:before a b
 ·exact kz
 ·exfalso;have h4:=zL h3 kz;have h5:=jL.2;rw[sd]at h5;apply h5;simp only[bV,je,cX,WO,List.getD_cons_zero,List.getD_cons_succ];exact h4
end Go.Proofs
namespace Go.Proofs
open Go.DM Go.DM.NS
def pK(k a:bn):Bool:=sameKey k a&&decide (a.cost<1099511627776)
theorem fold_filter(k:bn)(cs:List bn):∀o,cs.foldl (fN k) o=(cs.filter (pK k)).foldl (fN k) o:=by
 induction cs with
 |nil=>intro o;rfl
 |cons c cs ih=>
  intro o;rw[ZaB,Za8,ih];split
  ·rfl
  ·rename_i h
   congr 1
   unfold fN;rw[if_neg];rintro⟨h1,h2⟩;apply h;simp[pK,h1,h2]
theorem qC{α β:Type}(p:β->Bool)(f:α->List β)(l:List α):(l.flatMap f).filter p=l.flatMap λa=>(f a).filter p:=by
 induction l with
 |nil=>rfl
 |cons a l ih=>simp[Zbo,List.filter_append,ih]
theorem kF{p:bn->Bool}{f:Nat->List bn}{i:Nat}(k0:Nat)(h:∀k,k≠k0->(f k).filter p=[]):∀m,(ft f i m).filter p=if i<=k0/\k0<m then(f k0).filter p else []:=by
 intro m;by_cases him:m<=i
 ·rw[show ft f i m=[]by unfold ft;rw[show m-i=0 by omega];rfl,if_neg (by omega)];rfl
 obtain⟨d,rfl⟩:∃d,m=i+d:=⟨m-i,by omega⟩;clear him;induction d with
 |zero=>rw[ZbI,tF,if_neg (by omega)];rfl
 |succ d ih=>
  rw[<-Nat.add_assoc,o7 f (by omega),List.filter_append,ih];by_cases e:i+d=k0
  ·rw[if_neg (by omega),if_pos (by omega),e];rfl
  ·rw[h _ e];by_cases e2:i<=k0/\k0<i+d
   ·rw[if_pos e2,if_pos (by omega)];simp
   ·rw[if_neg e2,if_neg (by omega)];rfl
theorem filter_none{p:bn->Bool}{l:List bn}(h:∀a∈l,p a=false):l.filter p=[]:=by
 rw[List.filter_eq_nil_iff];intro a ha;simp[h a ha]
theorem jO{k a:bn}(h:¬(k.f=a.f/\k.t=a.t/\k.term=a.term)):pK k a=false:=by
 have:sameKey k a=false:=by
  cases e:sameKey k a with
  |false=>rfl
  |true=>exact absurd (sameKey_iff.1 e) h
 simp[pK,this]
theorem Jt{k:bn}{f t x c d:Int}{o:List (Int×Int)}(hc:0<=c)(hd:0<=d):[(⟨f,t,x,c+d,o⟩:bn)].filter (pK k)=[(⟨f,t,x,jJ c d,o⟩:bn)].filter (pK k):=by
 by_cases h:c+d<1099511627776
 ·have:jJ c d=c+d:=by unfold jJ;rw[if_neg (by omega)]
  rw[this]
 ·have:jJ c d=1099511627776:=by unfold jJ;rw[if_pos (by omega)]
  rw[this];have h1:pK k ⟨f,t,x,c+d,o⟩=false:=by simp[pK,h]
  have h2:pK k ⟨f,t,x,1099511627776,o⟩=false:=by simp[pK]
  simp[h1,h2]
theorem CI{read:List Int}{i m cost:Int}{ops:List (Int×Int)}{n:Nat}{a:bn}(h:a∈km read i m cost ops n):∃t:Nat,t<n/\0<=read.getD t 0/\a=⟨2*i,2*m+2,t,cost+read.getD t 0,ops++[(1,(t:Int))]⟩:=by
 unfold km at h;rw[ZaV]at h;obtain⟨t,ht,h⟩:=h;rw[ZaQ]at ht;split at h
 ·rw[Zah]at h;exact⟨t,ht,by assumption,h⟩
 ·simp at h
theorem P3{ins:List Int}{i m cost:Int}{ops:List (Int×Int)}{n:Nat}{a:bn}(h:a∈qD ins i m cost ops n):∃t:Nat,t<n/\a=⟨2*i,2*m,(t:Int),cost+ins.getD t 0,ops++[(3,(t:Int))]⟩:=by
 unfold qD at h;rw[Zal]at h;obtain⟨t,ht,h⟩:=h;rw[ZaQ]at ht;exact⟨t,ht,h.symm⟩
def zO(x:Input)(i m:Nat):List bn:=if bX x m then [⟨2*i,2*m+1,(x.aj.getD (m+1) default).kind,fY x i m+x.swap,dd (m-i)++[(4,0)]⟩]else []
theorem CJ{x:Input}{i m:Nat}{a:bn}(h:a∈zO x i m):bX x m=true/\a=⟨2*i,2*m+1,(x.aj.getD (m+1) default).kind,fY x i m+x.swap,dd (m-i)++[(4,0)]⟩:=by
 unfold zO at h;split at h
 ·exact⟨by assumption,by simpa using h⟩
 ·simp at h
theorem P4{x:Input}{i m:Nat}{a:bn}(h:a∈rS x i m):bX x m=true/\a.f=2*i/\a.t=2*m+1:=by
 unfold rS at h;split at h
 ·simp at h;subst h;exact⟨by assumption,rfl,rfl⟩
 ·simp at h
theorem zP{x:Input}{i:Nat}{a:bn}(h:a∈rT x i):bX x i=true/\a=⟨2*i+1,2*i+4,(x.aj.getD i default).kind,0,[]⟩:=by
 unfold rT at h;split at h
 ·exact⟨by assumption,by simpa using h⟩
 ·simp at h
theorem Ju{x:Input}{i m t:Nat}{a:bn}(h:a∈rA x i m t):m<x.aj.length/\a.f=2*i/\a.t=2*m+2/\a.term=t:=by
 unfold rA at h;split at h
 ·rename_i h2;simp at h;subst h;exact⟨h2.1,rfl,rfl,rfl⟩
 ·simp at h
theorem mem_iT{x:Input}{i m t:Nat}{a:bn}(h:a∈iT x i m t):a.f=2*i/\a.t=2*m/\a.term=t:=by
 simp[iT]at h;subst h;exact⟨rfl,rfl,rfl⟩
theorem Gd(x:Input)(i:Nat):qE x i=ft (pV x i) i (x.aj.length+1)++rT x i:=rfl
theorem NT{x:Input}{i m:Nat}{a:bn}(h:a∈pV x i m):(i<m/\a∈x6 x i (m-1))\/a∈qD x.insert i m (fY x i m) (dd (m-i)) x.insert.length\/a∈zO x i m:=by
 unfold pV at h;rw[Zao,Zao]at h;rcases h with h|h|h
 ·split at h
  ·exact .inl ⟨by assumption,h⟩
  ·simp at h
 ·exact .inr (.inl h)
 ·exact .inr (.inr h)
theorem D3{x:Input}{i m:Nat}{a:bn}(h:a∈pV x i m):a.f=2*i/\(a.t=2*m\/a.t=2*m+1):=by
 rcases NT h with⟨h1,h⟩|h|h
 ·obtain⟨t,_,_,rfl⟩:=CI h;exact⟨rfl,.inl (by simp only;omega)⟩
 ·obtain⟨t,_,rfl⟩:=P3 h;exact⟨rfl,.inl rfl⟩
 ·obtain⟨_,rfl⟩:=CJ h;exact⟨rfl,.inr rfl⟩
theorem WQ{x:Input}{i:Nat}{a:bn}(h:a∈qE x i):a.f=2*i\/a.f=2*i+1:=by
 rw[Gd,Zao]at h;rcases h with h|h
 ·obtain⟨m,_,_,h⟩:=dz h;exact .inl (D3 h).1
 ·obtain⟨_,rfl⟩:=zP h;exact .inr rfl
theorem WR{x:Input}{i m:Nat}{a:bn}(h:a∈rM x i m):a.f=2*i/\(a.t=2*m+2/\m<x.aj.length\/a.t=2*m+1):=by
 unfold rM at h;rw[Zao]at h;rcases h with h|h
 ·obtain⟨t,_,_,h⟩:=dz h;have:=Ju h;exact⟨this.2.1,.inl ⟨this.2.2.1,this.1⟩⟩
 ·have:=P4 h;exact⟨this.2.1,.inr this.2.2⟩
theorem rI_f{x:Input}{i:Nat}{a:bn}(h:a∈rI x i):a.f=2*i\/a.f=2*i+1:=by
 unfold rI at h;rw[Zao]at h;rcases h with h|h
 ·obtain⟨m,_,_,h⟩:=dz h;exact .inl (WR h).1
 ·obtain⟨_,rfl⟩:=zP h;exact .inr rfl
theorem WS{x:Input}{i m:Nat}{a:bn}(h:a∈iM x i m):a.f=2*i/\a.t=2*m:=by
 unfold iM at h;obtain⟨t,_,_,h⟩:=dz h;have:=mem_iT h;exact⟨this.1,this.2.1⟩
theorem iI_f{x:Input}{i:Nat}{a:bn}(h:a∈iI x i):a.f=2*i:=by
 unfold iI at h;obtain⟨m,_,_,h⟩:=dz h;exact(WS h).1
def nnX(x:Input):Prop:=(∀p∈x.insert,0<=p)/\0<=x.swap
theorem Ge{x:Input}(hn:nnX x)(hd:ni x.aj)(k:bn)(i m:Nat):(zO x i m).filter (pK k)=(rS x i m).filter (pK k):=by
 unfold zO rS;split
 ·exact Jt (eF hd i m).1 hn.2
 ·rfl
theorem Gf{x:Input}(hd:ni x.aj)(hr:∀c∈x.aj,c.read.length=x.insert.length)(k:bn){i m:Nat}(hm:m<x.aj.length):(x6 x i m).filter (pK k)=(ft (rA x i m) 0 x.insert.length).filter (pK k):=by
 have hc:(x.aj.getD m default).read.length=x.insert.length:=hr _ (by simp[List.getD,hm]);unfold x6 km ft;rw[hc,qC,qC,Zb1]
 congr 1
 funext t;rw[ZaY];unfold rA lI;have hcol:(default:Int)=0:=rfl;rw[hcol];by_cases h:0<=(x.aj.getD m default).read.getD t 0
 ·rw[if_pos h,if_pos ⟨hm,h⟩];exact Jt (eF hd i m).1 h
 ·rw[if_neg h,if_neg (λe=>h e.2)]
theorem zQ{x:Input}(hn:nnX x)(hd:ni x.aj)(k:bn)(i m:Nat):(qD x.insert i m (fY x i m) (dd (m-i)) x.insert.length).filter (pK k)=(iM x i m).filter (pK k):=by
 unfold qD iM ft;rw[qC,Zb1];have:∀l:List Nat,(∀t∈l,t<x.insert.length)->(l.map λ(t:Nat)=>(⟨2*i,2*m,(t:Int),fY x i m+x.insert.getD t 0,dd (m-i)++[(3,(t:Int))]⟩:bn)).filter (pK k)=l.flatMap λt=>(iT x i m (0+t)).filter (pK k):=by
  intro l;induction l with
  |nil=>intro _;rfl
  |cons t l ih=>
   intro ht;rw[Zau,Zbo,<-ih λt h=>ht t (by simp[h])];have e:iT x i m (0+t)=[⟨2*i,2*m,t,jJ (fY x i m) (x.insert.getD t default),dd (m-i)++[(3,(t:Int))]⟩]:=by rw[ZaY];rfl
   have D4:=ht t (by simp);have hp:0<=x.insert.getD t 0:=hn.1 _ (by simp[List.getD,D4]);rw[e,<-List.singleton_append (l:=List.map _ l),List.filter_append]
   congr 1
   exact Jt (eF hd i m).1 hp
 exact this _ λt ht=>ZaQ.1 ht
theorem Jv{x:Input}(hn:nnX x)(hd:ni x.aj)(hr:∀c∈x.aj,c.read.length=x.insert.length)(k:bn):
  (uL x (x.aj.length+1)).filter (pK k)=(ft (rI x) 0 (x.aj.length+1)++ft (iI x) 0 (x.aj.length+1)).filter (pK k):=by
 have e1:uL x (x.aj.length+1)=ft (qE x) 0 (x.aj.length+1):=by simp[uL,ft]
 obtain⟨n,hN⟩:∃n,x.aj.length=n:=⟨_,rfl⟩;rw[e1,List.filter_append];have out:∀(f:Nat->List bn),(∀i,∀a∈f i,a.f=2*i\/a.f=2*i+1)->∀j,j≠(k.f/2).toNat->(f j).filter (pK k)=[]:=by
  intro f hf j hj;refine filter_none λa ha=>jO λe=>hj ?_;have:=hf j a ha;omega
 rw[kF _ (out _ λi a=>WQ),kF _ (out _ λi a=>rI_f),kF _ (out _ λi a h=>.inl (iI_f h))];obtain⟨i,hi⟩:∃i,(k.f/2).toNat=i:=⟨_,rfl⟩;rw[hi];by_cases qg:0<=i/\i<x.aj.length+1
 case neg=>rw[if_neg qg,if_neg qg,if_neg qg];rfl
 rw[if_pos qg,if_pos qg,if_pos qg];rw[Gd];unfold rI iI;rw[List.filter_append,List.filter_append];by_cases hodd:k.f=2*i
 case neg=>
  have h1:(ft (pV x i) i (x.aj.length+1)).filter (pK k)=[]:=filter_none λa ha=>jO λe=>by
   obtain⟨m,_,_,h⟩:=dz ha;have:=(D3 h).1;omega
  have h2:(ft (rM x i) i (x.aj.length+1)).filter (pK k)=[]:=filter_none λa ha=>jO λe=>by
   obtain⟨m,_,_,h⟩:=dz ha;have:=(WR h).1;omega
  have h3:(ft (iM x i) i (x.aj.length+1)).filter (pK k)=[]:=filter_none λa ha=>jO λe=>by
   obtain⟨m,_,_,h⟩:=dz ha;have:=(WS h).1;omega
  rw[h1,h2,h3];simp
 have hT:(rT x i).filter (pK k)=[]:=filter_none λa ha=>jO λe=>by
  obtain⟨_,rfl⟩:=zP ha;simp only at e;omega
 rw[hT,ZaJ,ZaJ];have outC:∀m,m≠(k.t/2).toNat->(pV x i m).filter (pK k)=[]:=λm hm=>filter_none λa ha=>jO λe=>by
  have:=(D3 ha).2;omega
 have outI:∀m,m≠(k.t/2).toNat->(iM x i m).filter (pK k)=[]:=λm hm=>filter_none λa ha=>jO λe=>by
  have:=(WS ha).2;omega
 rw[kF _ outC,kF _ outI];obtain⟨m,hm⟩:∃m,(k.t/2).toNat=m:=⟨_,rfl⟩;rw[hm]at outC outI⊢;have YG:(pV x i m).filter (pK k)=(if i<m then x6 x i (m-1)else []).filter (pK k)++((qD x.insert i m (fY x i m) (dd (m-i)) x.insert.length).filter (pK k)++(zO x i m).filter (pK k)):=by
  rw[<-List.filter_append,<-List.filter_append];rfl
 by_cases hev:k.t=2*m
 ·
  have zR:(zO x i m).filter (pK k)=[]:=filter_none λa ha=>jO λe=>by
   obtain⟨_,rfl⟩:=CJ ha;simp only at e;omega
  have outR:∀j,j≠(if m=0 then n+1 else m-1)->(rM x i j).filter (pK k)=[]:=λj hj=>filter_none λa ha=>jO λe=>by
   have:=(WR ha).2;split at hj<;>omega
  rw[kF _ outR,YG,zR,ZaJ,zQ hn hd k i m];by_cases WT:m=0
  ·rw[if_pos WT];have h5:¬(i<=n+1/\n+1<x.aj.length+1):=by omega
   have h6:¬i<m:=by omega
   rw[if_neg h5,if_neg h6];simp
  ·rw[if_neg WT];obtain⟨q,rfl⟩:∃q,m=q+1:=⟨m-1,by omega⟩;rw[Zcd];have hrM:(rM x i q).filter (pK k)=(ft (rA x i q) 0 x.insert.length).filter (pK k):=by
    have:(rS x i q).filter (pK k)=[]:=filter_none λa ha=>jO λe=>by
     have:=(P4 ha).2.2;omega
    unfold rM;rw[List.filter_append,this,ZaJ]
   by_cases hq:q<x.aj.length
   ·by_cases hiq:i<q+1
    ·rw[if_pos hiq,if_pos ⟨by omega,by omega⟩,if_pos ⟨by omega,by omega⟩,hrM,Gf hd hr k hq];rw[if_pos ⟨by omega,by omega⟩]
    ·rw[if_neg hiq];by_cases hiq2:i=q+1
     ·rw[if_pos ⟨by omega,by omega⟩,if_neg (by omega),if_pos ⟨by omega,by omega⟩];simp
     ·rw[if_neg (by omega),if_neg (by omega),if_neg (by omega)];simp
   ·have hz:(rM x i q).filter (pK k)=[]:=by
     rw[hrM];refine filter_none λa ha=>?_;obtain⟨t,_,_,h⟩:=dz ha;exact absurd (Ju h).1 hq
    rw[hz,if_neg (by omega)];have h5:¬(i<=q+1/\q+1<x.aj.length+1):=by omega
    rw[if_neg h5];simp
 ·
  have outR:∀j,j≠m->(rM x i j).filter (pK k)=[]:=λj hj=>filter_none λa ha=>jO λe=>by
   have:=(WR ha).2;omega
  rw[kF _ outR];have h1:(iM x i m).filter (pK k)=[]:=filter_none λa ha=>jO λe=>by
   have:=(WS ha).2;omega
  have h2:(qD x.insert i m (fY x i m) (dd (m-i)) x.insert.length).filter (pK k)=[]:=by rw[zQ hn hd,h1]
  have h3:(if i<m then x6 x i (m-1)else []).filter (pK k)=[]:=filter_none λa ha=>jO λe=>by
   split at ha
   ·obtain⟨t,_,_,rfl⟩:=CI ha;simp only at e;omega
   ·simp at ha
  have h4:(rM x i m).filter (pK k)=(rS x i m).filter (pK k):=by
   have:(ft (rA x i m) 0 x.insert.length).filter (pK k)=[]:=filter_none λa ha=>jO λe=>by
    obtain⟨t,_,_,h⟩:=dz ha;have:=(Ju h).2.2.1;omega
   unfold rM;rw[List.filter_append,this,ZaK]
  rw[YG,h1,h2,h3,h4,Ge hn hd];simp
theorem nH(x:Input):((jP x).map bV).Nodup:=uM _ (by simp)
theorem hZ(x:Input):(dS x).Pairwise before:=ta _ (ta _ List.Pairwise.nil)
theorem CK{x:Input}(hn:nnX x)(hd:ni x.aj)(hr:∀c∈x.aj,c.read.length=x.insert.length):jd (jP x)=dS x:=by
 refine zM (y8 (nH x)) (hZ x) λa=>?_;rw[D2 (nH x),mu (nodup_keys (nH x)),mu (qA (hZ x))];unfold jP dS;rw[F9,<-cU,qz _ _ List.Pairwise.nil,fold_filter,Jv hn hd hr,<-fold_filter]
theorem P5(x:Input):wG x=dU x (2*x.aj.length+1):=by
 unfold wG dU;apply Zbq;intro s hs;rw[ZaQ]at hs;rw[if_pos hs]
theorem Jw{x:Input}(hn:nnX x)(hd:ni x.aj)(hr:∀c∈x.aj,c.read.length=x.insert.length):jn x=aI x:=by
 unfold jn aI;rw[CK hn hd hr,P5]
theorem NU{x:Input}{k:Int}(h:mw x k):jn x=aI x:=by
 obtain⟨h1,h2,h3,h4⟩:=se h;exact Jw ⟨λp hp=>(h1.2.2.2.1 p hp).1,h1.2.2.2.2.1⟩ h1.1 h4
theorem P6(k:bn)(cs:List bn):∀o a,cs.foldl (fN k) o=some a->o=some a\/(a∈cs/\a.cost<1099511627776):=by
 induction cs with
 |nil=>intro o a h;exact .inl h
 |cons c cs ih=>
  intro o a h;rw[ZaB]at h;rcases ih _ _ h with h|⟨h1,h2⟩
  ·unfold fN at h;split at h
   ·rename_i hc;split at h
    ·simp only[Zaa]at h;subst h;exact .inr ⟨by simp,hc.1⟩
    ·split at h
     ·simp only[Zaa]at h;subst h;exact .inr ⟨by simp,hc.1⟩
     ·exact .inl h
   ·exact .inl h
  ·exact .inr ⟨by simp[h1],h2⟩
theorem x7{x:Input}{a:bn}(h:a∈dS x):(a∈ft (rI x) 0 (x.aj.length+1)\/a∈ft (iI x) 0 (x.aj.length+1))/\a.cost<1099511627776:=by
 have h1:=(mu (qA (hZ x)) a).1 h;unfold dS at h1;rw[<-cU,qz _ _ List.Pairwise.nil]at h1;rcases P6 _ _ _ _ h1 with h2|⟨h2,h3⟩
 ·cases h2
 ·exact⟨Zao.1 h2,h3⟩
theorem NV{x:Input}{k:Int}(h:mw x k):∀c∈x.aj,y9 c x.insert.length:=by
 obtain⟨⟨h1,h2⟩,h3,h4⟩:=h;have P7:nj x.aj x.insert.length:=by
  by_cases e:nj x.aj x.insert.length
  ·exact e
  ·exact absurd (.inr (.inr (.inr (.inr (.inr e))))) h3
 intro c hc;obtain⟨i,hi,rfl⟩:=ZaZ hc;have:=P7 i hi
 rwa [show x.aj.getD i default=x.aj[i]by simp[List.getD,hi]]at this
theorem P8{x:Input}{k:Int}(h:mw x k){t:Nat}(ht:t<x.insert.length):1<=x.insert.getD t default:=by
 have:=h.2.2 t (by simpa using ht);unfold D5 at this;omega
theorem P9{a b:Int}(ha:0<=a)(hb:1<=b):1<=jJ a b:=by unfold jJ;split<;>omega
theorem Jx{x:Input}{k:Int}(h:mw x k):∀a∈dS x,Gg (2*x.aj.length+1:Nat) x.insert.length a:=by
 obtain⟨g1,g2,g3,g4⟩:=se h;have hc:=NV h;have Qa:∀m,m<x.aj.length->(x.aj.getD m default).kind<x.insert.length:=by
  intro m hm;have:=(hc (x.aj.getD m default) (by simp[List.getD,hm])).1;omega
 intro a ha;obtain⟨hm,qF⟩:=x7 ha;unfold Gg;rcases hm with hm|hm
 ·obtain⟨i,_,hi,hm⟩:=dz hm;unfold rI at hm;rw[Zao]at hm;rcases hm with hm|hm
  ·obtain⟨m,him,PN,hm⟩:=dz hm;unfold rM at hm;rw[Zao]at hm;rcases hm with hm|hm
   ·obtain⟨t,_,ht,hm⟩:=dz hm;unfold rA at hm;split at hm
    ·rename_i hr;simp only[Zah]at hm;subst hm;have:=uN (eF g1.1 i m).1 hr.2;simp only at qF⊢;omega
    ·simp at hm
   ·unfold rS at hm;split at hm
    ·rename_i hr;simp only[Zah]at hm;subst hm;have:=uN (eF g1.1 i m).1 g1.2.2.2.2.1;unfold bX at hr;rw[decide_eq_true_eq]at hr;have:=Qa (m+1) hr.1;simp only at qF⊢;omega
    ·simp at hm
  ·obtain⟨hr,rfl⟩:=zP hm;unfold bX at hr;rw[decide_eq_true_eq]at hr;have:=Qa i (by omega);simp only;omega
 ·obtain⟨i,_,hi,hm⟩:=dz hm;unfold iI at hm;obtain⟨m,him,PN,hm⟩:=dz hm;unfold iM at hm;obtain⟨t,_,ht,hm⟩:=dz hm;simp only[iT,Zah]at hm;subst hm;have:=P9 (eF g1.1 i m).1 (P8 h ht);simp only at qF⊢;omega
theorem NW{x:Input}{k:Int}(h:mw x k):qG (aI x) x.insert.length:=by
 obtain⟨g1,g2,g3,g4⟩:=se h;have hlen:(aI x).final.length=2*x.aj.length+1:=Jy x _;have lG:(aI x).aP=2*x.aj.length+1:=rfl;refine⟨⟨by omega,by omega⟩,λi hi=>?_,λi hi=>⟨?_, ?_⟩⟩
 ·rw[hlen]at hi;unfold Ml;have:(aI x).final.getD i default=if i % 2=0 then fY x (i/2) x.aj.length else 1099511627776:=by
   simp[aI,dU,List.getD,hi]
  rw[this];split
  ·exact eF g1.1 _ _
  ·omega
 ·have:=Jx h ((aI x).aD.getD i default) (by simp only[List.getD,Zan hi,Zbc];exact Zbj hi);rw[lG];simpa using this
 ·by_cases YH:i=0
  ·exact .inl YH
  ·right;have hs:=hZ x;rw[ZcF]at hs;have:=hs (i-1) i (by show i-1<(aI x).aD.length;omega) hi (by omega);have e1:(aI x).aD.getD (i-1) default=(dS x)[i-1]'(by show i-1<(aI x).aD.length;omega):=by
    simp only[List.getD];rw[Zan (by omega)];rfl
   have e2:(aI x).aD.getD i default=(dS x)[i]'hi:=by
    simp only[List.getD];rw[Zan hi];rfl
   rw[e1,e2];exact this
end Go.Proofs
namespace Go.Proofs
open Go.DM Go.DM.NS
theorem D6(al:List bn):(jd al).length=al.length:=by simp[jd,uO]
theorem NX{x:Input}{k:Int}(h:mw x k):(jP x).length<=900000:=by
 obtain⟨h1,h2,h3,h4⟩:=se h;rw[<-D6,CK ⟨λp hp=>(h1.2.2.2.1 p hp).1,h1.2.2.2.2.1⟩ h1.1 h4];exact x8 (by omega) h2
theorem Jz{x:Input}{k:Int}(h:mw x k):aU Tryz.prog 32 [x.enc] (aI x).enc:=by
 rw[<-NU h];have:=NX h;exact t12 x (se h).1 (by unfold oq;omega) (by omega)
end Go.Proofs
namespace Go.Proofs
open Go.DM Go.DM.NS
def wH(x:Input):List bn:=ft (rI x) 0 (x.aj.length+1)++ft (iI x) 0 (x.aj.length+1)
theorem x9(x:Input)(a:bn):a∈dS x↔((wH x).filter (pK a)).foldl (fN a) none=some a:=by
 rw[mu (qA (hZ x)) a];unfold dS;rw[<-cU,qz _ _ List.Pairwise.nil,fold_filter];rfl
def intTy:Ty:=.int .i64
theorem Pk:maxLen=9223372036854775807:=by decide
theorem X2{α:Type}{enc:α->List T}{rows:List (List T)}(h:∀r∈rows,∃x,r=enc x):∃l:List α,rows=l.map enc:=by
 induction rows with
 |nil=>exact⟨[],rfl⟩
 |cons r rows ih=>
  obtain⟨x,rfl⟩:=h r (Za5 ..);obtain⟨l,rfl⟩:=ih λr hr=>h r (ZaW _ hr);exact⟨x::l,rfl⟩
theorem iX{ts:List T}(h:Ty.has (.int .i64) ts):∃x,ts=[ti x]:=by
 simp only[Ty.has]at h;obtain⟨x,rfl,_⟩:=h;exact⟨x,rfl⟩
theorem rO{α:Type}{enc:α->List T}{e:Ty}{ts:List T}(he:∀r,Ty.has e r->∃x,r=enc x)(h:Ty.has (.slice e) ts):∃l:List α,ts=[.sl (l.map enc)]/\l.length<=9223372036854775807:=by
 simp only[Ty.has]at h;obtain⟨rows,rfl,hl,hr⟩:=h;obtain⟨l,rfl⟩:=X2 λr fe=>he r (hr r fe);rw[Pk,Zbt]at hl;exact⟨l,rfl,hl⟩
theorem all_cons{t:Ty}{sX:List Ty}{ts:List T}(h:Ty.hasAll (t::sX) ts):∃a b,ts=a++b/\t.has a/\Ty.hasAll sX b:=by simpa only[Ty.hasAll]using h
theorem all_nil{ts:List T}(h:Ty.hasAll [] ts):ts=[]:=by simpa only[Ty.hasAll]using h
theorem Fb{fs:List Ty}{ts:List T}(h:Ty.has (.seq fs) ts):Ty.hasAll fs ts:=by simpa only[Ty.has]using h
def T3:Ty:=.seq [.int .i64,.slice intTy,.int .i64]
def XE:Ty:=.seq [.slice T3,.slice intTy,.int .i64]
theorem T4{ts:List T}(h:T3.has ts):∃r:bC,ts=r.enc:=by
 obtain⟨_,_,rfl,h1,h⟩:=all_cons (Fb h);obtain⟨_,_,rfl,h2,h⟩:=all_cons h;obtain⟨_,_,rfl,h3,h⟩:=all_cons h;obtain rfl:=all_nil h;obtain⟨a,rfl⟩:=iX h1;obtain⟨l,rfl,hl⟩:=rO (λr=>iX) h2;obtain⟨c,rfl⟩:=iX h3;exact⟨⟨a,l,c⟩,rfl⟩
end Go.Proofs
namespace Go.Proofs
namespace cq
open Go.DM
def Zc:List RO:=[
 o (.box (t 0)) 2 [],
 o (.box (t 1)) 3 [],
 o (.bQ (.cw (.v (.bool false)))) 4 []]
def GX:List RO:=[
 a 0 2 5 [],
 l 5 6 [0],
 a 0 3 7 [],
 l 7 8 [2],
 b .lss 6 8 9 [1,3],
 m 9 10 [4],
 u 0 2 11 10 false [5],
 v 11 12 10 false [6,5],
 u 0 3 13 10 false [5],
 v 13 14 10 false [8,5],
 g (.bin .eql (t 12) (t 14)) 15 10 false [7,9,5],
 w 15 16 10 false [10,5,5],
 u 1 2 17 16 true [11],
 v 17 18 16 true [12,11],
 u 1 3 19 16 true [11],
 v 19 20 16 true [14,11],
 g (.bin .lss (t 18) (t 20)) 21 16 true [13,15,11],
 g (.pick (t 16) (t 21) (.cw (.v (.bool false)))) 22 10 false [11,16,5],
 p 10 22 23 [5,17],
 m 23 4 (k [18,11] 18)]
def d92:DC:=(j (y Zc)
 (j (y GX)
 .ret))
def Rl:List bO:=[.slot 4]
theorem c92 [Laid]:aQ Tryz.prog 92 24 d92 Rl:=⟨Tryz.f92,by kernel_rfl,by kernel_rfl,by kernel_rfl,by kernel_rfl,by kernel_rfl⟩
def Zd:List RO:=[
 o (.alloc [(.v (.int .i64 0)),(.v (.int .i64 0))]) 4 []]
def Ze:List RO:=[
 n 0 8,
 m 8 5 [0,0],
 o (.bQ (i 1)) 6 [1,0,1]]
def Zf:List RO:=[
 o (.bQ (i 0)) 7 []]
def Zg:List RO:=[
 n 7 9,
 n 1 10,
 o (.len (t 10)) 11 [1],
 b .lss 9 11 12 [0,2]]
def Zh:List RO:=[
 n 5 15,
 n 1 16,
 n 7 17,
 x 2 16 17 18 [1,2],
 a 0 18 19 [3],
 l 19 20 [4],
 b .add 15 20 21 [0,5],
 o (.minmax false (t 21) (i 1099511627776)) 22 [6],
 n 6 23,
 n 1 24,
 n 7 25,
 x 2 24 25 26 [9,10],
 a 1 26 27 [11],
 l 27 28 [12],
 b .add 23 28 29 [8,13],
 o (.minmax false (t 29) (i 1099511627776)) 30 [14],
 m 22 5 (k [7] 7),
 m 30 6 (k [15,16] 16)]
def Zi:List RO:=[
 n 7 13,
 o (.bin .add (t 13) (i 1)) 14 [0],
 m 14 7 [1,0,1]]
def Zj:List RO:=[
 n 5 31,
 o (.bin .geq (t 31) (i 1099511627776)) 32 [0]]
def Zk:List RO:=[
 o (.build [(.v (.int .i64 0)),(.v (.int .i64 0))] [(0,1,(i 1099511627776))]) 33 [],
 S 2 4 33 [0,0]]
def Zl:List RO:=[
 n 5 34,
 n 6 35,
 o (.build [(.v (.int .i64 0)),(.v (.int .i64 0))] [(0,1,(t 34)),(1,1,(t 35))]) 36 [0,1],
 S 2 4 36 [2,0,1,2]]
def d69:DC:=(j (y Zd)
 (j (y Ze)
 (j (j (y Zf)
 (.block 0 (.loop (j (j (y Zg)
 (.cond (.tmp 12) .skip
 (.exit 0)))
 (j (.block 1 (Y Zh))
 (y Zi))))))
 (j (j (y Zj)
 (.cond (.tmp 32) (j (y Zk)
 .ret)
 .skip))
 (j (y Zl)
 .ret)))))
def Kf:List bO:=[.cell 4 2 true]
theorem c69 [Laid]:aQ Tryz.prog 69 37 d69 Kf:=⟨Tryz.f69,by kernel_rfl,by kernel_rfl,by kernel_rfl,by kernel_rfl,by kernel_rfl⟩
def Zm:List RO:=[
 o (.box (t 0)) 2 [],
 o (.bQ (.cw .aH)) 4 []]
def Zn:List RO:=[
 o (.bQ (.cw .aH)) 5 []]
def Zo:List RO:=[
 o (.bQ (i 0)) 6 []]
def Zp:List RO:=[
 n 6 7,
 a 1 2 8 [],
 l 8 9 [1],
 o (.len (t 9)) 10 [2],
 b .lss 7 10 11 [0,3]]
def Zq:List RO:=[
 n 5 14,
 n 1 15,
 a 1 2 16 [],
 l 16 17 [2],
 n 6 18,
 x 1 17 18 19 [3,4],
 l 19 20 [5],
 x 2 15 20 21 [1,6],
 L 2 21 22 [7],
 o (.bslice 1 2 [(.v (.int .i64 0)),(.v (.int .i64 0))] [(0,2,(t 22))]) 23 [8],
 o (.append 55 2 16 (t 14) (t 23)) 24 [0,9],
 m 24 5 (k [10,10] 10)]
def Zr:List RO:=[
 n 6 12,
 o (.bin .add (t 12) (i 1)) 13 [0],
 m 13 6 [1,0,1]]
def Zs:List RO:=[
 n 5 25,
 m 25 4 [0,0]]
def d91:DC:=(j (y Zm)
 (j (y Zn)
 (j (j (y Zo)
 (.block 0 (.loop (j (j (y Zp)
 (.cond (.tmp 11) .skip
 (.exit 0)))
 (j (.block 1 (y Zq))
 (y Zr))))))
 (j (y Zs)
 .ret))))
def d91res:List bO:=[.slot 4]
theorem c91 [Laid]:aQ Tryz.prog 91 26 d91 d91res:=⟨Tryz.f91,by kernel_rfl,by kernel_rfl,by kernel_rfl,by kernel_rfl,by kernel_rfl⟩
def Zt:List RO:=[
 o (.box (t 0)) 1 [],
 o (.bQ (.cw .aH)) 2 [],
 o (.bQ (.cw .aH)) 3 [1]]
def Zu:List RO:=[
 a 0 1 14 [],
 l 14 15 [0],
 o (.mkSlice 55 2 16 [(.int .i64 0),(.int .i64 0)] (t 15)) 16 [1,1],
 m 16 4 [2,0,1,2]]
def Zv:List RO:=[
 a 0 1 17 [],
 l 17 18 [0],
 o (.mkSlice 3 1 8 [(.int .i64 0)] (t 18)) 19 [1,1],
 m 19 5 [2,0,1,2]]
def Zw:List RO:=[
 o (.bQ (i 0)) 6 []]
def Zx:List RO:=[
 n 6 20,
 a 0 1 21 [],
 l 21 22 [1],
 b .lss 20 22 23 [0,2]]
def Zy:List RO:=[
 n 4 26,
 n 6 27,
 n 5 28,
 n 6 29,
 o (.build [(.v (.int .i64 0)),(.v (.int .i64 0))] [(0,1,(i 1099511627776))]) 30 [],
 x 2 26 27 31 [0,1,0,1,4],
 S 2 31 30 [5,4,0,1,4],
 x 1 28 29 32 (k [2,3] 6),
 s (.store 1 (t 32) (i (-1))) (k [7,6] 6)]
def Zz:List RO:=[
 n 6 24,
 o (.bin .add (t 24) (i 1)) 25 [0],
 m 25 6 [1,0,1]]
def ZA:List RO:=[
 o (.bQ (.cw (.v (.bool true)))) 7 []]
def ZB:List RO:=[
 n 7 33]
def ZC:List RO:=[
 o (.bQ (.cw (.v (.bool false)))) 7 []]
def Rm:List RO:=[
 o (.bQ (i 0)) 8 []]
def Rn:List RO:=[
 n 8 34,
 a 1 1 35 [],
 l 35 36 [1],
 o (.len (t 36)) 37 [2],
 b .lss 34 37 38 [0,3]]
def Ro:List RO:=[
 a 1 1 41 [],
 l 41 42 [0],
 n 8 43,
 x 5 42 43 44 [1,2],
 L 5 44 45 [3],
 o (.alloc [(.v (.int .i64 0)),.aH,(.v (.int .i64 0)),(.v (.int .i64 0)),(.v (.int .i64 0))]) 9 [],
 S 5 9 45 (k [5,4] 5)]
def EL:List RO:=[
 a 2 9 46 [],
 l 46 47 [0],
 L 5 9 48 [],
 n 4 49,
 o (.callF 91 [(t 48),(t 49)]) 50 [2,3],
 o (.call 69 [(t 47),(t 50)]) 51 [1,4,4],
 o (.alloc [(.v (.int .i64 0)),(.v (.int .i64 0))]) 10 [],
 S 2 10 51 (k [6,5,5] 6)]
def d66r13:List RO:=EL.map bare
def Rp:List RO:=[
 L 2 10 52 [],
 n 4 53,
 a 0 9 54 [],
 l 54 55 [2],
 x 2 53 55 56 [1,3],
 L 2 56 57 [4],
 o (.call 92 [(t 52),(t 57)]) 58 [0,5]]
def Rq:List RO:=[
 n 4 59,
 a 0 9 60 [],
 l 60 61 [1],
 L 2 10 62 [],
 x 2 59 61 63 [0,2,0,1,2,3],
 S 2 63 62 [4,3,0,1,2,3]]
def Rr:List RO:=[
 o (.bQ (.cw (.v (.bool true)))) 7 []]
def Kg:List RO:=[
 n 8 39,
 o (.bin .add (t 39) (i 1)) 40 [0],
 m 40 8 [1,0,1]]
def Rs:List RO:=[
 a 1 1 64 [],
 l 64 65 [0],
 o (.len (t 65)) 66 [1],
 o (.bin .sub (t 66) (i 1)) 67 [2],
 m 67 11 [3,0,1,2,3]]
def Rt:List RO:=[
 n 11 68,
 o (.bin .geq (t 68) (i 0)) 69 [0]]
def Ru:List RO:=[
 a 1 1 72 [],
 l 72 73 [0],
 n 11 74,
 x 5 73 74 75 [1,2],
 L 5 75 76 [3],
 o (.alloc [(.v (.int .i64 0)),.aH,(.v (.int .i64 0)),(.v (.int .i64 0)),(.v (.int .i64 0))]) 12 [],
 S 5 12 76 (k [5,4] 5)]
def Rv:List RO:=[
 n 4 77,
 a 0 12 78 [],
 l 78 79 [1],
 x 2 77 79 80 [0,2],
 L 2 80 81 [3],
 o (.alloc [(.v (.int .i64 0)),(.v (.int .i64 0))]) 13 [],
 S 2 13 81 (k [5,4] 5)]
def vA:List RO:=[
 a 0 13 82 [],
 l 82 83 [0],
 o (.bin .lss (t 83) (i 1099511627776)) 84 [1],
 m 84 85 [2],
 u 2 12 86 85 true [3],
 v 86 87 85 true [4,3],
 g (.load 5 true (t 12)) 88 85 true [3],
 w 4 89 85 true [3],
 g (.callF 91 [(t 88),(t 89)]) 90 85 true [6,7,3,3],
 g (.call 69 [(t 87),(t 90)]) 91 85 true [5,8,8,3],
 g (.load 2 true (t 13)) 92 85 true [3],
 g (.eqT false true [(.int .i64),(.int .i64)] (t 91) (t 92)) 93 85 true [9,10,3],
 q 85 93 94 [3,11]]
def d66r22:List RO:=vA.map bare
def Rw:List RO:=[
 n 5 95,
 a 0 12 96 [],
 l 96 97 [1],
 n 11 98,
 x 1 95 97 99 [0,2,0,1,2,3],
 S 1 99 98 [4,3,0,1,2,3]]
def Kh:List RO:=[
 n 11 70,
 o (.bin .sub (t 70) (i 1)) 71 [0],
 m 71 11 [1,0,1]]
def Rx:List RO:=[
 n 4 100,
 n 5 101,
 m 100 2 [0,0],
 m 101 3 [1,2,0,1,2]]
def d66:DC:=(j (y Zt)
 (j (y Zu)
 (j (y Zv)
 (j (j (y Zw)
 (.block 0 (.loop (j (j (y Zx)
 (.cond (.tmp 23) .skip
 (.exit 0)))
 (j (.block 1 (y Zy))
 (y Zz))))))
 (j (j (y ZA)
 (.block 2 (.loop (j (j (y ZB)
 (.cond (.tmp 33) .skip
 (.exit 2)))
 (.block 3 (j (y ZC)
 (j (y Rm)
 (.block 4 (.loop (j (j (y Rn)
 (.cond (.tmp 38) .skip
 (.exit 4)))
 (j (.block 5 (j (y Ro)
 (j (Y d66r13)
 (j (Y Rp)
 (.cond (.tmp 58) (j (y Rq)
 (y Rr))
 .skip)))))
 (y Kg))))))))))))
 (j (j (y Rs)
 (.block 6 (.loop (j (j (y Rt)
 (.cond (.tmp 69) .skip
 (.exit 6)))
 (j (.block 7 (j (y Ru)
 (j (y Rv)
 (j (Y d66r22)
 (.cond (.tmp 94) (y Rw)
 .skip)))))
 (y Kh))))))
 (j (y Rx)
 .ret)))))))
def Ry:List bO:=[.slot 2,.slot 3]
theorem c66 [Laid]:aQ Tryz.prog 66 102 d66 Ry:=⟨Tryz.f66,by kernel_rfl,by kernel_rfl,by kernel_rfl,by kernel_rfl,by kernel_rfl⟩
def ZD:List RO:=[
 o (.box (t 0)) 1 [],
 o (.bQ (.cw .aH)) 2 []]
def ZE:List RO:=[
 a 0 1 3 [],
 l 3 4 [0]]
def ZF:List RO:=[
 o (.bin .eql (t 4) (i 3)) 6 [],
 m 6 5 [0]]
def ZG:List RO:=[
 a 2 1 7 [],
 l 7 8 [0],
 o (.bslice 1 1 [(.v (.int .i64 0))] [(0,1,(t 8))]) 9 [1],
 m 9 2 [2,0,1,2]]
def ZH:List RO:=[
 o (.bin .eql (t 4) (i 4)) 11 [],
 m 11 10 [0]]
def ZI:List RO:=[
 a 2 1 12 [],
 l 12 13 [0],
 a 3 1 14 [],
 l 14 15 [2],
 o (.bslice 2 1 [(.v (.int .i64 0)),(.v (.int .i64 0))] [(0,1,(t 13)),(1,1,(t 15))]) 16 [1,3],
 m 16 2 (k [4] 4)]
def ZJ:List RO:=[
 o (.bQ (.cw .aH)) 2 []]
def d93:DC:=(j (y ZD)
 (j (j (y ZE)
 (.block 0 (j (y ZF)
 (.cond (.tmp 5) (j (y ZG)
 .ret)
 (j (y ZH)
 (.cond (.tmp 10) (j (y ZI)
 .ret)
 .skip))))))
 (j (y ZJ)
 .ret)))
def EM:List bO:=[.slot 2]
theorem c93 [Laid]:aQ Tryz.prog 93 17 d93 EM:=⟨Tryz.f93,by kernel_rfl,by kernel_rfl,by kernel_rfl,by kernel_rfl,by kernel_rfl⟩
def ZK:List RO:=[
 o (.box (t 0)) 2 [],
 o (.alloc [(.v (.int .i64 0)),.aH]) 4 []]
def ZL:List RO:=[
 o (.bQ (.cw .aH)) 5 []]
def ZM:List RO:=[
 o (.bQ (i 0)) 6 []]
def ZN:List RO:=[
 n 6 9,
 a 3 2 10 [],
 l 10 11 [1],
 o (.len (t 11)) 12 [2],
 b .lss 9 12 13 [0,3]]
def ZO:List RO:=[
 a 3 2 16 [],
 l 16 17 [0],
 n 6 18,
 x 6 17 18 19 [1,2],
 L 6 19 20 [3],
 o (.alloc [(.v (.int .i64 0)),(.v (.int .i64 0)),(.v (.int .i64 0)),(.v (.int .i64 0)),(.v (.int .i64 0)),(.v (.int .i64 0))]) 7 [],
 S 6 7 20 (k [5,4] 5)]
def ZP:List RO:=[
 a 4 7 21 [],
 l 21 22 [0],
 m 22 8 [1,0,1]]
def ZQ:List RO:=[
 a 0 7 23 [],
 l 23 24 [0],
 o (.bin .eql (t 24) (i 2)) 25 [1]]
def ZR:List RO:=[
 n 8 26,
 n 1 27,
 a 2 7 28 [],
 l 28 29 [2],
 x 1 27 29 30 [1,3],
 l 30 31 [4],
 b .add 26 31 32 [0,5],
 m 32 8 (k [6] 6)]
def Rz:List RO:=[
 n 5 33,
 a 1 7 34 [],
 l 34 35 [1],
 L 6 7 36 [],
 o (.call 93 [(t 36)]) 37 [3],
 n 8 38,
 o (.build [(.v (.int .i64 0)),.aH,(.v (.int .i64 0)),(.v (.int .i64 0)),(.v (.int .i64 0))] [(0,1,(t 35)),(1,1,(t 37)),(2,1,(t 38))]) 39 [2,4,5],
 o (.bslice 1 5 [(.v (.int .i64 0)),.aH,(.v (.int .i64 0)),(.v (.int .i64 0)),(.v (.int .i64 0))] [(0,5,(t 39))]) 40 [6],
 o (.append 156 5 56 (t 33) (t 40)) 41 [0,7,4],
 m 41 5 (k [8,8] 8)]
def RA:List RO:=[
 n 6 14,
 o (.bin .add (t 14) (i 1)) 15 [0],
 m 15 6 [1,0,1]]
def RB:List RO:=[
 a 1 2 42 [],
 l 42 43 [0],
 n 5 44,
 o (.build [(.v (.int .i64 0)),.aH] [(0,1,(t 43)),(1,1,(t 44))]) 45 [1,2],
 S 2 4 45 [3,0,1,2,3]]
def d67:DC:=(j (y ZK)
 (j (y ZL)
 (j (j (y ZM)
 (.block 0 (.loop (j (j (y ZN)
 (.cond (.tmp 13) .skip
 (.exit 0)))
 (j (.block 1 (j (y ZO)
 (j (y ZP)
 (j (j (y ZQ)
 (.cond (.tmp 25) (y ZR)
 .skip))
 (Y Rz)))))
 (y RA))))))
 (j (y RB)
 .ret))))
def RC:List bO:=[.cell 4 2 true]
theorem c67 [Laid]:aQ Tryz.prog 67 46 d67 RC:=⟨Tryz.f67,by kernel_rfl,by kernel_rfl,by kernel_rfl,by kernel_rfl,by kernel_rfl⟩
def ZS:List RO:=[
 o (.box (t 0)) 2 [],
 o (.bQ (.cw (.v (.bool false)))) 4 []]
def ZT:List RO:=[
 n 1 6,
 o (.len (t 6)) 7 [0],
 a 0 2 8 [],
 l 8 9 [2],
 b .neq 7 9 10 [1,3]]
def ZU:List RO:=[
 o (.bQ (.cw (.v (.bool false)))) 4 []]
def ZV:List RO:=[
 o (.bQ (i 0)) 5 []]
def ZW:List RO:=[
 n 5 11,
 n 1 12,
 o (.len (t 12)) 13 [1],
 b .lss 11 13 14 [0,2]]
def MT:List RO:=[
 n 1 17,
 n 5 18,
 x 1 17 18 19 [0,1],
 l 19 20 [2],
 o (.bin .lss (t 20) (i 1)) 21 [3],
 m 21 22 [4],
 w 1 23 22 false [5],
 w 5 24 22 false [5],
 g (.idxAddr 1 (t 23) (t 24)) 25 22 false [6,7,5],
 v 25 26 22 false [8,5],
 g (.bin .gtr (t 26) (i 60000)) 27 22 false [9,5],
 p 22 27 28 [5,10]]
def ZX:List RO:=[
 o (.bQ (.cw (.v (.bool false)))) 4 []]
def ZY:List RO:=[
 n 5 15,
 o (.bin .add (t 15) (i 1)) 16 [0],
 m 16 5 [1,0,1]]
def ZZ:List RO:=[
 o (.bQ (.cw (.v (.bool true)))) 4 []]
def d44:DC:=(j (y ZS)
 (j (j (y ZT)
 (.cond (.tmp 10) (j (y ZU)
 .ret)
 .skip))
 (j (j (y ZV)
 (.block 0 (.loop (j (j (y ZW)
 (.cond (.tmp 14) .skip
 (.exit 0)))
 (j (.block 1 (j (y MT)
 (.cond (.tmp 28) (j (y ZX)
 .ret)
 .skip)))
 (y ZY))))))
 (j (y ZZ)
 .ret))))
def EN:List bO:=[.slot 4]
theorem c44 [Laid]:aQ Tryz.prog 44 29 d44 EN:=⟨Tryz.f44,by kernel_rfl,by kernel_rfl,by kernel_rfl,by kernel_rfl,by kernel_rfl⟩
def GY:List RO:=[
 o (.box (t 0)) 2 [],
 o (.bQ (.cw .aH)) 4 []]
def A0:List RO:=[
 L 4 2 7 [],
 o (.call 20 [(t 7)]) 8 [0],
 o (.un .not (t 8)) 9 [1],
 m 9 10 [2,1],
 g (.load 4 true (t 2)) 11 10 false [3],
 w 1 12 10 false [3],
 g (.call 44 [(t 11),(t 12)]) 13 10 false [4,5,3,3],
 g (.un .not (t 13)) 14 10 false [6,3],
 p 10 14 15 [3,7]]
def GZ:List RO:=[
 o (.bQ (.cw .aH)) 4 []]
def G0:List RO:=[
 L 4 2 17 [],
 n 1 18,
 o (.call 67 [(t 17),(t 18)]) 19 [0,1],
 o (.call 66 [(t 19)]) 20 [2,2],
 m 20 16 [3],
 e 0 16 21 [4],
 e 1 16 22 [4],
 m 21 5 (k [5,3] 5),
 m 22 6 (k [6,7] 7)]
def Ha:List RO:=[
 n 5 23,
 m 23 4 [0,0]]
def d45:DC:=(j (y GY)
 (j (j (y A0)
 (.cond (.tmp 15) (j (y GZ)
 .ret)
 .skip))
 (j (y G0)
 (j (y Ha)
 .ret))))
def tZ:List bO:=[.slot 4]
theorem c45 [Laid]:aQ Tryz.prog 45 24 d45 tZ:=⟨Tryz.f45,by kernel_rfl,by kernel_rfl,by kernel_rfl,by kernel_rfl,by kernel_rfl⟩
def Z0:List RO:=[
 o (.box (t 0)) 2 [],
 o (.bQ (.cw (.v (.bool false)))) 4 []]
def MU:List RO:=[
 L 4 2 7 [],
 o (.call 20 [(t 7)]) 8 [0],
 o (.un .not (t 8)) 9 [1],
 m 9 10 [2,1],
 g (.load 4 true (t 2)) 11 10 false [3],
 w 1 12 10 false [3],
 g (.call 44 [(t 11),(t 12)]) 13 10 false [4,5,3,3],
 g (.un .not (t 13)) 14 10 false [6,3],
 p 10 14 15 [3,7]]
def Z1:List RO:=[
 o (.bQ (.cw (.v (.bool false)))) 4 []]
def Z2:List RO:=[
 L 4 2 16 [],
 n 1 17,
 o (.call 45 [(t 16),(t 17)]) 18 [0,1],
 m 18 5 [2,2,0,1,2]]
def Z3:List RO:=[
 o (.bQ (i 0)) 6 []]
def Z4:List RO:=[
 n 6 19,
 n 5 20,
 o (.len (t 20)) 21 [1],
 b .lss 19 21 22 [0,2]]
def Z5:List RO:=[
 n 5 25,
 n 6 26,
 x 2 25 26 27 [0,1],
 a 1 27 28 [2],
 l 28 29 [3],
 o (.bin .gtr (t 29) (i 1000)) 30 [4]]
def Z6:List RO:=[
 o (.bQ (.cw (.v (.bool false)))) 4 []]
def Z7:List RO:=[
 n 6 23,
 o (.bin .add (t 23) (i 1)) 24 [0],
 m 24 6 [1,0,1]]
def Z8:List RO:=[
 o (.bQ (.cw (.v (.bool true)))) 4 []]
def d22:DC:=(j (y Z0)
 (j (j (y MU)
 (.cond (.tmp 15) (j (y Z1)
 .ret)
 .skip))
 (j (y Z2)
 (j (j (y Z3)
 (.block 0 (.loop (j (j (y Z4)
 (.cond (.tmp 22) .skip
 (.exit 0)))
 (j (.block 1 (j (y Z5)
 (.cond (.tmp 30) (j (y Z6)
 .ret)
 .skip)))
 (y Z7))))))
 (j (y Z8)
 .ret)))))
def EO:List bO:=[.slot 4]
theorem c22 [Laid]:aQ Tryz.prog 22 31 d22 EO:=⟨Tryz.f22,by kernel_rfl,by kernel_rfl,by kernel_rfl,by kernel_rfl,by kernel_rfl⟩
def Z9:List RO:=[
 o (.box (t 0)) 1 [],
 o (.bQ (.cw (.v (.bool false)))) 2 []]
def vC:List RO:=[
 a 0 1 6 [],
 l 6 7 [0],
 o (.bin .lss (t 7) (i 0)) 8 [1],
 m 8 9 [2],
 u 0 1 10 9 false [3],
 v 10 11 9 false [4,3],
 g (.bin .gtr (t 11) (i 120)) 12 9 false [5,3],
 p 9 12 13 [3,6],
 m 13 14 [7,3],
 u 1 1 15 14 false [8],
 v 15 16 14 false [9,8],
 g (.bin .lss (t 16) (i 1)) 17 14 false [10,8],
 p 14 17 18 [8,11],
 m 18 19 [12,8],
 u 1 1 20 19 false [13],
 v 20 21 19 false [14,13],
 g (.bin .gtr (t 21) (i 1000)) 22 19 false [15,13],
 p 19 22 23 [13,16],
 m 23 24 [17,13],
 u 2 1 25 24 false [18],
 v 25 26 24 false [19,18],
 g (.bin .lss (t 26) (i 0)) 27 24 false [20,18],
 p 24 27 28 [18,21],
 m 28 29 [22,18],
 u 2 1 30 29 false [23],
 v 30 31 29 false [24,23],
 u 1 1 32 29 false [23],
 v 32 33 29 false [26,23],
 g (.bin .geq (t 31) (t 33)) 34 29 false [25,27,23],
 p 29 34 35 [23,28],
 m 35 36 [29,23],
 u 3 1 37 36 false [30],
 v 37 38 36 false [31,30],
 g (.len (t 38)) 39 36 false [32,30],
 g (.bin .gtr (t 39) (i 600)) 40 36 false [33,30],
 p 36 40 41 [30,34]]
def aaa:List RO:=[
 o (.bQ (.cw (.v (.bool false)))) 2 []]
def aab:List RO:=[
 o (.bQ (i 0)) 3 []]
def aac:List RO:=[
 n 3 42,
 a 3 1 43 [],
 l 43 44 [1],
 o (.len (t 44)) 45 [2],
 b .lss 42 45 46 [0,3]]
def aad:List RO:=[
 a 3 1 49 [],
 l 49 50 [0],
 n 3 51,
 x 6 50 51 52 [1,2],
 L 6 52 53 [3],
 o (.alloc [(.v (.int .i64 0)),(.v (.int .i64 0)),(.v (.int .i64 0)),(.v (.int .i64 0)),(.v (.int .i64 0)),(.v (.int .i64 0))]) 4 [],
 S 6 4 53 (k [5,4] 5)]
def A1:List RO:=[
 a 1 4 54 [],
 l 54 55 [0],
 o (.bin .lss (t 55) (i 0)) 56 [1],
 m 56 57 [2],
 u 1 4 58 57 false [3],
 v 58 59 57 false [4,3],
 u 1 1 60 57 false [3],
 v 60 61 57 false [6,3],
 g (.bin .geq (t 59) (t 61)) 62 57 false [5,7,3],
 p 57 62 63 [3,8],
 m 63 64 [9,3],
 u 4 4 65 64 false [10],
 v 65 66 64 false [11,10],
 g (.bin .lss (t 66) (i 0)) 67 64 false [12,10],
 p 64 67 68 [10,13],
 m 68 69 [14,10],
 u 4 4 70 69 false [15],
 v 70 71 69 false [16,15],
 g (.bin .gtr (t 71) (i 1000)) 72 69 false [17,15],
 p 69 72 73 [15,18],
 m 73 74 [19,15],
 u 5 4 75 74 false [20],
 v 75 76 74 false [21,20],
 g (.bin .lss (t 76) (i (-1))) 77 74 false [22,20],
 p 74 77 78 [20,23]]
def aae:List RO:=[
 o (.bQ (.cw (.v (.bool false)))) 2 []]
def aaf:List RO:=[
 o (.bQ (.cw (.v (.bool false)))) 5 []]
def aag:List RO:=[
 a 0 4 79 [],
 l 79 80 [0]]
def RD:List RO:=[
 o (.bin .eql (t 80) (i 1)) 82 [],
 m 82 81 [0]]
def EP:List RO:=[
 a 2 4 83 [],
 l 83 84 [0],
 o (.bin .eql (t 84) (i 0)) 85 [1],
 m 85 86 [2],
 u 3 4 87 86 true [3],
 v 87 88 86 true [4,3],
 g (.bin .eql (t 88) (i 0)) 89 86 true [5,3],
 q 86 89 90 [3,6],
 m 90 5 (k [7,3] 7)]
def RE:List RO:=[
 o (.bin .eql (t 80) (i 2)) 92 [],
 m 92 91 [0]]
def A2:List RO:=[
 a 2 4 93 [],
 l 93 94 [0],
 o (.bin .geq (t 94) (i 0)) 95 [1],
 m 95 96 [2],
 u 2 4 97 96 true [3],
 v 97 98 96 true [4,3],
 u 0 1 99 96 true [3],
 v 99 100 96 true [6,3],
 g (.bin .lss (t 98) (t 100)) 101 96 true [5,7,3],
 q 96 101 102 [3,8],
 m 102 103 [9,3],
 u 3 4 104 103 true [10],
 v 104 105 103 true [11,10],
 g (.bin .eql (t 105) (i 0)) 106 103 true [12,10],
 q 103 106 107 [10,13],
 m 107 5 (k [14,10] 14)]
def RF:List RO:=[
 o (.bin .eql (t 80) (i 3)) 109 [],
 m 109 108 [0]]
def A3:List RO:=[
 a 2 4 110 [],
 l 110 111 [0],
 o (.bin .geq (t 111) (i 0)) 112 [1],
 m 112 113 [2],
 u 2 4 114 113 true [3],
 v 114 115 113 true [4,3],
 u 1 1 116 113 true [3],
 v 116 117 113 true [6,3],
 g (.bin .lss (t 115) (t 117)) 118 113 true [5,7,3],
 q 113 118 119 [3,8],
 m 119 120 [9,3],
 u 3 4 121 120 true [10],
 v 121 122 120 true [11,10],
 g (.bin .eql (t 122) (i 0)) 123 120 true [12,10],
 q 120 123 124 [10,13],
 m 124 5 (k [14,10] 14)]
def RG:List RO:=[
 o (.bin .eql (t 80) (i 4)) 126 [],
 m 126 125 [0]]
def xj:List RO:=[
 a 2 4 127 [],
 l 127 128 [0],
 o (.bin .geq (t 128) (i 0)) 129 [1],
 m 129 130 [2],
 u 2 4 131 130 true [3],
 v 131 132 130 true [4,3],
 u 1 1 133 130 true [3],
 v 133 134 130 true [6,3],
 g (.bin .lss (t 132) (t 134)) 135 130 true [5,7,3],
 q 130 135 136 [3,8],
 m 136 137 [9,3],
 u 3 4 138 137 true [10],
 v 138 139 137 true [11,10],
 g (.bin .geq (t 139) (i 0)) 140 137 true [12,10],
 q 137 140 141 [10,13],
 m 141 142 [14,10],
 u 3 4 143 142 true [15],
 v 143 144 142 true [16,15],
 u 1 1 145 142 true [15],
 v 145 146 142 true [18,15],
 g (.bin .lss (t 144) (t 146)) 147 142 true [17,19,15],
 q 142 147 148 [15,20],
 m 148 5 (k [21,15] 21)]
def xk:List RO:=[
 n 5 149,
 o (.un .not (t 149)) 150 [0]]
def xl:List RO:=[
 o (.bQ (.cw (.v (.bool false)))) 2 []]
def xm:List RO:=[
 n 3 47,
 o (.bin .add (t 47) (i 1)) 48 [0],
 m 48 3 [1,0,1]]
def RH:List RO:=[
 o (.bQ (.cw (.v (.bool true)))) 2 []]
def d20:DC:=(j (y Z9)
 (j (j (y vC)
 (.cond (.tmp 41) (j (y aaa)
 .ret)
 .skip))
 (j (j (y aab)
 (.block 0 (.loop (j (j (y aac)
 (.cond (.tmp 46) .skip
 (.exit 0)))
 (j (.block 1 (j (y aad)
 (j (j (y A1)
 (.cond (.tmp 78) (j (y aae)
 .ret)
 .skip))
 (j (y aaf)
 (j (j (y aag)
 (.block 2 (j (y RD)
 (.cond (.tmp 81) (y EP)
 (j (y RE)
 (.cond (.tmp 91) (y A2)
 (j (y RF)
 (.cond (.tmp 108) (y A3)
 (j (y RG)
 (.cond (.tmp 125) (y xj)
 .skip))))))))))
 (j (y xk)
 (.cond (.tmp 150) (j (y xl)
 .ret)
 .skip)))))))
 (y xm))))))
 (j (y RH)
 .ret))))
def pE:List bO:=[.slot 2]
theorem c20 [Laid]:aQ Tryz.prog 20 151 d20 pE:=⟨Tryz.f20,by kernel_rfl,by kernel_rfl,by kernel_rfl,by kernel_rfl,by kernel_rfl⟩
def aah:List RO:=[
 o (.alloc [(.v (.int .i64 0)),(.v (.int .i64 0)),(.v (.int .i64 0)),(.v (.int .i64 0))]) 0 []]
def aai:List RO:=[
 o (.build [(.v (.int .i64 0)),(.v (.int .i64 0))] [(0,1,(i 1099511627776))]) 1 [],
 o (.build [(.v (.int .i64 0)),(.v (.int .i64 0)),(.v (.int .i64 0)),(.v (.int .i64 0))] [(0,2,(t 1)),(2,1,(i (-1)))]) 2 [0],
 S 4 0 2 [1,0,1]]
def d42:DC:=(j (y aah)
 (j (y aai)
 .ret))
def RI:List bO:=[.cell 0 4 true]
theorem c42 [Laid]:aQ Tryz.prog 42 3 d42 RI:=⟨Tryz.f42,by kernel_rfl,by kernel_rfl,by kernel_rfl,by kernel_rfl,by kernel_rfl⟩
def aaj:List RO:=[
 o (.bQ (i 0)) 4 []]
def aak:List RO:=[
 n 0 5,
 n 1 6,
 b .mul 5 6 7 [0,1],
 n 1 8,
 o (.bin .add (t 8) (i 1)) 9 [3],
 b .mul 7 9 10 [2,4],
 o (.bin .quo (t 10) (i 2)) 11 [5],
 m 11 4 (k [6] 6)]
def d23:DC:=(j (y aaj)
 (j (y aak)
 .ret))
def RJ:List bO:=[.slot 4]
theorem c23 [Laid]:aQ Tryz.prog 23 12 d23 RJ:=⟨Tryz.f23,by kernel_rfl,by kernel_rfl,by kernel_rfl,by kernel_rfl,by kernel_rfl⟩
def aal:List RO:=[
 o (.bQ (i 0)) 8 []]
def aam:List RO:=[
 o (.bQ (i 0)) 9 []]
def aan:List RO:=[
 o (.bQ (i 0)) 10 []]
def aao:List RO:=[
 n 10 11,
 n 2 12,
 b .lss 11 12 13 [0,1]]
def aap:List RO:=[
 n 9 16,
 n 1 17,
 b .add 16 17 18 [0,1],
 n 10 19,
 b .sub 18 19 20 [2,3],
 m 20 9 (k [4] 4)]
def aaq:List RO:=[
 n 10 14,
 o (.bin .add (t 14) (i 1)) 15 [0],
 m 15 10 [1,0,1]]
def aar:List RO:=[
 n 9 21,
 n 3 22,
 b .add 21 22 23 [0,1],
 n 2 24,
 b .sub 23 24 25 [2,3],
 n 0 26,
 b .mul 25 26 27 [4,5],
 m 27 8 (k [6] 6)]
def d25:DC:=(j (y aal)
 (j (y aam)
 (j (j (y aan)
 (.block 0 (.loop (j (j (y aao)
 (.cond (.tmp 13) .skip
 (.exit 0)))
 (j (.block 1 (y aap))
 (y aaq))))))
 (j (y aar)
 .ret))))
def RK:List bO:=[.slot 8]
theorem c25 [Laid]:aQ Tryz.prog 25 28 d25 RK:=⟨Tryz.f25,by kernel_rfl,by kernel_rfl,by kernel_rfl,by kernel_rfl,by kernel_rfl⟩
def aas:List RO:=[
 o (.box (t 0)) 4 [],
 o (.box (t 1)) 5 [],
 o (.alloc [(.v (.int .i64 0)),(.v (.int .i64 0)),(.v (.int .i64 0)),(.v (.int .i64 0))]) 8 []]
def aat:List RO:=[
 a 0 5 11 [],
 l 11 12 [0],
 o (.bin .geq (t 12) (i 1099511627776)) 13 [1]]
def aau:List RO:=[
 L 4 4 14 [],
 S 4 8 14 [0,0]]
def aav:List RO:=[
 L 2 5 15 [],
 a 0 4 16 [],
 L 2 16 17 [1],
 o (.call 92 [(t 15),(t 17)]) 18 [0,2],
 m 18 9 [3,3,0,1,2,3]]
def Dg:List RO:=[
 L 2 5 19 [],
 a 0 4 20 [],
 L 2 20 21 [1],
 o (.eqT false true [(.int .i64),(.int .i64)] (t 19) (t 21)) 22 [0,2],
 m 22 23 [3],
 w 2 24 23 true [4],
 u 2 4 25 23 true [4],
 v 25 26 23 true [6,4],
 g (.bin .lss (t 24) (t 26)) 27 23 true [5,7,4],
 w 27 28 23 true [8,4,4],
 w 2 29 28 false [9],
 u 2 4 30 28 false [9],
 v 30 31 28 false [11,9],
 g (.bin .eql (t 29) (t 31)) 32 28 false [10,12,9],
 w 32 33 28 false [13,9,9],
 w 3 34 33 true [14],
 u 3 4 35 33 true [14],
 v 35 36 33 true [16,14],
 g (.bin .lss (t 34) (t 36)) 37 33 true [15,17,14],
 g (.pick (t 33) (t 37) (.cw (.v (.bool false)))) 38 28 false [14,18,9],
 g (.pick (t 28) (.cw (.v (.bool true))) (t 38)) 39 23 true [9,19,4],
 q 23 39 40 [4,20],
 m 40 10 (k [21,14] 21)]
def aaw:List RO:=[
 n 9 41,
 m 41 42 [0],
 w 10 43 42 false [1],
 p 42 43 44 [1,2]]
def aax:List RO:=[
 L 2 5 45 [],
 n 2 46,
 n 3 47,
 o (.build [(.v (.int .i64 0)),(.v (.int .i64 0)),(.v (.int .i64 0)),(.v (.int .i64 0))] [(0,2,(t 45)),(2,1,(t 46)),(3,1,(t 47))]) 48 [0,1,2],
 S 4 8 48 [3,0,1,2,3]]
def aay:List RO:=[
 L 4 4 49 [],
 S 4 8 49 [0,0]]
def d68:DC:=(j (y aas)
 (j (j (y aat)
 (.cond (.tmp 13) (j (y aau)
 .ret)
 .skip))
 (j (y aav)
 (j (y Dg)
 (j (j (y aaw)
 (.cond (.tmp 44) (j (y aax)
 .ret)
 .skip))
 (j (y aay)
 .ret))))))
def ER:List bO:=[.cell 8 4 true]
theorem c68 [Laid]:aQ Tryz.prog 68 50 d68 ER:=⟨Tryz.f68,by kernel_rfl,by kernel_rfl,by kernel_rfl,by kernel_rfl,by kernel_rfl⟩
def aaz:List RO:=[
 o (.box (t 0)) 2 [],
 o (.box (t 1)) 3 [],
 o (.alloc [(.v (.int .i64 0)),(.v (.int .i64 0)),(.v (.int .i64 0)),(.v (.int .i64 0))]) 4 []]
def A4:List RO:=[
 a 0 3 6 [],
 l 6 7 [0],
 o (.bin .lss (t 7) (i 0)) 8 [1],
 m 8 9 [2],
 u 0 3 10 9 false [3],
 v 10 11 9 false [4,3],
 u 0 2 12 9 false [3],
 v 12 13 9 false [6,3],
 g (.bin .geq (t 11) (t 13)) 14 9 false [5,7,3],
 p 9 14 15 [3,8],
 m 15 16 [9,3],
 u 1 3 17 16 false [10],
 v 17 18 16 false [11,10],
 g (.bin .lss (t 18) (i 0)) 19 16 false [12,10],
 p 16 19 20 [10,13],
 m 20 21 [14,10],
 u 2 3 22 21 false [15],
 v 22 23 21 false [16,15],
 u 1 3 24 21 false [15],
 v 24 25 21 false [18,15],
 g (.bin .lss (t 23) (t 25)) 26 21 false [17,19,15],
 p 21 26 27 [15,20],
 m 27 28 [21,15],
 u 2 3 29 28 false [22],
 v 29 30 28 false [23,22],
 u 1 2 31 28 false [22],
 v 31 32 28 false [25,22],
 g (.bin .geq (t 30) (t 32)) 33 28 false [24,26,22],
 p 28 33 34 [22,27]]
def aaA:List RO:=[
 o (.call 42 []) 35 [],
 S 4 4 35 [0,0,0]]
def aaB:List RO:=[
 a 0 2 36 [],
 l 36 37 [0],
 a 1 2 38 [],
 l 38 39 [2],
 a 1 3 40 [],
 l 40 41 [4],
 a 2 3 42 [],
 l 42 43 [6],
 o (.call 25 [(t 37),(t 39),(t 41),(t 43)]) 44 [1,3,5,7],
 a 0 3 45 [],
 l 45 46 [9],
 b .add 44 46 47 [8,10],
 m 47 5 (k [11,8] 11)]
def aaC:List RO:=[
 n 5 48,
 a 2 2 49 [],
 l 49 50 [1],
 o (.len (t 50)) 51 [2],
 b .geq 48 51 52 [0,3]]
def aaD:List RO:=[
 o (.call 42 []) 53 [],
 S 4 4 53 [0,0,0]]
def aaE:List RO:=[
 a 2 2 54 [],
 l 54 55 [0],
 n 5 56,
 x 4 55 56 57 [1,2],
 L 4 57 58 [3],
 S 4 4 58 (k [4] 4)]
def d19:DC:=(j (y aaz)
 (j (j (y A4)
 (.cond (.tmp 34) (j (y aaA)
 .ret)
 .skip))
 (j (Y aaB)
 (j (j (y aaC)
 (.cond (.tmp 52) (j (y aaD)
 .ret)
 .skip))
 (j (y aaE)
 .ret)))))
def ES:List bO:=[.cell 4 4 true]
theorem c19 [Laid]:aQ Tryz.prog 19 59 d19 ES:=⟨Tryz.f19,by kernel_rfl,by kernel_rfl,by kernel_rfl,by kernel_rfl,by kernel_rfl⟩
def aaF:List RO:=[
 o (.box (t 0)) 5 [],
 o (.box (t 4)) 9 [],
 o (.alloc [(.v (.int .i64 0)),(.v (.int .i64 0))]) 10 []]
def MV:List RO:=[
 a 1 9 11 [],
 l 11 12 [0],
 n 2 13,
 b .eql 12 13 14 [1,2],
 m 14 15 [3],
 u 2 9 16 15 true [4],
 v 16 17 15 true [5,4],
 w 3 18 15 true [4],
 g (.bin .eql (t 17) (t 18)) 19 15 true [6,7,4],
 q 15 19 20 [4,8]]
def aaG:List RO:=[
 n 1 21,
 a 0 9 22 [],
 l 22 23 [1],
 x 4 21 23 24 [0,2],
 a 0 24 25 [3],
 L 2 25 26 [4],
 S 2 10 26 (k [5] 5)]
def aaH:List RO:=[
 L 3 5 27 [],
 L 3 9 28 [],
 o (.call 19 [(t 27),(t 28)]) 29 [0,1],
 o (.field 0 2 true (t 29)) 30 [2],
 S 2 10 30 [3,2,0,1,2,3]]
def d70:DC:=(j (y aaF)
 (j (j (y MV)
 (.cond (.tmp 20) (j (y aaG)
 .ret)
 .skip))
 (j (y aaH)
 .ret)))
def Ki:List bO:=[.cell 10 2 true]
theorem c70 [Laid]:aQ Tryz.prog 70 31 d70 Ki:=⟨Tryz.f70,by kernel_rfl,by kernel_rfl,by kernel_rfl,by kernel_rfl,by kernel_rfl⟩
def Hb:List RO:=[
 o (.box (t 0)) 7 [],
 o (.box (t 1)) 8 [],
 o (.box (t 2)) 9 [],
 o (.alloc [(.v (.int .i64 0)),(.v (.int .i64 0)),(.v (.int .i64 0)),(.v (.int .i64 0))]) 14 []]
def MW:List RO:=[
 a 3 7 22 [],
 l 22 23 [0],
 n 6 24,
 x 6 23 24 25 [1,2],
 L 6 25 26 [3],
 o (.alloc [(.v (.int .i64 0)),(.v (.int .i64 0)),(.v (.int .i64 0)),(.v (.int .i64 0)),(.v (.int .i64 0)),(.v (.int .i64 0))]) 15 [],
 S 6 15 26 (k [5,4] 5)]
def MX:List RO:=[
 n 3 27,
 a 1 15 28 [],
 l 28 29 [1],
 x 4 27 29 30 [0,2],
 L 4 30 31 [3],
 o (.alloc [(.v (.int .i64 0)),(.v (.int .i64 0)),(.v (.int .i64 0)),(.v (.int .i64 0))]) 16 [],
 S 4 16 31 (k [5,4] 5)]
def Hc:List RO:=[
 a 0 15 32 [],
 l 32 33 [0]]
def Hd:List RO:=[
 o (.bin .eql (t 33) (i 1)) 71 [],
 m 71 70 [0]]
def aaI:List RO:=[
 n 4 72,
 n 5 73,
 b .eql 72 73 74 [0,1]]
def aaJ:List RO:=[
 L 4 16 75 [],
 a 4 15 76 [],
 l 76 77 [1],
 o (.call 69 [(t 77),(.cw .aH)]) 78 [2],
 n 6 79,
 n 4 80,
 o (.call 68 [(t 75),(t 78),(t 79),(t 80)]) 81 [0,3,4,5,3],
 S 4 16 81 (k [6,6] 6)]
def aaK:List RO:=[
 o (.bin .eql (t 33) (i 2)) 83 [],
 m 83 82 [0]]
def aaL:List RO:=[
 o (.bQ (i 0)) 17 []]
def aaM:List RO:=[
 n 17 84,
 a 1 8 85 [],
 l 85 86 [1],
 o (.len (t 86)) 87 [2],
 b .lss 84 87 88 [0,3]]
def A5:List RO:=[
 a 1 8 91 [],
 l 91 92 [0],
 n 17 93,
 x 5 92 93 94 [1,2],
 a 0 94 95 [3],
 l 95 96 [4],
 n 4 97,
 b .eql 96 97 98 [5,6],
 m 98 99 [7],
 u 1 8 100 99 true [8],
 v 100 101 99 true [9,8],
 w 17 102 99 true [8],
 g (.idxAddr 5 (t 101) (t 102)) 103 99 true [10,11,8],
 u 1 103 104 99 true [12,8],
 v 104 105 99 true [13,8],
 w 5 106 99 true [8],
 g (.bin .eql (t 105) (t 106)) 107 99 true [14,15,8],
 q 99 107 108 [8,16],
 m 108 109 [17,8],
 u 1 8 110 109 true [18],
 v 110 111 109 true [19,18],
 w 17 112 109 true [18],
 g (.idxAddr 5 (t 111) (t 112)) 113 109 true [20,21,18],
 u 2 113 114 109 true [22,18],
 v 114 115 109 true [23,18],
 u 2 15 116 109 true [18],
 v 116 117 109 true [25,18],
 g (.bin .eql (t 115) (t 117)) 118 109 true [24,26,18],
 q 109 118 119 [18,27]]
def RL:List RO:=[
 L 4 16 120 [],
 a 4 15 121 [],
 l 121 122 [1],
 a 1 8 123 [],
 l 123 124 [3],
 n 17 125,
 x 5 124 125 126 [4,5],
 a 3 126 127 [6],
 l 127 128 [7],
 b .add 122 128 129 [2,8],
 o (.call 69 [(t 129),(.cw .aH)]) 130 [9],
 n 6 131,
 n 17 132,
 o (.call 68 [(t 120),(t 130),(t 131),(t 132)]) 133 [0,10,11,12,10],
 S 4 16 133 (k [13,13] 13)]
def Kj:List RO:=[
 n 17 89,
 o (.bin .add (t 89) (i 1)) 90 [0],
 m 90 17 [1,0,1]]
def RM:List RO:=[
 o (.bin .eql (t 33) (i 3)) 135 [],
 m 135 134 [0]]
def RN:List RO:=[
 L 3 9 136 [],
 n 3 137,
 n 4 138,
 n 5 139,
 a 2 15 140 [],
 l 140 141 [4],
 n 4 142,
 n 5 143,
 o (.build [(.v (.int .i64 0)),(.v (.int .i64 0)),(.v (.int .i64 0))] [(0,1,(t 141)),(1,1,(t 142)),(2,1,(t 143))]) 144 [5,6,7],
 o (.call 70 [(t 136),(t 137),(t 138),(t 139),(t 144)]) 145 [0,1,2,3,8],
 o (.alloc [(.v (.int .i64 0)),(.v (.int .i64 0))]) 18 [],
 S 2 18 145 (k [10,9,9] 10)]
def RP:List RO:=[
 L 4 16 146 [],
 a 4 15 147 [],
 l 147 148 [1],
 L 2 18 149 [],
 o (.bslice 1 2 [(.v (.int .i64 0)),(.v (.int .i64 0))] [(0,2,(t 149))]) 150 [3],
 o (.call 69 [(t 148),(t 150)]) 151 [2,4],
 n 6 152,
 n 4 153,
 o (.call 68 [(t 146),(t 151),(t 152),(t 153)]) 154 [0,5,6,7,5],
 S 4 16 154 (k [8,8] 8)]
def RQ:List RO:=[
 n 4 34,
 m 34 19 [0,0]]
def RU:List RO:=[
 n 19 35,
 n 5 36,
 b .leq 35 36 37 [0,1]]
def RW:List RO:=[
 L 3 9 40 [],
 n 3 41,
 n 4 42,
 n 5 43,
 a 2 15 44 [],
 l 44 45 [4],
 n 4 46,
 n 19 47,
 o (.build [(.v (.int .i64 0)),(.v (.int .i64 0)),(.v (.int .i64 0))] [(0,1,(t 45)),(1,1,(t 46)),(2,1,(t 47))]) 48 [5,6,7],
 o (.call 70 [(t 40),(t 41),(t 42),(t 43),(t 48)]) 49 [0,1,2,3,8],
 o (.alloc [(.v (.int .i64 0)),(.v (.int .i64 0))]) 20 [],
 S 2 20 49 (k [10,9,9] 10)]
def RX:List RO:=[
 L 3 9 50 [],
 n 3 51,
 n 4 52,
 n 5 53,
 a 3 15 54 [],
 l 54 55 [4],
 n 19 56,
 n 5 57,
 o (.build [(.v (.int .i64 0)),(.v (.int .i64 0)),(.v (.int .i64 0))] [(0,1,(t 55)),(1,1,(t 56)),(2,1,(t 57))]) 58 [5,6,7],
 o (.call 70 [(t 50),(t 51),(t 52),(t 53),(t 58)]) 59 [0,1,2,3,8],
 o (.alloc [(.v (.int .i64 0)),(.v (.int .i64 0))]) 21 [],
 S 2 21 59 (k [10,9,9] 10)]
def RY:List RO:=[
 L 4 16 60 [],
 a 4 15 61 [],
 l 61 62 [1],
 L 2 20 63 [],
 L 2 21 64 [],
 o (.bslice 2 2 [(.v (.int .i64 0)),(.v (.int .i64 0)),(.v (.int .i64 0)),(.v (.int .i64 0))] [(0,2,(t 63)),(2,2,(t 64))]) 65 [3,4],
 o (.call 69 [(t 62),(t 65)]) 66 [2,5],
 n 6 67,
 n 19 68,
 o (.call 68 [(t 60),(t 66),(t 67),(t 68)]) 69 [0,6,7,8,6],
 S 4 16 69 (k [9,9] 9)]
def RZ:List RO:=[
 n 19 38,
 o (.bin .add (t 38) (i 1)) 39 [0],
 m 39 19 [1,0,1]]
def xn:List RO:=[
 L 4 16 155 [],
 S 4 14 155 [0,0]]
def d46:DC:=(j (y Hb)
 (j (y MW)
 (j (y MX)
 (j (j (y Hc)
 (.block 0 (j (y Hd)
 (.cond (.tmp 70) (j (y aaI)
 (.cond (.tmp 74) (Y aaJ)
 .skip))
 (j (y aaK)
 (.cond (.tmp 82) (j (y aaL)
 (.block 3 (.loop (j (j (y aaM)
 (.cond (.tmp 88) .skip
 (.exit 3)))
 (j (.block 4 (j (Y A5)
 (.cond (.tmp 119) (Y RL)
 .skip)))
 (y Kj))))))
 (j (y RM)
 (.cond (.tmp 134) (j (y RN)
 (Y RP))
 (j (y RQ)
 (.block 1 (.loop (j (j (y RU)
 (.cond (.tmp 37) .skip
 (.exit 1)))
 (j (.block 2 (j (y RW)
 (j (y RX)
 (Y RY))))
 (y RZ))))))))))))))
 (j (y xn)
 .ret)))))
def pF:List bO:=[.cell 14 4 true]
theorem c46 [Laid]:aQ Tryz.prog 46 156 d46 pF:=⟨Tryz.f46,by kernel_rfl,by kernel_rfl,by kernel_rfl,by kernel_rfl,by kernel_rfl⟩
def aaN:List RO:=[
 o (.box (t 0)) 5 [],
 o (.box (t 1)) 6 [],
 o (.box (t 2)) 7 [],
 o (.bQ (.cw .aH)) 10 []]
def aaO:List RO:=[
 o (.bQ (.cw .aH)) 11 []]
def aaP:List RO:=[
 o (.bQ (i 0)) 12 []]
def aaQ:List RO:=[
 n 12 16,
 a 1 5 17 [],
 l 17 18 [1],
 b .lss 16 18 19 [0,2]]
def aaR:List RO:=[
 n 11 22,
 o (.call 42 []) 23 [],
 o (.bslice 1 4 [(.v (.int .i64 0)),(.v (.int .i64 0)),(.v (.int .i64 0)),(.v (.int .i64 0))] [(0,4,(t 23))]) 24 [1],
 o (.append 57 4 32 (t 22) (t 24)) 25 [0,2,1],
 m 25 11 [3,3,0,1,2,3]]
def aaS:List RO:=[
 n 12 20,
 o (.bin .add (t 20) (i 1)) 21 [0],
 m 21 12 [1,0,1]]
def aaT:List RO:=[
 o (.bQ (.cw (.v (.bool true)))) 13 []]
def aaU:List RO:=[
 n 13 26]
def aaV:List RO:=[
 o (.bQ (.cw (.v (.bool false)))) 13 []]
def aaW:List RO:=[
 o (.bQ (i 0)) 14 []]
def R5:List RO:=[
 n 14 27,
 a 3 5 28 [],
 l 28 29 [1],
 o (.len (t 29)) 30 [2],
 b .lss 27 30 31 [0,3]]
def R6:List RO:=[
 L 4 5 34 [],
 L 3 6 35 [],
 L 3 7 36 [],
 n 11 37,
 n 3 38,
 n 4 39,
 n 14 40,
 o (.call 46 [(t 34),(t 35),(t 36),(t 37),(t 38),(t 39),(t 40)]) 41 (k [] 6),
 o (.alloc [(.v (.int .i64 0)),(.v (.int .i64 0)),(.v (.int .i64 0)),(.v (.int .i64 0))]) 15 [],
 S 4 15 41 (k [8,7,7] 8)]
def R7:List RO:=[
 L 4 15 42 [],
 n 11 43,
 a 3 5 44 [],
 l 44 45 [2],
 n 14 46,
 x 6 45 46 47 [3,4],
 a 1 47 48 [5],
 l 48 49 [6],
 x 4 43 49 50 [1,7],
 L 4 50 51 [8],
 o (.eqT true true [(.int .i64),(.int .i64),(.int .i64),(.int .i64)] (t 42) (t 51)) 52 [0,9]]
def R8:List RO:=[
 n 11 53,
 a 3 5 54 [],
 l 54 55 [1],
 n 14 56,
 x 6 55 56 57 [2,3],
 a 1 57 58 [4],
 l 58 59 [5],
 L 4 15 60 [],
 x 4 53 59 61 (k [0,6] 7),
 S 4 61 60 (k [8,7] 7),
 o (.bQ (.cw (.v (.bool true)))) 13 (k [9] 9)]
def Kk:List RO:=[
 n 14 32,
 o (.bin .add (t 32) (i 1)) 33 [0],
 m 33 14 [1,0,1]]
def R9:List RO:=[
 n 11 62,
 m 62 10 [0,0]]
def d24:DC:=(j (y aaN)
 (j (y aaO)
 (j (j (y aaP)
 (.block 0 (.loop (j (j (y aaQ)
 (.cond (.tmp 19) .skip
 (.exit 0)))
 (j (.block 1 (y aaR))
 (y aaS))))))
 (j (j (y aaT)
 (.block 2 (.loop (j (j (y aaU)
 (.cond (.tmp 26) .skip
 (.exit 2)))
 (.block 3 (j (y aaV)
 (j (y aaW)
 (.block 4 (.loop (j (j (y R5)
 (.cond (.tmp 31) .skip
 (.exit 4)))
 (j (.block 5 (j (y R6)
 (j (Y R7)
 (.cond (.tmp 52) (Y R8)
 .skip))))
 (y Kk))))))))))))
 (j (y R9)
 .ret)))))
def d24res:List bO:=[.slot 10]
theorem c24 [Laid]:aQ Tryz.prog 24 63 d24 d24res:=⟨Tryz.f24,by kernel_rfl,by kernel_rfl,by kernel_rfl,by kernel_rfl,by kernel_rfl⟩
def aaX:List RO:=[
 o (.box (t 0)) 2 [],
 o (.box (t 1)) 3 [],
 o (.alloc [(.v (.int .i64 0)),(.v (.int .i64 0)),.aH]) 4 []]
def aaY:List RO:=[
 a 1 2 11 [],
 l 11 12 [0],
 a 0 3 13 [],
 l 13 14 [2],
 a 1 2 15 [],
 l 15 16 [4],
 a 0 3 17 [],
 l 17 18 [6],
 o (.call 23 [(t 16),(t 18)]) 19 [5,7],
 o (.mkSlice 57 4 32 [(.int .i64 0),(.int .i64 0),(.int .i64 0),(.int .i64 0)] (t 19)) 20 [8,8],
 o (.build [(.v (.int .i64 0)),(.v (.int .i64 0)),.aH] [(0,1,(t 12)),(1,1,(t 14)),(2,1,(t 20))]) 21 [1,3,9],
 o (.alloc [(.v (.int .i64 0)),(.v (.int .i64 0)),.aH]) 5 [],
 S 3 5 21 (k [11,10,8] 11)]
def aaZ:List RO:=[
 o (.bQ (i 0)) 6 []]
def aa0:List RO:=[
 n 6 22,
 a 0 3 23 [],
 l 23 24 [1],
 b .lss 22 24 25 [0,2]]
def aa1:List RO:=[
 o (.bQ (i 0)) 7 []]
def aa2:List RO:=[
 n 7 28,
 n 6 29,
 b .add 28 29 30 [0,1],
 a 0 3 31 [],
 l 31 32 [3],
 b .lss 30 32 33 [2,4]]
def Kl:List RO:=[
 L 4 2 36 [],
 L 3 3 37 [],
 L 3 5 38 [],
 n 7 39,
 n 7 40,
 n 6 41,
 b .add 40 41 42 [4,5],
 o (.callF 24 [(t 36),(t 37),(t 38),(t 39),(t 42)]) 43 [0,1,2,3,6],
 m 43 8 (k [7,7] 7)]
def d11r6:List RO:=Kl.map bare
def aa3:List RO:=[
 a 1 2 44 [],
 l 44 45 [0],
 a 0 3 46 [],
 l 46 47 [2],
 n 7 48,
 n 7 49,
 n 6 50,
 b .add 49 50 51 [5,6],
 o (.call 25 [(t 45),(t 47),(t 48),(t 51)]) 52 [1,3,4,7],
 m 52 9 (k [8,8] 8)]
def aa4:List RO:=[
 o (.bQ (i 0)) 10 []]
def aa5:List RO:=[
 n 10 53,
 n 8 54,
 o (.len (t 54)) 55 [1],
 b .lss 53 55 56 [0,2]]
def Sa:List RO:=[
 a 2 5 59 [],
 l 59 60 [0],
 n 9 61,
 n 10 62,
 b .add 61 62 63 [2,3],
 n 8 64,
 n 10 65,
 x 4 64 65 66 [5,6],
 L 4 66 67 [7],
 x 4 60 63 68 (k [1,4] 8),
 S 4 68 67 (k [9,8] 8)]
def Sb:List RO:=[
 n 10 57,
 o (.bin .add (t 57) (i 1)) 58 [0],
 m 58 10 [1,0,1]]
def Sc:List RO:=[
 n 7 34,
 o (.bin .add (t 34) (i 1)) 35 [0],
 m 35 7 [1,0,1]]
def Sd:List RO:=[
 n 6 26,
 o (.bin .add (t 26) (i 1)) 27 [0],
 m 27 6 [1,0,1]]
def Se:List RO:=[
 L 3 5 69 [],
 S 3 4 69 [0,0]]
def d11:DC:=(j (y aaX)
 (j (Y aaY)
 (j (j (y aaZ)
 (.block 0 (.loop (j (j (y aa0)
 (.cond (.tmp 25) .skip
 (.exit 0)))
 (j (.block 1 (j (y aa1)
 (.block 2 (.loop (j (j (y aa2)
 (.cond (.tmp 33) .skip
 (.exit 2)))
 (j (.block 3 (j (y d11r6)
 (j (y aa3)
 (j (y aa4)
 (.block 4 (.loop (j (j (y aa5)
 (.cond (.tmp 56) .skip
 (.exit 4)))
 (j (.block 5 (Y Sa))
 (y Sb)))))))))
 (y Sc)))))))
 (y Sd))))))
 (j (y Se)
 .ret))))
def Sf:List bO:=[.cell 4 3 true]
theorem c11 [Laid]:aQ Tryz.prog 11 70 d11 Sf:=⟨Tryz.f11,by kernel_rfl,by kernel_rfl,by kernel_rfl,by kernel_rfl,by kernel_rfl⟩
def He:List RO:=[
 o (.box (t 0)) 4 [],
 o (.alloc [.aH,.aH,(.v (.int .i64 0))]) 8 []]
def Dh:List RO:=[
 L 3 4 10 [],
 o (.alloc [.aH,.aH,(.v (.int .i64 0))]) 9 [],
 S 3 9 10 [1,0,0,1]]
def Sg:List RO:=[
 o (.bslice 0 3 [] []) 11 [],
 a 0 4 12 [],
 l 12 13 [1],
 n 1 14,
 o (.slice 3 (t 13) none (some (t 14))) 15 [2,3],
 o (.append 70 3 40 (t 11) (t 15)) 16 [0,4],
 n 3 17,
 o (.append 70 3 40 (t 16) (t 17)) 18 [5,6,5],
 a 0 4 19 [],
 l 19 20 [8],
 n 1 21,
 n 2 22,
 b .add 21 22 23 [10,11],
 o (.slice 3 (t 20) (some (t 23)) none) 24 [9,12],
 o (.append 70 3 40 (t 18) (t 24)) 25 [7,13,7],
 a 0 9 26 (k [] 14),
 S 1 26 25 (k [15,14,14] 14)]
def aa6:List RO:=[
 L 3 9 27 [],
 S 3 8 27 [0,0]]
def d38:DC:=(j (y He)
 (j (y Dh)
 (j (.jX Sg)
 (j (y aa6)
 .ret))))
def A6:List bO:=[.cell 8 3 true]
theorem c38 [Laid]:aQ Tryz.prog 38 28 d38 A6:=⟨Tryz.f38,by kernel_rfl,by kernel_rfl,by kernel_rfl,by kernel_rfl,by kernel_rfl⟩
def Hf:List RO:=[
 o (.box (t 0)) 1 [],
 o (.alloc [.aH,.aH,(.v (.int .i64 0))]) 2 []]
def Hg:List RO:=[
 a 4 1 3 [],
 L 3 3 4 [0],
 a 7 1 5 [],
 l 5 6 [2],
 a 8 1 7 [],
 l 7 8 [4],
 a 9 1 9 [],
 l 9 10 [6],
 o (.call 38 [(t 4),(t 6),(t 8),(t 10)]) 11 [1,3,5,7],
 S 3 2 11 (k [8,8] 8)]
def d14:DC:=(j (y Hf)
 (j (y Hg)
 .ret))
def A7:List bO:=[.cell 2 3 true]
theorem c14 [Laid]:aQ Tryz.prog 14 12 d14 A7:=⟨Tryz.f14,by kernel_rfl,by kernel_rfl,by kernel_rfl,by kernel_rfl,by kernel_rfl⟩
def aa7:List RO:=[
 o (.box (t 0)) 1 [],
 o (.alloc [(.v (.int .i64 0)),(.v (.int .i64 0)),(.v (.int .i64 0))]) 2 []]
def aa8:List RO:=[
 a 7 1 3 [],
 l 3 4 [0],
 a 8 1 5 [],
 l 5 6 [2],
 a 9 1 7 [],
 l 7 8 [4],
 o (.len (t 8)) 9 [5],
 o (.build [(.v (.int .i64 0)),(.v (.int .i64 0)),(.v (.int .i64 0))] [(0,1,(t 4)),(1,1,(t 6)),(2,1,(t 9))]) 10 [1,3,6],
 S 3 2 10 (k [7] 7)]
def d15:DC:=(j (y aa7)
 (j (y aa8)
 .ret))
def Si:List bO:=[.cell 2 3 true]
theorem c15 [Laid]:aQ Tryz.prog 15 11 d15 Si:=⟨Tryz.f15,by kernel_rfl,by kernel_rfl,by kernel_rfl,by kernel_rfl,by kernel_rfl⟩
def d9r0:List RO:=[
 o (.box (t 0)) 1 [],
 o (.bQ (.cw (.v (.bool false)))) 2 []]
def xo:List RO:=[
 a 0 1 3 [],
 a 3 3 4 [0],
 l 4 5 [1],
 o (.len (t 5)) 6 [2],
 o (.bin .gtr (t 6) (i 14)) 7 [3],
 m 7 8 [4],
 u 0 1 9 8 false [5],
 u 1 9 10 8 false [6,5],
 v 10 11 8 false [7,5],
 g (.bin .gtr (t 11) (i 8)) 12 8 false [8,5],
 p 8 12 13 [5,9],
 m 13 14 [10,5],
 u 0 1 15 14 false [11],
 u 0 15 16 14 false [12,11],
 v 16 17 14 false [13,11],
 g (.bin .gtr (t 17) (i 5)) 18 14 false [14,11],
 p 14 18 19 [11,15],
 m 19 20 [16,11],
 u 0 1 21 20 false [17],
 g (.load 4 true (t 21)) 22 20 false [18,17],
 g (.call 20 [(t 22)]) 23 20 false [19,17,17],
 g (.un .not (t 23)) 24 20 false [20,17],
 p 20 24 25 [17,21],
 m 25 26 [22,20],
 u 4 1 27 26 false [23],
 u 0 27 28 26 false [24,23],
 v 28 29 26 false [25,23],
 g (.len (t 29)) 30 26 false [26,23],
 g (.bin .gtr (t 30) (i 4)) 31 26 false [27,23],
 p 26 31 32 [23,28],
 m 32 33 [29,23],
 u 9 1 34 33 false [30],
 v 34 35 33 false [31,30],
 g (.len (t 35)) 36 33 false [32,30],
 g (.bin .gtr (t 36) (i 3)) 37 33 false [33,30],
 p 33 37 38 [30,34],
 m 38 39 [35,30],
 u 4 1 40 39 false [36],
 g (.load 3 true (t 40)) 41 39 false [37,36],
 u 0 1 42 39 false [36],
 u 0 42 43 39 false [39,36],
 v 43 44 39 false [40,36],
 g (.call 21 [(t 41),(t 44)]) 45 39 false [38,41,36,36],
 g (.un .not (t 45)) 46 39 false [42,36],
 p 39 46 47 [36,43],
 m 47 48 [44,42],
 u 7 1 49 48 false [45],
 v 49 50 48 false [46,45],
 g (.bin .lss (t 50) (i 0)) 51 48 false [47,45],
 p 48 51 52 [45,48],
 m 52 53 [49,45],
 u 8 1 54 53 false [50],
 v 54 55 53 false [51,50],
 g (.bin .lss (t 55) (i 0)) 56 53 false [52,50],
 p 53 56 57 [50,53],
 m 57 58 [54,50],
 u 7 1 59 58 false [55],
 v 59 60 58 false [56,55],
 u 4 1 61 58 false [55],
 u 0 61 62 58 false [58,55],
 v 62 63 58 false [59,55],
 g (.len (t 63)) 64 58 false [60,55],
 g (.bin .gtr (t 60) (t 64)) 65 58 false [57,61,55],
 p 58 65 66 [55,62],
 m 66 67 [63,55],
 u 8 1 68 67 false [64],
 v 68 69 67 false [65,64],
 u 4 1 70 67 false [64],
 u 0 70 71 67 false [67,64],
 v 71 72 67 false [68,64],
 g (.len (t 72)) 73 67 false [69,64],
 u 7 1 74 67 false [64],
 v 74 75 67 false [71,64],
 g (.bin .sub (t 73) (t 75)) 76 67 false [70,72,64],
 g (.bin .gtr (t 69) (t 76)) 77 67 false [66,73,64],
 p 67 77 78 [64,74]]
def d9r2:List RO:=[
 o (.bQ (.cw (.v (.bool false)))) 2 []]
def d9r3:List RO:=[
 L 10 1 79 [],
 o (.call 14 [(t 79)]) 80 [0],
 a 0 1 81 [],
 a 0 81 82 [2],
 l 82 83 [3],
 o (.call 21 [(t 80),(t 83)]) 84 [1,4,1],
 m 84 85 [5,5],
 u 0 1 86 85 true [6],
 g (.load 4 true (t 86)) 87 85 true [7,6],
 u 4 1 88 85 true [6],
 u 1 88 89 85 true [9,6],
 v 89 90 85 true [10,6],
 g (.call 22 [(t 87),(t 90)]) 91 85 true [8,11,6,6],
 q 85 91 92 [6,12],
 m 92 2 (k [13,12] 13)]
def d9:DC:=(j (y d9r0)
 (j (j (y xo)
 (.cond (.tmp 78) (j (y d9r2)
 .ret)
 .skip))
 (j (Y d9r3)
 .ret)))
def Sj:List bO:=[.slot 2]
theorem c9 [Laid]:aQ Tryz.prog 9 93 d9 Sj:=⟨Tryz.f9,by kernel_rfl,by kernel_rfl,by kernel_rfl,by kernel_rfl,by kernel_rfl⟩
def aa9:List RO:=[
 o (.bQ (.cw (.v (.bool false)))) 0 []]
def aba:List RO:=[
 o (.build [(.v (.int .i64 0)),(.v (.int .i64 0)),(.v (.int .i64 0))] [(0,1,(i 1)),(1,1,(i 1)),(2,1,(i 1))]) 15 [],
 o (.alloc [(.v (.int .i64 0)),(.v (.int .i64 0)),(.v (.int .i64 0))]) 1 [],
 S 3 1 15 [1,0,0,1]]
def abb:List RO:=[
 o (.build [(.v (.int .i64 0)),(.v (.int .i64 0)),(.v (.int .i64 0))] [(0,1,(i 2)),(1,1,(i 0)),(2,1,(i 2))]) 17 [],
 L 3 1 18 [],
 o (.call 18 [(t 17),(t 18),(i 7)]) 19 [0,1],
 m 19 16 [2],
 e 0 16 20 [3],
 e 1 16 21 [3],
 o (.alloc [(.v (.int .i64 0)),(.v (.int .i64 0)),(.v (.int .i64 0))]) 2 [],
 S 3 2 20 [6,4,2,0,1,2,3,4,6],
 m 21 3 (k [5,7] 7)]
def abc:List RO:=[
 o (.build [(.v (.int .i64 0)),(.v (.int .i64 0)),(.v (.int .i64 0))] [(0,1,(i 1)),(1,1,(i 4)),(2,1,(i 6))]) 23 [],
 L 3 1 24 [],
 o (.call 18 [(t 23),(t 24),(i 7)]) 25 [0,1],
 m 25 22 [2],
 e 0 22 26 [3],
 e 1 22 27 [3],
 o (.alloc [(.v (.int .i64 0)),(.v (.int .i64 0)),(.v (.int .i64 0))]) 4 [],
 S 3 4 26 [6,4,2,0,1,2,3,4,6],
 m 27 5 (k [5,7] 7)]
def abd:List RO:=[
 o (.build [(.v (.int .i64 0)),(.v (.int .i64 0)),(.v (.int .i64 0))] [(1,1,(i 2)),(2,1,(i 4))]) 29 [],
 L 3 1 30 [],
 o (.call 18 [(t 29),(t 30),(i 7)]) 31 [0,1],
 m 31 28 [2],
 e 0 28 32 [3],
 e 1 28 33 [3],
 o (.alloc [(.v (.int .i64 0)),(.v (.int .i64 0)),(.v (.int .i64 0))]) 6 [],
 S 3 6 32 [6,4,2,0,1,2,3,4,6],
 m 33 7 (k [5,7] 7)]
def abe:List RO:=[
 o (.build [(.v (.int .i64 0)),(.v (.int .i64 0)),(.v (.int .i64 0))] [(1,1,(i 0)),(2,1,(i 1))]) 35 [],
 L 3 1 36 [],
 o (.call 18 [(t 35),(t 36),(i 7)]) 37 [0,1],
 m 37 34 [2],
 e 0 34 38 [3],
 e 1 34 39 [3],
 o (.alloc [(.v (.int .i64 0)),(.v (.int .i64 0)),(.v (.int .i64 0))]) 8 [],
 S 3 8 38 [6,4,2,0,1,2,3,4,6],
 m 39 9 (k [5,7] 7)]
def abf:List RO:=[
 o (.build [(.v (.int .i64 0)),(.v (.int .i64 0)),(.v (.int .i64 0))] [(1,1,(i 4)),(2,1,(i 6))]) 41 [],
 o (.build [(.v (.int .i64 0)),(.v (.int .i64 0)),(.v (.int .i64 0))] [(0,1,(i 1)),(2,1,(i 2))]) 42 [],
 o (.call 18 [(t 41),(t 42),(i 7)]) 43 [0,1],
 m 43 40 [2],
 e 0 40 44 [3],
 e 1 40 45 [3],
 o (.alloc [(.v (.int .i64 0)),(.v (.int .i64 0)),(.v (.int .i64 0))]) 10 [],
 S 3 10 44 [6,4,2,0,1,2,3,4,6],
 m 45 11 (k [5,7] 7)]
def abg:List RO:=[
 o (.build [(.v (.int .i64 0)),(.v (.int .i64 0)),(.v (.int .i64 0)),.aH] [(0,1,(i 1)),(1,1,(i 1))]) 47 [],
 o (.build [(.v (.int .i64 0)),(.v (.int .i64 0)),.aH] []) 48 [],
 o (.bslice 1 1 [(.v (.int .i64 0))] [(0,1,(i 1))]) 49 [],
 o (.build [.aH,.aH,(.v (.int .i64 0))] [(1,1,(t 49))]) 50 [2],
 o (.build [(.v (.int .i64 0)),(.v (.int .i64 0)),(.v (.int .i64 0))] []) 51 [],
 o (.call 13 [(t 47),(t 48),(t 50),(t 51)]) 52 [0,1,3,4],
 m 52 46 [5],
 e 0 46 53 [6],
 e 1 46 54 [6],
 e 2 46 55 [6],
 o (.alloc [(.v (.int .i64 0)),(.v (.int .i64 0)),.aH]) 12 [],
 S 3 12 53 [10,7,5,0,1,2,3,4,5,6,7,10],
 m 54 13 [8,11,0,1,2,3,4,5,6,7,8,10,11],
 m 55 14 (k [9,12] 12)]
def abh:List RO:=[
 n 3 56,
 m 56 57 [0],
 g (.load 3 true (t 2)) 58 57 true [1],
 g (.build [(.v (.int .i64 0)),(.v (.int .i64 0)),(.v (.int .i64 0))] [(0,1,(i 2)),(1,1,(i 0)),(2,1,(i 2))]) 59 57 true [1],
 g (.eqT false true [(.int .i64),(.int .i64),(.int .i64)] (t 58) (t 59)) 60 57 true [2,3,1],
 q 57 60 61 [1,4],
 m 61 62 [5,1],
 w 5 63 62 true [6],
 q 62 63 64 [6,7],
 m 64 65 [8,6],
 g (.load 3 true (t 4)) 66 65 true [9],
 g (.build [(.v (.int .i64 0)),(.v (.int .i64 0)),(.v (.int .i64 0))] [(0,1,(i 1)),(1,1,(i 4)),(2,1,(i 6))]) 67 65 true [9],
 g (.eqT false true [(.int .i64),(.int .i64),(.int .i64)] (t 66) (t 67)) 68 65 true [10,11,9],
 q 65 68 69 [9,12],
 m 69 70 [13,9],
 w 7 71 70 true [14],
 g (.un .not (t 71)) 72 70 true [15,14],
 q 70 72 73 [14,16],
 m 73 74 [17,14],
 w 9 75 74 true [18],
 g (.un .not (t 75)) 76 74 true [19,18],
 q 74 76 77 [18,20],
 m 77 78 [21,18],
 w 11 79 78 true [22],
 q 78 79 80 [22,23],
 m 80 81 [24,22],
 g (.load 3 true (t 10)) 82 81 true [25],
 g (.build [(.v (.int .i64 0)),(.v (.int .i64 0)),(.v (.int .i64 0))] [(1,1,(i 8)),(2,1,(i 10))]) 83 81 true [25],
 g (.eqT false true [(.int .i64),(.int .i64),(.int .i64)] (t 82) (t 83)) 84 81 true [26,27,25],
 q 81 84 85 [25,28],
 m 85 86 [29,25],
 w 14 87 86 true [30],
 g (.bin .eql (t 87) (i 13)) 88 86 true [31,30],
 q 86 88 89 [30,32],
 m 89 0 (k [33,30] 33)]
def d10:DC:=(j (y aa9)
 (j (y aba)
 (j (y abb)
 (j (y abc)
 (j (y abd)
 (j (y abe)
 (j (y abf)
 (j (y abg)
 (j (y abh)
 .ret)))))))))
def Sk:List bO:=[.slot 0]
theorem c10 [Laid]:aQ Tryz.prog 10 90 d10 Sk:=⟨Tryz.f10,by kernel_rfl,by kernel_rfl,by kernel_rfl,by kernel_rfl,by kernel_rfl⟩
def abi:List RO:=[
 o (.bQ (i 0)) 2 []]
def abj:List RO:=[
 n 0 3,
 o (.bin .rem (t 3) (i 2)) 4 [0],
 o (.bin .eql (t 4) (i 0)) 5 [1]]
def abk:List RO:=[
 n 0 6,
 o (.bin .quo (t 6) (i 2)) 7 [0],
 m 7 2 [1,0,1]]
def abl:List RO:=[
 n 0 8,
 o (.bin .sub (t 8) (i 1)) 9 [0],
 o (.bin .quo (t 9) (i 2)) 10 [1],
 o (.bin .add (t 10) (i 2)) 11 [2],
 m 11 2 [3,0,1,2,3]]
def d41:DC:=(j (y abi)
 (j (j (y abj)
 (.cond (.tmp 5) (j (y abk)
 .ret)
 .skip))
 (j (y abl)
 .ret)))
def Km:List bO:=[.slot 2]
theorem c41 [Laid]:aQ Tryz.prog 41 12 d41 Km:=⟨Tryz.f41,by kernel_rfl,by kernel_rfl,by kernel_rfl,by kernel_rfl,by kernel_rfl⟩
def abm:List RO:=[
 o (.box (t 0)) 3 [],
 o (.box (t 1)) 4 [],
 o (.alloc [(.v (.int .i64 0)),(.v (.int .i64 0)),(.v (.int .i64 0))]) 6 [],
 o (.bQ (.cw (.v (.bool false)))) 7 []]
def p9:List RO:=[
 a 0 3 9 [],
 l 9 10 [0],
 o (.bin .lss (t 10) (i 0)) 11 [1],
 m 11 12 [2],
 u 1 3 13 12 false [3],
 v 13 14 12 false [4,3],
 g (.bin .lss (t 14) (i 0)) 15 12 false [5,3],
 p 12 15 16 [3,6],
 m 16 17 [7,3],
 u 1 3 18 17 false [8],
 v 18 19 17 false [9,8],
 u 2 3 20 17 false [8],
 v 20 21 17 false [11,8],
 g (.bin .gtr (t 19) (t 21)) 22 17 false [10,12,8],
 p 17 22 23 [8,13],
 m 23 24 [14,8],
 u 2 3 25 24 false [15],
 v 25 26 24 false [16,15],
 w 2 27 24 false [15],
 g (.bin .geq (t 26) (t 27)) 28 24 false [17,18,15],
 p 24 28 29 [15,19],
 m 29 30 [20,15],
 u 0 4 31 30 false [21],
 v 31 32 30 false [22,21],
 g (.bin .lss (t 32) (i 0)) 33 30 false [23,21],
 p 30 33 34 [21,24],
 m 34 35 [25,21],
 u 1 4 36 35 false [26],
 v 36 37 35 false [27,26],
 g (.bin .lss (t 37) (i 0)) 38 35 false [28,26],
 p 35 38 39 [26,29],
 m 39 40 [30,26],
 u 2 4 41 40 false [31],
 v 41 42 40 false [32,31],
 g (.bin .lss (t 42) (i 0)) 43 40 false [33,31],
 p 40 43 44 [31,34],
 m 44 45 [35,31],
 u 2 4 46 45 false [36],
 v 46 47 45 false [37,36],
 g (.bin .gtr (t 47) (i 60)) 48 45 false [38,36],
 p 45 48 49 [36,39],
 m 49 50 [40,36],
 u 0 4 51 50 false [41],
 v 51 52 50 false [42,41],
 w 2 53 50 false [41],
 g (.bin .sub (t 53) (i 1)) 54 50 false [44,41],
 g (.bin .quo (t 54) (i 2)) 55 50 false [45,41],
 g (.bin .gtr (t 52) (t 55)) 56 50 false [43,46,41],
 p 50 56 57 [41,47],
 m 57 58 [48,41],
 u 1 4 59 58 false [49],
 v 59 60 58 false [50,49],
 w 2 61 58 false [49],
 g (.bin .sub (t 61) (i 1)) 62 58 false [52,49],
 g (.bin .quo (t 62) (i 2)) 63 58 false [53,49],
 u 0 4 64 58 false [49],
 v 64 65 58 false [55,49],
 g (.bin .sub (t 63) (t 65)) 66 58 false [54,56,49],
 g (.bin .gtr (t 60) (t 66)) 67 58 false [51,57,49],
 p 58 67 68 [49,58]]
def abn:List RO:=[
 o (.build [(.v (.int .i64 0)),(.v (.int .i64 0)),(.v (.int .i64 0))] []) 69 [],
 S 3 6 69 [0,0],
 o (.bQ (.cw (.v (.bool false)))) 7 [1,0,1]]
def abo:List RO:=[
 a 2 3 70 [],
 l 70 71 [0],
 o (.call 41 [(t 71)]) 72 [1],
 a 0 4 73 [],
 l 73 74 [3],
 b .leq 72 74 75 [2,4]]
def abp:List RO:=[
 L 3 3 76 [],
 S 3 6 76 [0,0],
 o (.bQ (.cw (.v (.bool true)))) 7 [1,0,1]]
def abq:List RO:=[
 a 1 3 77 [],
 l 77 78 [0],
 o (.bin .quo (t 78) (i 2)) 79 [1],
 a 0 4 80 [],
 l 80 81 [3],
 a 1 4 82 [],
 l 82 83 [5],
 b .add 81 83 84 [4,6],
 b .geq 79 84 85 [2,7]]
def abr:List RO:=[
 a 2 4 86 [],
 l 86 87 [0],
 a 1 4 88 [],
 l 88 89 [2],
 b .sub 87 89 90 [1,3],
 o (.bin .mul (i 2) (t 90)) 91 [4],
 m 91 8 (k [5] 5)]
def abt:List RO:=[
 a 0 3 92 [],
 l 92 93 [0],
 a 1 3 94 [],
 l 94 95 [2],
 n 8 96,
 b .add 95 96 97 [3,4],
 a 2 3 98 [],
 l 98 99 [6],
 n 8 100,
 b .add 99 100 101 [7,8],
 o (.build [(.v (.int .i64 0)),(.v (.int .i64 0)),(.v (.int .i64 0))] [(0,1,(t 93)),(1,1,(t 97)),(2,1,(t 101))]) 102 [1,5,9],
 S 3 6 102 (k [10] 10),
 o (.bQ (.cw (.v (.bool true)))) 7 (k [11] 11)]
def abu:List RO:=[
 o (.build [(.v (.int .i64 0)),(.v (.int .i64 0)),(.v (.int .i64 0))] []) 103 [],
 S 3 6 103 [0,0],
 o (.bQ (.cw (.v (.bool false)))) 7 [1,0,1]]
def d18:DC:=(j (y abm)
 (j (j (y p9)
 (.cond (.tmp 68) (j (y abn)
 .ret)
 .skip))
 (j (j (Y abo)
 (.cond (.tmp 75) (j (y abp)
 .ret)
 .skip))
 (j (j (y abq)
 (.cond (.tmp 85) (j (y abr)
 (j (y abt)
 .ret))
 .skip))
 (j (y abu)
 .ret)))))
def A8:List bO:=[.cell 6 3 true,.slot 7]
theorem c18 [Laid]:aQ Tryz.prog 18 104 d18 A8:=⟨Tryz.f18,by kernel_rfl,by kernel_rfl,by kernel_rfl,by kernel_rfl,by kernel_rfl⟩
def Hh:List RO:=[
 o (.bQ (i 0)) 4 []]
def Hi:List RO:=[
 n 0 5,
 n 1 6,
 b .mul 5 6 7 [0,1],
 n 1 8,
 o (.bin .add (t 8) (i 1)) 9 [3],
 b .mul 7 9 10 [2,4],
 o (.bin .quo (t 10) (i 2)) 11 [5],
 m 11 4 (k [6] 6)]
def d31:DC:=(j (y Hh)
 (j (y Hi)
 .ret))
def A9:List bO:=[.slot 4]
theorem c31 [Laid]:aQ Tryz.prog 31 12 d31 A9:=⟨Tryz.f31,by kernel_rfl,by kernel_rfl,by kernel_rfl,by kernel_rfl,by kernel_rfl⟩
def Sl:List RO:=[
 o (.box (t 0)) 4 [],
 o (.box (t 1)) 5 [],
 o (.box (t 2)) 6 [],
 o (.box (t 3)) 7 [],
 o (.alloc [(.v (.int .i64 0)),(.v (.int .i64 0)),.aH]) 8 [],
 o (.bQ (i 0)) 9 [],
 o (.bQ (i 0)) 10 [5]]
def Sm:List RO:=[
 a 0 6 23 [],
 l 23 24 [0],
 o (.len (t 24)) 25 [1],
 m 25 11 [2,0,1,2]]
def Sn:List RO:=[
 a 0 7 26 [],
 l 26 27 [0],
 o (.bin .lss (t 27) (i 0)) 28 [1],
 m 28 29 [2],
 u 1 7 30 29 false [3],
 v 30 31 29 false [4,3],
 g (.bin .lss (t 31) (i 0)) 32 29 false [5,3],
 p 29 32 33 [3,6],
 m 33 34 [7,3],
 u 2 7 35 34 false [8],
 v 35 36 34 false [9,8],
 g (.bin .lss (t 36) (i 0)) 37 34 false [10,8],
 p 34 37 38 [8,11],
 m 38 39 [12,8],
 u 2 7 40 39 false [13],
 v 40 41 39 false [14,13],
 w 11 42 39 false [13],
 g (.bin .gtr (t 41) (t 42)) 43 39 false [15,16,13],
 p 39 43 44 [13,17],
 m 44 45 [18,13],
 u 0 7 46 45 false [19],
 v 46 47 45 false [20,19],
 w 11 48 45 false [19],
 u 2 7 49 45 false [19],
 v 49 50 45 false [23,19],
 g (.bin .sub (t 48) (t 50)) 51 45 false [22,24,19],
 g (.bin .gtr (t 47) (t 51)) 52 45 false [21,25,19],
 p 45 52 53 [19,26]]
def d13r3:List RO:=[
 o (.build [(.v (.int .i64 0)),(.v (.int .i64 0)),.aH] []) 54 [],
 S 3 8 54 [0,0],
 o (.bQ (i 0)) 9 [1,0,1],
 o (.bQ (i 2)) 10 [2,0,1,2]]
def Sp:List RO:=[
 a 0 5 55 [],
 l 55 56 [0],
 a 1 4 57 [],
 l 57 58 [2],
 b .neq 56 58 59 [1,3],
 m 59 60 [4],
 u 1 5 61 60 false [5],
 v 61 62 60 false [6,5],
 g (.bin .lss (t 62) (i 1)) 63 60 false [7,5],
 p 60 63 64 [5,8],
 m 64 65 [9,5],
 u 1 5 66 65 false [10],
 v 66 67 65 false [11,10],
 g (.bin .rem (t 67) (i 2)) 68 65 false [12,10],
 g (.bin .eql (t 68) (i 0)) 69 65 false [13,10],
 p 65 69 70 [10,14],
 m 70 71 [15,10],
 u 1 5 72 71 false [16],
 v 72 73 71 false [17,16],
 g (.bin .sub (t 73) (i 1)) 74 71 false [18,16],
 g (.bin .quo (t 74) (i 2)) 75 71 false [19,16],
 w 11 76 71 false [16],
 u 2 7 77 71 false [16],
 v 77 78 71 false [22,16],
 g (.bin .sub (t 76) (t 78)) 79 71 false [21,23,16],
 g (.bin .sub (t 75) (t 79)) 80 71 false [20,24,16],
 u 1 7 81 71 false [16],
 v 81 82 71 false [26,16],
 g (.bin .neq (t 80) (t 82)) 83 71 false [25,27,16],
 p 71 83 84 [16,28],
 m 84 85 [29,16],
 u 2 5 86 85 false [30],
 v 86 87 85 false [31,30],
 g (.len (t 87)) 88 85 false [32,30],
 u 1 4 89 85 false [30],
 v 89 90 85 false [34,30],
 u 1 5 91 85 false [30],
 v 91 92 85 false [36,30],
 g (.call 31 [(t 90),(t 92)]) 93 85 false [35,37,30,30],
 g (.bin .neq (t 88) (t 93)) 94 85 false [33,38,30],
 p 85 94 95 [30,39]]
def abv:List RO:=[
 o (.build [(.v (.int .i64 0)),(.v (.int .i64 0)),.aH] []) 96 [],
 S 3 8 96 [0,0],
 o (.bQ (i 0)) 9 [1,0,1],
 o (.bQ (i 13)) 10 [2,0,1,2]]
def abw:List RO:=[
 L 3 6 97 [],
 o (.call 32 [(t 97)]) 98 [0],
 o (.alloc [(.v (.int .i64 0)),.aH,.aH]) 12 [],
 S 3 12 98 [2,1,1,0,1,2]]
def abx:List RO:=[
 a 1 4 99 [],
 l 99 100 [0],
 a 0 12 101 [],
 l 101 102 [2],
 o (.build [(.v (.int .i64 0)),(.v (.int .i64 0)),.aH] [(0,1,(t 100)),(1,1,(t 102))]) 103 [1,3],
 o (.alloc [(.v (.int .i64 0)),(.v (.int .i64 0)),.aH]) 13 [],
 S 3 13 103 (k [5,4] 5)]
def aby:List RO:=[
 a 1 4 104 [],
 l 104 105 [0],
 a 0 12 106 [],
 l 106 107 [2],
 o (.call 31 [(t 105),(t 107)]) 108 [1,3],
 o (.mkSlice 57 4 32 [(.int .i64 0),(.int .i64 0),(.int .i64 0),(.int .i64 0)] (t 108)) 109 [4,4],
 o (.alloc [.aH]) 14 [],
 S 1 14 109 (k [6,5,4] 6)]
def abz:List RO:=[
 l 14 110 [],
 a 2 13 111 [0],
 S 1 111 110 [1,0,0]]
def Sq:List RO:=[
 o (.alloc [(.v (.int .i64 0))]) 15 [],
 s (.store 1 (t 15) (i 0)) [0,0]]
def Sr:List RO:=[
 a 0 12 112 [],
 l 112 113 [0],
 o (.call 33 [(t 113)]) 114 [1]]
def Ss:List RO:=[
 n 115 16]
def St:List RO:=[
 n 116 17]
def Su:List RO:=[
 n 16 117,
 a 0 12 118 [],
 l 118 119 [1],
 b .mul 117 119 120 [0,2],
 n 16 121,
 n 16 122,
 o (.bin .sub (t 122) (i 1)) 123 [5],
 b .mul 121 123 124 [4,6],
 o (.bin .quo (t 124) (i 2)) 125 [7],
 b .sub 120 125 126 [3,8],
 n 17 127,
 b .add 126 127 128 [9,10],
 n 16 129,
 b .sub 128 129 130 [11,12],
 a 1 4 131 [],
 l 131 132 [14],
 b .mul 130 132 133 [13,15],
 m 133 18 (k [16] 16)]
def Sv:List RO:=[
 L 3 7 135 [],
 n 16 136,
 n 17 137,
 a 1 5 138 [],
 l 138 139 [3],
 o (.call 34 [(t 135),(t 136),(t 137),(t 139)]) 140 [0,1,2,4],
 m 140 134 [5],
 e 0 134 141 [6],
 e 1 134 142 [6],
 e 2 134 143 [6],
 m 141 19 (k [7,5] 7),
 m 142 20 [8,10,0,1,2,3,4,5,6,7,8,10],
 m 143 21 (k [9,11] 11)]
def Sw:List RO:=[
 n 21 144,
 o (.un .not (t 144)) 145 [0]]
def d13r17:List RO:=[
 l 15 146 [],
 l 14 147 [],
 n 18 148,
 n 18 149,
 a 1 4 150 [],
 l 150 151 [4],
 b .add 149 151 152 [3,5],
 o (.slice 4 (t 147) (some (t 148)) (some (t 152))) 153 [1,2,6],
 L 4 4 154 [],
 L 3 12 155 [],
 L 3 13 156 [],
 n 16 157,
 n 17 158,
 o (.call 35 [(t 154),(t 155),(t 156),(t 157),(t 158)]) 159 [8,9,10,11,12],
 o (.copy 4 (t 153) (t 159)) 160 [7,13,13],
 b .add 146 160 161 [0,14],
 S 1 15 161 (k [15,14] 15)]
def Sx:List RO:=[
 a 1 4 162 [],
 l 162 163 [0],
 o (.bQ (i 0)) 164 []]
def Sy:List RO:=[
 b .lss 164 163 165 []]
def Sz:List RO:=[
 n 164 166,
 m 166 22 [0,0]]
def SA:List RO:=[
 l 14 167 [],
 n 18 168,
 n 22 169,
 b .add 168 169 170 [1,2],
 L 4 4 171 [],
 L 3 12 172 [],
 L 3 5 173 [],
 n 22 174,
 n 19 175,
 n 20 176,
 o (.build [(.v (.int .i64 0)),(.v (.int .i64 0)),(.v (.int .i64 0))] [(0,1,(t 174)),(1,1,(t 175)),(2,1,(t 176))]) 177 [7,8,9],
 o (.call 37 [(t 173),(t 177)]) 178 [6,10],
 n 16 179,
 n 17 180,
 n 16 181,
 n 19 182,
 b .sub 181 182 183 [14,15],
 o (.call 36 [(t 171),(t 172),(t 178),(t 179),(t 180),(t 183)]) 184 [4,5,11,12,13,16,11],
 x 4 167 170 185 (k [0,3] 17),
 S 4 185 184 (k [18,17,17] 17)]
def SB:List RO:=[
 o (.bin .add (t 164) (i 1)) 186 [],
 m 186 164 [0]]
def Kn:List RO:=[
 L 3 13 187 [],
 l 15 188 [],
 S 3 8 187 [0,0],
 m 188 9 [1,2,0,1,2],
 o (.bQ (i 0)) 10 [3,0,1,2,3]]
def d13:DC:=(j (y Sl)
 (j (y Sm)
 (j (j (y Sn)
 (.cond (.tmp 53) (j (y d13r3)
 .ret)
 .skip))
 (j (j (Y Sp)
 (.cond (.tmp 95) (j (y abv)
 .ret)
 .skip))
 (j (y abw)
 (j (y abx)
 (j (y aby)
 (j (y abz)
 (j (y Sq)
 (j (j (y Sr)
 (.block 0 (.wV (.tmp 114) [115,116] (j (y Ss)
 (y St))
 (.block 1 (j (y Su)
 (j (y Sv)
 (j (j (y Sw)
 (.cond (.tmp 145) (j (.jX d13r17)
 (.exit 1))
 .skip))
 (j (y Sx)
 (.block 2 (.loop (j (y Sy)
 (j (.cond (.tmp 165) .skip
 (.exit 2))
 (j (.block 3 (j (y Sz)
 (Y SA)))
 (y SB))))))))))))))
 (j (.jX Kn)
 .ret)))))))))))
def Ko:List bO:=[.cell 8 3 true,.slot 9,.slot 10]
theorem c13 [Laid]:aQ Tryz.prog 13 189 d13 Ko:=⟨Tryz.f13,by kernel_rfl,by kernel_rfl,by kernel_rfl,by kernel_rfl,by kernel_rfl⟩
def Hj:List RO:=[
 o (.box (t 0)) 1 [],
 o (.bQ (.cw (.v (.raw (Go.Value.nilFunc))))) 2 []]
def Hk:List RO:=[
 o (.mkFn (.func 53) [(t 1)]) 3 [],
 m 3 2 [0,0]]
def d33:DC:=(j (y Hj)
 (j (y Hk)
 .ret))
def Ba:List bO:=[.slot 2]
theorem c33 [Laid]:aQ Tryz.prog 33 4 d33 Ba:=⟨Tryz.f33,by kernel_rfl,by kernel_rfl,by kernel_rfl,by kernel_rfl,by kernel_rfl⟩
def Hl:List RO:=[
 l 1 5 [],
 o (.bQ (i 0)) 6 []]
def Hm:List RO:=[
 b .lss 6 5 7 []]
def Hn:List RO:=[
 n 6 8,
 m 8 3 [0,0]]
def Ho:List RO:=[
 o (.bQ (i 0)) 4 []]
def Hp:List RO:=[
 n 4 9,
 n 3 10,
 b .add 9 10 11 [0,1],
 l 1 12 [],
 b .lss 11 12 13 [2,3]]
def Hq:List RO:=[
 n 0 16,
 n 4 17,
 n 4 18,
 n 3 19,
 b .add 18 19 20 [2,3],
 o (.callv (t 16) [(t 17),(t 20)]) 21 [0,1,4],
 o (.un .not (t 21)) 22 [5]]
def Hr:List RO:=[
 n 4 14,
 o (.bin .add (t 14) (i 1)) 15 [0],
 m 15 4 [1,0,1]]
def Hs:List RO:=[
 o (.bin .add (t 6) (i 1)) 23 [],
 m 23 6 [0]]
def d53:DC:=(j (y Hl)
 (.block 0 (.loop (j (y Hm)
 (j (.cond (.tmp 7) .skip
 (.exit 0))
 (j (.block 1 (j (y Hn)
 (j (y Ho)
 (.block 2 (.loop (j (j (y Hp)
 (.cond (.tmp 13) .skip
 (.exit 2)))
 (j (.block 3 (j (y Hq)
 (.cond (.tmp 22) .ret
 .skip)))
 (y Hr))))))))
 (y Hs)))))))
def Bb:List bO:=[]
theorem c53 [Laid]:aQ Tryz.prog 53 24 d53 Bb:=⟨Tryz.f53,by kernel_rfl,by kernel_rfl,by kernel_rfl,by kernel_rfl,by kernel_rfl⟩
def Ht:List RO:=[
 o (.box (t 0)) 4 [],
 o (.bQ (i 0)) 8 [],
 o (.bQ (i 0)) 9 [1],
 o (.bQ (.cw (.v (.bool false)))) 10 [2]]
def Hu:List RO:=[
 a 2 4 17 [],
 l 17 18 [0],
 a 1 4 19 [],
 l 19 20 [2],
 b .sub 18 20 21 [1,3],
 o (.bin .mul (i 2) (t 21)) 22 [4],
 m 22 11 (k [5] 5)]
def Hv:List RO:=[
 n 11 23,
 o (.bslice 2 1 [(.v (.int .i64 0)),(.v (.int .i64 0))] [(0,1,(i 0)),(1,1,(t 23))]) 24 [0],
 o (.len (t 24)) 25 [1],
 o (.bQ (i 0)) 26 []]
def Hw:List RO:=[
 b .lss 26 25 27 []]
def Hx:List RO:=[
 x 1 24 26 28 [],
 l 28 29 [0],
 m 29 13 [1,0,1]]
def Hy:List RO:=[
 n 1 30,
 n 13 31,
 b .sub 30 31 32 [0,1],
 n 2 33,
 n 13 34,
 b .sub 33 34 35 [3,4],
 o (.build [(.v (.int .i64 0)),(.v (.int .i64 0)),(.v (.int .i64 0))] [(1,1,(t 32)),(2,1,(t 35))]) 36 [2,5],
 o (.alloc [(.v (.int .i64 0)),(.v (.int .i64 0)),(.v (.int .i64 0))]) 14 [],
 S 3 14 36 (k [7,6] 7)]
def Hz:List RO:=[
 L 3 14 38 [],
 L 3 4 39 [],
 n 3 40,
 o (.call 18 [(t 38),(t 39),(t 40)]) 41 [0,1,2],
 m 41 37 [3],
 e 0 37 42 [4],
 e 1 37 43 [4],
 o (.alloc [(.v (.int .i64 0)),(.v (.int .i64 0)),(.v (.int .i64 0))]) 15 [],
 S 3 15 42 [7,5,3,0,1,2,3,4,5,7],
 m 43 16 (k [6,8] 8)]
def MY:List RO:=[
 n 16 44,
 m 44 45 [0],
 u 1 15 46 45 true [1],
 v 46 47 45 true [2,1],
 w 1 48 45 true [1],
 g (.bin .eql (t 47) (t 48)) 49 45 true [3,4,1],
 q 45 49 50 [1,5],
 m 50 51 [6,1],
 u 2 15 52 51 true [7],
 v 52 53 51 true [8,7],
 w 2 54 51 true [7],
 g (.bin .eql (t 53) (t 54)) 55 51 true [9,10,7],
 q 51 55 56 [7,11]]
def abA:List RO:=[
 a 1 14 57 [],
 l 57 58 [0],
 a 2 14 59 [],
 l 59 60 [2],
 m 58 8 [1,0,1],
 m 60 9 (k [3,4] 4),
 o (.bQ (.cw (.v (.bool true)))) 10 (k [5] 5)]
def abB:List RO:=[
 o (.bin .add (t 26) (i 1)) 61 [],
 m 61 26 [0]]
def SC:List RO:=[
 o (.bQ (i 0)) 8 [],
 o (.bQ (i 0)) 9 [0,0],
 o (.bQ (.cw (.v (.bool false)))) 10 [1,0,1]]
def d34:DC:=(j (y Ht)
 (j (y Hu)
 (j (j (y Hv)
 (.block 0 (.loop (j (y Hw)
 (j (.cond (.tmp 27) .skip
 (.exit 0))
 (j (.block 1 (j (y Hx)
 (j (y Hy)
 (j (y Hz)
 (j (y MY)
 (.cond (.tmp 56) (j (Y abA)
 .ret)
 .skip))))))
 (y abB)))))))
 (j (y SC)
 .ret))))
def xp:List bO:=[.slot 8,.slot 9,.slot 10]
theorem c34 [Laid]:aQ Tryz.prog 34 62 d34 xp:=⟨Tryz.f34,by kernel_rfl,by kernel_rfl,by kernel_rfl,by kernel_rfl,by kernel_rfl⟩
def HA:List RO:=[
 o (.box (t 0)) 6 [],
 o (.box (t 1)) 7 [],
 o (.box (t 2)) 8 [],
 o (.alloc [(.v (.int .i64 0)),(.v (.int .i64 0)),(.v (.int .i64 0)),(.v (.int .i64 0))]) 12 []]
def vD:List RO:=[
 a 2 8 16 [],
 l 16 17 [0],
 o (.bin .lss (t 17) (i 0)) 18 [1],
 m 18 19 [2],
 u 2 8 20 19 false [3],
 v 20 21 19 false [4,3],
 u 3 6 22 19 false [3],
 v 22 23 19 false [6,3],
 g (.len (t 23)) 24 19 false [7,3],
 g (.bin .geq (t 21) (t 24)) 25 19 false [5,8,3],
 p 19 25 26 [3,9]]
def HB:List RO:=[
 L 4 8 27 [],
 S 4 12 27 [0,0]]
def HC:List RO:=[
 a 3 6 28 [],
 l 28 29 [0],
 a 2 8 30 [],
 l 30 31 [2],
 x 6 29 31 32 [1,3],
 L 6 32 33 [4],
 o (.alloc [(.v (.int .i64 0)),(.v (.int .i64 0)),(.v (.int .i64 0)),(.v (.int .i64 0)),(.v (.int .i64 0)),(.v (.int .i64 0))]) 13 [],
 S 6 13 33 (k [6,5] 6)]
def abC:List RO:=[
 a 0 13 34 [],
 l 34 35 [0],
 o (.bin .neq (t 35) (i 2)) 36 [1]]
def abD:List RO:=[
 a 3 8 37 [],
 l 37 38 [0],
 n 5 39,
 b .add 38 39 40 [1,2],
 a 3 8 41 [0,1,2,3],
 S 1 41 40 [4,3,0,1,2,3]]
def abE:List RO:=[
 L 4 8 42 [],
 S 4 12 42 [0,0]]
def abF:List RO:=[
 a 1 7 43 [],
 l 43 44 [0],
 o (.len (t 44)) 45 [1],
 o (.bQ (i 0)) 46 []]
def abG:List RO:=[
 b .lss 46 45 47 []]
def abH:List RO:=[
 n 46 48,
 x 5 44 46 49 [],
 L 5 49 50 [1],
 o (.alloc [(.v (.int .i64 0)),(.v (.int .i64 0)),(.v (.int .i64 0)),(.v (.int .i64 0)),.aH]) 15 [],
 m 48 14 [0,0,1,2,3],
 S 5 15 50 (k [3,2,4] 4)]
def ET:List RO:=[
 a 0 15 51 [],
 l 51 52 [0],
 n 3 53,
 b .eql 52 53 54 [1,2],
 m 54 55 [3],
 u 1 15 56 55 true [4],
 v 56 57 55 true [5,4],
 w 4 58 55 true [4],
 g (.bin .eql (t 57) (t 58)) 59 55 true [6,7,4],
 q 55 59 60 [4,8],
 m 60 61 [9,4],
 u 2 15 62 61 true [10],
 v 62 63 61 true [11,10],
 u 2 13 64 61 true [10],
 v 64 65 61 true [13,10],
 g (.bin .eql (t 63) (t 65)) 66 61 true [12,14,10],
 q 61 66 67 [10,15]]
def SD:List RO:=[
 n 14 68,
 a 3 8 69 [0],
 S 1 69 68 [1,0,0]]
def Kp:List RO:=[
 o (.bin .add (t 46) (i 1)) 70 [],
 m 70 46 [0]]
def SE:List RO:=[
 L 4 8 71 [],
 S 4 12 71 [0,0]]
def d36:DC:=(j (y HA)
 (j (j (y vD)
 (.cond (.tmp 26) (j (y HB)
 .ret)
 .skip))
 (j (y HC)
 (j (j (y abC)
 (.cond (.tmp 36) (j (y abD)
 (j (y abE)
 .ret))
 .skip))
 (j (j (y abF)
 (.block 0 (.loop (j (y abG)
 (j (.cond (.tmp 47) .skip
 (.exit 0))
 (j (.block 1 (j (y abH)
 (j (y ET)
 (.cond (.tmp 67) (y SD)
 .skip))))
 (y Kp)))))))
 (j (y SE)
 .ret))))))
def rH:List bO:=[.cell 12 4 true]
theorem c36 [Laid]:aQ Tryz.prog 36 72 d36 rH:=⟨Tryz.f36,by kernel_rfl,by kernel_rfl,by kernel_rfl,by kernel_rfl,by kernel_rfl⟩
def d8r0:List RO:=[
 o (.box (t 0)) 1 [],
 o (.bQ (.cw (.v (.bool false)))) 2 []]
def SF:List RO:=[
 L 10 1 11 [],
 o (.call 9 [(t 11)]) 12 [0],
 o (.un .not (t 12)) 13 [1],
 m 13 14 [2,1],
 u 8 1 15 14 false [3],
 v 15 16 14 false [4,3],
 g (.bin .neq (t 16) (i 1)) 17 14 false [5,3],
 p 14 17 18 [3,6],
 m 18 19 [7,3],
 u 9 1 20 19 false [8],
 v 20 21 19 false [9,8],
 g (.len (t 21)) 22 19 false [10,8],
 g (.bin .neq (t 22) (i 1)) 23 19 false [11,8],
 p 19 23 24 [8,12]]
def d8r2:List RO:=[
 o (.call 10 []) 25 [],
 m 25 2 [0,0,0]]
def d8r3:List RO:=[
 a 0 1 26 [],
 L 4 26 27 [0],
 a 4 1 28 [],
 L 3 28 29 [2],
 o (.call 12 [(t 29)]) 30 [3],
 o (.call 11 [(t 27),(t 30)]) 31 [1,4,4],
 o (.alloc [(.v (.int .i64 0)),(.v (.int .i64 0)),.aH]) 3 [],
 S 3 3 31 (k [6,5,5] 6)]
def d8r4:List RO:=[
 a 0 1 33 [],
 L 4 33 34 [0],
 L 3 3 35 [],
 L 10 1 36 [],
 o (.call 14 [(t 36)]) 37 [3],
 L 10 1 38 [],
 o (.call 15 [(t 38)]) 39 [5,4],
 o (.call 13 [(t 34),(t 35),(t 37),(t 39)]) 40 [1,2,4,6,6],
 m 40 32 [7],
 e 0 32 41 [8],
 e 1 32 42 [8],
 e 2 32 43 [8],
 o (.alloc [(.v (.int .i64 0)),(.v (.int .i64 0)),.aH]) 4 [],
 S 3 4 41 [12,9,7,0,1,2,3,4,5,6,7,8,9,12],
 m 42 5 [10,13,0,1,2,3,4,5,6,7,8,9,10,12,13],
 m 43 6 (k [11,14] 14)]
def d8r5:List RO:=[
 o (.bQ (i 0)) 7 []]
def d8r6:List RO:=[
 o (.bQ (i 0)) 8 []]
def d8r7:List RO:=[
 n 8 44,
 a 1 3 45 [],
 l 45 46 [1],
 b .lss 44 46 47 [0,2]]
def d8r8:List RO:=[
 n 8 50,
 m 50 9 [0,0]]
def d8r9:List RO:=[
 n 9 51,
 a 1 3 52 [],
 l 52 53 [1],
 b .lss 51 53 54 [0,2]]
def abI:List RO:=[
 n 9 57,
 o (.bin .quo (t 57) (i 2)) 58 [0],
 m 58 10 [1,0,1]]
def abJ:List RO:=[
 n 9 59,
 o (.bin .rem (t 59) (i 2)) 60 [0],
 o (.bin .eql (t 60) (i 1)) 61 [1]]
def abK:List RO:=[
 n 9 62,
 o (.bin .sub (t 62) (i 1)) 63 [0],
 o (.bin .quo (t 63) (i 2)) 64 [1],
 o (.bin .add (t 64) (i 2)) 65 [2],
 m 65 10 [3,0,1,2,3]]
def SG:List RO:=[
 n 8 66,
 o (.bin .quo (t 66) (i 2)) 67 [0],
 a 7 1 68 [],
 l 68 69 [2],
 b .leq 67 69 70 [1,3],
 m 70 71 [4],
 u 7 1 72 71 true [5],
 v 72 73 71 true [6,5],
 w 10 74 71 true [5],
 g (.bin .lss (t 73) (t 74)) 75 71 true [7,8,5],
 q 71 75 76 [5,9]]
def abL:List RO:=[
 n 7 77,
 a 0 1 78 [],
 a 1 78 79 [1],
 l 79 80 [2],
 b .add 77 80 81 [0,3],
 m 81 7 (k [4] 4)]
def SH:List RO:=[
 n 9 55,
 o (.bin .add (t 55) (i 1)) 56 [0],
 m 56 9 [1,0,1]]
def abM:List RO:=[
 n 8 48,
 o (.bin .add (t 48) (i 1)) 49 [0],
 m 49 8 [1,0,1]]
def abN:List RO:=[
 o (.call 10 []) 82 [],
 m 82 83 [0,0],
 w 6 84 83 true [1],
 g (.bin .eql (t 84) (i 0)) 85 83 true [2,1],
 q 83 85 86 [1,3],
 m 86 87 [4,1],
 w 5 88 87 true [5],
 w 7 89 87 true [5],
 g (.bin .eql (t 88) (t 89)) 90 87 true [6,7,5],
 q 87 90 91 [5,8],
 m 91 2 (k [9,5] 9)]
def d8:DC:=(j (y d8r0)
 (j (j (y SF)
 (.cond (.tmp 24) (j (y d8r2)
 .ret)
 .skip))
 (j (Y d8r3)
 (j (Y d8r4)
 (j (y d8r5)
 (j (j (y d8r6)
 (.block 0 (.loop (j (j (y d8r7)
 (.cond (.tmp 47) .skip
 (.exit 0)))
 (j (.block 1 (j (y d8r8)
 (.block 2 (.loop (j (j (y d8r9)
 (.cond (.tmp 54) .skip
 (.exit 2)))
 (j (.block 3 (j (y abI)
 (j (j (y abJ)
 (.cond (.tmp 61) (y abK)
 .skip))
 (j (y SG)
 (.cond (.tmp 76) (y abL)
 .skip)))))
 (y SH)))))))
 (y abM))))))
 (j (y abN)
 .ret)))))))
def SI:List bO:=[.slot 2]
theorem c8 [Laid]:aQ Tryz.prog 8 92 d8 SI:=⟨Tryz.f8,by kernel_rfl,by kernel_rfl,by kernel_rfl,by kernel_rfl,by kernel_rfl⟩
end cq
end Go.Proofs
