/- Part of the proof. Conditions: none. -/
import Derived.Test.YtljcdomdjgolkaaGreatDoorXaf
import Derived.Test.YtljcdomdjgolkaaGreatDoorXae
import Derived.Test.YtljcdomdjgolkaaGreatDoorXac
import Derived.KernelRfl
set_option linter.unusedSectionVars false
set_option linter.unusedSimpArgs false
set_option linter.unusedVariables false
set_option maxRecDepth 100000
namespace Go.Proofs
open Go.DM
theorem r9{x:Input}{k:Int}(h:mr x k):H2 x/\x.aj.length<=60/\x.insert.length<=5/\(∀c∈x.aj,c.read.length=x.insert.length):=by
 obtain⟨⟨h1,h2⟩,h3,h4⟩:=h;have P9:nh x.aj x.insert.length:=by
  by_cases e:nh x.aj x.insert.length
  ·exact e
  ·exact absurd (.inr (.inr (.inr (.inr (.inr e))))) h3
 have hc:∀c∈x.aj,yZ c x.insert.length:=by
  intro c hc;obtain⟨i,hi,rfl⟩:=ZaZ hc;have:=P9 i hi
  rwa [show x.aj.getD i default=x.aj[i]by simp[List.getD,hi]]at this
 have zL:0<=x.swap/\x.swap<=60000:=by
  constructor
  ·by_cases e:x.swap<0
   ·exact absurd (.inr (.inr (.inr (.inl e)))) h3
   ·omega
  ·by_cases e:x.swap>60000
   ·exact absurd (.inr (.inr (.inr (.inr (.inl e))))) h3
   ·omega
 have hn:x.aj.length<=60:=by
  by_cases e:(x.aj.length:Int)>60
  ·exact absurd (.inr (.inl e)) h3
  ·omega
 have Ww:∀c∈x.aj,c.read.length=x.insert.length:=by
  intro c Eb;have:=(hc c Eb).1;omega
 refine⟨⟨⟨by omega,λc Eb=>?_⟩,λc Eb=>⟨by rw[Ww c Eb];omega,λp hp=>?_⟩,by omega,λp hp=>?_,zL.1,by omega⟩,hn,by omega,Ww⟩
 ·have:=(hc c Eb).1;omega
 ·obtain⟨t,ht,rfl⟩:=ZaZ hp;have:=(hc c Eb).2 t (by rw[Ww c Eb]at ht;simpa using ht);unfold nC at this;rw[show c.read.getD t default=c.read[t]by simp[List.getD,ht]]at this;omega
 ·obtain⟨t,ht,rfl⟩:=ZaZ hp;have:=h4 t (by simpa using ht);unfold D2 at this;rw[show x.insert.getD t default=x.insert[t]by simp[List.getD,ht]]at this;omega
theorem yK{a b:bn}{l:List bn}(h:b∈(eW a l).2):b∈l\/b=a:=by
 have key:∀(l:List bn) (p:Bool×List bn),b∈(l.foldl (dq a) p).2->b∈p.2\/b∈l\/b=a:=by
  intro l;induction l with
  |nil=>intro p h;exact .inl h
  |cons c l ih=>
   intro p h;rcases ih _ h with h|h|h
   ·unfold dq at h;split at h
    ·simp only[Zao,Zah]at h;rcases h with h|h
     ·exact .inl h
     ·split at h
      ·exact .inr (.inr h)
      ·exact .inr (.inl (by simp[h]))
    ·split at h
     ·simp only[Zao,Zah]at h;rcases h with(h|h)|h
      ·exact .inl h
      ·exact .inr (.inr h)
      ·exact .inr (.inl (by simp[h]))
     ·simp only[Zao,Zah]at h;rcases h with h|h
      ·exact .inl h
      ·exact .inr (.inl (by simp[h]))
   ·exact .inr (.inl (by simp[h]))
   ·exact .inr (.inr h)
 rcases key l (false,[]) h with h|h|h
 ·simp at h
 ·exact .inl h
 ·exact .inr h
theorem Vv{a b:bn}{l:List bn}(h:b∈oX l a):b∈l\/b=a:=by
 unfold oX at h;split at h
 ·exact .inl h
 ·split at h
  ·exact yK h
  ·rw[Zao,Zah]at h;rcases h with h|h
   ·exact yK h
   ·exact .inr h
theorem uj{b:bn}:∀(cs l:List bn),b∈bl l cs->b∈l\/b∈cs
 |[],l,h=>.inl h
 |c::cs,l,h=>by
  rcases uj cs (oX l c) h with h|h
  ·rcases Vv h with h|h
   ·exact .inl h
   ·exact .inr (by simp[h])
  ·exact .inr (by simp[h])
theorem dz{α:Type}{f:Nat->List α}{i m:Nat}{a:α}(h:a∈ft f i m):∃k,i<=k/\k<m/\a∈f k:=by
 unfold ft at h;obtain⟨e,he,ha⟩:=ZaV.1 h;rw[ZaQ]at he;exact⟨i+e,by omega,by omega,ha⟩
def X3(n:Nat)(a:bn):Prop:=0<=a.f/\a.f<(2*n+1:Nat)/\0<=a.t/\a.t<(2*n+1:Nat)/\a.ops.length<=1000000/\0<=a.cost
theorem Bz(n:Nat):(dd n).length=n:=by simp[dd]
theorem E6{x:Input}(hx:H2 x)(hn:x.aj.length<=60):∀a∈dS x,X3 x.aj.length a:=by
 obtain⟨hd,mC,hins,Ve,hsw0,zL⟩:=hx;have YN:=eE hd;intro a ha;unfold dS at ha;rcases uj _ _ ha with ha|ha
 ·rcases uj _ _ ha with ha|ha
  ·cases ha
  ·obtain⟨i,_,hi,ha⟩:=dz ha;unfold rI at ha;rcases Zao.1 ha with ha|ha
   ·obtain⟨m,wu,Ed,ha⟩:=dz ha;unfold rM at ha;rcases Zao.1 ha with ha|ha
    ·obtain⟨t,_,ht,ha⟩:=dz ha;unfold rA at ha;split at ha
     ·rename_i hc;rw[Zah]at ha;subst ha;have:=uJ (YN i m).1 hc.2;refine⟨by simp only;omega,by simp only;omega,by simp only;omega,by simp only;omega,by simp[Bz];omega,this⟩
     ·cases ha
    ·unfold rS at ha;split at ha
     ·rename_i hc;have Ab:m+1<x.aj.length:=by simp[bX]at hc;exact hc.1
      rw[Zah]at ha;subst ha;have:=uJ (YN i m).1 hsw0;refine⟨by simp only;omega,by simp only;omega,by simp only;omega,by simp only;omega,by simp[Bz];omega,this⟩
     ·cases ha
   ·unfold rT at ha;split at ha
    ·rename_i hc;have Ab:i+1<x.aj.length:=by simp[bX]at hc;exact hc.1
     rw[Zah]at ha;subst ha;refine⟨by simp only;omega,by simp only;omega,by simp only;omega,by simp only;omega,by simp,by simp⟩
    ·cases ha
 ·obtain⟨i,_,hi,ha⟩:=dz ha;unfold iI at ha;obtain⟨m,wu,Ed,ha⟩:=dz ha;unfold iM at ha;obtain⟨t,_,ht,ha⟩:=dz ha;unfold iT at ha;rw[Zah]at ha;subst ha;have:=uJ (YN i m).1 (Ve (x.insert.getD t default) (by simp[List.getD,ht])).1;refine⟨by simp only;omega,by simp only;omega,by simp only;omega,by simp only;omega,by simp[Bz];omega,this⟩
theorem Jz(x:Input)(k:Nat):(dU x k).length=2*x.aj.length+1:=by simp[dU]
theorem x5{x:Input}(ht:x.insert.length<=100)(hn:x.aj.length<=60):(dS x).length<=900000:=by
 unfold dS;have h1:=iq (ft (iI x) 0 (x.aj.length+1)) (bl [] (ft (rI x) 0 (x.aj.length+1)));have h2:=iq (ft (rI x) 0 (x.aj.length+1)) [];have h3:=lM (f:=iI x) (B:=7000) (λk=>Vu x k ht hn) 0 (x.aj.length+1);have h4:=lM (f:=rI x) (B:=7000) (λk=>Vr x k ht hn) 0 (x.aj.length+1);simp at h2;omega
end Go.Proofs
namespace Go.Proofs
open Go.DM Go.DM.NT
theorem sameKey_iff{a b:bn}:sameKey a b=true↔a.f=b.f/\a.t=b.t/\a.term=b.term:=by simp[sameKey]
theorem DU(a:bn):sameKey a a=true:=by simp[sameKey]
theorem jK(a b:bn):sameKey a b=sameKey b a:=by
 simp only[sameKey,decide_eq_decide];omega
theorem oW{a b:bn}(h:sameKey a b=true)(k:bn):sameKey k a=sameKey k b:=by
 rw[sameKey_iff]at h;simp only[sameKey,decide_eq_decide];omega
theorem before_irrefl(a:bn):¬before a a:=by unfold before;omega
theorem before_trans{a b c:bn}(h:before a b)(h2:before b c):before a c:=by unfold before at*;omega
theorem DW{a b:bn}(h:before a b):¬before b a:=by unfold before at*;omega
theorem zD{a b:bn}(h:before a b):sameKey a b=false:=by
 cases e:sameKey a b with
 |false=>rfl
 |true=>rw[sameKey_iff]at e;unfold before at h;omega
theorem zF{a b:bn}(h1:sameKey a b=false)(h2:¬before a b):before b a:=by
 have:¬(a.f=b.f/\a.t=b.t/\a.term=b.term):=λe=>by rw[sameKey_iff.2 e]at h1;cases h1
 unfold before at*;omega
theorem F8{a b c:bn}(h:sameKey a b=true)(h2:before a c):before b c:=by
 rw[sameKey_iff]at h;unfold before at*;omega
def fN(k:bn)(o:Option bn)(a:bn):Option bn:=
 if a.cost<1099511627776/\sameKey k a=true then
  match o with
  |none=>some a
  |some b=>if a.cost<b.cost then some a else some b
 else o
def Jt(a:bn):List bn->List bn
 |[]=>[a]
 |b::l=>if sameKey a b=true then(if a.cost<b.cost then a else b)::l else b::Jt a l
theorem WO{a:bn}(h:a.cost<1099511627776)(al:List bn):tA al a=Jt a al:=by
 unfold tA;rw[if_pos h];induction al with
 |nil=>simp[Jt]
 |cons b l ih=>
  rw[Za4];unfold Jt;cases e:sameKey a b with
  |true=>simp;split<;>rfl
  |false=>
   simp;rw[<-ih];cases hf:l.findIdx? (sameKey a)with
   |none=>simp
   |some i=>simp;split<;>rfl
theorem Cz(k a:bn):∀l:List bn,(Jt a l).find? (sameKey k)=if sameKey k a=true then(match l.find? (sameKey k)with|none=>some a|some b=>if a.cost<b.cost then some a else some b)else l.find? (sameKey k)
 |[]=>by unfold Jt;rw[ZaN];cases sameKey k a<;>simp
 |b::l=>by
  unfold Jt;split
  ·rename_i e;have h1:=oW e k;have h2:sameKey k (if a.cost<b.cost then a else b)=sameKey k b:=by split<;>simp[h1]
   rw[ZaN,ZaN,h2,h1];cases h3:sameKey k b with
   |true=>simp;split<;>rfl
   |false=>simp
  ·rename_i e;rw[ZaN,ZaN];cases h3:sameKey k b with
   |true=>
    have:sameKey k a=false:=by
     cases h4:sameKey k a with
     |false=>rfl
     |true=>
      exfalso;apply e;rw[sameKey_iff]at h3 h4⊢;omega
    simp[this]
   |false=>simp only[];exact Cz k a l
theorem F9(k:bn)(cs:List bn):∀al:List bn,(bS al cs).find? (sameKey k)=cs.foldl (fN k) (al.find? (sameKey k)):=by
 induction cs with
 |nil=>intro al;rfl
 |cons c cs ih=>
  intro al;show(bS (tA al c) cs).find? (sameKey k)=_;rw[ih,ZaB]
  congr 1
  by_cases hc:c.cost<1099511627776
  ·rw[WO hc,Cz];unfold fN;simp[hc]
  ·unfold tA fN;rw[if_neg hc,if_neg (λe=>hc e.1)]
def uF(a:bn):List bn->List bn
 |[]=>[a]
 |b::l=>if sameKey b a=true then(if a.cost<b.cost then a else b)::l else if before a b then a::b::l else b::uF a l
theorem uG(a:bn)(l acc:List bn):l.foldl (dq a) (true,acc)=(true,acc++l):=by
 induction l generalizing acc with
 |nil=>simp
 |cons b l ih=>simp only[ZaB,dq];simp[ih]
def DX(a:bn)(p:Bool×List bn):List bn:=if p.1=true then p.2 else p.2++[a]
theorem xV(a:bn):∀(l acc:List bn),DX a (l.foldl (dq a) (false,acc))=acc++uF a l
 |[],acc=>by simp[uF,DX]
 |b::l,acc=>by
  rw[ZaB];unfold uF;by_cases h1:sameKey b a=true
  ·have:dq a (false,acc) b=(true,acc++[if a.cost<b.cost then a else b]):=by simp[dq,h1]
   rw[this,uG];simp[h1,DX]
  ·by_cases h2:before a b
   ·have:dq a (false,acc) b=(true,acc++[a]++[b]):=by simp[dq,h1,h2]
    rw[this,uG];simp[h1,h2,DX]
   ·have:dq a (false,acc) b=(false,acc++[b]):=by simp[dq,h1,h2]
    rw[this,xV a l];simp[h1,h2]
theorem Mk{a:bn}(h:a.cost<1099511627776)(l:List bn):oX l a=uF a l:=by
 unfold oX;rw[if_neg (by omega)];have:=xV a l [];simp only[ZaK]at this;exact this
theorem Ga{a c:bn}:∀{l:List bn},c∈uF a l->c=a\/c∈l
 |[],h=>by simp[uF]at h;exact .inl h
 |b::l,h=>by
  unfold uF at h;split at h
  ·rcases Zag.1 h with h|h
   ·split at h
    ·exact .inl h
    ·exact .inr (by simp[h])
   ·exact .inr (by simp[h])
  ·split at h
   ·rcases Zag.1 h with h|h
    ·exact .inl h
    ·exact .inr h
   ·rcases Zag.1 h with h|h
    ·exact .inr (by simp[h])
    ·rcases Ga h with h|h
     ·exact .inl h
     ·exact .inr (by simp[h])
theorem xW{a:bn}:∀{l:List bn},l.Pairwise before->(uF a l).Pairwise before
 |[],_=>by simp[uF]
 |b::l,h=>by
  rw[ZaL]at h;unfold uF;split
  ·rename_i e;rw[ZaL];refine⟨λc hc=>?_,h.2⟩;split
   ·exact F8 e (h.1 c hc)
   ·exact h.1 c hc
  ·rename_i e;split
   ·rename_i e2;rw[ZaL];refine⟨λc hc=>?_,ZaL.2 h⟩;rcases Zag.1 hc with rfl|hc
    ·exact e2
    ·exact before_trans e2 (h.1 c hc)
   ·rename_i e2;rw[ZaL];refine⟨λc hc=>?_,xW h.2⟩;rcases Ga hc with rfl|hc
    ·exact zF (by rw[jK];simpa using e) e2
    ·exact h.1 c hc
theorem CA(k a:bn):∀l:List bn,l.Pairwise before->(uF a l).find? (sameKey k)=if sameKey k a=true then(match l.find? (sameKey k)with|none=>some a|some b=>if a.cost<b.cost then some a else some b)else l.find? (sameKey k)
 |[],_=>by unfold uF;rw[ZaN];cases sameKey k a<;>simp
 |b::l,h=>by
  rw[ZaL]at h;unfold uF;split
  ·rename_i e;rw[jK]at e;have h1:=oW e k;have h2:sameKey k (if a.cost<b.cost then a else b)=sameKey k b:=by split<;>simp[h1]
   rw[ZaN,ZaN,h2,h1];cases h3:sameKey k b with
   |true=>simp;split<;>rfl
   |false=>simp
  ·rename_i e;split
   ·rename_i e2;rw[ZaN];cases h3:sameKey k a with
    |true=>
     have:(b::l).find? (sameKey k)=none:=by
      rw[Zcy];intro c hc hk;have hb:before a c:=by
       rcases Zag.1 hc with rfl|hc
       ·exact e2
       ·exact before_trans e2 (h.1 c hc)
      have:=zD hb;rw[sameKey_iff]at h3 hk;rw[sameKey_iff.2 (by omega)]at this;cases this
     rw[this];rfl
    |false=>rfl
   ·rename_i e2;rw[ZaN,ZaN];cases h3:sameKey k b with
    |true=>
     have:sameKey k a=false:=by
      cases h4:sameKey k a with
      |false=>rfl
      |true=>
       exfalso;apply e;rw[sameKey_iff]at h3 h4⊢;omega
     simp[this]
    |false=>simp only[];exact CA k a l h.2
theorem xX{l:List bn}(h:l.Pairwise before)(a:bn):(oX l a).Pairwise before:=by
 by_cases hc:a.cost<1099511627776
 ·rw[Mk hc];exact xW h
 ·unfold oX;rw[if_pos (by omega)];exact h
theorem sX(cs:List bn):∀{al:List bn},al.Pairwise before->(bl al cs).Pairwise before:=by
 induction cs with
 |nil=>intro al h;exact h
 |cons c cs ih=>intro al h;exact ih (xX h c)
theorem qw(k:bn)(cs:List bn):∀{al:List bn},al.Pairwise before->(bl al cs).find? (sameKey k)=cs.foldl (fN k) (al.find? (sameKey k)):=by
 induction cs with
 |nil=>intro al h;rfl
 |cons c cs ih=>
  intro al h;show(bl (oX al c) cs).find? (sameKey k)=_;rw[ih (xX h c),ZaB]
  congr 1
  by_cases hc:c.cost<1099511627776
  ·rw[Mk hc,CA k c al h];unfold fN;simp[hc]
  ·unfold oX fN;rw[if_pos (by omega),if_neg (λe=>hc e.1)]
theorem mq:∀{l:List bn},l.Pairwise (λa b=>sameKey a b=false)->∀a,a∈l↔l.find? (sameKey a)=some a
 |[],_,a=>by simp
 |b::l,h,a=>by
  rw[ZaL]at h;rw[ZaN,Zag];cases e:sameKey a b with
  |true=>
   simp only[Zaa];constructor
   ·rintro(h2|h2)
    ·exact h2.symm
    ·have:=h.1 a h2;rw[jK,e]at this;cases this
   ·exact λh2=>.inl h2.symm
  |false=>
   rw[<-mq h.2 a];constructor
   ·rintro(h2|h2)
    ·subst h2;rw[DU]at e;cases e
    ·exact h2
   ·exact .inr
theorem zG:∀{l1 l2:List bn},l1.Pairwise before->l2.Pairwise before->(∀a,a∈l1↔a∈l2)->l1=l2
 |[],[],_,_,_=>rfl
 |[],b::t,_,_,h=>absurd ((h b).2 (by simp)) (by simp)
 |a::t,[],_,_,h=>absurd ((h a).1 (by simp)) (by simp)
 |a::t1,b::t2,h1,h2,h=>by
  rw[ZaL]at h1 h2;have e:a=b:=by
   have ha:=(h a).1 (by simp);have hb:=(h b).2 (by simp);rcases Zag.1 ha with ha|ha
   ·exact ha
   ·rcases Zag.1 hb with hb|hb
    ·exact hb.symm
    ·exact absurd (h1.1 b hb) (DW (h2.1 a ha))
  subst e
  congr 1
  refine zG h1.2 h2.2 λx=>?_;constructor
  ·intro hx;rcases Zag.1 ((h x).1 (by simp[hx]))with e|e
   ·subst e;exact absurd (h1.1 x hx) (before_irrefl x)
   ·exact e
  ·intro hx;rcases Zag.1 ((h x).2 (by simp[hx]))with e|e
   ·subst e;exact absurd (h2.1 x hx) (before_irrefl x)
   ·exact e
theorem qx{l:List bn}(h:l.Pairwise before):l.Pairwise (λa b=>sameKey a b=false):=h.imp zD
theorem nodup_keys{l:List bn}(h:(l.map bW).Nodup):l.Pairwise (λa b=>sameKey a b=false):=by
 unfold List.Nodup at h;rw[Zci]at h;refine h.imp λ{a b} YI=>?_;cases e:sameKey a b with
 |false=>rfl
 |true=>exact absurd (oY.2 e) YI
theorem CB{α:Type}(lt:α->α->Bool)(x:α):∀l:List α,(oe lt x l).Perm (x::l)
 |[]=>ZcQ _
 |y::ys=>by
  simp only[oe];split
  ·exact((CB lt x ys).cons y).trans (List.Perm.swap x y ys)
  ·exact ZcQ _
theorem Gb{α:Type}(lt:α->α->Bool)(l:List α):(iZ lt l).Perm l:=by
 have key:∀(l acc:List α),(l.foldl (λacc x=>oe lt x acc) acc).Perm (l++acc):=by
  intro l;induction l with
  |nil=>intro acc;exact ZcQ _
  |cons x l ih=>
   intro acc;rw[ZaB];refine(ih _).trans ?_;refine((CB lt x acc).append_left l).trans ?_;exact List.perm_middle
 unfold iZ zH;refine(List.reverse_perm _).trans ?_;simpa using key l []
theorem tB{al:List bn}(h:(al.map bW).Nodup){a:bn}(ha:a∈al):og al (bW a)=a:=by
 have h1:=(rY ha).1;have h2:=(rY ha).2.1;have h3:=(mq (nodup_keys h) a).1 ha;have h4:=(mq (nodup_keys h) _).1 h2;have e:sameKey (og al (bW a))=sameKey a:=by
  funext b;rw[jK _ b,jK _ b];exact(oW h1 b).symm
 rw[e,h3]at h4;exact(ZbK h4).symm
theorem DY{al:List bn}(h:(al.map bW).Nodup)(a:bn):a∈ja al↔a∈al:=by
 unfold ja;rw[Zal];constructor
 ·rintro⟨r,hr,rfl⟩;rw[rZ]at hr;obtain⟨b,hb,rfl⟩:=Zal.1 hr;exact(rY hb).2.1
 ·intro ha;exact⟨bW a,by rw[rZ];exact Zal.2 ⟨a,ha,rfl⟩,tB h ha⟩
theorem yY{al:List bn}(h:(al.map bW).Nodup):(ja al).Pairwise before:=by
 unfold ja;rw[Zci];have h1:(iZ (wD dy) (al.map bW)).Nodup:=(Gb _ _).symm.nodup h;have h2:=oZ Gc (al.map bW);unfold tC at h2;unfold List.Nodup at h1;refine(h1.and h2).imp_of_mem λ{r s} hr hs jI=>?_;rw[rZ]at hr hs;obtain⟨a,ha,rfl⟩:=Zal.1 hr;obtain⟨b,hb,rfl⟩:=Zal.1 hs;rw[tB h ha,tB h hb];have h3:sameKey a b=false:=by
  cases e:sameKey a b with
  |false=>rfl
  |true=>exact absurd (oY.2 e) jI.1
 by_cases kv:before a b
 ·exact kv
 ·exfalso;have h4:=zF h3 kv;have h5:=jI.2;rw[r8]at h5;apply h5;simp only[bW,jc,cX,WQ,List.getD_cons_zero,List.getD_cons_succ];exact h4
end Go.Proofs
namespace Go.Proofs
open Go.DM Go.DM.NT
def pK(k a:bn):Bool:=sameKey k a&&decide (a.cost<1099511627776)
theorem fold_filter(k:bn)(cs:List bn):∀o,cs.foldl (fN k) o=(cs.filter (pK k)).foldl (fN k) o:=by
 induction cs with
 |nil=>intro o;rfl
 |cons c cs ih=>
  intro o;rw[ZaB,Za8,ih];split
  ·rfl
  ·rename_i h
   congr 1
   unfold fN;rw[if_neg];rintro⟨h1,h2⟩;apply h;simp[pK,h1,h2]
theorem qy{α β:Type}(p:β->Bool)(f:α->List β)(l:List α):(l.flatMap f).filter p=l.flatMap λa=>(f a).filter p:=by
 induction l with
 |nil=>rfl
 |cons a l ih=>simp[Zbo,List.filter_append,ih]
theorem kx{p:bn->Bool}{f:Nat->List bn}{i:Nat}(k0:Nat)(h:∀k,k≠k0->(f k).filter p=[]):∀m,(ft f i m).filter p=if i<=k0/\k0<m then(f k0).filter p else []:=by
 intro m;by_cases him:m<=i
 ·rw[show ft f i m=[]by unfold ft;rw[show m-i=0 by omega];rfl,if_neg (by omega)];rfl
 obtain⟨d,rfl⟩:∃d,m=i+d:=⟨m-i,by omega⟩;clear him;induction d with
 |zero=>rw[ZbI,tD,if_neg (by omega)];rfl
 |succ d ih=>
  rw[<-Nat.add_assoc,o5 f (by omega),List.filter_append,ih];by_cases e:i+d=k0
  ·rw[if_neg (by omega),if_pos (by omega),e];rfl
  ·rw[h _ e];by_cases e2:i<=k0/\k0<i+d
   ·rw[if_pos e2,if_pos (by omega)];simp
   ·rw[if_neg e2,if_neg (by omega)];rfl
theorem filter_none{p:bn->Bool}{l:List bn}(h:∀a∈l,p a=false):l.filter p=[]:=by
 rw[List.filter_eq_nil_iff];intro a ha;simp[h a ha]
theorem jL{k a:bn}(h:¬(k.f=a.f/\k.t=a.t/\k.term=a.term)):pK k a=false:=by
 have:sameKey k a=false:=by
  cases e:sameKey k a with
  |false=>rfl
  |true=>exact absurd (sameKey_iff.1 e) h
 simp[pK,this]
theorem Ju{k:bn}{f t x c d:Int}{o:List (Int×Int)}(hc:0<=c)(hd:0<=d):[(⟨f,t,x,c+d,o⟩:bn)].filter (pK k)=[(⟨f,t,x,jG c d,o⟩:bn)].filter (pK k):=by
 by_cases h:c+d<1099511627776
 ·have:jG c d=c+d:=by unfold jG;rw[if_neg (by omega)]
  rw[this]
 ·have:jG c d=1099511627776:=by unfold jG;rw[if_pos (by omega)]
  rw[this];have h1:pK k ⟨f,t,x,c+d,o⟩=false:=by simp[pK,h]
  have h2:pK k ⟨f,t,x,1099511627776,o⟩=false:=by simp[pK]
  simp[h1,h2]
theorem CC{read:List Int}{i m cost:Int}{ops:List (Int×Int)}{n:Nat}{a:bn}(h:a∈kj read i m cost ops n):∃t:Nat,t<n/\0<=read.getD t 0/\a=⟨2*i,2*m+2,t,cost+read.getD t 0,ops++[(1,(t:Int))]⟩:=by
 unfold kj at h;rw[ZaV]at h;obtain⟨t,ht,h⟩:=h;rw[ZaQ]at ht;split at h
 ·rw[Zah]at h;exact⟨t,ht,by assumption,h⟩
 ·simp at h
theorem P5{ins:List Int}{i m cost:Int}{ops:List (Int×Int)}{n:Nat}{a:bn}(h:a∈qz ins i m cost ops n):∃t:Nat,t<n/\a=⟨2*i,2*m,(t:Int),cost+ins.getD t 0,ops++[(3,(t:Int))]⟩:=by
 unfold qz at h;rw[Zal]at h;obtain⟨t,ht,h⟩:=h;rw[ZaQ]at ht;exact⟨t,ht,h.symm⟩
def zI(x:Input)(i m:Nat):List bn:=if bX x m then [⟨2*i,2*m+1,(x.aj.getD (m+1) default).kind,fW x i m+x.swap,dd (m-i)++[(4,0)]⟩]else []
theorem CD{x:Input}{i m:Nat}{a:bn}(h:a∈zI x i m):bX x m=true/\a=⟨2*i,2*m+1,(x.aj.getD (m+1) default).kind,fW x i m+x.swap,dd (m-i)++[(4,0)]⟩:=by
 unfold zI at h;split at h
 ·exact⟨by assumption,by simpa using h⟩
 ·simp at h
theorem P6{x:Input}{i m:Nat}{a:bn}(h:a∈rS x i m):bX x m=true/\a.f=2*i/\a.t=2*m+1:=by
 unfold rS at h;split at h
 ·simp at h;subst h;exact⟨by assumption,rfl,rfl⟩
 ·simp at h
theorem zJ{x:Input}{i:Nat}{a:bn}(h:a∈rT x i):bX x i=true/\a=⟨2*i+1,2*i+4,(x.aj.getD i default).kind,0,[]⟩:=by
 unfold rT at h;split at h
 ·exact⟨by assumption,by simpa using h⟩
 ·simp at h
theorem Jv{x:Input}{i m t:Nat}{a:bn}(h:a∈rA x i m t):m<x.aj.length/\a.f=2*i/\a.t=2*m+2/\a.term=t:=by
 unfold rA at h;split at h
 ·rename_i h2;simp at h;subst h;exact⟨h2.1,rfl,rfl,rfl⟩
 ·simp at h
theorem mem_iT{x:Input}{i m t:Nat}{a:bn}(h:a∈iT x i m t):a.f=2*i/\a.t=2*m/\a.term=t:=by
 simp[iT]at h;subst h;exact⟨rfl,rfl,rfl⟩
theorem Gd(x:Input)(i:Nat):qA x i=ft (pS x i) i (x.aj.length+1)++rT x i:=rfl
theorem NU{x:Input}{i m:Nat}{a:bn}(h:a∈pS x i m):(i<m/\a∈xY x i (m-1))\/a∈qz x.insert i m (fW x i m) (dd (m-i)) x.insert.length\/a∈zI x i m:=by
 unfold pS at h;rw[Zao,Zao]at h;rcases h with h|h|h
 ·split at h
  ·exact .inl ⟨by assumption,h⟩
  ·simp at h
 ·exact .inr (.inl h)
 ·exact .inr (.inr h)
theorem DZ{x:Input}{i m:Nat}{a:bn}(h:a∈pS x i m):a.f=2*i/\(a.t=2*m\/a.t=2*m+1):=by
 rcases NU h with⟨h1,h⟩|h|h
 ·obtain⟨t,_,_,rfl⟩:=CC h;exact⟨rfl,.inl (by simp only;omega)⟩
 ·obtain⟨t,_,rfl⟩:=P5 h;exact⟨rfl,.inl rfl⟩
 ·obtain⟨_,rfl⟩:=CD h;exact⟨rfl,.inr rfl⟩
theorem WR{x:Input}{i:Nat}{a:bn}(h:a∈qA x i):a.f=2*i\/a.f=2*i+1:=by
 rw[Gd,Zao]at h;rcases h with h|h
 ·obtain⟨m,_,_,h⟩:=dz h;exact .inl (DZ h).1
 ·obtain⟨_,rfl⟩:=zJ h;exact .inr rfl
theorem WS{x:Input}{i m:Nat}{a:bn}(h:a∈rM x i m):a.f=2*i/\(a.t=2*m+2/\m<x.aj.length\/a.t=2*m+1):=by
 unfold rM at h;rw[Zao]at h;rcases h with h|h
 ·obtain⟨t,_,_,h⟩:=dz h;have:=Jv h;exact⟨this.2.1,.inl ⟨this.2.2.1,this.1⟩⟩
 ·have:=P6 h;exact⟨this.2.1,.inr this.2.2⟩
theorem rI_f{x:Input}{i:Nat}{a:bn}(h:a∈rI x i):a.f=2*i\/a.f=2*i+1:=by
 unfold rI at h;rw[Zao]at h;rcases h with h|h
 ·obtain⟨m,_,_,h⟩:=dz h;exact .inl (WS h).1
 ·obtain⟨_,rfl⟩:=zJ h;exact .inr rfl
theorem WT{x:Input}{i m:Nat}{a:bn}(h:a∈iM x i m):a.f=2*i/\a.t=2*m:=by
 unfold iM at h;obtain⟨t,_,_,h⟩:=dz h;have:=mem_iT h;exact⟨this.1,this.2.1⟩
theorem iI_f{x:Input}{i:Nat}{a:bn}(h:a∈iI x i):a.f=2*i:=by
 unfold iI at h;obtain⟨m,_,_,h⟩:=dz h;exact(WT h).1
def nnX(x:Input):Prop:=(∀p∈x.insert,0<=p)/\0<=x.swap
theorem Ge{x:Input}(hn:nnX x)(hd:ng x.aj)(k:bn)(i m:Nat):(zI x i m).filter (pK k)=(rS x i m).filter (pK k):=by
 unfold zI rS;split
 ·exact Ju (eE hd i m).1 hn.2
 ·rfl
theorem Gf{x:Input}(hd:ng x.aj)(hr:∀c∈x.aj,c.read.length=x.insert.length)(k:bn){i m:Nat}(hm:m<x.aj.length):(xY x i m).filter (pK k)=(ft (rA x i m) 0 x.insert.length).filter (pK k):=by
 have hc:(x.aj.getD m default).read.length=x.insert.length:=hr _ (by simp[List.getD,hm]);unfold xY kj ft;rw[hc,qy,qy,Zb1]
 congr 1
 funext t;rw[ZaY];unfold rA lH;have hcol:(default:Int)=0:=rfl;rw[hcol];by_cases h:0<=(x.aj.getD m default).read.getD t 0
 ·rw[if_pos h,if_pos ⟨hm,h⟩];exact Ju (eE hd i m).1 h
 ·rw[if_neg h,if_neg (λe=>h e.2)]
theorem zK{x:Input}(hn:nnX x)(hd:ng x.aj)(k:bn)(i m:Nat):(qz x.insert i m (fW x i m) (dd (m-i)) x.insert.length).filter (pK k)=(iM x i m).filter (pK k):=by
 unfold qz iM ft;rw[qy,Zb1];have:∀l:List Nat,(∀t∈l,t<x.insert.length)->(l.map λ(t:Nat)=>(⟨2*i,2*m,(t:Int),fW x i m+x.insert.getD t 0,dd (m-i)++[(3,(t:Int))]⟩:bn)).filter (pK k)=l.flatMap λt=>(iT x i m (0+t)).filter (pK k):=by
  intro l;induction l with
  |nil=>intro _;rfl
  |cons t l ih=>
   intro ht;rw[Zau,Zbo,<-ih λt h=>ht t (by simp[h])];have e:iT x i m (0+t)=[⟨2*i,2*m,t,jG (fW x i m) (x.insert.getD t default),dd (m-i)++[(3,(t:Int))]⟩]:=by rw[ZaY];rfl
   have D1:=ht t (by simp);have hp:0<=x.insert.getD t 0:=hn.1 _ (by simp[List.getD,D1]);rw[e,<-List.singleton_append (l:=List.map _ l),List.filter_append]
   congr 1
   exact Ju (eE hd i m).1 hp
 exact this _ λt ht=>ZaQ.1 ht
theorem Jw{x:Input}(hn:nnX x)(hd:ng x.aj)(hr:∀c∈x.aj,c.read.length=x.insert.length)(k:bn):
  (uH x (x.aj.length+1)).filter (pK k)=(ft (rI x) 0 (x.aj.length+1)++ft (iI x) 0 (x.aj.length+1)).filter (pK k):=by
 have e1:uH x (x.aj.length+1)=ft (qA x) 0 (x.aj.length+1):=by simp[uH,ft]
 obtain⟨n,hN⟩:∃n,x.aj.length=n:=⟨_,rfl⟩;rw[e1,List.filter_append];have out:∀(f:Nat->List bn),(∀i,∀a∈f i,a.f=2*i\/a.f=2*i+1)->∀j,j≠(k.f/2).toNat->(f j).filter (pK k)=[]:=by
  intro f hf j hj;refine filter_none λa ha=>jL λe=>hj ?_;have:=hf j a ha;omega
 rw[kx _ (out _ λi a=>WR),kx _ (out _ λi a=>rI_f),kx _ (out _ λi a h=>.inl (iI_f h))];obtain⟨i,hi⟩:∃i,(k.f/2).toNat=i:=⟨_,rfl⟩;rw[hi];by_cases qc:0<=i/\i<x.aj.length+1
 case neg=>rw[if_neg qc,if_neg qc,if_neg qc];rfl
 rw[if_pos qc,if_pos qc,if_pos qc];rw[Gd];unfold rI iI;rw[List.filter_append,List.filter_append];by_cases hodd:k.f=2*i
 case neg=>
  have h1:(ft (pS x i) i (x.aj.length+1)).filter (pK k)=[]:=filter_none λa ha=>jL λe=>by
   obtain⟨m,_,_,h⟩:=dz ha;have:=(DZ h).1;omega
  have h2:(ft (rM x i) i (x.aj.length+1)).filter (pK k)=[]:=filter_none λa ha=>jL λe=>by
   obtain⟨m,_,_,h⟩:=dz ha;have:=(WS h).1;omega
  have h3:(ft (iM x i) i (x.aj.length+1)).filter (pK k)=[]:=filter_none λa ha=>jL λe=>by
   obtain⟨m,_,_,h⟩:=dz ha;have:=(WT h).1;omega
  rw[h1,h2,h3];simp
 have hT:(rT x i).filter (pK k)=[]:=filter_none λa ha=>jL λe=>by
  obtain⟨_,rfl⟩:=zJ ha;simp only at e;omega
 rw[hT,ZaJ,ZaJ];have outC:∀m,m≠(k.t/2).toNat->(pS x i m).filter (pK k)=[]:=λm hm=>filter_none λa ha=>jL λe=>by
  have:=(DZ ha).2;omega
 have outI:∀m,m≠(k.t/2).toNat->(iM x i m).filter (pK k)=[]:=λm hm=>filter_none λa ha=>jL λe=>by
  have:=(WT ha).2;omega
 rw[kx _ outC,kx _ outI];obtain⟨m,hm⟩:∃m,(k.t/2).toNat=m:=⟨_,rfl⟩;rw[hm]at outC outI⊢;have YJ:(pS x i m).filter (pK k)=(if i<m then xY x i (m-1)else []).filter (pK k)++((qz x.insert i m (fW x i m) (dd (m-i)) x.insert.length).filter (pK k)++(zI x i m).filter (pK k)):=by
  rw[<-List.filter_append,<-List.filter_append];rfl
 by_cases hev:k.t=2*m
 ·
  have zL:(zI x i m).filter (pK k)=[]:=filter_none λa ha=>jL λe=>by
   obtain⟨_,rfl⟩:=CD ha;simp only at e;omega
  have outR:∀j,j≠(if m=0 then n+1 else m-1)->(rM x i j).filter (pK k)=[]:=λj hj=>filter_none λa ha=>jL λe=>by
   have:=(WS ha).2;split at hj<;>omega
  rw[kx _ outR,YJ,zL,ZaJ,zK hn hd k i m];by_cases WU:m=0
  ·rw[if_pos WU];have h5:¬(i<=n+1/\n+1<x.aj.length+1):=by omega
   have h6:¬i<m:=by omega
   rw[if_neg h5,if_neg h6];simp
  ·rw[if_neg WU];obtain⟨q,rfl⟩:∃q,m=q+1:=⟨m-1,by omega⟩;rw[Zcd];have hrM:(rM x i q).filter (pK k)=(ft (rA x i q) 0 x.insert.length).filter (pK k):=by
    have:(rS x i q).filter (pK k)=[]:=filter_none λa ha=>jL λe=>by
     have:=(P6 ha).2.2;omega
    unfold rM;rw[List.filter_append,this,ZaJ]
   by_cases hq:q<x.aj.length
   ·by_cases hiq:i<q+1
    ·rw[if_pos hiq,if_pos ⟨by omega,by omega⟩,if_pos ⟨by omega,by omega⟩,hrM,Gf hd hr k hq];rw[if_pos ⟨by omega,by omega⟩]
    ·rw[if_neg hiq];by_cases hiq2:i=q+1
     ·rw[if_pos ⟨by omega,by omega⟩,if_neg (by omega),if_pos ⟨by omega,by omega⟩];simp
     ·rw[if_neg (by omega),if_neg (by omega),if_neg (by omega)];simp
   ·have hz:(rM x i q).filter (pK k)=[]:=by
     rw[hrM];refine filter_none λa ha=>?_;obtain⟨t,_,_,h⟩:=dz ha;exact absurd (Jv h).1 hq
    rw[hz,if_neg (by omega)];have h5:¬(i<=q+1/\q+1<x.aj.length+1):=by omega
    rw[if_neg h5];simp
 ·
  have outR:∀j,j≠m->(rM x i j).filter (pK k)=[]:=λj hj=>filter_none λa ha=>jL λe=>by
   have:=(WS ha).2;omega
  rw[kx _ outR];have h1:(iM x i m).filter (pK k)=[]:=filter_none λa ha=>jL λe=>by
   have:=(WT ha).2;omega
  have h2:(qz x.insert i m (fW x i m) (dd (m-i)) x.insert.length).filter (pK k)=[]:=by rw[zK hn hd,h1]
  have h3:(if i<m then xY x i (m-1)else []).filter (pK k)=[]:=filter_none λa ha=>jL λe=>by
   split at ha
   ·obtain⟨t,_,_,rfl⟩:=CC ha;simp only at e;omega
   ·simp at ha
  have h4:(rM x i m).filter (pK k)=(rS x i m).filter (pK k):=by
   have:(ft (rA x i m) 0 x.insert.length).filter (pK k)=[]:=filter_none λa ha=>jL λe=>by
    obtain⟨t,_,_,h⟩:=dz ha;have:=(Jv h).2.2.1;omega
   unfold rM;rw[List.filter_append,this,ZaK]
  rw[YJ,h1,h2,h3,h4,Ge hn hd];simp
theorem nG(x:Input):((jM x).map bW).Nodup:=uI _ (by simp)
theorem gZ(x:Input):(dS x).Pairwise before:=sX _ (sX _ List.Pairwise.nil)
theorem CE{x:Input}(hn:nnX x)(hd:ng x.aj)(hr:∀c∈x.aj,c.read.length=x.insert.length):ja (jM x)=dS x:=by
 refine zG (yY (nG x)) (gZ x) λa=>?_;rw[DY (nG x),mq (nodup_keys (nG x)),mq (qx (gZ x))];unfold jM dS;rw[F9,<-cU,qw _ _ List.Pairwise.nil,fold_filter,Jw hn hd hr,<-fold_filter]
theorem P7(x:Input):wE x=dU x (2*x.aj.length+1):=by
 unfold wE dU;apply Zbq;intro s hs;rw[ZaQ]at hs;rw[if_pos hs]
theorem Jx{x:Input}(hn:nnX x)(hd:ng x.aj)(hr:∀c∈x.aj,c.read.length=x.insert.length):iS x=aH x:=by
 unfold iS aH;rw[CE hn hd hr,P7]
theorem NV{x:Input}{k:Int}(h:mr x k):iS x=aH x:=by
 obtain⟨h1,h2,h3,h4⟩:=r9 h;exact Jx ⟨λp hp=>(h1.2.2.2.1 p hp).1,h1.2.2.2.2.1⟩ h1.1 h4
theorem P8(k:bn)(cs:List bn):∀o a,cs.foldl (fN k) o=some a->o=some a\/(a∈cs/\a.cost<1099511627776):=by
 induction cs with
 |nil=>intro o a h;exact .inl h
 |cons c cs ih=>
  intro o a h;rw[ZaB]at h;rcases ih _ _ h with h|⟨h1,h2⟩
  ·unfold fN at h;split at h
   ·rename_i hc;split at h
    ·simp only[Zaa]at h;subst h;exact .inr ⟨by simp,hc.1⟩
    ·split at h
     ·simp only[Zaa]at h;subst h;exact .inr ⟨by simp,hc.1⟩
     ·exact .inl h
   ·exact .inl h
  ·exact .inr ⟨by simp[h1],h2⟩
theorem xZ{x:Input}{a:bn}(h:a∈dS x):(a∈ft (rI x) 0 (x.aj.length+1)\/a∈ft (iI x) 0 (x.aj.length+1))/\a.cost<1099511627776:=by
 have h1:=(mq (qx (gZ x)) a).1 h;unfold dS at h1;rw[<-cU,qw _ _ List.Pairwise.nil]at h1;rcases P8 _ _ _ _ h1 with h2|⟨h2,h3⟩
 ·cases h2
 ·exact⟨Zao.1 h2,h3⟩
theorem NW{x:Input}{k:Int}(h:mr x k):∀c∈x.aj,yZ c x.insert.length:=by
 obtain⟨⟨h1,h2⟩,h3,h4⟩:=h;have P9:nh x.aj x.insert.length:=by
  by_cases e:nh x.aj x.insert.length
  ·exact e
  ·exact absurd (.inr (.inr (.inr (.inr (.inr e))))) h3
 intro c hc;obtain⟨i,hi,rfl⟩:=ZaZ hc;have:=P9 i hi
 rwa [show x.aj.getD i default=x.aj[i]by simp[List.getD,hi]]at this
theorem Qa{x:Input}{k:Int}(h:mr x k){t:Nat}(ht:t<x.insert.length):1<=x.insert.getD t default:=by
 have:=h.2.2 t (by simpa using ht);unfold D2 at this;omega
theorem Qb{a b:Int}(ha:0<=a)(hb:1<=b):1<=jG a b:=by unfold jG;split<;>omega
theorem Jy{x:Input}{k:Int}(h:mr x k):∀a∈dS x,Gg (2*x.aj.length+1:Nat) x.insert.length a:=by
 obtain⟨g1,g2,g3,g4⟩:=r9 h;have hc:=NW h;have Qc:∀m,m<x.aj.length->(x.aj.getD m default).kind<x.insert.length:=by
  intro m hm;have:=(hc (x.aj.getD m default) (by simp[List.getD,hm])).1;omega
 intro a ha;obtain⟨hm,qC⟩:=xZ ha;unfold Gg;rcases hm with hm|hm
 ·obtain⟨i,_,hi,hm⟩:=dz hm;unfold rI at hm;rw[Zao]at hm;rcases hm with hm|hm
  ·obtain⟨m,him,PQ,hm⟩:=dz hm;unfold rM at hm;rw[Zao]at hm;rcases hm with hm|hm
   ·obtain⟨t,_,ht,hm⟩:=dz hm;unfold rA at hm;split at hm
    ·rename_i hr;simp only[Zah]at hm;subst hm;have:=uJ (eE g1.1 i m).1 hr.2;simp only at qC⊢;omega
    ·simp at hm
   ·unfold rS at hm;split at hm
    ·rename_i hr;simp only[Zah]at hm;subst hm;have:=uJ (eE g1.1 i m).1 g1.2.2.2.2.1;unfold bX at hr;rw[decide_eq_true_eq]at hr;have:=Qc (m+1) hr.1;simp only at qC⊢;omega
    ·simp at hm
  ·obtain⟨hr,rfl⟩:=zJ hm;unfold bX at hr;rw[decide_eq_true_eq]at hr;have:=Qc i (by omega);simp only;omega
 ·obtain⟨i,_,hi,hm⟩:=dz hm;unfold iI at hm;obtain⟨m,him,PQ,hm⟩:=dz hm;unfold iM at hm;obtain⟨t,_,ht,hm⟩:=dz hm;simp only[iT,Zah]at hm;subst hm;have:=Qb (eE g1.1 i m).1 (Qa h ht);simp only at qC⊢;omega
theorem NX{x:Input}{k:Int}(h:mr x k):qD (aH x) x.insert.length:=by
 obtain⟨g1,g2,g3,g4⟩:=r9 h;have hlen:(aH x).final.length=2*x.aj.length+1:=Jz x _;have lF:(aH x).aN=2*x.aj.length+1:=rfl;refine⟨⟨by omega,by omega⟩,λi hi=>?_,λi hi=>⟨?_, ?_⟩⟩
 ·rw[hlen]at hi;unfold Ml;have:(aH x).final.getD i default=if i % 2=0 then fW x (i/2) x.aj.length else 1099511627776:=by
   simp[aH,dU,List.getD,hi]
  rw[this];split
  ·exact eE g1.1 _ _
  ·omega
 ·have:=Jy h ((aH x).aD.getD i default) (by simp only[List.getD,Zan hi,Zbc];exact Zbi hi);rw[lF];simpa using this
 ·by_cases YK:i=0
  ·exact .inl YK
  ·right;have hs:=gZ x;rw[ZcF]at hs;have:=hs (i-1) i (by show i-1<(aH x).aD.length;omega) hi (by omega);have e1:(aH x).aD.getD (i-1) default=(dS x)[i-1]'(by show i-1<(aH x).aD.length;omega):=by
    simp only[List.getD];rw[Zan (by omega)];rfl
   have e2:(aH x).aD.getD i default=(dS x)[i]'hi:=by
    simp only[List.getD];rw[Zan hi];rfl
   rw[e1,e2];exact this
end Go.Proofs
namespace Go.Proofs
open Go.DM Go.DM.NT
theorem D3(al:List bn):(ja al).length=al.length:=by simp[ja,uK]
theorem NY{x:Input}{k:Int}(h:mr x k):(jM x).length<=900000:=by
 obtain⟨h1,h2,h3,h4⟩:=r9 h;rw[<-D3,CE ⟨λp hp=>(h1.2.2.2.1 p hp).1,h1.2.2.2.2.1⟩ h1.1 h4];exact x5 (by omega) h2
theorem JA{x:Input}{k:Int}(h:mr x k):aT Tryz.prog 32 [x.enc] (aH x).enc:=by
 rw[<-NV h];have:=NY h;exact t12 x (r9 h).1 (by unfold oi;omega) (by omega)
end Go.Proofs
namespace Go.Proofs
open Go.DM Go.DM.NT
def wF(x:Input):List bn:=ft (rI x) 0 (x.aj.length+1)++ft (iI x) 0 (x.aj.length+1)
theorem x6(x:Input)(a:bn):a∈dS x↔((wF x).filter (pK a)).foldl (fN a) none=some a:=by
 rw[mq (qx (gZ x)) a];unfold dS;rw[<-cU,qw _ _ List.Pairwise.nil,fold_filter];rfl
def intTy:Ty:=.int .i64
theorem Pk:maxLen=9223372036854775807:=by decide
theorem X4{α:Type}{enc:α->List T}{rows:List (List T)}(h:∀r∈rows,∃x,r=enc x):∃l:List α,rows=l.map enc:=by
 induction rows with
 |nil=>exact⟨[],rfl⟩
 |cons r rows ih=>
  obtain⟨x,rfl⟩:=h r (Za5 ..);obtain⟨l,rfl⟩:=ih λr hr=>h r (ZaW _ hr);exact⟨x::l,rfl⟩
theorem iV{ts:List T}(h:Ty.has (.int .i64) ts):∃x,ts=[ti x]:=by
 simp only[Ty.has]at h;obtain⟨x,rfl,_⟩:=h;exact⟨x,rfl⟩
theorem rK{α:Type}{enc:α->List T}{e:Ty}{ts:List T}(he:∀r,Ty.has e r->∃x,r=enc x)(h:Ty.has (.slice e) ts):∃l:List α,ts=[.sl (l.map enc)]/\l.length<=9223372036854775807:=by
 simp only[Ty.has]at h;obtain⟨rows,rfl,hl,hr⟩:=h;obtain⟨l,rfl⟩:=X4 λr ff=>he r (hr r ff);rw[Pk,Zbt]at hl;exact⟨l,rfl,hl⟩
theorem all_cons{t:Ty}{sT:List Ty}{ts:List T}(h:Ty.hasAll (t::sT) ts):∃a b,ts=a++b/\t.has a/\Ty.hasAll sT b:=by simpa only[Ty.hasAll]using h
theorem all_nil{ts:List T}(h:Ty.hasAll [] ts):ts=[]:=by simpa only[Ty.hasAll]using h
theorem E9{fs:List Ty}{ts:List T}(h:Ty.has (.seq fs) ts):Ty.hasAll fs ts:=by simpa only[Ty.has]using h
def T5:Ty:=.seq [.int .i64,.slice intTy,.int .i64]
def XH:Ty:=.seq [.slice T5,.slice intTy,.int .i64]
theorem T6{ts:List T}(h:T5.has ts):∃r:bD,ts=r.enc:=by
 obtain⟨_,_,rfl,h1,h⟩:=all_cons (E9 h);obtain⟨_,_,rfl,h2,h⟩:=all_cons h;obtain⟨_,_,rfl,h3,h⟩:=all_cons h;obtain rfl:=all_nil h;obtain⟨a,rfl⟩:=iV h1;obtain⟨l,rfl,hl⟩:=rK (λr=>iV) h2;obtain⟨c,rfl⟩:=iV h3;exact⟨⟨a,l,c⟩,rfl⟩
end Go.Proofs
namespace Go.Proofs
namespace cu
open Go.DM
def Zf:List RO:=[
 o (.box (t 0)) 2 [],
 o (.box (t 1)) 3 [],
 o (.bP (.cq (.v (.bool false)))) 4 []]
def GX:List RO:=[
 a 0 2 5 [],
 l 5 6 [0],
 a 0 3 7 [],
 l 7 8 [2],
 b .lss 6 8 9 [1,3],
 m 9 10 [4],
 u 0 2 11 10 false [5],
 v 11 12 10 false [6,5],
 u 0 3 13 10 false [5],
 v 13 14 10 false [8,5],
 g (.bin .eql (t 12) (t 14)) 15 10 false [7,9,5],
 w 15 16 10 false [10,5,5],
 u 1 2 17 16 true [11],
 v 17 18 16 true [12,11],
 u 1 3 19 16 true [11],
 v 19 20 16 true [14,11],
 g (.bin .lss (t 18) (t 20)) 21 16 true [13,15,11],
 g (.pick (t 16) (t 21) (.cq (.v (.bool false)))) 22 10 false [11,16,5],
 p 10 22 23 [5,17],
 m 23 4 (k [18,11] 18)]
def d92:DC:=(j (y Zf)
 (j (y GX)
 .ret))
def Ro:List bN:=[.slot 4]
theorem c92 [Laid]:aQ Tryz.prog 92 24 d92 Ro:=⟨Tryz.f92,by kernel_rfl,by kernel_rfl,by kernel_rfl,by kernel_rfl,by kernel_rfl⟩
def Zg:List RO:=[
 o (.alloc [(.v (.int .i64 0)),(.v (.int .i64 0))]) 4 []]
def Zh:List RO:=[
 n 0 8,
 m 8 5 [0,0],
 o (.bP (i 1)) 6 [1,0,1]]
def Zi:List RO:=[
 o (.bP (i 0)) 7 []]
def Zj:List RO:=[
 n 7 9,
 n 1 10,
 o (.len (t 10)) 11 [1],
 b .lss 9 11 12 [0,2]]
def Zk:List RO:=[
 n 5 15,
 n 1 16,
 n 7 17,
 x 2 16 17 18 [1,2],
 a 0 18 19 [3],
 l 19 20 [4],
 b .add 15 20 21 [0,5],
 o (.minmax false (t 21) (i 1099511627776)) 22 [6],
 n 6 23,
 n 1 24,
 n 7 25,
 x 2 24 25 26 [9,10],
 a 1 26 27 [11],
 l 27 28 [12],
 b .add 23 28 29 [8,13],
 o (.minmax false (t 29) (i 1099511627776)) 30 [14],
 m 22 5 (k [7] 7),
 m 30 6 (k [15,16] 16)]
def Zl:List RO:=[
 n 7 13,
 o (.bin .add (t 13) (i 1)) 14 [0],
 m 14 7 [1,0,1]]
def Zm:List RO:=[
 n 5 31,
 o (.bin .geq (t 31) (i 1099511627776)) 32 [0]]
def Zn:List RO:=[
 o (.build [(.v (.int .i64 0)),(.v (.int .i64 0))] [(0,1,(i 1099511627776))]) 33 [],
 S 2 4 33 [0,0]]
def Zo:List RO:=[
 n 5 34,
 n 6 35,
 o (.build [(.v (.int .i64 0)),(.v (.int .i64 0))] [(0,1,(t 34)),(1,1,(t 35))]) 36 [0,1],
 S 2 4 36 [2,0,1,2]]
def d69:DC:=(j (y Zg)
 (j (y Zh)
 (j (j (y Zi)
 (.block 0 (.loop (j (j (y Zj)
 (.cond (.tmp 12) .skip
 (.exit 0)))
 (j (.block 1 (Y Zk))
 (y Zl))))))
 (j (j (y Zm)
 (.cond (.tmp 32) (j (y Zn)
 .ret)
 .skip))
 (j (y Zo)
 .ret)))))
def Kg:List bN:=[.cell 4 2 true]
theorem c69 [Laid]:aQ Tryz.prog 69 37 d69 Kg:=⟨Tryz.f69,by kernel_rfl,by kernel_rfl,by kernel_rfl,by kernel_rfl,by kernel_rfl⟩
def Zp:List RO:=[
 o (.box (t 0)) 2 [],
 o (.bP (.cq .aI)) 4 []]
def Zq:List RO:=[
 o (.bP (.cq .aI)) 5 []]
def Zr:List RO:=[
 o (.bP (i 0)) 6 []]
def Zs:List RO:=[
 n 6 7,
 a 1 2 8 [],
 l 8 9 [1],
 o (.len (t 9)) 10 [2],
 b .lss 7 10 11 [0,3]]
def Zt:List RO:=[
 n 5 14,
 n 1 15,
 a 1 2 16 [],
 l 16 17 [2],
 n 6 18,
 x 1 17 18 19 [3,4],
 l 19 20 [5],
 x 2 15 20 21 [1,6],
 L 2 21 22 [7],
 o (.bslice 1 2 [(.v (.int .i64 0)),(.v (.int .i64 0))] [(0,2,(t 22))]) 23 [8],
 o (.append 55 2 16 (t 14) (t 23)) 24 [0,9],
 m 24 5 (k [10,10] 10)]
def Zu:List RO:=[
 n 6 12,
 o (.bin .add (t 12) (i 1)) 13 [0],
 m 13 6 [1,0,1]]
def Zv:List RO:=[
 n 5 25,
 m 25 4 [0,0]]
def d91:DC:=(j (y Zp)
 (j (y Zq)
 (j (j (y Zr)
 (.block 0 (.loop (j (j (y Zs)
 (.cond (.tmp 11) .skip
 (.exit 0)))
 (j (.block 1 (y Zt))
 (y Zu))))))
 (j (y Zv)
 .ret))))
def d91res:List bN:=[.slot 4]
theorem c91 [Laid]:aQ Tryz.prog 91 26 d91 d91res:=⟨Tryz.f91,by kernel_rfl,by kernel_rfl,by kernel_rfl,by kernel_rfl,by kernel_rfl⟩
def Zw:List RO:=[
 o (.box (t 0)) 1 [],
 o (.bP (.cq .aI)) 2 [],
 o (.bP (.cq .aI)) 3 [1]]
def Zx:List RO:=[
 a 0 1 14 [],
 l 14 15 [0],
 o (.mkSlice 55 2 16 [(.int .i64 0),(.int .i64 0)] (t 15)) 16 [1,1],
 m 16 4 [2,0,1,2]]
def Zy:List RO:=[
 a 0 1 17 [],
 l 17 18 [0],
 o (.mkSlice 3 1 8 [(.int .i64 0)] (t 18)) 19 [1,1],
 m 19 5 [2,0,1,2]]
def Zz:List RO:=[
 o (.bP (i 0)) 6 []]
def ZA:List RO:=[
 n 6 20,
 a 0 1 21 [],
 l 21 22 [1],
 b .lss 20 22 23 [0,2]]
def ZB:List RO:=[
 n 4 26,
 n 6 27,
 n 5 28,
 n 6 29,
 o (.build [(.v (.int .i64 0)),(.v (.int .i64 0))] [(0,1,(i 1099511627776))]) 30 [],
 x 2 26 27 31 [0,1,0,1,4],
 S 2 31 30 [5,4,0,1,4],
 x 1 28 29 32 (k [2,3] 6),
 s (.store 1 (t 32) (i (-1))) (k [7,6] 6)]
def ZC:List RO:=[
 n 6 24,
 o (.bin .add (t 24) (i 1)) 25 [0],
 m 25 6 [1,0,1]]
def ZD:List RO:=[
 o (.bP (.cq (.v (.bool true)))) 7 []]
def ZE:List RO:=[
 n 7 33]
def ZF:List RO:=[
 o (.bP (.cq (.v (.bool false)))) 7 []]
def Rp:List RO:=[
 o (.bP (i 0)) 8 []]
def Rq:List RO:=[
 n 8 34,
 a 1 1 35 [],
 l 35 36 [1],
 o (.len (t 36)) 37 [2],
 b .lss 34 37 38 [0,3]]
def Rr:List RO:=[
 a 1 1 41 [],
 l 41 42 [0],
 n 8 43,
 x 5 42 43 44 [1,2],
 L 5 44 45 [3],
 o (.alloc [(.v (.int .i64 0)),.aI,(.v (.int .i64 0)),(.v (.int .i64 0)),(.v (.int .i64 0))]) 9 [],
 S 5 9 45 (k [5,4] 5)]
def EI:List RO:=[
 a 2 9 46 [],
 l 46 47 [0],
 L 5 9 48 [],
 n 4 49,
 o (.callF 91 [(t 48),(t 49)]) 50 [2,3],
 o (.call 69 [(t 47),(t 50)]) 51 [1,4,4],
 o (.alloc [(.v (.int .i64 0)),(.v (.int .i64 0))]) 10 [],
 S 2 10 51 (k [6,5,5] 6)]
def d66r13:List RO:=EI.map bare
def Rs:List RO:=[
 L 2 10 52 [],
 n 4 53,
 a 0 9 54 [],
 l 54 55 [2],
 x 2 53 55 56 [1,3],
 L 2 56 57 [4],
 o (.call 92 [(t 52),(t 57)]) 58 [0,5]]
def Rt:List RO:=[
 n 4 59,
 a 0 9 60 [],
 l 60 61 [1],
 L 2 10 62 [],
 x 2 59 61 63 [0,2,0,1,2,3],
 S 2 63 62 [4,3,0,1,2,3]]
def Ru:List RO:=[
 o (.bP (.cq (.v (.bool true)))) 7 []]
def Kh:List RO:=[
 n 8 39,
 o (.bin .add (t 39) (i 1)) 40 [0],
 m 40 8 [1,0,1]]
def Rv:List RO:=[
 a 1 1 64 [],
 l 64 65 [0],
 o (.len (t 65)) 66 [1],
 o (.bin .sub (t 66) (i 1)) 67 [2],
 m 67 11 [3,0,1,2,3]]
def Rw:List RO:=[
 n 11 68,
 o (.bin .geq (t 68) (i 0)) 69 [0]]
def Rx:List RO:=[
 a 1 1 72 [],
 l 72 73 [0],
 n 11 74,
 x 5 73 74 75 [1,2],
 L 5 75 76 [3],
 o (.alloc [(.v (.int .i64 0)),.aI,(.v (.int .i64 0)),(.v (.int .i64 0)),(.v (.int .i64 0))]) 12 [],
 S 5 12 76 (k [5,4] 5)]
def Ry:List RO:=[
 n 4 77,
 a 0 12 78 [],
 l 78 79 [1],
 x 2 77 79 80 [0,2],
 L 2 80 81 [3],
 o (.alloc [(.v (.int .i64 0)),(.v (.int .i64 0))]) 13 [],
 S 2 13 81 (k [5,4] 5)]
def vv:List RO:=[
 a 0 13 82 [],
 l 82 83 [0],
 o (.bin .lss (t 83) (i 1099511627776)) 84 [1],
 m 84 85 [2],
 u 2 12 86 85 true [3],
 v 86 87 85 true [4,3],
 g (.load 5 true (t 12)) 88 85 true [3],
 w 4 89 85 true [3],
 g (.callF 91 [(t 88),(t 89)]) 90 85 true [6,7,3,3],
 g (.call 69 [(t 87),(t 90)]) 91 85 true [5,8,8,3],
 g (.load 2 true (t 13)) 92 85 true [3],
 g (.eqT false true [(.int .i64),(.int .i64)] (t 91) (t 92)) 93 85 true [9,10,3],
 q 85 93 94 [3,11]]
def d66r22:List RO:=vv.map bare
def Rz:List RO:=[
 n 5 95,
 a 0 12 96 [],
 l 96 97 [1],
 n 11 98,
 x 1 95 97 99 [0,2,0,1,2,3],
 S 1 99 98 [4,3,0,1,2,3]]
def Ki:List RO:=[
 n 11 70,
 o (.bin .sub (t 70) (i 1)) 71 [0],
 m 71 11 [1,0,1]]
def RA:List RO:=[
 n 4 100,
 n 5 101,
 m 100 2 [0,0],
 m 101 3 [1,2,0,1,2]]
def d66:DC:=(j (y Zw)
 (j (y Zx)
 (j (y Zy)
 (j (j (y Zz)
 (.block 0 (.loop (j (j (y ZA)
 (.cond (.tmp 23) .skip
 (.exit 0)))
 (j (.block 1 (y ZB))
 (y ZC))))))
 (j (j (y ZD)
 (.block 2 (.loop (j (j (y ZE)
 (.cond (.tmp 33) .skip
 (.exit 2)))
 (.block 3 (j (y ZF)
 (j (y Rp)
 (.block 4 (.loop (j (j (y Rq)
 (.cond (.tmp 38) .skip
 (.exit 4)))
 (j (.block 5 (j (y Rr)
 (j (Y d66r13)
 (j (Y Rs)
 (.cond (.tmp 58) (j (y Rt)
 (y Ru))
 .skip)))))
 (y Kh))))))))))))
 (j (j (y Rv)
 (.block 6 (.loop (j (j (y Rw)
 (.cond (.tmp 69) .skip
 (.exit 6)))
 (j (.block 7 (j (y Rx)
 (j (y Ry)
 (j (Y d66r22)
 (.cond (.tmp 94) (y Rz)
 .skip)))))
 (y Ki))))))
 (j (y RA)
 .ret)))))))
def RB:List bN:=[.slot 2,.slot 3]
theorem c66 [Laid]:aQ Tryz.prog 66 102 d66 RB:=⟨Tryz.f66,by kernel_rfl,by kernel_rfl,by kernel_rfl,by kernel_rfl,by kernel_rfl⟩
def ZG:List RO:=[
 o (.box (t 0)) 1 [],
 o (.bP (.cq .aI)) 2 []]
def ZH:List RO:=[
 a 0 1 3 [],
 l 3 4 [0]]
def ZI:List RO:=[
 o (.bin .eql (t 4) (i 3)) 6 [],
 m 6 5 [0]]
def ZJ:List RO:=[
 a 2 1 7 [],
 l 7 8 [0],
 o (.bslice 1 1 [(.v (.int .i64 0))] [(0,1,(t 8))]) 9 [1],
 m 9 2 [2,0,1,2]]
def ZK:List RO:=[
 o (.bin .eql (t 4) (i 4)) 11 [],
 m 11 10 [0]]
def ZL:List RO:=[
 a 2 1 12 [],
 l 12 13 [0],
 a 3 1 14 [],
 l 14 15 [2],
 o (.bslice 2 1 [(.v (.int .i64 0)),(.v (.int .i64 0))] [(0,1,(t 13)),(1,1,(t 15))]) 16 [1,3],
 m 16 2 (k [4] 4)]
def ZM:List RO:=[
 o (.bP (.cq .aI)) 2 []]
def d93:DC:=(j (y ZG)
 (j (j (y ZH)
 (.block 0 (j (y ZI)
 (.cond (.tmp 5) (j (y ZJ)
 .ret)
 (j (y ZK)
 (.cond (.tmp 10) (j (y ZL)
 .ret)
 .skip))))))
 (j (y ZM)
 .ret)))
def EJ:List bN:=[.slot 2]
theorem c93 [Laid]:aQ Tryz.prog 93 17 d93 EJ:=⟨Tryz.f93,by kernel_rfl,by kernel_rfl,by kernel_rfl,by kernel_rfl,by kernel_rfl⟩
def ZN:List RO:=[
 o (.box (t 0)) 2 [],
 o (.alloc [(.v (.int .i64 0)),.aI]) 4 []]
def ZO:List RO:=[
 o (.bP (.cq .aI)) 5 []]
def ZP:List RO:=[
 o (.bP (i 0)) 6 []]
def ZQ:List RO:=[
 n 6 9,
 a 3 2 10 [],
 l 10 11 [1],
 o (.len (t 11)) 12 [2],
 b .lss 9 12 13 [0,3]]
def ZR:List RO:=[
 a 3 2 16 [],
 l 16 17 [0],
 n 6 18,
 x 6 17 18 19 [1,2],
 L 6 19 20 [3],
 o (.alloc [(.v (.int .i64 0)),(.v (.int .i64 0)),(.v (.int .i64 0)),(.v (.int .i64 0)),(.v (.int .i64 0)),(.v (.int .i64 0))]) 7 [],
 S 6 7 20 (k [5,4] 5)]
def ZS:List RO:=[
 a 4 7 21 [],
 l 21 22 [0],
 m 22 8 [1,0,1]]
def ZT:List RO:=[
 a 0 7 23 [],
 l 23 24 [0],
 o (.bin .eql (t 24) (i 2)) 25 [1]]
def ZU:List RO:=[
 n 8 26,
 n 1 27,
 a 2 7 28 [],
 l 28 29 [2],
 x 1 27 29 30 [1,3],
 l 30 31 [4],
 b .add 26 31 32 [0,5],
 m 32 8 (k [6] 6)]
def RC:List RO:=[
 n 5 33,
 a 1 7 34 [],
 l 34 35 [1],
 L 6 7 36 [],
 o (.call 93 [(t 36)]) 37 [3],
 n 8 38,
 o (.build [(.v (.int .i64 0)),.aI,(.v (.int .i64 0)),(.v (.int .i64 0)),(.v (.int .i64 0))] [(0,1,(t 35)),(1,1,(t 37)),(2,1,(t 38))]) 39 [2,4,5],
 o (.bslice 1 5 [(.v (.int .i64 0)),.aI,(.v (.int .i64 0)),(.v (.int .i64 0)),(.v (.int .i64 0))] [(0,5,(t 39))]) 40 [6],
 o (.append 156 5 56 (t 33) (t 40)) 41 [0,7,4],
 m 41 5 (k [8,8] 8)]
def RD:List RO:=[
 n 6 14,
 o (.bin .add (t 14) (i 1)) 15 [0],
 m 15 6 [1,0,1]]
def RE:List RO:=[
 a 1 2 42 [],
 l 42 43 [0],
 n 5 44,
 o (.build [(.v (.int .i64 0)),.aI] [(0,1,(t 43)),(1,1,(t 44))]) 45 [1,2],
 S 2 4 45 [3,0,1,2,3]]
def d67:DC:=(j (y ZN)
 (j (y ZO)
 (j (j (y ZP)
 (.block 0 (.loop (j (j (y ZQ)
 (.cond (.tmp 13) .skip
 (.exit 0)))
 (j (.block 1 (j (y ZR)
 (j (y ZS)
 (j (j (y ZT)
 (.cond (.tmp 25) (y ZU)
 .skip))
 (Y RC)))))
 (y RD))))))
 (j (y RE)
 .ret))))
def RF:List bN:=[.cell 4 2 true]
theorem c67 [Laid]:aQ Tryz.prog 67 46 d67 RF:=⟨Tryz.f67,by kernel_rfl,by kernel_rfl,by kernel_rfl,by kernel_rfl,by kernel_rfl⟩
def ZV:List RO:=[
 o (.box (t 0)) 2 [],
 o (.bP (.cq (.v (.bool false)))) 4 []]
def ZW:List RO:=[
 n 1 6,
 o (.len (t 6)) 7 [0],
 a 0 2 8 [],
 l 8 9 [2],
 b .neq 7 9 10 [1,3]]
def ZX:List RO:=[
 o (.bP (.cq (.v (.bool false)))) 4 []]
def ZY:List RO:=[
 o (.bP (i 0)) 5 []]
def ZZ:List RO:=[
 n 5 11,
 n 1 12,
 o (.len (t 12)) 13 [1],
 b .lss 11 13 14 [0,2]]
def MT:List RO:=[
 n 1 17,
 n 5 18,
 x 1 17 18 19 [0,1],
 l 19 20 [2],
 o (.bin .lss (t 20) (i 1)) 21 [3],
 m 21 22 [4],
 w 1 23 22 false [5],
 w 5 24 22 false [5],
 g (.idxAddr 1 (t 23) (t 24)) 25 22 false [6,7,5],
 v 25 26 22 false [8,5],
 g (.bin .gtr (t 26) (i 60000)) 27 22 false [9,5],
 p 22 27 28 [5,10]]
def Z0:List RO:=[
 o (.bP (.cq (.v (.bool false)))) 4 []]
def Z1:List RO:=[
 n 5 15,
 o (.bin .add (t 15) (i 1)) 16 [0],
 m 16 5 [1,0,1]]
def Z2:List RO:=[
 o (.bP (.cq (.v (.bool true)))) 4 []]
def d44:DC:=(j (y ZV)
 (j (j (y ZW)
 (.cond (.tmp 10) (j (y ZX)
 .ret)
 .skip))
 (j (j (y ZY)
 (.block 0 (.loop (j (j (y ZZ)
 (.cond (.tmp 14) .skip
 (.exit 0)))
 (j (.block 1 (j (y MT)
 (.cond (.tmp 28) (j (y Z0)
 .ret)
 .skip)))
 (y Z1))))))
 (j (y Z2)
 .ret))))
def EK:List bN:=[.slot 4]
theorem c44 [Laid]:aQ Tryz.prog 44 29 d44 EK:=⟨Tryz.f44,by kernel_rfl,by kernel_rfl,by kernel_rfl,by kernel_rfl,by kernel_rfl⟩
def GY:List RO:=[
 o (.box (t 0)) 2 [],
 o (.bP (.cq .aI)) 4 []]
def AU:List RO:=[
 L 4 2 7 [],
 o (.call 20 [(t 7)]) 8 [0],
 o (.un .not (t 8)) 9 [1],
 m 9 10 [2,1],
 g (.load 4 true (t 2)) 11 10 false [3],
 w 1 12 10 false [3],
 g (.call 44 [(t 11),(t 12)]) 13 10 false [4,5,3,3],
 g (.un .not (t 13)) 14 10 false [6,3],
 p 10 14 15 [3,7]]
def GZ:List RO:=[
 o (.bP (.cq .aI)) 4 []]
def G0:List RO:=[
 L 4 2 17 [],
 n 1 18,
 o (.call 67 [(t 17),(t 18)]) 19 [0,1],
 o (.call 66 [(t 19)]) 20 [2,2],
 m 20 16 [3],
 e 0 16 21 [4],
 e 1 16 22 [4],
 m 21 5 (k [5,3] 5),
 m 22 6 (k [6,7] 7)]
def Ha:List RO:=[
 n 5 23,
 m 23 4 [0,0]]
def d45:DC:=(j (y GY)
 (j (j (y AU)
 (.cond (.tmp 15) (j (y GZ)
 .ret)
 .skip))
 (j (y G0)
 (j (y Ha)
 .ret))))
def tW:List bN:=[.slot 4]
theorem c45 [Laid]:aQ Tryz.prog 45 24 d45 tW:=⟨Tryz.f45,by kernel_rfl,by kernel_rfl,by kernel_rfl,by kernel_rfl,by kernel_rfl⟩
def Z3:List RO:=[
 o (.box (t 0)) 2 [],
 o (.bP (.cq (.v (.bool false)))) 4 []]
def MU:List RO:=[
 L 4 2 7 [],
 o (.call 20 [(t 7)]) 8 [0],
 o (.un .not (t 8)) 9 [1],
 m 9 10 [2,1],
 g (.load 4 true (t 2)) 11 10 false [3],
 w 1 12 10 false [3],
 g (.call 44 [(t 11),(t 12)]) 13 10 false [4,5,3,3],
 g (.un .not (t 13)) 14 10 false [6,3],
 p 10 14 15 [3,7]]
def Z4:List RO:=[
 o (.bP (.cq (.v (.bool false)))) 4 []]
def Z5:List RO:=[
 L 4 2 16 [],
 n 1 17,
 o (.call 45 [(t 16),(t 17)]) 18 [0,1],
 m 18 5 [2,2,0,1,2]]
def Z6:List RO:=[
 o (.bP (i 0)) 6 []]
def Z7:List RO:=[
 n 6 19,
 n 5 20,
 o (.len (t 20)) 21 [1],
 b .lss 19 21 22 [0,2]]
def Z8:List RO:=[
 n 5 25,
 n 6 26,
 x 2 25 26 27 [0,1],
 a 1 27 28 [2],
 l 28 29 [3],
 o (.bin .gtr (t 29) (i 1000)) 30 [4]]
def Z9:List RO:=[
 o (.bP (.cq (.v (.bool false)))) 4 []]
def aaa:List RO:=[
 n 6 23,
 o (.bin .add (t 23) (i 1)) 24 [0],
 m 24 6 [1,0,1]]
def aab:List RO:=[
 o (.bP (.cq (.v (.bool true)))) 4 []]
def d22:DC:=(j (y Z3)
 (j (j (y MU)
 (.cond (.tmp 15) (j (y Z4)
 .ret)
 .skip))
 (j (y Z5)
 (j (j (y Z6)
 (.block 0 (.loop (j (j (y Z7)
 (.cond (.tmp 22) .skip
 (.exit 0)))
 (j (.block 1 (j (y Z8)
 (.cond (.tmp 30) (j (y Z9)
 .ret)
 .skip)))
 (y aaa))))))
 (j (y aab)
 .ret)))))
def EL:List bN:=[.slot 4]
theorem c22 [Laid]:aQ Tryz.prog 22 31 d22 EL:=⟨Tryz.f22,by kernel_rfl,by kernel_rfl,by kernel_rfl,by kernel_rfl,by kernel_rfl⟩
def aac:List RO:=[
 o (.box (t 0)) 1 [],
 o (.bP (.cq (.v (.bool false)))) 2 []]
def vw:List RO:=[
 a 0 1 6 [],
 l 6 7 [0],
 o (.bin .lss (t 7) (i 0)) 8 [1],
 m 8 9 [2],
 u 0 1 10 9 false [3],
 v 10 11 9 false [4,3],
 g (.bin .gtr (t 11) (i 120)) 12 9 false [5,3],
 p 9 12 13 [3,6],
 m 13 14 [7,3],
 u 1 1 15 14 false [8],
 v 15 16 14 false [9,8],
 g (.bin .lss (t 16) (i 1)) 17 14 false [10,8],
 p 14 17 18 [8,11],
 m 18 19 [12,8],
 u 1 1 20 19 false [13],
 v 20 21 19 false [14,13],
 g (.bin .gtr (t 21) (i 1000)) 22 19 false [15,13],
 p 19 22 23 [13,16],
 m 23 24 [17,13],
 u 2 1 25 24 false [18],
 v 25 26 24 false [19,18],
 g (.bin .lss (t 26) (i 0)) 27 24 false [20,18],
 p 24 27 28 [18,21],
 m 28 29 [22,18],
 u 2 1 30 29 false [23],
 v 30 31 29 false [24,23],
 u 1 1 32 29 false [23],
 v 32 33 29 false [26,23],
 g (.bin .geq (t 31) (t 33)) 34 29 false [25,27,23],
 p 29 34 35 [23,28],
 m 35 36 [29,23],
 u 3 1 37 36 false [30],
 v 37 38 36 false [31,30],
 g (.len (t 38)) 39 36 false [32,30],
 g (.bin .gtr (t 39) (i 600)) 40 36 false [33,30],
 p 36 40 41 [30,34]]
def aad:List RO:=[
 o (.bP (.cq (.v (.bool false)))) 2 []]
def aae:List RO:=[
 o (.bP (i 0)) 3 []]
def aaf:List RO:=[
 n 3 42,
 a 3 1 43 [],
 l 43 44 [1],
 o (.len (t 44)) 45 [2],
 b .lss 42 45 46 [0,3]]
def aag:List RO:=[
 a 3 1 49 [],
 l 49 50 [0],
 n 3 51,
 x 6 50 51 52 [1,2],
 L 6 52 53 [3],
 o (.alloc [(.v (.int .i64 0)),(.v (.int .i64 0)),(.v (.int .i64 0)),(.v (.int .i64 0)),(.v (.int .i64 0)),(.v (.int .i64 0))]) 4 [],
 S 6 4 53 (k [5,4] 5)]
def AV:List RO:=[
 a 1 4 54 [],
 l 54 55 [0],
 o (.bin .lss (t 55) (i 0)) 56 [1],
 m 56 57 [2],
 u 1 4 58 57 false [3],
 v 58 59 57 false [4,3],
 u 1 1 60 57 false [3],
 v 60 61 57 false [6,3],
 g (.bin .geq (t 59) (t 61)) 62 57 false [5,7,3],
 p 57 62 63 [3,8],
 m 63 64 [9,3],
 u 4 4 65 64 false [10],
 v 65 66 64 false [11,10],
 g (.bin .lss (t 66) (i 0)) 67 64 false [12,10],
 p 64 67 68 [10,13],
 m 68 69 [14,10],
 u 4 4 70 69 false [15],
 v 70 71 69 false [16,15],
 g (.bin .gtr (t 71) (i 1000)) 72 69 false [17,15],
 p 69 72 73 [15,18],
 m 73 74 [19,15],
 u 5 4 75 74 false [20],
 v 75 76 74 false [21,20],
 g (.bin .lss (t 76) (i (-1))) 77 74 false [22,20],
 p 74 77 78 [20,23]]
def aah:List RO:=[
 o (.bP (.cq (.v (.bool false)))) 2 []]
def aai:List RO:=[
 o (.bP (.cq (.v (.bool false)))) 5 []]
def aaj:List RO:=[
 a 0 4 79 [],
 l 79 80 [0]]
def RG:List RO:=[
 o (.bin .eql (t 80) (i 1)) 82 [],
 m 82 81 [0]]
def EM:List RO:=[
 a 2 4 83 [],
 l 83 84 [0],
 o (.bin .eql (t 84) (i 0)) 85 [1],
 m 85 86 [2],
 u 3 4 87 86 true [3],
 v 87 88 86 true [4,3],
 g (.bin .eql (t 88) (i 0)) 89 86 true [5,3],
 q 86 89 90 [3,6],
 m 90 5 (k [7,3] 7)]
def RH:List RO:=[
 o (.bin .eql (t 80) (i 2)) 92 [],
 m 92 91 [0]]
def AW:List RO:=[
 a 2 4 93 [],
 l 93 94 [0],
 o (.bin .geq (t 94) (i 0)) 95 [1],
 m 95 96 [2],
 u 2 4 97 96 true [3],
 v 97 98 96 true [4,3],
 u 0 1 99 96 true [3],
 v 99 100 96 true [6,3],
 g (.bin .lss (t 98) (t 100)) 101 96 true [5,7,3],
 q 96 101 102 [3,8],
 m 102 103 [9,3],
 u 3 4 104 103 true [10],
 v 104 105 103 true [11,10],
 g (.bin .eql (t 105) (i 0)) 106 103 true [12,10],
 q 103 106 107 [10,13],
 m 107 5 (k [14,10] 14)]
def RI:List RO:=[
 o (.bin .eql (t 80) (i 3)) 109 [],
 m 109 108 [0]]
def AX:List RO:=[
 a 2 4 110 [],
 l 110 111 [0],
 o (.bin .geq (t 111) (i 0)) 112 [1],
 m 112 113 [2],
 u 2 4 114 113 true [3],
 v 114 115 113 true [4,3],
 u 1 1 116 113 true [3],
 v 116 117 113 true [6,3],
 g (.bin .lss (t 115) (t 117)) 118 113 true [5,7,3],
 q 113 118 119 [3,8],
 m 119 120 [9,3],
 u 3 4 121 120 true [10],
 v 121 122 120 true [11,10],
 g (.bin .eql (t 122) (i 0)) 123 120 true [12,10],
 q 120 123 124 [10,13],
 m 124 5 (k [14,10] 14)]
def RJ:List RO:=[
 o (.bin .eql (t 80) (i 4)) 126 [],
 m 126 125 [0]]
def xb:List RO:=[
 a 2 4 127 [],
 l 127 128 [0],
 o (.bin .geq (t 128) (i 0)) 129 [1],
 m 129 130 [2],
 u 2 4 131 130 true [3],
 v 131 132 130 true [4,3],
 u 1 1 133 130 true [3],
 v 133 134 130 true [6,3],
 g (.bin .lss (t 132) (t 134)) 135 130 true [5,7,3],
 q 130 135 136 [3,8],
 m 136 137 [9,3],
 u 3 4 138 137 true [10],
 v 138 139 137 true [11,10],
 g (.bin .geq (t 139) (i 0)) 140 137 true [12,10],
 q 137 140 141 [10,13],
 m 141 142 [14,10],
 u 3 4 143 142 true [15],
 v 143 144 142 true [16,15],
 u 1 1 145 142 true [15],
 v 145 146 142 true [18,15],
 g (.bin .lss (t 144) (t 146)) 147 142 true [17,19,15],
 q 142 147 148 [15,20],
 m 148 5 (k [21,15] 21)]
def xd:List RO:=[
 n 5 149,
 o (.un .not (t 149)) 150 [0]]
def xi:List RO:=[
 o (.bP (.cq (.v (.bool false)))) 2 []]
def xj:List RO:=[
 n 3 47,
 o (.bin .add (t 47) (i 1)) 48 [0],
 m 48 3 [1,0,1]]
def RK:List RO:=[
 o (.bP (.cq (.v (.bool true)))) 2 []]
def d20:DC:=(j (y aac)
 (j (j (y vw)
 (.cond (.tmp 41) (j (y aad)
 .ret)
 .skip))
 (j (j (y aae)
 (.block 0 (.loop (j (j (y aaf)
 (.cond (.tmp 46) .skip
 (.exit 0)))
 (j (.block 1 (j (y aag)
 (j (j (y AV)
 (.cond (.tmp 78) (j (y aah)
 .ret)
 .skip))
 (j (y aai)
 (j (j (y aaj)
 (.block 2 (j (y RG)
 (.cond (.tmp 81) (y EM)
 (j (y RH)
 (.cond (.tmp 91) (y AW)
 (j (y RI)
 (.cond (.tmp 108) (y AX)
 (j (y RJ)
 (.cond (.tmp 125) (y xb)
 .skip))))))))))
 (j (y xd)
 (.cond (.tmp 150) (j (y xi)
 .ret)
 .skip)))))))
 (y xj))))))
 (j (y RK)
 .ret))))
def pC:List bN:=[.slot 2]
theorem c20 [Laid]:aQ Tryz.prog 20 151 d20 pC:=⟨Tryz.f20,by kernel_rfl,by kernel_rfl,by kernel_rfl,by kernel_rfl,by kernel_rfl⟩
def aak:List RO:=[
 o (.alloc [(.v (.int .i64 0)),(.v (.int .i64 0)),(.v (.int .i64 0)),(.v (.int .i64 0))]) 0 []]
def aal:List RO:=[
 o (.build [(.v (.int .i64 0)),(.v (.int .i64 0))] [(0,1,(i 1099511627776))]) 1 [],
 o (.build [(.v (.int .i64 0)),(.v (.int .i64 0)),(.v (.int .i64 0)),(.v (.int .i64 0))] [(0,2,(t 1)),(2,1,(i (-1)))]) 2 [0],
 S 4 0 2 [1,0,1]]
def d42:DC:=(j (y aak)
 (j (y aal)
 .ret))
def RL:List bN:=[.cell 0 4 true]
theorem c42 [Laid]:aQ Tryz.prog 42 3 d42 RL:=⟨Tryz.f42,by kernel_rfl,by kernel_rfl,by kernel_rfl,by kernel_rfl,by kernel_rfl⟩
def aam:List RO:=[
 o (.bP (i 0)) 4 []]
def aan:List RO:=[
 n 0 5,
 n 1 6,
 b .mul 5 6 7 [0,1],
 n 1 8,
 o (.bin .add (t 8) (i 1)) 9 [3],
 b .mul 7 9 10 [2,4],
 o (.bin .quo (t 10) (i 2)) 11 [5],
 m 11 4 (k [6] 6)]
def d23:DC:=(j (y aam)
 (j (y aan)
 .ret))
def RM:List bN:=[.slot 4]
theorem c23 [Laid]:aQ Tryz.prog 23 12 d23 RM:=⟨Tryz.f23,by kernel_rfl,by kernel_rfl,by kernel_rfl,by kernel_rfl,by kernel_rfl⟩
def aao:List RO:=[
 o (.bP (i 0)) 8 []]
def aap:List RO:=[
 o (.bP (i 0)) 9 []]
def aaq:List RO:=[
 o (.bP (i 0)) 10 []]
def aar:List RO:=[
 n 10 11,
 n 2 12,
 b .lss 11 12 13 [0,1]]
def aas:List RO:=[
 n 9 16,
 n 1 17,
 b .add 16 17 18 [0,1],
 n 10 19,
 b .sub 18 19 20 [2,3],
 m 20 9 (k [4] 4)]
def aat:List RO:=[
 n 10 14,
 o (.bin .add (t 14) (i 1)) 15 [0],
 m 15 10 [1,0,1]]
def aau:List RO:=[
 n 9 21,
 n 3 22,
 b .add 21 22 23 [0,1],
 n 2 24,
 b .sub 23 24 25 [2,3],
 n 0 26,
 b .mul 25 26 27 [4,5],
 m 27 8 (k [6] 6)]
def d25:DC:=(j (y aao)
 (j (y aap)
 (j (j (y aaq)
 (.block 0 (.loop (j (j (y aar)
 (.cond (.tmp 13) .skip
 (.exit 0)))
 (j (.block 1 (y aas))
 (y aat))))))
 (j (y aau)
 .ret))))
def RN:List bN:=[.slot 8]
theorem c25 [Laid]:aQ Tryz.prog 25 28 d25 RN:=⟨Tryz.f25,by kernel_rfl,by kernel_rfl,by kernel_rfl,by kernel_rfl,by kernel_rfl⟩
def aav:List RO:=[
 o (.box (t 0)) 4 [],
 o (.box (t 1)) 5 [],
 o (.alloc [(.v (.int .i64 0)),(.v (.int .i64 0)),(.v (.int .i64 0)),(.v (.int .i64 0))]) 8 []]
def aaw:List RO:=[
 a 0 5 11 [],
 l 11 12 [0],
 o (.bin .geq (t 12) (i 1099511627776)) 13 [1]]
def aax:List RO:=[
 L 4 4 14 [],
 S 4 8 14 [0,0]]
def aay:List RO:=[
 L 2 5 15 [],
 a 0 4 16 [],
 L 2 16 17 [1],
 o (.call 92 [(t 15),(t 17)]) 18 [0,2],
 m 18 9 [3,3,0,1,2,3]]
def Db:List RO:=[
 L 2 5 19 [],
 a 0 4 20 [],
 L 2 20 21 [1],
 o (.eqT false true [(.int .i64),(.int .i64)] (t 19) (t 21)) 22 [0,2],
 m 22 23 [3],
 w 2 24 23 true [4],
 u 2 4 25 23 true [4],
 v 25 26 23 true [6,4],
 g (.bin .lss (t 24) (t 26)) 27 23 true [5,7,4],
 w 27 28 23 true [8,4,4],
 w 2 29 28 false [9],
 u 2 4 30 28 false [9],
 v 30 31 28 false [11,9],
 g (.bin .eql (t 29) (t 31)) 32 28 false [10,12,9],
 w 32 33 28 false [13,9,9],
 w 3 34 33 true [14],
 u 3 4 35 33 true [14],
 v 35 36 33 true [16,14],
 g (.bin .lss (t 34) (t 36)) 37 33 true [15,17,14],
 g (.pick (t 33) (t 37) (.cq (.v (.bool false)))) 38 28 false [14,18,9],
 g (.pick (t 28) (.cq (.v (.bool true))) (t 38)) 39 23 true [9,19,4],
 q 23 39 40 [4,20],
 m 40 10 (k [21,14] 21)]
def aaz:List RO:=[
 n 9 41,
 m 41 42 [0],
 w 10 43 42 false [1],
 p 42 43 44 [1,2]]
def aaA:List RO:=[
 L 2 5 45 [],
 n 2 46,
 n 3 47,
 o (.build [(.v (.int .i64 0)),(.v (.int .i64 0)),(.v (.int .i64 0)),(.v (.int .i64 0))] [(0,2,(t 45)),(2,1,(t 46)),(3,1,(t 47))]) 48 [0,1,2],
 S 4 8 48 [3,0,1,2,3]]
def aaB:List RO:=[
 L 4 4 49 [],
 S 4 8 49 [0,0]]
def d68:DC:=(j (y aav)
 (j (j (y aaw)
 (.cond (.tmp 13) (j (y aax)
 .ret)
 .skip))
 (j (y aay)
 (j (y Db)
 (j (j (y aaz)
 (.cond (.tmp 44) (j (y aaA)
 .ret)
 .skip))
 (j (y aaB)
 .ret))))))
def EN:List bN:=[.cell 8 4 true]
theorem c68 [Laid]:aQ Tryz.prog 68 50 d68 EN:=⟨Tryz.f68,by kernel_rfl,by kernel_rfl,by kernel_rfl,by kernel_rfl,by kernel_rfl⟩
def aaC:List RO:=[
 o (.box (t 0)) 2 [],
 o (.box (t 1)) 3 [],
 o (.alloc [(.v (.int .i64 0)),(.v (.int .i64 0)),(.v (.int .i64 0)),(.v (.int .i64 0))]) 4 []]
def AY:List RO:=[
 a 0 3 6 [],
 l 6 7 [0],
 o (.bin .lss (t 7) (i 0)) 8 [1],
 m 8 9 [2],
 u 0 3 10 9 false [3],
 v 10 11 9 false [4,3],
 u 0 2 12 9 false [3],
 v 12 13 9 false [6,3],
 g (.bin .geq (t 11) (t 13)) 14 9 false [5,7,3],
 p 9 14 15 [3,8],
 m 15 16 [9,3],
 u 1 3 17 16 false [10],
 v 17 18 16 false [11,10],
 g (.bin .lss (t 18) (i 0)) 19 16 false [12,10],
 p 16 19 20 [10,13],
 m 20 21 [14,10],
 u 2 3 22 21 false [15],
 v 22 23 21 false [16,15],
 u 1 3 24 21 false [15],
 v 24 25 21 false [18,15],
 g (.bin .lss (t 23) (t 25)) 26 21 false [17,19,15],
 p 21 26 27 [15,20],
 m 27 28 [21,15],
 u 2 3 29 28 false [22],
 v 29 30 28 false [23,22],
 u 1 2 31 28 false [22],
 v 31 32 28 false [25,22],
 g (.bin .geq (t 30) (t 32)) 33 28 false [24,26,22],
 p 28 33 34 [22,27]]
def aaD:List RO:=[
 o (.call 42 []) 35 [],
 S 4 4 35 [0,0,0]]
def aaE:List RO:=[
 a 0 2 36 [],
 l 36 37 [0],
 a 1 2 38 [],
 l 38 39 [2],
 a 1 3 40 [],
 l 40 41 [4],
 a 2 3 42 [],
 l 42 43 [6],
 o (.call 25 [(t 37),(t 39),(t 41),(t 43)]) 44 [1,3,5,7],
 a 0 3 45 [],
 l 45 46 [9],
 b .add 44 46 47 [8,10],
 m 47 5 (k [11,8] 11)]
def aaF:List RO:=[
 n 5 48,
 a 2 2 49 [],
 l 49 50 [1],
 o (.len (t 50)) 51 [2],
 b .geq 48 51 52 [0,3]]
def aaG:List RO:=[
 o (.call 42 []) 53 [],
 S 4 4 53 [0,0,0]]
def aaH:List RO:=[
 a 2 2 54 [],
 l 54 55 [0],
 n 5 56,
 x 4 55 56 57 [1,2],
 L 4 57 58 [3],
 S 4 4 58 (k [4] 4)]
def d19:DC:=(j (y aaC)
 (j (j (y AY)
 (.cond (.tmp 34) (j (y aaD)
 .ret)
 .skip))
 (j (Y aaE)
 (j (j (y aaF)
 (.cond (.tmp 52) (j (y aaG)
 .ret)
 .skip))
 (j (y aaH)
 .ret)))))
def EO:List bN:=[.cell 4 4 true]
theorem c19 [Laid]:aQ Tryz.prog 19 59 d19 EO:=⟨Tryz.f19,by kernel_rfl,by kernel_rfl,by kernel_rfl,by kernel_rfl,by kernel_rfl⟩
def aaI:List RO:=[
 o (.box (t 0)) 5 [],
 o (.box (t 4)) 9 [],
 o (.alloc [(.v (.int .i64 0)),(.v (.int .i64 0))]) 10 []]
def MV:List RO:=[
 a 1 9 11 [],
 l 11 12 [0],
 n 2 13,
 b .eql 12 13 14 [1,2],
 m 14 15 [3],
 u 2 9 16 15 true [4],
 v 16 17 15 true [5,4],
 w 3 18 15 true [4],
 g (.bin .eql (t 17) (t 18)) 19 15 true [6,7,4],
 q 15 19 20 [4,8]]
def aaJ:List RO:=[
 n 1 21,
 a 0 9 22 [],
 l 22 23 [1],
 x 4 21 23 24 [0,2],
 a 0 24 25 [3],
 L 2 25 26 [4],
 S 2 10 26 (k [5] 5)]
def aaK:List RO:=[
 L 3 5 27 [],
 L 3 9 28 [],
 o (.call 19 [(t 27),(t 28)]) 29 [0,1],
 o (.field 0 2 true (t 29)) 30 [2],
 S 2 10 30 [3,2,0,1,2,3]]
def d70:DC:=(j (y aaI)
 (j (j (y MV)
 (.cond (.tmp 20) (j (y aaJ)
 .ret)
 .skip))
 (j (y aaK)
 .ret)))
def Kj:List bN:=[.cell 10 2 true]
theorem c70 [Laid]:aQ Tryz.prog 70 31 d70 Kj:=⟨Tryz.f70,by kernel_rfl,by kernel_rfl,by kernel_rfl,by kernel_rfl,by kernel_rfl⟩
def Hb:List RO:=[
 o (.box (t 0)) 7 [],
 o (.box (t 1)) 8 [],
 o (.box (t 2)) 9 [],
 o (.alloc [(.v (.int .i64 0)),(.v (.int .i64 0)),(.v (.int .i64 0)),(.v (.int .i64 0))]) 14 []]
def MW:List RO:=[
 a 3 7 22 [],
 l 22 23 [0],
 n 6 24,
 x 6 23 24 25 [1,2],
 L 6 25 26 [3],
 o (.alloc [(.v (.int .i64 0)),(.v (.int .i64 0)),(.v (.int .i64 0)),(.v (.int .i64 0)),(.v (.int .i64 0)),(.v (.int .i64 0))]) 15 [],
 S 6 15 26 (k [5,4] 5)]
def MX:List RO:=[
 n 3 27,
 a 1 15 28 [],
 l 28 29 [1],
 x 4 27 29 30 [0,2],
 L 4 30 31 [3],
 o (.alloc [(.v (.int .i64 0)),(.v (.int .i64 0)),(.v (.int .i64 0)),(.v (.int .i64 0))]) 16 [],
 S 4 16 31 (k [5,4] 5)]
def Hc:List RO:=[
 a 0 15 32 [],
 l 32 33 [0]]
def Hd:List RO:=[
 o (.bin .eql (t 33) (i 1)) 71 [],
 m 71 70 [0]]
def aaL:List RO:=[
 n 4 72,
 n 5 73,
 b .eql 72 73 74 [0,1]]
def aaM:List RO:=[
 L 4 16 75 [],
 a 4 15 76 [],
 l 76 77 [1],
 o (.call 69 [(t 77),(.cq .aI)]) 78 [2],
 n 6 79,
 n 4 80,
 o (.call 68 [(t 75),(t 78),(t 79),(t 80)]) 81 [0,3,4,5,3],
 S 4 16 81 (k [6,6] 6)]
def aaN:List RO:=[
 o (.bin .eql (t 33) (i 2)) 83 [],
 m 83 82 [0]]
def aaO:List RO:=[
 o (.bP (i 0)) 17 []]
def aaP:List RO:=[
 n 17 84,
 a 1 8 85 [],
 l 85 86 [1],
 o (.len (t 86)) 87 [2],
 b .lss 84 87 88 [0,3]]
def AZ:List RO:=[
 a 1 8 91 [],
 l 91 92 [0],
 n 17 93,
 x 5 92 93 94 [1,2],
 a 0 94 95 [3],
 l 95 96 [4],
 n 4 97,
 b .eql 96 97 98 [5,6],
 m 98 99 [7],
 u 1 8 100 99 true [8],
 v 100 101 99 true [9,8],
 w 17 102 99 true [8],
 g (.idxAddr 5 (t 101) (t 102)) 103 99 true [10,11,8],
 u 1 103 104 99 true [12,8],
 v 104 105 99 true [13,8],
 w 5 106 99 true [8],
 g (.bin .eql (t 105) (t 106)) 107 99 true [14,15,8],
 q 99 107 108 [8,16],
 m 108 109 [17,8],
 u 1 8 110 109 true [18],
 v 110 111 109 true [19,18],
 w 17 112 109 true [18],
 g (.idxAddr 5 (t 111) (t 112)) 113 109 true [20,21,18],
 u 2 113 114 109 true [22,18],
 v 114 115 109 true [23,18],
 u 2 15 116 109 true [18],
 v 116 117 109 true [25,18],
 g (.bin .eql (t 115) (t 117)) 118 109 true [24,26,18],
 q 109 118 119 [18,27]]
def RP:List RO:=[
 L 4 16 120 [],
 a 4 15 121 [],
 l 121 122 [1],
 a 1 8 123 [],
 l 123 124 [3],
 n 17 125,
 x 5 124 125 126 [4,5],
 a 3 126 127 [6],
 l 127 128 [7],
 b .add 122 128 129 [2,8],
 o (.call 69 [(t 129),(.cq .aI)]) 130 [9],
 n 6 131,
 n 17 132,
 o (.call 68 [(t 120),(t 130),(t 131),(t 132)]) 133 [0,10,11,12,10],
 S 4 16 133 (k [13,13] 13)]
def Kk:List RO:=[
 n 17 89,
 o (.bin .add (t 89) (i 1)) 90 [0],
 m 90 17 [1,0,1]]
def RQ:List RO:=[
 o (.bin .eql (t 33) (i 3)) 135 [],
 m 135 134 [0]]
def RU:List RO:=[
 L 3 9 136 [],
 n 3 137,
 n 4 138,
 n 5 139,
 a 2 15 140 [],
 l 140 141 [4],
 n 4 142,
 n 5 143,
 o (.build [(.v (.int .i64 0)),(.v (.int .i64 0)),(.v (.int .i64 0))] [(0,1,(t 141)),(1,1,(t 142)),(2,1,(t 143))]) 144 [5,6,7],
 o (.call 70 [(t 136),(t 137),(t 138),(t 139),(t 144)]) 145 [0,1,2,3,8],
 o (.alloc [(.v (.int .i64 0)),(.v (.int .i64 0))]) 18 [],
 S 2 18 145 (k [10,9,9] 10)]
def RW:List RO:=[
 L 4 16 146 [],
 a 4 15 147 [],
 l 147 148 [1],
 L 2 18 149 [],
 o (.bslice 1 2 [(.v (.int .i64 0)),(.v (.int .i64 0))] [(0,2,(t 149))]) 150 [3],
 o (.call 69 [(t 148),(t 150)]) 151 [2,4],
 n 6 152,
 n 4 153,
 o (.call 68 [(t 146),(t 151),(t 152),(t 153)]) 154 [0,5,6,7,5],
 S 4 16 154 (k [8,8] 8)]
def RX:List RO:=[
 n 4 34,
 m 34 19 [0,0]]
def RY:List RO:=[
 n 19 35,
 n 5 36,
 b .leq 35 36 37 [0,1]]
def RZ:List RO:=[
 L 3 9 40 [],
 n 3 41,
 n 4 42,
 n 5 43,
 a 2 15 44 [],
 l 44 45 [4],
 n 4 46,
 n 19 47,
 o (.build [(.v (.int .i64 0)),(.v (.int .i64 0)),(.v (.int .i64 0))] [(0,1,(t 45)),(1,1,(t 46)),(2,1,(t 47))]) 48 [5,6,7],
 o (.call 70 [(t 40),(t 41),(t 42),(t 43),(t 48)]) 49 [0,1,2,3,8],
 o (.alloc [(.v (.int .i64 0)),(.v (.int .i64 0))]) 20 [],
 S 2 20 49 (k [10,9,9] 10)]
def R5:List RO:=[
 L 3 9 50 [],
 n 3 51,
 n 4 52,
 n 5 53,
 a 3 15 54 [],
 l 54 55 [4],
 n 19 56,
 n 5 57,
 o (.build [(.v (.int .i64 0)),(.v (.int .i64 0)),(.v (.int .i64 0))] [(0,1,(t 55)),(1,1,(t 56)),(2,1,(t 57))]) 58 [5,6,7],
 o (.call 70 [(t 50),(t 51),(t 52),(t 53),(t 58)]) 59 [0,1,2,3,8],
 o (.alloc [(.v (.int .i64 0)),(.v (.int .i64 0))]) 21 [],
 S 2 21 59 (k [10,9,9] 10)]
def R6:List RO:=[
 L 4 16 60 [],
 a 4 15 61 [],
 l 61 62 [1],
 L 2 20 63 [],
 L 2 21 64 [],
 o (.bslice 2 2 [(.v (.int .i64 0)),(.v (.int .i64 0)),(.v (.int .i64 0)),(.v (.int .i64 0))] [(0,2,(t 63)),(2,2,(t 64))]) 65 [3,4],
 o (.call 69 [(t 62),(t 65)]) 66 [2,5],
 n 6 67,
 n 19 68,
 o (.call 68 [(t 60),(t 66),(t 67),(t 68)]) 69 [0,6,7,8,6],
 S 4 16 69 (k [9,9] 9)]
def R7:List RO:=[
 n 19 38,
 o (.bin .add (t 38) (i 1)) 39 [0],
 m 39 19 [1,0,1]]
def xk:List RO:=[
 L 4 16 155 [],
 S 4 14 155 [0,0]]
def d46:DC:=(j (y Hb)
 (j (y MW)
 (j (y MX)
 (j (j (y Hc)
 (.block 0 (j (y Hd)
 (.cond (.tmp 70) (j (y aaL)
 (.cond (.tmp 74) (Y aaM)
 .skip))
 (j (y aaN)
 (.cond (.tmp 82) (j (y aaO)
 (.block 3 (.loop (j (j (y aaP)
 (.cond (.tmp 88) .skip
 (.exit 3)))
 (j (.block 4 (j (Y AZ)
 (.cond (.tmp 119) (Y RP)
 .skip)))
 (y Kk))))))
 (j (y RQ)
 (.cond (.tmp 134) (j (y RU)
 (Y RW))
 (j (y RX)
 (.block 1 (.loop (j (j (y RY)
 (.cond (.tmp 37) .skip
 (.exit 1)))
 (j (.block 2 (j (y RZ)
 (j (y R5)
 (Y R6))))
 (y R7))))))))))))))
 (j (y xk)
 .ret)))))
def pD:List bN:=[.cell 14 4 true]
theorem c46 [Laid]:aQ Tryz.prog 46 156 d46 pD:=⟨Tryz.f46,by kernel_rfl,by kernel_rfl,by kernel_rfl,by kernel_rfl,by kernel_rfl⟩
def aaQ:List RO:=[
 o (.box (t 0)) 5 [],
 o (.box (t 1)) 6 [],
 o (.box (t 2)) 7 [],
 o (.bP (.cq .aI)) 10 []]
def aaR:List RO:=[
 o (.bP (.cq .aI)) 11 []]
def aaS:List RO:=[
 o (.bP (i 0)) 12 []]
def aaT:List RO:=[
 n 12 16,
 a 1 5 17 [],
 l 17 18 [1],
 b .lss 16 18 19 [0,2]]
def aaU:List RO:=[
 n 11 22,
 o (.call 42 []) 23 [],
 o (.bslice 1 4 [(.v (.int .i64 0)),(.v (.int .i64 0)),(.v (.int .i64 0)),(.v (.int .i64 0))] [(0,4,(t 23))]) 24 [1],
 o (.append 57 4 32 (t 22) (t 24)) 25 [0,2,1],
 m 25 11 [3,3,0,1,2,3]]
def aaV:List RO:=[
 n 12 20,
 o (.bin .add (t 20) (i 1)) 21 [0],
 m 21 12 [1,0,1]]
def aaW:List RO:=[
 o (.bP (.cq (.v (.bool true)))) 13 []]
def aaX:List RO:=[
 n 13 26]
def aaY:List RO:=[
 o (.bP (.cq (.v (.bool false)))) 13 []]
def aaZ:List RO:=[
 o (.bP (i 0)) 14 []]
def R8:List RO:=[
 n 14 27,
 a 3 5 28 [],
 l 28 29 [1],
 o (.len (t 29)) 30 [2],
 b .lss 27 30 31 [0,3]]
def R9:List RO:=[
 L 4 5 34 [],
 L 3 6 35 [],
 L 3 7 36 [],
 n 11 37,
 n 3 38,
 n 4 39,
 n 14 40,
 o (.call 46 [(t 34),(t 35),(t 36),(t 37),(t 38),(t 39),(t 40)]) 41 (k [] 6),
 o (.alloc [(.v (.int .i64 0)),(.v (.int .i64 0)),(.v (.int .i64 0)),(.v (.int .i64 0))]) 15 [],
 S 4 15 41 (k [8,7,7] 8)]
def Sa:List RO:=[
 L 4 15 42 [],
 n 11 43,
 a 3 5 44 [],
 l 44 45 [2],
 n 14 46,
 x 6 45 46 47 [3,4],
 a 1 47 48 [5],
 l 48 49 [6],
 x 4 43 49 50 [1,7],
 L 4 50 51 [8],
 o (.eqT true true [(.int .i64),(.int .i64),(.int .i64),(.int .i64)] (t 42) (t 51)) 52 [0,9]]
def Sb:List RO:=[
 n 11 53,
 a 3 5 54 [],
 l 54 55 [1],
 n 14 56,
 x 6 55 56 57 [2,3],
 a 1 57 58 [4],
 l 58 59 [5],
 L 4 15 60 [],
 x 4 53 59 61 (k [0,6] 7),
 S 4 61 60 (k [8,7] 7),
 o (.bP (.cq (.v (.bool true)))) 13 (k [9] 9)]
def Kl:List RO:=[
 n 14 32,
 o (.bin .add (t 32) (i 1)) 33 [0],
 m 33 14 [1,0,1]]
def Sc:List RO:=[
 n 11 62,
 m 62 10 [0,0]]
def d24:DC:=(j (y aaQ)
 (j (y aaR)
 (j (j (y aaS)
 (.block 0 (.loop (j (j (y aaT)
 (.cond (.tmp 19) .skip
 (.exit 0)))
 (j (.block 1 (y aaU))
 (y aaV))))))
 (j (j (y aaW)
 (.block 2 (.loop (j (j (y aaX)
 (.cond (.tmp 26) .skip
 (.exit 2)))
 (.block 3 (j (y aaY)
 (j (y aaZ)
 (.block 4 (.loop (j (j (y R8)
 (.cond (.tmp 31) .skip
 (.exit 4)))
 (j (.block 5 (j (y R9)
 (j (Y Sa)
 (.cond (.tmp 52) (Y Sb)
 .skip))))
 (y Kl))))))))))))
 (j (y Sc)
 .ret)))))
def d24res:List bN:=[.slot 10]
theorem c24 [Laid]:aQ Tryz.prog 24 63 d24 d24res:=⟨Tryz.f24,by kernel_rfl,by kernel_rfl,by kernel_rfl,by kernel_rfl,by kernel_rfl⟩
def aa0:List RO:=[
 o (.box (t 0)) 2 [],
 o (.box (t 1)) 3 [],
 o (.alloc [(.v (.int .i64 0)),(.v (.int .i64 0)),.aI]) 4 []]
def aa1:List RO:=[
 a 1 2 11 [],
 l 11 12 [0],
 a 0 3 13 [],
 l 13 14 [2],
 a 1 2 15 [],
 l 15 16 [4],
 a 0 3 17 [],
 l 17 18 [6],
 o (.call 23 [(t 16),(t 18)]) 19 [5,7],
 o (.mkSlice 57 4 32 [(.int .i64 0),(.int .i64 0),(.int .i64 0),(.int .i64 0)] (t 19)) 20 [8,8],
 o (.build [(.v (.int .i64 0)),(.v (.int .i64 0)),.aI] [(0,1,(t 12)),(1,1,(t 14)),(2,1,(t 20))]) 21 [1,3,9],
 o (.alloc [(.v (.int .i64 0)),(.v (.int .i64 0)),.aI]) 5 [],
 S 3 5 21 (k [11,10,8] 11)]
def aa2:List RO:=[
 o (.bP (i 0)) 6 []]
def aa3:List RO:=[
 n 6 22,
 a 0 3 23 [],
 l 23 24 [1],
 b .lss 22 24 25 [0,2]]
def aa4:List RO:=[
 o (.bP (i 0)) 7 []]
def aa5:List RO:=[
 n 7 28,
 n 6 29,
 b .add 28 29 30 [0,1],
 a 0 3 31 [],
 l 31 32 [3],
 b .lss 30 32 33 [2,4]]
def Km:List RO:=[
 L 4 2 36 [],
 L 3 3 37 [],
 L 3 5 38 [],
 n 7 39,
 n 7 40,
 n 6 41,
 b .add 40 41 42 [4,5],
 o (.callF 24 [(t 36),(t 37),(t 38),(t 39),(t 42)]) 43 [0,1,2,3,6],
 m 43 8 (k [7,7] 7)]
def d11r6:List RO:=Km.map bare
def aa6:List RO:=[
 a 1 2 44 [],
 l 44 45 [0],
 a 0 3 46 [],
 l 46 47 [2],
 n 7 48,
 n 7 49,
 n 6 50,
 b .add 49 50 51 [5,6],
 o (.call 25 [(t 45),(t 47),(t 48),(t 51)]) 52 [1,3,4,7],
 m 52 9 (k [8,8] 8)]
def aa7:List RO:=[
 o (.bP (i 0)) 10 []]
def aa8:List RO:=[
 n 10 53,
 n 8 54,
 o (.len (t 54)) 55 [1],
 b .lss 53 55 56 [0,2]]
def Sd:List RO:=[
 a 2 5 59 [],
 l 59 60 [0],
 n 9 61,
 n 10 62,
 b .add 61 62 63 [2,3],
 n 8 64,
 n 10 65,
 x 4 64 65 66 [5,6],
 L 4 66 67 [7],
 x 4 60 63 68 (k [1,4] 8),
 S 4 68 67 (k [9,8] 8)]
def Se:List RO:=[
 n 10 57,
 o (.bin .add (t 57) (i 1)) 58 [0],
 m 58 10 [1,0,1]]
def Sf:List RO:=[
 n 7 34,
 o (.bin .add (t 34) (i 1)) 35 [0],
 m 35 7 [1,0,1]]
def Sg:List RO:=[
 n 6 26,
 o (.bin .add (t 26) (i 1)) 27 [0],
 m 27 6 [1,0,1]]
def Si:List RO:=[
 L 3 5 69 [],
 S 3 4 69 [0,0]]
def d11:DC:=(j (y aa0)
 (j (Y aa1)
 (j (j (y aa2)
 (.block 0 (.loop (j (j (y aa3)
 (.cond (.tmp 25) .skip
 (.exit 0)))
 (j (.block 1 (j (y aa4)
 (.block 2 (.loop (j (j (y aa5)
 (.cond (.tmp 33) .skip
 (.exit 2)))
 (j (.block 3 (j (y d11r6)
 (j (y aa6)
 (j (y aa7)
 (.block 4 (.loop (j (j (y aa8)
 (.cond (.tmp 56) .skip
 (.exit 4)))
 (j (.block 5 (Y Sd))
 (y Se)))))))))
 (y Sf)))))))
 (y Sg))))))
 (j (y Si)
 .ret))))
def Sj:List bN:=[.cell 4 3 true]
theorem c11 [Laid]:aQ Tryz.prog 11 70 d11 Sj:=⟨Tryz.f11,by kernel_rfl,by kernel_rfl,by kernel_rfl,by kernel_rfl,by kernel_rfl⟩
def aa9:List RO:=[
 o (.bP (.cq (.v (.bool false)))) 4 []]
def aba:List RO:=[
 n 0 6,
 o (.len (t 6)) 7 [0],
 n 1 8,
 o (.len (t 8)) 9 [2],
 b .neq 7 9 10 [1,3]]
def d40r2:List RO:=[
 o (.bP (.cq (.v (.bool false)))) 4 []]
def abb:List RO:=[
 o (.bP (i 0)) 5 []]
def abc:List RO:=[
 n 5 11,
 n 0 12,
 o (.len (t 12)) 13 [1],
 b .lss 11 13 14 [0,2]]
def abd:List RO:=[
 n 0 17,
 n 5 18,
 x 4 17 18 19 [0,1],
 L 4 19 20 [2],
 n 1 21,
 n 5 22,
 x 4 21 22 23 [4,5],
 L 4 23 24 [6],
 o (.eqT true true [(.int .i64),(.int .i64),(.int .i64),(.int .i64)] (t 20) (t 24)) 25 [3,7]]
def d40r6:List RO:=[
 o (.bP (.cq (.v (.bool false)))) 4 []]
def abe:List RO:=[
 n 5 15,
 o (.bin .add (t 15) (i 1)) 16 [0],
 m 16 5 [1,0,1]]
def abf:List RO:=[
 o (.bP (.cq (.v (.bool true)))) 4 []]
def d40:DC:=(j (y aa9)
 (j (j (y aba)
 (.cond (.tmp 10) (j (y d40r2)
 .ret)
 .skip))
 (j (j (y abb)
 (.block 0 (.loop (j (j (y abc)
 (.cond (.tmp 14) .skip
 (.exit 0)))
 (j (.block 1 (j (Y abd)
 (.cond (.tmp 25) (j (y d40r6)
 .ret)
 .skip)))
 (y abe))))))
 (j (y abf)
 .ret))))
def Sk:List bN:=[.slot 4]
theorem c40 [Laid]:aQ Tryz.prog 40 26 d40 Sk:=⟨Tryz.f40,by kernel_rfl,by kernel_rfl,by kernel_rfl,by kernel_rfl,by kernel_rfl⟩
def abg:List RO:=[
 o (.box (t 0)) 2 [],
 o (.box (t 1)) 3 [],
 o (.bP (.cq (.v (.bool false)))) 4 []]
def abh:List RO:=[
 a 0 2 5 [],
 l 5 6 [0],
 a 0 3 7 [],
 l 7 8 [2],
 b .eql 6 8 9 [1,3],
 m 9 10 [4],
 u 1 2 11 10 true [5],
 v 11 12 10 true [6,5],
 u 1 3 13 10 true [5],
 v 13 14 10 true [8,5],
 g (.bin .eql (t 12) (t 14)) 15 10 true [7,9,5],
 q 10 15 16 [5,10],
 m 16 17 [11,5],
 u 2 2 18 17 true [12],
 v 18 19 17 true [13,12],
 u 2 3 20 17 true [12],
 v 20 21 17 true [15,12],
 g (.call 40 [(t 19),(t 21)]) 22 17 true [14,16,12,12],
 q 17 22 23 [12,17],
 m 23 4 (k [18,17] 18)]
def d17:DC:=(j (y abg)
 (j (y abh)
 .ret))
def Sl:List bN:=[.slot 4]
theorem c17 [Laid]:aQ Tryz.prog 17 24 d17 Sl:=⟨Tryz.f17,by kernel_rfl,by kernel_rfl,by kernel_rfl,by kernel_rfl,by kernel_rfl⟩
def He:List RO:=[
 o (.box (t 0)) 4 [],
 o (.alloc [.aI,.aI,(.v (.int .i64 0))]) 8 []]
def Dc:List RO:=[
 L 3 4 10 [],
 o (.alloc [.aI,.aI,(.v (.int .i64 0))]) 9 [],
 S 3 9 10 [1,0,0,1]]
def Sm:List RO:=[
 o (.bslice 0 3 [] []) 11 [],
 a 0 4 12 [],
 l 12 13 [1],
 n 1 14,
 o (.slice 3 (t 13) none (some (t 14))) 15 [2,3],
 o (.append 70 3 40 (t 11) (t 15)) 16 [0,4],
 n 3 17,
 o (.append 70 3 40 (t 16) (t 17)) 18 [5,6,5],
 a 0 4 19 [],
 l 19 20 [8],
 n 1 21,
 n 2 22,
 b .add 21 22 23 [10,11],
 o (.slice 3 (t 20) (some (t 23)) none) 24 [9,12],
 o (.append 70 3 40 (t 18) (t 24)) 25 [7,13,7],
 a 0 9 26 (k [] 14),
 S 1 26 25 (k [15,14,14] 14)]
def abi:List RO:=[
 L 3 9 27 [],
 S 3 8 27 [0,0]]
def d38:DC:=(j (y He)
 (j (y Dc)
 (j (.jU Sm)
 (j (y abi)
 .ret))))
def A0:List bN:=[.cell 8 3 true]
theorem c38 [Laid]:aQ Tryz.prog 38 28 d38 A0:=⟨Tryz.f38,by kernel_rfl,by kernel_rfl,by kernel_rfl,by kernel_rfl,by kernel_rfl⟩
def Hf:List RO:=[
 o (.box (t 0)) 1 [],
 o (.alloc [.aI,.aI,(.v (.int .i64 0))]) 2 []]
def Hg:List RO:=[
 a 4 1 3 [],
 L 3 3 4 [0],
 a 7 1 5 [],
 l 5 6 [2],
 a 8 1 7 [],
 l 7 8 [4],
 a 9 1 9 [],
 l 9 10 [6],
 o (.call 38 [(t 4),(t 6),(t 8),(t 10)]) 11 [1,3,5,7],
 S 3 2 11 (k [8,8] 8)]
def d14:DC:=(j (y Hf)
 (j (y Hg)
 .ret))
def A1:List bN:=[.cell 2 3 true]
theorem c14 [Laid]:aQ Tryz.prog 14 12 d14 A1:=⟨Tryz.f14,by kernel_rfl,by kernel_rfl,by kernel_rfl,by kernel_rfl,by kernel_rfl⟩
def abj:List RO:=[
 o (.box (t 0)) 1 [],
 o (.alloc [(.v (.int .i64 0)),(.v (.int .i64 0)),(.v (.int .i64 0))]) 2 []]
def abk:List RO:=[
 a 7 1 3 [],
 l 3 4 [0],
 a 8 1 5 [],
 l 5 6 [2],
 a 9 1 7 [],
 l 7 8 [4],
 o (.len (t 8)) 9 [5],
 o (.build [(.v (.int .i64 0)),(.v (.int .i64 0)),(.v (.int .i64 0))] [(0,1,(t 4)),(1,1,(t 6)),(2,1,(t 9))]) 10 [1,3,6],
 S 3 2 10 (k [7] 7)]
def d15:DC:=(j (y abj)
 (j (y abk)
 .ret))
def Sn:List bN:=[.cell 2 3 true]
theorem c15 [Laid]:aQ Tryz.prog 15 11 d15 Sn:=⟨Tryz.f15,by kernel_rfl,by kernel_rfl,by kernel_rfl,by kernel_rfl,by kernel_rfl⟩
def d9r0:List RO:=[
 o (.box (t 0)) 1 [],
 o (.bP (.cq (.v (.bool false)))) 2 []]
def xl:List RO:=[
 a 0 1 3 [],
 a 3 3 4 [0],
 l 4 5 [1],
 o (.len (t 5)) 6 [2],
 o (.bin .gtr (t 6) (i 14)) 7 [3],
 m 7 8 [4],
 u 0 1 9 8 false [5],
 u 1 9 10 8 false [6,5],
 v 10 11 8 false [7,5],
 g (.bin .gtr (t 11) (i 8)) 12 8 false [8,5],
 p 8 12 13 [5,9],
 m 13 14 [10,5],
 u 0 1 15 14 false [11],
 u 0 15 16 14 false [12,11],
 v 16 17 14 false [13,11],
 g (.bin .gtr (t 17) (i 5)) 18 14 false [14,11],
 p 14 18 19 [11,15],
 m 19 20 [16,11],
 u 0 1 21 20 false [17],
 g (.load 4 true (t 21)) 22 20 false [18,17],
 g (.call 20 [(t 22)]) 23 20 false [19,17,17],
 g (.un .not (t 23)) 24 20 false [20,17],
 p 20 24 25 [17,21],
 m 25 26 [22,20],
 u 4 1 27 26 false [23],
 u 0 27 28 26 false [24,23],
 v 28 29 26 false [25,23],
 g (.len (t 29)) 30 26 false [26,23],
 g (.bin .gtr (t 30) (i 4)) 31 26 false [27,23],
 p 26 31 32 [23,28],
 m 32 33 [29,23],
 u 9 1 34 33 false [30],
 v 34 35 33 false [31,30],
 g (.len (t 35)) 36 33 false [32,30],
 g (.bin .gtr (t 36) (i 3)) 37 33 false [33,30],
 p 33 37 38 [30,34],
 m 38 39 [35,30],
 u 4 1 40 39 false [36],
 g (.load 3 true (t 40)) 41 39 false [37,36],
 u 0 1 42 39 false [36],
 u 0 42 43 39 false [39,36],
 v 43 44 39 false [40,36],
 g (.call 21 [(t 41),(t 44)]) 45 39 false [38,41,36,36],
 g (.un .not (t 45)) 46 39 false [42,36],
 p 39 46 47 [36,43],
 m 47 48 [44,42],
 u 7 1 49 48 false [45],
 v 49 50 48 false [46,45],
 g (.bin .lss (t 50) (i 0)) 51 48 false [47,45],
 p 48 51 52 [45,48],
 m 52 53 [49,45],
 u 8 1 54 53 false [50],
 v 54 55 53 false [51,50],
 g (.bin .lss (t 55) (i 0)) 56 53 false [52,50],
 p 53 56 57 [50,53],
 m 57 58 [54,50],
 u 7 1 59 58 false [55],
 v 59 60 58 false [56,55],
 u 4 1 61 58 false [55],
 u 0 61 62 58 false [58,55],
 v 62 63 58 false [59,55],
 g (.len (t 63)) 64 58 false [60,55],
 g (.bin .gtr (t 60) (t 64)) 65 58 false [57,61,55],
 p 58 65 66 [55,62],
 m 66 67 [63,55],
 u 8 1 68 67 false [64],
 v 68 69 67 false [65,64],
 u 4 1 70 67 false [64],
 u 0 70 71 67 false [67,64],
 v 71 72 67 false [68,64],
 g (.len (t 72)) 73 67 false [69,64],
 u 7 1 74 67 false [64],
 v 74 75 67 false [71,64],
 g (.bin .sub (t 73) (t 75)) 76 67 false [70,72,64],
 g (.bin .gtr (t 69) (t 76)) 77 67 false [66,73,64],
 p 67 77 78 [64,74]]
def d9r2:List RO:=[
 o (.bP (.cq (.v (.bool false)))) 2 []]
def d9r3:List RO:=[
 L 10 1 79 [],
 o (.call 14 [(t 79)]) 80 [0],
 a 0 1 81 [],
 a 0 81 82 [2],
 l 82 83 [3],
 o (.call 21 [(t 80),(t 83)]) 84 [1,4,1],
 m 84 85 [5,5],
 u 0 1 86 85 true [6],
 g (.load 4 true (t 86)) 87 85 true [7,6],
 u 4 1 88 85 true [6],
 u 1 88 89 85 true [9,6],
 v 89 90 85 true [10,6],
 g (.call 22 [(t 87),(t 90)]) 91 85 true [8,11,6,6],
 q 85 91 92 [6,12],
 m 92 2 (k [13,12] 13)]
def d9:DC:=(j (y d9r0)
 (j (j (y xl)
 (.cond (.tmp 78) (j (y d9r2)
 .ret)
 .skip))
 (j (Y d9r3)
 .ret)))
def Sp:List bN:=[.slot 2]
theorem c9 [Laid]:aQ Tryz.prog 9 93 d9 Sp:=⟨Tryz.f9,by kernel_rfl,by kernel_rfl,by kernel_rfl,by kernel_rfl,by kernel_rfl⟩
def abl:List RO:=[
 o (.bP (.cq (.v (.bool false)))) 0 []]
def abm:List RO:=[
 o (.build [(.v (.int .i64 0)),(.v (.int .i64 0)),(.v (.int .i64 0))] [(0,1,(i 1)),(1,1,(i 1)),(2,1,(i 1))]) 15 [],
 o (.alloc [(.v (.int .i64 0)),(.v (.int .i64 0)),(.v (.int .i64 0))]) 1 [],
 S 3 1 15 [1,0,0,1]]
def abn:List RO:=[
 o (.build [(.v (.int .i64 0)),(.v (.int .i64 0)),(.v (.int .i64 0))] [(0,1,(i 2)),(1,1,(i 0)),(2,1,(i 2))]) 17 [],
 L 3 1 18 [],
 o (.call 18 [(t 17),(t 18),(i 7)]) 19 [0,1],
 m 19 16 [2],
 e 0 16 20 [3],
 e 1 16 21 [3],
 o (.alloc [(.v (.int .i64 0)),(.v (.int .i64 0)),(.v (.int .i64 0))]) 2 [],
 S 3 2 20 [6,4,2,0,1,2,3,4,6],
 m 21 3 (k [5,7] 7)]
def abo:List RO:=[
 o (.build [(.v (.int .i64 0)),(.v (.int .i64 0)),(.v (.int .i64 0))] [(0,1,(i 1)),(1,1,(i 4)),(2,1,(i 6))]) 23 [],
 L 3 1 24 [],
 o (.call 18 [(t 23),(t 24),(i 7)]) 25 [0,1],
 m 25 22 [2],
 e 0 22 26 [3],
 e 1 22 27 [3],
 o (.alloc [(.v (.int .i64 0)),(.v (.int .i64 0)),(.v (.int .i64 0))]) 4 [],
 S 3 4 26 [6,4,2,0,1,2,3,4,6],
 m 27 5 (k [5,7] 7)]
def abp:List RO:=[
 o (.build [(.v (.int .i64 0)),(.v (.int .i64 0)),(.v (.int .i64 0))] [(1,1,(i 2)),(2,1,(i 4))]) 29 [],
 L 3 1 30 [],
 o (.call 18 [(t 29),(t 30),(i 7)]) 31 [0,1],
 m 31 28 [2],
 e 0 28 32 [3],
 e 1 28 33 [3],
 o (.alloc [(.v (.int .i64 0)),(.v (.int .i64 0)),(.v (.int .i64 0))]) 6 [],
 S 3 6 32 [6,4,2,0,1,2,3,4,6],
 m 33 7 (k [5,7] 7)]
def abq:List RO:=[
 o (.build [(.v (.int .i64 0)),(.v (.int .i64 0)),(.v (.int .i64 0))] [(1,1,(i 0)),(2,1,(i 1))]) 35 [],
 L 3 1 36 [],
 o (.call 18 [(t 35),(t 36),(i 7)]) 37 [0,1],
 m 37 34 [2],
 e 0 34 38 [3],
 e 1 34 39 [3],
 o (.alloc [(.v (.int .i64 0)),(.v (.int .i64 0)),(.v (.int .i64 0))]) 8 [],
 S 3 8 38 [6,4,2,0,1,2,3,4,6],
 m 39 9 (k [5,7] 7)]
def abr:List RO:=[
 o (.build [(.v (.int .i64 0)),(.v (.int .i64 0)),(.v (.int .i64 0))] [(1,1,(i 4)),(2,1,(i 6))]) 41 [],
 o (.build [(.v (.int .i64 0)),(.v (.int .i64 0)),(.v (.int .i64 0))] [(0,1,(i 1)),(2,1,(i 2))]) 42 [],
 o (.call 18 [(t 41),(t 42),(i 7)]) 43 [0,1],
 m 43 40 [2],
 e 0 40 44 [3],
 e 1 40 45 [3],
 o (.alloc [(.v (.int .i64 0)),(.v (.int .i64 0)),(.v (.int .i64 0))]) 10 [],
 S 3 10 44 [6,4,2,0,1,2,3,4,6],
 m 45 11 (k [5,7] 7)]
def abt:List RO:=[
 o (.build [(.v (.int .i64 0)),(.v (.int .i64 0)),(.v (.int .i64 0)),.aI] [(0,1,(i 1)),(1,1,(i 1))]) 47 [],
 o (.build [(.v (.int .i64 0)),(.v (.int .i64 0)),.aI] []) 48 [],
 o (.bslice 1 1 [(.v (.int .i64 0))] [(0,1,(i 1))]) 49 [],
 o (.build [.aI,.aI,(.v (.int .i64 0))] [(1,1,(t 49))]) 50 [2],
 o (.build [(.v (.int .i64 0)),(.v (.int .i64 0)),(.v (.int .i64 0))] []) 51 [],
 o (.call 13 [(t 47),(t 48),(t 50),(t 51)]) 52 [0,1,3,4],
 m 52 46 [5],
 e 0 46 53 [6],
 e 1 46 54 [6],
 e 2 46 55 [6],
 o (.alloc [(.v (.int .i64 0)),(.v (.int .i64 0)),.aI]) 12 [],
 S 3 12 53 [10,7,5,0,1,2,3,4,5,6,7,10],
 m 54 13 [8,11,0,1,2,3,4,5,6,7,8,10,11],
 m 55 14 (k [9,12] 12)]
def abu:List RO:=[
 n 3 56,
 m 56 57 [0],
 g (.load 3 true (t 2)) 58 57 true [1],
 g (.build [(.v (.int .i64 0)),(.v (.int .i64 0)),(.v (.int .i64 0))] [(0,1,(i 2)),(1,1,(i 0)),(2,1,(i 2))]) 59 57 true [1],
 g (.eqT false true [(.int .i64),(.int .i64),(.int .i64)] (t 58) (t 59)) 60 57 true [2,3,1],
 q 57 60 61 [1,4],
 m 61 62 [5,1],
 w 5 63 62 true [6],
 q 62 63 64 [6,7],
 m 64 65 [8,6],
 g (.load 3 true (t 4)) 66 65 true [9],
 g (.build [(.v (.int .i64 0)),(.v (.int .i64 0)),(.v (.int .i64 0))] [(0,1,(i 1)),(1,1,(i 4)),(2,1,(i 6))]) 67 65 true [9],
 g (.eqT false true [(.int .i64),(.int .i64),(.int .i64)] (t 66) (t 67)) 68 65 true [10,11,9],
 q 65 68 69 [9,12],
 m 69 70 [13,9],
 w 7 71 70 true [14],
 g (.un .not (t 71)) 72 70 true [15,14],
 q 70 72 73 [14,16],
 m 73 74 [17,14],
 w 9 75 74 true [18],
 g (.un .not (t 75)) 76 74 true [19,18],
 q 74 76 77 [18,20],
 m 77 78 [21,18],
 w 11 79 78 true [22],
 q 78 79 80 [22,23],
 m 80 81 [24,22],
 g (.load 3 true (t 10)) 82 81 true [25],
 g (.build [(.v (.int .i64 0)),(.v (.int .i64 0)),(.v (.int .i64 0))] [(1,1,(i 8)),(2,1,(i 10))]) 83 81 true [25],
 g (.eqT false true [(.int .i64),(.int .i64),(.int .i64)] (t 82) (t 83)) 84 81 true [26,27,25],
 q 81 84 85 [25,28],
 m 85 86 [29,25],
 w 14 87 86 true [30],
 g (.bin .eql (t 87) (i 13)) 88 86 true [31,30],
 q 86 88 89 [30,32],
 m 89 0 (k [33,30] 33)]
def d10:DC:=(j (y abl)
 (j (y abm)
 (j (y abn)
 (j (y abo)
 (j (y abp)
 (j (y abq)
 (j (y abr)
 (j (y abt)
 (j (y abu)
 .ret)))))))))
def Sq:List bN:=[.slot 0]
theorem c10 [Laid]:aQ Tryz.prog 10 90 d10 Sq:=⟨Tryz.f10,by kernel_rfl,by kernel_rfl,by kernel_rfl,by kernel_rfl,by kernel_rfl⟩
def abv:List RO:=[
 o (.bP (i 0)) 2 []]
def abw:List RO:=[
 n 0 3,
 o (.bin .rem (t 3) (i 2)) 4 [0],
 o (.bin .eql (t 4) (i 0)) 5 [1]]
def abx:List RO:=[
 n 0 6,
 o (.bin .quo (t 6) (i 2)) 7 [0],
 m 7 2 [1,0,1]]
def aby:List RO:=[
 n 0 8,
 o (.bin .sub (t 8) (i 1)) 9 [0],
 o (.bin .quo (t 9) (i 2)) 10 [1],
 o (.bin .add (t 10) (i 2)) 11 [2],
 m 11 2 [3,0,1,2,3]]
def d41:DC:=(j (y abv)
 (j (j (y abw)
 (.cond (.tmp 5) (j (y abx)
 .ret)
 .skip))
 (j (y aby)
 .ret)))
def Kn:List bN:=[.slot 2]
theorem c41 [Laid]:aQ Tryz.prog 41 12 d41 Kn:=⟨Tryz.f41,by kernel_rfl,by kernel_rfl,by kernel_rfl,by kernel_rfl,by kernel_rfl⟩
def abz:List RO:=[
 o (.box (t 0)) 3 [],
 o (.box (t 1)) 4 [],
 o (.alloc [(.v (.int .i64 0)),(.v (.int .i64 0)),(.v (.int .i64 0))]) 6 [],
 o (.bP (.cq (.v (.bool false)))) 7 []]
def p6:List RO:=[
 a 0 3 9 [],
 l 9 10 [0],
 o (.bin .lss (t 10) (i 0)) 11 [1],
 m 11 12 [2],
 u 1 3 13 12 false [3],
 v 13 14 12 false [4,3],
 g (.bin .lss (t 14) (i 0)) 15 12 false [5,3],
 p 12 15 16 [3,6],
 m 16 17 [7,3],
 u 1 3 18 17 false [8],
 v 18 19 17 false [9,8],
 u 2 3 20 17 false [8],
 v 20 21 17 false [11,8],
 g (.bin .gtr (t 19) (t 21)) 22 17 false [10,12,8],
 p 17 22 23 [8,13],
 m 23 24 [14,8],
 u 2 3 25 24 false [15],
 v 25 26 24 false [16,15],
 w 2 27 24 false [15],
 g (.bin .geq (t 26) (t 27)) 28 24 false [17,18,15],
 p 24 28 29 [15,19],
 m 29 30 [20,15],
 u 0 4 31 30 false [21],
 v 31 32 30 false [22,21],
 g (.bin .lss (t 32) (i 0)) 33 30 false [23,21],
 p 30 33 34 [21,24],
 m 34 35 [25,21],
 u 1 4 36 35 false [26],
 v 36 37 35 false [27,26],
 g (.bin .lss (t 37) (i 0)) 38 35 false [28,26],
 p 35 38 39 [26,29],
 m 39 40 [30,26],
 u 2 4 41 40 false [31],
 v 41 42 40 false [32,31],
 g (.bin .lss (t 42) (i 0)) 43 40 false [33,31],
 p 40 43 44 [31,34],
 m 44 45 [35,31],
 u 2 4 46 45 false [36],
 v 46 47 45 false [37,36],
 g (.bin .gtr (t 47) (i 60)) 48 45 false [38,36],
 p 45 48 49 [36,39],
 m 49 50 [40,36],
 u 0 4 51 50 false [41],
 v 51 52 50 false [42,41],
 w 2 53 50 false [41],
 g (.bin .sub (t 53) (i 1)) 54 50 false [44,41],
 g (.bin .quo (t 54) (i 2)) 55 50 false [45,41],
 g (.bin .gtr (t 52) (t 55)) 56 50 false [43,46,41],
 p 50 56 57 [41,47],
 m 57 58 [48,41],
 u 1 4 59 58 false [49],
 v 59 60 58 false [50,49],
 w 2 61 58 false [49],
 g (.bin .sub (t 61) (i 1)) 62 58 false [52,49],
 g (.bin .quo (t 62) (i 2)) 63 58 false [53,49],
 u 0 4 64 58 false [49],
 v 64 65 58 false [55,49],
 g (.bin .sub (t 63) (t 65)) 66 58 false [54,56,49],
 g (.bin .gtr (t 60) (t 66)) 67 58 false [51,57,49],
 p 58 67 68 [49,58]]
def abA:List RO:=[
 o (.build [(.v (.int .i64 0)),(.v (.int .i64 0)),(.v (.int .i64 0))] []) 69 [],
 S 3 6 69 [0,0],
 o (.bP (.cq (.v (.bool false)))) 7 [1,0,1]]
def abB:List RO:=[
 a 2 3 70 [],
 l 70 71 [0],
 o (.call 41 [(t 71)]) 72 [1],
 a 0 4 73 [],
 l 73 74 [3],
 b .leq 72 74 75 [2,4]]
def abC:List RO:=[
 L 3 3 76 [],
 S 3 6 76 [0,0],
 o (.bP (.cq (.v (.bool true)))) 7 [1,0,1]]
def abD:List RO:=[
 a 1 3 77 [],
 l 77 78 [0],
 o (.bin .quo (t 78) (i 2)) 79 [1],
 a 0 4 80 [],
 l 80 81 [3],
 a 1 4 82 [],
 l 82 83 [5],
 b .add 81 83 84 [4,6],
 b .geq 79 84 85 [2,7]]
def abE:List RO:=[
 a 2 4 86 [],
 l 86 87 [0],
 a 1 4 88 [],
 l 88 89 [2],
 b .sub 87 89 90 [1,3],
 o (.bin .mul (i 2) (t 90)) 91 [4],
 m 91 8 (k [5] 5)]
def abF:List RO:=[
 a 0 3 92 [],
 l 92 93 [0],
 a 1 3 94 [],
 l 94 95 [2],
 n 8 96,
 b .add 95 96 97 [3,4],
 a 2 3 98 [],
 l 98 99 [6],
 n 8 100,
 b .add 99 100 101 [7,8],
 o (.build [(.v (.int .i64 0)),(.v (.int .i64 0)),(.v (.int .i64 0))] [(0,1,(t 93)),(1,1,(t 97)),(2,1,(t 101))]) 102 [1,5,9],
 S 3 6 102 (k [10] 10),
 o (.bP (.cq (.v (.bool true)))) 7 (k [11] 11)]
def abG:List RO:=[
 o (.build [(.v (.int .i64 0)),(.v (.int .i64 0)),(.v (.int .i64 0))] []) 103 [],
 S 3 6 103 [0,0],
 o (.bP (.cq (.v (.bool false)))) 7 [1,0,1]]
def d18:DC:=(j (y abz)
 (j (j (y p6)
 (.cond (.tmp 68) (j (y abA)
 .ret)
 .skip))
 (j (j (Y abB)
 (.cond (.tmp 75) (j (y abC)
 .ret)
 .skip))
 (j (j (y abD)
 (.cond (.tmp 85) (j (y abE)
 (j (y abF)
 .ret))
 .skip))
 (j (y abG)
 .ret)))))
def A2:List bN:=[.cell 6 3 true,.slot 7]
theorem c18 [Laid]:aQ Tryz.prog 18 104 d18 A2:=⟨Tryz.f18,by kernel_rfl,by kernel_rfl,by kernel_rfl,by kernel_rfl,by kernel_rfl⟩
def Hh:List RO:=[
 o (.bP (i 0)) 4 []]
def Hi:List RO:=[
 n 0 5,
 n 1 6,
 b .mul 5 6 7 [0,1],
 n 1 8,
 o (.bin .add (t 8) (i 1)) 9 [3],
 b .mul 7 9 10 [2,4],
 o (.bin .quo (t 10) (i 2)) 11 [5],
 m 11 4 (k [6] 6)]
def d31:DC:=(j (y Hh)
 (j (y Hi)
 .ret))
def A3:List bN:=[.slot 4]
theorem c31 [Laid]:aQ Tryz.prog 31 12 d31 A3:=⟨Tryz.f31,by kernel_rfl,by kernel_rfl,by kernel_rfl,by kernel_rfl,by kernel_rfl⟩
def Sr:List RO:=[
 o (.box (t 0)) 4 [],
 o (.box (t 1)) 5 [],
 o (.box (t 2)) 6 [],
 o (.box (t 3)) 7 [],
 o (.alloc [(.v (.int .i64 0)),(.v (.int .i64 0)),.aI]) 8 [],
 o (.bP (i 0)) 9 [],
 o (.bP (i 0)) 10 [5]]
def Ss:List RO:=[
 a 0 6 23 [],
 l 23 24 [0],
 o (.len (t 24)) 25 [1],
 m 25 11 [2,0,1,2]]
def St:List RO:=[
 a 0 7 26 [],
 l 26 27 [0],
 o (.bin .lss (t 27) (i 0)) 28 [1],
 m 28 29 [2],
 u 1 7 30 29 false [3],
 v 30 31 29 false [4,3],
 g (.bin .lss (t 31) (i 0)) 32 29 false [5,3],
 p 29 32 33 [3,6],
 m 33 34 [7,3],
 u 2 7 35 34 false [8],
 v 35 36 34 false [9,8],
 g (.bin .lss (t 36) (i 0)) 37 34 false [10,8],
 p 34 37 38 [8,11],
 m 38 39 [12,8],
 u 2 7 40 39 false [13],
 v 40 41 39 false [14,13],
 w 11 42 39 false [13],
 g (.bin .gtr (t 41) (t 42)) 43 39 false [15,16,13],
 p 39 43 44 [13,17],
 m 44 45 [18,13],
 u 0 7 46 45 false [19],
 v 46 47 45 false [20,19],
 w 11 48 45 false [19],
 u 2 7 49 45 false [19],
 v 49 50 45 false [23,19],
 g (.bin .sub (t 48) (t 50)) 51 45 false [22,24,19],
 g (.bin .gtr (t 47) (t 51)) 52 45 false [21,25,19],
 p 45 52 53 [19,26]]
def d13r3:List RO:=[
 o (.build [(.v (.int .i64 0)),(.v (.int .i64 0)),.aI] []) 54 [],
 S 3 8 54 [0,0],
 o (.bP (i 0)) 9 [1,0,1],
 o (.bP (i 2)) 10 [2,0,1,2]]
def Su:List RO:=[
 a 0 5 55 [],
 l 55 56 [0],
 a 1 4 57 [],
 l 57 58 [2],
 b .neq 56 58 59 [1,3],
 m 59 60 [4],
 u 1 5 61 60 false [5],
 v 61 62 60 false [6,5],
 g (.bin .lss (t 62) (i 1)) 63 60 false [7,5],
 p 60 63 64 [5,8],
 m 64 65 [9,5],
 u 1 5 66 65 false [10],
 v 66 67 65 false [11,10],
 g (.bin .rem (t 67) (i 2)) 68 65 false [12,10],
 g (.bin .eql (t 68) (i 0)) 69 65 false [13,10],
 p 65 69 70 [10,14],
 m 70 71 [15,10],
 u 1 5 72 71 false [16],
 v 72 73 71 false [17,16],
 g (.bin .sub (t 73) (i 1)) 74 71 false [18,16],
 g (.bin .quo (t 74) (i 2)) 75 71 false [19,16],
 w 11 76 71 false [16],
 u 2 7 77 71 false [16],
 v 77 78 71 false [22,16],
 g (.bin .sub (t 76) (t 78)) 79 71 false [21,23,16],
 g (.bin .sub (t 75) (t 79)) 80 71 false [20,24,16],
 u 1 7 81 71 false [16],
 v 81 82 71 false [26,16],
 g (.bin .neq (t 80) (t 82)) 83 71 false [25,27,16],
 p 71 83 84 [16,28],
 m 84 85 [29,16],
 u 2 5 86 85 false [30],
 v 86 87 85 false [31,30],
 g (.len (t 87)) 88 85 false [32,30],
 u 1 4 89 85 false [30],
 v 89 90 85 false [34,30],
 u 1 5 91 85 false [30],
 v 91 92 85 false [36,30],
 g (.call 31 [(t 90),(t 92)]) 93 85 false [35,37,30,30],
 g (.bin .neq (t 88) (t 93)) 94 85 false [33,38,30],
 p 85 94 95 [30,39]]
def abH:List RO:=[
 o (.build [(.v (.int .i64 0)),(.v (.int .i64 0)),.aI] []) 96 [],
 S 3 8 96 [0,0],
 o (.bP (i 0)) 9 [1,0,1],
 o (.bP (i 13)) 10 [2,0,1,2]]
def abI:List RO:=[
 L 3 6 97 [],
 o (.call 32 [(t 97)]) 98 [0],
 o (.alloc [(.v (.int .i64 0)),.aI,.aI]) 12 [],
 S 3 12 98 [2,1,1,0,1,2]]
def abJ:List RO:=[
 a 1 4 99 [],
 l 99 100 [0],
 a 0 12 101 [],
 l 101 102 [2],
 o (.build [(.v (.int .i64 0)),(.v (.int .i64 0)),.aI] [(0,1,(t 100)),(1,1,(t 102))]) 103 [1,3],
 o (.alloc [(.v (.int .i64 0)),(.v (.int .i64 0)),.aI]) 13 [],
 S 3 13 103 (k [5,4] 5)]
def abK:List RO:=[
 a 1 4 104 [],
 l 104 105 [0],
 a 0 12 106 [],
 l 106 107 [2],
 o (.call 31 [(t 105),(t 107)]) 108 [1,3],
 o (.mkSlice 57 4 32 [(.int .i64 0),(.int .i64 0),(.int .i64 0),(.int .i64 0)] (t 108)) 109 [4,4],
 o (.alloc [.aI]) 14 [],
 S 1 14 109 (k [6,5,4] 6)]
def abL:List RO:=[
 l 14 110 [],
 a 2 13 111 [0],
 S 1 111 110 [1,0,0]]
def Sv:List RO:=[
 o (.alloc [(.v (.int .i64 0))]) 15 [],
 s (.store 1 (t 15) (i 0)) [0,0]]
def Sw:List RO:=[
 a 0 12 112 [],
 l 112 113 [0],
 o (.call 33 [(t 113)]) 114 [1]]
def Sx:List RO:=[
 n 115 16]
def Sy:List RO:=[
 n 116 17]
def Sz:List RO:=[
 n 16 117,
 a 0 12 118 [],
 l 118 119 [1],
 b .mul 117 119 120 [0,2],
 n 16 121,
 n 16 122,
 o (.bin .sub (t 122) (i 1)) 123 [5],
 b .mul 121 123 124 [4,6],
 o (.bin .quo (t 124) (i 2)) 125 [7],
 b .sub 120 125 126 [3,8],
 n 17 127,
 b .add 126 127 128 [9,10],
 n 16 129,
 b .sub 128 129 130 [11,12],
 a 1 4 131 [],
 l 131 132 [14],
 b .mul 130 132 133 [13,15],
 m 133 18 (k [16] 16)]
def SA:List RO:=[
 L 3 7 135 [],
 n 16 136,
 n 17 137,
 a 1 5 138 [],
 l 138 139 [3],
 o (.call 34 [(t 135),(t 136),(t 137),(t 139)]) 140 [0,1,2,4],
 m 140 134 [5],
 e 0 134 141 [6],
 e 1 134 142 [6],
 e 2 134 143 [6],
 m 141 19 (k [7,5] 7),
 m 142 20 [8,10,0,1,2,3,4,5,6,7,8,10],
 m 143 21 (k [9,11] 11)]
def SB:List RO:=[
 n 21 144,
 o (.un .not (t 144)) 145 [0]]
def d13r17:List RO:=[
 l 15 146 [],
 l 14 147 [],
 n 18 148,
 n 18 149,
 a 1 4 150 [],
 l 150 151 [4],
 b .add 149 151 152 [3,5],
 o (.slice 4 (t 147) (some (t 148)) (some (t 152))) 153 [1,2,6],
 L 4 4 154 [],
 L 3 12 155 [],
 L 3 13 156 [],
 n 16 157,
 n 17 158,
 o (.call 35 [(t 154),(t 155),(t 156),(t 157),(t 158)]) 159 [8,9,10,11,12],
 o (.copy 4 (t 153) (t 159)) 160 [7,13,13],
 b .add 146 160 161 [0,14],
 S 1 15 161 (k [15,14] 15)]
def SC:List RO:=[
 a 1 4 162 [],
 l 162 163 [0],
 o (.bP (i 0)) 164 []]
def SD:List RO:=[
 b .lss 164 163 165 []]
def SE:List RO:=[
 n 164 166,
 m 166 22 [0,0]]
def SF:List RO:=[
 l 14 167 [],
 n 18 168,
 n 22 169,
 b .add 168 169 170 [1,2],
 L 4 4 171 [],
 L 3 12 172 [],
 L 3 5 173 [],
 n 22 174,
 n 19 175,
 n 20 176,
 o (.build [(.v (.int .i64 0)),(.v (.int .i64 0)),(.v (.int .i64 0))] [(0,1,(t 174)),(1,1,(t 175)),(2,1,(t 176))]) 177 [7,8,9],
 o (.call 37 [(t 173),(t 177)]) 178 [6,10],
 n 16 179,
 n 17 180,
 n 16 181,
 n 19 182,
 b .sub 181 182 183 [14,15],
 o (.call 36 [(t 171),(t 172),(t 178),(t 179),(t 180),(t 183)]) 184 [4,5,11,12,13,16,11],
 x 4 167 170 185 (k [0,3] 17),
 S 4 185 184 (k [18,17,17] 17)]
def SG:List RO:=[
 o (.bin .add (t 164) (i 1)) 186 [],
 m 186 164 [0]]
def Ko:List RO:=[
 L 3 13 187 [],
 l 15 188 [],
 S 3 8 187 [0,0],
 m 188 9 [1,2,0,1,2],
 o (.bP (i 0)) 10 [3,0,1,2,3]]
def d13:DC:=(j (y Sr)
 (j (y Ss)
 (j (j (y St)
 (.cond (.tmp 53) (j (y d13r3)
 .ret)
 .skip))
 (j (j (Y Su)
 (.cond (.tmp 95) (j (y abH)
 .ret)
 .skip))
 (j (y abI)
 (j (y abJ)
 (j (y abK)
 (j (y abL)
 (j (y Sv)
 (j (j (y Sw)
 (.block 0 (.wT (.tmp 114) [115,116] (j (y Sx)
 (y Sy))
 (.block 1 (j (y Sz)
 (j (y SA)
 (j (j (y SB)
 (.cond (.tmp 145) (j (.jU d13r17)
 (.exit 1))
 .skip))
 (j (y SC)
 (.block 2 (.loop (j (y SD)
 (j (.cond (.tmp 165) .skip
 (.exit 2))
 (j (.block 3 (j (y SE)
 (Y SF)))
 (y SG))))))))))))))
 (j (.jU Ko)
 .ret)))))))))))
def Kp:List bN:=[.cell 8 3 true,.slot 9,.slot 10]
theorem c13 [Laid]:aQ Tryz.prog 13 189 d13 Kp:=⟨Tryz.f13,by kernel_rfl,by kernel_rfl,by kernel_rfl,by kernel_rfl,by kernel_rfl⟩
def Hj:List RO:=[
 o (.box (t 0)) 1 [],
 o (.bP (.cq (.v (.raw (Go.Value.nilFunc))))) 2 []]
def Hk:List RO:=[
 o (.mkFn (.func 53) [(t 1)]) 3 [],
 m 3 2 [0,0]]
def d33:DC:=(j (y Hj)
 (j (y Hk)
 .ret))
def A4:List bN:=[.slot 2]
theorem c33 [Laid]:aQ Tryz.prog 33 4 d33 A4:=⟨Tryz.f33,by kernel_rfl,by kernel_rfl,by kernel_rfl,by kernel_rfl,by kernel_rfl⟩
def Hl:List RO:=[
 l 1 5 [],
 o (.bP (i 0)) 6 []]
def Hm:List RO:=[
 b .lss 6 5 7 []]
def Hn:List RO:=[
 n 6 8,
 m 8 3 [0,0]]
def Ho:List RO:=[
 o (.bP (i 0)) 4 []]
def Hp:List RO:=[
 n 4 9,
 n 3 10,
 b .add 9 10 11 [0,1],
 l 1 12 [],
 b .lss 11 12 13 [2,3]]
def Hq:List RO:=[
 n 0 16,
 n 4 17,
 n 4 18,
 n 3 19,
 b .add 18 19 20 [2,3],
 o (.callv (t 16) [(t 17),(t 20)]) 21 [0,1,4],
 o (.un .not (t 21)) 22 [5]]
def Hr:List RO:=[
 n 4 14,
 o (.bin .add (t 14) (i 1)) 15 [0],
 m 15 4 [1,0,1]]
def Hs:List RO:=[
 o (.bin .add (t 6) (i 1)) 23 [],
 m 23 6 [0]]
def d53:DC:=(j (y Hl)
 (.block 0 (.loop (j (y Hm)
 (j (.cond (.tmp 7) .skip
 (.exit 0))
 (j (.block 1 (j (y Hn)
 (j (y Ho)
 (.block 2 (.loop (j (j (y Hp)
 (.cond (.tmp 13) .skip
 (.exit 2)))
 (j (.block 3 (j (y Hq)
 (.cond (.tmp 22) .ret
 .skip)))
 (y Hr))))))))
 (y Hs)))))))
def A5:List bN:=[]
theorem c53 [Laid]:aQ Tryz.prog 53 24 d53 A5:=⟨Tryz.f53,by kernel_rfl,by kernel_rfl,by kernel_rfl,by kernel_rfl,by kernel_rfl⟩
def Ht:List RO:=[
 o (.box (t 0)) 4 [],
 o (.bP (i 0)) 8 [],
 o (.bP (i 0)) 9 [1],
 o (.bP (.cq (.v (.bool false)))) 10 [2]]
def Hu:List RO:=[
 a 2 4 17 [],
 l 17 18 [0],
 a 1 4 19 [],
 l 19 20 [2],
 b .sub 18 20 21 [1,3],
 o (.bin .mul (i 2) (t 21)) 22 [4],
 m 22 11 (k [5] 5)]
def Hv:List RO:=[
 n 11 23,
 o (.bslice 2 1 [(.v (.int .i64 0)),(.v (.int .i64 0))] [(0,1,(i 0)),(1,1,(t 23))]) 24 [0],
 o (.len (t 24)) 25 [1],
 o (.bP (i 0)) 26 []]
def Hw:List RO:=[
 b .lss 26 25 27 []]
def Hx:List RO:=[
 x 1 24 26 28 [],
 l 28 29 [0],
 m 29 13 [1,0,1]]
def Hy:List RO:=[
 n 1 30,
 n 13 31,
 b .sub 30 31 32 [0,1],
 n 2 33,
 n 13 34,
 b .sub 33 34 35 [3,4],
 o (.build [(.v (.int .i64 0)),(.v (.int .i64 0)),(.v (.int .i64 0))] [(1,1,(t 32)),(2,1,(t 35))]) 36 [2,5],
 o (.alloc [(.v (.int .i64 0)),(.v (.int .i64 0)),(.v (.int .i64 0))]) 14 [],
 S 3 14 36 (k [7,6] 7)]
def Hz:List RO:=[
 L 3 14 38 [],
 L 3 4 39 [],
 n 3 40,
 o (.call 18 [(t 38),(t 39),(t 40)]) 41 [0,1,2],
 m 41 37 [3],
 e 0 37 42 [4],
 e 1 37 43 [4],
 o (.alloc [(.v (.int .i64 0)),(.v (.int .i64 0)),(.v (.int .i64 0))]) 15 [],
 S 3 15 42 [7,5,3,0,1,2,3,4,5,7],
 m 43 16 (k [6,8] 8)]
def MY:List RO:=[
 n 16 44,
 m 44 45 [0],
 u 1 15 46 45 true [1],
 v 46 47 45 true [2,1],
 w 1 48 45 true [1],
 g (.bin .eql (t 47) (t 48)) 49 45 true [3,4,1],
 q 45 49 50 [1,5],
 m 50 51 [6,1],
 u 2 15 52 51 true [7],
 v 52 53 51 true [8,7],
 w 2 54 51 true [7],
 g (.bin .eql (t 53) (t 54)) 55 51 true [9,10,7],
 q 51 55 56 [7,11]]
def abM:List RO:=[
 a 1 14 57 [],
 l 57 58 [0],
 a 2 14 59 [],
 l 59 60 [2],
 m 58 8 [1,0,1],
 m 60 9 (k [3,4] 4),
 o (.bP (.cq (.v (.bool true)))) 10 (k [5] 5)]
def abN:List RO:=[
 o (.bin .add (t 26) (i 1)) 61 [],
 m 61 26 [0]]
def SH:List RO:=[
 o (.bP (i 0)) 8 [],
 o (.bP (i 0)) 9 [0,0],
 o (.bP (.cq (.v (.bool false)))) 10 [1,0,1]]
def d34:DC:=(j (y Ht)
 (j (y Hu)
 (j (j (y Hv)
 (.block 0 (.loop (j (y Hw)
 (j (.cond (.tmp 27) .skip
 (.exit 0))
 (j (.block 1 (j (y Hx)
 (j (y Hy)
 (j (y Hz)
 (j (y MY)
 (.cond (.tmp 56) (j (Y abM)
 .ret)
 .skip))))))
 (y abN)))))))
 (j (y SH)
 .ret))))
def xm:List bN:=[.slot 8,.slot 9,.slot 10]
theorem c34 [Laid]:aQ Tryz.prog 34 62 d34 xm:=⟨Tryz.f34,by kernel_rfl,by kernel_rfl,by kernel_rfl,by kernel_rfl,by kernel_rfl⟩
def HA:List RO:=[
 o (.box (t 0)) 6 [],
 o (.box (t 1)) 7 [],
 o (.box (t 2)) 8 [],
 o (.alloc [(.v (.int .i64 0)),(.v (.int .i64 0)),(.v (.int .i64 0)),(.v (.int .i64 0))]) 12 []]
def vx:List RO:=[
 a 2 8 16 [],
 l 16 17 [0],
 o (.bin .lss (t 17) (i 0)) 18 [1],
 m 18 19 [2],
 u 2 8 20 19 false [3],
 v 20 21 19 false [4,3],
 u 3 6 22 19 false [3],
 v 22 23 19 false [6,3],
 g (.len (t 23)) 24 19 false [7,3],
 g (.bin .geq (t 21) (t 24)) 25 19 false [5,8,3],
 p 19 25 26 [3,9]]
def HB:List RO:=[
 L 4 8 27 [],
 S 4 12 27 [0,0]]
def HC:List RO:=[
 a 3 6 28 [],
 l 28 29 [0],
 a 2 8 30 [],
 l 30 31 [2],
 x 6 29 31 32 [1,3],
 L 6 32 33 [4],
 o (.alloc [(.v (.int .i64 0)),(.v (.int .i64 0)),(.v (.int .i64 0)),(.v (.int .i64 0)),(.v (.int .i64 0)),(.v (.int .i64 0))]) 13 [],
 S 6 13 33 (k [6,5] 6)]
def abO:List RO:=[
 a 0 13 34 [],
 l 34 35 [0],
 o (.bin .neq (t 35) (i 2)) 36 [1]]
def abP:List RO:=[
 a 3 8 37 [],
 l 37 38 [0],
 n 5 39,
 b .add 38 39 40 [1,2],
 a 3 8 41 [0,1,2,3],
 S 1 41 40 [4,3,0,1,2,3]]
def abQ:List RO:=[
 L 4 8 42 [],
 S 4 12 42 [0,0]]
def abR:List RO:=[
 a 1 7 43 [],
 l 43 44 [0],
 o (.len (t 44)) 45 [1],
 o (.bP (i 0)) 46 []]
def abS:List RO:=[
 b .lss 46 45 47 []]
def abT:List RO:=[
 n 46 48,
 x 5 44 46 49 [],
 L 5 49 50 [1],
 o (.alloc [(.v (.int .i64 0)),(.v (.int .i64 0)),(.v (.int .i64 0)),(.v (.int .i64 0)),.aI]) 15 [],
 m 48 14 [0,0,1,2,3],
 S 5 15 50 (k [3,2,4] 4)]
def EP:List RO:=[
 a 0 15 51 [],
 l 51 52 [0],
 n 3 53,
 b .eql 52 53 54 [1,2],
 m 54 55 [3],
 u 1 15 56 55 true [4],
 v 56 57 55 true [5,4],
 w 4 58 55 true [4],
 g (.bin .eql (t 57) (t 58)) 59 55 true [6,7,4],
 q 55 59 60 [4,8],
 m 60 61 [9,4],
 u 2 15 62 61 true [10],
 v 62 63 61 true [11,10],
 u 2 13 64 61 true [10],
 v 64 65 61 true [13,10],
 g (.bin .eql (t 63) (t 65)) 66 61 true [12,14,10],
 q 61 66 67 [10,15]]
def SI:List RO:=[
 n 14 68,
 a 3 8 69 [0],
 S 1 69 68 [1,0,0]]
def Kq:List RO:=[
 o (.bin .add (t 46) (i 1)) 70 [],
 m 70 46 [0]]
def SJ:List RO:=[
 L 4 8 71 [],
 S 4 12 71 [0,0]]
def d36:DC:=(j (y HA)
 (j (j (y vx)
 (.cond (.tmp 26) (j (y HB)
 .ret)
 .skip))
 (j (y HC)
 (j (j (y abO)
 (.cond (.tmp 36) (j (y abP)
 (j (y abQ)
 .ret))
 .skip))
 (j (j (y abR)
 (.block 0 (.loop (j (y abS)
 (j (.cond (.tmp 47) .skip
 (.exit 0))
 (j (.block 1 (j (y abT)
 (j (y EP)
 (.cond (.tmp 67) (y SI)
 .skip))))
 (y Kq)))))))
 (j (y SJ)
 .ret))))))
def rD:List bN:=[.cell 12 4 true]
theorem c36 [Laid]:aQ Tryz.prog 36 72 d36 rD:=⟨Tryz.f36,by kernel_rfl,by kernel_rfl,by kernel_rfl,by kernel_rfl,by kernel_rfl⟩
def d6r0:List RO:=[
 o (.box (t 0)) 1 [],
 o (.bP (.cq (.v (.bool false)))) 2 []]
def d6r1:List RO:=[
 a 8 1 10 [],
 s (.store 1 (t 10) (i 0)) [0],
 a 9 1 11 [0,1],
 s (.store 1 (t 11) (.cq .aI)) [2,1,0,1]]
def Xy:List RO:=[
 L 10 1 12 [],
 o (.call 9 [(t 12)]) 13 [0],
 o (.un .not (t 13)) 14 [1]]
def d6r3:List RO:=[
 o (.call 10 []) 15 [],
 m 15 2 [0,0,0]]
def d6r4:List RO:=[
 a 0 1 16 [],
 L 4 16 17 [0],
 a 4 1 18 [],
 L 3 18 19 [2],
 o (.call 12 [(t 19)]) 20 [3],
 o (.call 11 [(t 17),(t 20)]) 21 [1,4,4],
 o (.alloc [(.v (.int .i64 0)),(.v (.int .i64 0)),.aI]) 3 [],
 S 3 3 21 (k [6,5,5] 6)]
def d6r5:List RO:=[
 a 0 1 23 [],
 L 4 23 24 [0],
 L 3 3 25 [],
 a 4 1 26 [],
 L 3 26 27 [3],
 L 10 1 28 [],
 o (.call 15 [(t 28)]) 29 [5],
 o (.call 13 [(t 24),(t 25),(t 27),(t 29)]) 30 [1,2,4,6,6],
 m 30 22 [7],
 e 0 22 31 [8],
 e 1 22 32 [8],
 e 2 22 33 [8],
 o (.alloc [(.v (.int .i64 0)),(.v (.int .i64 0)),.aI]) 4 [],
 S 3 4 31 [12,9,7,0,1,2,3,4,5,6,7,8,9,12],
 m 32 5 [10,13,0,1,2,3,4,5,6,7,8,9,10,12,13],
 m 33 6 (k [11,14] 14)]
def d6r6:List RO:=[
 o (.bP (i 0)) 7 []]
def d6r7:List RO:=[
 o (.bP (i 0)) 8 []]
def d6r8:List RO:=[
 n 8 34,
 a 1 3 35 [],
 l 35 36 [1],
 b .lss 34 36 37 [0,2]]
def d6r9:List RO:=[
 n 8 40,
 m 40 9 [0,0]]
def abU:List RO:=[
 n 9 41,
 a 1 3 42 [],
 l 42 43 [1],
 b .lss 41 43 44 [0,2]]
def SK:List RO:=[
 n 8 47,
 a 7 1 48 [],
 l 48 49 [1],
 o (.bin .mul (i 2) (t 49)) 50 [2],
 b .leq 47 50 51 [0,3],
 m 51 52 [4],
 w 9 53 52 true [5],
 g (.bin .add (t 53) (i 3)) 54 52 true [6,5],
 u 7 1 55 52 true [5],
 v 55 56 52 true [8,5],
 g (.bin .mul (i 2) (t 56)) 57 52 true [9,5],
 g (.bin .geq (t 54) (t 57)) 58 52 true [7,10,5],
 q 52 58 59 [5,11]]
def abV:List RO:=[
 n 7 60,
 a 0 1 61 [],
 a 1 61 62 [1],
 l 62 63 [2],
 b .add 60 63 64 [0,3],
 m 64 7 (k [4] 4)]
def SL:List RO:=[
 n 9 45,
 o (.bin .add (t 45) (i 1)) 46 [0],
 m 46 9 [1,0,1]]
def abW:List RO:=[
 n 8 38,
 o (.bin .add (t 38) (i 1)) 39 [0],
 m 39 8 [1,0,1]]
def abX:List RO:=[
 o (.call 10 []) 65 [],
 m 65 66 [0,0],
 w 6 67 66 true [1],
 g (.bin .eql (t 67) (i 0)) 68 66 true [2,1],
 q 66 68 69 [1,3],
 m 69 70 [4,1],
 g (.load 3 true (t 4)) 71 70 true [5],
 g (.load 3 true (t 3)) 72 70 true [5],
 g (.call 17 [(t 71),(t 72)]) 73 70 true [6,7,5,5],
 q 70 73 74 [5,8],
 m 74 75 [9,8],
 w 5 76 75 true [10],
 w 7 77 75 true [10],
 g (.bin .leq (t 76) (t 77)) 78 75 true [11,12,10],
 q 75 78 79 [10,13],
 m 79 2 (k [14,10] 14)]
def d6:DC:=(j (y d6r0)
 (j (y d6r1)
 (j (j (y Xy)
 (.cond (.tmp 14) (j (y d6r3)
 .ret)
 .skip))
 (j (Y d6r4)
 (j (Y d6r5)
 (j (y d6r6)
 (j (j (y d6r7)
 (.block 0 (.loop (j (j (y d6r8)
 (.cond (.tmp 37) .skip
 (.exit 0)))
 (j (.block 1 (j (y d6r9)
 (.block 2 (.loop (j (j (y abU)
 (.cond (.tmp 44) .skip
 (.exit 2)))
 (j (.block 3 (j (y SK)
 (.cond (.tmp 59) (y abV)
 .skip)))
 (y SL)))))))
 (y abW))))))
 (j (y abX)
 .ret))))))))
def MZ:List bN:=[.slot 2]
theorem c6 [Laid]:aQ Tryz.prog 6 80 d6 MZ:=⟨Tryz.f6,by kernel_rfl,by kernel_rfl,by kernel_rfl,by kernel_rfl,by kernel_rfl⟩
end cu
end Go.Proofs
