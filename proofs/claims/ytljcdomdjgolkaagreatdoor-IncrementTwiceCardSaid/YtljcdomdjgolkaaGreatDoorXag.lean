/- Part of the proof. Conditions: none. -/
import Derived.Test.YtljcdomdjgolkaaGreatDoorXaf
import Derived.Test.YtljcdomdjgolkaaGreatDoorXae
import Derived.Test.YtljcdomdjgolkaaGreatDoorXac
import Derived.KernelRfl
set_option linter.unusedSectionVars false
set_option linter.unusedSimpArgs false
set_option linter.unusedVariables false
set_option maxRecDepth 100000
namespace Go.Proofs
open Go.DM
theorem rZ{x:Input}{k:Int}(h:mq x k):HP x/\x.aj.length<=60/\x.insert.length<=5/\(∀c∈x.aj,c.read.length=x.insert.length):=by
 obtain⟨⟨h1,h2⟩,h3,h4⟩:=h;have PQ:ng x.aj x.insert.length:=by
  by_cases e:ng x.aj x.insert.length
  ·exact e
  ·exact absurd (.inr (.inr (.inr (.inr (.inr e))))) h3
 have hc:∀c∈x.aj,yU c x.insert.length:=by
  intro c hc;obtain⟨i,hi,rfl⟩:=ZaY hc;have:=PQ i hi
  rwa [show x.aj.getD i default=x.aj[i]by simp[List.getD,hi]]at this
 have zF:0<=x.swap/\x.swap<=60000:=by
  constructor
  ·by_cases e:x.swap<0
   ·exact absurd (.inr (.inr (.inr (.inl e)))) h3
   ·omega
  ·by_cases e:x.swap>60000
   ·exact absurd (.inr (.inr (.inr (.inr (.inl e))))) h3
   ·omega
 have hn:x.aj.length<=60:=by
  by_cases e:(x.aj.length:Int)>60
  ·exact absurd (.inr (.inl e)) h3
  ·omega
 have Wh:∀c∈x.aj,c.read.length=x.insert.length:=by
  intro c D3;have:=(hc c D3).1;omega
 refine⟨⟨⟨by omega,λc D3=>?_⟩,λc D3=>⟨by rw[Wh c D3];omega,λp hp=>?_⟩,by omega,λp hp=>?_,zF.1,by omega⟩,hn,by omega,Wh⟩
 ·have:=(hc c D3).1;omega
 ·obtain⟨t,ht,rfl⟩:=ZaY hp;have:=(hc c D3).2 t (by rw[Wh c D3]at ht;simpa using ht);unfold nA at this;rw[show c.read.getD t default=c.read[t]by simp[List.getD,ht]]at this;omega
 ·obtain⟨t,ht,rfl⟩:=ZaY hp;have:=h4 t (by simpa using ht);unfold DS at this;rw[show x.insert.getD t default=x.insert[t]by simp[List.getD,ht]]at this;omega
theorem yF{a b:bn}{l:List bn}(h:b∈(eR a l).2):b∈l\/b=a:=by
 have key:∀(l:List bn) (p:Bool×List bn),b∈(l.foldl (dj a) p).2->b∈p.2\/b∈l\/b=a:=by
  intro l;induction l with
  |nil=>intro p h;exact .inl h
  |cons c l ih=>
   intro p h;rcases ih _ h with h|h|h
   ·unfold dj at h;split at h
    ·simp only[Zao,Zah]at h;rcases h with h|h
     ·exact .inl h
     ·split at h
      ·exact .inr (.inr h)
      ·exact .inr (.inl (by simp[h]))
    ·split at h
     ·simp only[Zao,Zah]at h;rcases h with(h|h)|h
      ·exact .inl h
      ·exact .inr (.inr h)
      ·exact .inr (.inl (by simp[h]))
     ·simp only[Zao,Zah]at h;rcases h with h|h
      ·exact .inl h
      ·exact .inr (.inl (by simp[h]))
   ·exact .inr (.inl (by simp[h]))
   ·exact .inr (.inr h)
 rcases key l (false,[]) h with h|h|h
 ·simp at h
 ·exact .inl h
 ·exact .inr h
theorem Vc{a b:bn}{l:List bn}(h:b∈oV l a):b∈l\/b=a:=by
 unfold oV at h;split at h
 ·exact .inl h
 ·split at h
  ·exact yF h
  ·rw[Zao,Zah]at h;rcases h with h|h
   ·exact yF h
   ·exact .inr h
theorem ug{b:bn}:∀(cs l:List bn),b∈bl l cs->b∈l\/b∈cs
 |[],l,h=>.inl h
 |c::cs,l,h=>by
  rcases ug cs (oV l c) h with h|h
  ·rcases Vc h with h|h
   ·exact .inl h
   ·exact .inr (by simp[h])
  ·exact .inr (by simp[h])
theorem dx{α:Type}{f:Nat->List α}{i m:Nat}{a:α}(h:a∈ft f i m):∃k,i<=k/\k<m/\a∈f k:=by
 unfold ft at h;obtain⟨e,he,ha⟩:=ZaU.1 h;rw[ZaP]at he;exact⟨i+e,by omega,by omega,ha⟩
def XQ(n:Nat)(a:bn):Prop:=0<=a.f/\a.f<(2*n+1:Nat)/\0<=a.t/\a.t<(2*n+1:Nat)/\a.ops.length<=1000000/\0<=a.cost
theorem Bt(n:Nat):(dc n).length=n:=by simp[dc]
theorem EV{x:Input}(hx:HP x)(hn:x.aj.length<=60):∀a∈dP x,XQ x.aj.length a:=by
 obtain⟨hd,mA,hins,UW,hsw0,zF⟩:=hx;have Yz:=eC hd;intro a ha;unfold dP at ha;rcases ug _ _ ha with ha|ha
 ·rcases ug _ _ ha with ha|ha
  ·cases ha
  ·obtain⟨i,_,hi,ha⟩:=dx ha;unfold rI at ha;rcases Zao.1 ha with ha|ha
   ·obtain⟨m,wk,D5,ha⟩:=dx ha;unfold rM at ha;rcases Zao.1 ha with ha|ha
    ·obtain⟨t,_,ht,ha⟩:=dx ha;unfold rA at ha;split at ha
     ·rename_i hc;rw[Zah]at ha;subst ha;have:=uG (Yz i m).1 hc.2;refine⟨by simp only;omega,by simp only;omega,by simp only;omega,by simp only;omega,by simp[Bt];omega,this⟩
     ·cases ha
    ·unfold rS at ha;split at ha
     ·rename_i hc;have zX:m+1<x.aj.length:=by simp[bX]at hc;exact hc.1
      rw[Zah]at ha;subst ha;have:=uG (Yz i m).1 hsw0;refine⟨by simp only;omega,by simp only;omega,by simp only;omega,by simp only;omega,by simp[Bt];omega,this⟩
     ·cases ha
   ·unfold rT at ha;split at ha
    ·rename_i hc;have zX:i+1<x.aj.length:=by simp[bX]at hc;exact hc.1
     rw[Zah]at ha;subst ha;refine⟨by simp only;omega,by simp only;omega,by simp only;omega,by simp only;omega,by simp,by simp⟩
    ·cases ha
 ·obtain⟨i,_,hi,ha⟩:=dx ha;unfold iI at ha;obtain⟨m,wk,D5,ha⟩:=dx ha;unfold iM at ha;obtain⟨t,_,ht,ha⟩:=dx ha;unfold iT at ha;rw[Zah]at ha;subst ha;have:=uG (Yz i m).1 (UW (x.insert.getD t default) (by simp[List.getD,ht])).1;refine⟨by simp only;omega,by simp only;omega,by simp only;omega,by simp only;omega,by simp[Bt];omega,this⟩
theorem Jo(x:Input)(k:Nat):(dS x k).length=2*x.aj.length+1:=by simp[dS]
theorem xV{x:Input}(ht:x.insert.length<=100)(hn:x.aj.length<=60):(dP x).length<=900000:=by
 unfold dP;have h1:=il (ft (iI x) 0 (x.aj.length+1)) (bl [] (ft (rI x) 0 (x.aj.length+1)));have h2:=il (ft (rI x) 0 (x.aj.length+1)) [];have h3:=lL (f:=iI x) (B:=7000) (λk=>Vb x k ht hn) 0 (x.aj.length+1);have h4:=lL (f:=rI x) (B:=7000) (λk=>U9 x k ht hn) 0 (x.aj.length+1);simp at h2;omega
end Go.Proofs
namespace Go.Proofs
open Go.DM Go.DM.NF
theorem sameKey_iff{a b:bn}:sameKey a b=true↔a.f=b.f/\a.t=b.t/\a.term=b.term:=by simp[sameKey]
theorem DL(a:bn):sameKey a a=true:=by simp[sameKey]
theorem jJ(a b:bn):sameKey a b=sameKey b a:=by
 simp only[sameKey,decide_eq_decide];omega
theorem oU{a b:bn}(h:sameKey a b=true)(k:bn):sameKey k a=sameKey k b:=by
 rw[sameKey_iff]at h;simp only[sameKey,decide_eq_decide];omega
theorem before_irrefl(a:bn):¬before a a:=by unfold before;omega
theorem before_trans{a b c:bn}(h:before a b)(h2:before b c):before a c:=by unfold before at*;omega
theorem DN{a b:bn}(h:before a b):¬before b a:=by unfold before at*;omega
theorem zx{a b:bn}(h:before a b):sameKey a b=false:=by
 cases e:sameKey a b with
 |false=>rfl
 |true=>rw[sameKey_iff]at e;unfold before at h;omega
theorem zy{a b:bn}(h1:sameKey a b=false)(h2:¬before a b):before b a:=by
 have:¬(a.f=b.f/\a.t=b.t/\a.term=b.term):=λe=>by rw[sameKey_iff.2 e]at h1;cases h1
 unfold before at*;omega
theorem FW{a b c:bn}(h:sameKey a b=true)(h2:before a c):before b c:=by
 rw[sameKey_iff]at h;unfold before at*;omega
def fL(k:bn)(o:Option bn)(a:bn):Option bn:=
 if a.cost<1099511627776/\sameKey k a=true then
  match o with
  |none=>some a
  |some b=>if a.cost<b.cost then some a else some b
 else o
def Ji(a:bn):List bn->List bn
 |[]=>[a]
 |b::l=>if sameKey a b=true then(if a.cost<b.cost then a else b)::l else b::Ji a l
theorem WA{a:bn}(h:a.cost<1099511627776)(al:List bn):tt al a=Ji a al:=by
 unfold tt;rw[if_pos h];induction al with
 |nil=>simp[Ji]
 |cons b l ih=>
  rw[Za3];unfold Ji;cases e:sameKey a b with
  |true=>simp;split<;>rfl
  |false=>
   simp;rw[<-ih];cases hf:l.findIdx? (sameKey a)with
   |none=>simp
   |some i=>simp;split<;>rfl
theorem Ct(k a:bn):∀l:List bn,(Ji a l).find? (sameKey k)=if sameKey k a=true then(match l.find? (sameKey k)with|none=>some a|some b=>if a.cost<b.cost then some a else some b)else l.find? (sameKey k)
 |[]=>by unfold Ji;rw[ZaM];cases sameKey k a<;>simp
 |b::l=>by
  unfold Ji;split
  ·rename_i e;have h1:=oU e k;have h2:sameKey k (if a.cost<b.cost then a else b)=sameKey k b:=by split<;>simp[h1]
   rw[ZaM,ZaM,h2,h1];cases h3:sameKey k b with
   |true=>simp;split<;>rfl
   |false=>simp
  ·rename_i e;rw[ZaM,ZaM];cases h3:sameKey k b with
   |true=>
    have:sameKey k a=false:=by
     cases h4:sameKey k a with
     |false=>rfl
     |true=>
      exfalso;apply e;rw[sameKey_iff]at h3 h4⊢;omega
    simp[this]
   |false=>simp only[];exact Ct k a l
theorem FX(k:bn)(cs:List bn):∀al:List bn,(bS al cs).find? (sameKey k)=cs.foldl (fL k) (al.find? (sameKey k)):=by
 induction cs with
 |nil=>intro al;rfl
 |cons c cs ih=>
  intro al;show(bS (tt al c) cs).find? (sameKey k)=_;rw[ih,ZaB]
  congr 1
  by_cases hc:c.cost<1099511627776
  ·rw[WA hc,Ct];unfold fL;simp[hc]
  ·unfold tt fL;rw[if_neg hc,if_neg (λe=>hc e.1)]
def uC(a:bn):List bn->List bn
 |[]=>[a]
 |b::l=>if sameKey b a=true then(if a.cost<b.cost then a else b)::l else if before a b then a::b::l else b::uC a l
theorem uD(a:bn)(l acc:List bn):l.foldl (dj a) (true,acc)=(true,acc++l):=by
 induction l generalizing acc with
 |nil=>simp
 |cons b l ih=>simp only[ZaB,dj];simp[ih]
def DO(a:bn)(p:Bool×List bn):List bn:=if p.1=true then p.2 else p.2++[a]
theorem xQ(a:bn):∀(l acc:List bn),DO a (l.foldl (dj a) (false,acc))=acc++uC a l
 |[],acc=>by simp[uC,DO]
 |b::l,acc=>by
  rw[ZaB];unfold uC;by_cases h1:sameKey b a=true
  ·have:dj a (false,acc) b=(true,acc++[if a.cost<b.cost then a else b]):=by simp[dj,h1]
   rw[this,uD];simp[h1,DO]
  ·by_cases h2:before a b
   ·have:dj a (false,acc) b=(true,acc++[a]++[b]):=by simp[dj,h1,h2]
    rw[this,uD];simp[h1,h2,DO]
   ·have:dj a (false,acc) b=(false,acc++[b]):=by simp[dj,h1,h2]
    rw[this,xQ a l];simp[h1,h2]
theorem L8{a:bn}(h:a.cost<1099511627776)(l:List bn):oV l a=uC a l:=by
 unfold oV;rw[if_neg (by omega)];have:=xQ a l [];simp only[ZaK]at this;exact this
theorem FY{a c:bn}:∀{l:List bn},c∈uC a l->c=a\/c∈l
 |[],h=>by simp[uC]at h;exact .inl h
 |b::l,h=>by
  unfold uC at h;split at h
  ·rcases Zag.1 h with h|h
   ·split at h
    ·exact .inl h
    ·exact .inr (by simp[h])
   ·exact .inr (by simp[h])
  ·split at h
   ·rcases Zag.1 h with h|h
    ·exact .inl h
    ·exact .inr h
   ·rcases Zag.1 h with h|h
    ·exact .inr (by simp[h])
    ·rcases FY h with h|h
     ·exact .inl h
     ·exact .inr (by simp[h])
theorem xR{a:bn}:∀{l:List bn},l.Pairwise before->(uC a l).Pairwise before
 |[],_=>by simp[uC]
 |b::l,h=>by
  rw[ZaL]at h;unfold uC;split
  ·rename_i e;rw[ZaL];refine⟨λc hc=>?_,h.2⟩;split
   ·exact FW e (h.1 c hc)
   ·exact h.1 c hc
  ·rename_i e;split
   ·rename_i e2;rw[ZaL];refine⟨λc hc=>?_,ZaL.2 h⟩;rcases Zag.1 hc with rfl|hc
    ·exact e2
    ·exact before_trans e2 (h.1 c hc)
   ·rename_i e2;rw[ZaL];refine⟨λc hc=>?_,xR h.2⟩;rcases FY hc with rfl|hc
    ·exact zy (by rw[jJ];simpa using e) e2
    ·exact h.1 c hc
theorem Cu(k a:bn):∀l:List bn,l.Pairwise before->(uC a l).find? (sameKey k)=if sameKey k a=true then(match l.find? (sameKey k)with|none=>some a|some b=>if a.cost<b.cost then some a else some b)else l.find? (sameKey k)
 |[],_=>by unfold uC;rw[ZaM];cases sameKey k a<;>simp
 |b::l,h=>by
  rw[ZaL]at h;unfold uC;split
  ·rename_i e;rw[jJ]at e;have h1:=oU e k;have h2:sameKey k (if a.cost<b.cost then a else b)=sameKey k b:=by split<;>simp[h1]
   rw[ZaM,ZaM,h2,h1];cases h3:sameKey k b with
   |true=>simp;split<;>rfl
   |false=>simp
  ·rename_i e;split
   ·rename_i e2;rw[ZaM];cases h3:sameKey k a with
    |true=>
     have:(b::l).find? (sameKey k)=none:=by
      rw[Zcx];intro c hc hk;have hb:before a c:=by
       rcases Zag.1 hc with rfl|hc
       ·exact e2
       ·exact before_trans e2 (h.1 c hc)
      have:=zx hb;rw[sameKey_iff]at h3 hk;rw[sameKey_iff.2 (by omega)]at this;cases this
     rw[this];rfl
    |false=>rfl
   ·rename_i e2;rw[ZaM,ZaM];cases h3:sameKey k b with
    |true=>
     have:sameKey k a=false:=by
      cases h4:sameKey k a with
      |false=>rfl
      |true=>
       exfalso;apply e;rw[sameKey_iff]at h3 h4⊢;omega
     simp[this]
    |false=>simp only[];exact Cu k a l h.2
theorem xS{l:List bn}(h:l.Pairwise before)(a:bn):(oV l a).Pairwise before:=by
 by_cases hc:a.cost<1099511627776
 ·rw[L8 hc];exact xR h
 ·unfold oV;rw[if_pos (by omega)];exact h
theorem sV(cs:List bn):∀{al:List bn},al.Pairwise before->(bl al cs).Pairwise before:=by
 induction cs with
 |nil=>intro al h;exact h
 |cons c cs ih=>intro al h;exact ih (xS h c)
theorem qu(k:bn)(cs:List bn):∀{al:List bn},al.Pairwise before->(bl al cs).find? (sameKey k)=cs.foldl (fL k) (al.find? (sameKey k)):=by
 induction cs with
 |nil=>intro al h;rfl
 |cons c cs ih=>
  intro al h;show(bl (oV al c) cs).find? (sameKey k)=_;rw[ih (xS h c),ZaB]
  congr 1
  by_cases hc:c.cost<1099511627776
  ·rw[L8 hc,Cu k c al h];unfold fL;simp[hc]
  ·unfold oV fL;rw[if_pos (by omega),if_neg (λe=>hc e.1)]
theorem mo:∀{l:List bn},l.Pairwise (λa b=>sameKey a b=false)->∀a,a∈l↔l.find? (sameKey a)=some a
 |[],_,a=>by simp
 |b::l,h,a=>by
  rw[ZaL]at h;rw[ZaM,Zag];cases e:sameKey a b with
  |true=>
   simp only[Zaa];constructor
   ·rintro(h2|h2)
    ·exact h2.symm
    ·have:=h.1 a h2;rw[jJ,e]at this;cases this
   ·exact λh2=>.inl h2.symm
  |false=>
   rw[<-mo h.2 a];constructor
   ·rintro(h2|h2)
    ·subst h2;rw[DL]at e;cases e
    ·exact h2
   ·exact .inr
theorem zz:∀{l1 l2:List bn},l1.Pairwise before->l2.Pairwise before->(∀a,a∈l1↔a∈l2)->l1=l2
 |[],[],_,_,_=>rfl
 |[],b::t,_,_,h=>absurd ((h b).2 (by simp)) (by simp)
 |a::t,[],_,_,h=>absurd ((h a).1 (by simp)) (by simp)
 |a::t1,b::t2,h1,h2,h=>by
  rw[ZaL]at h1 h2;have e:a=b:=by
   have ha:=(h a).1 (by simp);have hb:=(h b).2 (by simp);rcases Zag.1 ha with ha|ha
   ·exact ha
   ·rcases Zag.1 hb with hb|hb
    ·exact hb.symm
    ·exact absurd (h1.1 b hb) (DN (h2.1 a ha))
  subst e
  congr 1
  refine zz h1.2 h2.2 λx=>?_;constructor
  ·intro hx;rcases Zag.1 ((h x).1 (by simp[hx]))with e|e
   ·subst e;exact absurd (h1.1 x hx) (before_irrefl x)
   ·exact e
  ·intro hx;rcases Zag.1 ((h x).2 (by simp[hx]))with e|e
   ·subst e;exact absurd (h2.1 x hx) (before_irrefl x)
   ·exact e
theorem qw{l:List bn}(h:l.Pairwise before):l.Pairwise (λa b=>sameKey a b=false):=h.imp zx
theorem nodup_keys{l:List bn}(h:(l.map bW).Nodup):l.Pairwise (λa b=>sameKey a b=false):=by
 unfold List.Nodup at h;rw[Zch]at h;refine h.imp λ{a b} Yu=>?_;cases e:sameKey a b with
 |false=>rfl
 |true=>exact absurd (oW.2 e) Yu
theorem Cv{α:Type}(lt:α->α->Bool)(x:α):∀l:List α,(oa lt x l).Perm (x::l)
 |[]=>ZcP _
 |y::ys=>by
  simp only[oa];split
  ·exact((Cv lt x ys).cons y).trans (List.Perm.swap x y ys)
  ·exact ZcP _
theorem FZ{α:Type}(lt:α->α->Bool)(l:List α):(iY lt l).Perm l:=by
 have key:∀(l acc:List α),(l.foldl (λacc x=>oa lt x acc) acc).Perm (l++acc):=by
  intro l;induction l with
  |nil=>intro acc;exact ZcP _
  |cons x l ih=>
   intro acc;rw[ZaB];refine(ih _).trans ?_;refine((Cv lt x acc).append_left l).trans ?_;exact List.perm_middle
 unfold iY zA;refine(List.reverse_perm _).trans ?_;simpa using key l []
theorem tu{al:List bn}(h:(al.map bW).Nodup){a:bn}(ha:a∈al):oe al (bW a)=a:=by
 have h1:=(rW ha).1;have h2:=(rW ha).2.1;have h3:=(mo (nodup_keys h) a).1 ha;have h4:=(mo (nodup_keys h) _).1 h2;have e:sameKey (oe al (bW a))=sameKey a:=by
  funext b;rw[jJ _ b,jJ _ b];exact(oU h1 b).symm
 rw[e,h3]at h4;exact(ZbK h4).symm
theorem DP{al:List bn}(h:(al.map bW).Nodup)(a:bn):a∈iZ al↔a∈al:=by
 unfold iZ;rw[Zal];constructor
 ·rintro⟨r,hr,rfl⟩;rw[rX]at hr;obtain⟨b,hb,rfl⟩:=Zal.1 hr;exact(rW hb).2.1
 ·intro ha;exact⟨bW a,by rw[rX];exact Zal.2 ⟨a,ha,rfl⟩,tu h ha⟩
theorem yT{al:List bn}(h:(al.map bW).Nodup):(iZ al).Pairwise before:=by
 unfold iZ;rw[Zch];have h1:(iY (wy dw) (al.map bW)).Nodup:=(FZ _ _).symm.nodup h;have h2:=oX F1 (al.map bW);unfold tw at h2;unfold List.Nodup at h1;refine(h1.and h2).imp_of_mem λ{r s} hr hs jH=>?_;rw[rX]at hr hs;obtain⟨a,ha,rfl⟩:=Zal.1 hr;obtain⟨b,hb,rfl⟩:=Zal.1 hs;rw[tu h ha,tu h hb];have h3:sameKey a b=false:=by
  cases e:sameKey a b with
  |false=>rfl
  |true=>exact absurd (oW.2 e) jH.1
 by_cases kU:before a b
 ·exact kU
 ·exfalso;have h4:=zy h3 kU;have h5:=jH.2;rw[rY]at h5;apply h5;simp only[bW,ja,cX,WB,List.getD_cons_zero,List.getD_cons_succ];exact h4
end Go.Proofs
namespace Go.Proofs
open Go.DM Go.DM.NF
def pK(k a:bn):Bool:=sameKey k a&&decide (a.cost<1099511627776)
theorem fold_filter(k:bn)(cs:List bn):∀o,cs.foldl (fL k) o=(cs.filter (pK k)).foldl (fL k) o:=by
 induction cs with
 |nil=>intro o;rfl
 |cons c cs ih=>
  intro o;rw[ZaB,Za7,ih];split
  ·rfl
  ·rename_i h
   congr 1
   unfold fL;rw[if_neg];rintro⟨h1,h2⟩;apply h;simp[pK,h1,h2]
theorem qx{α β:Type}(p:β->Bool)(f:α->List β)(l:List α):(l.flatMap f).filter p=l.flatMap λa=>(f a).filter p:=by
 induction l with
 |nil=>rfl
 |cons a l ih=>simp[Zbo,List.filter_append,ih]
theorem ku{p:bn->Bool}{f:Nat->List bn}{i:Nat}(k0:Nat)(h:∀k,k≠k0->(f k).filter p=[]):∀m,(ft f i m).filter p=if i<=k0/\k0<m then(f k0).filter p else []:=by
 intro m;by_cases him:m<=i
 ·rw[show ft f i m=[]by unfold ft;rw[show m-i=0 by omega];rfl,if_neg (by omega)];rfl
 obtain⟨d,rfl⟩:∃d,m=i+d:=⟨m-i,by omega⟩;clear him;induction d with
 |zero=>rw[ZbI,tz,if_neg (by omega)];rfl
 |succ d ih=>
  rw[<-Nat.add_assoc,oY f (by omega),List.filter_append,ih];by_cases e:i+d=k0
  ·rw[if_neg (by omega),if_pos (by omega),e];rfl
  ·rw[h _ e];by_cases e2:i<=k0/\k0<i+d
   ·rw[if_pos e2,if_pos (by omega)];simp
   ·rw[if_neg e2,if_neg (by omega)];rfl
theorem filter_none{p:bn->Bool}{l:List bn}(h:∀a∈l,p a=false):l.filter p=[]:=by
 rw[List.filter_eq_nil_iff];intro a ha;simp[h a ha]
theorem jK{k a:bn}(h:¬(k.f=a.f/\k.t=a.t/\k.term=a.term)):pK k a=false:=by
 have:sameKey k a=false:=by
  cases e:sameKey k a with
  |false=>rfl
  |true=>exact absurd (sameKey_iff.1 e) h
 simp[pK,this]
theorem Jj{k:bn}{f t x c d:Int}{o:List (Int×Int)}(hc:0<=c)(hd:0<=d):[(⟨f,t,x,c+d,o⟩:bn)].filter (pK k)=[(⟨f,t,x,jF c d,o⟩:bn)].filter (pK k):=by
 by_cases h:c+d<1099511627776
 ·have:jF c d=c+d:=by unfold jF;rw[if_neg (by omega)]
  rw[this]
 ·have:jF c d=1099511627776:=by unfold jF;rw[if_pos (by omega)]
  rw[this];have h1:pK k ⟨f,t,x,c+d,o⟩=false:=by simp[pK,h]
  have h2:pK k ⟨f,t,x,1099511627776,o⟩=false:=by simp[pK]
  simp[h1,h2]
theorem Cw{read:List Int}{i m cost:Int}{ops:List (Int×Int)}{n:Nat}{a:bn}(h:a∈kh read i m cost ops n):∃t:Nat,t<n/\0<=read.getD t 0/\a=⟨2*i,2*m+2,t,cost+read.getD t 0,ops++[(1,(t:Int))]⟩:=by
 unfold kh at h;rw[ZaU]at h;obtain⟨t,ht,h⟩:=h;rw[ZaP]at ht;split at h
 ·rw[Zah]at h;exact⟨t,ht,by assumption,h⟩
 ·simp at h
theorem PL{ins:List Int}{i m cost:Int}{ops:List (Int×Int)}{n:Nat}{a:bn}(h:a∈qy ins i m cost ops n):∃t:Nat,t<n/\a=⟨2*i,2*m,(t:Int),cost+ins.getD t 0,ops++[(3,(t:Int))]⟩:=by
 unfold qy at h;rw[Zal]at h;obtain⟨t,ht,h⟩:=h;rw[ZaP]at ht;exact⟨t,ht,h.symm⟩
def zB(x:Input)(i m:Nat):List bn:=if bX x m then [⟨2*i,2*m+1,(x.aj.getD (m+1) default).kind,fU x i m+x.swap,dc (m-i)++[(4,0)]⟩]else []
theorem Cx{x:Input}{i m:Nat}{a:bn}(h:a∈zB x i m):bX x m=true/\a=⟨2*i,2*m+1,(x.aj.getD (m+1) default).kind,fU x i m+x.swap,dc (m-i)++[(4,0)]⟩:=by
 unfold zB at h;split at h
 ·exact⟨by assumption,by simpa using h⟩
 ·simp at h
theorem PM{x:Input}{i m:Nat}{a:bn}(h:a∈rS x i m):bX x m=true/\a.f=2*i/\a.t=2*m+1:=by
 unfold rS at h;split at h
 ·simp at h;subst h;exact⟨by assumption,rfl,rfl⟩
 ·simp at h
theorem zC{x:Input}{i:Nat}{a:bn}(h:a∈rT x i):bX x i=true/\a=⟨2*i+1,2*i+4,(x.aj.getD i default).kind,0,[]⟩:=by
 unfold rT at h;split at h
 ·exact⟨by assumption,by simpa using h⟩
 ·simp at h
theorem Jk{x:Input}{i m t:Nat}{a:bn}(h:a∈rA x i m t):m<x.aj.length/\a.f=2*i/\a.t=2*m+2/\a.term=t:=by
 unfold rA at h;split at h
 ·rename_i h2;simp at h;subst h;exact⟨h2.1,rfl,rfl,rfl⟩
 ·simp at h
theorem mem_iT{x:Input}{i m t:Nat}{a:bn}(h:a∈iT x i m t):a.f=2*i/\a.t=2*m/\a.term=t:=by
 simp[iT]at h;subst h;exact⟨rfl,rfl,rfl⟩
theorem F2(x:Input)(i:Nat):qz x i=ft (pQ x i) i (x.aj.length+1)++rT x i:=rfl
theorem NG{x:Input}{i m:Nat}{a:bn}(h:a∈pQ x i m):(i<m/\a∈xT x i (m-1))\/a∈qy x.insert i m (fU x i m) (dc (m-i)) x.insert.length\/a∈zB x i m:=by
 unfold pQ at h;rw[Zao,Zao]at h;rcases h with h|h|h
 ·split at h
  ·exact .inl ⟨by assumption,h⟩
  ·simp at h
 ·exact .inr (.inl h)
 ·exact .inr (.inr h)
theorem DQ{x:Input}{i m:Nat}{a:bn}(h:a∈pQ x i m):a.f=2*i/\(a.t=2*m\/a.t=2*m+1):=by
 rcases NG h with⟨h1,h⟩|h|h
 ·obtain⟨t,_,_,rfl⟩:=Cw h;exact⟨rfl,.inl (by simp only;omega)⟩
 ·obtain⟨t,_,rfl⟩:=PL h;exact⟨rfl,.inl rfl⟩
 ·obtain⟨_,rfl⟩:=Cx h;exact⟨rfl,.inr rfl⟩
theorem WC{x:Input}{i:Nat}{a:bn}(h:a∈qz x i):a.f=2*i\/a.f=2*i+1:=by
 rw[F2,Zao]at h;rcases h with h|h
 ·obtain⟨m,_,_,h⟩:=dx h;exact .inl (DQ h).1
 ·obtain⟨_,rfl⟩:=zC h;exact .inr rfl
theorem WD{x:Input}{i m:Nat}{a:bn}(h:a∈rM x i m):a.f=2*i/\(a.t=2*m+2/\m<x.aj.length\/a.t=2*m+1):=by
 unfold rM at h;rw[Zao]at h;rcases h with h|h
 ·obtain⟨t,_,_,h⟩:=dx h;have:=Jk h;exact⟨this.2.1,.inl ⟨this.2.2.1,this.1⟩⟩
 ·have:=PM h;exact⟨this.2.1,.inr this.2.2⟩
theorem rI_f{x:Input}{i:Nat}{a:bn}(h:a∈rI x i):a.f=2*i\/a.f=2*i+1:=by
 unfold rI at h;rw[Zao]at h;rcases h with h|h
 ·obtain⟨m,_,_,h⟩:=dx h;exact .inl (WD h).1
 ·obtain⟨_,rfl⟩:=zC h;exact .inr rfl
theorem WE{x:Input}{i m:Nat}{a:bn}(h:a∈iM x i m):a.f=2*i/\a.t=2*m:=by
 unfold iM at h;obtain⟨t,_,_,h⟩:=dx h;have:=mem_iT h;exact⟨this.1,this.2.1⟩
theorem iI_f{x:Input}{i:Nat}{a:bn}(h:a∈iI x i):a.f=2*i:=by
 unfold iI at h;obtain⟨m,_,_,h⟩:=dx h;exact(WE h).1
def nnX(x:Input):Prop:=(∀p∈x.insert,0<=p)/\0<=x.swap
theorem F3{x:Input}(hn:nnX x)(hd:nf x.aj)(k:bn)(i m:Nat):(zB x i m).filter (pK k)=(rS x i m).filter (pK k):=by
 unfold zB rS;split
 ·exact Jj (eC hd i m).1 hn.2
 ·rfl
theorem F4{x:Input}(hd:nf x.aj)(hr:∀c∈x.aj,c.read.length=x.insert.length)(k:bn){i m:Nat}(hm:m<x.aj.length):(xT x i m).filter (pK k)=(ft (rA x i m) 0 x.insert.length).filter (pK k):=by
 have hc:(x.aj.getD m default).read.length=x.insert.length:=hr _ (by simp[List.getD,hm]);unfold xT kh ft;rw[hc,qx,qx,Zb1]
 congr 1
 funext t;rw[ZaX];unfold rA lG;have hcol:(default:Int)=0:=rfl;rw[hcol];by_cases h:0<=(x.aj.getD m default).read.getD t 0
 ·rw[if_pos h,if_pos ⟨hm,h⟩];exact Jj (eC hd i m).1 h
 ·rw[if_neg h,if_neg (λe=>h e.2)]
theorem zD{x:Input}(hn:nnX x)(hd:nf x.aj)(k:bn)(i m:Nat):(qy x.insert i m (fU x i m) (dc (m-i)) x.insert.length).filter (pK k)=(iM x i m).filter (pK k):=by
 unfold qy iM ft;rw[qx,Zb1];have:∀l:List Nat,(∀t∈l,t<x.insert.length)->(l.map λ(t:Nat)=>(⟨2*i,2*m,(t:Int),fU x i m+x.insert.getD t 0,dc (m-i)++[(3,(t:Int))]⟩:bn)).filter (pK k)=l.flatMap λt=>(iT x i m (0+t)).filter (pK k):=by
  intro l;induction l with
  |nil=>intro _;rfl
  |cons t l ih=>
   intro ht;rw[Zau,Zbo,<-ih λt h=>ht t (by simp[h])];have e:iT x i m (0+t)=[⟨2*i,2*m,t,jF (fU x i m) (x.insert.getD t default),dc (m-i)++[(3,(t:Int))]⟩]:=by rw[ZaX];rfl
   have DR:=ht t (by simp);have hp:0<=x.insert.getD t 0:=hn.1 _ (by simp[List.getD,DR]);rw[e,<-List.singleton_append (l:=List.map _ l),List.filter_append]
   congr 1
   exact Jj (eC hd i m).1 hp
 exact this _ λt ht=>ZaP.1 ht
theorem Jl{x:Input}(hn:nnX x)(hd:nf x.aj)(hr:∀c∈x.aj,c.read.length=x.insert.length)(k:bn):
  (uE x (x.aj.length+1)).filter (pK k)=(ft (rI x) 0 (x.aj.length+1)++ft (iI x) 0 (x.aj.length+1)).filter (pK k):=by
 have e1:uE x (x.aj.length+1)=ft (qz x) 0 (x.aj.length+1):=by simp[uE,ft]
 obtain⟨n,hN⟩:∃n,x.aj.length=n:=⟨_,rfl⟩;rw[e1,List.filter_append];have out:∀(f:Nat->List bn),(∀i,∀a∈f i,a.f=2*i\/a.f=2*i+1)->∀j,j≠(k.f/2).toNat->(f j).filter (pK k)=[]:=by
  intro f hf j hj;refine filter_none λa ha=>jK λe=>hj ?_;have:=hf j a ha;omega
 rw[ku _ (out _ λi a=>WC),ku _ (out _ λi a=>rI_f),ku _ (out _ λi a h=>.inl (iI_f h))];obtain⟨i,hi⟩:∃i,(k.f/2).toNat=i:=⟨_,rfl⟩;rw[hi];by_cases qa:0<=i/\i<x.aj.length+1
 case neg=>rw[if_neg qa,if_neg qa,if_neg qa];rfl
 rw[if_pos qa,if_pos qa,if_pos qa];rw[F2];unfold rI iI;rw[List.filter_append,List.filter_append];by_cases hodd:k.f=2*i
 case neg=>
  have h1:(ft (pQ x i) i (x.aj.length+1)).filter (pK k)=[]:=filter_none λa ha=>jK λe=>by
   obtain⟨m,_,_,h⟩:=dx ha;have:=(DQ h).1;omega
  have h2:(ft (rM x i) i (x.aj.length+1)).filter (pK k)=[]:=filter_none λa ha=>jK λe=>by
   obtain⟨m,_,_,h⟩:=dx ha;have:=(WD h).1;omega
  have h3:(ft (iM x i) i (x.aj.length+1)).filter (pK k)=[]:=filter_none λa ha=>jK λe=>by
   obtain⟨m,_,_,h⟩:=dx ha;have:=(WE h).1;omega
  rw[h1,h2,h3];simp
 have hT:(rT x i).filter (pK k)=[]:=filter_none λa ha=>jK λe=>by
  obtain⟨_,rfl⟩:=zC ha;simp only at e;omega
 rw[hT,ZaJ,ZaJ];have outC:∀m,m≠(k.t/2).toNat->(pQ x i m).filter (pK k)=[]:=λm hm=>filter_none λa ha=>jK λe=>by
  have:=(DQ ha).2;omega
 have outI:∀m,m≠(k.t/2).toNat->(iM x i m).filter (pK k)=[]:=λm hm=>filter_none λa ha=>jK λe=>by
  have:=(WE ha).2;omega
 rw[ku _ outC,ku _ outI];obtain⟨m,hm⟩:∃m,(k.t/2).toNat=m:=⟨_,rfl⟩;rw[hm]at outC outI⊢;have Yv:(pQ x i m).filter (pK k)=(if i<m then xT x i (m-1)else []).filter (pK k)++((qy x.insert i m (fU x i m) (dc (m-i)) x.insert.length).filter (pK k)++(zB x i m).filter (pK k)):=by
  rw[<-List.filter_append,<-List.filter_append];rfl
 by_cases hev:k.t=2*m
 ·
  have zF:(zB x i m).filter (pK k)=[]:=filter_none λa ha=>jK λe=>by
   obtain⟨_,rfl⟩:=Cx ha;simp only at e;omega
  have outR:∀j,j≠(if m=0 then n+1 else m-1)->(rM x i j).filter (pK k)=[]:=λj hj=>filter_none λa ha=>jK λe=>by
   have:=(WD ha).2;split at hj<;>omega
  rw[ku _ outR,Yv,zF,ZaJ,zD hn hd k i m];by_cases WG:m=0
  ·rw[if_pos WG];have h5:¬(i<=n+1/\n+1<x.aj.length+1):=by omega
   have h6:¬i<m:=by omega
   rw[if_neg h5,if_neg h6];simp
  ·rw[if_neg WG];obtain⟨q,rfl⟩:∃q,m=q+1:=⟨m-1,by omega⟩;rw[Zcc];have hrM:(rM x i q).filter (pK k)=(ft (rA x i q) 0 x.insert.length).filter (pK k):=by
    have:(rS x i q).filter (pK k)=[]:=filter_none λa ha=>jK λe=>by
     have:=(PM ha).2.2;omega
    unfold rM;rw[List.filter_append,this,ZaJ]
   by_cases hq:q<x.aj.length
   ·by_cases hiq:i<q+1
    ·rw[if_pos hiq,if_pos ⟨by omega,by omega⟩,if_pos ⟨by omega,by omega⟩,hrM,F4 hd hr k hq];rw[if_pos ⟨by omega,by omega⟩]
    ·rw[if_neg hiq];by_cases hiq2:i=q+1
     ·rw[if_pos ⟨by omega,by omega⟩,if_neg (by omega),if_pos ⟨by omega,by omega⟩];simp
     ·rw[if_neg (by omega),if_neg (by omega),if_neg (by omega)];simp
   ·have hz:(rM x i q).filter (pK k)=[]:=by
     rw[hrM];refine filter_none λa ha=>?_;obtain⟨t,_,_,h⟩:=dx ha;exact absurd (Jk h).1 hq
    rw[hz,if_neg (by omega)];have h5:¬(i<=q+1/\q+1<x.aj.length+1):=by omega
    rw[if_neg h5];simp
 ·
  have outR:∀j,j≠m->(rM x i j).filter (pK k)=[]:=λj hj=>filter_none λa ha=>jK λe=>by
   have:=(WD ha).2;omega
  rw[ku _ outR];have h1:(iM x i m).filter (pK k)=[]:=filter_none λa ha=>jK λe=>by
   have:=(WE ha).2;omega
  have h2:(qy x.insert i m (fU x i m) (dc (m-i)) x.insert.length).filter (pK k)=[]:=by rw[zD hn hd,h1]
  have h3:(if i<m then xT x i (m-1)else []).filter (pK k)=[]:=filter_none λa ha=>jK λe=>by
   split at ha
   ·obtain⟨t,_,_,rfl⟩:=Cw ha;simp only at e;omega
   ·simp at ha
  have h4:(rM x i m).filter (pK k)=(rS x i m).filter (pK k):=by
   have:(ft (rA x i m) 0 x.insert.length).filter (pK k)=[]:=filter_none λa ha=>jK λe=>by
    obtain⟨t,_,_,h⟩:=dx ha;have:=(Jk h).2.2.1;omega
   unfold rM;rw[List.filter_append,this,ZaK]
  rw[Yv,h1,h2,h3,h4,F3 hn hd];simp
theorem nE(x:Input):((jL x).map bW).Nodup:=uF _ (by simp)
theorem gX(x:Input):(dP x).Pairwise before:=sV _ (sV _ List.Pairwise.nil)
theorem Cy{x:Input}(hn:nnX x)(hd:nf x.aj)(hr:∀c∈x.aj,c.read.length=x.insert.length):iZ (jL x)=dP x:=by
 refine zz (yT (nE x)) (gX x) λa=>?_;rw[DP (nE x),mo (nodup_keys (nE x)),mo (qw (gX x))];unfold jL dP;rw[FX,<-cU,qu _ _ List.Pairwise.nil,fold_filter,Jl hn hd hr,<-fold_filter]
theorem PN(x:Input):wA x=dS x (2*x.aj.length+1):=by
 unfold wA dS;apply Zbq;intro s hs;rw[ZaP]at hs;rw[if_pos hs]
theorem Jm{x:Input}(hn:nnX x)(hd:nf x.aj)(hr:∀c∈x.aj,c.read.length=x.insert.length):iR x=aH x:=by
 unfold iR aH;rw[Cy hn hd hr,PN]
theorem NH{x:Input}{k:Int}(h:mq x k):iR x=aH x:=by
 obtain⟨h1,h2,h3,h4⟩:=rZ h;exact Jm ⟨λp hp=>(h1.2.2.2.1 p hp).1,h1.2.2.2.2.1⟩ h1.1 h4
theorem PO(k:bn)(cs:List bn):∀o a,cs.foldl (fL k) o=some a->o=some a\/(a∈cs/\a.cost<1099511627776):=by
 induction cs with
 |nil=>intro o a h;exact .inl h
 |cons c cs ih=>
  intro o a h;rw[ZaB]at h;rcases ih _ _ h with h|⟨h1,h2⟩
  ·unfold fL at h;split at h
   ·rename_i hc;split at h
    ·simp only[Zaa]at h;subst h;exact .inr ⟨by simp,hc.1⟩
    ·split at h
     ·simp only[Zaa]at h;subst h;exact .inr ⟨by simp,hc.1⟩
     ·exact .inl h
   ·exact .inl h
  ·exact .inr ⟨by simp[h1],h2⟩
theorem xU{x:Input}{a:bn}(h:a∈dP x):(a∈ft (rI x) 0 (x.aj.length+1)\/a∈ft (iI x) 0 (x.aj.length+1))/\a.cost<1099511627776:=by
 have h1:=(mo (qw (gX x)) a).1 h;unfold dP at h1;rw[<-cU,qu _ _ List.Pairwise.nil]at h1;rcases PO _ _ _ _ h1 with h2|⟨h2,h3⟩
 ·cases h2
 ·exact⟨Zao.1 h2,h3⟩
theorem NI{x:Input}{k:Int}(h:mq x k):∀c∈x.aj,yU c x.insert.length:=by
 obtain⟨⟨h1,h2⟩,h3,h4⟩:=h;have PQ:ng x.aj x.insert.length:=by
  by_cases e:ng x.aj x.insert.length
  ·exact e
  ·exact absurd (.inr (.inr (.inr (.inr (.inr e))))) h3
 intro c hc;obtain⟨i,hi,rfl⟩:=ZaY hc;have:=PQ i hi
 rwa [show x.aj.getD i default=x.aj[i]by simp[List.getD,hi]]at this
theorem PT{x:Input}{k:Int}(h:mq x k){t:Nat}(ht:t<x.insert.length):1<=x.insert.getD t default:=by
 have:=h.2.2 t (by simpa using ht);unfold DS at this;omega
theorem PU{a b:Int}(ha:0<=a)(hb:1<=b):1<=jF a b:=by unfold jF;split<;>omega
theorem Jn{x:Input}{k:Int}(h:mq x k):∀a∈dP x,F5 (2*x.aj.length+1:Nat) x.insert.length a:=by
 obtain⟨g1,g2,g3,g4⟩:=rZ h;have hc:=NI h;have PV:∀m,m<x.aj.length->(x.aj.getD m default).kind<x.insert.length:=by
  intro m hm;have:=(hc (x.aj.getD m default) (by simp[List.getD,hm])).1;omega
 intro a ha;obtain⟨hm,qA⟩:=xU ha;unfold F5;rcases hm with hm|hm
 ·obtain⟨i,_,hi,hm⟩:=dx hm;unfold rI at hm;rw[Zao]at hm;rcases hm with hm|hm
  ·obtain⟨m,him,Pw,hm⟩:=dx hm;unfold rM at hm;rw[Zao]at hm;rcases hm with hm|hm
   ·obtain⟨t,_,ht,hm⟩:=dx hm;unfold rA at hm;split at hm
    ·rename_i hr;simp only[Zah]at hm;subst hm;have:=uG (eC g1.1 i m).1 hr.2;simp only at qA⊢;omega
    ·simp at hm
   ·unfold rS at hm;split at hm
    ·rename_i hr;simp only[Zah]at hm;subst hm;have:=uG (eC g1.1 i m).1 g1.2.2.2.2.1;unfold bX at hr;rw[decide_eq_true_eq]at hr;have:=PV (m+1) hr.1;simp only at qA⊢;omega
    ·simp at hm
  ·obtain⟨hr,rfl⟩:=zC hm;unfold bX at hr;rw[decide_eq_true_eq]at hr;have:=PV i (by omega);simp only;omega
 ·obtain⟨i,_,hi,hm⟩:=dx hm;unfold iI at hm;obtain⟨m,him,Pw,hm⟩:=dx hm;unfold iM at hm;obtain⟨t,_,ht,hm⟩:=dx hm;simp only[iT,Zah]at hm;subst hm;have:=PU (eC g1.1 i m).1 (PT h ht);simp only at qA⊢;omega
theorem NJ{x:Input}{k:Int}(h:mq x k):qC (aH x) x.insert.length:=by
 obtain⟨g1,g2,g3,g4⟩:=rZ h;have hlen:(aH x).final.length=2*x.aj.length+1:=Jo x _;have lE:(aH x).aN=2*x.aj.length+1:=rfl;refine⟨⟨by omega,by omega⟩,λi hi=>?_,λi hi=>⟨?_, ?_⟩⟩
 ·rw[hlen]at hi;unfold L9;have:(aH x).final.getD i default=if i % 2=0 then fU x (i/2) x.aj.length else 1099511627776:=by
   simp[aH,dS,List.getD,hi]
  rw[this];split
  ·exact eC g1.1 _ _
  ·omega
 ·have:=Jn h ((aH x).aC.getD i default) (by simp only[List.getD,Zan hi,Zbc];exact Zbi hi);rw[lE];simpa using this
 ·by_cases Yw:i=0
  ·exact .inl Yw
  ·right;have hs:=gX x;rw[ZcE]at hs;have:=hs (i-1) i (by show i-1<(aH x).aC.length;omega) hi (by omega);have e1:(aH x).aC.getD (i-1) default=(dP x)[i-1]'(by show i-1<(aH x).aC.length;omega):=by
    simp only[List.getD];rw[Zan (by omega)];rfl
   have e2:(aH x).aC.getD i default=(dP x)[i]'hi:=by
    simp only[List.getD];rw[Zan hi];rfl
   rw[e1,e2];exact this
end Go.Proofs
namespace Go.Proofs
open Go.DM Go.DM.NF
theorem DT(al:List bn):(iZ al).length=al.length:=by simp[iZ,uH]
theorem NK{x:Input}{k:Int}(h:mq x k):(jL x).length<=900000:=by
 obtain⟨h1,h2,h3,h4⟩:=rZ h;rw[<-DT,Cy ⟨λp hp=>(h1.2.2.2.1 p hp).1,h1.2.2.2.2.1⟩ h1.1 h4];exact xV (by omega) h2
theorem Jp{x:Input}{k:Int}(h:mq x k):aT Tryz.prog 32 [x.enc] (aH x).enc:=by
 rw[<-NH h];have:=NK h;exact t12 x (rZ h).1 (by unfold og;omega) (by omega)
end Go.Proofs
namespace Go.Proofs
open Go.DM Go.DM.NF
def wB(x:Input):List bn:=ft (rI x) 0 (x.aj.length+1)++ft (iI x) 0 (x.aj.length+1)
theorem xW(x:Input)(a:bn):a∈dP x↔((wB x).filter (pK a)).foldl (fL a) none=some a:=by
 rw[mo (qw (gX x)) a];unfold dP;rw[<-cU,qu _ _ List.Pairwise.nil,fold_filter];rfl
def intTy:Ty:=.int .i64
theorem O3:maxLen=9223372036854775807:=by decide
theorem XR{α:Type}{enc:α->List T}{rows:List (List T)}(h:∀r∈rows,∃x,r=enc x):∃l:List α,rows=l.map enc:=by
 induction rows with
 |nil=>exact⟨[],rfl⟩
 |cons r rows ih=>
  obtain⟨x,rfl⟩:=h r (Za4 ..);obtain⟨l,rfl⟩:=ih λr hr=>h r (ZaV _ hr);exact⟨x::l,rfl⟩
theorem iU{ts:List T}(h:Ty.has (.int .i64) ts):∃x,ts=[ti x]:=by
 simp only[Ty.has]at h;obtain⟨x,rfl,_⟩:=h;exact⟨x,rfl⟩
theorem rH{α:Type}{enc:α->List T}{e:Ty}{ts:List T}(he:∀r,Ty.has e r->∃x,r=enc x)(h:Ty.has (.slice e) ts):∃l:List α,ts=[.sl (l.map enc)]/\l.length<=9223372036854775807:=by
 simp only[Ty.has]at h;obtain⟨rows,rfl,hl,hr⟩:=h;obtain⟨l,rfl⟩:=XR λr fa=>he r (hr r fa);rw[O3,Zbt]at hl;exact⟨l,rfl,hl⟩
theorem all_cons{t:Ty}{sR:List Ty}{ts:List T}(h:Ty.hasAll (t::sR) ts):∃a b,ts=a++b/\t.has a/\Ty.hasAll sR b:=by simpa only[Ty.hasAll]using h
theorem all_nil{ts:List T}(h:Ty.hasAll [] ts):ts=[]:=by simpa only[Ty.hasAll]using h
theorem EY{fs:List Ty}{ts:List T}(h:Ty.has (.seq fs) ts):Ty.hasAll fs ts:=by simpa only[Ty.has]using h
def TM:Ty:=.seq [.int .i64,.slice intTy,.int .i64]
def Xt:Ty:=.seq [.slice TM,.slice intTy,.int .i64]
theorem TN{ts:List T}(h:TM.has ts):∃r:bC,ts=r.enc:=by
 obtain⟨_,_,rfl,h1,h⟩:=all_cons (EY h);obtain⟨_,_,rfl,h2,h⟩:=all_cons h;obtain⟨_,_,rfl,h3,h⟩:=all_cons h;obtain rfl:=all_nil h;obtain⟨a,rfl⟩:=iU h1;obtain⟨l,rfl,hl⟩:=rH (λr=>iU) h2;obtain⟨c,rfl⟩:=iU h3;exact⟨⟨a,l,c⟩,rfl⟩
end Go.Proofs
namespace Go.Proofs
namespace cu
open Go.DM
def Y0:List RO:=[
 o (.box (t 0)) 2 [],
 o (.box (t 1)) 3 [],
 o (.bP (.cm (.v (.bool false)))) 4 []]
def GK:List RO:=[
 a 0 2 5 [],
 l 5 6 [0],
 a 0 3 7 [],
 l 7 8 [2],
 b .lss 6 8 9 [1,3],
 m 9 10 [4],
 u 0 2 11 10 false [5],
 v 11 12 10 false [6,5],
 u 0 3 13 10 false [5],
 v 13 14 10 false [8,5],
 g (.bin .eql (t 12) (t 14)) 15 10 false [7,9,5],
 w 15 16 10 false [10,5,5],
 u 1 2 17 16 true [11],
 v 17 18 16 true [12,11],
 u 1 3 19 16 true [11],
 v 19 20 16 true [14,11],
 g (.bin .lss (t 18) (t 20)) 21 16 true [13,15,11],
 g (.pick (t 16) (t 21) (.cm (.v (.bool false)))) 22 10 false [11,16,5],
 p 10 22 23 [5,17],
 m 23 4 (k [18,11] 18)]
def d92:DC:=(j (y Y0)
 (j (y GK)
 .ret))
def Q5:List bN:=[.slot 4]
theorem c92 [Laid]:aQ Tryz.prog 92 24 d92 Q5:=⟨Tryz.f92,by kernel_rfl,by kernel_rfl,by kernel_rfl,by kernel_rfl,by kernel_rfl⟩
def Y1:List RO:=[
 o (.alloc [(.v (.int .i64 0)),(.v (.int .i64 0))]) 4 []]
def Y2:List RO:=[
 n 0 8,
 m 8 5 [0,0],
 o (.bP (i 1)) 6 [1,0,1]]
def Y3:List RO:=[
 o (.bP (i 0)) 7 []]
def Y4:List RO:=[
 n 7 9,
 n 1 10,
 o (.len (t 10)) 11 [1],
 b .lss 9 11 12 [0,2]]
def Y5:List RO:=[
 n 5 15,
 n 1 16,
 n 7 17,
 x 2 16 17 18 [1,2],
 a 0 18 19 [3],
 l 19 20 [4],
 b .add 15 20 21 [0,5],
 o (.minmax false (t 21) (i 1099511627776)) 22 [6],
 n 6 23,
 n 1 24,
 n 7 25,
 x 2 24 25 26 [9,10],
 a 1 26 27 [11],
 l 27 28 [12],
 b .add 23 28 29 [8,13],
 o (.minmax false (t 29) (i 1099511627776)) 30 [14],
 m 22 5 (k [7] 7),
 m 30 6 (k [15,16] 16)]
def Y6:List RO:=[
 n 7 13,
 o (.bin .add (t 13) (i 1)) 14 [0],
 m 14 7 [1,0,1]]
def Y7:List RO:=[
 n 5 31,
 o (.bin .geq (t 31) (i 1099511627776)) 32 [0]]
def Y8:List RO:=[
 o (.build [(.v (.int .i64 0)),(.v (.int .i64 0))] [(0,1,(i 1099511627776))]) 33 [],
 S 2 4 33 [0,0]]
def Y9:List RO:=[
 n 5 34,
 n 6 35,
 o (.build [(.v (.int .i64 0)),(.v (.int .i64 0))] [(0,1,(t 34)),(1,1,(t 35))]) 36 [0,1],
 S 2 4 36 [2,0,1,2]]
def d69:DC:=(j (y Y1)
 (j (y Y2)
 (j (j (y Y3)
 (.block 0 (.loop (j (j (y Y4)
 (.cond (.tmp 12) .skip
 (.exit 0)))
 (j (.block 1 (Y Y5))
 (y Y6))))))
 (j (j (y Y7)
 (.cond (.tmp 32) (j (y Y8)
 .ret)
 .skip))
 (j (y Y9)
 .ret)))))
def J6:List bN:=[.cell 4 2 true]
theorem c69 [Laid]:aQ Tryz.prog 69 37 d69 J6:=⟨Tryz.f69,by kernel_rfl,by kernel_rfl,by kernel_rfl,by kernel_rfl,by kernel_rfl⟩
def Za:List RO:=[
 o (.box (t 0)) 2 [],
 o (.bP (.cm .aI)) 4 []]
def Zb:List RO:=[
 o (.bP (.cm .aI)) 5 []]
def Zc:List RO:=[
 o (.bP (i 0)) 6 []]
def Zd:List RO:=[
 n 6 7,
 a 1 2 8 [],
 l 8 9 [1],
 o (.len (t 9)) 10 [2],
 b .lss 7 10 11 [0,3]]
def Ze:List RO:=[
 n 5 14,
 n 1 15,
 a 1 2 16 [],
 l 16 17 [2],
 n 6 18,
 x 1 17 18 19 [3,4],
 l 19 20 [5],
 x 2 15 20 21 [1,6],
 L 2 21 22 [7],
 o (.bslice 1 2 [(.v (.int .i64 0)),(.v (.int .i64 0))] [(0,2,(t 22))]) 23 [8],
 o (.append 55 2 16 (t 14) (t 23)) 24 [0,9],
 m 24 5 (k [10,10] 10)]
def Zf:List RO:=[
 n 6 12,
 o (.bin .add (t 12) (i 1)) 13 [0],
 m 13 6 [1,0,1]]
def Zg:List RO:=[
 n 5 25,
 m 25 4 [0,0]]
def d91:DC:=(j (y Za)
 (j (y Zb)
 (j (j (y Zc)
 (.block 0 (.loop (j (j (y Zd)
 (.cond (.tmp 11) .skip
 (.exit 0)))
 (j (.block 1 (y Ze))
 (y Zf))))))
 (j (y Zg)
 .ret))))
def d91res:List bN:=[.slot 4]
theorem c91 [Laid]:aQ Tryz.prog 91 26 d91 d91res:=⟨Tryz.f91,by kernel_rfl,by kernel_rfl,by kernel_rfl,by kernel_rfl,by kernel_rfl⟩
def Zh:List RO:=[
 o (.box (t 0)) 1 [],
 o (.bP (.cm .aI)) 2 [],
 o (.bP (.cm .aI)) 3 [1]]
def Zi:List RO:=[
 a 0 1 14 [],
 l 14 15 [0],
 o (.mkSlice 55 2 16 [(.int .i64 0),(.int .i64 0)] (t 15)) 16 [1,1],
 m 16 4 [2,0,1,2]]
def Zj:List RO:=[
 a 0 1 17 [],
 l 17 18 [0],
 o (.mkSlice 3 1 8 [(.int .i64 0)] (t 18)) 19 [1,1],
 m 19 5 [2,0,1,2]]
def Zk:List RO:=[
 o (.bP (i 0)) 6 []]
def Zl:List RO:=[
 n 6 20,
 a 0 1 21 [],
 l 21 22 [1],
 b .lss 20 22 23 [0,2]]
def Zm:List RO:=[
 n 4 26,
 n 6 27,
 n 5 28,
 n 6 29,
 o (.build [(.v (.int .i64 0)),(.v (.int .i64 0))] [(0,1,(i 1099511627776))]) 30 [],
 x 2 26 27 31 [0,1,0,1,4],
 S 2 31 30 [5,4,0,1,4],
 x 1 28 29 32 (k [2,3] 6),
 s (.store 1 (t 32) (i (-1))) (k [7,6] 6)]
def Zn:List RO:=[
 n 6 24,
 o (.bin .add (t 24) (i 1)) 25 [0],
 m 25 6 [1,0,1]]
def Zo:List RO:=[
 o (.bP (.cm (.v (.bool true)))) 7 []]
def Zp:List RO:=[
 n 7 33]
def Zq:List RO:=[
 o (.bP (.cm (.v (.bool false)))) 7 []]
def Q6:List RO:=[
 o (.bP (i 0)) 8 []]
def Q7:List RO:=[
 n 8 34,
 a 1 1 35 [],
 l 35 36 [1],
 o (.len (t 36)) 37 [2],
 b .lss 34 37 38 [0,3]]
def Q8:List RO:=[
 a 1 1 41 [],
 l 41 42 [0],
 n 8 43,
 x 5 42 43 44 [1,2],
 L 5 44 45 [3],
 o (.alloc [(.v (.int .i64 0)),.aI,(.v (.int .i64 0)),(.v (.int .i64 0)),(.v (.int .i64 0))]) 9 [],
 S 5 9 45 (k [5,4] 5)]
def EA:List RO:=[
 a 2 9 46 [],
 l 46 47 [0],
 L 5 9 48 [],
 n 4 49,
 o (.callF 91 [(t 48),(t 49)]) 50 [2,3],
 o (.call 69 [(t 47),(t 50)]) 51 [1,4,4],
 o (.alloc [(.v (.int .i64 0)),(.v (.int .i64 0))]) 10 [],
 S 2 10 51 (k [6,5,5] 6)]
def d66r13:List RO:=EA.map bare
def Q9:List RO:=[
 L 2 10 52 [],
 n 4 53,
 a 0 9 54 [],
 l 54 55 [2],
 x 2 53 55 56 [1,3],
 L 2 56 57 [4],
 o (.call 92 [(t 52),(t 57)]) 58 [0,5]]
def Ra:List RO:=[
 n 4 59,
 a 0 9 60 [],
 l 60 61 [1],
 L 2 10 62 [],
 x 2 59 61 63 [0,2,0,1,2,3],
 S 2 63 62 [4,3,0,1,2,3]]
def Rb:List RO:=[
 o (.bP (.cm (.v (.bool true)))) 7 []]
def J7:List RO:=[
 n 8 39,
 o (.bin .add (t 39) (i 1)) 40 [0],
 m 40 8 [1,0,1]]
def Rc:List RO:=[
 a 1 1 64 [],
 l 64 65 [0],
 o (.len (t 65)) 66 [1],
 o (.bin .sub (t 66) (i 1)) 67 [2],
 m 67 11 [3,0,1,2,3]]
def Re:List RO:=[
 n 11 68,
 o (.bin .geq (t 68) (i 0)) 69 [0]]
def Rf:List RO:=[
 a 1 1 72 [],
 l 72 73 [0],
 n 11 74,
 x 5 73 74 75 [1,2],
 L 5 75 76 [3],
 o (.alloc [(.v (.int .i64 0)),.aI,(.v (.int .i64 0)),(.v (.int .i64 0)),(.v (.int .i64 0))]) 12 [],
 S 5 12 76 (k [5,4] 5)]
def Rg:List RO:=[
 n 4 77,
 a 0 12 78 [],
 l 78 79 [1],
 x 2 77 79 80 [0,2],
 L 2 80 81 [3],
 o (.alloc [(.v (.int .i64 0)),(.v (.int .i64 0))]) 13 [],
 S 2 13 81 (k [5,4] 5)]
def vq:List RO:=[
 a 0 13 82 [],
 l 82 83 [0],
 o (.bin .lss (t 83) (i 1099511627776)) 84 [1],
 m 84 85 [2],
 u 2 12 86 85 true [3],
 v 86 87 85 true [4,3],
 g (.load 5 true (t 12)) 88 85 true [3],
 w 4 89 85 true [3],
 g (.callF 91 [(t 88),(t 89)]) 90 85 true [6,7,3,3],
 g (.call 69 [(t 87),(t 90)]) 91 85 true [5,8,8,3],
 g (.load 2 true (t 13)) 92 85 true [3],
 g (.eqT false true [(.int .i64),(.int .i64)] (t 91) (t 92)) 93 85 true [9,10,3],
 q 85 93 94 [3,11]]
def d66r22:List RO:=vq.map bare
def Rh:List RO:=[
 n 5 95,
 a 0 12 96 [],
 l 96 97 [1],
 n 11 98,
 x 1 95 97 99 [0,2,0,1,2,3],
 S 1 99 98 [4,3,0,1,2,3]]
def J8:List RO:=[
 n 11 70,
 o (.bin .sub (t 70) (i 1)) 71 [0],
 m 71 11 [1,0,1]]
def Ri:List RO:=[
 n 4 100,
 n 5 101,
 m 100 2 [0,0],
 m 101 3 [1,2,0,1,2]]
def d66:DC:=(j (y Zh)
 (j (y Zi)
 (j (y Zj)
 (j (j (y Zk)
 (.block 0 (.loop (j (j (y Zl)
 (.cond (.tmp 23) .skip
 (.exit 0)))
 (j (.block 1 (y Zm))
 (y Zn))))))
 (j (j (y Zo)
 (.block 2 (.loop (j (j (y Zp)
 (.cond (.tmp 33) .skip
 (.exit 2)))
 (.block 3 (j (y Zq)
 (j (y Q6)
 (.block 4 (.loop (j (j (y Q7)
 (.cond (.tmp 38) .skip
 (.exit 4)))
 (j (.block 5 (j (y Q8)
 (j (Y d66r13)
 (j (Y Q9)
 (.cond (.tmp 58) (j (y Ra)
 (y Rb))
 .skip)))))
 (y J7))))))))))))
 (j (j (y Rc)
 (.block 6 (.loop (j (j (y Re)
 (.cond (.tmp 69) .skip
 (.exit 6)))
 (j (.block 7 (j (y Rf)
 (j (y Rg)
 (j (Y d66r22)
 (.cond (.tmp 94) (y Rh)
 .skip)))))
 (y J8))))))
 (j (y Ri)
 .ret)))))))
def Rj:List bN:=[.slot 2,.slot 3]
theorem c66 [Laid]:aQ Tryz.prog 66 102 d66 Rj:=⟨Tryz.f66,by kernel_rfl,by kernel_rfl,by kernel_rfl,by kernel_rfl,by kernel_rfl⟩
def Zr:List RO:=[
 o (.box (t 0)) 1 [],
 o (.bP (.cm .aI)) 2 []]
def Zs:List RO:=[
 a 0 1 3 [],
 l 3 4 [0]]
def Zt:List RO:=[
 o (.bin .eql (t 4) (i 3)) 6 [],
 m 6 5 [0]]
def Zu:List RO:=[
 a 2 1 7 [],
 l 7 8 [0],
 o (.bslice 1 1 [(.v (.int .i64 0))] [(0,1,(t 8))]) 9 [1],
 m 9 2 [2,0,1,2]]
def Zv:List RO:=[
 o (.bin .eql (t 4) (i 4)) 11 [],
 m 11 10 [0]]
def Zw:List RO:=[
 a 2 1 12 [],
 l 12 13 [0],
 a 3 1 14 [],
 l 14 15 [2],
 o (.bslice 2 1 [(.v (.int .i64 0)),(.v (.int .i64 0))] [(0,1,(t 13)),(1,1,(t 15))]) 16 [1,3],
 m 16 2 (k [4] 4)]
def Zx:List RO:=[
 o (.bP (.cm .aI)) 2 []]
def d93:DC:=(j (y Zr)
 (j (j (y Zs)
 (.block 0 (j (y Zt)
 (.cond (.tmp 5) (j (y Zu)
 .ret)
 (j (y Zv)
 (.cond (.tmp 10) (j (y Zw)
 .ret)
 .skip))))))
 (j (y Zx)
 .ret)))
def EB:List bN:=[.slot 2]
theorem c93 [Laid]:aQ Tryz.prog 93 17 d93 EB:=⟨Tryz.f93,by kernel_rfl,by kernel_rfl,by kernel_rfl,by kernel_rfl,by kernel_rfl⟩
def Zy:List RO:=[
 o (.box (t 0)) 2 [],
 o (.alloc [(.v (.int .i64 0)),.aI]) 4 []]
def Zz:List RO:=[
 o (.bP (.cm .aI)) 5 []]
def ZA:List RO:=[
 o (.bP (i 0)) 6 []]
def ZB:List RO:=[
 n 6 9,
 a 3 2 10 [],
 l 10 11 [1],
 o (.len (t 11)) 12 [2],
 b .lss 9 12 13 [0,3]]
def ZC:List RO:=[
 a 3 2 16 [],
 l 16 17 [0],
 n 6 18,
 x 6 17 18 19 [1,2],
 L 6 19 20 [3],
 o (.alloc [(.v (.int .i64 0)),(.v (.int .i64 0)),(.v (.int .i64 0)),(.v (.int .i64 0)),(.v (.int .i64 0)),(.v (.int .i64 0))]) 7 [],
 S 6 7 20 (k [5,4] 5)]
def ZD:List RO:=[
 a 4 7 21 [],
 l 21 22 [0],
 m 22 8 [1,0,1]]
def ZE:List RO:=[
 a 0 7 23 [],
 l 23 24 [0],
 o (.bin .eql (t 24) (i 2)) 25 [1]]
def ZF:List RO:=[
 n 8 26,
 n 1 27,
 a 2 7 28 [],
 l 28 29 [2],
 x 1 27 29 30 [1,3],
 l 30 31 [4],
 b .add 26 31 32 [0,5],
 m 32 8 (k [6] 6)]
def Rk:List RO:=[
 n 5 33,
 a 1 7 34 [],
 l 34 35 [1],
 L 6 7 36 [],
 o (.call 93 [(t 36)]) 37 [3],
 n 8 38,
 o (.build [(.v (.int .i64 0)),.aI,(.v (.int .i64 0)),(.v (.int .i64 0)),(.v (.int .i64 0))] [(0,1,(t 35)),(1,1,(t 37)),(2,1,(t 38))]) 39 [2,4,5],
 o (.bslice 1 5 [(.v (.int .i64 0)),.aI,(.v (.int .i64 0)),(.v (.int .i64 0)),(.v (.int .i64 0))] [(0,5,(t 39))]) 40 [6],
 o (.append 156 5 56 (t 33) (t 40)) 41 [0,7,4],
 m 41 5 (k [8,8] 8)]
def Rl:List RO:=[
 n 6 14,
 o (.bin .add (t 14) (i 1)) 15 [0],
 m 15 6 [1,0,1]]
def Rm:List RO:=[
 a 1 2 42 [],
 l 42 43 [0],
 n 5 44,
 o (.build [(.v (.int .i64 0)),.aI] [(0,1,(t 43)),(1,1,(t 44))]) 45 [1,2],
 S 2 4 45 [3,0,1,2,3]]
def d67:DC:=(j (y Zy)
 (j (y Zz)
 (j (j (y ZA)
 (.block 0 (.loop (j (j (y ZB)
 (.cond (.tmp 13) .skip
 (.exit 0)))
 (j (.block 1 (j (y ZC)
 (j (y ZD)
 (j (j (y ZE)
 (.cond (.tmp 25) (y ZF)
 .skip))
 (Y Rk)))))
 (y Rl))))))
 (j (y Rm)
 .ret))))
def Rn:List bN:=[.cell 4 2 true]
theorem c67 [Laid]:aQ Tryz.prog 67 46 d67 Rn:=⟨Tryz.f67,by kernel_rfl,by kernel_rfl,by kernel_rfl,by kernel_rfl,by kernel_rfl⟩
def ZG:List RO:=[
 o (.box (t 0)) 2 [],
 o (.bP (.cm (.v (.bool false)))) 4 []]
def ZH:List RO:=[
 n 1 6,
 o (.len (t 6)) 7 [0],
 a 0 2 8 [],
 l 8 9 [2],
 b .neq 7 9 10 [1,3]]
def ZI:List RO:=[
 o (.bP (.cm (.v (.bool false)))) 4 []]
def ZJ:List RO:=[
 o (.bP (i 0)) 5 []]
def ZK:List RO:=[
 n 5 11,
 n 1 12,
 o (.len (t 12)) 13 [1],
 b .lss 11 13 14 [0,2]]
def MH:List RO:=[
 n 1 17,
 n 5 18,
 x 1 17 18 19 [0,1],
 l 19 20 [2],
 o (.bin .lss (t 20) (i 1)) 21 [3],
 m 21 22 [4],
 w 1 23 22 false [5],
 w 5 24 22 false [5],
 g (.idxAddr 1 (t 23) (t 24)) 25 22 false [6,7,5],
 v 25 26 22 false [8,5],
 g (.bin .gtr (t 26) (i 60000)) 27 22 false [9,5],
 p 22 27 28 [5,10]]
def ZL:List RO:=[
 o (.bP (.cm (.v (.bool false)))) 4 []]
def ZM:List RO:=[
 n 5 15,
 o (.bin .add (t 15) (i 1)) 16 [0],
 m 16 5 [1,0,1]]
def ZN:List RO:=[
 o (.bP (.cm (.v (.bool true)))) 4 []]
def d44:DC:=(j (y ZG)
 (j (j (y ZH)
 (.cond (.tmp 10) (j (y ZI)
 .ret)
 .skip))
 (j (j (y ZJ)
 (.block 0 (.loop (j (j (y ZK)
 (.cond (.tmp 14) .skip
 (.exit 0)))
 (j (.block 1 (j (y MH)
 (.cond (.tmp 28) (j (y ZL)
 .ret)
 .skip)))
 (y ZM))))))
 (j (y ZN)
 .ret))))
def EC:List bN:=[.slot 4]
theorem c44 [Laid]:aQ Tryz.prog 44 29 d44 EC:=⟨Tryz.f44,by kernel_rfl,by kernel_rfl,by kernel_rfl,by kernel_rfl,by kernel_rfl⟩
def GL:List RO:=[
 o (.box (t 0)) 2 [],
 o (.bP (.cm .aI)) 4 []]
def AO:List RO:=[
 L 4 2 7 [],
 o (.call 20 [(t 7)]) 8 [0],
 o (.un .not (t 8)) 9 [1],
 m 9 10 [2,1],
 g (.load 4 true (t 2)) 11 10 false [3],
 w 1 12 10 false [3],
 g (.call 44 [(t 11),(t 12)]) 13 10 false [4,5,3,3],
 g (.un .not (t 13)) 14 10 false [6,3],
 p 10 14 15 [3,7]]
def GM:List RO:=[
 o (.bP (.cm .aI)) 4 []]
def GN:List RO:=[
 L 4 2 17 [],
 n 1 18,
 o (.call 67 [(t 17),(t 18)]) 19 [0,1],
 o (.call 66 [(t 19)]) 20 [2,2],
 m 20 16 [3],
 e 0 16 21 [4],
 e 1 16 22 [4],
 m 21 5 (k [5,3] 5),
 m 22 6 (k [6,7] 7)]
def GO:List RO:=[
 n 5 23,
 m 23 4 [0,0]]
def d45:DC:=(j (y GL)
 (j (j (y AO)
 (.cond (.tmp 15) (j (y GM)
 .ret)
 .skip))
 (j (y GN)
 (j (y GO)
 .ret))))
def tT:List bN:=[.slot 4]
theorem c45 [Laid]:aQ Tryz.prog 45 24 d45 tT:=⟨Tryz.f45,by kernel_rfl,by kernel_rfl,by kernel_rfl,by kernel_rfl,by kernel_rfl⟩
def ZO:List RO:=[
 o (.box (t 0)) 2 [],
 o (.bP (.cm (.v (.bool false)))) 4 []]
def MI:List RO:=[
 L 4 2 7 [],
 o (.call 20 [(t 7)]) 8 [0],
 o (.un .not (t 8)) 9 [1],
 m 9 10 [2,1],
 g (.load 4 true (t 2)) 11 10 false [3],
 w 1 12 10 false [3],
 g (.call 44 [(t 11),(t 12)]) 13 10 false [4,5,3,3],
 g (.un .not (t 13)) 14 10 false [6,3],
 p 10 14 15 [3,7]]
def ZP:List RO:=[
 o (.bP (.cm (.v (.bool false)))) 4 []]
def ZQ:List RO:=[
 L 4 2 16 [],
 n 1 17,
 o (.call 45 [(t 16),(t 17)]) 18 [0,1],
 m 18 5 [2,2,0,1,2]]
def ZR:List RO:=[
 o (.bP (i 0)) 6 []]
def ZS:List RO:=[
 n 6 19,
 n 5 20,
 o (.len (t 20)) 21 [1],
 b .lss 19 21 22 [0,2]]
def ZT:List RO:=[
 n 5 25,
 n 6 26,
 x 2 25 26 27 [0,1],
 a 1 27 28 [2],
 l 28 29 [3],
 o (.bin .gtr (t 29) (i 1000)) 30 [4]]
def ZU:List RO:=[
 o (.bP (.cm (.v (.bool false)))) 4 []]
def ZV:List RO:=[
 n 6 23,
 o (.bin .add (t 23) (i 1)) 24 [0],
 m 24 6 [1,0,1]]
def ZW:List RO:=[
 o (.bP (.cm (.v (.bool true)))) 4 []]
def d22:DC:=(j (y ZO)
 (j (j (y MI)
 (.cond (.tmp 15) (j (y ZP)
 .ret)
 .skip))
 (j (y ZQ)
 (j (j (y ZR)
 (.block 0 (.loop (j (j (y ZS)
 (.cond (.tmp 22) .skip
 (.exit 0)))
 (j (.block 1 (j (y ZT)
 (.cond (.tmp 30) (j (y ZU)
 .ret)
 .skip)))
 (y ZV))))))
 (j (y ZW)
 .ret)))))
def ED:List bN:=[.slot 4]
theorem c22 [Laid]:aQ Tryz.prog 22 31 d22 ED:=⟨Tryz.f22,by kernel_rfl,by kernel_rfl,by kernel_rfl,by kernel_rfl,by kernel_rfl⟩
def ZX:List RO:=[
 o (.box (t 0)) 1 [],
 o (.bP (.cm (.v (.bool false)))) 2 []]
def vt:List RO:=[
 a 0 1 6 [],
 l 6 7 [0],
 o (.bin .lss (t 7) (i 0)) 8 [1],
 m 8 9 [2],
 u 0 1 10 9 false [3],
 v 10 11 9 false [4,3],
 g (.bin .gtr (t 11) (i 120)) 12 9 false [5,3],
 p 9 12 13 [3,6],
 m 13 14 [7,3],
 u 1 1 15 14 false [8],
 v 15 16 14 false [9,8],
 g (.bin .lss (t 16) (i 1)) 17 14 false [10,8],
 p 14 17 18 [8,11],
 m 18 19 [12,8],
 u 1 1 20 19 false [13],
 v 20 21 19 false [14,13],
 g (.bin .gtr (t 21) (i 1000)) 22 19 false [15,13],
 p 19 22 23 [13,16],
 m 23 24 [17,13],
 u 2 1 25 24 false [18],
 v 25 26 24 false [19,18],
 g (.bin .lss (t 26) (i 0)) 27 24 false [20,18],
 p 24 27 28 [18,21],
 m 28 29 [22,18],
 u 2 1 30 29 false [23],
 v 30 31 29 false [24,23],
 u 1 1 32 29 false [23],
 v 32 33 29 false [26,23],
 g (.bin .geq (t 31) (t 33)) 34 29 false [25,27,23],
 p 29 34 35 [23,28],
 m 35 36 [29,23],
 u 3 1 37 36 false [30],
 v 37 38 36 false [31,30],
 g (.len (t 38)) 39 36 false [32,30],
 g (.bin .gtr (t 39) (i 600)) 40 36 false [33,30],
 p 36 40 41 [30,34]]
def ZY:List RO:=[
 o (.bP (.cm (.v (.bool false)))) 2 []]
def ZZ:List RO:=[
 o (.bP (i 0)) 3 []]
def Z0:List RO:=[
 n 3 42,
 a 3 1 43 [],
 l 43 44 [1],
 o (.len (t 44)) 45 [2],
 b .lss 42 45 46 [0,3]]
def Z1:List RO:=[
 a 3 1 49 [],
 l 49 50 [0],
 n 3 51,
 x 6 50 51 52 [1,2],
 L 6 52 53 [3],
 o (.alloc [(.v (.int .i64 0)),(.v (.int .i64 0)),(.v (.int .i64 0)),(.v (.int .i64 0)),(.v (.int .i64 0)),(.v (.int .i64 0))]) 4 [],
 S 6 4 53 (k [5,4] 5)]
def AP:List RO:=[
 a 1 4 54 [],
 l 54 55 [0],
 o (.bin .lss (t 55) (i 0)) 56 [1],
 m 56 57 [2],
 u 1 4 58 57 false [3],
 v 58 59 57 false [4,3],
 u 1 1 60 57 false [3],
 v 60 61 57 false [6,3],
 g (.bin .geq (t 59) (t 61)) 62 57 false [5,7,3],
 p 57 62 63 [3,8],
 m 63 64 [9,3],
 u 4 4 65 64 false [10],
 v 65 66 64 false [11,10],
 g (.bin .lss (t 66) (i 0)) 67 64 false [12,10],
 p 64 67 68 [10,13],
 m 68 69 [14,10],
 u 4 4 70 69 false [15],
 v 70 71 69 false [16,15],
 g (.bin .gtr (t 71) (i 1000)) 72 69 false [17,15],
 p 69 72 73 [15,18],
 m 73 74 [19,15],
 u 5 4 75 74 false [20],
 v 75 76 74 false [21,20],
 g (.bin .lss (t 76) (i (-1))) 77 74 false [22,20],
 p 74 77 78 [20,23]]
def Z2:List RO:=[
 o (.bP (.cm (.v (.bool false)))) 2 []]
def Z3:List RO:=[
 o (.bP (.cm (.v (.bool false)))) 5 []]
def Z4:List RO:=[
 a 0 4 79 [],
 l 79 80 [0]]
def Ro:List RO:=[
 o (.bin .eql (t 80) (i 1)) 82 [],
 m 82 81 [0]]
def EE:List RO:=[
 a 2 4 83 [],
 l 83 84 [0],
 o (.bin .eql (t 84) (i 0)) 85 [1],
 m 85 86 [2],
 u 3 4 87 86 true [3],
 v 87 88 86 true [4,3],
 g (.bin .eql (t 88) (i 0)) 89 86 true [5,3],
 q 86 89 90 [3,6],
 m 90 5 (k [7,3] 7)]
def Rp:List RO:=[
 o (.bin .eql (t 80) (i 2)) 92 [],
 m 92 91 [0]]
def AQ:List RO:=[
 a 2 4 93 [],
 l 93 94 [0],
 o (.bin .geq (t 94) (i 0)) 95 [1],
 m 95 96 [2],
 u 2 4 97 96 true [3],
 v 97 98 96 true [4,3],
 u 0 1 99 96 true [3],
 v 99 100 96 true [6,3],
 g (.bin .lss (t 98) (t 100)) 101 96 true [5,7,3],
 q 96 101 102 [3,8],
 m 102 103 [9,3],
 u 3 4 104 103 true [10],
 v 104 105 103 true [11,10],
 g (.bin .eql (t 105) (i 0)) 106 103 true [12,10],
 q 103 106 107 [10,13],
 m 107 5 (k [14,10] 14)]
def Rq:List RO:=[
 o (.bin .eql (t 80) (i 3)) 109 [],
 m 109 108 [0]]
def AR:List RO:=[
 a 2 4 110 [],
 l 110 111 [0],
 o (.bin .geq (t 111) (i 0)) 112 [1],
 m 112 113 [2],
 u 2 4 114 113 true [3],
 v 114 115 113 true [4,3],
 u 1 1 116 113 true [3],
 v 116 117 113 true [6,3],
 g (.bin .lss (t 115) (t 117)) 118 113 true [5,7,3],
 q 113 118 119 [3,8],
 m 119 120 [9,3],
 u 3 4 121 120 true [10],
 v 121 122 120 true [11,10],
 g (.bin .eql (t 122) (i 0)) 123 120 true [12,10],
 q 120 123 124 [10,13],
 m 124 5 (k [14,10] 14)]
def Rr:List RO:=[
 o (.bin .eql (t 80) (i 4)) 126 [],
 m 126 125 [0]]
def wY:List RO:=[
 a 2 4 127 [],
 l 127 128 [0],
 o (.bin .geq (t 128) (i 0)) 129 [1],
 m 129 130 [2],
 u 2 4 131 130 true [3],
 v 131 132 130 true [4,3],
 u 1 1 133 130 true [3],
 v 133 134 130 true [6,3],
 g (.bin .lss (t 132) (t 134)) 135 130 true [5,7,3],
 q 130 135 136 [3,8],
 m 136 137 [9,3],
 u 3 4 138 137 true [10],
 v 138 139 137 true [11,10],
 g (.bin .geq (t 139) (i 0)) 140 137 true [12,10],
 q 137 140 141 [10,13],
 m 141 142 [14,10],
 u 3 4 143 142 true [15],
 v 143 144 142 true [16,15],
 u 1 1 145 142 true [15],
 v 145 146 142 true [18,15],
 g (.bin .lss (t 144) (t 146)) 147 142 true [17,19,15],
 q 142 147 148 [15,20],
 m 148 5 (k [21,15] 21)]
def wZ:List RO:=[
 n 5 149,
 o (.un .not (t 149)) 150 [0]]
def w6:List RO:=[
 o (.bP (.cm (.v (.bool false)))) 2 []]
def w7:List RO:=[
 n 3 47,
 o (.bin .add (t 47) (i 1)) 48 [0],
 m 48 3 [1,0,1]]
def Rs:List RO:=[
 o (.bP (.cm (.v (.bool true)))) 2 []]
def d20:DC:=(j (y ZX)
 (j (j (y vt)
 (.cond (.tmp 41) (j (y ZY)
 .ret)
 .skip))
 (j (j (y ZZ)
 (.block 0 (.loop (j (j (y Z0)
 (.cond (.tmp 46) .skip
 (.exit 0)))
 (j (.block 1 (j (y Z1)
 (j (j (y AP)
 (.cond (.tmp 78) (j (y Z2)
 .ret)
 .skip))
 (j (y Z3)
 (j (j (y Z4)
 (.block 2 (j (y Ro)
 (.cond (.tmp 81) (y EE)
 (j (y Rp)
 (.cond (.tmp 91) (y AQ)
 (j (y Rq)
 (.cond (.tmp 108) (y AR)
 (j (y Rr)
 (.cond (.tmp 125) (y wY)
 .skip))))))))))
 (j (y wZ)
 (.cond (.tmp 150) (j (y w6)
 .ret)
 .skip)))))))
 (y w7))))))
 (j (y Rs)
 .ret))))
def pA:List bN:=[.slot 2]
theorem c20 [Laid]:aQ Tryz.prog 20 151 d20 pA:=⟨Tryz.f20,by kernel_rfl,by kernel_rfl,by kernel_rfl,by kernel_rfl,by kernel_rfl⟩
def Z5:List RO:=[
 o (.alloc [(.v (.int .i64 0)),(.v (.int .i64 0)),(.v (.int .i64 0)),(.v (.int .i64 0))]) 0 []]
def Z6:List RO:=[
 o (.build [(.v (.int .i64 0)),(.v (.int .i64 0))] [(0,1,(i 1099511627776))]) 1 [],
 o (.build [(.v (.int .i64 0)),(.v (.int .i64 0)),(.v (.int .i64 0)),(.v (.int .i64 0))] [(0,2,(t 1)),(2,1,(i (-1)))]) 2 [0],
 S 4 0 2 [1,0,1]]
def d42:DC:=(j (y Z5)
 (j (y Z6)
 .ret))
def Rt:List bN:=[.cell 0 4 true]
theorem c42 [Laid]:aQ Tryz.prog 42 3 d42 Rt:=⟨Tryz.f42,by kernel_rfl,by kernel_rfl,by kernel_rfl,by kernel_rfl,by kernel_rfl⟩
def Z7:List RO:=[
 o (.bP (i 0)) 4 []]
def Z8:List RO:=[
 n 0 5,
 n 1 6,
 b .mul 5 6 7 [0,1],
 n 1 8,
 o (.bin .add (t 8) (i 1)) 9 [3],
 b .mul 7 9 10 [2,4],
 o (.bin .quo (t 10) (i 2)) 11 [5],
 m 11 4 (k [6] 6)]
def d23:DC:=(j (y Z7)
 (j (y Z8)
 .ret))
def Ru:List bN:=[.slot 4]
theorem c23 [Laid]:aQ Tryz.prog 23 12 d23 Ru:=⟨Tryz.f23,by kernel_rfl,by kernel_rfl,by kernel_rfl,by kernel_rfl,by kernel_rfl⟩
def Z9:List RO:=[
 o (.bP (i 0)) 8 []]
def aaa:List RO:=[
 o (.bP (i 0)) 9 []]
def aab:List RO:=[
 o (.bP (i 0)) 10 []]
def aac:List RO:=[
 n 10 11,
 n 2 12,
 b .lss 11 12 13 [0,1]]
def aad:List RO:=[
 n 9 16,
 n 1 17,
 b .add 16 17 18 [0,1],
 n 10 19,
 b .sub 18 19 20 [2,3],
 m 20 9 (k [4] 4)]
def aae:List RO:=[
 n 10 14,
 o (.bin .add (t 14) (i 1)) 15 [0],
 m 15 10 [1,0,1]]
def aaf:List RO:=[
 n 9 21,
 n 3 22,
 b .add 21 22 23 [0,1],
 n 2 24,
 b .sub 23 24 25 [2,3],
 n 0 26,
 b .mul 25 26 27 [4,5],
 m 27 8 (k [6] 6)]
def d25:DC:=(j (y Z9)
 (j (y aaa)
 (j (j (y aab)
 (.block 0 (.loop (j (j (y aac)
 (.cond (.tmp 13) .skip
 (.exit 0)))
 (j (.block 1 (y aad))
 (y aae))))))
 (j (y aaf)
 .ret))))
def Rv:List bN:=[.slot 8]
theorem c25 [Laid]:aQ Tryz.prog 25 28 d25 Rv:=⟨Tryz.f25,by kernel_rfl,by kernel_rfl,by kernel_rfl,by kernel_rfl,by kernel_rfl⟩
def aag:List RO:=[
 o (.box (t 0)) 4 [],
 o (.box (t 1)) 5 [],
 o (.alloc [(.v (.int .i64 0)),(.v (.int .i64 0)),(.v (.int .i64 0)),(.v (.int .i64 0))]) 8 []]
def aah:List RO:=[
 a 0 5 11 [],
 l 11 12 [0],
 o (.bin .geq (t 12) (i 1099511627776)) 13 [1]]
def aai:List RO:=[
 L 4 4 14 [],
 S 4 8 14 [0,0]]
def aaj:List RO:=[
 L 2 5 15 [],
 a 0 4 16 [],
 L 2 16 17 [1],
 o (.call 92 [(t 15),(t 17)]) 18 [0,2],
 m 18 9 [3,3,0,1,2,3]]
def C4:List RO:=[
 L 2 5 19 [],
 a 0 4 20 [],
 L 2 20 21 [1],
 o (.eqT false true [(.int .i64),(.int .i64)] (t 19) (t 21)) 22 [0,2],
 m 22 23 [3],
 w 2 24 23 true [4],
 u 2 4 25 23 true [4],
 v 25 26 23 true [6,4],
 g (.bin .lss (t 24) (t 26)) 27 23 true [5,7,4],
 w 27 28 23 true [8,4,4],
 w 2 29 28 false [9],
 u 2 4 30 28 false [9],
 v 30 31 28 false [11,9],
 g (.bin .eql (t 29) (t 31)) 32 28 false [10,12,9],
 w 32 33 28 false [13,9,9],
 w 3 34 33 true [14],
 u 3 4 35 33 true [14],
 v 35 36 33 true [16,14],
 g (.bin .lss (t 34) (t 36)) 37 33 true [15,17,14],
 g (.pick (t 33) (t 37) (.cm (.v (.bool false)))) 38 28 false [14,18,9],
 g (.pick (t 28) (.cm (.v (.bool true))) (t 38)) 39 23 true [9,19,4],
 q 23 39 40 [4,20],
 m 40 10 (k [21,14] 21)]
def aak:List RO:=[
 n 9 41,
 m 41 42 [0],
 w 10 43 42 false [1],
 p 42 43 44 [1,2]]
def aal:List RO:=[
 L 2 5 45 [],
 n 2 46,
 n 3 47,
 o (.build [(.v (.int .i64 0)),(.v (.int .i64 0)),(.v (.int .i64 0)),(.v (.int .i64 0))] [(0,2,(t 45)),(2,1,(t 46)),(3,1,(t 47))]) 48 [0,1,2],
 S 4 8 48 [3,0,1,2,3]]
def aam:List RO:=[
 L 4 4 49 [],
 S 4 8 49 [0,0]]
def d68:DC:=(j (y aag)
 (j (j (y aah)
 (.cond (.tmp 13) (j (y aai)
 .ret)
 .skip))
 (j (y aaj)
 (j (y C4)
 (j (j (y aak)
 (.cond (.tmp 44) (j (y aal)
 .ret)
 .skip))
 (j (y aam)
 .ret))))))
def EF:List bN:=[.cell 8 4 true]
theorem c68 [Laid]:aQ Tryz.prog 68 50 d68 EF:=⟨Tryz.f68,by kernel_rfl,by kernel_rfl,by kernel_rfl,by kernel_rfl,by kernel_rfl⟩
def aan:List RO:=[
 o (.box (t 0)) 2 [],
 o (.box (t 1)) 3 [],
 o (.alloc [(.v (.int .i64 0)),(.v (.int .i64 0)),(.v (.int .i64 0)),(.v (.int .i64 0))]) 4 []]
def AS:List RO:=[
 a 0 3 6 [],
 l 6 7 [0],
 o (.bin .lss (t 7) (i 0)) 8 [1],
 m 8 9 [2],
 u 0 3 10 9 false [3],
 v 10 11 9 false [4,3],
 u 0 2 12 9 false [3],
 v 12 13 9 false [6,3],
 g (.bin .geq (t 11) (t 13)) 14 9 false [5,7,3],
 p 9 14 15 [3,8],
 m 15 16 [9,3],
 u 1 3 17 16 false [10],
 v 17 18 16 false [11,10],
 g (.bin .lss (t 18) (i 0)) 19 16 false [12,10],
 p 16 19 20 [10,13],
 m 20 21 [14,10],
 u 2 3 22 21 false [15],
 v 22 23 21 false [16,15],
 u 1 3 24 21 false [15],
 v 24 25 21 false [18,15],
 g (.bin .lss (t 23) (t 25)) 26 21 false [17,19,15],
 p 21 26 27 [15,20],
 m 27 28 [21,15],
 u 2 3 29 28 false [22],
 v 29 30 28 false [23,22],
 u 1 2 31 28 false [22],
 v 31 32 28 false [25,22],
 g (.bin .geq (t 30) (t 32)) 33 28 false [24,26,22],
 p 28 33 34 [22,27]]
def aao:List RO:=[
 o (.call 42 []) 35 [],
 S 4 4 35 [0,0,0]]
def aap:List RO:=[
 a 0 2 36 [],
 l 36 37 [0],
 a 1 2 38 [],
 l 38 39 [2],
 a 1 3 40 [],
 l 40 41 [4],
 a 2 3 42 [],
 l 42 43 [6],
 o (.call 25 [(t 37),(t 39),(t 41),(t 43)]) 44 [1,3,5,7],
 a 0 3 45 [],
 l 45 46 [9],
 b .add 44 46 47 [8,10],
 m 47 5 (k [11,8] 11)]
def aaq:List RO:=[
 n 5 48,
 a 2 2 49 [],
 l 49 50 [1],
 o (.len (t 50)) 51 [2],
 b .geq 48 51 52 [0,3]]
def aar:List RO:=[
 o (.call 42 []) 53 [],
 S 4 4 53 [0,0,0]]
def aas:List RO:=[
 a 2 2 54 [],
 l 54 55 [0],
 n 5 56,
 x 4 55 56 57 [1,2],
 L 4 57 58 [3],
 S 4 4 58 (k [4] 4)]
def d19:DC:=(j (y aan)
 (j (j (y AS)
 (.cond (.tmp 34) (j (y aao)
 .ret)
 .skip))
 (j (Y aap)
 (j (j (y aaq)
 (.cond (.tmp 52) (j (y aar)
 .ret)
 .skip))
 (j (y aas)
 .ret)))))
def EG:List bN:=[.cell 4 4 true]
theorem c19 [Laid]:aQ Tryz.prog 19 59 d19 EG:=⟨Tryz.f19,by kernel_rfl,by kernel_rfl,by kernel_rfl,by kernel_rfl,by kernel_rfl⟩
def aat:List RO:=[
 o (.box (t 0)) 5 [],
 o (.box (t 4)) 9 [],
 o (.alloc [(.v (.int .i64 0)),(.v (.int .i64 0))]) 10 []]
def MJ:List RO:=[
 a 1 9 11 [],
 l 11 12 [0],
 n 2 13,
 b .eql 12 13 14 [1,2],
 m 14 15 [3],
 u 2 9 16 15 true [4],
 v 16 17 15 true [5,4],
 w 3 18 15 true [4],
 g (.bin .eql (t 17) (t 18)) 19 15 true [6,7,4],
 q 15 19 20 [4,8]]
def aau:List RO:=[
 n 1 21,
 a 0 9 22 [],
 l 22 23 [1],
 x 4 21 23 24 [0,2],
 a 0 24 25 [3],
 L 2 25 26 [4],
 S 2 10 26 (k [5] 5)]
def aav:List RO:=[
 L 3 5 27 [],
 L 3 9 28 [],
 o (.call 19 [(t 27),(t 28)]) 29 [0,1],
 o (.field 0 2 true (t 29)) 30 [2],
 S 2 10 30 [3,2,0,1,2,3]]
def d70:DC:=(j (y aat)
 (j (j (y MJ)
 (.cond (.tmp 20) (j (y aau)
 .ret)
 .skip))
 (j (y aav)
 .ret)))
def J9:List bN:=[.cell 10 2 true]
theorem c70 [Laid]:aQ Tryz.prog 70 31 d70 J9:=⟨Tryz.f70,by kernel_rfl,by kernel_rfl,by kernel_rfl,by kernel_rfl,by kernel_rfl⟩
def GP:List RO:=[
 o (.box (t 0)) 7 [],
 o (.box (t 1)) 8 [],
 o (.box (t 2)) 9 [],
 o (.alloc [(.v (.int .i64 0)),(.v (.int .i64 0)),(.v (.int .i64 0)),(.v (.int .i64 0))]) 14 []]
def MK:List RO:=[
 a 3 7 22 [],
 l 22 23 [0],
 n 6 24,
 x 6 23 24 25 [1,2],
 L 6 25 26 [3],
 o (.alloc [(.v (.int .i64 0)),(.v (.int .i64 0)),(.v (.int .i64 0)),(.v (.int .i64 0)),(.v (.int .i64 0)),(.v (.int .i64 0))]) 15 [],
 S 6 15 26 (k [5,4] 5)]
def ML:List RO:=[
 n 3 27,
 a 1 15 28 [],
 l 28 29 [1],
 x 4 27 29 30 [0,2],
 L 4 30 31 [3],
 o (.alloc [(.v (.int .i64 0)),(.v (.int .i64 0)),(.v (.int .i64 0)),(.v (.int .i64 0))]) 16 [],
 S 4 16 31 (k [5,4] 5)]
def GQ:List RO:=[
 a 0 15 32 [],
 l 32 33 [0]]
def GR:List RO:=[
 o (.bin .eql (t 33) (i 1)) 71 [],
 m 71 70 [0]]
def aaw:List RO:=[
 n 4 72,
 n 5 73,
 b .eql 72 73 74 [0,1]]
def aax:List RO:=[
 L 4 16 75 [],
 a 4 15 76 [],
 l 76 77 [1],
 o (.call 69 [(t 77),(.cm .aI)]) 78 [2],
 n 6 79,
 n 4 80,
 o (.call 68 [(t 75),(t 78),(t 79),(t 80)]) 81 [0,3,4,5,3],
 S 4 16 81 (k [6,6] 6)]
def aay:List RO:=[
 o (.bin .eql (t 33) (i 2)) 83 [],
 m 83 82 [0]]
def aaz:List RO:=[
 o (.bP (i 0)) 17 []]
def aaA:List RO:=[
 n 17 84,
 a 1 8 85 [],
 l 85 86 [1],
 o (.len (t 86)) 87 [2],
 b .lss 84 87 88 [0,3]]
def AT:List RO:=[
 a 1 8 91 [],
 l 91 92 [0],
 n 17 93,
 x 5 92 93 94 [1,2],
 a 0 94 95 [3],
 l 95 96 [4],
 n 4 97,
 b .eql 96 97 98 [5,6],
 m 98 99 [7],
 u 1 8 100 99 true [8],
 v 100 101 99 true [9,8],
 w 17 102 99 true [8],
 g (.idxAddr 5 (t 101) (t 102)) 103 99 true [10,11,8],
 u 1 103 104 99 true [12,8],
 v 104 105 99 true [13,8],
 w 5 106 99 true [8],
 g (.bin .eql (t 105) (t 106)) 107 99 true [14,15,8],
 q 99 107 108 [8,16],
 m 108 109 [17,8],
 u 1 8 110 109 true [18],
 v 110 111 109 true [19,18],
 w 17 112 109 true [18],
 g (.idxAddr 5 (t 111) (t 112)) 113 109 true [20,21,18],
 u 2 113 114 109 true [22,18],
 v 114 115 109 true [23,18],
 u 2 15 116 109 true [18],
 v 116 117 109 true [25,18],
 g (.bin .eql (t 115) (t 117)) 118 109 true [24,26,18],
 q 109 118 119 [18,27]]
def Rw:List RO:=[
 L 4 16 120 [],
 a 4 15 121 [],
 l 121 122 [1],
 a 1 8 123 [],
 l 123 124 [3],
 n 17 125,
 x 5 124 125 126 [4,5],
 a 3 126 127 [6],
 l 127 128 [7],
 b .add 122 128 129 [2,8],
 o (.call 69 [(t 129),(.cm .aI)]) 130 [9],
 n 6 131,
 n 17 132,
 o (.call 68 [(t 120),(t 130),(t 131),(t 132)]) 133 [0,10,11,12,10],
 S 4 16 133 (k [13,13] 13)]
def Ka:List RO:=[
 n 17 89,
 o (.bin .add (t 89) (i 1)) 90 [0],
 m 90 17 [1,0,1]]
def Rx:List RO:=[
 o (.bin .eql (t 33) (i 3)) 135 [],
 m 135 134 [0]]
def Ry:List RO:=[
 L 3 9 136 [],
 n 3 137,
 n 4 138,
 n 5 139,
 a 2 15 140 [],
 l 140 141 [4],
 n 4 142,
 n 5 143,
 o (.build [(.v (.int .i64 0)),(.v (.int .i64 0)),(.v (.int .i64 0))] [(0,1,(t 141)),(1,1,(t 142)),(2,1,(t 143))]) 144 [5,6,7],
 o (.call 70 [(t 136),(t 137),(t 138),(t 139),(t 144)]) 145 [0,1,2,3,8],
 o (.alloc [(.v (.int .i64 0)),(.v (.int .i64 0))]) 18 [],
 S 2 18 145 (k [10,9,9] 10)]
def Rz:List RO:=[
 L 4 16 146 [],
 a 4 15 147 [],
 l 147 148 [1],
 L 2 18 149 [],
 o (.bslice 1 2 [(.v (.int .i64 0)),(.v (.int .i64 0))] [(0,2,(t 149))]) 150 [3],
 o (.call 69 [(t 148),(t 150)]) 151 [2,4],
 n 6 152,
 n 4 153,
 o (.call 68 [(t 146),(t 151),(t 152),(t 153)]) 154 [0,5,6,7,5],
 S 4 16 154 (k [8,8] 8)]
def RA:List RO:=[
 n 4 34,
 m 34 19 [0,0]]
def RB:List RO:=[
 n 19 35,
 n 5 36,
 b .leq 35 36 37 [0,1]]
def RC:List RO:=[
 L 3 9 40 [],
 n 3 41,
 n 4 42,
 n 5 43,
 a 2 15 44 [],
 l 44 45 [4],
 n 4 46,
 n 19 47,
 o (.build [(.v (.int .i64 0)),(.v (.int .i64 0)),(.v (.int .i64 0))] [(0,1,(t 45)),(1,1,(t 46)),(2,1,(t 47))]) 48 [5,6,7],
 o (.call 70 [(t 40),(t 41),(t 42),(t 43),(t 48)]) 49 [0,1,2,3,8],
 o (.alloc [(.v (.int .i64 0)),(.v (.int .i64 0))]) 20 [],
 S 2 20 49 (k [10,9,9] 10)]
def RD:List RO:=[
 L 3 9 50 [],
 n 3 51,
 n 4 52,
 n 5 53,
 a 3 15 54 [],
 l 54 55 [4],
 n 19 56,
 n 5 57,
 o (.build [(.v (.int .i64 0)),(.v (.int .i64 0)),(.v (.int .i64 0))] [(0,1,(t 55)),(1,1,(t 56)),(2,1,(t 57))]) 58 [5,6,7],
 o (.call 70 [(t 50),(t 51),(t 52),(t 53),(t 58)]) 59 [0,1,2,3,8],
 o (.alloc [(.v (.int .i64 0)),(.v (.int .i64 0))]) 21 [],
 S 2 21 59 (k [10,9,9] 10)]
def RE:List RO:=[
 L 4 16 60 [],
 a 4 15 61 [],
 l 61 62 [1],
 L 2 20 63 [],
 L 2 21 64 [],
 o (.bslice 2 2 [(.v (.int .i64 0)),(.v (.int .i64 0)),(.v (.int .i64 0)),(.v (.int .i64 0))] [(0,2,(t 63)),(2,2,(t 64))]) 65 [3,4],
 o (.call 69 [(t 62),(t 65)]) 66 [2,5],
 n 6 67,
 n 19 68,
 o (.call 68 [(t 60),(t 66),(t 67),(t 68)]) 69 [0,6,7,8,6],
 S 4 16 69 (k [9,9] 9)]
def RF:List RO:=[
 n 19 38,
 o (.bin .add (t 38) (i 1)) 39 [0],
 m 39 19 [1,0,1]]
def w8:List RO:=[
 L 4 16 155 [],
 S 4 14 155 [0,0]]
def d46:DC:=(j (y GP)
 (j (y MK)
 (j (y ML)
 (j (j (y GQ)
 (.block 0 (j (y GR)
 (.cond (.tmp 70) (j (y aaw)
 (.cond (.tmp 74) (Y aax)
 .skip))
 (j (y aay)
 (.cond (.tmp 82) (j (y aaz)
 (.block 3 (.loop (j (j (y aaA)
 (.cond (.tmp 88) .skip
 (.exit 3)))
 (j (.block 4 (j (Y AT)
 (.cond (.tmp 119) (Y Rw)
 .skip)))
 (y Ka))))))
 (j (y Rx)
 (.cond (.tmp 134) (j (y Ry)
 (Y Rz))
 (j (y RA)
 (.block 1 (.loop (j (j (y RB)
 (.cond (.tmp 37) .skip
 (.exit 1)))
 (j (.block 2 (j (y RC)
 (j (y RD)
 (Y RE))))
 (y RF))))))))))))))
 (j (y w8)
 .ret)))))
def pB:List bN:=[.cell 14 4 true]
theorem c46 [Laid]:aQ Tryz.prog 46 156 d46 pB:=⟨Tryz.f46,by kernel_rfl,by kernel_rfl,by kernel_rfl,by kernel_rfl,by kernel_rfl⟩
def aaB:List RO:=[
 o (.box (t 0)) 5 [],
 o (.box (t 1)) 6 [],
 o (.box (t 2)) 7 [],
 o (.bP (.cm .aI)) 10 []]
def aaC:List RO:=[
 o (.bP (.cm .aI)) 11 []]
def aaD:List RO:=[
 o (.bP (i 0)) 12 []]
def aaE:List RO:=[
 n 12 16,
 a 1 5 17 [],
 l 17 18 [1],
 b .lss 16 18 19 [0,2]]
def aaF:List RO:=[
 n 11 22,
 o (.call 42 []) 23 [],
 o (.bslice 1 4 [(.v (.int .i64 0)),(.v (.int .i64 0)),(.v (.int .i64 0)),(.v (.int .i64 0))] [(0,4,(t 23))]) 24 [1],
 o (.append 57 4 32 (t 22) (t 24)) 25 [0,2,1],
 m 25 11 [3,3,0,1,2,3]]
def aaG:List RO:=[
 n 12 20,
 o (.bin .add (t 20) (i 1)) 21 [0],
 m 21 12 [1,0,1]]
def aaH:List RO:=[
 o (.bP (.cm (.v (.bool true)))) 13 []]
def aaI:List RO:=[
 n 13 26]
def aaJ:List RO:=[
 o (.bP (.cm (.v (.bool false)))) 13 []]
def aaK:List RO:=[
 o (.bP (i 0)) 14 []]
def RG:List RO:=[
 n 14 27,
 a 3 5 28 [],
 l 28 29 [1],
 o (.len (t 29)) 30 [2],
 b .lss 27 30 31 [0,3]]
def RH:List RO:=[
 L 4 5 34 [],
 L 3 6 35 [],
 L 3 7 36 [],
 n 11 37,
 n 3 38,
 n 4 39,
 n 14 40,
 o (.call 46 [(t 34),(t 35),(t 36),(t 37),(t 38),(t 39),(t 40)]) 41 (k [] 6),
 o (.alloc [(.v (.int .i64 0)),(.v (.int .i64 0)),(.v (.int .i64 0)),(.v (.int .i64 0))]) 15 [],
 S 4 15 41 (k [8,7,7] 8)]
def RI:List RO:=[
 L 4 15 42 [],
 n 11 43,
 a 3 5 44 [],
 l 44 45 [2],
 n 14 46,
 x 6 45 46 47 [3,4],
 a 1 47 48 [5],
 l 48 49 [6],
 x 4 43 49 50 [1,7],
 L 4 50 51 [8],
 o (.eqT true true [(.int .i64),(.int .i64),(.int .i64),(.int .i64)] (t 42) (t 51)) 52 [0,9]]
def RJ:List RO:=[
 n 11 53,
 a 3 5 54 [],
 l 54 55 [1],
 n 14 56,
 x 6 55 56 57 [2,3],
 a 1 57 58 [4],
 l 58 59 [5],
 L 4 15 60 [],
 x 4 53 59 61 (k [0,6] 7),
 S 4 61 60 (k [8,7] 7),
 o (.bP (.cm (.v (.bool true)))) 13 (k [9] 9)]
def Kb:List RO:=[
 n 14 32,
 o (.bin .add (t 32) (i 1)) 33 [0],
 m 33 14 [1,0,1]]
def RK:List RO:=[
 n 11 62,
 m 62 10 [0,0]]
def d24:DC:=(j (y aaB)
 (j (y aaC)
 (j (j (y aaD)
 (.block 0 (.loop (j (j (y aaE)
 (.cond (.tmp 19) .skip
 (.exit 0)))
 (j (.block 1 (y aaF))
 (y aaG))))))
 (j (j (y aaH)
 (.block 2 (.loop (j (j (y aaI)
 (.cond (.tmp 26) .skip
 (.exit 2)))
 (.block 3 (j (y aaJ)
 (j (y aaK)
 (.block 4 (.loop (j (j (y RG)
 (.cond (.tmp 31) .skip
 (.exit 4)))
 (j (.block 5 (j (y RH)
 (j (Y RI)
 (.cond (.tmp 52) (Y RJ)
 .skip))))
 (y Kb))))))))))))
 (j (y RK)
 .ret)))))
def d24res:List bN:=[.slot 10]
theorem c24 [Laid]:aQ Tryz.prog 24 63 d24 d24res:=⟨Tryz.f24,by kernel_rfl,by kernel_rfl,by kernel_rfl,by kernel_rfl,by kernel_rfl⟩
def aaL:List RO:=[
 o (.box (t 0)) 2 [],
 o (.box (t 1)) 3 [],
 o (.alloc [(.v (.int .i64 0)),(.v (.int .i64 0)),.aI]) 4 []]
def aaM:List RO:=[
 a 1 2 11 [],
 l 11 12 [0],
 a 0 3 13 [],
 l 13 14 [2],
 a 1 2 15 [],
 l 15 16 [4],
 a 0 3 17 [],
 l 17 18 [6],
 o (.call 23 [(t 16),(t 18)]) 19 [5,7],
 o (.mkSlice 57 4 32 [(.int .i64 0),(.int .i64 0),(.int .i64 0),(.int .i64 0)] (t 19)) 20 [8,8],
 o (.build [(.v (.int .i64 0)),(.v (.int .i64 0)),.aI] [(0,1,(t 12)),(1,1,(t 14)),(2,1,(t 20))]) 21 [1,3,9],
 o (.alloc [(.v (.int .i64 0)),(.v (.int .i64 0)),.aI]) 5 [],
 S 3 5 21 (k [11,10,8] 11)]
def aaN:List RO:=[
 o (.bP (i 0)) 6 []]
def aaO:List RO:=[
 n 6 22,
 a 0 3 23 [],
 l 23 24 [1],
 b .lss 22 24 25 [0,2]]
def aaP:List RO:=[
 o (.bP (i 0)) 7 []]
def aaQ:List RO:=[
 n 7 28,
 n 6 29,
 b .add 28 29 30 [0,1],
 a 0 3 31 [],
 l 31 32 [3],
 b .lss 30 32 33 [2,4]]
def Kc:List RO:=[
 L 4 2 36 [],
 L 3 3 37 [],
 L 3 5 38 [],
 n 7 39,
 n 7 40,
 n 6 41,
 b .add 40 41 42 [4,5],
 o (.callF 24 [(t 36),(t 37),(t 38),(t 39),(t 42)]) 43 [0,1,2,3,6],
 m 43 8 (k [7,7] 7)]
def d11r6:List RO:=Kc.map bare
def aaR:List RO:=[
 a 1 2 44 [],
 l 44 45 [0],
 a 0 3 46 [],
 l 46 47 [2],
 n 7 48,
 n 7 49,
 n 6 50,
 b .add 49 50 51 [5,6],
 o (.call 25 [(t 45),(t 47),(t 48),(t 51)]) 52 [1,3,4,7],
 m 52 9 (k [8,8] 8)]
def aaS:List RO:=[
 o (.bP (i 0)) 10 []]
def aaT:List RO:=[
 n 10 53,
 n 8 54,
 o (.len (t 54)) 55 [1],
 b .lss 53 55 56 [0,2]]
def RL:List RO:=[
 a 2 5 59 [],
 l 59 60 [0],
 n 9 61,
 n 10 62,
 b .add 61 62 63 [2,3],
 n 8 64,
 n 10 65,
 x 4 64 65 66 [5,6],
 L 4 66 67 [7],
 x 4 60 63 68 (k [1,4] 8),
 S 4 68 67 (k [9,8] 8)]
def RM:List RO:=[
 n 10 57,
 o (.bin .add (t 57) (i 1)) 58 [0],
 m 58 10 [1,0,1]]
def RN:List RO:=[
 n 7 34,
 o (.bin .add (t 34) (i 1)) 35 [0],
 m 35 7 [1,0,1]]
def RP:List RO:=[
 n 6 26,
 o (.bin .add (t 26) (i 1)) 27 [0],
 m 27 6 [1,0,1]]
def RQ:List RO:=[
 L 3 5 69 [],
 S 3 4 69 [0,0]]
def d11:DC:=(j (y aaL)
 (j (Y aaM)
 (j (j (y aaN)
 (.block 0 (.loop (j (j (y aaO)
 (.cond (.tmp 25) .skip
 (.exit 0)))
 (j (.block 1 (j (y aaP)
 (.block 2 (.loop (j (j (y aaQ)
 (.cond (.tmp 33) .skip
 (.exit 2)))
 (j (.block 3 (j (y d11r6)
 (j (y aaR)
 (j (y aaS)
 (.block 4 (.loop (j (j (y aaT)
 (.cond (.tmp 56) .skip
 (.exit 4)))
 (j (.block 5 (Y RL))
 (y RM)))))))))
 (y RN)))))))
 (y RP))))))
 (j (y RQ)
 .ret))))
def RU:List bN:=[.cell 4 3 true]
theorem c11 [Laid]:aQ Tryz.prog 11 70 d11 RU:=⟨Tryz.f11,by kernel_rfl,by kernel_rfl,by kernel_rfl,by kernel_rfl,by kernel_rfl⟩
def aaU:List RO:=[
 o (.bP (.cm (.v (.bool false)))) 4 []]
def aaV:List RO:=[
 n 0 6,
 o (.len (t 6)) 7 [0],
 n 1 8,
 o (.len (t 8)) 9 [2],
 b .neq 7 9 10 [1,3]]
def d40r2:List RO:=[
 o (.bP (.cm (.v (.bool false)))) 4 []]
def aaW:List RO:=[
 o (.bP (i 0)) 5 []]
def aaX:List RO:=[
 n 5 11,
 n 0 12,
 o (.len (t 12)) 13 [1],
 b .lss 11 13 14 [0,2]]
def aaY:List RO:=[
 n 0 17,
 n 5 18,
 x 4 17 18 19 [0,1],
 L 4 19 20 [2],
 n 1 21,
 n 5 22,
 x 4 21 22 23 [4,5],
 L 4 23 24 [6],
 o (.eqT true true [(.int .i64),(.int .i64),(.int .i64),(.int .i64)] (t 20) (t 24)) 25 [3,7]]
def d40r6:List RO:=[
 o (.bP (.cm (.v (.bool false)))) 4 []]
def aaZ:List RO:=[
 n 5 15,
 o (.bin .add (t 15) (i 1)) 16 [0],
 m 16 5 [1,0,1]]
def aa0:List RO:=[
 o (.bP (.cm (.v (.bool true)))) 4 []]
def d40:DC:=(j (y aaU)
 (j (j (y aaV)
 (.cond (.tmp 10) (j (y d40r2)
 .ret)
 .skip))
 (j (j (y aaW)
 (.block 0 (.loop (j (j (y aaX)
 (.cond (.tmp 14) .skip
 (.exit 0)))
 (j (.block 1 (j (Y aaY)
 (.cond (.tmp 25) (j (y d40r6)
 .ret)
 .skip)))
 (y aaZ))))))
 (j (y aa0)
 .ret))))
def RW:List bN:=[.slot 4]
theorem c40 [Laid]:aQ Tryz.prog 40 26 d40 RW:=⟨Tryz.f40,by kernel_rfl,by kernel_rfl,by kernel_rfl,by kernel_rfl,by kernel_rfl⟩
def aa1:List RO:=[
 o (.box (t 0)) 2 [],
 o (.box (t 1)) 3 [],
 o (.bP (.cm (.v (.bool false)))) 4 []]
def aa2:List RO:=[
 a 0 2 5 [],
 l 5 6 [0],
 a 0 3 7 [],
 l 7 8 [2],
 b .eql 6 8 9 [1,3],
 m 9 10 [4],
 u 1 2 11 10 true [5],
 v 11 12 10 true [6,5],
 u 1 3 13 10 true [5],
 v 13 14 10 true [8,5],
 g (.bin .eql (t 12) (t 14)) 15 10 true [7,9,5],
 q 10 15 16 [5,10],
 m 16 17 [11,5],
 u 2 2 18 17 true [12],
 v 18 19 17 true [13,12],
 u 2 3 20 17 true [12],
 v 20 21 17 true [15,12],
 g (.call 40 [(t 19),(t 21)]) 22 17 true [14,16,12,12],
 q 17 22 23 [12,17],
 m 23 4 (k [18,17] 18)]
def d17:DC:=(j (y aa1)
 (j (y aa2)
 .ret))
def RX:List bN:=[.slot 4]
theorem c17 [Laid]:aQ Tryz.prog 17 24 d17 RX:=⟨Tryz.f17,by kernel_rfl,by kernel_rfl,by kernel_rfl,by kernel_rfl,by kernel_rfl⟩
def GS:List RO:=[
 o (.box (t 0)) 4 [],
 o (.alloc [.aI,.aI,(.v (.int .i64 0))]) 8 []]
def C5:List RO:=[
 L 3 4 10 [],
 o (.alloc [.aI,.aI,(.v (.int .i64 0))]) 9 [],
 S 3 9 10 [1,0,0,1]]
def RY:List RO:=[
 o (.bslice 0 3 [] []) 11 [],
 a 0 4 12 [],
 l 12 13 [1],
 n 1 14,
 o (.slice 3 (t 13) none (some (t 14))) 15 [2,3],
 o (.append 70 3 40 (t 11) (t 15)) 16 [0,4],
 n 3 17,
 o (.append 70 3 40 (t 16) (t 17)) 18 [5,6,5],
 a 0 4 19 [],
 l 19 20 [8],
 n 1 21,
 n 2 22,
 b .add 21 22 23 [10,11],
 o (.slice 3 (t 20) (some (t 23)) none) 24 [9,12],
 o (.append 70 3 40 (t 18) (t 24)) 25 [7,13,7],
 a 0 9 26 (k [] 14),
 S 1 26 25 (k [15,14,14] 14)]
def aa3:List RO:=[
 L 3 9 27 [],
 S 3 8 27 [0,0]]
def d38:DC:=(j (y GS)
 (j (y C5)
 (j (.jT RY)
 (j (y aa3)
 .ret))))
def AU:List bN:=[.cell 8 3 true]
theorem c38 [Laid]:aQ Tryz.prog 38 28 d38 AU:=⟨Tryz.f38,by kernel_rfl,by kernel_rfl,by kernel_rfl,by kernel_rfl,by kernel_rfl⟩
def GU:List RO:=[
 o (.box (t 0)) 1 [],
 o (.alloc [.aI,.aI,(.v (.int .i64 0))]) 2 []]
def GV:List RO:=[
 a 4 1 3 [],
 L 3 3 4 [0],
 a 7 1 5 [],
 l 5 6 [2],
 a 8 1 7 [],
 l 7 8 [4],
 a 9 1 9 [],
 l 9 10 [6],
 o (.call 38 [(t 4),(t 6),(t 8),(t 10)]) 11 [1,3,5,7],
 S 3 2 11 (k [8,8] 8)]
def d14:DC:=(j (y GU)
 (j (y GV)
 .ret))
def AV:List bN:=[.cell 2 3 true]
theorem c14 [Laid]:aQ Tryz.prog 14 12 d14 AV:=⟨Tryz.f14,by kernel_rfl,by kernel_rfl,by kernel_rfl,by kernel_rfl,by kernel_rfl⟩
def aa4:List RO:=[
 o (.box (t 0)) 1 [],
 o (.alloc [(.v (.int .i64 0)),(.v (.int .i64 0)),(.v (.int .i64 0))]) 2 []]
def aa5:List RO:=[
 a 7 1 3 [],
 l 3 4 [0],
 a 8 1 5 [],
 l 5 6 [2],
 a 9 1 7 [],
 l 7 8 [4],
 o (.len (t 8)) 9 [5],
 o (.build [(.v (.int .i64 0)),(.v (.int .i64 0)),(.v (.int .i64 0))] [(0,1,(t 4)),(1,1,(t 6)),(2,1,(t 9))]) 10 [1,3,6],
 S 3 2 10 (k [7] 7)]
def d15:DC:=(j (y aa4)
 (j (y aa5)
 .ret))
def RZ:List bN:=[.cell 2 3 true]
theorem c15 [Laid]:aQ Tryz.prog 15 11 d15 RZ:=⟨Tryz.f15,by kernel_rfl,by kernel_rfl,by kernel_rfl,by kernel_rfl,by kernel_rfl⟩
def d9r0:List RO:=[
 o (.box (t 0)) 1 [],
 o (.bP (.cm (.v (.bool false)))) 2 []]
def xb:List RO:=[
 a 0 1 3 [],
 a 3 3 4 [0],
 l 4 5 [1],
 o (.len (t 5)) 6 [2],
 o (.bin .gtr (t 6) (i 14)) 7 [3],
 m 7 8 [4],
 u 0 1 9 8 false [5],
 u 1 9 10 8 false [6,5],
 v 10 11 8 false [7,5],
 g (.bin .gtr (t 11) (i 8)) 12 8 false [8,5],
 p 8 12 13 [5,9],
 m 13 14 [10,5],
 u 0 1 15 14 false [11],
 u 0 15 16 14 false [12,11],
 v 16 17 14 false [13,11],
 g (.bin .gtr (t 17) (i 5)) 18 14 false [14,11],
 p 14 18 19 [11,15],
 m 19 20 [16,11],
 u 0 1 21 20 false [17],
 g (.load 4 true (t 21)) 22 20 false [18,17],
 g (.call 20 [(t 22)]) 23 20 false [19,17,17],
 g (.un .not (t 23)) 24 20 false [20,17],
 p 20 24 25 [17,21],
 m 25 26 [22,20],
 u 4 1 27 26 false [23],
 u 0 27 28 26 false [24,23],
 v 28 29 26 false [25,23],
 g (.len (t 29)) 30 26 false [26,23],
 g (.bin .gtr (t 30) (i 4)) 31 26 false [27,23],
 p 26 31 32 [23,28],
 m 32 33 [29,23],
 u 9 1 34 33 false [30],
 v 34 35 33 false [31,30],
 g (.len (t 35)) 36 33 false [32,30],
 g (.bin .gtr (t 36) (i 3)) 37 33 false [33,30],
 p 33 37 38 [30,34],
 m 38 39 [35,30],
 u 4 1 40 39 false [36],
 g (.load 3 true (t 40)) 41 39 false [37,36],
 u 0 1 42 39 false [36],
 u 0 42 43 39 false [39,36],
 v 43 44 39 false [40,36],
 g (.call 21 [(t 41),(t 44)]) 45 39 false [38,41,36,36],
 g (.un .not (t 45)) 46 39 false [42,36],
 p 39 46 47 [36,43],
 m 47 48 [44,42],
 u 7 1 49 48 false [45],
 v 49 50 48 false [46,45],
 g (.bin .lss (t 50) (i 0)) 51 48 false [47,45],
 p 48 51 52 [45,48],
 m 52 53 [49,45],
 u 8 1 54 53 false [50],
 v 54 55 53 false [51,50],
 g (.bin .lss (t 55) (i 0)) 56 53 false [52,50],
 p 53 56 57 [50,53],
 m 57 58 [54,50],
 u 7 1 59 58 false [55],
 v 59 60 58 false [56,55],
 u 4 1 61 58 false [55],
 u 0 61 62 58 false [58,55],
 v 62 63 58 false [59,55],
 g (.len (t 63)) 64 58 false [60,55],
 g (.bin .gtr (t 60) (t 64)) 65 58 false [57,61,55],
 p 58 65 66 [55,62],
 m 66 67 [63,55],
 u 8 1 68 67 false [64],
 v 68 69 67 false [65,64],
 u 4 1 70 67 false [64],
 u 0 70 71 67 false [67,64],
 v 71 72 67 false [68,64],
 g (.len (t 72)) 73 67 false [69,64],
 u 7 1 74 67 false [64],
 v 74 75 67 false [71,64],
 g (.bin .sub (t 73) (t 75)) 76 67 false [70,72,64],
 g (.bin .gtr (t 69) (t 76)) 77 67 false [66,73,64],
 p 67 77 78 [64,74]]
def d9r2:List RO:=[
 o (.bP (.cm (.v (.bool false)))) 2 []]
def d9r3:List RO:=[
 L 10 1 79 [],
 o (.call 14 [(t 79)]) 80 [0],
 a 0 1 81 [],
 a 0 81 82 [2],
 l 82 83 [3],
 o (.call 21 [(t 80),(t 83)]) 84 [1,4,1],
 m 84 85 [5,5],
 u 0 1 86 85 true [6],
 g (.load 4 true (t 86)) 87 85 true [7,6],
 u 4 1 88 85 true [6],
 u 1 88 89 85 true [9,6],
 v 89 90 85 true [10,6],
 g (.call 22 [(t 87),(t 90)]) 91 85 true [8,11,6,6],
 q 85 91 92 [6,12],
 m 92 2 (k [13,12] 13)]
def d9:DC:=(j (y d9r0)
 (j (j (y xb)
 (.cond (.tmp 78) (j (y d9r2)
 .ret)
 .skip))
 (j (Y d9r3)
 .ret)))
def R5:List bN:=[.slot 2]
theorem c9 [Laid]:aQ Tryz.prog 9 93 d9 R5:=⟨Tryz.f9,by kernel_rfl,by kernel_rfl,by kernel_rfl,by kernel_rfl,by kernel_rfl⟩
def aa6:List RO:=[
 o (.bP (.cm (.v (.bool false)))) 0 []]
def aa7:List RO:=[
 o (.build [(.v (.int .i64 0)),(.v (.int .i64 0)),(.v (.int .i64 0))] [(0,1,(i 1)),(1,1,(i 1)),(2,1,(i 1))]) 15 [],
 o (.alloc [(.v (.int .i64 0)),(.v (.int .i64 0)),(.v (.int .i64 0))]) 1 [],
 S 3 1 15 [1,0,0,1]]
def aa8:List RO:=[
 o (.build [(.v (.int .i64 0)),(.v (.int .i64 0)),(.v (.int .i64 0))] [(0,1,(i 2)),(1,1,(i 0)),(2,1,(i 2))]) 17 [],
 L 3 1 18 [],
 o (.call 18 [(t 17),(t 18),(i 7)]) 19 [0,1],
 m 19 16 [2],
 e 0 16 20 [3],
 e 1 16 21 [3],
 o (.alloc [(.v (.int .i64 0)),(.v (.int .i64 0)),(.v (.int .i64 0))]) 2 [],
 S 3 2 20 [6,4,2,0,1,2,3,4,6],
 m 21 3 (k [5,7] 7)]
def aa9:List RO:=[
 o (.build [(.v (.int .i64 0)),(.v (.int .i64 0)),(.v (.int .i64 0))] [(0,1,(i 1)),(1,1,(i 4)),(2,1,(i 6))]) 23 [],
 L 3 1 24 [],
 o (.call 18 [(t 23),(t 24),(i 7)]) 25 [0,1],
 m 25 22 [2],
 e 0 22 26 [3],
 e 1 22 27 [3],
 o (.alloc [(.v (.int .i64 0)),(.v (.int .i64 0)),(.v (.int .i64 0))]) 4 [],
 S 3 4 26 [6,4,2,0,1,2,3,4,6],
 m 27 5 (k [5,7] 7)]
def aba:List RO:=[
 o (.build [(.v (.int .i64 0)),(.v (.int .i64 0)),(.v (.int .i64 0))] [(1,1,(i 2)),(2,1,(i 4))]) 29 [],
 L 3 1 30 [],
 o (.call 18 [(t 29),(t 30),(i 7)]) 31 [0,1],
 m 31 28 [2],
 e 0 28 32 [3],
 e 1 28 33 [3],
 o (.alloc [(.v (.int .i64 0)),(.v (.int .i64 0)),(.v (.int .i64 0))]) 6 [],
 S 3 6 32 [6,4,2,0,1,2,3,4,6],
 m 33 7 (k [5,7] 7)]
def abb:List RO:=[
 o (.build [(.v (.int .i64 0)),(.v (.int .i64 0)),(.v (.int .i64 0))] [(1,1,(i 0)),(2,1,(i 1))]) 35 [],
 L 3 1 36 [],
 o (.call 18 [(t 35),(t 36),(i 7)]) 37 [0,1],
 m 37 34 [2],
 e 0 34 38 [3],
 e 1 34 39 [3],
 o (.alloc [(.v (.int .i64 0)),(.v (.int .i64 0)),(.v (.int .i64 0))]) 8 [],
 S 3 8 38 [6,4,2,0,1,2,3,4,6],
 m 39 9 (k [5,7] 7)]
def abc:List RO:=[
 o (.build [(.v (.int .i64 0)),(.v (.int .i64 0)),(.v (.int .i64 0))] [(1,1,(i 4)),(2,1,(i 6))]) 41 [],
 o (.build [(.v (.int .i64 0)),(.v (.int .i64 0)),(.v (.int .i64 0))] [(0,1,(i 1)),(2,1,(i 2))]) 42 [],
 o (.call 18 [(t 41),(t 42),(i 7)]) 43 [0,1],
 m 43 40 [2],
 e 0 40 44 [3],
 e 1 40 45 [3],
 o (.alloc [(.v (.int .i64 0)),(.v (.int .i64 0)),(.v (.int .i64 0))]) 10 [],
 S 3 10 44 [6,4,2,0,1,2,3,4,6],
 m 45 11 (k [5,7] 7)]
def abd:List RO:=[
 o (.build [(.v (.int .i64 0)),(.v (.int .i64 0)),(.v (.int .i64 0)),.aI] [(0,1,(i 1)),(1,1,(i 1))]) 47 [],
 o (.build [(.v (.int .i64 0)),(.v (.int .i64 0)),.aI] []) 48 [],
 o (.bslice 1 1 [(.v (.int .i64 0))] [(0,1,(i 1))]) 49 [],
 o (.build [.aI,.aI,(.v (.int .i64 0))] [(1,1,(t 49))]) 50 [2],
 o (.build [(.v (.int .i64 0)),(.v (.int .i64 0)),(.v (.int .i64 0))] []) 51 [],
 o (.call 13 [(t 47),(t 48),(t 50),(t 51)]) 52 [0,1,3,4],
 m 52 46 [5],
 e 0 46 53 [6],
 e 1 46 54 [6],
 e 2 46 55 [6],
 o (.alloc [(.v (.int .i64 0)),(.v (.int .i64 0)),.aI]) 12 [],
 S 3 12 53 [10,7,5,0,1,2,3,4,5,6,7,10],
 m 54 13 [8,11,0,1,2,3,4,5,6,7,8,10,11],
 m 55 14 (k [9,12] 12)]
def abe:List RO:=[
 n 3 56,
 m 56 57 [0],
 g (.load 3 true (t 2)) 58 57 true [1],
 g (.build [(.v (.int .i64 0)),(.v (.int .i64 0)),(.v (.int .i64 0))] [(0,1,(i 2)),(1,1,(i 0)),(2,1,(i 2))]) 59 57 true [1],
 g (.eqT false true [(.int .i64),(.int .i64),(.int .i64)] (t 58) (t 59)) 60 57 true [2,3,1],
 q 57 60 61 [1,4],
 m 61 62 [5,1],
 w 5 63 62 true [6],
 q 62 63 64 [6,7],
 m 64 65 [8,6],
 g (.load 3 true (t 4)) 66 65 true [9],
 g (.build [(.v (.int .i64 0)),(.v (.int .i64 0)),(.v (.int .i64 0))] [(0,1,(i 1)),(1,1,(i 4)),(2,1,(i 6))]) 67 65 true [9],
 g (.eqT false true [(.int .i64),(.int .i64),(.int .i64)] (t 66) (t 67)) 68 65 true [10,11,9],
 q 65 68 69 [9,12],
 m 69 70 [13,9],
 w 7 71 70 true [14],
 g (.un .not (t 71)) 72 70 true [15,14],
 q 70 72 73 [14,16],
 m 73 74 [17,14],
 w 9 75 74 true [18],
 g (.un .not (t 75)) 76 74 true [19,18],
 q 74 76 77 [18,20],
 m 77 78 [21,18],
 w 11 79 78 true [22],
 q 78 79 80 [22,23],
 m 80 81 [24,22],
 g (.load 3 true (t 10)) 82 81 true [25],
 g (.build [(.v (.int .i64 0)),(.v (.int .i64 0)),(.v (.int .i64 0))] [(1,1,(i 8)),(2,1,(i 10))]) 83 81 true [25],
 g (.eqT false true [(.int .i64),(.int .i64),(.int .i64)] (t 82) (t 83)) 84 81 true [26,27,25],
 q 81 84 85 [25,28],
 m 85 86 [29,25],
 w 14 87 86 true [30],
 g (.bin .eql (t 87) (i 13)) 88 86 true [31,30],
 q 86 88 89 [30,32],
 m 89 0 (k [33,30] 33)]
def d10:DC:=(j (y aa6)
 (j (y aa7)
 (j (y aa8)
 (j (y aa9)
 (j (y aba)
 (j (y abb)
 (j (y abc)
 (j (y abd)
 (j (y abe)
 .ret)))))))))
def R6:List bN:=[.slot 0]
theorem c10 [Laid]:aQ Tryz.prog 10 90 d10 R6:=⟨Tryz.f10,by kernel_rfl,by kernel_rfl,by kernel_rfl,by kernel_rfl,by kernel_rfl⟩
def abf:List RO:=[
 o (.bP (i 0)) 2 []]
def abg:List RO:=[
 n 0 3,
 o (.bin .rem (t 3) (i 2)) 4 [0],
 o (.bin .eql (t 4) (i 0)) 5 [1]]
def abh:List RO:=[
 n 0 6,
 o (.bin .quo (t 6) (i 2)) 7 [0],
 m 7 2 [1,0,1]]
def abi:List RO:=[
 n 0 8,
 o (.bin .sub (t 8) (i 1)) 9 [0],
 o (.bin .quo (t 9) (i 2)) 10 [1],
 o (.bin .add (t 10) (i 2)) 11 [2],
 m 11 2 [3,0,1,2,3]]
def d41:DC:=(j (y abf)
 (j (j (y abg)
 (.cond (.tmp 5) (j (y abh)
 .ret)
 .skip))
 (j (y abi)
 .ret)))
def Kd:List bN:=[.slot 2]
theorem c41 [Laid]:aQ Tryz.prog 41 12 d41 Kd:=⟨Tryz.f41,by kernel_rfl,by kernel_rfl,by kernel_rfl,by kernel_rfl,by kernel_rfl⟩
def abj:List RO:=[
 o (.box (t 0)) 3 [],
 o (.box (t 1)) 4 [],
 o (.alloc [(.v (.int .i64 0)),(.v (.int .i64 0)),(.v (.int .i64 0))]) 6 [],
 o (.bP (.cm (.v (.bool false)))) 7 []]
def pZ:List RO:=[
 a 0 3 9 [],
 l 9 10 [0],
 o (.bin .lss (t 10) (i 0)) 11 [1],
 m 11 12 [2],
 u 1 3 13 12 false [3],
 v 13 14 12 false [4,3],
 g (.bin .lss (t 14) (i 0)) 15 12 false [5,3],
 p 12 15 16 [3,6],
 m 16 17 [7,3],
 u 1 3 18 17 false [8],
 v 18 19 17 false [9,8],
 u 2 3 20 17 false [8],
 v 20 21 17 false [11,8],
 g (.bin .gtr (t 19) (t 21)) 22 17 false [10,12,8],
 p 17 22 23 [8,13],
 m 23 24 [14,8],
 u 2 3 25 24 false [15],
 v 25 26 24 false [16,15],
 w 2 27 24 false [15],
 g (.bin .geq (t 26) (t 27)) 28 24 false [17,18,15],
 p 24 28 29 [15,19],
 m 29 30 [20,15],
 u 0 4 31 30 false [21],
 v 31 32 30 false [22,21],
 g (.bin .lss (t 32) (i 0)) 33 30 false [23,21],
 p 30 33 34 [21,24],
 m 34 35 [25,21],
 u 1 4 36 35 false [26],
 v 36 37 35 false [27,26],
 g (.bin .lss (t 37) (i 0)) 38 35 false [28,26],
 p 35 38 39 [26,29],
 m 39 40 [30,26],
 u 2 4 41 40 false [31],
 v 41 42 40 false [32,31],
 g (.bin .lss (t 42) (i 0)) 43 40 false [33,31],
 p 40 43 44 [31,34],
 m 44 45 [35,31],
 u 2 4 46 45 false [36],
 v 46 47 45 false [37,36],
 g (.bin .gtr (t 47) (i 60)) 48 45 false [38,36],
 p 45 48 49 [36,39],
 m 49 50 [40,36],
 u 0 4 51 50 false [41],
 v 51 52 50 false [42,41],
 w 2 53 50 false [41],
 g (.bin .sub (t 53) (i 1)) 54 50 false [44,41],
 g (.bin .quo (t 54) (i 2)) 55 50 false [45,41],
 g (.bin .gtr (t 52) (t 55)) 56 50 false [43,46,41],
 p 50 56 57 [41,47],
 m 57 58 [48,41],
 u 1 4 59 58 false [49],
 v 59 60 58 false [50,49],
 w 2 61 58 false [49],
 g (.bin .sub (t 61) (i 1)) 62 58 false [52,49],
 g (.bin .quo (t 62) (i 2)) 63 58 false [53,49],
 u 0 4 64 58 false [49],
 v 64 65 58 false [55,49],
 g (.bin .sub (t 63) (t 65)) 66 58 false [54,56,49],
 g (.bin .gtr (t 60) (t 66)) 67 58 false [51,57,49],
 p 58 67 68 [49,58]]
def abk:List RO:=[
 o (.build [(.v (.int .i64 0)),(.v (.int .i64 0)),(.v (.int .i64 0))] []) 69 [],
 S 3 6 69 [0,0],
 o (.bP (.cm (.v (.bool false)))) 7 [1,0,1]]
def abl:List RO:=[
 a 2 3 70 [],
 l 70 71 [0],
 o (.call 41 [(t 71)]) 72 [1],
 a 0 4 73 [],
 l 73 74 [3],
 b .leq 72 74 75 [2,4]]
def abm:List RO:=[
 L 3 3 76 [],
 S 3 6 76 [0,0],
 o (.bP (.cm (.v (.bool true)))) 7 [1,0,1]]
def abn:List RO:=[
 a 1 3 77 [],
 l 77 78 [0],
 o (.bin .quo (t 78) (i 2)) 79 [1],
 a 0 4 80 [],
 l 80 81 [3],
 a 1 4 82 [],
 l 82 83 [5],
 b .add 81 83 84 [4,6],
 b .geq 79 84 85 [2,7]]
def abo:List RO:=[
 a 2 4 86 [],
 l 86 87 [0],
 a 1 4 88 [],
 l 88 89 [2],
 b .sub 87 89 90 [1,3],
 o (.bin .mul (i 2) (t 90)) 91 [4],
 m 91 8 (k [5] 5)]
def abp:List RO:=[
 a 0 3 92 [],
 l 92 93 [0],
 a 1 3 94 [],
 l 94 95 [2],
 n 8 96,
 b .add 95 96 97 [3,4],
 a 2 3 98 [],
 l 98 99 [6],
 n 8 100,
 b .add 99 100 101 [7,8],
 o (.build [(.v (.int .i64 0)),(.v (.int .i64 0)),(.v (.int .i64 0))] [(0,1,(t 93)),(1,1,(t 97)),(2,1,(t 101))]) 102 [1,5,9],
 S 3 6 102 (k [10] 10),
 o (.bP (.cm (.v (.bool true)))) 7 (k [11] 11)]
def abq:List RO:=[
 o (.build [(.v (.int .i64 0)),(.v (.int .i64 0)),(.v (.int .i64 0))] []) 103 [],
 S 3 6 103 [0,0],
 o (.bP (.cm (.v (.bool false)))) 7 [1,0,1]]
def d18:DC:=(j (y abj)
 (j (j (y pZ)
 (.cond (.tmp 68) (j (y abk)
 .ret)
 .skip))
 (j (j (Y abl)
 (.cond (.tmp 75) (j (y abm)
 .ret)
 .skip))
 (j (j (y abn)
 (.cond (.tmp 85) (j (y abo)
 (j (y abp)
 .ret))
 .skip))
 (j (y abq)
 .ret)))))
def AW:List bN:=[.cell 6 3 true,.slot 7]
theorem c18 [Laid]:aQ Tryz.prog 18 104 d18 AW:=⟨Tryz.f18,by kernel_rfl,by kernel_rfl,by kernel_rfl,by kernel_rfl,by kernel_rfl⟩
def GW:List RO:=[
 o (.bP (i 0)) 4 []]
def GX:List RO:=[
 n 0 5,
 n 1 6,
 b .mul 5 6 7 [0,1],
 n 1 8,
 o (.bin .add (t 8) (i 1)) 9 [3],
 b .mul 7 9 10 [2,4],
 o (.bin .quo (t 10) (i 2)) 11 [5],
 m 11 4 (k [6] 6)]
def d31:DC:=(j (y GW)
 (j (y GX)
 .ret))
def AX:List bN:=[.slot 4]
theorem c31 [Laid]:aQ Tryz.prog 31 12 d31 AX:=⟨Tryz.f31,by kernel_rfl,by kernel_rfl,by kernel_rfl,by kernel_rfl,by kernel_rfl⟩
def R7:List RO:=[
 o (.box (t 0)) 4 [],
 o (.box (t 1)) 5 [],
 o (.box (t 2)) 6 [],
 o (.box (t 3)) 7 [],
 o (.alloc [(.v (.int .i64 0)),(.v (.int .i64 0)),.aI]) 8 [],
 o (.bP (i 0)) 9 [],
 o (.bP (i 0)) 10 [5]]
def R8:List RO:=[
 a 0 6 23 [],
 l 23 24 [0],
 o (.len (t 24)) 25 [1],
 m 25 11 [2,0,1,2]]
def R9:List RO:=[
 a 0 7 26 [],
 l 26 27 [0],
 o (.bin .lss (t 27) (i 0)) 28 [1],
 m 28 29 [2],
 u 1 7 30 29 false [3],
 v 30 31 29 false [4,3],
 g (.bin .lss (t 31) (i 0)) 32 29 false [5,3],
 p 29 32 33 [3,6],
 m 33 34 [7,3],
 u 2 7 35 34 false [8],
 v 35 36 34 false [9,8],
 g (.bin .lss (t 36) (i 0)) 37 34 false [10,8],
 p 34 37 38 [8,11],
 m 38 39 [12,8],
 u 2 7 40 39 false [13],
 v 40 41 39 false [14,13],
 w 11 42 39 false [13],
 g (.bin .gtr (t 41) (t 42)) 43 39 false [15,16,13],
 p 39 43 44 [13,17],
 m 44 45 [18,13],
 u 0 7 46 45 false [19],
 v 46 47 45 false [20,19],
 w 11 48 45 false [19],
 u 2 7 49 45 false [19],
 v 49 50 45 false [23,19],
 g (.bin .sub (t 48) (t 50)) 51 45 false [22,24,19],
 g (.bin .gtr (t 47) (t 51)) 52 45 false [21,25,19],
 p 45 52 53 [19,26]]
def d13r3:List RO:=[
 o (.build [(.v (.int .i64 0)),(.v (.int .i64 0)),.aI] []) 54 [],
 S 3 8 54 [0,0],
 o (.bP (i 0)) 9 [1,0,1],
 o (.bP (i 2)) 10 [2,0,1,2]]
def Sa:List RO:=[
 a 0 5 55 [],
 l 55 56 [0],
 a 1 4 57 [],
 l 57 58 [2],
 b .neq 56 58 59 [1,3],
 m 59 60 [4],
 u 1 5 61 60 false [5],
 v 61 62 60 false [6,5],
 g (.bin .lss (t 62) (i 1)) 63 60 false [7,5],
 p 60 63 64 [5,8],
 m 64 65 [9,5],
 u 1 5 66 65 false [10],
 v 66 67 65 false [11,10],
 g (.bin .rem (t 67) (i 2)) 68 65 false [12,10],
 g (.bin .eql (t 68) (i 0)) 69 65 false [13,10],
 p 65 69 70 [10,14],
 m 70 71 [15,10],
 u 1 5 72 71 false [16],
 v 72 73 71 false [17,16],
 g (.bin .sub (t 73) (i 1)) 74 71 false [18,16],
 g (.bin .quo (t 74) (i 2)) 75 71 false [19,16],
 w 11 76 71 false [16],
 u 2 7 77 71 false [16],
 v 77 78 71 false [22,16],
 g (.bin .sub (t 76) (t 78)) 79 71 false [21,23,16],
 g (.bin .sub (t 75) (t 79)) 80 71 false [20,24,16],
 u 1 7 81 71 false [16],
 v 81 82 71 false [26,16],
 g (.bin .neq (t 80) (t 82)) 83 71 false [25,27,16],
 p 71 83 84 [16,28],
 m 84 85 [29,16],
 u 2 5 86 85 false [30],
 v 86 87 85 false [31,30],
 g (.len (t 87)) 88 85 false [32,30],
 u 1 4 89 85 false [30],
 v 89 90 85 false [34,30],
 u 1 5 91 85 false [30],
 v 91 92 85 false [36,30],
 g (.call 31 [(t 90),(t 92)]) 93 85 false [35,37,30,30],
 g (.bin .neq (t 88) (t 93)) 94 85 false [33,38,30],
 p 85 94 95 [30,39]]
def abr:List RO:=[
 o (.build [(.v (.int .i64 0)),(.v (.int .i64 0)),.aI] []) 96 [],
 S 3 8 96 [0,0],
 o (.bP (i 0)) 9 [1,0,1],
 o (.bP (i 13)) 10 [2,0,1,2]]
def abt:List RO:=[
 L 3 6 97 [],
 o (.call 32 [(t 97)]) 98 [0],
 o (.alloc [(.v (.int .i64 0)),.aI,.aI]) 12 [],
 S 3 12 98 [2,1,1,0,1,2]]
def abu:List RO:=[
 a 1 4 99 [],
 l 99 100 [0],
 a 0 12 101 [],
 l 101 102 [2],
 o (.build [(.v (.int .i64 0)),(.v (.int .i64 0)),.aI] [(0,1,(t 100)),(1,1,(t 102))]) 103 [1,3],
 o (.alloc [(.v (.int .i64 0)),(.v (.int .i64 0)),.aI]) 13 [],
 S 3 13 103 (k [5,4] 5)]
def abv:List RO:=[
 a 1 4 104 [],
 l 104 105 [0],
 a 0 12 106 [],
 l 106 107 [2],
 o (.call 31 [(t 105),(t 107)]) 108 [1,3],
 o (.mkSlice 57 4 32 [(.int .i64 0),(.int .i64 0),(.int .i64 0),(.int .i64 0)] (t 108)) 109 [4,4],
 o (.alloc [.aI]) 14 [],
 S 1 14 109 (k [6,5,4] 6)]
def abw:List RO:=[
 l 14 110 [],
 a 2 13 111 [0],
 S 1 111 110 [1,0,0]]
def Sb:List RO:=[
 o (.alloc [(.v (.int .i64 0))]) 15 [],
 s (.store 1 (t 15) (i 0)) [0,0]]
def Sc:List RO:=[
 a 0 12 112 [],
 l 112 113 [0],
 o (.call 33 [(t 113)]) 114 [1]]
def Sd:List RO:=[
 n 115 16]
def Se:List RO:=[
 n 116 17]
def Sf:List RO:=[
 n 16 117,
 a 0 12 118 [],
 l 118 119 [1],
 b .mul 117 119 120 [0,2],
 n 16 121,
 n 16 122,
 o (.bin .sub (t 122) (i 1)) 123 [5],
 b .mul 121 123 124 [4,6],
 o (.bin .quo (t 124) (i 2)) 125 [7],
 b .sub 120 125 126 [3,8],
 n 17 127,
 b .add 126 127 128 [9,10],
 n 16 129,
 b .sub 128 129 130 [11,12],
 a 1 4 131 [],
 l 131 132 [14],
 b .mul 130 132 133 [13,15],
 m 133 18 (k [16] 16)]
def Sg:List RO:=[
 L 3 7 135 [],
 n 16 136,
 n 17 137,
 a 1 5 138 [],
 l 138 139 [3],
 o (.call 34 [(t 135),(t 136),(t 137),(t 139)]) 140 [0,1,2,4],
 m 140 134 [5],
 e 0 134 141 [6],
 e 1 134 142 [6],
 e 2 134 143 [6],
 m 141 19 (k [7,5] 7),
 m 142 20 [8,10,0,1,2,3,4,5,6,7,8,10],
 m 143 21 (k [9,11] 11)]
def Si:List RO:=[
 n 21 144,
 o (.un .not (t 144)) 145 [0]]
def d13r17:List RO:=[
 l 15 146 [],
 l 14 147 [],
 n 18 148,
 n 18 149,
 a 1 4 150 [],
 l 150 151 [4],
 b .add 149 151 152 [3,5],
 o (.slice 4 (t 147) (some (t 148)) (some (t 152))) 153 [1,2,6],
 L 4 4 154 [],
 L 3 12 155 [],
 L 3 13 156 [],
 n 16 157,
 n 17 158,
 o (.call 35 [(t 154),(t 155),(t 156),(t 157),(t 158)]) 159 [8,9,10,11,12],
 o (.copy 4 (t 153) (t 159)) 160 [7,13,13],
 b .add 146 160 161 [0,14],
 S 1 15 161 (k [15,14] 15)]
def Sj:List RO:=[
 a 1 4 162 [],
 l 162 163 [0],
 o (.bP (i 0)) 164 []]
def Sk:List RO:=[
 b .lss 164 163 165 []]
def Sl:List RO:=[
 n 164 166,
 m 166 22 [0,0]]
def Sm:List RO:=[
 l 14 167 [],
 n 18 168,
 n 22 169,
 b .add 168 169 170 [1,2],
 L 4 4 171 [],
 L 3 12 172 [],
 L 3 5 173 [],
 n 22 174,
 n 19 175,
 n 20 176,
 o (.build [(.v (.int .i64 0)),(.v (.int .i64 0)),(.v (.int .i64 0))] [(0,1,(t 174)),(1,1,(t 175)),(2,1,(t 176))]) 177 [7,8,9],
 o (.call 37 [(t 173),(t 177)]) 178 [6,10],
 n 16 179,
 n 17 180,
 n 16 181,
 n 19 182,
 b .sub 181 182 183 [14,15],
 o (.call 36 [(t 171),(t 172),(t 178),(t 179),(t 180),(t 183)]) 184 [4,5,11,12,13,16,11],
 x 4 167 170 185 (k [0,3] 17),
 S 4 185 184 (k [18,17,17] 17)]
def Sn:List RO:=[
 o (.bin .add (t 164) (i 1)) 186 [],
 m 186 164 [0]]
def Ke:List RO:=[
 L 3 13 187 [],
 l 15 188 [],
 S 3 8 187 [0,0],
 m 188 9 [1,2,0,1,2],
 o (.bP (i 0)) 10 [3,0,1,2,3]]
def d13:DC:=(j (y R7)
 (j (y R8)
 (j (j (y R9)
 (.cond (.tmp 53) (j (y d13r3)
 .ret)
 .skip))
 (j (j (Y Sa)
 (.cond (.tmp 95) (j (y abr)
 .ret)
 .skip))
 (j (y abt)
 (j (y abu)
 (j (y abv)
 (j (y abw)
 (j (y Sb)
 (j (j (y Sc)
 (.block 0 (.wP (.tmp 114) [115,116] (j (y Sd)
 (y Se))
 (.block 1 (j (y Sf)
 (j (y Sg)
 (j (j (y Si)
 (.cond (.tmp 145) (j (.jT d13r17)
 (.exit 1))
 .skip))
 (j (y Sj)
 (.block 2 (.loop (j (y Sk)
 (j (.cond (.tmp 165) .skip
 (.exit 2))
 (j (.block 3 (j (y Sl)
 (Y Sm)))
 (y Sn))))))))))))))
 (j (.jT Ke)
 .ret)))))))))))
def Kf:List bN:=[.cell 8 3 true,.slot 9,.slot 10]
theorem c13 [Laid]:aQ Tryz.prog 13 189 d13 Kf:=⟨Tryz.f13,by kernel_rfl,by kernel_rfl,by kernel_rfl,by kernel_rfl,by kernel_rfl⟩
def GY:List RO:=[
 o (.box (t 0)) 1 [],
 o (.bP (.cm (.v (.raw (Go.Value.nilFunc))))) 2 []]
def GZ:List RO:=[
 o (.mkFn (.func 53) [(t 1)]) 3 [],
 m 3 2 [0,0]]
def d33:DC:=(j (y GY)
 (j (y GZ)
 .ret))
def AY:List bN:=[.slot 2]
theorem c33 [Laid]:aQ Tryz.prog 33 4 d33 AY:=⟨Tryz.f33,by kernel_rfl,by kernel_rfl,by kernel_rfl,by kernel_rfl,by kernel_rfl⟩
def G0:List RO:=[
 l 1 5 [],
 o (.bP (i 0)) 6 []]
def Ha:List RO:=[
 b .lss 6 5 7 []]
def Hb:List RO:=[
 n 6 8,
 m 8 3 [0,0]]
def Hc:List RO:=[
 o (.bP (i 0)) 4 []]
def Hd:List RO:=[
 n 4 9,
 n 3 10,
 b .add 9 10 11 [0,1],
 l 1 12 [],
 b .lss 11 12 13 [2,3]]
def He:List RO:=[
 n 0 16,
 n 4 17,
 n 4 18,
 n 3 19,
 b .add 18 19 20 [2,3],
 o (.callv (t 16) [(t 17),(t 20)]) 21 [0,1,4],
 o (.un .not (t 21)) 22 [5]]
def Hf:List RO:=[
 n 4 14,
 o (.bin .add (t 14) (i 1)) 15 [0],
 m 15 4 [1,0,1]]
def Hg:List RO:=[
 o (.bin .add (t 6) (i 1)) 23 [],
 m 23 6 [0]]
def d53:DC:=(j (y G0)
 (.block 0 (.loop (j (y Ha)
 (j (.cond (.tmp 7) .skip
 (.exit 0))
 (j (.block 1 (j (y Hb)
 (j (y Hc)
 (.block 2 (.loop (j (j (y Hd)
 (.cond (.tmp 13) .skip
 (.exit 2)))
 (j (.block 3 (j (y He)
 (.cond (.tmp 22) .ret
 .skip)))
 (y Hf))))))))
 (y Hg)))))))
def AZ:List bN:=[]
theorem c53 [Laid]:aQ Tryz.prog 53 24 d53 AZ:=⟨Tryz.f53,by kernel_rfl,by kernel_rfl,by kernel_rfl,by kernel_rfl,by kernel_rfl⟩
def Hh:List RO:=[
 o (.box (t 0)) 4 [],
 o (.bP (i 0)) 8 [],
 o (.bP (i 0)) 9 [1],
 o (.bP (.cm (.v (.bool false)))) 10 [2]]
def Hi:List RO:=[
 a 2 4 17 [],
 l 17 18 [0],
 a 1 4 19 [],
 l 19 20 [2],
 b .sub 18 20 21 [1,3],
 o (.bin .mul (i 2) (t 21)) 22 [4],
 m 22 11 (k [5] 5)]
def Hj:List RO:=[
 n 11 23,
 o (.bslice 2 1 [(.v (.int .i64 0)),(.v (.int .i64 0))] [(0,1,(i 0)),(1,1,(t 23))]) 24 [0],
 o (.len (t 24)) 25 [1],
 o (.bP (i 0)) 26 []]
def Hk:List RO:=[
 b .lss 26 25 27 []]
def Hl:List RO:=[
 x 1 24 26 28 [],
 l 28 29 [0],
 m 29 13 [1,0,1]]
def Hm:List RO:=[
 n 1 30,
 n 13 31,
 b .sub 30 31 32 [0,1],
 n 2 33,
 n 13 34,
 b .sub 33 34 35 [3,4],
 o (.build [(.v (.int .i64 0)),(.v (.int .i64 0)),(.v (.int .i64 0))] [(1,1,(t 32)),(2,1,(t 35))]) 36 [2,5],
 o (.alloc [(.v (.int .i64 0)),(.v (.int .i64 0)),(.v (.int .i64 0))]) 14 [],
 S 3 14 36 (k [7,6] 7)]
def Hn:List RO:=[
 L 3 14 38 [],
 L 3 4 39 [],
 n 3 40,
 o (.call 18 [(t 38),(t 39),(t 40)]) 41 [0,1,2],
 m 41 37 [3],
 e 0 37 42 [4],
 e 1 37 43 [4],
 o (.alloc [(.v (.int .i64 0)),(.v (.int .i64 0)),(.v (.int .i64 0))]) 15 [],
 S 3 15 42 [7,5,3,0,1,2,3,4,5,7],
 m 43 16 (k [6,8] 8)]
def MM:List RO:=[
 n 16 44,
 m 44 45 [0],
 u 1 15 46 45 true [1],
 v 46 47 45 true [2,1],
 w 1 48 45 true [1],
 g (.bin .eql (t 47) (t 48)) 49 45 true [3,4,1],
 q 45 49 50 [1,5],
 m 50 51 [6,1],
 u 2 15 52 51 true [7],
 v 52 53 51 true [8,7],
 w 2 54 51 true [7],
 g (.bin .eql (t 53) (t 54)) 55 51 true [9,10,7],
 q 51 55 56 [7,11]]
def abx:List RO:=[
 a 1 14 57 [],
 l 57 58 [0],
 a 2 14 59 [],
 l 59 60 [2],
 m 58 8 [1,0,1],
 m 60 9 (k [3,4] 4),
 o (.bP (.cm (.v (.bool true)))) 10 (k [5] 5)]
def aby:List RO:=[
 o (.bin .add (t 26) (i 1)) 61 [],
 m 61 26 [0]]
def Sp:List RO:=[
 o (.bP (i 0)) 8 [],
 o (.bP (i 0)) 9 [0,0],
 o (.bP (.cm (.v (.bool false)))) 10 [1,0,1]]
def d34:DC:=(j (y Hh)
 (j (y Hi)
 (j (j (y Hj)
 (.block 0 (.loop (j (y Hk)
 (j (.cond (.tmp 27) .skip
 (.exit 0))
 (j (.block 1 (j (y Hl)
 (j (y Hm)
 (j (y Hn)
 (j (y MM)
 (.cond (.tmp 56) (j (Y abx)
 .ret)
 .skip))))))
 (y aby)))))))
 (j (y Sp)
 .ret))))
def xd:List bN:=[.slot 8,.slot 9,.slot 10]
theorem c34 [Laid]:aQ Tryz.prog 34 62 d34 xd:=⟨Tryz.f34,by kernel_rfl,by kernel_rfl,by kernel_rfl,by kernel_rfl,by kernel_rfl⟩
def Ho:List RO:=[
 o (.box (t 0)) 6 [],
 o (.box (t 1)) 7 [],
 o (.box (t 2)) 8 [],
 o (.alloc [(.v (.int .i64 0)),(.v (.int .i64 0)),(.v (.int .i64 0)),(.v (.int .i64 0))]) 12 []]
def vu:List RO:=[
 a 2 8 16 [],
 l 16 17 [0],
 o (.bin .lss (t 17) (i 0)) 18 [1],
 m 18 19 [2],
 u 2 8 20 19 false [3],
 v 20 21 19 false [4,3],
 u 3 6 22 19 false [3],
 v 22 23 19 false [6,3],
 g (.len (t 23)) 24 19 false [7,3],
 g (.bin .geq (t 21) (t 24)) 25 19 false [5,8,3],
 p 19 25 26 [3,9]]
def Hp:List RO:=[
 L 4 8 27 [],
 S 4 12 27 [0,0]]
def Hq:List RO:=[
 a 3 6 28 [],
 l 28 29 [0],
 a 2 8 30 [],
 l 30 31 [2],
 x 6 29 31 32 [1,3],
 L 6 32 33 [4],
 o (.alloc [(.v (.int .i64 0)),(.v (.int .i64 0)),(.v (.int .i64 0)),(.v (.int .i64 0)),(.v (.int .i64 0)),(.v (.int .i64 0))]) 13 [],
 S 6 13 33 (k [6,5] 6)]
def abz:List RO:=[
 a 0 13 34 [],
 l 34 35 [0],
 o (.bin .neq (t 35) (i 2)) 36 [1]]
def abA:List RO:=[
 a 3 8 37 [],
 l 37 38 [0],
 n 5 39,
 b .add 38 39 40 [1,2],
 a 3 8 41 [0,1,2,3],
 S 1 41 40 [4,3,0,1,2,3]]
def abB:List RO:=[
 L 4 8 42 [],
 S 4 12 42 [0,0]]
def abC:List RO:=[
 a 1 7 43 [],
 l 43 44 [0],
 o (.len (t 44)) 45 [1],
 o (.bP (i 0)) 46 []]
def abD:List RO:=[
 b .lss 46 45 47 []]
def abE:List RO:=[
 n 46 48,
 x 5 44 46 49 [],
 L 5 49 50 [1],
 o (.alloc [(.v (.int .i64 0)),(.v (.int .i64 0)),(.v (.int .i64 0)),(.v (.int .i64 0)),.aI]) 15 [],
 m 48 14 [0,0,1,2,3],
 S 5 15 50 (k [3,2,4] 4)]
def EH:List RO:=[
 a 0 15 51 [],
 l 51 52 [0],
 n 3 53,
 b .eql 52 53 54 [1,2],
 m 54 55 [3],
 u 1 15 56 55 true [4],
 v 56 57 55 true [5,4],
 w 4 58 55 true [4],
 g (.bin .eql (t 57) (t 58)) 59 55 true [6,7,4],
 q 55 59 60 [4,8],
 m 60 61 [9,4],
 u 2 15 62 61 true [10],
 v 62 63 61 true [11,10],
 u 2 13 64 61 true [10],
 v 64 65 61 true [13,10],
 g (.bin .eql (t 63) (t 65)) 66 61 true [12,14,10],
 q 61 66 67 [10,15]]
def Sq:List RO:=[
 n 14 68,
 a 3 8 69 [0],
 S 1 69 68 [1,0,0]]
def Kg:List RO:=[
 o (.bin .add (t 46) (i 1)) 70 [],
 m 70 46 [0]]
def Sr:List RO:=[
 L 4 8 71 [],
 S 4 12 71 [0,0]]
def d36:DC:=(j (y Ho)
 (j (j (y vu)
 (.cond (.tmp 26) (j (y Hp)
 .ret)
 .skip))
 (j (y Hq)
 (j (j (y abz)
 (.cond (.tmp 36) (j (y abA)
 (j (y abB)
 .ret))
 .skip))
 (j (j (y abC)
 (.block 0 (.loop (j (y abD)
 (j (.cond (.tmp 47) .skip
 (.exit 0))
 (j (.block 1 (j (y abE)
 (j (y EH)
 (.cond (.tmp 67) (y Sq)
 .skip))))
 (y Kg)))))))
 (j (y Sr)
 .ret))))))
def rC:List bN:=[.cell 12 4 true]
theorem c36 [Laid]:aQ Tryz.prog 36 72 d36 rC:=⟨Tryz.f36,by kernel_rfl,by kernel_rfl,by kernel_rfl,by kernel_rfl,by kernel_rfl⟩
def d4r0:List RO:=[
 o (.box (t 0)) 1 [],
 o (.bP (.cm (.v (.bool false)))) 2 []]
def d4r1:List RO:=[
 L 10 1 10 [],
 o (.call 9 [(t 10)]) 11 [0],
 o (.un .not (t 11)) 12 [1]]
def d4r2:List RO:=[
 o (.call 10 []) 13 [],
 m 13 2 [0,0,0]]
def d4r3:List RO:=[
 a 0 1 14 [],
 L 4 14 15 [0],
 a 4 1 16 [],
 L 3 16 17 [2],
 o (.call 12 [(t 17)]) 18 [3],
 o (.call 11 [(t 15),(t 18)]) 19 [1,4,4],
 o (.alloc [(.v (.int .i64 0)),(.v (.int .i64 0)),.aI]) 3 [],
 S 3 3 19 (k [6,5,5] 6)]
def d4r4:List RO:=[
 a 0 1 21 [],
 L 4 21 22 [0],
 L 3 3 23 [],
 L 10 1 24 [],
 o (.call 14 [(t 24)]) 25 [3],
 L 10 1 26 [],
 o (.call 15 [(t 26)]) 27 [5,4],
 o (.call 13 [(t 22),(t 23),(t 25),(t 27)]) 28 [1,2,4,6,6],
 m 28 20 [7],
 e 0 20 29 [8],
 e 1 20 30 [8],
 e 2 20 31 [8],
 o (.alloc [(.v (.int .i64 0)),(.v (.int .i64 0)),.aI]) 4 [],
 S 3 4 29 [12,9,7,0,1,2,3,4,5,6,7,8,9,12],
 m 30 5 [10,13,0,1,2,3,4,5,6,7,8,9,10,12,13],
 m 31 6 (k [11,14] 14)]
def d4r5:List RO:=[
 a 0 1 33 [],
 L 4 33 34 [0],
 L 3 4 35 [],
 a 4 1 36 [],
 L 3 36 37 [3],
 a 7 1 38 [],
 l 38 39 [5],
 a 9 1 40 [],
 l 40 41 [7],
 o (.len (t 41)) 42 [8],
 a 8 1 43 [],
 l 43 44 [10],
 o (.build [(.v (.int .i64 0)),(.v (.int .i64 0)),(.v (.int .i64 0))] [(0,1,(t 39)),(1,1,(t 42)),(2,1,(t 44))]) 45 [6,9,11],
 o (.call 13 [(t 34),(t 35),(t 37),(t 45)]) 46 [1,2,4,12],
 m 46 32 [13],
 e 0 32 47 [14],
 e 1 32 48 [14],
 e 2 32 49 [14],
 o (.alloc [(.v (.int .i64 0)),(.v (.int .i64 0)),.aI]) 7 [],
 S 3 7 47 [18,15,13,0,1,2,3,4,5,6,7,8,9,10,11,12,13,14,15,18],
 m 48 8 [16,19,0,1,2,3,4,5,6,7,8,9,10,11,12,13,14,15,16,18,19],
 m 49 9 (k [17,20] 20)]
def d4r6:List RO:=[
 o (.call 10 []) 50 [],
 m 50 51 [0,0],
 w 6 52 51 true [1],
 g (.bin .eql (t 52) (i 0)) 53 51 true [2,1],
 q 51 53 54 [1,3],
 m 54 55 [4,1],
 w 9 56 55 true [5],
 g (.bin .eql (t 56) (i 0)) 57 55 true [6,5],
 q 55 57 58 [5,7],
 m 58 59 [8,5],
 g (.load 3 true (t 7)) 60 59 true [9],
 g (.load 3 true (t 3)) 61 59 true [9],
 g (.call 17 [(t 60),(t 61)]) 62 59 true [10,11,9,9],
 q 59 62 63 [9,12],
 m 63 2 (k [13,12] 13)]
def d4:DC:=(j (y d4r0)
 (j (j (y d4r1)
 (.cond (.tmp 12) (j (y d4r2)
 .ret)
 .skip))
 (j (Y d4r3)
 (j (Y d4r4)
 (j (y d4r5)
 (j (y d4r6)
 .ret))))))
def Ss:List bN:=[.slot 2]
theorem c4 [Laid]:aQ Tryz.prog 4 64 d4 Ss:=⟨Tryz.f4,by kernel_rfl,by kernel_rfl,by kernel_rfl,by kernel_rfl,by kernel_rfl⟩
end cu
end Go.Proofs
