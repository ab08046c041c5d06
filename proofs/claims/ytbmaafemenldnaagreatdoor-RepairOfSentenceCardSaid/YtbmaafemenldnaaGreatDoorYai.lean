/- Part. Conditions: none. -/
import Derived.Test.YtbmaafemenldnaaGreatDoorYah
set_option linter.all false
set_option maxRecDepth 100000
set_option maxHeartbeats 40000000
namespace Go.Proofs
namespace aT
open Go.DM
section
deriving instance DecidableEq for cX
def abt(z:mW)(az:List cX)(v:cX)(r:bC):Option mm:=(ew z r).find? λi=>decide (D6 z az i=v)
def ym(z:mW)(az:List cX)(h:Int)(x:Cell)(k:Nat):Cell:=
 if(z.n.aj.getD k default).head≠h\/(bv az h).aA>=1099511627776\/x.wQ>=0 then x
 else match abt z az (bv az h) (z.n.aj.getD k default)with
  |some i=>⟨(bv az h).aA,(bv az h).size,k,i.1⟩
  |none=>x
def AD(z:mW)(az:List cX)(h:Int)(m:Nat):Cell:=(List.range m).foldl (ym z az h) vD
def sv(z:mW)(az:List cX)(h:Int):Cell:=AD z az h z.n.aj.length
def Du(z:mW)(az:List cX):List Cell:=(List.range z.n.an.toNat).map λ(h:Nat)=>sv z az (h:Int)
def NS(z:mW)(az:List cX)(h:Int)(m:Nat):AD z az h (m+1)=ym z az h (AD z az h m) m:=by
 unfold AD;rw[Gy,uK];rfl
def Zs(l:aF):Prop:=∀i j:Nat,i<=j->j<l.aK.length->(l.aK.getD i default).f<(l.aK.getD j default).f\/((l.aK.getD i default).f=(l.aK.getD j default).f/\(l.aK.getD i default).t<=(l.aK.getD j default).t)
def Zs.mono{z:mW}(h:Zs z.l):mono z:=by
 intro i j To hj hp;have:=h i j To hj;unfold wd at hp⊢;omega
def ajx{z:mW}(hs:Zs z.l){i:Nat}(h:sx z<=i)(hi:i<z.l.aK.length):wd z (z.l.aK.getD i default):=by
 have hl:sx z<z.l.aK.length:=by omega
 have h1:=List.findIdx_getElem (w:=hl);simp only[yN]at h1;refine hs.mono (sx z) i h hi ?_;have e:z.l.aK.getD (sx z) default=z.l.aK[sx z]:=by simp[List.getD,hl]
 rw[e];exact h1
def ayY{z:mW}(hs:Zs z.l){i:Nat}(hi:i<z.l.aK.length)(h:Zi z (z.l.aK.getD i default)):sx z<=i/\i<Hd z:=by
 refine aiR hs.mono (λi j To hj hl gG=>?_) hi h;have h1:=ajx hs hl (by omega);have h2:=hs i j To hj;unfold wd Zi at*
 omega
def wD(z:mW)(az:List cX)(h:Int):∀m,m<=z.n.aj.length->
  ((bv az h).aA>=1099511627776->AD z az h m=vD)/\
  ((bv az h).aA<1099511627776->
   (AD z az h m=vD/\∀(k:Nat) r,k<m->z.n.aj[k]? =some r->r.head=h->∀i∈ew z r,D6 z az i≠bv az h)\/
   (∃(k:Nat) (r:bC) (i:mm),k<m/\z.n.aj[k]? =some r/\r.head=h/\abt z az (bv az h) r=some i/\AD z az h m=⟨(bv az h).aA,(bv az h).size,k,i.1⟩/\
    ∀(k':Nat) r,k'<k->z.n.aj[k']? =some r->r.head=h->∀i∈ew z r,D6 z az i≠bv az h))
 |0,_=>⟨λ_=>rfl,λ_=>.inl ⟨rfl,λk r hk=>by omega⟩⟩
 |m+1,hm=>by
  obtain⟨a,b⟩:=wD z az h m (by omega);have hr:z.n.aj[m]? =some (z.n.aj.getD m default):=by simp[List.getD,show m<z.n.aj.length by omega]
  rw[NS];refine⟨λhf=>?_,λhf=>?_⟩
  .rw[a hf];unfold ym;rw[ee (.inr (.inl hf))]
  .rcases b hf with⟨b1,b2⟩|⟨k,r,i,b1,b2,b3,b4,b5,b6⟩
   .rw[b1];unfold ym;split
    .rename_i hc;have hc:(z.n.aj.getD m default).head≠h:=by
      rcases hc with hc|hc|hc
      .exact hc
      .omega
      .exact qe hc (by decide)
     refine .inl ⟨rfl,λk r hk Jx Oc=>?_⟩;by_cases e:k=m
     .subst e;rw[hr]at Jx;cases Jx;exact qe Oc hc
     .exact b2 k r (by omega) Jx Oc
    .rename_i hc;simp only[Zds,ne_eq,Decidable.not_not]at hc;cases hp:abt z az (bv az h) (z.n.aj.getD m default)with
     |some i=>exact .inr ⟨m,_,i,by omega,hr,hc.1,hp,rfl,b2⟩
     |none=>
      refine .inl ⟨rfl,λk r hk Jx Oc=>?_⟩;by_cases e:k=m
      .subst e;rw[hr]at Jx;cases Jx;intro i hi;have:=ZcY.1 hp i hi;simpa using this
      .exact b2 k r (by omega) Jx Oc
   .refine .inr ⟨k,r,i,by omega,b2,b3,b4, ?_,b6⟩;rw[b5];unfold ym;rw[ee (.inr (.inr (by simp only;omega)))]
def QN{z:mW}{az:List cX}{h:Nat}(hh:h<z.n.an.toNat):(Du z az).getD h default=sv z az (h:Int):=by
 simp[Du,List.getD,hh]
def QO(z:mW)(az:List cX):(Du z az).length=z.n.an.toNat:=by simp[Du]
def acZ{l:List mm}{p:mm->Bool}{i:mm}(hs:l.Pairwise λa b=>a.1<=b.1)(h:l.find? p=some i):∀j∈l,p j=true->i.1<=j.1:=by
 induction l with
 |nil=>cases h
 |cons a l ih=>
  rw[Lu]at hs;intro j hj hp;by_cases ha:p a=true
  .rw[Zc7 ha]at h;cases h;rcases jv.1 hj with rfl|hj
   .omega
   .exact hs.1 j hj
  .rw[List.find?_cons_of_neg ha]at h;rcases jv.1 hj with rfl|hj
   .exact qe hp ha
   .exact ih hs.2 h j hj hp
def abu(z:mW)(r:bC):(ew z r).Pairwise λa b=>a.1<=b.1:=by
 unfold ew;split
 .split<;>simp
 .split
  .rw[List.pairwise_filterMap];refine List.Pairwise.imp (R:=λa b=>a<b) (λ{a b} ik x hx y hy=>?_) List.pairwise_lt_range';unfold Ga at hx hy;split at hx
   .split at hy
    .cases hx;cases hy;simp only;omega
    .cases hy
   .cases hx
  .split
   .simp
   .split
    .rw[Zc6];refine List.Pairwise.imp (R:=λa b=>a<b) (λ{a b} ik=>?_) List.pairwise_lt_range;simp only[C8];omega
    .simp
section
variable{z:mW}{st:nD}
def apd(K:Kx z)(h:KN z st)(dd:st.s.heap=[]){x:Int}(h0:0<=x)(h1:x<z.n.an)(hf:(bv st.az x).aA<1099511627776):K1 st x=true:=by
 cases Ll:K1 st x with
 |true=>rfl
 |false=>
  exfalso;rcases ilt (st.u7.getD x.toNat 0)with hd|hd
  .have:=(h.wf.old x.toNat (by omega) hd).2;unfold bv at hf;rw[this]at hf;exact qe hf (by decide)
  .obtain⟨e,he,_⟩:=h.wf.inn x.toNat (by omega) hd Ll;rw[dd]at he;cases he
def ape(K:Kx z)(h:KN z st){x:Int}(h0:0<=x)(h1:x<z.n.an)(hf:¬(bv st.az x).aA<1099511627776):bv st.az x=⟨1099511627776,0⟩:=by
 rcases ilt (st.u7.getD x.toNat 0)with hd|hd
 .exact(h.wf.old x.toNat (by omega) hd).2
 .exact qe (h.wf.acX x.toNat (by omega) hd) hf
def QP(K:Kx z)(h:KN z st){x:Int}(h0:0<=x)(h1:x<z.n.an):((Du z st.az).getD x.toNat default).val=bv st.az x:=by
 obtain⟨y,rfl⟩:=bX h0;rw[gN,QN (by omega)];obtain⟨a,b⟩:=wD z st.az y z.n.aj.length (gJ _);unfold sv;by_cases hf:(bv st.az y).aA<1099511627776
 .rcases b hf with⟨b1,b2⟩|⟨k,r,i,_,_,_,_,b5,_⟩
  .obtain⟨k,r,hk,hr,i,hi,_,hc⟩:=h.att y h0 h1 hf;exact qe hc (b2 k r (tp.1 hk).1 hk hr i hi)
  .rw[b5]
 .rw[a (by omega),ape K h h0 h1 hf];rfl
def Yi(K:Kx z)(h:KN z st){x:Int}(h0:0<=x)(h1:x<z.n.an)(f t:Int):dv z.c (Du z st.az) z.fr z.to x f t=tq z st.az x f t:=by
 unfold dv tq;split
 .exact QP K h h0 h1
 .rfl
def ajy(K:Kx z)(h:KN z st){s t:Nat}(es:z.fr=s)(et:z.to=t){k:Nat}{r:bC}(hk:z.n.aj[k]? =some r){i:mm}(hi:i∈ew z r):sO z.n z.l z.c (Du z st.az) s t k i.1 (D6 z st.az i):=by
 have hr:r∈z.n.aj:=Hf hk;obtain⟨q1,q2,q3,q4,q5⟩:=K.hn.2.2.2 r hr;have hv:=λ{x:Int} (h0:0<=x) (h1:x<z.n.an) (f t:Int)=>Yi K h h0 h1 f t;have yF:=K.ft;refine⟨r,hk, ?_⟩;unfold ew at hi;split at hi
 .rename_i h1;split at hi
  .simp only[jv,qg,AZ]at hi;subst hi;exact .inl ⟨h1,by omega,es,rfl⟩
  .cases hi
 .split at hi
  .rename_i h1;obtain⟨a,ha0,ha⟩:=ZV.1 hi;have:=Kl z;simp only[Zcs]at ha0;have mE:a<z.l.aK.length:=by omega
   have gG:=abq (z:=z) (i:=a) (by omega) (by omega);unfold Ga at ha;split at ha
   .rename_i ast;cases ha;exact .inr (.inl ⟨h1,a,z.l.aK.getD a default,by simp[List.getD,mE],by rw[gG.1,es],by rw[gG.2,et],ast,rfl,rfl⟩)
   .cases ha
  .split at hi
   .rename_i h1;simp only[jv,qg,AZ]at hi;subst hi;refine .inr (.inr (.inl ⟨h1,es, ?_⟩));show gv r.bi [tq z st.az r.a z.fr z.to]=_;rw[<-es,<-et,hv (by omega) (by omega)]
   .split at hi
    .rename_i h1;obtain⟨d,hd0,rfl⟩:=sE.1 hi;simp only[I0]at hd0;refine .inr (.inr (.inr ⟨h1,d,by omega,by simp only[C8];omega, ?_⟩));show gv r.bi [tq z st.az r.a z.fr (z.fr+(d:Int)),tq z st.az r.b (z.fr+(d:Int)) z.to]=_;rw[<-es,<-et,hv (by omega) (by omega),hv (by omega) (by omega)]
    .cases hi
def ajz(K:Kx z)(hs:Zs z.l)(h:KN z st){s t:Nat}(es:z.fr=s)(et:z.to=t){k:Nat}{g:Int}{v:cX}(hi:sO z.n z.l z.c (Du z st.az) s t k g v):∃r,z.n.aj[k]? =some r/\∃i∈ew z r,i.1=g/\D6 z st.az i=v:=by
 obtain⟨r,hk,hi⟩:=hi;have hr:r∈z.n.aj:=Hf hk;obtain⟨q1,q2,q3,q4,q5⟩:=K.hn.2.2.2 r hr;have hv:=λ{x:Int} (h0:0<=x) (h1:x<z.n.an) (f t:Int)=>Yi K h h0 h1 f t;have yF:=K.ft;refine⟨r,hk, ?_⟩;rcases hi with⟨h1,h2,rfl,rfl⟩|⟨h1,a,x,ha,hxf,tA,ast,rfl,rfl⟩|⟨h1,rfl,rfl⟩|⟨h1,d,hd,rfl,rfl⟩
 .refine⟨(z.fr,r.bi,[]), ?_,es,rfl⟩;unfold ew;rw[ee h1,ee (by omega)];simp
 .have mE:=(tp.1 ha).1;have hx:z.l.aK.getD a default=x:=by simp[List.getD,ha]
  have:=ayY hs mE (by rw[hx];exact⟨by rw[hxf,es],by rw[tA,et]⟩);refine⟨((a:Int),r.bi+x.aA,[]), ?_,rfl,rfl⟩;unfold ew;rw[iK (by omega),ee h1];refine ZV.2 ⟨a,by simp only[Zcs];omega, ?_⟩;unfold Ga;rw[hx,ee ast]
 .refine⟨(z.fr,r.bi,[(r.a,z.fr,z.to)]), ?_,es, ?_⟩
  .unfold ew;rw[iK (by omega),iK (by omega),ee h1];simp
  .show gv r.bi [tq z st.az r.a z.fr z.to]=_;rw[<-es,<-et,hv (by omega) (by omega)]
 .refine⟨C8 z r (z.fr+(d:Int)), ?_,by simp only[C8];omega, ?_⟩
  .unfold ew;rw[iK (by omega),iK (by omega),iK (by omega),ee h1];exact sE.2 ⟨d,by simp only[I0];omega,rfl⟩
  .show gv r.bi [tq z st.az r.a z.fr (z.fr+(d:Int)),tq z st.az r.b (z.fr+(d:Int)) z.to]=_;rw[<-es,<-et,hv (by omega) (by omega),hv (by omega) (by omega)]
def adh(K:Kx z)(h:KN z st)(dd:st.s.heap=[]){r:bC}(hr:r∈z.n.aj){i:mm}(hi:i∈ew z r)(hf:(D6 z st.az i).aA<1099511627776):D0 z st.dM i:=by
 intro x hx mX;have hxb:=Dt K hr hi hx;refine apd K h dd hxb.1 hxb.2 ?_;have h2:=h.wf.ava (x:=x.1.toNat) (by omega);have:=aiT K h.wf.bo hr hi hx mX h2;unfold cX.lt at this;unfold bv at this⊢;have:=(h.wf.bo _ (bu (l:=st.az) (show x.1.toNat<st.az.length by rw[h.wf.lb];omega))).2.1;omega
def ahN(K:Kx z)(hs:Zs z.l)(h:IV z st)(dd:st.s.heap=[]){s t:Nat}(es:z.fr=s)(et:z.to=t){k:Nat}{r:bC}(hk:z.n.aj[k]? =some r){g:Int}{v:cX}(hi:sO z.n z.l z.c (Du z st.az) s t k g v)(hf:v.aA<1099511627776):
  ¬v.lt (bv st.az r.head)/\(v=bv st.az r.head->JS (sv z st.az r.head).wQ (sv z st.az r.head).arg k g):=by
 obtain⟨r',wi,i,wY,rfl,rfl⟩:=ajz K hs h.1 es et hi;rw[hk]at wi;cases wi;have hr:r∈z.n.aj:=Hf hk;refine⟨h.2 (r,i) ⟨hr,wY⟩ (adh K h.1 dd hr wY hf),λe=>?_⟩;obtain⟨_,b⟩:=wD z st.az r.head z.n.aj.length (gJ _);unfold sv;rcases b (by rw[<-e];exact hf)with⟨b1,b2⟩|⟨k',r',i',_,b2,b3,b4,b5,b6⟩
 .exact qe e (b2 k r (tp.1 hk).1 hk rfl i wY)
 .rw[b5];unfold JS;simp only;rcases Nat.lt_trichotomy k k' with cQ|rfl|hgt
  .exact qe e (b6 k r cQ hk rfl i wY)
  .rw[hk]at b2;cases b2;have:=acZ (abu z r) b4 i wY (by simpa using e);exact .inr ⟨rfl,this⟩
  .exact .inl (by omega)
def awU(C:AU z.n z.l z.c z.fr.toNat z.to.toNat)(K:Kx z)(h:KN z st):PS z.n z.l z.c z.fr.toNat z.to.toNat (Du z st.az):=by
 have yF:=K.ft;intro y hy;rw[QO]at hy;have fI:(y:Int)<z.n.an:=by omega
 have dB:((Du z st.az).getD y default).val=bv st.az y:=QP K h (x:=(y:Int)) (by omega) fI;rw[QN hy]at dB⊢;obtain⟨a,b⟩:=wD z st.az y z.n.aj.length (gJ _);by_cases hf:(bv st.az y).aA<1099511627776
 .rcases b hf with⟨b1,b2⟩|⟨k,r,i,_,b2,b3,b4,b5,b6⟩
  .exact .inl b1
  .right;refine⟨by rw[dB];exact h.der y (by omega) fI hf,k,i.1,D6 z st.az i,ajy K h (by omega) (by omega) b2 (Zcb b4),⟨r,b2,b3⟩, ?_, ?_, ?_⟩
   .unfold sv;rw[b5]
   .unfold sv;rw[b5]
   .have:=ZcW b4;simp only[yN]at this;rw[dB,this];unfold cX.lt;omega
 .exact .inl (a (by omega))
def abx(C:AU z.n z.l z.c z.fr.toNat z.to.toNat)(K:Kx z)(h:KN z st):nC z.n (Du z st.az):=by
 have hn:=K.hn;have yF:=K.ft;have nJ:=C.tm;refine⟨by rw[QO];have:=hn.1;omega,λx hx=>?_⟩;obtain⟨y,hy0,rfl⟩:=sE.1 hx;simp only[I0]at hy0;have fI:(y:Int)<z.n.an:=by omega
 have dB:((Du z st.az).getD y default).val=bv st.az y:=QP K h (x:=(y:Int)) (by omega) fI;rw[QN hy0]at dB;have hvo:mG (bv st.az y):=h.wf.bo _ (bu (by rw[h.wf.lb];omega));obtain⟨a,b⟩:=wD z st.az y z.n.aj.length (gJ _);have xI:sv z st.az y=vD->nQ (sv z st.az y):=λe=>by rw[e];exact J5
 by_cases hf:(bv st.az y).aA<1099511627776
 .rcases b hf with⟨b1,b2⟩|⟨k,r,i,b0,b2,b3,b4,b5,b6⟩
  .exact xI b1
  .refine⟨by rw[dB];exact hvo, ?_⟩;unfold sv;rw[b5];have hk:=hn.2.2.1;have hi:=Zcb b4;simp only;refine⟨by omega,by omega, ?_⟩;have hla:=K.hl.2.2.1;unfold ew at hi;split at hi
   .split at hi
    .simp only[jv,qg,AZ]at hi;subst hi;simp only;omega
    .cases hi
   .split at hi
    .obtain⟨a,ha0,ha⟩:=ZV.1 hi;have:=Kl z;simp only[Zcs]at ha0;unfold Ga at ha;split at ha
     .cases ha;simp only;omega
     .cases ha
    .split at hi
     .simp only[jv,qg,AZ]at hi;subst hi;simp only;omega
     .split at hi
      .obtain⟨d,hd0,rfl⟩:=sE.1 hi;simp only[I0]at hd0;simp only[C8];omega
      .cases hi
 .exact xI (a (by omega))
def apf(C:AU z.n z.l z.c z.fr.toNat z.to.toNat)(K:Kx z)(hs:Zs z.l)(h:IV z st)(dd:st.s.heap=[]):Sl z.n z.l z.c z.fr.toNat z.to.toNat (Du z st.az):=by
 have ho:=abx C K h.1;have yF:=K.ft;intro k hk;obtain⟨r,hr⟩:=aY (z.n.aj.getD k default);have Jx:z.n.aj[k]? =some r:=by rw[<-hr];simp[List.getD,hk]
 have hrm:r∈z.n.aj:=Hf Jx;have th:=K.hn.2.2.2 r hrm;have hh0:0<=r.head:=th.1;have hh1:r.head<z.n.an:=th.2.1;have hxm:(Du z st.az).getD r.head.toNat default∈Du z st.az:=bu (by rw[QO];omega);have hg:=Hp K.hn K.hl K.hc ho.ok hk C.st C.tm (by rw[hr];exact ho.2 _ hxm);unfold fD at hg⊢;rw[hr]at hg⊢;have dB:=QP K h.1 hh0 hh1;have XU:(Du z st.az).getD r.head.toNat default=sv z st.az r.head:=by rw[QN (by omega),show((r.head.toNat:Nat):Int)=r.head by omega]
 obtain⟨X,hX⟩:=aY ((Du z st.az).getD r.head.toNat default);rw[hX]at hg dB XU hxm⊢;have aAv:=ho.2 _ hxm;rcases Hm Jx (Sk th) C.st X (c:=z.c) (own:=Du z st.az) (l:=z.l)with e|⟨g,v,hi,hf,h3,e⟩
 .exact e
 .obtain⟨l1,l2⟩:=ahN K hs h dd (s:=z.fr.toNat) (t:=z.to.toNat) (by omega) (by omega) Jx hi hf;rw[dB]at h3;have ev:=cX.pc l1 h3;have l3:=l2 ev;rw[<-XU]at l3;rw[e]at hg⊢;obtain⟨g1,g2⟩:=hg;have e1:X.aA=v.aA/\X.size=v.size:=by
   have:X.val=v:=by rw[dB,ev]
   rw[<-this];exact⟨rfl,rfl⟩
  rcases g2 with e'|cQ
  .exact e'
  .exfalso;obtain⟨_,x1,x2,x3,x4⟩:=aAv;obtain⟨_,y1,y2,y3,y4⟩:=g1;unfold FE at cQ;simp only at cQ y1 y2 y3 y4;rw[e1.1,e1.2]at cQ;unfold JS at l3;omega
def adi(C:AU z.n z.l z.c z.fr.toNat z.to.toNat)(K:Kx z)(hs:Zs z.l)(h:IV z st)(dd:st.s.heap=[]):Du z st.az=sP z.n z.l z.c z.fr z.to:=by
 have yF:=K.ft;have ho:=abx C K h.1;have h2:=(JX C.hn C.hl C.hc C.st C.tm (PS z.n z.l z.c z.fr.toNat z.to.toNat) (aaN C) (λown k ho hk hp=>aaM C ho hk hp)).1;have e:∀x:Nat,(x:Int)<z.n.an->(Du z st.az).getD x default=(sP z.n z.l z.c z.fr.toNat z.to.toNat).getD x default:=λx hx=>
  (V8 C ho (awU C K h.1) (apf C K hs h dd) x hx).awz (Sm C x hx)
 have e1:((z.fr.toNat:Nat):Int)=z.fr:=by omega
 have e2:((z.to.toNat:Nat):Int)=z.to:=by omega
 rw[e1,e2]at e h2;refine Jc (by have:=h2.1;have:=ho.1;omega) λi h1 T5=>?_;have:=e i (by have:=ho.1;omega);simpa [List.getD,h1,T5]using this
end
end
structure Run(z:mW):Prop where
 C:AU z.n z.l z.c z.fr.toNat z.to.toNat
 K:Kx z
 cf:KG z.c
 Zs:Zs z.l
def abA{z:mW}(H:Run z){k0:Nms}{f0:bS}{p N M sB rB:Nat}{s0 st:nD}(c9:qX f0 N)(hv:(⟨k0,z,s0⟩:SV).at f0 p)(h:IV z st)(dd:st.s.heap≠[])(CX:st.s.xo+1300<=1000000000000)
  (h1:N<=sB) (h2:N<=rB) (h3:sB<M) (h4:rB<M) (h5:rB≠sB) {k:Nat} (hk:k<z.n.aj.length) (hu:sA (z.n.aj.getD k default) (st.s.e 0).x) {D:DV} (hD:V1 D (z.n.aj.getD k default)):
  ce ak 182 [.ptr p 0,D,.AI (.func 183) [.ptr sB 0,.ptr rB 0]] (dA [(rB,im (z.n.aj.getD k default)),(sB,.box [.ptr p 0])] (ig f0 ⟨k0,z,s0⟩ (Qg z (st.s.e 0).x st k)))
   ⟨True,.v (.dh []),dA [(rB,im (z.n.aj.getD k default)),(sB,.box [.ptr p 0])] (ig f0 ⟨k0,z,s0⟩ (EH z (st.s.e 0).x st k (iq z (z.n.aj.getD k default)).length))⟩:=by
 have hrk:z.n.aj.getD k default∈z.n.aj:=bu hk;have amt:=λj=>aw1 H.C H.K h dd (j:=j) hk hu;obtain⟨r,hr⟩:=aY (z.n.aj.getD k default);have hms:=λ{j i}=>ahT (z:=z) (x:=(st.s.e 0).x) (st:=st) (k:=k) (j:=j) (i:=i);have th:=H.K.hn.2.2.2 r (by rw[<-hr];exact hrk);rw[hr]at hD hrk hms⊢;obtain⟨V,hV⟩:=aY ((⟨k0,z,s0⟩:SV):SV);have hVz:V.z=z:=by rw[<-hV]
 have hVk:V.k=k0:=by rw[<-hV]
 have apn:∀s,V.to s=⟨k0,z,s⟩:=λs=>by rw[<-hV]
 rw[hV]at hv⊢;have hL:∀q∈[(rB,im r),(sB,Ob.box [.ptr p 0])],N<=q.1:=by simp;omega
 have e0:Qg z (st.s.e 0).x st k=EH z (st.s.e 0).x st k 0:=rfl;rw[e0];have K4:=(c9 _ _ hv.sp).1;refine t87 (k:=k0) (z:=z) (N:=M) (r:=r) (cz:=[sB,rB]) (F:=λj=>dA [(rB,im r),(sB,.box [.ptr p 0])] (ig f0 V (EH z (st.s.e 0).x st k j))) ⟨λj _=>⟨_,by have:=NV c9 hv hL (EH z (st.s.e 0).x st k j);rw[apn]at this;exact this⟩,λj _=>?_⟩ ⟨λj i hi _ N' hN'=>?_,λj r' hj hn=>?_,λ_ _=>rfl,.inl rfl⟩ rfl H.Zs.mono H.K.hl.2.2.1 ?_ ⟨th.2.2.1,th.2.2.2.1⟩ H.K.hl.2.2.2 ?_ hD
 .refine HB (HA c9 hv _) (by omega) λq hq=>?_;simp only[jv,qg,AZ]at hq;rcases hq with rfl|rfl
  .exact⟨h4,λm hm=>by simp[im,jy,da,br]at hm⟩
  .refine⟨h3,λm hm=>?_⟩;simp only[jy,da,br,Ej,jv,qg,AZ]at hm;subst hm;rw[S5 K4 hL,(H2 hv _).sp];simp
 .have hib:=Oi (z:=z) H.K.ft.2 (Hf hi);obtain⟨m1,m2,m3⟩:=amt j;have gG:=NV c9 hv hL (EH z (st.s.e 0).x st k j);rw[apn]at gG;have:=t88 (i:=i) (r:=r) (sB:=sB) (rB:=rB) hN' gG (by simp[h5.symm]) (by simp) (Pg H.K H.cf m1.wf hrk hib) m3 (λ_ hw=>by
   have hh:0<=r.head/\r.head<z.n.an:=⟨th.1,th.2.1⟩;exact m1.wf.Tx (by omega) (YX H.K m1.wf.bo hrk hib) (by have:=H.K.hn.2.1;omega) (by omega))
  have e:=ahP c9 hv hL (EH z (st.s.e 0).x st k j) (su z r (EH z (st.s.e 0).x st k j) i);rw[apn]at e;simp only at this;rw[e,<-hms hi]at this;exact this
 .simp only[y9,amx]at hn⊢;split at hn
  .cases hn
  .split at hn
   .cases hn
   .rename_i g1 g2;rw[iK g1,iK g2];have hf:f0 r'=none:=by
     cases ho:f0 r' with
     |none=>rfl
     |some o=>
      exfalso;have:ig f0 V (EH z (st.s.e 0).x st k j) r'≠none:=by
       simp only[ig,y9,amx];repeat' split
       all_goals first|(intro h;cases h)|(rw[ho];simp)
      exact this hn
    exact BB hv _ hf
 .have:=H.C.tm;have:=H.K.ft;omega
 .intro x hx;simp only[jv,qg,AZ]at hx;rcases hx with rfl|rfl
  .exact⟨_,by simp[h5.symm];rfl⟩
  .exact⟨_,by simp[im];rfl⟩
def QQ{f0:bS}{v:SV}{p N:Nat}{L:fS}(hN:∀r,N<=r->f0 r=none)(hv:v.at f0 p){M:Nat}(hM:N<=M)(hL:∀q∈L,q.1<M)(s:nD):∀r,M<=r->dA L (ig f0 v s) r=none:=λr hr=>by
 rw[ui λo h=>by have:=hL _ h;simp only at this;omega];exact BB hv s (hN r (by omega))
def abB(a:Nat)(o o':Ob)(L:fS)(f:bS):dA ((a,o)::(a,o')::L) f=dA ((a,o)::L) f:=by
 funext k;simp only[y9];split<;>rfl
def ay6{X:bS}{N p:Nat}{aP bn:Nat}{tm:dW}{l:pe}{L1:fS}{cs:bW}(hX:qX X N)(hp:X p=some (.box cs))(K4:p<N)(hM:N+3<=bn)(hL1:∀q∈L1,N+3<=q.1)(nJ:oM (dA (L1++[(N+2,.box [.ptr p 0])]) X) (dA [(N+2,.box [.ptr p 0])] X) id tm l):
  Le ⟨tm,dA (L1++[(N+2,.box [.ptr p 0])]) X,aP,N,[]⟩ ⟨DM.look l,dA [(N+2,.box [.ptr p 0])] X,bn,N,[]⟩:=by
 have e1:dA (L1++[(N+2,Ob.box [.ptr p 0])]) X (N+2)=some (.box [.ptr p 0]):=by
  rw[<-NU,ui λo h=>by have:=hL1 _ h;simp only at this;omega];simp
 have e2:dA (L1++[(N+2,Ob.box [.ptr p 0])]) X p=some (.box cs):=by
  rw[<-NU,ui λo h=>by have:=hL1 _ h;simp only at this;omega];simp[hp];omega
 refine Le.iy hX (by omega) ?_ ?_ ?_ nJ
 .simp;omega
 .clear nJ e1 e2;induction L1 with
  |nil=>simp[cY]
  |cons a L1 ih=>
   refine⟨λh=>?_,ih λq hq=>hL1 q (by simp[hq])⟩;have:=hL1 a (by simp);omega
 .refine⟨⟨_,e1,.inr ⟨rfl,λm hm=>?_⟩,λh=>by omega⟩,trivial⟩;simp only[jy,da,br,Ej,jv,qg,AZ]at hm;subst hm;exact⟨_,_,e2,by simp[hp];omega,ej _⟩
def DU{z:mW}{st:nD}{f:Nat}(dd:st.s.heap≠[]):ph z (f+1) st=ph z f (AC z st):=by
 simp only[ph,iK dd]
def Qc{z:mW}(H:Run z):∀{f g:Nat} {st:nD},IV z st->Hl st<f->Hl st<g->ph z f st=ph z g st
 |0,_,_,_,h,_=>by omega
 |_,0,_,_,_,h=>by omega
 |f+1,g+1,st,hI,h1,h2=>by
  by_cases dd:st.s.heap=[]
  .simp only[ph,ee dd]
  .rw[DU dd,DU dd];obtain⟨a,b,_⟩:=Ol H.C H.K hI dd;exact Qc H a (by omega) (by omega)
def t62{f0:bS}{p N:Nat}{z:mW}(H:Run z){k0:Nms}{s0:nD}(hN:∀r,N<=r->f0 r=none)(hv:(⟨k0,z,s0⟩:SV).at f0 p)(hI:IV z s0)(CX:s0.s.xo+1300*(Hl s0+1)<=1000000000000):
  ce ak 139 [.ptr p 0] f0 ⟨True,.v (.dh []),ig f0 ⟨k0,z,s0⟩ (ph z (Hl s0+1) s0)⟩:=by
 obtain⟨R,hR⟩:=aY (ph z (Hl s0+1) s0);rw[hR];refine c62.Ie hN (by simp) λc9=>?_;obtain⟨V,hV⟩:=aY ((⟨k0,z,s0⟩:SV):SV);have hVz:V.z=z:=by rw[<-hV]
 have hVk:V.k=k0:=by rw[<-hV]
 have hVs:V.s=s0:=by rw[<-hV]
 have apn:∀s,V.to s=⟨k0,z,s⟩:=λs=>by rw[<-hV]
 have K4:=(c9 _ _ hv.sp).1;have np:∀k,p≠N+k:=λk=>by omega
 have zD:=hv.sp;rw[hV]at hv⊢;simp;apply aa.ai J2 fw [1];simp[ayf];obtain⟨L,hL⟩:=aY ([(N+2,Ob.box [.ptr p 0])]);have hLN:∀q∈L,N<=q.1:=by rw[<-hL];simp
 have hLM:∀{M},N+3<=M->∀q∈L,q.1<M:=by rw[<-hL];simp;omega
 have hf0:ig f0 V s0=f0:=by rw[<-hVs];exact nG hv
 apply aa.block;refine aa.loop (λst:nD=>⟨DM.look [(1,.ptr (N+2) 0)],dA L (ig f0 V st),N+1000,N,[]⟩)
  (λst=>IV z st/\st.s.xo+1300*(Hl st+1)<=1000000000000/\ph z (Hl st+1) st=R) Hl s0 (by
   rw[hf0,<-hL];refine Le.same (λr hr=>?_) (by simp[Ak]);simp only[y9,amx];rw[iK (by omega)];exact hN r (by omega)) ⟨hI,CX,hR⟩ (λst iO=>?_)
 obtain⟨hI',aAP,hR'⟩:=iO;apply aa.block;have gG:=NV c9 hv hLN st;have k85:aT.k85 [.ptr V.k.q 0] (dA L (ig f0 V st))=⟨Ua st.s st.az,.v (abC st.s),dA L (ig f0 V ⟨st.az,st.dM,st.u7,ww st.az st.s⟩)⟩:=by
  have:=aw2 gG.qv;rw[ahQ c9 hv hLN]at this;exact this
 have hq:∀s,dA L (ig f0 V s) p=some (.box (JO V.k V.z)):=λs=>(NV c9 hv hLN s).sp;have hb:∀s,dA L (ig f0 V s) (N+2)=some (.box [.ptr p 0]):=λs=>by rw[<-hL];simp
 simp only[JO]at hq;have ho:=hI'.1.wf.Ua (by have:=H.K.hn.2.1;omega);have hC:=λs=>HA c9 hv s;have hnn:=H.K.hn;by_cases dd:st.s.heap=[]
 .have Zg:abC st.s=.dh [ti 0,.bool false]:=ee dd;have Un:ww st.az st.s=st.s:=ee dd;rw[Zg,Un]at k85;apply aa.uG (ay7 aw.nil) fw (rs:=YG) pV (by kernel_rfl) [1,2,3];simp[YG,hb,hq,k85,ho];apply aa.sq J2 fw [1,15];simp[auq];refine aa.cond rfl (λ_=>?_) (λg=>by cases g);simp only[ph,ee dd]at hR';subst hR';refine aa.le (FW (l:=[]) (bn:=N+2000) (hC st) (by omega) hLN (by simp)) ?_;apply aa.ret;simp[aiA];rfl
 .obtain⟨kn,⟨x0,x1⟩,xf,_⟩:=hI'.1.pop H.K dd;have hlf:=hI'.1.wf.lf;obtain⟨y,hy⟩:=bX x0;have Zg:abC st.s=.dh [ti y,.bool true]:=by rw[<-hy];exact iK dd
  rw[Zg]at k85;have hyf:y<st.dM.length:=by omega
  have rr:=eF hyf;obtain⟨stp,M4⟩:=aY ((⟨st.az,st.dM,st.u7,ww st.az st.s⟩:nD):nD);have hpf:stp.dM=st.dM:=by rw[<-M4]
  have hpp:(⟨stp.az,st.dM.set y true,stp.u7,stp.s⟩:nD)=DH st:=by rw[<-M4];unfold DH;rw[hy];rfl
  rw[M4]at k85;apply aa.uG (ay7 aw.nil) fw (rs:=YG) pV (by kernel_rfl) [1,2,3];simp[YG,hb,hq,k85,ho];apply aa.sq J2 fw [1,2,15];simp[auq];refine aa.cond rfl (λg=>by cases g) (λ_=>?_);apply aa.skip;simp;have Qf:=(NV c9 hv hLN stp).rf;simp only[YH,hpf]at Qf;apply aa.ai J2 fw [1,2];simp[ayg,hb,hq,Qf,hyf,rr];have e3:dA ((V.k.rf,.bm 0 4 1 ((gH st.dM).set y [.bool true]))::L) (ig f0 V stp)=dA L (ig f0 V (DH st)):=by
   rw[show(V.k.rf,Ob.bm 0 4 1 ((gH st.dM).set y [.bool true]))::L=[(V.k.rf,Ob.bm 0 4 1 ((gH st.dM).set y [.bool true]))]++L from rfl,<-NU,Om,<-acw,apg hv,hpp];intro a ha b nI;have:=hLN b nI;have:=(c9 _ _ hv.rf).1;simp only[jv,qg,AZ]at ha;subst ha;simp only;omega
  rw[e3];apply aa.ai J2 fw [1,2,26,27,28];simp[ayh,hb,hq,hVz];apply aa.block;refine aa.loop (λk:Nat=>⟨DM.look [(1,.ptr (N+2) 0),(2,.v (ti y)),(26,.v (.sl (aQ z.n.aj))),(27,.v (ti z.n.aj.length)),(28,.v (ti k))],dA L (ig f0 V (Qg z (y:Int) st k)),N+2000,N,[]⟩)
   (λk=>k<=z.n.aj.length) (λk=>z.n.aj.length-k) 0 (Le.same (QQ hN hv (by omega) (hLM (by omega)) _) (by simp[Ak])) (by omega) (λk hk=>?_)
  apply aa.ai J2 fw [1,2,26,27,28,29];simp[ayi];apply aa.seq;refine aa.cond rfl (λg=>?_) (λg=>?_)
  .have g:k<z.n.aj.length:=by simpa using g
   have rk:=fE g;have hms:=ahS (z:=z) (x:=(y:Int)) (st:=st) g;have hsc:=λD hD hu=>abA (M:=N+2500) H (k0:=k0) c9 (by rw[hV];exact hv) hI' dd (by omega) (sB:=N+2) (rB:=N+2048) (by omega) (by omega) (by omega) (by omega) (by omega) g hu (D:=D) hD;have w2:IntKind.i64.wrap ((k:Int)+1)=((k+1:Nat):Int):=by rw[av (by have:=hnn.2.2.1;omega)];omega
   apply aa.skip;simp;apply aa.seq;apply aa.block;obtain⟨⟨rk',rh,ra,rb,rp,ro⟩,hr⟩:=aY (z.n.aj.getD k default);rw[hr]at rk hms hsc;simp only[bC.enc]at rk;apply aa.ai J2 fw [1,2,5,26,27,28];simp[ayj,g,rk,pn];rw[abB];apply aa.seq;obtain⟨u,hu⟩:=aY (decide (sA ⟨rk',rh,ra,rb,rp,ro⟩ y):Bool);apply aa.ai (aAr aw.nil) fw [1,2,5,26,27,28,35];simp[ayk,hu,pn];have hpX:∀s,ig f0 V s p=some (.box (JO V.k V.z)):=λs=>(H2 hv s).sp;refine aa.cond rfl (λg2=>?_) (λg2=>?_)
   .have g2:u=false:=by simpa using g2
    rw[g2]at hu;have hu:=uF hu;rw[iK hu]at hms;apply aa.exit;simp;rw[<-hL];refine aa.le (ay6 (L1:=[_]) (l:=[(1,.ptr (N+2) 0),(2,.v (ti y)),(26,.v (.sl (aQ z.n.aj))),(27,.v (ti z.n.aj.length)),(28,.v (ti k))]) (bn:=N+3000) (hC _) (hpX _) K4 (by omega) (by simp) (by simp)) ?_;apply aa.cZ J2 fw [1,2,26,27,28];simp[auu,w2];rw[hL,<-hms];exact⟨k+1,Le.same (QQ hN hv (by omega) (hLM (by omega)) _) (by simp[Ak]),by omega,by omega⟩
   .have g2:u=true:=by simpa using g2
    rw[g2]at hu;have hu:=BN hu;rw[ee hu]at hms;apply aa.skip;simp;simp only[hy]at hsc;have ZU:∀r',dA [(N+2048,im ⟨rk',rh,ra,rb,rp,ro⟩),(N+2,.box [.ptr p 0])] (ig f0 V (Qg z (y:Int) st k)) r'=none->dA [(N+2048,im ⟨rk',rh,ra,rb,rp,ro⟩),(N+2,.box [.ptr p 0])] (ig f0 V (EH z (y:Int) st k (iq z ⟨rk',rh,ra,rb,rp,ro⟩).length)) r'=none:=by
     intro r' nl;simp only[y9,amx]at nl⊢;split at nl
     .cases nl
     .split at nl
      .cases nl
      .rename_i a1 a2;rw[iK a1,iK a2];cases hf:f0 r' with
       |none=>exact BB hv _ hf
       |some o=>
        exfalso;have:ig f0 V (Qg z (y:Int) st k) r'≠none:=by
         simp only[ig,y9,amx];repeat' split
         all_goals first|(intro h;cases h)|(rw[hf];simp)
        exact this nl
    have bb:=ok1 aw.nil (λN' _=>hsc _ (adl _) hu) (by rw[hV];exact ZU);rw[hV]at bb;rw[<-hL];apply aa.auk bb fw (rs:=aiz) pV (by kernel_rfl) [1,2,26,27,28];simp[aiz,im,pn];refine aa.le (ay6 (L1:=[_]) (l:=[(1,.ptr (N+2) 0),(2,.v (ti y)),(26,.v (.sl (aQ z.n.aj))),(27,.v (ti z.n.aj.length)),(28,.v (ti k))]) (bn:=N+3000) (hC _) (hpX _) K4 (by omega) (by simp) (by simp)) ?_;apply aa.cZ J2 fw [1,2,26,27,28];simp[auu,w2];rw[hL,<-hms];exact⟨k+1,Le.same (QQ hN hv (by omega) (hLM (by omega)) _) (by simp[Ak]),by omega,by omega⟩
  .have g:k=z.n.aj.length:=by
    have:¬k<z.n.aj.length:=by simpa using g
    omega
   apply aa.exit;simp;have e4:Qg z (y:Int) st k=AC z st:=by
    unfold Qg AC;rw[g,uJ,hy]
   rw[e4];obtain⟨i1,i2,i3⟩:=Ol H.C H.K hI' dd;have l1:=abz (z:=z) (x:=(st.s.e 0).x) z.n.aj;refine⟨AC z st,Le.same (QQ hN hv (by omega) (hLM (by omega)) _) (by simp[Ak]),⟨i1, ?_, ?_⟩,i2⟩
   .have:=hnn.2.2.1;unfold apc at i3;omega
   .rw[DU dd]at hR';rw[<-hR'];exact Qc H i1 (by omega) (by omega)
def oI(p N:Nat)(r:bC)(k:Int)(w:cX):fS:=[(N+1058,im r),(N+1057,.box [.v (ti k)]),(N+55,zz w),(N+3,.box [.ptr p 0]),(N+5,.box [.v (ti 0),.v (ti 0),.v (ti 0),.v (ti 0)])]
def ajN(z:mW)(az:List cX)(w:cX)(r:bC)(k:Int)(x:Cell):Cell:=match abt z az w r with
 |some i=>⟨w.aA,w.size,k,i.1⟩
 |none=>x
def abD{z:mW}(H:Run z){k0:Nms}{f0:bS}{p N:Nat}{st:nD}(c9:qX f0 N)(hv:(⟨k0,z,st⟩:SV).at f0 p)(W:WF z.n.an.toNat st){r:bC}(hr:r∈z.n.aj){k:Int}{x:Cell}{w:cX}{D:DV}(hD:V1 D r):
  ce ak 134 [.ptr p 0,D,.AI (.func 185) [.ptr (N+3) 0,.ptr (N+55) 0,.ptr (N+1057) 0,.ptr (N+105) 0]] (dA ((N+105,g0 x)::oI p N r k w) f0)
   ⟨True,.v (.dh []),dA ((N+105,g0 (ajN z st.az w r k x))::oI p N r k w) f0⟩:=by
 have th:=H.K.hn.2.2.2 r hr;have K4:=(c9 _ _ hv.sp).1;have yF:=H.K.ft;have nJ:=H.C.tm;have hL:∀(y:Cell),∀q∈((N+105,g0 y)::oI p N r k w),N<=q.1:=by intro y;simp[oI]
 have gG:∀y,(⟨k0,z,st⟩:SV).at (dA ((N+105,g0 y)::oI p N r k w) f0) p:=λy=>hv.dA c9 (hL y);have hCl:∀y,qX (dA ((N+105,g0 y)::oI p N r k w) f0) (N+2000):=λy=>by
  refine HB c9 (by omega) λq hq=>?_;simp only[oI,jv,qg,AZ]at hq;rcases hq with rfl|rfl|rfl|rfl|rfl|rfl
  .exact⟨by simp only;omega,λm hm=>by simp[g0,jy,da,br]at hm⟩
  .exact⟨by simp only;omega,λm hm=>by simp[im,jy,da,br]at hm⟩
  .exact⟨by simp only;omega,λm hm=>by simp[jy,da,br]at hm⟩
  .exact⟨by simp only;omega,λm hm=>by simp[zz,jy,da,br]at hm⟩
  .refine⟨by simp only;omega,λm hm=>?_⟩;simp only[jy,da,br,Ej,jv,qg,AZ]at hm;subst hm;rw[(gG y).sp];simp
  .exact⟨by simp only;omega,λm hm=>by simp[jy,da,br]at hm⟩
 have ZU:∀(y y':Cell) r',dA ((N+105,g0 y)::oI p N r k w) f0 r'=none->dA ((N+105,g0 y')::oI p N r k w) f0 r'=none:=by
  intro y y' r' h;rw[y9]at h⊢;split at h
  .cases h
  .rename_i h1;rw[iK h1];exact h
 have Cd:∀y y',dA [(N+105,g0 y')] (dA ((N+105,g0 y)::oI p N r k w) f0)=dA ((N+105,g0 y')::oI p N r k w) f0:=λy y'=>by
  rw[NU];exact abB _ _ _ _ _
 have call:∀(y:Cell) (i:mm),i∈ew z r->∀N',(∀r',N'<=r'->dA ((N+105,g0 y)::oI p N r k w) f0 r'=none)->
   ce ak 185 ([.v (ti i.1),.v (ti i.2.1),uv i.2.2]++wM [N+3,N+55,N+1057,N+105]) (dA ((N+105,g0 y)::oI p N r k w) f0)
    ⟨True,.v (.bool (!decide (D6 z st.az i=w))),dA ((N+105,g0 (if D6 z st.az i=w then⟨w.aA,w.size,k,i.1⟩else y))::oI p N r k w) f0⟩:=λy i hi N' hN'=>by
  have:=t90 (i:=i) (sB:=N+3) (vB:=N+55) (iB:=N+1057) (cB:=N+105) (w:=w) (k:=k) (x:=y) hN' (gG y) (by simp[oI]) (by simp[oI]) (by simp[oI]) (by simp) (Pg H.K H.cf W hr hi);rw[Cd]at this;by_cases e:D6 z st.az i=w
  .simpa [e]using this
  .simpa [e]using this
 have cz:WH [N+3,N+55,N+1057,N+105] (dA ((N+105,g0 x)::oI p N r k w) f0):=by
  intro q hq;simp only[jv,qg,AZ]at hq;rcases hq with rfl|rfl|rfl|rfl
  .exact⟨_,by simp[oI];rfl⟩
  .exact⟨_,by simp[oI,zz];rfl⟩
  .exact⟨_,by simp[oI];rfl⟩
  .exact⟨_,by simp[g0];rfl⟩
 unfold ajN;cases hp:abt z st.az w r with
 |none=>
  have dd:∀i∈ew z r,D6 z st.az i≠w:=λi hi=>by
   have:=ZcY.1 hp i hi;simpa using this
  refine t57 (k:=k0) (z:=z) (N:=N+2000) (r:=r) (cz:=[N+3,N+55,N+1057,N+105]) (F:=λ_=>dA ((N+105,g0 x)::oI p N r k w) f0) (B:=λ_=>true) (m:=(ew z r).length) ⟨λ_ _=>⟨_,gG x⟩,λ_ _=>hCl x⟩ ⟨λj i hi _ N' hN'=>?_,λ_ _ _ h=>h,λ_ _=>rfl,.inl rfl⟩ H.Zs.mono H.K.hl.2.2.1 (by omega) ⟨th.2.2.1,th.2.2.2.1⟩ H.K.hl.2.2.2 cz hD;have h1:=call x i (Hf hi) N' hN';have h2:=dd i (Hf hi);simpa [h2]using h1
 |some i=>
  obtain⟨hi1,idx,avm,UX,cQ⟩:=ZcD.1 hp;have hi1:D6 z st.az i=w:=by simpa using hi1
  have e0:(λj=>dA ((N+105,g0 (if idx<j then⟨w.aA,w.size,k,i.1⟩else x))::oI p N r k w) f0) 0=dA ((N+105,g0 x)::oI p N r k w) f0:=by simp
  have e1:(λj=>dA ((N+105,g0 (if idx<j then⟨w.aA,w.size,k,i.1⟩else x))::oI p N r k w) f0) (idx+1)=dA ((N+105,g0 ⟨w.aA,w.size,k,i.1⟩)::oI p N r k w) f0:=by simp
  rw[<-e0]at cz⊢;simp only;rw[<-e1];refine t57 (k:=k0) (z:=z) (N:=N+2000) (r:=r) (cz:=[N+3,N+55,N+1057,N+105]) (F:=λj=>dA ((N+105,g0 (if idx<j then⟨w.aA,w.size,k,i.1⟩else x))::oI p N r k w) f0) (B:=λj=>decide (j≠idx)) (m:=idx+1) ⟨λ_ _=>⟨_,gG _⟩,λ_ _=>hCl _⟩ ⟨λj i' wY hj N' hN'=>?_,λ_ _ _ h=>ZU _ _ _ h,λj hj=>?_,.inr ⟨by omega,by omega,by simp⟩⟩ H.Zs.mono H.K.hl.2.2.1 (by omega) ⟨th.2.2.1,th.2.2.2.1⟩ H.K.hl.2.2.2 cz hD
  .have ZQ:¬idx<j:=by omega
   simp only[ZQ,A0]at hN'⊢;have h1:=call x i' (Hf wY) N' hN';by_cases e:j=idx
   .subst e;rw[mM avm,UX]at wY;cases wY;simpa [hi1]using h1
   .have h2:=cQ j (by omega);have Ia:j<(ew z r).length:=by omega
    rw[mM Ia]at wY;cases wY;have h3:¬idx<j+1:=by omega
    have h4:D6 z st.az (ew z r)[j]≠w:=by simpa using h2
    simpa [h4,e,h3]using h1
  .have:j≠idx:=by omega
   simpa using this
section
variable{z:mW}{r:bC}{f0:bS}
def zJ(p N:Nat)(w:cX):fS:=[(N+55,zz w),(N+3,.box [.ptr p 0]),(N+5,.box [.v (ti 0),.v (ti 0),.v (ti 0),.v (ti 0)])]
def XI{az:List cX}{h:Int}{x:Cell}{k:Nat}(hr:z.n.aj.getD k default=r):ym z az h x k=if r.head≠h\/(bv az h).aA>=1099511627776\/x.wQ>=0 then x else ajN z az (bv az h) r k x:=by
 subst hr;rfl
def ajP{N p:Nat}{aP bn:Nat}{tm:dW}{l:pe}{cs:bW}{k:Int}{w:cX}{x:Cell}(c9:qX f0 N)(hp:f0 p=some (.box cs))(hM:N+106<=bn)(nJ:oM (dA ((N+105,g0 x)::oI p N r k w) f0) (dA ((N+105,g0 x)::zJ p N w) f0) id tm l):
  Le ⟨tm,dA ((N+105,g0 x)::oI p N r k w) f0,aP,N,[]⟩ ⟨DM.look l,dA ((N+105,g0 x)::zJ p N w) f0,bn,N,[]⟩:=by
 have K4:=(c9 _ _ hp).1;have np:∀k,p≠N+k:=λk=>by omega
 refine Le.iy c9 (by omega) ?_ ?_ ?_ nJ
 .simp[zJ];omega
 .simp[cY,oI,zJ]
 .simp[kp,kq,oI,zJ,g0,zz,np,hp]
def t63{p N h:Nat}(H:Run z){k0:Nms}{st:nD}(hN:∀r,N<=r->f0 r=none)(hv:(⟨k0,z,st⟩:SV).at f0 p)(W:WF z.n.an.toNat st)(hh:h<z.n.an.toNat):
  ce ak 140 [.ptr p 0,.v (ti h)] f0 ⟨True,.v (.agg (sv z st.az h).enc),f0⟩:=by
 obtain⟨R,hR⟩:=aY (sv z st.az h);rw[hR];refine c63.Ie hN (by simp) λc9=>?_;have Kv:=hv.sp;have T4:=hv.rb;simp only[JO,X0]at Kv T4;have K4:=(c9 _ _ hv.sp).1;have zV:=(c9 _ _ hv.rb).1;simp only at zV;have np:∀k,p≠N+k:=λk=>by omega
 have nb:∀k,k0.rb≠N+k:=λk=>by omega
 have hhb:h<st.az.length:=by rw[W.lb];exact hh
 have rr:=jU hhb;obtain⟨w,hw⟩:=aY (st.az.getD h default);rw[hw]at rr;have hbv:bv st.az h=w:=hw;have hnn:=H.K.hn;simp;apply aa.ai J2 fw [1,2,4];simp[ayp,pn];apply aa.ai J2 fw [1,2,4,5];simp[ayq,Kv,T4,np,nb,hhb,rr,pn];apply aa.ai J2 fw [1,2,4,5,6];simp[ayr,pn];apply aa.sq J2 fw [1,2,4,5,6,21,22,23];simp[ays,Kv,np,pn];have eT:dA [(N+105,Ob.box [.v (ti 1099511627776),.v (ti 0),.v (ti (-1)),.v (ti 0)]),(N+105,Ob.box [.v (ti 0),.v (ti 0),.v (ti 0),.v (ti 0)]),(N+55,Ob.box [.v (ti w.aA),.v (ti w.size)]),(N+55,Ob.box [.v (ti 0),.v (ti 0)]),(N+5,Ob.box [.v (ti 0),.v (ti 0),.v (ti 0),.v (ti 0)]),(N+3,Ob.box [.ptr p 0])] f0=dA ((N+105,g0 vD)::zJ p N w) f0:=by
  funext q;simp only[y9,amx,zJ,zz,g0,vD]
  (repeat' split)<;>first|rfl|omega
 rw[eT];apply aa.block;have xI:∀(L:fS) M,N<=M->(∀q∈L,q.1<M)->∀r,M<=r->dA L f0 r=none:=λL M hM hL r hr=>by
  rw[ui λo h=>by have:=hL _ h;simp only at this;omega];exact hN r (by omega)
 refine aa.loop (λk:Nat=>⟨DM.look [(1,.v (ti h)),(2,.ptr (N+3) 0),(4,.ptr (N+5) 0),(5,.ptr (N+55) 0),(6,.ptr (N+105) 0),(21,.v (.sl (aQ z.n.aj))),(22,.v (ti z.n.aj.length)),(23,.v (ti k))],dA ((N+105,g0 (AD z st.az h k))::zJ p N w) f0,N+1000,N,[]⟩)
  (λk=>k<=z.n.aj.length) (λk=>z.n.aj.length-k) 0 (Le.same (xI _ _ (by omega) (by simp[zJ])) (by simp[Ak])) (by omega) (λk hk=>?_)
 obtain⟨x,hx⟩:=aY (AD z st.az h k);rw[hx];apply aa.ai J2 fw [1,2,4,5,6,21,22,23,24];simp[ayt];apply aa.seq;refine aa.cond rfl (λg=>?_) (λg=>?_)
 .have g:k<z.n.aj.length:=by simpa using g
  have rk:=fE g;have hrm:z.n.aj.getD k default∈z.n.aj:=bu g;have mZ:=NS z st.az h k;have w2:IntKind.i64.wrap ((k:Int)+1)=((k+1:Nat):Int):=by rw[av (by have:=hnn.2.2.1;omega)];omega
  obtain⟨r,hr⟩:=aY (z.n.aj.getD k default);rw[hr]at rk hrm;rw[XI hr,hx,hbv]at mZ;have nX:=λD hD=>abD (k:=k) (x:=x) (w:=w) H c9 hv W hrm (D:=D) hD;obtain⟨rk',rh,ra,rb,rp,ro⟩:=r;simp only[bC.enc]at rk;simp only at mZ;apply aa.skip;simp;apply aa.seq;apply aa.block;apply aa.ai J2 fw [1,2,4,5,6,7,8,21,22,23];simp[ayu,g,rk,pn];have eU:dA ((N+1058,Ob.box [.v (ti rk'),.v (ti rh),.v (ti ra),.v (ti rb),.v (ti rp),.v (ti ro)])::(N+1057,Ob.box [.v (ti k)])::(N+1058,Ob.box [.v (ti 0),.v (ti 0),.v (ti 0),.v (ti 0),.v (ti 0),.v (ti 0)])::(N+1057,Ob.box [.v (ti 0)])::(N+105,g0 x)::zJ p N w) f0=dA ((N+105,g0 x)::oI p N ⟨rk',rh,ra,rb,rp,ro⟩ k w) f0:=by
   funext q;simp only[y9,amx,zJ,oI,im]
   (repeat' split)<;>first|rfl|omega
  rw[eU];apply aa.seq;obtain⟨c1,bN⟩:=aY (decide (rh≠h\/w.aA>=1099511627776\/x.wQ>=0):Bool);refine aa.bL J2 fw [(1,.v (ti h)),(2,.ptr (N+3) 0),(4,.ptr (N+5) 0),(5,.ptr (N+55) 0),(6,.ptr (N+105) 0),(7,.ptr (N+1057) 0),(8,.ptr (N+1058) 0),(21,.v (.sl (aQ z.n.aj))),(22,.v (ti z.n.aj.length)),(23,.v (ti k)),(41,.v (.bool c1))] ?_ ?_
  .by_cases q1:rh=h
   .by_cases q2:w.aA>=1099511627776
    .have:c1=true:=by rw[<-bN];simp[q2]
     simp[adF,oI,g0,zz,im,q1,q2,this]
    .by_cases q3:x.wQ>=0
     .have:c1=true:=by rw[<-bN];simp[q3]
      simp[adF,oI,g0,zz,im,q1,q2,q3,this]
     .have:c1=false:=by rw[<-bN];simp[q1,q2,q3]
      simp[adF,oI,g0,zz,im,q1,q2,q3,this]
   .have:c1=true:=by rw[<-bN];simp[q1]
    simp[adF,oI,g0,zz,im,q1,this]
  refine aa.cond rfl (λg2=>?_) (λg2=>?_)
  .have g2:c1=true:=by simpa using g2
   rw[g2]at bN;rw[ee (BN bN)]at mZ;apply aa.exit;simp;refine aa.le (ajP (l:=[(1,.v (ti h)),(2,.ptr (N+3) 0),(4,.ptr (N+5) 0),(5,.ptr (N+55) 0),(6,.ptr (N+105) 0),(21,.v (.sl (aQ z.n.aj))),(22,.v (ti z.n.aj.length)),(23,.v (ti k))]) (bn:=N+3000) c9 hv.sp (by omega) (by simp[oI,zJ,g0,zz])) ?_;apply aa.cZ J2 fw [1,2,4,5,6,21,22,23];simp[auv,w2];refine⟨k+1, ?_,by omega,by omega⟩;rw[mZ];exact Le.same (xI _ _ (by omega) (by simp[zJ])) (by simp[Ak])
  .have g2:c1=false:=by simpa using g2
   rw[g2]at bN;rw[iK (uF bN)]at mZ;have bb:=ok1 aw.nil (λN' _=>nX _ (adl _)) (λr' h=>by
    rw[y9]at h⊢;split at h
    .cases h
    .rename_i h1;rw[iK h1];exact h)
   apply aa.skip;simp;apply aa.auk bb fw (rs:=aiC) pV (by kernel_rfl) [1,2,4,5,6,21,22,23];have l1:dA (oI p N ⟨rk',rh,ra,rb,rp,ro⟩ k w) f0 (N+3)=some (.box [.ptr p 0]):=by simp[oI]
   have l2:dA (oI p N ⟨rk',rh,ra,rb,rp,ro⟩ k w) f0 (N+1058)=some (im ⟨rk',rh,ra,rb,rp,ro⟩):=by simp[oI]
   simp[aiC,l1,l2,im];refine aa.le (ajP (l:=[(1,.v (ti h)),(2,.ptr (N+3) 0),(4,.ptr (N+5) 0),(5,.ptr (N+55) 0),(6,.ptr (N+105) 0),(21,.v (.sl (aQ z.n.aj))),(22,.v (ti z.n.aj.length)),(23,.v (ti k))]) (bn:=N+3000) c9 hv.sp (by omega) (by simp[oI,zJ,g0,zz])) ?_;apply aa.cZ J2 fw [1,2,4,5,6,21,22,23];simp[auv,w2];refine⟨k+1, ?_,by omega,by omega⟩;rw[mZ];exact Le.same (xI _ _ (by omega) (by simp[zJ])) (by simp[Ak])
 .have g:k=z.n.aj.length:=by
   have:¬k<z.n.aj.length:=by simpa using g
   omega
  have hxR:x=R:=by rw[<-hx,g,<-hR];rfl
  subst hxR;apply aa.exit;simp;apply aa.ai J2 fw [4];simp[ayv,g0,zJ];refine aa.le (FW (l:=[(4,.v (.box [ti x.aA,ti x.size,ti x.wQ,ti x.arg]))]) (bn:=N+3000) c9 (by omega) (by simp) ?_) ?_
  .simp;exact j8 (l:=[]) c9 (by omega) (by simp)
  apply aa.ret;simp[aiD,Cell.enc];rfl
end
def Ir(a N:Nat):fS:=[(N+15,.box [.AI (.func 133) [.ptr a 0],.aZ,.fH (N+13),.v (ti 0),.v (ti 0)]),(N+13,.map [.int .i64] false 0 [])]
def t54{f0:bS}{a N:Nat}{cs:bW}(hN:∀r,N<=r->f0 r=none)(ha:f0 a=some (.box cs)):
  MM ak 132 [.AI (.func 133) [.ptr a 0]] f0 N (N+20) (λval AQ=>val=.ptr (N+15) 0/\AQ=dA (Ir a N) f0):=by
 refine c54.az6 hN (by simp) (by omega) ?_ λc9=>?_
 .rintro val AQ ⟨rfl,rfl⟩;refine⟨λr hr h=>?_,λr hr=>?_⟩
  .rw[S5 hr (by simp[Ir])];exact h
  .rw[ui λo h=>by simp[Ir]at h;omega];exact hN r (by omega)
 .simp;apply aa.ai J2 fw [0,2];simp[aqg];apply aa.ai J2 fw [2];simp[aqh,pn];apply aa.ret;simp[axl,Ir]
section
variable{z:mW}{st:nD}
def Yl:Nms:=⟨2025,2028,2031,2304,2012,2309,2302⟩
def ii(z:mW)(st:nD):fS:=[(2033,.box (JO Yl z)),(2025,X0 st),(2028,YH st),(2031,Ya st),(2304,qB 2012 2309 2302 st.s),(2309,hB st.s),(2302,mB st.s),(2012,.box [.ptr 2033 0])]
def AY(z:mW)(st:nD)(L:fS)(hL:∀q∈L,3000<=q.1):(⟨Yl,z,st⟩:SV).at (cR (L++ii z st)) 2033:=by
 have h:∀k,k<3000->cR (L++ii z st) k=cR (ii z st) k:=by
  intro k hk;induction L with
  |nil=>rfl
  |cons a L ih=>
   obtain⟨r,o⟩:=a;have:=hL (r,o) (by simp);simp only at this;rw[IW,tB,iK (by omega)];exact ih λq hq=>hL q (by simp[hq])
 refine⟨?_, ?_, ?_, ?_, ?_, ?_, ?_, ?_⟩<;>(rw[h _ (by simp[Yl])];simp[ii,Yl])
def abE(z:mW)(st ir:nD)(L:fS)(hL:∀q∈L,3000<=q.1):ig (cR (L++ii z st)) ⟨Yl,z,st⟩ ir=cR (L++ii z ir):=by
 funext k;induction L with
 |nil=>
  show(if k=2025 then some (X0 ir)else if k=2028 then some (YH ir)else if k=2031 then some (Ya ir)else if k=2304 then some (qB 2012 2309 2302 ir.s)else if k=2309 then some (hB ir.s)else if k=2302 then some (mB ir.s)else cR (ii z st) k)=cR (ii z ir) k;simp only[ii,tB,O5];by_cases h1:k=2025
  .subst h1;simp
  by_cases h2:k=2028
  .subst h2;simp
  by_cases h3:k=2031
  .subst h3;simp
  by_cases h4:k=2304
  .subst h4;simp
  by_cases h5:k=2309
  .subst h5;simp
  by_cases h6:k=2302
  .subst h6;simp
  simp only[iK h1,iK h2,iK h3,iK h4,iK h5,iK h6]
 |cons a L ih=>
  obtain⟨r,o⟩:=a;have hr:=hL (r,o) (by simp);simp only at hr;have ih:=ih λq hq=>hL q (by simp[hq]);show(if k=2025 then some (X0 ir)else if k=2028 then some (YH ir)else if k=2031 then some (Ya ir)else if k=2304 then some (qB 2012 2309 2302 ir.s)else if k=2309 then some (hB ir.s)else if k=2302 then some (mB ir.s)else(if k=r then some o else cR (L++ii z st) k))=if k=r then some o else cR (L++ii z ir) k
  rw[<-ih];show _=if k=r then some o else(if k=2025 then some (X0 ir)else if k=2028 then some (YH ir)else if k=2031 then some (Ya ir)else if k=2304 then some (qB 2012 2309 2302 ir.s)else if k=2309 then some (hB ir.s)else if k=2302 then some (mB ir.s)else cR (L++ii z st) k)
  (repeat' split)<;>first|rfl|omega
def ajR(L:fS):cR L=dA L (λ_=>none):=by
 funext k;induction L with
 |nil=>rfl
 |cons a L ih=>
  obtain⟨r,o⟩:=a;simp only[tB,y9,ih]
def Qd(z:mW)(st:nD){M:Nat}(hM:3000<=M){L:fS}(hL:∀q∈L,3000<=q.1/\q.1<M/\jy q.2=[]):qX (cR (L++ii z st)) M:=by
 have gG:=AY z st L (λq hq=>(hL q hq).1);have e:=ajR (L++ii z st);rw[e]at gG⊢;refine HB (N:=0) (λr o h=>by cases h) (ER _) λq hq=>?_;rcases lF.1 hq with hq|hq
 .obtain⟨_,h2,h3⟩:=hL q hq;exact⟨h2,λm hm=>by rw[h3]at hm;cases hm⟩
 .simp only[ii,jv,qg,AZ]at hq;have h1:=gG.rb;have h2:=gG.rf;have h3:=gG.rh;have h4:=gG.q;have h5:=gG.hp;have h6:=gG.m;have h7:=gG.a;have h8:=gG.sp;simp only[Yl]at h1 h2 h3 h4 h5 h6 h7 h8;rcases hq with rfl|rfl|rfl|rfl|rfl|rfl|rfl|rfl
  .refine⟨by simp only;omega,λm hm=>?_⟩;simp only[JO,Yl,jy,da,br,Ej,jB,jv,qg,AZ,IW]at hm;rcases hm with rfl|rfl|rfl|rfl
   .rw[h1];simp
   .rw[h2];simp
   .rw[h3];simp
   .rw[h4];simp
  .exact⟨by simp only;omega,λm hm=>by simp[X0,jy]at hm⟩
  .exact⟨by simp only;omega,λm hm=>by simp[YH,jy]at hm⟩
  .exact⟨by simp only;omega,λm hm=>by simp[Ya,jy]at hm⟩
  .refine⟨by simp only;omega,λm hm=>?_⟩;simp only[qB,jy,da,br,Ej,lF,jv,qg,AZ]at hm;rcases hm with rfl|rfl|rfl
   .rw[h7];simp
   .rw[h5];simp
   .rw[h6];simp
  .exact⟨by simp only;omega,λm hm=>by simp[hB,jy]at hm⟩
  .refine⟨by simp only;omega,λm hm=>?_⟩;exfalso;simp only[mB,jy,ZT,N7,sE]at hm;obtain⟨e,⟨e',_,rfl⟩,hk⟩:=hm;simp[br]at hk
  .refine⟨by simp only;omega,λm hm=>?_⟩;simp only[jy,da,br,Ej,jv,qg,AZ]at hm;subst hm;rw[h8];simp
def JB(z:mW)(st:nD)(k:Nat):nD:=(z.n.aj.take k).foldl (λst r=>(ew z r).foldl (pk z r) st) st
def Qh(z:mW)(st:nD)(k j:Nat):nD:=((ew z (z.n.aj.getD k default)).take j).foldl (pk z (z.n.aj.getD k default)) (JB z st k)
def abF(r:bC):(ew z r).length<=z.l.aK.length+((z.to-z.fr).toNat+1):=by
 have:=Kl z;unfold ew;split
 .split<;>simp;omega
 .split
  .have:=List.length_filterMap_le (Ga z r) (List.range' (sx z) (Hd z-sx z));rw[List.length_range']at this;omega
  .split
   .simp;omega
   .split
    .simp
    .simp
def ajS(C:AU z.n z.l z.c z.fr.toNat z.to.toNat)(K:Kx z){k j:Nat}(hk:k<z.n.aj.length):PI z (Qh z (nF z.n.an.toNat) k j)/\(Qh z (nF z.n.an.toNat) k j).s.xo<=700000000000:=by
 have hrk:z.n.aj.getD k default∈z.n.aj:=bu hk;obtain⟨r,hr⟩:=aY (z.n.aj.getD k default);have e:Qh z (nF z.n.an.toNat) k j=(((z.n.aj.take k).flatMap λr=>(ew z r).map λi=>((r,i):PR))++((ew z r).take j).map λi=>((r,i):PR)).foldl (λst (p:PR)=>pk z p.1 st p.2) (nF z.n.an.toNat):=by
  rw[uK,<-DT (λst (p:PR)=>pk z p.1 st p.2) (ew z),Zdr];unfold Qh JB;rw[hr]
 have aN:∀p∈((z.n.aj.take k).flatMap λr=>(ew z r).map λi=>((r,i):PR))++((ew z r).take j).map λi=>((r,i):PR),N6 z p:=by
  intro p hp;rcases lF.1 hp with hp|hp
  .obtain⟨r',nl,hp⟩:=ZT.1 hp;obtain⟨i,hi,rfl⟩:=sE.1 hp;exact⟨yS nl,hi⟩
  .obtain⟨i,hi,rfl⟩:=sE.1 hp;rw[hr]at hrk;exact⟨hrk,yS hi⟩
 obtain⟨a1,_,_,a4⟩:=(aev C K).aoy (λ_ h=>h) _ aN _ (PI0 K);rw[<-e]at a1 a4;refine⟨a1, ?_⟩;have l1:=WU (c:=1000001001) (f:=λr=>(ew z r).map λi=>((r,i):PR)) (z.n.aj.take k) (λr hr=>by
  have:=abF (z:=z) r;have:=K.hl.2.2.1;have:=C.tm;have:=K.ft;rw[we];omega)
 have l2:=abF (z:=z) r;have l3:=K.hn.2.2.1;have l4:=K.hl.2.2.1;have:=C.tm;have:=K.ft;rw[nH,we,Ee]at a4;rw[Ee]at l1;have l5:1000001001*min k z.n.aj.length<=1000001001*600:=Nat.mul_le_mul_left _ (by omega);have l6:(nF z.n.an.toNat).s.xo=0:=rfl;omega
def Ym{k:Nat}(hk:k<z.n.aj.length):JB z st (k+1)=Qh z st k (ew z (z.n.aj.getD k default)).length:=by
 unfold Qh JB;rw[dH hk,uK];simp only[Br,Zcy,uJ]
def ahU{k j:Nat}{i:mm}(h:(ew z (z.n.aj.getD k default))[j]? =some i):Qh z st k (j+1)=pk z (z.n.aj.getD k default) (Qh z st k j) i:=by
 unfold Qh;rw[OS,h,uK];rfl
def ajT(H:Run z){k:Nat}(hk:k<z.n.aj.length){D:DV}(hD:V1 D (z.n.aj.getD k default)):
  ce ak 134 [.ptr 2033 0,D,.AI (.func 135) [.ptr 2012 0,.ptr 4104 0]] (cR ([(4104,im (z.n.aj.getD k default))]++ii z (JB z (nF z.n.an.toNat) k)))
   ⟨True,.v (.dh []),cR ([(4104,im (z.n.aj.getD k default))]++ii z (JB z (nF z.n.an.toNat) (k+1)))⟩:=by
 have hrk:z.n.aj.getD k default∈z.n.aj:=bu hk;have aAA:=λj=>ajS H.C H.K (j:=j) hk;rw[Ym hk];have hsu:=λ{j i}=>ahU (z:=z) (st:=nF z.n.an.toNat) (k:=k) (j:=j) (i:=i);obtain⟨r,hr⟩:=aY (z.n.aj.getD k default);have th:=H.K.hn.2.2.2 r (by rw[<-hr];exact hrk);rw[hr]at hD hrk hsu⊢;have hL:∀q∈[((4104:Nat),im r)],3000<=q.1:=by simp
 have e0:JB z (nF z.n.an.toNat) k=Qh z (nF z.n.an.toNat) k 0:=rfl;rw[e0];have yF:=H.K.ft;have nJ:=H.C.tm;refine t57 (k:=Yl) (z:=z) (N:=5000) (r:=r) (cz:=[2012,4104]) (F:=λj=>cR ([(4104,im r)]++ii z (Qh z (nF z.n.an.toNat) k j))) (B:=λ_=>true) ⟨λj _=>⟨_,AY z _ _ hL⟩,λj _=>Qd z _ (by omega) (by simp[im,jy,da,br])⟩
  ⟨λj i hi _ N' hN'=>?_,λj r' hj hn=>?_,λ_ _=>rfl,.inl rfl⟩ H.Zs.mono H.K.hl.2.2.1 (by omega) ⟨th.2.2.1,th.2.2.2.1⟩ H.K.hl.2.2.2 ?_ hD
 .have hib:i∈ew z r:=Hf hi;obtain⟨m1,m2⟩:=aAA j;have:=t58 (i:=i) (r:=r) (sB:=2012) (rB:=4104) hN' (AY z (Qh z (nF z.n.an.toNat) k j) _ hL) (by simp[ii]) (by simp) (Pg H.K H.cf m1.1.wf hrk hib) (λ_=>by
   have hh:0<=r.head/\r.head<z.n.an:=⟨th.1,th.2.1⟩;exact m1.1.wf.Tx (by omega) (YX H.K m1.1.wf.bo hrk hib) (by have:=H.K.hn.2.1;omega) (by omega))
  rw[abE z _ _ _ hL]at this;simp only at this;rw[<-hsu hi]at this;exact this
 .simp only[ii,IW,jB,tB,O5]at hn⊢;repeat' split at hn
  all_goals first|(cases hn;done)|skip
  simp[*]
 .intro x hx;simp only[jv,qg,AZ]at hx;rcases hx with rfl|rfl
  .exact⟨[.ptr 2033 0],by simp[ii]⟩
  .exact⟨_,by simp[im];rfl⟩
end
section
variable{tm:dW}{aP bn r:Nat}{A:fS}{z:mW}
def W0{z:mW}(H:Run z):∀{f:Nat} {st:nD},IV z st->Hl st<f->IV z (ph z f st)/\(ph z f st).s.heap=[]
 |0,_,_,h=>by omega
 |f+1,st,hI,h=>by
  by_cases dd:st.s.heap=[]
  .simp only[ph,ee dd];exact⟨hI,dd⟩
  .rw[DU dd];obtain⟨a,b,_⟩:=Ol H.C H.K hI dd;exact W0 H a (by omega)
def aeV{α:Type}(a b:α){n k:Nat}(h:k<n):(List.replicate k a++List.replicate (n-k) b).set k a=List.replicate (k+1) a++List.replicate (n-(k+1)) b:=by
 obtain⟨m,hm⟩:∃m,n-k=m+1:=⟨n-k-1,by omega⟩;rw[hm,show n-(k+1)=m by omega,ZS _ _ (by simp),ZcQ (n:=k)];simp[Q5]
def DG(n k:Nat):nD:=⟨List.replicate k ⟨1099511627776,0⟩++List.replicate (n-k) ⟨0,0⟩,List.replicate n false,List.replicate k (-1)++List.replicate (n-k) 0,⟨[],0,[],0,0,0⟩⟩
def ajU(n:Nat):DG n n=nF n:=by simp[DG,nF]
def abG{ob AQ:bS}{low:Nat}{td:List (aG)}{l:pe}(e:ob=AQ)(h:∀r,bn<=r->AQ r=none)(hl:Ak tm l):Le ⟨tm,ob,aP,low,td⟩ ⟨DM.look l,AQ,bn,low,td⟩:=by
 subst e;exact Le.same h hl
def u5{L:fS}{M:Nat}(h:∀q∈L,q.1<M):∀r,M<=r->cR L r=none:=by
 induction L with
 |nil=>intro r _;rfl
 |cons a L ih=>
  intro r hr;obtain⟨j,o⟩:=a;have:=h (j,o) (by simp);simp only at this;rw[tB,iK (by omega)];exact ih (λq hq=>h q (by simp[hq])) r hr
def tD(z:mW)(st:nD):∀q∈ii z st,2000<=q.1/\q.1<3000:=by
 intro q hq;simp only[ii,jv,qg,AZ]at hq;rcases hq with rfl|rfl|rfl|rfl|rfl|rfl|rfl|rfl<;>simp only[]<;>omega
def Qe{B:fS}{o:Ob}(h:cR (A++B) r=some o):(r,o)∈A\/((∀q∈A,q.1≠r)/\cR B r=some o):=by
 induction A with
 |nil=>exact .inr ⟨λq hq=>(by cases hq),h⟩
 |cons a A ih=>
  obtain⟨j,x⟩:=a;rw[IW,tB]at h;by_cases e:r=j
  .rw[ee e]at h;cases h;subst e;exact .inl (by simp)
  .rw[iK e]at h;rcases ih h with h|⟨h1,h2⟩
   .exact .inl (by simp[h])
   .exact .inr ⟨λq hq=>by
     rcases jv.1 hq with rfl|hq
     .exact λe2=>e e2.symm
     .exact h1 q hq,h2⟩
def ajX{B:fS}(h:∀q∈A,q.1≠r):cR (A++B) r=cR B r:=by
 induction A with
 |nil=>rfl
 |cons a A ih=>
  obtain⟨j,x⟩:=a;have:=h (j,x) (by simp);simp only at this;rw[IW,tB,iK (λe=>this e.symm)];exact ih λq hq=>h q (by simp[hq])
def ajY{st:nD}{L L':fS}{l:pe}(hL:∀q∈L,3000<=q.1)(hL':∀q∈L',3000<=q.1/\q.1<bn)(hn:3000<=bn)
  (eH:wt (cR (L++ii z st)) (cR (L'++ii z st)) id L') (nJ:oM (cR (L++ii z st)) (cR (L'++ii z st)) id tm l):
  Le ⟨tm,cR (L++ii z st),aP,1000,[]⟩ ⟨DM.look l,cR (L'++ii z st),bn,1000,[]⟩:=by
 have c9:=Qd z st (gJ 3000) (L:=[]) (λq hq=>by cases hq);simp only[jB]at c9;have low:∀{A:fS},(∀q∈A,3000<=q.1)->∀r,r<3000->cR (A++ii z st) r=cR (ii z st) r:=λhA r hr=>ajX λq hq e=>by have:=hA q hq;omega
 have hLs:∀q∈L',3000<=q.1:=λq hq=>(hL' q hq).1;refine Le.auh rfl rfl ?_ (λr o h=>?_) (λr hr o h=>?_) (λk=>xT l nJ k)
 .refine u5 λq hq=>?_;rcases lF.1 hq with hq|hq
  .exact(hL' q hq).2
  .have:=tD z st q hq;simp only;omega
 .rcases Qe h with h|⟨_,h⟩
  .obtain⟨o0,h1,h2⟩:=wu eH r o h;exact⟨o0,h1,.inl h2⟩
  .have hr:=(c9 r o h).1;refine⟨o,(low hL r hr).trans h,.inr ⟨rfl,λm hm=>?_⟩⟩;have Ij:=(c9 r o h).2 m hm;cases hmo:cR (ii z st) m with
   |none=>exact qe hmo Ij
   |some o'=>exact⟨o',o',(low hL m (c9 m o' hmo).1).trans hmo,(low hLs m (c9 m o' hmo).1).trans hmo,ej _⟩
 .exfalso;simp only at h hr;rcases Qe h with h|⟨_,h⟩
  .have:=hL _ h;simp only at this;omega
  .have hm:=pJ h;have:=tD z st _ hm;simp only at this;omega
def spP(z:mW):bW:=[.v (ti z.n.aX),.v (ti z.n.an),.v (ti z.n.start),.v (.sl (aQ z.n.aj)),.v (ti z.l.bf),.v (.sl (bq z.l.aK)),.v (.sl (au z.l.bj)),.v (ti z.c.an),.v (ti z.c.bf),.v (.sl (bl z.c.cells)),.v (ti z.fr),.v (ti z.to),.aW 2025 0,.aW 2028 0,.aW 2031 0,.v (.tf (Go.Value.pointer Option.none))]
def HE(z:mW)(n:Nat):fS:=[(2012,.box [.ptr 2033 0]),(2033,.box (spP z)),(2031,Ya (DG n 0)),(2028,YH (DG n 0)),(2025,X0 (DG n 0))]
def t35(H:Run z):oS ak 96 [z.n.enc,z.l.enc,z.c.enc,ti z.fr,ti z.to] 151 4 (bl (sP z.n z.l z.c z.fr z.to)):=by
 have avC:=apb H.C H.K;obtain⟨s0,hs0⟩:=aY (Qa z (nF z.n.an.toNat));rw[hs0]at avC;have hnn:=H.K.hn;have aAQ:s0.s.xo<=700000000000:=by
  by_cases e:z.n.aj.length=0
  .have:z.n.aj=[]:=oK e;rw[<-hs0];simp[Qa,this,nF]
  .have h1:=(ajS H.C H.K (k:=z.n.aj.length-1) (j:=(ew z (z.n.aj.getD (z.n.aj.length-1) default)).length) (by omega)).2;rw[<-Ym (by omega),show z.n.aj.length-1+1=z.n.aj.length by omega]at h1;have:JB z (nF z.n.an.toNat) z.n.aj.length=Qa z (nF z.n.an.toNat):=by unfold JB Qa;rw[uJ]
   rw[this,hs0]at h1;exact h1
 have aAR:Hl s0<=z.n.an.toNat:=by
  unfold Hl;have:=avC.1.1.wf.lf;have:=List.count_le_length (a:=false) (l:=s0.dM);omega
 obtain⟨hI,af3⟩:=W0 H (f:=Hl s0+1) avC.1 (by omega);obtain⟨s9,hs9⟩:=aY (ph z (Hl s0+1) s0);have hn1:1<=z.n.an:=hnn.1;have FF:z.n.an<=1000:=hnn.2.1;have h62:=t62 (p:=2033) (k0:=Yl) (N:=5000) (f0:=cR (ii z s0)) H (u5 λq hq=>by have:=tD z s0 q hq;omega) (AY z s0 [] (λq hq=>by cases hq)) avC.1 (by omega);have Cd:=abE z s0 (ph z (Hl s0+1) s0) [] (λq hq=>by cases hq);simp only[jB]at Cd;rw[Cd,hs9]at h62;rw[hs9]at hI af3;have Pr:=adi H.C H.K H.Zs hI af3;rw[<-Pr];have h63:=λ(h:Nat) (hh:h<z.n.an.toNat) (L:fS) (hL:∀q∈L,3000<=q.1) (N:Nat) (hN:∀r,N<=r->cR (L++ii z s9) r=none)=>t63 (p:=2033) H hN (AY z s9 L hL) hI.1.wf hh;have qU:z.n.aj.length<=600:=hnn.2.2.1;obtain⟨nn,aAB⟩:=bX (a:=z.n.an) (by omega);have JH:z.n.an.toNat=nn:=by omega
 rw[JH]at h63 hs0;refine c35.Hc (by simp) (aH ?_);simp[ay.enc,aF.enc,bI.enc];apply aa.ai J2 fw [3,4,5,6,7,10];simp[aq7];refine aa.lk (o:=[]) (l:=[(3,.v (ti z.fr)),(4,.v (ti z.to)),(5,.v (.box [ti z.n.aX,ti z.n.an,ti z.n.start,.sl (aQ z.n.aj)])),(6,.v (.box [ti z.l.bf,.sl (bq z.l.aK),.sl (au z.l.bj)])),(7,.v (.box [ti z.c.an,ti z.c.bf,.sl (bl z.c.cells)])),(10,.aZ)]) (bn:=2000) (by simp) ?_;apply aa.ai J2 fw [5,11];simp[aq8,XW,cw];repeat (refine⟨by omega, ?_⟩)
 have htk:z.n.an.toNat=nn:=JH;have sl5:∀n1:Nat,∀x,List.replicate n1 [T.int .i64 x]=au (List.replicate n1 x):=λn1 x=>by simp[au]
 refine aa.le (abG (AQ:=cR (HE z nn)) (l:=[(5,.v (.box [ti z.n.aX,ti z.n.an,ti z.n.start,.sl (aQ z.n.aj)])),(11,.ptr 2012 0)]) (bn:=2200) ?_ ?_ ?_) ?_
 .funext q;simp only[HE,spP,tB,O5,Ya,YH,X0,DG,htk,au,gH,cU,List.replicate_zero,jB,List.map_replicate,ZcG]
  (repeat' split)<;>first|rfl|omega
 .exact u5 (by simp[HE])
 .simp
 have aav:∀{tm:dW} {ob:bS},ob=dA ((2033,.box (JO Yl z))::Ir 2012 2289) (cR (HE z nn))->Ak tm [(5,.v (.box [ti z.n.aX,ti z.n.an,ti z.n.start,.sl (aQ z.n.aj)])),(11,.ptr 2012 0)]->
   Le ⟨tm,ob,2309,1000,[]⟩ ⟨DM.look [(5,.v (.box [ti z.n.aX,ti z.n.an,ti z.n.start,.sl (aQ z.n.aj)])),(11,.ptr 2012 0)],cR (ii z (DG nn 0)),3000,1000,[]⟩:=by
  intro tm ob e nJ;subst e;refine Le.trans (Le.qZ 2304 1 307 (sz:=3) (cs:=[.AI (.func 133) [.ptr 2012 0],.aZ,.fH 2302,.v (ti 0),.v (ti 0)]) (by omega) (by simp[Ir]) rfl) (abG ?_ (u5 λq hq=>(tD z _ q hq).2) nJ);funext q;show(if q=2304 then _ else if q=2309 then _ else _)=_;simp only[Ir,HE,ii,tB,O5,y9,amx];by_cases h1:q=2304
  .subst h1;rfl
  by_cases h2:q=2309
  .subst h2;rfl
  by_cases h3:q=2033
  .subst h3;rfl
  by_cases h4:q=2302
  .subst h4;rfl
  by_cases h5:q=2012
  .subst h5;rfl
  by_cases h6:q=2031
  .subst h6;rfl
  by_cases h7:q=2028
  .subst h7;rfl
  by_cases h8:q=2025
  .subst h8;rfl
  simp[h1,h2,h3,h4,h5,h6,h7,h8]
 refine aa.seq (aa.to ⟨DM.look [(5,.v (.box [ti z.n.aX,ti z.n.an,ti z.n.start,.sl (aQ z.n.aj)])),(11,.ptr 2012 0)],cR (ii z (DG nn 0)),3000,1000,[]⟩ (aa.az7 J2 fw (rs:=(yD 96 2)) pV (by kernel_rfl) [5,11] 2309 (λD s=>s.todo=[]/\(D 2=false->s.ab=cR (HE z nn))/\(D 2=true->D 5=false->s.ab=dA (Ir 2012 2289) (cR (HE z nn)))/\(D 5=true->s.ab=dA ((2033,.box (JO Yl z))::Ir 2012 2289) (cR (HE z nn)))/\
  s.tmps 5=.v (.box [ti z.n.aX,ti z.n.an,ti z.n.start,.sl (aQ z.n.aj)])/\s.tmps 11=.ptr 2012 0/\(D 0=true->s.tmps 33=.ptr 2033 0)/\(D 1=true->s.tmps 34=.AI (.func 133) [.ptr 2012 0])/\(D 2=true->s.tmps 35=.ptr 2304 0)/\(D 3=true->s.tmps 36=.ptr 2033 0)/\(D 4=true->s.tmps 37=.ptr 2033 15)) ?_ ?_ ?_ rfl) ?_)
 .intro h;simp
 .rintro D i r ⟨tm,ob,td⟩ hr hi ha c9 ⟨rfl,i1,i2,i3,i4,i5,i6,i7,i8,i9,i10⟩;simp only[aq9]at hr c9;simp only at i1 i2 i3 i4 i5 i6 i7 i8 i9 i10;have eH:ob=cR (HE z nn)\/ob=dA (Ir 2012 2289) (cR (HE z nn))\/ob=dA ((2033,.box (JO Yl z))::Ir 2012 2289) (cR (HE z nn)):=by
   cases h2:D 2 with
   |false=>exact .inl (i1 h2)
   |true=>
    cases h5:D 5 with
    |false=>exact .inr (.inl (i2 h2 h5))
    |true=>exact .inr (.inr (i3 h5))
  have ZU:∀k,2200<=k->k<=2250->ob k=none:=λk h1 h2=>by
   have e:∀m,(m<2200\/2250<m)->k≠m:=λm h=>by omega
   rcases eH with h|h|h<;>(rw[h];simp[Ir,HE,y9,tB,e])
  have hq:ob 2012=some (.box [.ptr 2033 0]):=by rcases eH with h|h|h<;>(rw[h];simp[Ir,HE,y9,tB])
  have h50:∀i,i<5->D i=false->D 5=false:=λi h1 h2=>by
   cases h:D 5 with
   |false=>rfl
   |true=>
    exfalso;have k4:=c9 5 _ rfl h 4 (by simp);have k:=λm hm=>c9 4 _ rfl k4 m hm;simp at k;have:i=0\/i=1\/i=2\/i=3\/i=4:=by omega
    rcases this with rfl|rfl|rfl|rfl|rfl<;>simp_all
  rcases i with _|_|_|_|_|_|i;all_goals simp only[Bd,Ou,List.getElem?_nil,cq,reduceCtorEq]at hr
  all_goals subst hr
  .refine .of (ZU _ (by simp[nm,bQ]) (by simp[nm,bQ])) ?_;simp[i5,hq,Zz];exact⟨i1,i2,i3,i4,i7,i8,i9,i10⟩
  .refine .of (ZU _ (by simp[nm,bQ]) (by simp[nm,bQ])) ?_;simp[i5,Zz];exact⟨i1,i2,i3,i4,i6,i8,i9,i10⟩
  .have h5:=h50 2 (by omega) hi;have h1:=i1 hi;subst h1;have e:=i7 (ha 1 (by simp));refine .inr ⟨_,_,_,_,2289,2309,λval AQ=>val=.ptr (2289+15) 0/\AQ=dA (Ir 2012 2289) (cR (HE z nn)),rfl, ?_, ?_⟩
   .simp only[vG,Zcg,bK.ev,e];exact t54 (cs:=[.ptr 2033 0]) (u5 (by simp[HE])) hq
   rintro val AQ ⟨rfl,rfl⟩;simp[Zz,h5,i4,i5];exact⟨i6,i7,i9,i10⟩
  .refine .of (ZU _ (by simp[nm,bQ]) (by simp[nm,bQ])) ?_;simp[i6 (ha 0 (by simp)),Zz];exact⟨i1,i2,i3,i4,i5,i7,i8,i10⟩
  .refine .of (ZU _ (by simp[nm,bQ]) (by simp[nm,bQ])) ?_;simp[i9 (ha 3 (by simp)),Zz];exact⟨i1,i2,i3,i4,i5,i6,i7,i8⟩
  .have h2:=ha 2 (by simp);have h1:=i2 h2 hi;subst h1;refine .of (show _ from ZU 2200 (by omega) (by omega)) ?_;simp[i10 (ha 4 (by simp)),i8 h2,Zz,Ir,HE,y9,tB,spP,h2,i4,i5];exact⟨rfl,i6,i7,i9⟩
 .rintro D ⟨tm,ob,td⟩ hD ⟨rfl,i1,i2,i3,i4,i5,i6,i7,i8,i9,i10⟩;have h5:=i3 (hD 5 (by simp[aq9]));simp only at h5 i4 i5;subst h5;refine⟨λq hq=>?_,rfl,aav rfl ?_⟩
  .have e:∀m,m<2309->q≠m:=λm h=>by omega
   simp[Ir,HE,y9,tB,e]
  .simp[o5,i4,i5]
 obtain⟨RT,hRT⟩:=aY (T.box [ti z.n.aX,ti z.n.an,ti z.n.start,.sl (aQ z.n.aj)]:T);have ek:=λk=>AY z (DG nn k) [] (λq hq=>by cases hq);have e1:=λk=>(ek k).sp;have e2:=λk=>(ek k).rb;have e3:=λk=>(ek k).rh;have e4:=λk=>(ek k).a;simp only[jB,JO,Yl]at e1;simp only[jB,X0,Yl]at e2;simp only[jB,Ya,Yl]at e3;simp only[jB,Yl]at e4;have arw:∀k,k<=nn->(DG nn k).az.length=nn:=λk hk=>by simp[DG];omega
 have ay8:∀k,k<=nn->(DG nn k).u7.length=nn:=λk hk=>by simp[DG];omega
 apply aa.sq J2 fw [5,11,42,43];simp[ara,e1,e2,e4,arw 0 (by omega)];apply aa.block;refine aa.loop (λk:Nat=>⟨DM.look [(5,.v (.box [ti z.n.aX,ti z.n.an,ti z.n.start,.sl (aQ z.n.aj)])),(11,.ptr 2012 0),(42,.v (ti nn)),(43,.v (ti k))],cR (ii z (DG nn k)),3500,1000,[]⟩)
  (λk=>k<=nn) (λk=>nn-k) 0 (Le.same (u5 λq hq=>by have:=tD z _ q hq;omega) (by simp[Ak])) (by omega) (λk hk=>?_)
 apply aa.ai J2 fw [5,11,42,43,44];simp[arb];apply aa.seq;refine aa.cond rfl (λg=>?_) (λg=>?_)
 .have g:k<nn:=by simpa using g
  apply aa.skip;simp;apply aa.seq;apply aa.block;apply aa.ai J2 fw [5,11,42,43,12];simp[ard];apply aa.ai J2 fw [5,11,42,43,12];have rb:=jU (l:=(DG nn k).az) (y:=k) (by rw[arw k hk];exact g);have rh:=bA (l:=(DG nn k).u7) (y:=k) (by rw[ay8 k hk];exact g);simp[are,e1,e2,e4,arw k hk,g,rb];have e5:∀(q:Ob),cR ((2025,q)::ii z (DG nn k)) 2012=some (.box [.ptr 2033 0]):=λq=>by rw[tB,iK (by omega)];exact e4 k
  apply aa.cZ J2 fw [5,11,42,43];simp[Km,e1,e3,e4,ay8 k hk,g,rh];apply aa.cZ J2 fw [5,11,42,43];simp[arf];rw[av (x:=(k:Int)+1) (by omega)];refine⟨k+1,abG ?_ (u5 λq hq=>by have:=tD z _ q hq;omega) (by simp),by omega,by omega⟩;funext q;have v1:(cU (DG nn k).az).set k [T.int .i64 1099511627776,T.int .i64 0]=cU (DG nn (k+1)).az:=by
   rw[show [T.int .i64 1099511627776,T.int .i64 0]=[ti (⟨1099511627776,0⟩:cX).aA,ti (⟨1099511627776,0⟩:cX).size]from rfl,<-zg];simp only[DG,aeV _ _ g]
  have v2:(au (DG nn k).u7).set k [T.int .i64 (-1)]=au (DG nn (k+1)).u7:=by
   rw[<-zh];simp only[DG,aeV _ _ g]
  rw[v1,v2];simp only[ii,tB,O5];by_cases h1:q=2025
  .subst h1;rfl
  by_cases h2:q=2031
  .subst h2;rfl
  simp only[iK h1,iK h2];rfl
 .have g:k=nn:=by
   have:¬k<nn:=by simpa using g
   omega
  subst g;rw[ajU];apply aa.exit;simp;have ek:=λk'=>AY z (JB z (nF k) k') [] (λq hq=>by cases hq);have e1:=λk'=>(ek k').sp;have e4:=λk'=>(ek k').a;simp only[jB,JO,Yl]at e1;simp only[jB,Yl]at e4;apply aa.sq J2 fw [5,11,62,63,64];simp[arh];apply aa.block;refine aa.loop (λy:Nat=>⟨DM.look [(5,.v (.box [ti z.n.aX,ti z.n.an,ti z.n.start,.sl (aQ z.n.aj)])),(11,.ptr 2012 0),(62,.v (.sl (aQ z.n.aj))),(63,.v (ti z.n.aj.length)),(64,.v (ti y))],cR (ii z (JB z (nF k) y)),4000,1000,[]⟩)
   (λy=>y<=z.n.aj.length) (λy=>z.n.aj.length-y) 0 (Le.same (u5 λq hq=>by have:=tD z _ q hq;omega) (by simp[Ak])) (by omega) (λy hy=>?_)
  apply aa.ai J2 fw [5,11,62,63,64,65];simp[aiU];apply aa.seq;refine aa.cond rfl (λg=>?_) (λg=>?_)
  .have g:y<z.n.aj.length:=by simpa using g
   apply aa.skip;simp;apply aa.seq;apply aa.block;have rk:=fE g;have hic:=λD hD=>ajT H g (D:=D) hD;rw[htk]at hic;obtain⟨⟨rk',rh,ra,rb,rp,ro⟩,hr⟩:=aY (z.n.aj.getD y default);rw[hr]at rk hic;simp only[bC.enc]at rk;apply aa.ai J2 fw [5,11,62,63,64,14];simp[Nz,g,rk];have eU:∀(o o':Ob) (L:fS),cR ((4104,o)::(4104,o')::L)=cR ((4104,o)::L):=λo o' L=>by
    funext q;simp only[tB];split<;>rfl
   rw[eU];have ZU:∀r',cR ([(4104,im ⟨rk',rh,ra,rb,rp,ro⟩)]++ii z (JB z (nF k) y)) r'=none->cR ([(4104,im ⟨rk',rh,ra,rb,rp,ro⟩)]++ii z (JB z (nF k) (y+1))) r'=none:=by
    intro r' nl;simp only[ii,IW,jB,tB,O5]at nl⊢;repeat' split at nl
    all_goals first|(cases nl;done)|skip
    simp[*]
   have bb:=ok1 aw.nil (λN' _=>hic _ (adl _)) ZU;have q1:cR ((4104,Ob.box [.v (ti rk'),.v (ti rh),.v (ti ra),.v (ti rb),.v (ti rp),.v (ti ro)])::ii z (JB z (nF k) y)) 2012=some (.box [.ptr 2033 0]):=by rw[tB,iK (by omega)];exact e4 y
   apply aa.auk bb fw (rs:=adG) pV (by kernel_rfl) [5,11,62,63,64];simp[adG,q1,im];refine aa.le (ajY (L:=[_]) (L':=[]) (l:=[(5,.v (.box [ti z.n.aX,ti z.n.an,ti z.n.start,.sl (aQ z.n.aj)])),(11,.ptr 2012 0),(62,.v (.sl (aQ z.n.aj))),(63,.v (ti z.n.aj.length)),(64,.v (ti y))]) (bn:=4500) (by simp) (by simp) (by omega) trivial ?_) ?_
   .simp[e4]
   simp;apply aa.cZ J2 fw [5,11,62,63,64];simp[aiW];rw[av (x:=(y:Int)+1) (by omega)];exact⟨y+1,abG rfl (u5 λq hq=>by have:=tD z _ q hq;omega) (by simp),by omega,by omega⟩
  .have g:y=z.n.aj.length:=by
    have:¬y<z.n.aj.length:=by simpa using g
    omega
   subst g;have e0:JB z (nF k) z.n.aj.length=s0:=by rw[<-hs0];unfold JB Qa;rw[uJ]
   rw[e0];apply aa.exit;simp;have e4:=(AY z s0 [] (λq hq=>by cases hq)).a;simp only[jB,Yl]at e4;have ZU:∀r',cR (ii z s0) r'=none->cR (ii z s9) r'=none:=by
    intro r' nl;simp only[ii,tB,O5]at nl⊢;repeat' split at nl
    all_goals first|(cases nl;done)|skip
    simp[*]
   have bb:=ok1 aw.nil (λN' _=>h62) ZU;apply aa.uG bb fw (rs:=adH) pV (by kernel_rfl) [5,11];simp[adH,e4];apply aa.ai J2 fw [5,11,15];simp[aiY];refine aa.le (abG rfl (l:=[(5,.v (.box [ti z.n.aX,ti z.n.an,ti z.n.start,.sl (aQ z.n.aj)])),(11,.ptr 2012 0),(15,.aZ)]) (bn:=5000) (u5 λq hq=>by have:=tD z _ q hq;omega) (by simp)) ?_;refine aa.le (Le.j7 (k:=15) 151 (sz:=4) (by omega) (by simp)) ?_;rw[jY];apply aa.sq J2 fw [11,15,76,77];simp[aiZ];apply aa.block;obtain⟨own,iW⟩:=aY (Du z s9.az);have hol:own.length=k:=by rw[<-iW,QO,htk]
   have hog:∀y,y<k->own.getD y default=sv z s9.az y:=λy hy=>by rw[<-iW];simp[Du,List.getD,htk,hy]
   have gG:=λ(o:Ob)=>(AY z s9 [(5000,o)] (by simp)).a;simp only[IW,jB,Yl]at gG;rw[iW];refine aa.loop (λy:Nat=>⟨DM.look [(11,.ptr 2012 0),(15,.aW 5000 0),(76,.v (ti k)),(77,.v (ti y))],cR ([(5000,.bm 0 151 4 (bl (own.take y)))]++ii z s9),6000,1000,[]⟩)
    (λy=>y<=k) (λy=>k-y) 0 (ajY (L:=[_]) (by simp) (by simp) (by omega) ?_ ?_) (by omega) (λy hy=>?_)
   .simp[bl]
   .simp[gG,aAB]
   apply aa.ai J2 fw [11,15,76,77,78];simp[ai0];apply aa.seq;refine aa.cond rfl (λg=>?_) (λg=>?_)
   .have g:y<k:=by simpa using g
    have hg:=hog y g;have aw3:=λN hN=>h63 y g [(5000,.bm 0 151 4 (bl (own.take y)))] (by simp) N hN;rw[<-hg]at aw3;have tk:own.take (y+1)=own.take y++[own.getD y default]:=dH (by omega);obtain⟨cx,hcx⟩:=aY (own.getD y default);rw[hcx]at aw3 tk;apply aa.skip;simp;apply aa.seq;apply aa.block;apply aa.ai J2 fw [11,15,16,76,77];simp[ai1];have bb:=ok1 aw.nil aw3 (λr h=>h);apply aa.auk bb fw (rs:=adI) pV (by kernel_rfl) [11,15,76,77];simp[adI,gG,cw,di,Cell.enc];refine⟨by omega, ?_⟩;apply aa.cZ J2 fw [11,15,76,77];simp[awv];rw[av (x:=(y:Int)+1) (by omega)];refine⟨y+1,ajY (L:=[_,_]) (L':=[_]) (by simp) (by simp) (by omega) ?_ ?_,by omega,by omega⟩
    .simp[tk,bl,Cell.enc]
    .simp[gG]
   .have g:y=k:=by
     have:¬y<k:=by simpa using g
     omega
    subst g;apply aa.exit;simp;apply aa.ai J2 fw [10];simp[aww];apply aa.ret;exact .inr ⟨5000,0,by simp,by simp[<-hol]⟩
end
end aT
namespace It
open Go.DM
def api:=aB 62 0
def apj:=aB 62 1
noncomputable def d32:DC:=fo 62
def WQ:List cH:=[.cell 4 2 true]
def c32 [bD]:aR ak 62 10 d32 WQ:=.at
def WR:=aB 63 0
def WS:=aB 63 1
noncomputable def d33:DC:=fo 63
def Dw:List cH:=[.fB 2]
def c33 [bD]:aR ak 63 13 d33 Dw:=.at
def JQ:=aB 67 0
def vR:=aB 67 1
def JR:=aB 67 2
noncomputable def d37:DC:=fo 67
def rY:List cH:=[.fB 8]
def c37 [bD]:aR ak 67 30 d37 rY:=.at
def IL:=aB 41 0
def IN:=aB 41 1
def VH:=aB 41 2
def IP:=aB 41 3
def IQ:=aB 41 4
def BO:=aB 41 5
def IR:=aB 41 6
def IS:=aB 41 7
def BP:=aB 41 8
def TX:=aB 41 9
def LC:=aB 41 10
def LD:=aB 41 11
def LG:=aB 41 12
def Gn:=aB 41 13
def LI:=aB 41 14
def LJ:=aB 41 15
def Gm:=aB 41 16
def LK:=aB 41 17
def LL:=aB 41 18
def aie:=aB 41 19
def aif:=aB 41 20
def aig:=aB 41 21
noncomputable def d44:DC:=fo 41
def mN:List cH:=[.fB 2]
def c44 [bD]:aR ak 41 151 d44 mN:=.at
end It
end Go.Proofs
namespace Go.Proofs.It
open Go.DM
structure bC where
 (kind head a b bi origin:Int)
structure ay where
 (aX an start:Int)
 aj:List bC
structure Edge where
 head:Int
 bY:ba
 (aA l0 l1:Int)
 deriving DecidableEq
def bC.enc(r:bC):aG:=[ti r.kind,ti r.head,ti r.a,ti r.b,ti r.bi,ti r.origin]
def aQ(l:List bC):List (aG):=l.map bC.enc
def ay.enc(n:ay):T:=.agg [ti n.aX,ti n.an,ti n.start,.sl (aQ n.aj)]
def Edge.enc(e:Edge):aG:=[ti e.head,.sl (au e.bY),ti e.aA,ti e.l0,ti e.l1]
def ch(l:List Edge):List (aG):=l.map Edge.enc
def t32{Γ:kv}(bb:aw ak Γ)(n:ay)(l:aF):aJ ak 62 [n.enc,l.enc] (.agg [ti n.an,ti l.bf]):=by
 refine c32.ok (by simp) (aH ?_);simp[ay.enc,aF.enc];apply aa.ai bb fw [2,3,4];simp[api];apply aa.ai bb fw [4];simp[apj];apply aa.ret;simp[WQ]
def pre(st:Int):Nat->Int
 |0=>0
 |n+1=>pre st n+st-n
def d5{st:Int}(h:st<=1000):∀n:Nat,(n:Int)<=st->0<=pre st n/\pre st n<=1000*n
 |0,_=>by simp[pre]
 |n+1,hn=>by
  have:=d5 h n (by omega);simp only[pre];omega
def SA:aG->T
 |[.agg [_,nt,_,_],.agg [st,_,_]]=>.agg [nt,st]
 |_=>.bool false
def Wi(ts:aG):Prop:=∃(n:ay) (l:aF),ts=[n.enc,l.enc]
def wH:DM.Spec:=bp Wi SA true
def sm(nt st:Int):Prop:=0<=nt/\nt<=1000/\0<=st/\st<=1000
def F3(nt st:Int):Int:=nt*st*(st+1)/2
def fG(nt st h f t:Int):Int:=(f*st-f*(f-1)/2+t-f)*nt+h
def Wj:aG->T
 |[.agg [.int _ nt,.int _ st]]=>ti (F3 nt st)
 |_=>.bool false
def Kf:aG->Prop
 |[.agg [.int .i64 nt,.int .i64 st]]=>sm nt st
 |_=>False
def zk:DM.Spec:=bp Kf Wj true
def SB:aG->T
 |[.agg [.int _ nt,.int _ st],.int _ h,.int _ f,.int _ t]=>ti (fG nt st h f t)
 |_=>.bool false
def Kh:aG->Prop
 |[.agg [.int .i64 nt,.int .i64 st],.int .i64 h,.int .i64 f,.int .i64 t]=>sm nt st/\0<=h/\h<=1000/\0<=f/\f<=1000/\0<=t/\t<=1000
 |_=>False
def uk:DM.Spec:=bp Kh SB true
def gM{a b m n:Int}(h1:0<=a)(h2:a<=m)(h3:0<=b)(h4:b<=n):0<=a*b/\a*b<=m*n:=
 ⟨Zc5 h1 h3,Int.mul_le_mul h2 h4 h3 (by omega)⟩
def t33{Γ:kv}(bb:aw ak Γ)(nt st:Int)(h:sm nt st):aJ ak 63 [.agg [ti nt,ti st]] (ti (F3 nt st)):=by
 obtain⟨h1,h2,h3,h4⟩:=h;have b1:=gM h1 h2 h3 h4;have b2:=gM b1.1 b1.2 (b:=st+1) (n:=1001) (by omega) (by omega);refine c33.ok (by simp) (aH ?_);simp;apply aa.ai bb fw [1];simp[WR];apply aa.ai bb fw [2];simp[WS];apply aa.ret;simp[Dw,F3];simp (disch:=omega) only[av];rw[ZcU b2.1,av (by omega)]
def t37{Γ:kv}(bb:aw ak Γ)(nt st hd f t:Int)(h:sm nt st)(k:0<=hd/\hd<=1000/\0<=f/\f<=1000/\0<=t/\t<=1000):aJ ak 67 [.agg [ti nt,ti st],ti hd,ti f,ti t] (ti (fG nt st hd f t)):=by
 obtain⟨h1,h2,h3,h4⟩:=h;obtain⟨k1,k2,k3,k4,k5,k6⟩:=k;have b1:=gM k3 k4 h3 h4;have b2:0<=f*(f-1)/\f*(f-1)<=1000000:=by
  by_cases hf:f=0
  .subst hf;simp
  .have:=gM k3 k4 (b:=f-1) (n:=1000) (by omega) (by omega);omega
 have b3: -10000000*1000<=(f*st-f*(f-1)/2+t-f)*nt/\(f*st-f*(f-1)/2+t-f)*nt<=20000000*1000:=by
  have e1: -10000000<=f*st-f*(f-1)/2+t-f/\f*st-f*(f-1)/2+t-f<=10000000:=by omega
  generalize f*st-f*(f-1)/2+t-f=x at e1;have g1:=gM (a:=x+10000000) (m:=20000000) (b:=nt) (n:=1000) (by omega) (by omega) h1 h2;have g2:(x+10000000)*nt=x*nt+10000000*nt:=Int.add_mul ..;omega
 refine c37.ok (by simp) (aH ?_);simp;apply aa.ai bb fw [1,2,3,4];simp[JQ];apply aa.ai bb fw [1,2,3,4,9];simp[vR];apply aa.ai bb fw [8];simp[JR];apply aa.ret;simp[rY,fG];simp (disch:=omega) only[av];rw[ZcU b2.1];simp (disch:=omega) only[av]
def Γ1:kv:=bz [(62,wH),(63,zk),(67,uk)]
def ok1:aw ak Γ1:=by
 refine aw.cons (aw.cons (aw.cons aw.nil ?_) ?_) ?_
 .intro ts h
  match ts,h with
  |[.agg [.int .i64 nt,.int .i64 st],.int .i64 h,.int .i64 f,.int .i64 t],h1=>exact⟨t37 aw.nil nt st h f t h1.1 h1.2,λ_=>rfl⟩
 .intro ts h
  match ts,h with
  |[.agg [.int .i64 nt,.int .i64 st]],h1=>exact⟨t33 aw.nil nt st h1,λ_=>rfl⟩
 .rintro ts ⟨n,l,rfl⟩;exact⟨t32 aw.nil n l,λ_=>rfl⟩
section
variable{st f:Int}
def WZ{st:Int}{a:Nat}:∀b:Nat,a<=b->(b:Int)<=st->pre st a<=pre st b
 |0,h,_=>by
  have:a=0:=by omega
  subst this;exact Tg _
 |b+1,h,hb=>by
  by_cases e:a=b+1
  .subst e;exact Tg _
  .have:=WZ (st:=st) (a:=a) b (by omega) (by omega);simp only[pre];omega
def Nv{a b:Nat}(h:a<b)(hb:(b:Int)<=st):pre st a+st-a<=pre st b:=by
 have:=WZ (st:=st) (a:=a+1) b h hb;simpa [pre]using this
def mV(st:Int):∀n:Nat,2*pre st n=2*(n*st)-n*(n-1)
 |0=>by simp[pre]
 |n+1=>by
  have ih:=mV st n;simp only[pre];have e1:((n+1:Nat):Int)*st=n*st+st:=by rw[Int.natCast_add,Int.add_mul];simp
  have e2:((n+1:Nat):Int)*(((n+1:Nat):Int)-1)=n*(n-1)+2*n:=by
   have:((n+1:Nat):Int)-1=n:=by omega
   rw[this,Int.natCast_add,Int.add_mul,Int.mul_sub];simp;omega
  rw[e1,e2];omega
def bP(st f t:Int):Int:=pre st f.toNat+t-f
def mU{nt h t:Int}(hf:0<=f):fG nt st h f t=bP st f t*nt+h:=by
 have:=mV st f.toNat;have e:(f.toNat:Int)=f:=by omega
 rw[e]at this;unfold fG bP;have:f*st-f*(f-1)/2=pre st f.toNat:=by omega
 rw[this]
def Dq{t:Int}(h1:st<=1000)(hf:0<=f)(yF:f<=t)(ht:t<st):0<=bP st f t/\bP st f t<pre st st.toNat/\pre st st.toNat<=1000000:=by
 have b:=d5 h1 f.toNat (by omega);have b2:=d5 h1 st.toNat (by omega);have l:=Nv (st:=st) (a:=f.toNat) (b:=st.toNat) (by omega) (by omega);unfold bP;omega
end
instance:Inhabited bC:=⟨⟨0,0,0,0,0,0⟩⟩
instance:Inhabited Edge:=⟨⟨0,[],0,0,0⟩⟩
@[simp] def aeC(l:ba):(au l).length=l.length:=by simp[au]
@[simp] def aeD(l:List bF):(bq l).length=l.length:=by simp[bq]
@[simp] def aaT(l:List bC):(aQ l).length=l.length:=by simp[aQ]
@[simp] def aaU(l:List Edge):(ch l).length=l.length:=by simp[ch]
def fE{l:List bC}{y:Nat}(h:y<l.length):DM.rowAt (aQ l) y=(l.getD y default).enc:=by simp[DM.rowAt,aQ,h]
abbrev kA:Int:=1099511627776
def PD(f t m f' t' m':Int):Bool:=if f≠f' then decide (f<f')else if t≠t' then decide (t<t')else decide (m<m')
abbrev cb(a b:bF):Bool:=PD a.f a.t a.term b.f b.t b.term
def W3(l:aF)(i:Nat):Bool:=decide (0<=l.bj.getD i default/\l.bj.getD i default<=kA)
def zl(l:aF)(aX:Int)(i:Nat):Prop:=
 (l.aK.getD i default).f<0\/(l.aK.getD i default).t<(l.aK.getD i default).f\/l.bf<=(l.aK.getD i default).t\/(l.aK.getD i default).term<0\/aX<=(l.aK.getD i default).term\/
  (l.aK.getD i default).aA<0\/kA<=(l.aK.getD i default).aA\/((l.aK.getD i default).f=(l.aK.getD i default).t/\(l.aK.getD i default).aA=0)\/(0<i/\cb (l.aK.getD (i-1) default) (l.aK.getD i default)=false)
instance(l:aF)(aX:Int)(i:Nat):Decidable (zl l aX i):=by unfold zl;infer_instance
def W4(l:aF)(aX:Int)(i:Nat):Bool:= !decide (zl l aX i)
def Nx(l:aF)(aX:Int):Bool:=decide (1<=l.bf/\(l.bj.length:Int)=l.bf)&&((List.range l.bj.length).all (W3 l)&&(List.range l.aK.length).all (W4 l aX))
def sS{p:Nat->Bool}{n i:Nat}(h:i<n)(hp:p i=false):(List.range n).all p=false:=by
 rw[List.all_eq_false];exact⟨i,by simp[h],by simp[hp]⟩
def Dz{p:Nat->Bool}{n:Nat}(h:∀i,i<n->p i=true):(List.range n).all p=true:=by
 rw[Jf];intro i hi;exact h i (by simpa using hi)
def sd(n:ay):Prop:=n.aX<0\/120<n.aX\/n.an<1\/1000<n.an\/n.start<0\/n.an<=n.start\/600<(n.aj.length:Int)
instance(n:ay):Decidable (sd n):=by unfold sd;infer_instance
def fa(n:ay)(r:bC):Prop:=r.head<0\/n.an<=r.head\/r.bi<0\/1000<r.bi\/r.origin< -1
instance(n:ay)(r:bC):Decidable (fa n r):=by unfold fa;infer_instance
def fX(n:ay)(r:bC):Prop:=
 (r.kind=1/\r.a=0/\r.b=0)\/(r.kind=2/\0<=r.a/\r.a<n.aX/\r.b=0)\/(r.kind=3/\0<=r.a/\r.a<n.an/\r.b=0)\/(r.kind=4/\0<=r.a/\r.a<n.an/\0<=r.b/\r.b<n.an)
instance(n:ay)(r:bC):Decidable (fX n r):=by unfold fX;infer_instance
def sg(n:ay)(i:Nat):Bool:=decide (¬fa n (n.aj.getD i default)/\fX n (n.aj.getD i default))
def fk(n:ay):Bool:= !decide (sd n)&&(List.range n.aj.length).all (sg n)
def t44{Γ:kv}(bb:aw ak Γ)(n:ay)(hl:n.aj.length<=9223372036854775807):aJ ak 41 [n.enc] (.bool (fk n)):=by
 refine c44.ok (by simp) (aH ?_);simp[ay.enc];apply aa.ai bb fw [1];simp[IL];apply aa.seq;refine aa.bL bb fw [(1,.ptr 1002 0),(41,.v (.bool (decide (sd n))))] ?_ ?_
 .simp[IN];repeat' (first|apply And.intro|intro _)
  all_goals first|omega|(simp[sd];omega)|(rename_i hh;revert hh;simp[sd];omega)
 refine aa.cond rfl (λh=>?_) (λh=>?_)
 .apply aa.ai bb fw [2];simp[VH];apply aa.ret;simp[mN,fk,h]
 simp only[mD]at h;apply aa.skip;simp;apply aa.sq bb fw [1,3];simp[IP];apply aa.block;refine aa.loop (λy:Nat=>⟨DM.look [(1,.ptr 1002 0),(3,.v (ti y))],cR [(1002,.box [.v (ti n.aX),.v (ti n.an),.v (ti n.start),.v (.sl (aQ n.aj))])],2000,1000,[]⟩)
  (λy=>y<=n.aj.length/\∀i,i<y->sg n i=true) (λy=>n.aj.length-y) 0 (Le.aL ?_ ?_ ?_ ?_) (by simp) (λy hy=>?_)
 iterate 4(·simp)
 obtain⟨vy,fI⟩:=hy;apply aa.sq bb fw [1,3,46];simp[IQ];refine aa.cond rfl (λhc=>?_) (λhc=>?_)
 .simp at hc;apply aa.skip;simp;apply aa.seq;apply aa.block;apply aa.ai bb fw [1,3,4];have gf:=fE hc;simp[BO,gf,hc,bC.enc];obtain⟨r,hr⟩:=aY (n.aj[y]);simp only[hr];have hgd:n.aj.getD y default=r:=by simp[hc,hr]
  apply aa.seq;refine aa.bL bb fw [(1,.ptr 1002 0),(3,.v (ti y)),(4,.ptr 2157 0),(78,.v (.bool (decide (fa n r))))] ?_ ?_
  .simp[IR];repeat' (first|apply And.intro|intro _)
   all_goals first|omega|(simp[fa];omega)|(rename_i hh;revert hh;simp[fa];omega)|trace_state
  refine aa.cond rfl (λh2=>?_) (λh2=>?_)
  .apply aa.ai bb fw [2];simp[IS];apply aa.ret;simp only[yN]at h2;have:=sS (p:=sg n) hc (by unfold sg;rw[hgd];simp[h2]);simp[mN,fk,this]
  .simp only[mD]at h2;apply aa.skip;simp;apply aa.ai bb fw [1,3,4,5];simp[BP];apply aa.sq bb fw [1,3,4,5,80];simp[TX];refine aa.to ⟨DM.look [(1,.ptr 1002 0),(3,.v (ti y)),(5,.v (.bool (decide (fX n r))))],cR [(1002,.box [.v (ti n.aX),.v (ti n.an),.v (ti n.start),.v (.sl (aQ n.aj))])],9000,1000,[]⟩ ?_ ?_
   .apply aa.block;apply aa.ai bb fw [1,3,4,5,80,81];simp[LC];refine aa.cond rfl (λe1=>?_) (λe1=>?_)
    .simp only[yN]at e1;refine aa.qV bb fw [(1,.ptr 1002 0),(3,.v (ti y)),(5,.v (.bool (decide (fX n r))))] ?_ ?_
     rotate_left
     .simp only[p6];refine⟨trivial,Le.aL ?_ ?_ ?_ ?_⟩<;>simp
     .simp[LD,fX,e1];repeat' (first|apply And.intro|intro _)
      all_goals first|omega|(rename_i hh;simp[hh])
    simp only[mD]at e1;apply aa.ai bb fw [1,3,4,5,80,91];simp[LG];refine aa.cond rfl (λe2=>?_) (λe2=>?_)
    .simp only[yN]at e2;refine aa.qV bb fw [(1,.ptr 1002 0),(3,.v (ti y)),(5,.v (.bool (decide (fX n r))))] ?_ ?_
     rotate_left
     .simp only[p6];refine⟨trivial,Le.aL ?_ ?_ ?_ ?_⟩<;>simp
     .simp[Gn,fX,e2];repeat' (first|apply And.intro|intro _)
      all_goals first|omega|(rw[ZcB];simp;omega)
    simp only[mD]at e2;apply aa.ai bb fw [1,3,4,5,80,108];simp[LI];refine aa.cond rfl (λe3=>?_) (λe3=>?_)
    .simp only[yN]at e3;refine aa.qV bb fw [(1,.ptr 1002 0),(3,.v (ti y)),(5,.v (.bool (decide (fX n r))))] ?_ ?_
     rotate_left
     .simp only[p6];refine⟨trivial,Le.aL ?_ ?_ ?_ ?_⟩<;>simp
     .simp[LJ,fX,e3];repeat' (first|apply And.intro|intro _)
      all_goals first|omega|(rw[ZcB];simp;omega)
    simp only[mD]at e3;apply aa.ai bb fw [1,3,4,5,125];simp[Gm];refine aa.cond rfl (λe4=>?_) (λe4=>?_)
    .simp only[yN]at e4;refine aa.qV bb fw [(1,.ptr 1002 0),(3,.v (ti y)),(5,.v (.bool (decide (fX n r))))] ?_ ?_
     rotate_left
     .simp only[p6];refine⟨trivial,Le.aL ?_ ?_ ?_ ?_⟩<;>simp
     .simp[LK,fX,e4];repeat' (first|apply And.intro|intro _)
      all_goals first|omega|(rw[ZcB];simp;omega)
    .simp only[mD]at e4;have hb:¬fX n r:=by unfold fX;omega
     apply aa.skip;simp only[p6];refine⟨trivial,Le.aL ?_ ?_ ?_ ?_⟩<;>simp[hb]
   simp;apply aa.ai bb fw [1,3,150];simp[LL];refine aa.cond rfl (λh3=>?_) (λh3=>?_)
   .apply aa.ai bb fw [2];simp[aie];apply aa.ret;simp only[AF,mD]at h3;have:=sS (p:=sg n) hc (by unfold sg;rw[hgd];simp[h3]);simp[mN,fk,this]
   .simp only[Zdt,yN]at h3;apply aa.skip;simp;apply aa.cZ bb fw [1,3];simp[aif];refine⟨y+1,Le.aL ?_ ?_ ?_ ?_,⟨?_, ?_⟩, ?_⟩;iterate 3(·simp)
    .simp;exact(av (by omega)).symm
    .omega
    .intro i hi;by_cases e:i=y
     .subst e;unfold sg;rw[hgd];simp[h2,h3]
     .exact fI i (by omega)
    .omega
 .simp at hc;have dJ:=Dz (p:=sg n) (n:=n.aj.length) (λi hi=>fI i (by omega));apply aa.exit;simp;apply aa.ai bb fw [2];simp[aig];apply aa.ret;simp[mN,fk,dJ,h]
attribute [simp] dg
def mJ:aG->bC
 |[a,b,c,d,e,f]=>⟨dg a,dg b,dg c,dg d,dg e,dg f⟩
 |_=>default
def PE:aG->Edge
 |[a,.sl b,c,d,e]=>⟨dg a,eM b,dg c,dg d,dg e⟩
 |_=>default
def kP(l:List (aG)):List bC:=l.map mJ
@[simp] def Ho(l:List bC):kP (aQ l)=l:=ja (λ_=>rfl) l
@[simp] def aeE(a:Edge):PE a.enc=a:=by
 simp only[PE,Edge.enc,dg,Ax]
def mt:T->ay
 |.agg [a,b,c,.sl r]=>⟨dg a,dg b,dg c,kP r⟩
 |_=>⟨0,0,0,[]⟩
@[simp] def Sq(a b c:Int)(l:List bC):mt (.agg [ti a,ti b,ti c,.sl (aQ l)])=⟨a,b,c,l⟩:=by simp[mt]
@[simp] def Wa(n:ay):mt n.enc=n:=by simp[ay.enc]
def qb(n:ay):Bool:=decide (n.an<=14/\(n.aj.length:Int)<=24/\n.aX<=6)&&fk n
def fair(n:ay)(l:aF):Bool:=qb n&&decide (l.bf<=11/\(l.aK.length:Int)<=120)&&Nx l n.aX
end Go.Proofs.It
namespace Go.Proofs
namespace It
open Go.DM
def VV:=aB 22 0
def VW:=aB 22 1
def VX:=aB 22 2
def VY:=aB 22 3
def VZ:=aB 22 4
def V0:=aB 22 5
def aoE:=aB 22 6
def V2:=aB 22 7
def V3:=aB 22 8
def V4:=aB 22 9
def MQ:=aB 22 10
def MR:=aB 22 11
def MS:=aB 22 12
def MT:=aB 22 13
def MU:=aB 22 14
def agS:=aB 22 15
noncomputable def Ps:cA:=tj [65] 22 16
def agT:=aB 22 17
def agU:=aB 22 18
def agV:=aB 22 19
def agW:=aB 22 20
def agX:=aB 22 21
def agY:=aB 22 22
def agZ:=aB 22 23
def ag0:=aB 22 24
def ag1:=aB 22 25
def ag2:=aB 22 26
noncomputable def d11:DC:=fo 22
def C9:List cH:=[.cell 4 2 true]
def c11 [bD]:aR ak 22 88 d11 C9:=.at
noncomputable def Hx:cA:=tj [116] 65 0
noncomputable def d35:DC:=fo 65
def wI:List cH:=[]
def c35 [bD]:aR ak 65 9 d35 wI:=.at
def Wm:=aB 66 0
def FO:=aB 66 1
noncomputable def d36:DC:=fo 66
def c36 [bD]:aR ak 66 10 d36 (dI 4):=.at
def JP:=aB 114 0
def VQ:=aB 114 1
noncomputable def d46:DC:=fo 114
def nP:List cH:=[.cell 11 5 true]
def c46 [bD]:aR ak 114 25 d46 nP:=.at
def Wn:=aB 115 0
def Wo:=aB 115 1
def Wp:=aB 115 2
def Wq:=aB 115 3
def aoG:=aB 115 4
def Wr:=aB 115 5
def aoH:=aB 115 6
def aoI:=aB 115 7
def aes:=aB 115 8
def aoJ:=aB 115 9
def ag3:=aB 115 10
def ag4:=aB 115 11
def ag5:=aB 115 12
def ag6:=aB 115 13
def ag7:=aB 115 14
def ag8:=aB 115 15
def ag9:=aB 115 16
noncomputable def d47:DC:=fo 115
def Hy:List cH:=[]
def c47 [bD]:aR ak 115 111 d47 Hy:=.at
def Pt:=aB 116 0
def Pu:=aB 116 1
def Ki:=aB 116 2
noncomputable def Ws:cA:=tj [161] 116 3
def Wt:=aB 116 4
def aoK:=aB 116 5
noncomputable def Hz:cA:=tj [161] 116 6
def aet:=aB 116 7
def aoL:=aB 116 8
def aoM:=aB 116 9
noncomputable def Pv:cA:=tj [162] 116 10
def aha:=aB 116 11
def ahb:=aB 116 12
def ahc:=aB 116 13
def ahd:=aB 116 14
noncomputable def Pw:cA:=tj [162] 116 15
def ahe:=aB 116 16
noncomputable def d48:DC:=fo 116
def wJ:List cH:=[]
def c48 [bD]:aR ak 116 63 d48 wJ:=.at
def Px:=aB 161 0
def Kj:=aB 161 1
def Wu:=aB 161 2
def Kk:=aB 161 3
def aoN:=aB 161 4
def aoO:=aB 161 5
def aoP:=aB 161 6
noncomputable def d49:DC:=fo 161
def Dr:List cH:=[]
def c49 [bD]:aR ak 161 53 d49 Dr:=.at
def Wv:=aB 162 0
def Ww:=aB 162 1
def Py:=aB 162 2
def aoQ:=aB 162 3
def aoR:=aB 162 4
def aoS:=aB 162 5
def aoT:=aB 162 6
def aoU:=aB 162 7
def aoV:=aB 162 8
def aoW:=aB 162 9
def ahf:=aB 162 10
def ahg:=aB 162 11
def ahh:=aB 162 12
def ahi:=aB 162 13
def ahj:=aB 162 14
def ahk:=aB 162 15
def ahl:=aB 162 16
def ahm:=aB 162 17
def ahn:=aB 162 18
def aho:=aB 162 19
def ahp:=aB 162 20
def ahq:=aB 162 21
def ahr:=aB 162 22
def ahs:=aB 162 23
def aht:=aB 162 24
def ahu:=aB 162 25
def ahv:=aB 162 26
def ahw:=aB 162 27
def ahx:=aB 162 28
def ahy:=aB 162 29
def ahz:=aB 162 30
def ahA:=aB 162 31
def ahB:=aB 162 32
def ahC:=aB 162 33
def ahD:=aB 162 34
def ahE:=aB 162 35
def ahF:=aB 162 36
def ahG:=aB 162 37
def ahH:=aB 162 38
def ahI:=aB 162 39
noncomputable def Pz:cA:=tj [192] 162 40
def ahJ:=aB 162 41
noncomputable def PA:cA:=tj [162] 162 42
def ahK:=aB 162 43
noncomputable def PB:cA:=tj [162] 162 44
noncomputable def d50:DC:=fo 162
def um:List cH:=[]
def c50 [bD]:aR ak 162 220 d50 um:=.at
def aoX:=aB 192 0
def aoY:=aB 192 1
def aoZ:=aB 192 2
def ao0:=aB 192 3
noncomputable def Wx:cA:=tj [213] 192 4
def ao1:=aB 192 5
noncomputable def Wy:cA:=tj [213] 192 6
def ao2:=aB 192 7
noncomputable def Wz:cA:=tj [213] 192 8
noncomputable def d51:DC:=fo 192
def WA:List cH:=[]
def c51 [bD]:aR ak 192 58 d51 WA:=.at
def ao3:=aB 213 0
def ao4:=aB 213 1
def ao5:=aB 213 2
def ao6:=aB 213 3
noncomputable def d52:DC:=fo 213
def WB:List cH:=[]
def c52 [bD]:aR ak 213 38 d52 WB:=.at
def WC:=aB 64 0
def WD:=aB 64 1
def WE:=aB 64 2
def ayy:=aB 64 3
def WG:=aB 64 4
noncomputable def d34:DC:=fo 64
def c34 [bD]:aR ak 64 24 d34 (dI 10):=.at
end It
end Go.Proofs
namespace Go.Proofs.It
open Go.DM
def dc(nt st:Int)(r:bC)(f t k:Int)(aA arg:Int)(bY:ba):Edge:=⟨fG nt st r.head f t,bY,min aA kA,k,arg⟩
def nT(nt st:Int)(r:bC)(f t k:Int):aG:=[.box [ti nt,ti st],.box r.enc,.box [ti f],.box [ti t],.box [ti k]]
def okR(r:bC):Prop:=0<=r.head/\r.head<=1000/\0<=r.bi/\r.bi<=1000
def Hc(f t:Int):Prop:=0<=f/\f<=t/\t<=1000
def t46(nt st:Int)(r:bC)(f t k aA arg:Int)(bY:ba)(h:sm nt st)(hr:okR r)(hf:Hc f t):
  aJ ak 114 ([ti aA,ti arg,.sl (au bY)]++nT nt st r f t k) (.agg (dc nt st r f t k aA arg bY).enc):=by
 have bb:=ok1;refine c46.ok (by simp[nT]) (aH ?_);simp[nT,bC.enc];apply aa.ai bb fw [0,1,2,3,4,5,6,7,11];simp[JP];apply aa.ai bb fw [11];simp[VQ,Γ1,uk,SB,Kh];refine⟨⟨h, ?_⟩, ?_⟩
 .unfold okR at hr;unfold Hc at hf;omega
 apply aa.ret;simp[nP,dc,Edge.enc]
def t36(a b:Edge)(ha:0<=a.head/\a.head<=1000000000000)(hb:0<=b.head/\b.head<=1000000000000):aJ ak 66 [.agg a.enc,.agg b.enc] (ti (a.head-b.head)):=by
 have bb:aw ak (bz []):=aw.nil;refine c36.ok (by simp) (aH ?_);simp[Edge.enc];apply aa.ai bb fw [2,3,4];simp[Wm];apply aa.ai bb fw [4];simp[FO];apply aa.ret;simp[dI];rw[av (by omega)]
def zj(nt st:Int)(r:bC)(aK:List bF)(dM:ba)(f t k:Int):aG:=[.box r.enc,.box [ti f],.box [ti t],.box [.fn (.func 114) (nT nt st r f t k)],.box [ti st,.sl (bq aK),.sl (au dM)],.box [ti nt,ti st]]
def t34(n:ay)(l:aF)(k:Nat)(f t:Int)(hk:k<n.aj.length):
  aJ ak 64 [n.enc,l.enc,ti k,ti f,ti t] (.fn (.func 115) (zj n.an l.bf (n.aj.getD k default) l.aK l.bj f t k)):=by
 have bb:=ok1;refine c34.ok (by simp) (aH ?_);simp[ay.enc,aF.enc];apply aa.ai bb fw [5,6,7,8,9,10];simp[WC];apply aa.ai bb fw [5,6,7,8,9,11];simp[WD,Γ1,wH,SA,Wi];refine⟨⟨⟨n,rfl⟩,⟨l,rfl⟩⟩, ?_⟩;apply aa.ai bb fw [6,7,8,9,11,12];have gf:=fE hk;simp[WE,gf,hk,bC.enc];generalize n.aj[k]=r;refine aa.le (Le.aL (o:=[]) (l:=[(6,.v (.box [ti l.bf,.sl (bq l.aK),.sl (au l.bj)])),(7,.v (.box [ti k])),(8,.v (.box [ti f])),(9,.v (.box [ti t])),(11,.v (.box [ti n.an,ti l.bf])),(12,.v (.box r.enc))]) (bn:=1100) ?_ ?_ ?_ ?_) ?_;iterate 3(·simp)
 .simp[bC.enc]
 apply aa.ai bb fw [6,8,9,11,12,13];simp[ayy];refine aa.le (Le.aL (o:=[]) (l:=[(6,.v (.box [ti l.bf,.sl (bq l.aK),.sl (au l.bj)])),(8,.v (.box [ti f])),(9,.v (.box [ti t])),(11,.v (.box [ti n.an,ti l.bf])),(12,.v (.box r.enc)),(13,.v (.box [.fn (.func 114) (nT n.an l.bf r f t k)]))]) (bn:=1200) ?_ ?_ ?_ ?_) ?_;iterate 3(·simp)
 .simp[nT]
 apply aa.ai bb fw [10];simp[WG];apply aa.ret;simp[dI,zj,nT]
def aey(ts:aG):Prop:=∃(nt st:Int) (r:bC) (f t k aA arg:Int) (bY:ba),ts=[ti aA,ti arg,.sl (au bY),.box [ti nt,ti st],.box r.enc,.box [ti f],.box [ti t],.box [ti k]]/\sm nt st/\okR r/\Hc f t
def Nt:aG->T
 |[.int _ aA,.int _ arg,.sl bY,.box [.int _ nt,.int _ st],.box r,.box [.int _ f],.box [.int _ t],.box [.int _ k]]=>
  .agg (dc nt st (mJ r) f t k aA arg (eM bY)).enc
 |_=>.bool false
@[simp] def Aw(r:bC):mJ r.enc=r:=rfl
@[simp] def aaS(a b c d e f:Int):mJ [ti a,ti b,ti c,ti d,ti e,ti f]=⟨a,b,c,d,e,f⟩:=rfl
def Γ6:kv:=bz [(67,uk),(114,bp aey Nt false)]
def ok6:aw ak Γ6:=by
 refine aw.cons (aw.cons aw.nil ?_) ?_
 .rintro ts ⟨nt,st,r,f,t,k,aA,arg,bY,rfl,h1,h2,h3⟩;exact⟨by simpa [Nt,nT]using t46 nt st r f t k aA arg bY h1 h2 h3,by intro h;cases h⟩
 .intro ts h
  match ts,h with
  |[.agg [.int .i64 nt,.int .i64 st],.int .i64 h,.int .i64 f,.int .i64 t],h1=>exact⟨t37 aw.nil nt st h f t h1.1 h1.2,λ_=>rfl⟩
def inst(nt st:Int)(r:bC)(aK:List bF)(f t k:Int):List Edge:=
 if r.kind=1 then(if f=t then [dc nt st r f t k r.bi f []]else [])
 else if r.kind=2 then(List.range aK.length).flatMap λi=>if(aK.getD i default).f=f/\(aK.getD i default).t=t/\(aK.getD i default).term=r.a then [dc nt st r f t k (r.bi+(aK.getD i default).aA) i []]else []
 else if r.kind=3 then [dc nt st r f t k r.bi f [fG nt st r.a f t]]
 else if r.kind=4 then(List.range (t-f+1).toNat).map λj:Nat=>dc nt st r f t k r.bi (f+j) [fG nt st r.a f (f+j),fG nt st r.b (f+j) t]
 else []
def dp(l:List Edge):List (aG):=l.map λe=>[.agg e.enc]
def agQ(r:bC):Prop:=okR r/\(r.kind=3->0<=r.a/\r.a<=1000)/\(r.kind=4->0<=r.a/\r.a<=1000/\0<=r.b/\r.b<=1000)
def Wg(l:List bF):Prop:=l.length<=140737488355328/\∀a∈l,0<=a.aA/\a.aA<=kA
@[simp] def auN:(cR []=λ_=>none)=True:=by simp;funext;rfl
@[simp] def aez:eM []=[]:=rfl
@[simp] def aeA(a:Int):eM [[ti a]]=[a]:=rfl
@[simp] def aeB(a b:Int):eM [[ti a],[ti b]]=[a,b]:=rfl
def ld(nt st:Int)(r:bC)(aK:List bF)(f t k:Int)(i:Nat):List Edge:=
 if(aK.getD i default).f=f/\(aK.getD i default).t=t/\(aK.getD i default).term=r.a then [dc nt st r f t k (r.bi+(aK.getD i default).aA) i []]else []
def sQ(nt st:Int)(r:bC)(f t k:Int)(j:Nat):Edge:=dc nt st r f t k r.bi (f+j) [fG nt st r.a f (f+j),fG nt st r.b (f+j) t]
def Dy{n y:Nat}(h:y<n):(List.range n).drop y=y::(List.range n).drop (y+1):=by
 rw[If (by simpa using h)];simp
@[simp] def Tt(n:Nat):(List.range n).drop n=[]:=Zb3 (by simp)
@[simp] def akN(a:T):di 1 1 [a]=[[a]]:=rfl
@[simp] def akO(a b:T):di 1 2 [a,b]=[[a],[b]]:=rfl
def t47(nt st:Int)(r:bC)(aK:List bF)(dM:ba)(f t k:Int)(h:sm nt st)(hr:agQ r)(hf:Hc f t)(ha:Wg aK):
  af1 ak 115 (zj nt st r aK dM f t k) (dp (inst nt st r aK f t k)):=by
 have bb:=ok6;obtain⟨AR,Nu⟩:=aY (dp (inst nt st r aK f t k));rw[Nu];refine c47.okI (by simp[zj]) (R8 ?_);simp[zj,bC.enc,nT];apply aa.ai bb fw [0,1,2,3,4,5,6,12];simp[Wn];apply aa.block;apply aa.ai bb fw [0,1,2,3,4,5,6,12,13];simp[Wo];obtain⟨ql,hr3,hr4⟩:=hr;have nX:∀(aA arg:Int) (bY:List (aG)),(∃l,bY=au l)->aey [ti aA,ti arg,.sl bY,.box [ti nt,ti st],.box [ti r.kind,ti r.head,ti r.a,ti r.b,ti r.bi,ti r.origin],.box [ti f],.box [ti t],.box [ti k]]:=by
  rintro aA arg _ ⟨l,rfl⟩;exact⟨nt,st,r,f,t,k,aA,arg,l,rfl,h,ql,hf⟩
 have HC:∀a f' t',0<=a/\a<=1000->0<=f'/\f'<=1000->0<=t'/\t'<=1000->Kh [.agg [ti nt,ti st],ti a,ti f',ti t']:=λa f' t' h1 h2 h3=>⟨h,h1.1,h1.2,h2.1,h2.2,h3.1,h3.2⟩;obtain⟨Z3,Z5,hf3⟩:=hf;refine aa.cond rfl (λe1=>?_) (λe1=>?_)
 .simp only[yN]at e1;apply aa.ai bb fw [0,1,2,4,17];simp[Wp];refine aa.cond rfl (λe2=>?_) (λe2=>?_)
  .simp only[yN]at e2;have hi:AR=[[.agg (dc nt st r f t k r.bi f []).enc]]:=by rw[<-Nu];simp[inst,e1,e2,dp]
   rw[hi];apply aa.cZ bb fw [];simp[Wq,Γ6,bp,Nt,MG];exact nX _ _ _ ⟨[],rfl⟩
  .apply aa.skip;simp only[mD]at e2;have hi:AR=[]:=by rw[<-Nu];simp[inst,e1,e2,dp]
   simp[hi,MG]
 simp only[mD]at e1;apply aa.ai bb fw [0,1,2,3,4,5,6,12,25];simp[aoG];refine aa.cond rfl (λe2=>?_) (λe2=>?_)
 .simp only[yN]at e2;have hi:AR=dp ((List.range aK.length).flatMap (ld nt st r aK f t k)):=by rw[<-Nu];simp only[inst,e2];rfl
  apply aa.ai bb fw [0,1,2,3,4,28,29,30];simp[Wr];apply aa.block;refine aa.loop (λy:Nat=>⟨DM.look [(0,.BZ),(1,.v (.box r.enc)),(2,.v (.box [ti f])),(3,.v (.box [ti t])),(4,.v (.box [.fn (.func 114) (nT nt st r f t k)])),(28,.v (.sl (bq aK))),(29,.v (ti aK.length)),(30,.v (ti y))],cR [],2000,0,dp (((List.range aK.length).drop y).flatMap (ld nt st r aK f t k))⟩)
   (λy=>y<=aK.length) (λy=>aK.length-y) 0 ?_ (by simp) (λy hy=>?_)
  .rw[hi];refine Le.aL ?_ ?_ ?_ ?_;iterate 3(·simp)
   .simp[bC.enc,nT]
  have ct:=ha.1;apply aa.ai bb fw [0,1,2,3,4,28,29,30,31];simp[aoH];apply aa.seq;refine aa.cond rfl (λhc=>?_) (λhc=>?_)
  .simp at hc;obtain⟨a,WY⟩:=aY (aK.getD y default);have gf:=r8 hc;rw[WY]at gf;have hac:0<=a.aA/\a.aA<=kA:=ha.2 a (by rw[<-WY];simp[hc]);rw[Dy hc];simp only[ZbS,dp,Lc];apply aa.skip;simp;apply aa.seq;apply aa.block;apply aa.ai bb fw [0,1,2,3,4,8,9,28,29,30];simp[aoI,gf,hc,bF.enc];refine aa.le (Le.aL (o:=[]) (l:=[(0,.BZ),(1,.v (.box r.enc)),(2,.v (.box [ti f])),(3,.v (.box [ti t])),(4,.v (.box [.fn (.func 114) (nT nt st r f t k)])),(8,.v (ti y)),(9,.v (.box a.enc)),(28,.v (.sl (bq aK))),(29,.v (ti aK.length)),(30,.v (ti y))]) (bn:=3000) ?_ ?_ ?_ ?_) ?_;iterate 3(·simp)
   .simp[bC.enc,nT,bF.enc]
   simp only[kA]at hac;have hwr:IntKind.i64.wrap (r.bi+a.aA)=r.bi+a.aA:=av (by unfold okR at ql;omega);refine aa.to ⟨DM.look [(0,.BZ),(1,.v (.box r.enc)),(2,.v (.box [ti f])),(3,.v (.box [ti t])),(4,.v (.box [.fn (.func 114) (nT nt st r f t k)])),(28,.v (.sl (bq aK))),(29,.v (ti aK.length)),(30,.v (ti y))],cR [],4000,0,dp (((List.range aK.length).drop (y+1)).flatMap (ld nt st r aK f t k))⟩ ?_ ?_
   .by_cases hm:a.f=f/\a.t=t/\a.term=r.a
    .obtain⟨m1,m2,m3⟩:=hm;have ht:ld nt st r aK f t k y=[dc nt st r f t k (r.bi+a.aA) y []]:=by simp only[ld,WY,m1,m2,m3,and_self,Eg]
     simp only[ht,vG,Zcg,IW,jB];apply aa.ai bb fw [0,1,2,3,4,28,29,30,64];simp only[aes,bF.enc,bC.enc,nT];simp[Γ6,bp,Nt,m1,m2,m3,hwr];refine⟨nX _ _ _ ⟨[],rfl⟩, ?_⟩;refine aa.cond rfl (λh=>by cases h) (λ_=>?_);apply aa.skip;refine⟨rfl,Le.aL ?_ ?_ ?_ ?_⟩<;>simp
    .have ht:ld nt st r aK f t k y=[]:=by simp only[ld,WY,hm,A0]
     simp only[ht,Zcg,jB];refine aa.bL bb fw [(0,.BZ),(1,.v (.box r.enc)),(2,.v (.box [ti f])),(3,.v (.box [ti t])),(4,.v (.box [.fn (.func 114) (nT nt st r f t k)])),(28,.v (.sl (bq aK))),(29,.v (ti aK.length)),(30,.v (ti y)),(64,.v (.bool false))] ?_ ?_
     .simp only[aes,bF.enc,bC.enc,nT];simp[Γ6,bp,Nt,hwr];intro m1 m2 m3;exact qe ⟨m1,m2,m3⟩ hm
     refine aa.cond rfl (λh=>by cases h) (λ_=>?_);apply aa.skip;refine⟨rfl,Le.aL ?_ ?_ ?_ ?_⟩<;>simp[]
   .simp;apply aa.cZ bb fw [0,1,2,3,4,28,29,30];simp[aoJ];refine⟨y+1,Le.aL ?_ ?_ ?_ ?_, ?_, ?_⟩;iterate 3(·simp)
    .simp;exact(av (by omega)).symm
    .omega
    .omega
  .simp at hc;have fI:y=aK.length:=by omega
   subst fI;apply aa.exit;simp[MG,dp]
 simp only[mD]at e2;apply aa.ai bb fw [0,1,2,3,4,6,12,66];simp[ag3];refine aa.cond rfl (λe3=>?_) (λe3=>?_)
 .simp only[yN]at e3;have hi:AR=dp [dc nt st r f t k r.bi f [fG nt st r.a f t]]:=by rw[<-Nu];simp only[inst,e3];rfl
  rw[hi];apply aa.cZ bb fw [];simp[ag4,Γ6,bp,Nt,dp,MG,uk,SB];exact⟨HC _ _ _ (hr3 e3) (by omega) (by omega),nX _ _ _ ⟨[_],rfl⟩⟩
 simp only[mD]at e3;apply aa.ai bb fw [0,1,2,3,4,6,82];simp[ag5];refine aa.cond rfl (λe4=>?_) (λe4=>?_)
 .simp only[yN]at e4;obtain⟨N,hN⟩:=aY ((t-f+1).toNat);have hi:AR=dp ((List.range N).map (sQ nt st r f t k)):=by rw[<-Nu,<-hN];simp only[inst,e4];rfl
  apply aa.ai bb fw [0,1,2,3,4,6,10];simp[ag6];obtain⟨rest,vK⟩:∃rest:Nat->List (aG),∀y,rest y=dp (((List.range N).drop y).map (sQ nt st r f t k)):=⟨_,λ_=>rfl⟩;apply aa.block;refine aa.loop (λy:Nat=>⟨DM.look [(0,.BZ),(1,.v (.box r.enc)),(2,.v (.box [ti f])),(3,.v (.box [ti t])),(4,.v (.box [.fn (.func 114) (nT nt st r f t k)])),(6,.v (.box [ti nt,ti st])),(10,.v (ti (f+y)))],cR [],2000,0,rest y⟩)
   (λy=>y<=N) (λy=>N-y) 0 ?_ (by simp) (λy hy=>?_)
  .rw[hi,show dp ((List.range N).map (sQ nt st r f t k))=rest 0 by rw[vK];rfl];refine Le.aL ?_ ?_ ?_ ?_;iterate 3(·simp)
   .simp[bC.enc,nT]
  apply aa.sq bb fw [0,1,2,3,4,6,10,87];simp[ag7];refine aa.cond rfl (λhc=>?_) (λhc=>?_)
  .simp at hc;have hyN:y<N:=by omega
   have hry:rest y=[.agg (sQ nt st r f t k y).enc]::rest (y+1):=by rw[vK,vK,Dy hyN];rfl
   rw[hry];obtain⟨g1,g2,g3,g4⟩:=hr4 e4;apply aa.skip;simp;apply aa.seq;apply aa.block;apply aa.ai bb fw [0,1,2,3,4,6,10,110];simp only[ag8,bC.enc,nT];simp[Γ6,bp,Nt,uk,SB,sQ];refine⟨HC _ _ _ (by omega) (by omega) (by omega),HC _ _ _ (by omega) (by omega) (by omega),nX _ _ _ ⟨[_,_],rfl⟩, ?_⟩;refine aa.cond rfl (λh=>by cases h) (λ_=>?_);apply aa.skip;simp;apply aa.cZ bb fw [0,1,2,3,4,6,10];simp[ag9];refine⟨y+1,Le.aL ?_ ?_ ?_ ?_, ?_, ?_⟩;iterate 3(·simp)
   .simp[bC.enc,nT];rw[av (by omega)];omega
   .omega
   .omega
  .simp at hc;have fI:y=N:=by omega
   subst fI;apply aa.exit;simp[MG,dp,vK]
 .apply aa.skip;simp only[mD]at e4;have hi:AR=[]:=by rw[<-Nu];simp[inst,e1,e2,e3,e4,dp]
  simp[hi,MG]
open Go.DM Go.DM.iN
section
variable{A:List (aG)}
section
variable(dj:aG->Prop)(dK:aG->aG->Int)
def pS:DM.Spec:=bp (λts=>∃x y,ts=[.agg x,.agg y]/\dj x/\dj y) (fun|[.agg x,.agg y]=>ti (dK x y)|_=>.bool false) true
structure qE(f:Nat)(n:Nat):Prop where
 run:∀x y,dj x->dj y->aJ ak f [.agg x,.agg y] (ti (dK x y))
 row:∀x,dj x->vP n x
abbrev my(x y:aG):Bool:=decide (dK x y<0)
variable{dj dK}
def PT{f n:Nat}(h:qE dj dK f n):aw ak (bz [(f,pS dj dK)]):=by
 refine aw.cons aw.nil ?_;rintro ts ⟨x,y,rfl,h1,h2⟩;exact⟨h.run x y h1 h2,λ_=>rfl⟩
def kg{B:List (aG)}{x:aG}{i:Nat}(h:A.length=i):DM.rowAt (A++(x::B)) (i:Int)=x:=by
 subst h;simp[DM.rowAt]
def ol{B:List (aG)}{x v:aG}{i:Nat}(h:A.length=i):(A++(x::B)).set i v=A++(v::B):=by
 subst h;simp
def dr{n:Nat}{x:aG}(h:x.length=n):x.drop n=[]:=by subst h;simp
def tk{n:Nat}{x:aG}(h:x.length=n):x.take n=x:=by subst h;simp
structure Sw where
 (X1 X2 Y1 Y2:List (aG))
def Sw.D(A M B:List (aG))(s:Sw):List (aG):=A++(s.Y1++(s.X2++(M++(s.X1++(s.Y2++B)))))
def t52(D:List (aG))(a b n:Nat)(ab:bS)(r bG e:Nat)(g:T)(eH:ab r=some (.bm bG e 5 D))(cK:∀x∈D,vP 5 x)(h1:a+n<=b)(h2:b+n<=D.length)(h3:D.length<=140737488355328)
  {N:Nat} (hN:∀r,N<=r->ab r=none):ce ak 213 [.aW r bG,.v (ti a),.v (ti b),.v (ti n),.v g] ab ⟨True,.v (.dh []),dx ab r (.bm bG e 5 (uf D a b n))⟩:=by
 have bb:aw ak (bz []):=aw.nil;have kc:∀o k,N+200<=k->dx ab r o k=none:=λo k hk=>fj eH (hN k (by omega));refine c52.Z1 hN (by simp) (iE ?_);rw[oG eH];simp;have hD:D=D.take a++(eY D a (a+n)++(eY D (a+n) b++(eY D b (b+n)++D.drop (b+n)))):=by
  rw[ef D (by omega),ef D (by omega),ef D (by omega),Ek]
 have lA:(D.take a).length=a:=by simp;omega
 have lX:(eY D a (a+n)).length=n:=by simp;omega
 have lM:(eY D (a+n) b).length=b-(a+n):=by simp;omega
 have lY:(eY D b (b+n)).length=n:=by simp;omega
 have hL:D.length=a+n+(b-(a+n))+n+(D.drop (b+n)).length:=by simp;omega
 generalize hA:D.take a=A at*
 generalize hX:eY D a (a+n)=X at*
 generalize hM:eY D (a+n) b=M at*
 generalize hY:eY D b (b+n)=Y at*
 generalize hB:D.drop (b+n)=B at*
 apply aa.ai bb fw [0,1,2,3,10];simp[ao3];apply aa.block;refine aa.loop (λy:Sw=>⟨DM.look [(0,.aW r bG),(1,.v (ti a)),(2,.v (ti b)),(3,.v (ti n)),(10,.v (ti y.X1.length))],dx ab r (.bm bG e 5 (y.D A M B)),N+200,N,[]⟩)
  (λy=>X=y.X1++y.X2/\Y=y.Y1++y.Y2/\y.X1.length=y.Y1.length) (λy=>y.X2.length) ⟨[],X,[],Y⟩ ?_ (by simp) (λy hy=>?_)
 .have:Sw.D A M B ⟨[],X,[],Y⟩=D:=by simp only[Sw.D,jB];exact hD.symm
  rw[this];exact Le.same (kc _) (by simp)
 obtain⟨X1,X2,Y1,Y2⟩:=y;obtain⟨e1,e2,e3⟩:=hy;simp only at e1 e2 e3⊢;have l1:X1.length+X2.length=n:=by rw[<-lX,e1];simp
 have l2:Y1.length+Y2.length=n:=by rw[<-lY,e2];simp
 apply aa.sq bb fw [0,1,2,3,10,13];simp[ao4];refine aa.cond rfl (λh=>?_) (λh=>?_)
 .simp at h
  match X2,Y2,l1,l2 with
  |[],_,l1,l2=>simp at l1;omega
  |_,[],l1,l2=>simp at l2;omega
  |x::X2,y::Y2,l1,l2=>
  have hx:vP 5 x:=cK x (by rw[hD,e1];simp);have hy:vP 5 y:=cK y (by rw[hD,e2];simp);simp only[B8]at l1 l2;obtain⟨i,hi⟩:=aY X1.length;obtain⟨p,hp⟩:=aY (a+i);obtain⟨q,hq⟩:=aY (b+i);obtain⟨Dc,u9⟩:=aY (Sw.D A M B ⟨X1,x::X2,Y1,y::Y2⟩);have hl:Dc.length=D.length:=by rw[<-u9,hL];simp[Sw.D];omega
  have hw1:IntKind.i64.wrap ((a:Int)+i)=p:=by rw[av (by omega)];omega
  have hw2:IntKind.i64.wrap ((b:Int)+i)=q:=by rw[av (by omega)];omega
  have g1:DM.rowAt Dc p=x:=by
   rw[<-u9,show Sw.D A M B ⟨X1,x::X2,Y1,y::Y2⟩=(A++Y1)++(x::(X2++(M++(X1++(y::(Y2++B))))))by simp[Sw.D]];exact kg (by simp;omega)
  have g2:DM.rowAt Dc q=y:=by
   rw[<-u9,show Sw.D A M B ⟨X1,x::X2,Y1,y::Y2⟩=(A++Y1++x::X2++M++X1)++(y::(Y2++B))by simp[Sw.D]];exact kg (by simp;omega)
  have g3:(Dc.set p y).set q x=Sw.D A M B ⟨X1++[x],X2,Y1++[y],Y2⟩:=by
   rw[<-u9,show Sw.D A M B ⟨X1,x::X2,Y1,y::Y2⟩=(A++Y1)++(x::(X2++(M++(X1++(y::(Y2++B))))))by simp[Sw.D]];rw[ol (by simp;omega),show(A++Y1)++(y::(X2++(M++(X1++(y::(Y2++B))))))=(A++Y1++y::X2++M++X1)++(y::(Y2++B))by simp];rw[ol (by simp;omega)];simp[Sw.D]
  have g4:DM.rowAt (Dc.set p y) q=y:=by
   rw[<-u9,show Sw.D A M B ⟨X1,x::X2,Y1,y::Y2⟩=(A++Y1)++(x::(X2++(M++(X1++(y::(Y2++B))))))by simp[Sw.D]];rw[ol (by simp;omega),show(A++Y1)++(y::(X2++(M++(X1++(y::(Y2++B))))))=(A++Y1++y::X2++M++X1)++(y::(Y2++B))by simp];exact kg (by simp;omega)
  apply aa.skip;simp;apply aa.seq;apply aa.block;apply aa.cZ bb fw [0,1,2,3,10];rw[u9];simp[ao5,hi,hw1,hw2,g1,g2,g4,hl,hx.1,hy.1,fA hx.2,fA hy.2,tk hx.1,tk hy.1,dr hx.1,dr hy.1];repeat refine⟨by omega, ?_⟩
  rw[g3];apply aa.cZ bb fw [0,1,2,3,10];simp[ao6];refine⟨⟨X1++[x],X2,Y1++[y],Y2⟩, ?_, ?_, ?_⟩
  .refine Le.same (kc _) ?_;simp;rw[av (by omega)];omega
  .simp[e1,e2,<-e3,hi]
  .simp
 .simp at h;apply aa.exit;have hX2:X2=[]:=oK (by omega);have hY2:Y2=[]:=oK (by omega);subst hX2 hY2;simp at e1 e2;subst e1 e2;have:uf D a b n=Sw.D A M B ⟨X,[],Y,[]⟩:=by
   rw[hD,rR A X M Y B lA lX (by omega) lY];simp[Sw.D]
  simp[WB,this]
end
end
def k52:bW->bS->iw
 |[.aW r bG,.v (.int .i64 a),.v (.int .i64 b),.v (.int .i64 n),.v g],ab=>match ab r with
  |some (.bm bM e sz D)=>⟨bG=bM/\sz=5/\(∀x∈D,vP 5 x)/\0<=a/\0<=n/\a+n<=b/\b+n<=D.length/\D.length<=140737488355328,.v (.dh []),dx ab r (.bm bG e 5 (uf D a.toNat b.toNat n.toNat))⟩
  |_=>⟨False,.undef,ab⟩
 |_,ab=>⟨False,.undef,ab⟩
def abb:kv:=bz [(213,fl k52)]
def avs:aw ak abb:=by
 refine aw.il aw.nil ?_;intro args ab h;unfold k52 at h⊢;split at h
 .split at h
  .rename_i a b n g _ bM e sz D eH;obtain⟨rfl,rfl,h1,h2,h3,h4,h5,h6⟩:=h;have ea:a=(a.toNat:Int):=by omega
   have eb:b=(b.toNat:Int):=by omega
   have en:n=(n.toNat:Int):=by omega
   refine⟨λN hN=>?_,λk hk=>fj eH hk⟩;have:=t52 D a.toNat b.toNat n.toNat ab _ _ e g eH h1 (by omega) (by omega) h6 hN;rw[<-ea,<-eb,<-en]at this;simp only[];exact this.of rfl rfl
  .exact h.elim
 .exact h.elim
structure Ro where
 (A P Q B:List (aG))
def Ro.D(s:Ro):List (aG):=s.A++(s.P++(s.Q++s.B))
def t51(D:List (aG))(a m b:Nat)(ab:bS)(r bG e:Nat)(g:T)(eH:ab r=some (.bm bG e 5 D))(cK:∀x∈D,vP 5 x)(h1:a<m)(h2:m<b)(h2:b<=D.length)(h3:D.length<=140737488355328)
  {N:Nat} (hN:∀r,N<=r->ab r=none):ce ak 192 [.aW r bG,.v (ti a),.v (ti m),.v (ti b),.v g] ab ⟨True,.v (.dh []),dx ab r (.bm bG e 5 (nY D a m b))⟩:=by
 have bb:=avs;have kc:∀o k,N+200<=k->dx ab r o k=none:=λo k hk=>fj eH (hN k (by omega));refine c51.Z1 hN (by simp) (iE ?_);rw[oG eH];simp;have w1:IntKind.i64.wrap ((m:Int)-a)=((m-a:Nat):Int):=by rw[av (by omega)];omega
 have w2:IntKind.i64.wrap ((b:Int)-m)=((b-m:Nat):Int):=by rw[av (by omega)];omega
 apply aa.ai bb fw [0,2,3,4,10];simp[aoX,w1];apply aa.ai bb fw [0,2,4,10,11];simp[aoY,w2];apply aa.seq;apply aa.block;have hD:=Vl D (a:=a) (m:=m) (b:=b) (by omega) (by omega);have lA:(D.take a).length=a:=by simp;omega
 have lP:(eY D a m).length=m-a:=by simp;omega
 have lQ:(eY D m b).length=b-m:=by simp;omega
 have hF:nY D a m b=D.take a++(eY D m b++(eY D a m++D.drop b)):=rfl;refine aa.loop (λy:Ro=>⟨DM.look [(0,.aW r bG),(2,.v (ti m)),(4,.v g),(10,.v (ti y.P.length)),(11,.v (ti y.Q.length))],dx ab r (.bm bG e 5 y.D),N+200,N,[]⟩)
  (λy=>y.A.length+y.P.length=m/\0<y.P.length/\0<y.Q.length/\y.A++(y.Q++(y.P++y.B))=nY D a m b/\y.D.length=D.length/\∀x∈y.D,x∈D) (λy=>y.P.length+y.Q.length) ⟨D.take a,eY D a m,eY D m b,D.drop b⟩ ?_ ?_ (λy hy=>?_)
 .simp only[Ro.D,<-hD];refine Le.same (kc _) ?_;simp;omega
 .simp only[lA,lP,lQ,Ro.D,<-hD];exact⟨by omega,by omega,by omega,by rw[hF],trivial,λ_ h=>h⟩
 obtain⟨A,P,Q,B⟩:=y;obtain⟨e1,e2,e3,e4,e5,e6⟩:=hy;simp only at e1 e2 e3 e4 e5 e6⊢;obtain⟨Dc,u9⟩:=aY (Ro.D ⟨A,P,Q,B⟩);obtain⟨i,hi⟩:=aY P.length;obtain⟨j,hj⟩:=aY Q.length;rw[u9]at e5 e6;have e5':A.length+(i+(j+B.length))=D.length:=by rw[<-e5,<-u9];simp[Ro.D,hi,hj]
 have Ln:∀x∈Dc,vP 5 x:=λx hx=>cK x (e6 x hx);have w3:IntKind.i64.wrap ((m:Int)-i)=((m-i:Nat):Int):=by rw[av (by omega)];omega
 apply aa.sq bb fw [0,2,4,10,11,20];simp[aoZ,hi,hj,u9];refine aa.cond rfl (λh=>?_) (λh=>?_)
 .simp at h;apply aa.skip;simp;apply aa.block;apply aa.ai bb fw [0,2,4,10,11,23];simp[ao0];refine aa.cond rfl (λh4=>?_) (λh4=>?_)
  .simp at h4;refine aa.fR bb fw (rs:=Wx) (.inr ⟨_,pV⟩) (by kernel_rfl) [0,2,4,10,11] ?_;simp[Wx,abb,k52,w3];refine⟨⟨Ln,by omega,by omega,by omega⟩, ?_⟩;obtain⟨P1,P2,rfl,lP1⟩:∃P1 P2,P=P1++P2/\P1.length=j:=⟨P.take j,P.drop j,(Ek j P).symm,by simp;omega⟩;simp only[nH]at hi;have pB:uf Dc (m-i) m j=Ro.D ⟨A++Q,P2,P1,B⟩:=by
    rw[<-u9];simp only[Ro.D,xm];exact rR A P1 P2 Q B (by simp only[nH]at e1;omega) lP1 (by simp only[nH]at e1;omega) hj
   rw[pB];have w4:IntKind.i64.wrap ((i:Int)-j)=((i-j:Nat):Int):=by rw[av (by omega)];omega
   apply aa.cZ bb fw [0,2,4,10,11];simp[ao1,w4];refine⟨⟨A++Q,P2,P1,B⟩, ?_,⟨?_, ?_, ?_, ?_, ?_, ?_⟩, ?_⟩
   .refine Le.same (kc _) ?_;simp;omega
   .simp only[nH]at e1⊢;omega
   .simp only;omega
   .simp only;omega
   .rw[<-e4];simp
   .rw[<-e5,<-u9];simp[Ro.D];omega
   .intro x hx;refine e6 x ?_;rw[<-u9];simp only[Ro.D,lF]at hx⊢;rcases hx with(h|h)|h|h|h<;>simp[h]
   .simp only;omega
  .simp at h4;have w4:IntKind.i64.wrap (IntKind.i64.wrap ((m:Int)+j)-i)=((m+j-i:Nat):Int):=by rw[av (x:=(m:Int)+j) (by omega),av (by omega)];omega
   have w5:IntKind.i64.wrap ((j:Int)-i)=((j-i:Nat):Int):=by rw[av (by omega)];omega
   refine aa.fR bb fw (rs:=Wy) (.inr ⟨_,pV⟩) (by kernel_rfl) [0,2,4,10,11] ?_;simp[Wy,abb,k52,w3,w4];refine⟨⟨Ln,by omega,by omega,by omega⟩, ?_⟩;obtain⟨Q1,Q2,rfl,lQ2⟩:∃Q1 Q2,Q=Q1++Q2/\Q2.length=i:=⟨Q.take (j-i),Q.drop (j-i),(Ek _ Q).symm,by simp;omega⟩;simp only[nH]at hj;have pB:uf Dc (m-i) (m+j-i) i=Ro.D ⟨A,Q2,Q1,P++B⟩:=by
    rw[<-u9];simp only[Ro.D,xm];exact rR A P Q1 Q2 B (by omega) hi (by omega) lQ2
   rw[pB];apply aa.cZ bb fw [0,2,4,10,11];simp[ao2,w5];refine⟨⟨A,Q2,Q1,P++B⟩, ?_,⟨?_, ?_, ?_, ?_, ?_, ?_⟩, ?_⟩
   .refine Le.same (kc _) ?_;simp;omega
   .simp only;omega
   .simp only;omega
   .simp only;omega
   .rw[<-e4];simp
   .rw[<-e5,<-u9];simp[Ro.D];omega
   .intro x hx;refine e6 x ?_;rw[<-u9];simp only[Ro.D,lF]at hx⊢;rcases hx with h|h|h|h|h<;>simp[h]
   .simp only;omega
 .simp at h;apply aa.exit;simp;refine aa.rP bb fw (rs:=Wz) (.inr ⟨_,pV⟩) (by kernel_rfl) [] ?_;simp[Wz,abb,k52,w3];refine⟨⟨Ln,by omega,by omega,by omega⟩, ?_⟩;have pB:uf Dc (m-i) m i=nY D a m b:=by
   rw[<-u9,<-e4];simp only[Ro.D];exact rR A P [] Q B (by omega) hi (by simp;omega) (by omega)
  simp[WA,pB]
section
variable{dj:aG->Prop}{dK:aG->aG->Int}
def Z8:bW->bS->iw
 |[.aW r bG,.v (.int .i64 a),.v (.int .i64 m),.v (.int .i64 b),.v g],ab=>match ab r with
  |some (.bm bM e sz D)=>⟨bG=bM/\sz=5/\(∀x∈D,vP 5 x)/\0<=a/\a<m/\m<b/\b<=D.length/\D.length<=140737488355328,.v (.dh []),dx ab r (.bm bG e 5 (nY D a.toNat m.toNat b.toNat))⟩
  |_=>⟨False,.undef,ab⟩
 |_,ab=>⟨False,.undef,ab⟩
def SG(dj:aG->Prop)(dK:aG->aG->Int)(N:Nat):bW->bS->iw
 |[.aW r bG,.v (.int .i64 a),.v (.int .i64 m),.v (.int .i64 b),.v (.fn (.func c) cz)],ab=>match ab r with
  |some (.bm bM e sz D)=>⟨bG=bM/\sz=5/\c=66/\cz=[]/\(∀x∈D,dj x)/\0<=a/\a<m/\m<b/\b<=D.length/\D.length<=140737488355328/\b-a<N/\dU (my dK) (eY D a.toNat m.toNat)/\dU (my dK) (eY D m.toNat b.toNat),
    .v (.dh []),dx ab r (.bm bG e 5 (dG (my dK) D a.toNat b.toNat))⟩
  |_=>⟨False,.undef,ab⟩
 |_,ab=>⟨False,.undef,ab⟩
def KB(dj:aG->Prop)(dK:aG->aG->Int)(N:Nat):kv:=bz [(162,fl (SG dj dK N)),(192,fl Z8),(66,pS dj dK)]
def arD(hc:qE dj dK 66 5):aw ak (bz [(192,fl Z8),(66,pS dj dK)]):=by
 refine aw.il (PT hc) ?_;intro args ab h;unfold Z8 at h⊢;split at h
 .split at h
  .rename_i a m b g _ bM e sz D eH;obtain⟨rfl,rfl,h1,h2,h3,h4,h5,h6⟩:=h;have ea:a=(a.toNat:Int):=by omega
   have eb:b=(b.toNat:Int):=by omega
   have en:m=(m.toNat:Int):=by omega
   refine⟨λN hN=>?_,λk hk=>fj eH hk⟩;have:=t51 D a.toNat m.toNat b.toNat ab _ _ e g eH h1 (by omega) (by omega) (by omega) h6 hN;rw[<-ea,<-eb,<-en]at this;simp only[];exact this.of rfl rfl
  .exact h.elim
 .exact h.elim
def SS(D:List (aG))(k:Nat):DM.rowAt D (k:Int)=D.getD k default:=by simp[DM.rowAt];rfl
def abc{i j:Nat}(h:i+j<=2*140737488355328):IntKind.i64.wrap (IntKind.u64.wrap (IntKind.i64.wrap ((i:Int)+j))/2^min 1 IntKind.u64.bits)=(((i+j)/2:Nat):Int):=by
 have e:(2:Int)^min 1 IntKind.u64.bits=2:=rfl;rw[e,av (x:=(i:Int)+j) (by omega)];have:IntKind.u64.wrap ((i:Int)+j)=(i:Int)+j:=by simp[IntKind.wrap,IntKind.bits,IntKind.signed];omega
 rw[this,av (by omega)];omega
def adj{A B:List (aG)}{x y:aG}{k:Nat}(h:A.length=k){k':Nat}(hk:k'=k+1):DM.rowAt (A++(x::y::B)) k=x/\DM.rowAt (A++(x::y::B)) k'=y/\DM.rowAt ((A++(x::y::B)).set k y) k'=y/\
  ((A++(x::y::B)).set k y).set k' x=A++(y::x::B)/\DM.rowAt ((A++(x::y::B)).set k' x) k=x/\((A++(x::y::B)).set k' x).set k y=A++(y::x::B):=by
 subst h hk;refine⟨kg rfl, ?_, ?_, ?_, ?_, ?_⟩
 .rw[show A++(x::y::B)=(A++[x])++(y::B)by simp];exact kg (by simp)
 .rw[ol rfl,show A++(y::y::B)=(A++[y])++(y::B)by simp];exact kg (by simp)
 .rw[ol rfl,show A++(y::y::B)=(A++[y])++(y::B)by simp,ol (by simp)];simp
 .rw[show A++(x::y::B)=(A++[x])++(y::B)by simp,ol (by simp),show(A++[x])++(x::B)=A++(x::x::B)by simp];exact kg rfl
 .rw[show A++(x::y::B)=(A++[x])++(y::B)by simp,ol (by simp),show(A++[x])++(x::B)=A++(x::x::B)by simp,ol rfl]
def N0{D:List (aG)}{s m e:Nat}(h1:s<=m)(h2:m<=e)(h:¬(s<m/\m<e)):nY D s m e=D:=by
 unfold nY;by_cases h':s=m
 .subst h';rw[Js,jB,ef D h2,Ek]
 .have:m=e:=by omega
  subst this;rw[Js,jB,ef D h1,Ek]
def DK{lt:aG->aG->Bool}{D:List (aG)}{i j:Nat}(hj:j<=D.length)(h:dU lt (eY D i j)):∀p q,i<=p->p<q->q<j->lt (D.getD q default) (D.getD p default)=false:=by
 intro p q h1 h2 h3;unfold dU at h;rw[Zcv]at h;have hl:(eY D i j).length=j-i:=by simp;omega
 have:=h (p-i) (q-i) (by omega) (by omega) (by omega);unfold eY at this;rw[Zch,Zch,ZM,ZM]at this;rw[ZbR,ZbR,mM (by omega),mM (by omega)];simpa only[GA,show i+(p-i)=p by omega,show i+(q-i)=q by omega]using this
structure IJ where
 (i j:Nat)
structure PQ where
 (P Q:List (aG))
def avt(hc:qE dj dK 66 5)(hw:SWO (my dK))(F:Nat)(bb:aw ak (KB dj dK F))
  (D:List (aG)) (a m b:Nat) (ab:bS) (r bG e:Nat) (eH:ab r=some (.bm bG e 5 D)) (cK:∀x∈D,dj x) (h1:a<m) (h2:m<b) (h3:b<=D.length) (h4:D.length<=140737488355328) (hF:b-a<F+1)
  (sL:dU (my dK) (eY D a m)) (sR:dU (my dK) (eY D m b))
  {N:Nat} (hN:∀r,N<=r->ab r=none):ce ak 162 [.aW r bG,.v (ti a),.v (ti m),.v (ti b),.v (.fn (.func 66) [])] ab ⟨True,.v (.dh []),dx ab r (.bm bG e 5 (dG (my dK) D a b))⟩:=by
 have kc:∀o k,N+1000<=k->dx ab r o k=none:=λo k hk=>fj eH (hN k (by omega));have gl:=DK (by omega) sL;have gr:=DK (by omega) sR;have pQ:∀k,k<D.length->dj (D.getD k default):=λk hk=>cK _ (by rw[ZbR,mM hk];simp);have pq:∀i j x,x∈eY D i j->∃k,i<=k/\k<j/\k<D.length/\D.getD k default=x:=λi j x h=>aaH.1 h;have gf:=SS D;obtain⟨lt,cQ,AV⟩:∃lt:aG->aG->Bool,my dK=lt/\∀x y,decide (dK x y<0)=lt x y:=⟨_,rfl,λ_ _=>rfl⟩;rw[cQ]at hw sL sR gl gr⊢;obtain⟨g,hg⟩:∃g:Nat->aG,∀k:Nat,D.getD k default=g k:=⟨_,λ_=>rfl⟩;simp only[hg]at gl gr pQ pq gf;have vx:=λk hk=>hc.row _ (pQ k hk);refine c50.Z1 hN (by simp) (iE ?_);rw[oG eH];simp;have w1:IntKind.i64.wrap ((m:Int)-a)=((m-a:Nat):Int):=by rw[av (by omega)];omega
 have w2:IntKind.i64.wrap ((b:Int)-m)=((b-m:Nat):Int):=by rw[av (by omega)];omega
 apply aa.sq bb fw [0,1,2,3,4,28];simp[Wv,w1];refine aa.cond rfl (λc1=>?_) (λc1=>?_)
 .simp at c1;apply aa.ai bb fw [0,1,3,4,10];simp[Ww];apply aa.ai bb fw [0,1,4,10,11];simp[Py];apply aa.seq;apply aa.block;refine aa.loop (λy:IJ=>⟨DM.look [(0,.aW r bG),(1,.v (ti a)),(4,.v (.fn (.func 66) [])),(10,.v (ti y.i)),(11,.v (ti y.j))],dx ab r (.bm bG e 5 D),N+1000,N,[]⟩)
   (λy=>m<=y.i/\y.i<=y.j/\y.j<=b/\(∀k,m<=k->k<y.i->lt (g k) (g a)=true)/\∀k,y.j<=k->k<b->lt (g k) (g a)=false) (λy=>y.j-y.i) ⟨m,b⟩ ?_ ?_ (λy hy=>?_)
  .exact Le.same (kc _) (by simp)
  .exact⟨by simp,by simp;omega,by simp,λk k1 k2=>by simp at k2;omega,λk k1 k2=>by simp at k1;omega⟩
  obtain⟨i,j⟩:=y;obtain⟨p1,p2,p3,p4,p5⟩:=hy;simp only at p1 p2 p3 p4 p5⊢;apply aa.sq bb fw [0,1,4,10,11,33];simp[aoQ];refine aa.cond rfl (λh=>?_) (λh=>?_)
  .simp at h;apply aa.skip;simp;apply aa.block;apply aa.ai bb fw [0,1,4,10,11,12];obtain⟨c,aS⟩:=aY ((i+j)/2);have hh:=abc (i:=i) (j:=j) (by omega);rw[aS]at hh;simp[aoR,hh];have ZY:=vx c (by omega);have WY:=vx a (by omega);apply aa.ai bb fw [0,1,4,10,11,12,50];simp[aoS,gf,ZY.1,WY.1,tk ZY.1,tk WY.1,KB,pS,AV];refine⟨by omega,by omega,⟨_,_,⟨rfl,rfl⟩,pQ c (by omega),pQ a (by omega)⟩, ?_⟩;refine aa.cond rfl (λh5=>?_) (λh5=>?_)
   .apply aa.cZ bb fw [0,1,4,10,11];simp[aoT];refine⟨⟨c+1,j⟩,Le.same (kc _) ?_,⟨by simp only;omega,by simp only;omega,p3,λk k1 k2=>?_,p5⟩,by simp only;omega⟩
    .simp;rw[av (by omega)]
    .simp only at k2;cases wl:lt (g k) (g a)with
     |true=>rfl
     |false=>
      by_cases hk:k=c
      .subst hk;rw[h5]at wl;cases wl
      .have:=hw.ntrans _ _ _ (gr k c k1 (by omega) (by omega)) wl;rw[h5]at this;cases this
   .apply aa.cZ bb fw [0,1,4,10,11];simp[aoU];refine⟨⟨i,c⟩,Le.same (kc _) ?_,⟨p1,by simp only;omega,by simp only;omega,p4,λk k1 k2=>?_⟩,by simp only;omega⟩
    .simp
    .simp only at k1;by_cases hk:k=c
     .subst hk;exact h5
     .exact hw.ntrans _ _ _ (gr c k (by omega) (by omega) k2) h5
  .simp at h;have To:i=j:=by omega
   subst To;apply aa.exit;simp;have hD:D=D.take a++(eY D a m++(eY D m i++(eY D i b++D.drop b))):=by
    rw[ef D (by omega),ef D (by omega),ef D (by omega),Ek]
   have lA:(D.take a).length=a:=by simp;omega
   have lX:(eY D a m).length=1:=by simp;omega
   have l1:(eY D m i).length=i-m:=by simp;omega
   have l2:(eY D i b).length=b-i:=by simp;omega
   have lB:(D.drop b).length=D.length-b:=by simp
   obtain⟨x,hX⟩:=ZcF.1 lX;have hxg:x=g a:=by
    obtain⟨k,k1,k2,k3,k4⟩:=pq a m x (by rw[hX];simp);rw[<-k4,show k=a by omega]
   have hR1:∀z∈eY D m i,lt z x=true:=by
    intro z hz;obtain⟨k,k1,k2,k3,k4⟩:=pq _ _ z hz;rw[<-k4,hxg];exact p4 k k1 k2
   have hR2:∀z∈eY D i b,lt z x=false:=by
    intro z hz;obtain⟨k,k1,k2,k3,k4⟩:=pq _ _ z hz;rw[<-k4,hxg];exact p5 k k1 k2
   rw[rQ D p1 p3]at sR;have HG:=R9 hw sR hR1 hR2;rw[hX]at hD;generalize D.take a=A at*
   generalize eY D m i=R1 at*
   generalize eY D i b=R2 at*
   generalize D.drop b=B at*
   have fN:dG lt D a b=A++(R1++(x::(R2++B))):=by
    rw[hD,show A++([x]++(R1++(R2++B)))=A++((x::(R1++R2))++B)by simp,o9 lt A _ B lA (by simp;omega),HG];simp
   have dJ:∀z,(z=x\/z∈R1)->vP 5 z:=by
    intro z hz;refine hc.row z (cK z ?_);rw[hD];rcases hz with rfl|hz<;>simp[*]
   have EC:=dJ x (.inl rfl);apply aa.sq bb fw [0,10,13];simp[aoV];apply aa.block;refine aa.loop (λy:PQ=>⟨DM.look [(0,.aW r bG),(10,.v (ti i)),(13,.v (ti ((a+y.P.length:Nat):Int)))],dx ab r (.bm bG e 5 (A++(y.P++(x::(y.Q++(R2++B)))))),N+1000,N,[]⟩)
    (λy=>R1=y.P++y.Q) (λy=>y.Q.length) ⟨[],R1⟩ ?_ (by simp) (λy hy=>?_)
   .have e1:A++([]++(x::(R1++(R2++B))))=D:=by rw[hD];simp
    simp only[e1];refine Le.same (kc _) ?_;simp
   obtain⟨P,Q⟩:=y;simp only at hy⊢;have N1:P.length+Q.length=i-m:=by rw[<-l1,hy];simp
   obtain⟨k,hk⟩:=aY (a+P.length);have w3:IntKind.i64.wrap ((i:Int)-1)=((i-1:Nat):Int):=by rw[av (by omega)];omega
   rw[hk];apply aa.sq bb fw [0,10,13,58];simp[aoW,w3];refine aa.cond rfl (λh=>?_) (λh=>?_)
   .simp at h
    match Q,N1 with
    |[],N1=>simp at N1;omega
    |q::Q,N1=>
    simp only[B8]at N1;have FU:=dJ q (.inr (by rw[hy];simp));obtain⟨k',wi⟩:∃k',k'=k+1:=⟨_,rfl⟩;have w4:IntKind.i64.wrap ((k:Int)+1)=(k':Int):=by rw[av (by omega)];omega
    obtain⟨q1,q2,q3,q4,_,_⟩:=adj (A:=A++P) (B:=Q++(R2++B)) (x:=x) (y:=q) (k:=k) (by simp;omega) wi;obtain⟨Dc,u9⟩:=aY ((A++P)++(x::q::(Q++(R2++B))));rw[u9]at q1 q2 q3 q4;have hl:Dc.length=D.length:=by rw[<-u9,hD,hy];simp;omega
    apply aa.skip;simp;apply aa.seq;apply aa.block;rw[show A++(P++x::q::(Q++(R2++B)))=Dc by rw[<-u9];simp];apply aa.cZ bb fw [0,10,13];simp[ahf,w4,q1,q2,q3,q4,hl,EC.1,FU.1,tk EC.1,tk FU.1,dr EC.1,dr FU.1,fA EC.2,fA FU.2];repeat refine⟨by omega, ?_⟩
    apply aa.cZ bb fw [0,10,13];simp[ahg,w4];refine⟨⟨P++[q],Q⟩, ?_, ?_, ?_⟩
    .rw[show A++((P++[q])++x::(Q++(R2++B)))=A++(P++q::x::(Q++(R2++B)))by simp];refine Le.same (kc _) ?_;simp;omega
    .simp[hy]
    .simp
   .simp at h;have hQ:Q=[]:=oK (by omega);subst hQ;rw[Ej]at hy;subst hy;apply aa.exit;simp;apply aa.ret;simp[um,fN]
 simp at c1;apply aa.skip;simp;apply aa.sq bb fw [0,1,2,3,4,80];simp[ahh,w2];refine aa.cond rfl (λc2=>?_) (λc2=>?_)
 .simp at c2;apply aa.ai bb fw [0,2,4,14];simp[ahi];apply aa.ai bb fw [0,2,4,14,15];simp[ahj];apply aa.seq;apply aa.block;refine aa.loop (λy:IJ=>⟨DM.look [(0,.aW r bG),(2,.v (ti m)),(4,.v (.fn (.func 66) [])),(14,.v (ti y.i)),(15,.v (ti y.j))],dx ab r (.bm bG e 5 D),N+1000,N,[]⟩)
   (λy=>a<=y.i/\y.i<=y.j/\y.j<=m/\(∀k,a<=k->k<y.i->lt (g m) (g k)=false)/\∀k,y.j<=k->k<m->lt (g m) (g k)=true) (λy=>y.j-y.i) ⟨a,m⟩ ?_ ?_ (λy hy=>?_)
  .exact Le.same (kc _) (by simp)
  .exact⟨by simp,by simp;omega,by simp,λk k1 k2=>by simp at k2;omega,λk k1 k2=>by simp at k1;omega⟩
  obtain⟨i,j⟩:=y;obtain⟨p1,p2,p3,p4,p5⟩:=hy;simp only at p1 p2 p3 p4 p5⊢;apply aa.sq bb fw [0,2,4,14,15,85];simp[ahk];refine aa.cond rfl (λh=>?_) (λh=>?_)
  .simp at h;apply aa.skip;simp;apply aa.block;apply aa.ai bb fw [0,2,4,14,15,16];obtain⟨c,aS⟩:=aY ((i+j)/2);have hh:=abc (i:=i) (j:=j) (by omega);rw[aS]at hh;simp[ahl,hh];have ZY:=vx c (by omega);have hgm:=vx m (by omega);apply aa.ai bb fw [0,2,4,14,15,16,103];simp[ahm,gf,ZY.1,hgm.1,tk ZY.1,tk hgm.1,KB,pS,AV];refine⟨by omega,by omega,⟨_,_,⟨rfl,rfl⟩,pQ m (by omega),pQ c (by omega)⟩, ?_⟩;refine aa.cond rfl (λh5=>?_) (λh5=>?_)
   .simp only[AF]at h5;apply aa.cZ bb fw [0,2,4,14,15];simp[ahn];refine⟨⟨c+1,j⟩,Le.same (kc _) ?_,⟨by simp only;omega,by simp only;omega,p3,λk k1 k2=>?_,p5⟩,by simp only;omega⟩
    .simp;rw[av (by omega)]
    .simp only at k2;by_cases hk:k=c
     .subst hk;exact h5
     .exact hw.ntrans _ _ _ h5 (gl k c k1 (by omega) (by omega))
   .simp only[Zdt]at h5;apply aa.cZ bb fw [0,2,4,14,15];simp[aho];refine⟨⟨i,c⟩,Le.same (kc _) ?_,⟨p1,by simp only;omega,by simp only;omega,p4,λk k1 k2=>?_⟩,by simp only;omega⟩
    .simp
    .simp only at k1;cases wl:lt (g m) (g k)with
     |true=>rfl
     |false=>
      by_cases hk:k=c
      .subst hk;rw[h5]at wl;cases wl
      .have:=hw.ntrans _ _ _ wl (gl c k (by omega) (by omega) k2);rw[h5]at this;cases this
  .simp at h;have To:i=j:=by omega
   subst To;apply aa.exit;simp;have hD:D=D.take a++(eY D a i++(eY D i m++(eY D m b++D.drop b))):=by
    rw[ef D (by omega),ef D (by omega),ef D (by omega),Ek]
   have lA:(D.take a).length=a:=by simp;omega
   have lX:(eY D m b).length=1:=by simp;omega
   have l1:(eY D a i).length=i-a:=by simp;omega
   have l2:(eY D i m).length=m-i:=by simp;omega
   have lB:(D.drop b).length=D.length-b:=by simp
   obtain⟨x,hX⟩:=ZcF.1 lX;have hxg:x=g m:=by
    obtain⟨k,k1,k2,k3,k4⟩:=pq m b x (by rw[hX];simp);rw[<-k4,show k=m by omega]
   have hR1:∀z∈eY D a i,lt x z=false:=by
    intro z hz;obtain⟨k,k1,k2,k3,k4⟩:=pq _ _ z hz;rw[<-k4,hxg];exact p4 k k1 k2
   have hR2:∀z∈eY D i m,lt x z=true:=by
    intro z hz;obtain⟨k,k1,k2,k3,k4⟩:=pq _ _ z hz;rw[<-k4,hxg];exact p5 k k1 k2
   rw[rQ D p1 p3]at sL;have HG:=Vk hw sL hR1 hR2;rw[hX]at hD;generalize D.take a=A at*
   generalize eY D a i=L1 at*
   generalize eY D i m=L2 at*
   generalize D.drop b=B at*
   have fN:dG lt D a b=A++(L1++(x::(L2++B))):=by
    rw[hD,show A++(L1++(L2++([x]++B)))=A++((L1++L2++[x])++B)by simp,o9 lt A _ B lA (by simp;omega),HG];simp
   have dJ:∀z,(z=x\/z∈L2)->vP 5 z:=by
    intro z hz;refine hc.row z (cK z ?_);rw[hD];rcases hz with rfl|hz<;>simp[*]
   have EC:=dJ x (.inl rfl);apply aa.sq bb fw [0,14,17];simp[ahp];apply aa.block;refine aa.loop (λy:PQ=>⟨DM.look [(0,.aW r bG),(14,.v (ti i)),(17,.v (ti ((i+y.P.length:Nat):Int)))],dx ab r (.bm bG e 5 (A++(L1++(y.P++(x::(y.Q++B)))))),N+1000,N,[]⟩)
    (λy=>L2=y.P++y.Q) (λy=>y.P.length) ⟨L2,[]⟩ ?_ (by simp) (λy hy=>?_)
   .have e1:A++(L1++(L2++(x::([]++B))))=D:=by rw[hD];simp
    simp only[e1];refine Le.same (kc _) ?_;simp;omega
   obtain⟨P,Q⟩:=y;simp only at hy⊢;have N1:P.length+Q.length=m-i:=by rw[<-l2,hy];simp
   obtain⟨k,hk⟩:=aY (i+P.length);rw[hk];apply aa.sq bb fw [0,14,17,110];simp[ahq];refine aa.cond rfl (λh=>?_) (λh=>?_)
   .simp at h;rcases Zdc P with rfl|⟨P',q,rfl⟩
    .simp at hk;omega
    simp only[Zdd]at*
    simp only[nH,B8,ZbJ]at hk N1;have FU:=dJ q (.inr (by rw[hy];simp));obtain⟨k',wi⟩:∃k',k=k'+1:=⟨k-1,by omega⟩;have w4:IntKind.i64.wrap ((k:Int)-1)=(k':Int):=by rw[av (by omega)];omega
    obtain⟨q1,q2,_,_,q3,q4⟩:=adj (A:=A++(L1++P')) (B:=Q++B) (x:=q) (y:=x) (k:=k') (by simp;omega) wi;obtain⟨Dc,u9⟩:=aY ((A++(L1++P'))++(q::x::(Q++B)));rw[u9]at q1 q2 q3 q4;have hl:Dc.length=D.length:=by rw[<-u9,hD,hy];simp;omega
    apply aa.skip;simp;apply aa.seq;apply aa.block;rw[show A++(L1++(P'++q::x::(Q++B)))=Dc by rw[<-u9];simp];apply aa.cZ bb fw [0,14,17];simp[ahr,w4,q1,q2,q3,q4,hl,EC.1,FU.1,tk EC.1,tk FU.1,dr EC.1,dr FU.1,fA EC.2,fA FU.2];repeat refine⟨by omega, ?_⟩
    apply aa.cZ bb fw [0,14,17];simp[ahs,w4];refine⟨⟨P',q::Q⟩, ?_, ?_, ?_⟩
    .rw[show A++(L1++(P'++x::(q::Q++B)))=A++(L1++(P'++x::q::(Q++B)))by simp];refine Le.same (kc _) ?_;simp;omega
    .simp[hy]
    .simp
   .simp at h;have hQ:P=[]:=oK (by omega);subst hQ;rw[jB]at hy;subst hy;apply aa.exit;simp;apply aa.ret;simp[um,fN]
 simp at c2;apply aa.skip;simp;obtain⟨mid,amt⟩:=aY ((a+b)/2);have hh:=abc (i:=a) (j:=b) (by omega);rw[amt]at hh;apply aa.ai bb fw [0,1,2,3,4,18];simp[aht,hh];obtain⟨n,hn⟩:=aY (mid+m);have Ck:IntKind.i64.wrap ((mid:Int)+m)=(n:Int):=by rw[av (by omega)];omega
 apply aa.ai bb fw [0,1,2,3,4,18,19];simp[ahu,Ck];apply aa.ai bb fw [0,1,2,3,4,18,19];simp[ahv];apply aa.sq bb fw [0,1,2,3,4,18,19,140];simp[ahw];obtain⟨s0,hs0⟩:=aY ((if mid<m then n-b else a));obtain⟨r0,hr0⟩:=aY ((if mid<m then mid else m));refine aa.to ⟨DM.look [(0,.aW r bG),(1,.v (ti a)),(2,.v (ti m)),(3,.v (ti b)),(4,.v (.fn (.func 66) [])),(18,.v (ti mid)),(19,.v (ti n)),(20,.v (ti s0)),(21,.v (ti r0))],dx ab r (.bm bG e 5 D),N+1000,N,[]⟩ ?_ ?_
 .refine aa.cond rfl (λc3=>?_) (λc3=>?_)
  .simp at c3;have e1:s0=n-b:=by rw[<-hs0,ee c3]
   have e2:r0=mid:=by rw[<-hr0,ee c3]
   apply aa.ai bb fw [0,1,2,3,4,18,19,20];simp[ahx];apply aa.cZ bb fw [0,1,2,3,4,18,19,20,21];simp[ahy];refine Le.same (kc _) ?_;simp;refine⟨?_,by omega⟩;rw[av (by omega)];omega
  .simp at c3;have e1:s0=a:=by rw[<-hs0,iK (by omega)]
   have e2:r0=m:=by rw[<-hr0,iK (by omega)]
   apply aa.ai bb fw [0,1,2,3,4,18,19,20];simp[ahz];apply aa.cZ bb fw [0,1,2,3,4,18,19,20,21];simp[ahA];refine Le.same (kc _) ?_;simp[e1,e2]
 have hsr:a<=s0/\s0<=r0/\r0<=m/\r0<=mid/\n-s0<=b/\m<=n-r0/\s0<=n/\(s0=a\/n-s0=b)/\(r0=m\/n-r0=m):=by
  by_cases c3:mid<m
  .rw[ee c3]at hs0 hr0;omega
  .rw[iK c3]at hs0 hr0;omega
 clear hs0 hr0;obtain⟨yz,Tk,hs3,hs4,hs5,hs6,hs7,hs8,hs9⟩:=hsr;have w3:IntKind.i64.wrap ((n:Int)-1)=((n-1:Nat):Int):=by rw[av (by omega)];omega
 apply aa.ai bb fw [0,1,2,3,4,18,19,20,21,22];simp[ahB,w3];apply aa.seq;apply aa.block;refine aa.loop (λy:IJ=>⟨DM.look [(0,.aW r bG),(1,.v (ti a)),(2,.v (ti m)),(3,.v (ti b)),(4,.v (.fn (.func 66) [])),(18,.v (ti mid)),(19,.v (ti n)),(20,.v (ti y.i)),(21,.v (ti y.j)),(22,.v (ti ((n-1:Nat):Int)))],dx ab r (.bm bG e 5 D),N+1000,N,[]⟩)
  (λy=>s0<=y.i/\y.i<=y.j/\y.j<=r0/\(y.i=s0\/lt (g (n-y.i)) (g (y.i-1))=false)/\(y.j=r0\/lt (g (n-1-y.j)) (g y.j)=true)) (λy=>y.j-y.i) ⟨s0,r0⟩ ?_ ?_ (λy hy=>?_)
 .exact Le.same (kc _) (by simp)
 .exact⟨by simp,by simp;omega,by simp,.inl rfl,.inl rfl⟩
 obtain⟨i,j⟩:=y;obtain⟨p1,p2,p3,p4,p5⟩:=hy;simp only at p1 p2 p3 p4 p5⊢;apply aa.sq bb fw [0,1,2,3,4,18,19,20,21,22,151];simp[ahC];refine aa.cond rfl (λh=>?_) (λh=>?_)
 .simp at h;apply aa.skip;simp;apply aa.block;obtain⟨c,aS⟩:=aY ((i+j)/2);have hh:=abc (i:=i) (j:=j) (by omega);rw[aS]at hh;apply aa.ai bb fw [0,1,2,3,4,18,19,20,21,22,23];simp[ahD,hh];obtain⟨q,hq⟩:=aY (n-1-c);have w4:IntKind.i64.wrap (((n-1:Nat):Int)-c)=(q:Int):=by rw[av (by omega)];omega
  have ZY:=vx c (by omega);have hgq:=vx q (by omega);apply aa.ai bb fw [0,1,2,3,4,18,19,20,21,22,23,171];simp[ahE,w4,gf,ZY.1,hgq.1,tk ZY.1,tk hgq.1,KB,pS,AV];refine⟨by omega,by omega,⟨_,_,⟨rfl,rfl⟩,pQ q (by omega),pQ c (by omega)⟩, ?_⟩;refine aa.cond rfl (λh5=>?_) (λh5=>?_)
  .simp only[AF]at h5;apply aa.cZ bb fw [0,1,2,3,4,18,19,20,21,22];simp[ahF];refine⟨⟨c+1,j⟩,Le.same (kc _) ?_,⟨by simp only;omega,by simp only;omega,p3,.inr ?_,p5⟩,by simp only;omega⟩
   .simp;rw[av (by omega)]
   .simp only;rw[show n-(c+1)=q by omega,show c+1-1=c by omega];exact h5
  .simp only[Zdt]at h5;apply aa.cZ bb fw [0,1,2,3,4,18,19,20,21,22];simp[ahG];refine⟨⟨i,c⟩,Le.same (kc _) ?_,⟨p1,by simp only;omega,by simp only;omega,p4,.inr ?_⟩,by simp only;omega⟩
   .simp
   .simp only;rw[hq];exact h5
 simp at h;have To:i=j:=by omega
 subst To;apply aa.exit;simp;obtain⟨en,hen⟩:=aY (n-i);have w5:IntKind.i64.wrap ((n:Int)-i)=(en:Int):=by rw[av (by omega)];omega
 have k1:∀rr∈eY D m en,∀l∈eY D i m,lt rr l=true:=by
  intro rr pY l hl;obtain⟨x,x1,x2,x3,x4⟩:=pq _ _ _ pY;obtain⟨y,y1,y2,y3,y4⟩:=pq _ _ _ hl;rw[<-x4,<-y4];have h5:lt (g (n-1-i)) (g i)=true:=by
   rcases p5 with e|e
   .exfalso;omega
   .exact e
  cases h6:lt (g x) (g y)with
  |true=>rfl
  |false=>
   have h7:lt (g x) (g i)=false:=by
    by_cases e:y=i
    .subst e;exact h6
    .exact hw.ntrans _ _ _ h6 (gl i y (by omega) (by omega) y2)
   have h8:lt (g (n-1-i)) (g i)=false:=by
    by_cases e:x=n-1-i
    .rw[<-e];exact h7
    .exact hw.ntrans _ _ _ (gr x (n-1-i) x1 (by omega) (by omega)) h7
   rw[h5]at h8;cases h8
 have k2:∀l∈eY D a i,∀rr∈eY D en b,lt rr l=false:=by
  intro l hl rr pY;obtain⟨x,x1,x2,x3,x4⟩:=pq _ _ _ pY;obtain⟨y,y1,y2,y3,y4⟩:=pq _ _ _ hl;rw[<-x4,<-y4];have h5:lt (g (n-i)) (g (i-1))=false:=by
   rcases p4 with e|e
   .exfalso;omega
   .exact e
  have h6:lt (g x) (g (i-1))=false:=by
   by_cases e:x=n-i
   .rw[e];exact h5
   .exact hw.ntrans _ _ _ (gr (n-i) x (by omega) (by omega) x2) h5
  by_cases e:y=i-1
  .rw[e];exact h6
  .exact hw.ntrans _ _ _ h6 (gl y (i-1) y1 (by omega) (by omega))
 have law:=G5 hw (D:=D) (a:=a) (s:=i) (m:=m) (e:=en) (b:=b) (mid:=mid) (by omega) (by omega) (by omega) (by omega) h3 (by omega) sL sR k1 k2;simp only at law;apply aa.ai bb fw [0,1,2,3,4,18,20,24];simp[ahH,w5];obtain⟨D1,hD1⟩:=aY (nY D i m en);obtain⟨D2,Z9⟩:=aY (dG lt D1 a mid);rw[hD1,Z9]at law;obtain⟨⟨a1,a2⟩,⟨a3,a4⟩,a5,a6,a7,a8,a9⟩:=law;have lD1:D1.length=D.length:=by rw[<-hD1];exact G4 (by omega) (by omega) (by omega)
 have lD2:D2.length=D.length:=by rw[<-Z9,Ez lt D1 (by omega) (by omega),lD1]
 have gD1:∀x∈D1,dj x:=λx hx=>cK x ((Sb (D:=D) (a:=i) (m:=m) (b:=en) (by omega) (by omega)).1 (by rw[hD1];exact hx));have gD2:∀x∈D2,dj x:=λx hx=>gD1 x ((MI (lt:=lt) (D:=D1) (a:=a) (b:=mid) (by omega)).1 (by rw[Z9];exact hx));apply aa.seq;refine aa.bL bb fw [(0,.aW r bG),(1,.v (ti a)),(2,.v (ti m)),(3,.v (ti b)),(4,.v (.fn (.func 66) [])),(18,.v (ti mid)),(20,.v (ti i)),(24,.v (ti en)),(185,.v (.bool (decide (i<m/\m<en))))] ?_ ?_
 .simp[ahI];repeat' (first|apply And.intro|intro _)
  all_goals first|omega|(simp;omega)|trace_state
 refine aa.to ⟨DM.look [(0,.aW r bG),(1,.v (ti a)),(3,.v (ti b)),(4,.v (.fn (.func 66) [])),(18,.v (ti mid)),(20,.v (ti i)),(24,.v (ti en))],dx ab r (.bm bG e 5 D1),N+1000,N,[]⟩ ?_ ?_
 .refine aa.cond rfl (λc3=>?_) (λc3=>?_)
  .simp only[yN]at c3;refine aa.rP bb fw (rs:=Pz) (.inr ⟨_,pV⟩) (by kernel_rfl) [0,1,3,4,18,20,24] ?_;simp[Pz,KB,Z8,hD1];refine⟨⟨λx hx=>hc.row x (cK x hx),by omega,by omega,by omega,by omega⟩, ?_⟩;exact Le.same (kc _) (by simp)
  .simp only[mD]at c3;rw[N0 (by omega) (by omega) c3]at hD1;subst hD1;refine aa.skip ⟨rfl, ?_⟩;exact Le.same (kc _) (by simp)
 apply aa.seq;refine aa.bL bb fw [(0,.aW r bG),(1,.v (ti a)),(3,.v (ti b)),(4,.v (.fn (.func 66) [])),(18,.v (ti mid)),(20,.v (ti i)),(24,.v (ti en)),(199,.v (.bool (decide (a<i/\i<mid))))] ?_ ?_
 .simp[ahJ];repeat' (first|apply And.intro|intro _)
  all_goals first|omega|(simp;omega)|trace_state
 refine aa.to ⟨DM.look [(0,.aW r bG),(3,.v (ti b)),(4,.v (.fn (.func 66) [])),(18,.v (ti mid)),(24,.v (ti en))],dx ab r (.bm bG e 5 D2),N+1000,N,[]⟩ ?_ ?_
 .refine aa.cond rfl (λc3=>?_) (λc3=>?_)
  .simp only[yN]at c3;refine aa.rP bb fw (rs:=PA) (.inr ⟨_,pV⟩) (by kernel_rfl) [0,3,4,18,24] ?_;simp[PA,KB,SG,cQ,Z9];refine⟨⟨gD1,by omega,by omega,by omega,by omega,by omega,a1,a2⟩, ?_⟩;exact Le.same (kc _) (by simp)
  .simp only[mD]at c3;have e1:D2=D1:=by
    by_cases e:i=a
    .exact a6 e
    .exact a7 (by omega)
   rw[e1];refine aa.skip ⟨rfl, ?_⟩;exact Le.same (kc _) (by simp)
 refine aa.bL bb fw [(0,.aW r bG),(3,.v (ti b)),(4,.v (.fn (.func 66) [])),(18,.v (ti mid)),(24,.v (ti en)),(213,.v (.bool (decide (mid<en/\en<b))))] ?_ ?_
 .simp[ahK];repeat' (first|apply And.intro|intro _)
  all_goals first|omega|(simp;omega)|trace_state
 refine aa.cond rfl (λc3=>?_) (λc3=>?_)
 .simp only[yN]at c3;refine aa.rP bb fw (rs:=PB) (.inr ⟨_,pV⟩) (by kernel_rfl) [] ?_;simp[PB,KB,SG,cQ,a5,um];exact⟨gD2,by omega,by omega,by omega,by omega,by omega,a3,a4⟩
 .simp only[mD]at c3;have e1:dG lt D a b=D2:=by
   rw[<-a5];by_cases e:en<=mid
   .exact a8 e
   .exact a9 (by omega)
  apply aa.skip;simp[um,e1]
def arE{dj:aG->Prop}{dK:aG->aG->Int}(hc:qE dj dK 66 5)(hw:SWO (my dK)):∀F:Nat,aw ak (KB dj dK F)
 |0=>by
  refine aw.il (arD hc) ?_;intro args ab h;unfold SG at h;split at h
  .split at h
   .simp only at h;omega
   .exact h.elim
  .exact h.elim
 |F+1=>by
  refine aw.il (arD hc) ?_;intro args ab h;unfold SG at h⊢;split at h
  .split at h
   .rename_i a m b c cz _ bM e sz D eH;obtain⟨rfl,rfl,rfl,rfl,h1,h2,h3,h4,h5,h6,h7,h8,h9⟩:=h;have ea:a=(a.toNat:Int):=by omega
    have eb:b=(b.toNat:Int):=by omega
    have en:m=(m.toNat:Int):=by omega
    refine⟨λN hN=>?_,λk hk=>fj eH hk⟩;have:=avt hc hw F (arE hc hw F) D a.toNat m.toNat b.toNat ab _ _ e eH h1 (by omega) (by omega) (by omega) h6 (by omega) h8 h9 hN;rw[<-ea,<-eb,<-en]at this;simp only[];exact this.of rfl rfl
   .exact h.elim
  .exact h.elim
end
def KC(lt:aG->aG->Bool)(l:List (aG))(x:aG):nM lt (l++[x])=kC lt x (nM lt l):=by simp[nM]
def t49{dj:aG->Prop}{dK:aG->aG->Int}(hc:qE dj dK 66 5)
  (D:List (aG)) (a b:Nat) (ab:bS) (r bG e:Nat) (eH:ab r=some (.bm bG e 5 D)) (cK:∀x∈D,dj x) (h1:a<=b) (h3:b<=D.length) (h4:D.length<=140737488355328)
  {N:Nat} (hN:∀r,N<=r->ab r=none):ce ak 161 [.aW r bG,.v (ti a),.v (ti b),.v (.fn (.func 66) [])] ab ⟨True,.v (.dh []),dx ab r (.bm bG e 5 (dG (my dK) D a b))⟩:=by
 have bb:=PT hc;have kc:∀o k,N+1000<=k->dx ab r o k=none:=λo k hk=>fj eH (hN k (by omega));obtain⟨lt,cQ,AV⟩:∃lt:aG->aG->Bool,my dK=lt/\∀x y,decide (dK x y<0)=lt x y:=⟨_,rfl,λ_ _=>rfl⟩;rw[cQ];refine c49.Z1 hN (by simp) (iE ?_);rw[oG eH];simp;have hD:D=D.take a++(eY D a b++D.drop b):=by rw[ef D h1,Ek]
 have lA:(D.take a).length=a:=by simp;omega
 have lX:(eY D a b).length=b-a:=by simp;omega
 have lB:(D.drop b).length=D.length-b:=by simp
 obtain⟨A,hA⟩:=aY (D.take a);obtain⟨X,hX⟩:=aY (eY D a b);obtain⟨B,hB⟩:=aY (D.drop b);have fN:dG lt D a b=A++(dP lt X++B):=by unfold dG;rw[hA,hX,hB]
 rw[hA,hX,hB]at hD;rw[hA]at lA;rw[hX]at lX;rw[hB]at lB;have w1:IntKind.i64.wrap ((a:Int)+1)=((a+1:Nat):Int):=by rw[av (by omega)];omega
 apply aa.ai bb fw [0,1,2,3,8];simp[Px,w1];apply aa.block;refine aa.loop (λy:PQ=>⟨DM.look [(0,.aW r bG),(1,.v (ti a)),(2,.v (ti b)),(3,.v (.fn (.func 66) [])),(8,.v (ti ((a+1+(y.P.length-1):Nat):Int)))],dx ab r (.bm bG e 5 (A++(dP lt y.P++(y.Q++B)))),N+1000,N,[]⟩)
  (λy=>X=y.P++y.Q/\(y.P=[]->y.Q=[])) (λy=>y.Q.length) ⟨X.take 1,X.drop 1⟩ ?_ ?_ (λy hy=>?_)
 .have e1:A++(dP lt (X.take 1)++(X.drop 1++B))=D:=by
   rw[hD];cases X with
   |nil=>simp[dP,nM]
   |cons x X=>simp[dP,nM,kC]
  simp only[e1];refine Le.same (kc _) ?_;cases X with
  |nil=>simp
  |cons x X=>simp
 .refine⟨(Ek 1 X).symm, ?_⟩;cases X with
  |nil=>simp
  |cons x X=>simp
 obtain⟨P,Q⟩:=y;obtain⟨vy,fI⟩:=hy;simp only at vy fI⊢;have N1:P.length+Q.length=b-a:=by rw[<-lX,vy];simp
 obtain⟨i,hi⟩:=aY (a+1+(P.length-1));rw[hi];apply aa.sq bb fw [0,1,2,3,8,14];simp[Kj];refine aa.cond rfl (λh=>?_) (λh=>?_)
 .simp at h
  match P,Q,fI,N1 with
  |[],Q,fI,N1=>have:=fI rfl;subst this;simp at N1 hi;omega
  |p0::P0,[],_,N1=>simp at N1 hi;omega
  |p0::P0,x::Q,_,N1=>
  generalize hPP:p0::P0=P at*
  have hPl:1<=P.length:=by rw[<-hPP];simp
  simp only[B8]at N1;have hxD:x∈D:=by rw[hD,vy];simp
  have EC:=hc.row x (cK x hxD);apply aa.skip;simp;apply aa.seq;apply aa.block;apply aa.ai bb fw [0,1,2,3,8,9];simp[Wu];apply aa.block;obtain⟨iz,arF⟩:=aY (nM lt P);have his:dP lt P=iz.reverse:=by unfold dP;rw[arF]
  have arG:iz.length=P.length:=by have:=gO (lt:=lt) P;rw[his]at this;simpa using this
  have arH:∀z,z∈iz->z∈D:=by
   intro z hz;have:z∈dP lt P:=by rw[his];simpa using hz
   rw[gI]at this;rw[hD,vy];simp[this]
  rw[his];refine aa.loop (λy:PQ=>⟨DM.look [(0,.aW r bG),(1,.v (ti a)),(2,.v (ti b)),(3,.v (.fn (.func 66) [])),(8,.v (ti i)),(9,.v (ti ((a+y.P.length:Nat):Int)))],dx ab r (.bm bG e 5 (A++(y.P++(x::(y.Q++(Q++B)))))),N+1000,N,[]⟩)
   (λy=>iz=y.Q.reverse++y.P.reverse/\kC lt x iz=y.Q.reverse++kC lt x y.P.reverse) (λy=>y.P.length) ⟨iz.reverse,[]⟩ ?_ ?_ (λy hz=>?_)
  .simp only[jB];refine Le.same (kc _) ?_;simp[arG];omega
  .simp
  obtain⟨P1,Q1⟩:=y;obtain⟨yd,AS⟩:=hz;simp only at yd AS⊢;obtain⟨k,hk⟩:=aY (a+P1.length);have l1:P1.length+Q1.length=P.length:=by rw[<-arG,yd];simp;omega
  rw[hk];apply aa.seq;obtain⟨t,ht⟩:=aY ((match P1.reverse with|[]=>false|p::_=>lt x p));obtain⟨Dc,u9⟩:=aY (A++(P1++(x::(Q1++(Q++B)))));have hl:Dc.length=D.length:=by rw[<-u9,hD,vy];simp;omega
  have hkD:k<D.length:=by
   have:D.length=a+(P.length+(Q.length+1)+B.length):=by rw[hD,vy];simp;omega
   omega
  have hkx:DM.rowAt Dc k=x:=by
   rw[<-u9,<-List.append_assoc];exact kg (by simp;omega)
  rw[u9];refine aa.bL bb fw [(0,.aW r bG),(1,.v (ti a)),(2,.v (ti b)),(3,.v (.fn (.func 66) [])),(8,.v (ti i)),(9,.v (ti k)),(34,.v (.bool t))] ?_ ?_
  .rcases Zdc P1 with rfl|⟨P2,p,rfl⟩
   .simp at hk ht;simp[Kk,hk,ht]
   .simp only[Zdd,List.reverse_append,List.reverse_cons,List.reverse_nil,jB,List.singleton_append,nH,B8,ZbJ]at hk ht u9 yd;obtain⟨k',wi⟩:∃k',k=k'+1:=⟨k-1,by omega⟩;have hpD:p∈D:=arH p (by rw[yd];simp);have hpo:=hc.row p (cK p hpD);have w4:IntKind.i64.wrap ((k:Int)-1)=(k':Int):=by rw[av (by omega)];omega
    have hkp:DM.rowAt Dc k'=p:=by
     rw[<-u9,show A++((P2++[p])++(x::(Q1++(Q++B))))=(A++P2)++(p::x::(Q1++(Q++B)))by simp];exact kg (by simp;omega)
    simp[Kk,w4,hkx,hkp,hl,EC.1,hpo.1,tk EC.1,tk hpo.1,pS,AV,ht];refine⟨λ_=>⟨by omega,by omega,⟨_,_,⟨rfl,rfl⟩,cK x hxD,cK p hpD⟩⟩,λh=>?_⟩;omega
  refine aa.cond rfl (λh5=>?_) (λh5=>?_)
  .rcases Zdc P1 with rfl|⟨P2,p,rfl⟩
   .simp at ht;rw[h5]at ht;cases ht
   .simp only[Zdd,List.reverse_append,List.reverse_cons,List.reverse_nil,jB,List.singleton_append,nH,B8,ZbJ]at hk ht u9 yd AS l1⊢;rw[h5]at ht;obtain⟨k',wi⟩:∃k',k=k'+1:=⟨k-1,by omega⟩;have hpD:p∈D:=arH p (by rw[yd];simp);have hpo:=hc.row p (cK p hpD);have w4:IntKind.i64.wrap ((k:Int)-1)=(k':Int):=by rw[av (by omega)];omega
    obtain⟨q1,q2,_,_,q3,q4⟩:=adj (A:=A++P2) (B:=Q1++(Q++B)) (x:=p) (y:=x) (k:=k') (by simp;omega) wi;rw[show(A++P2)++(p::x::(Q1++(Q++B)))=Dc by rw[<-u9];simp]at q1 q2 q3 q4;apply aa.skip;simp;apply aa.seq;apply aa.block;apply aa.cZ bb fw [0,1,2,3,8,9];simp[aoN,w4,q1,q2,q3,q4,hl,EC.1,hpo.1,tk EC.1,tk hpo.1,dr EC.1,dr hpo.1,fA EC.2,fA hpo.2];repeat refine⟨by omega, ?_⟩
    apply aa.cZ bb fw [0,1,2,3,8,9];simp[aoO,w4];refine⟨⟨P2,p::Q1⟩, ?_,⟨?_, ?_⟩, ?_⟩
    .rw[show A++(P2++x::(p::Q1++(Q++B)))=A++(P2++x::p::(Q1++(Q++B)))by simp];refine Le.same (kc _) ?_;simp;omega
    .simp[yd]
    .rw[AS,kC,ee ht];simp
    .simp
  .have HG:kC lt x P1.reverse=x::P1.reverse:=by
    cases hr:P1.reverse with
    |nil=>rfl
    |cons p P2=>
     rw[hr]at ht;simp only at ht;rw[kC,iK (by rw[ht,h5];simp)]
   rw[HG]at AS;have mu:dP lt (P++[x])=P1++x::Q1:=by
    unfold dP;rw[KC,arF,AS];simp
   apply aa.exit;simp;apply aa.cZ bb fw [0,1,2,3,8];simp[aoP];refine⟨⟨P++[x],Q⟩, ?_,⟨?_, ?_⟩, ?_⟩
   .rw[show A++(dP lt (P++[x])++(Q++B))=Dc by rw[mu,<-u9];simp];refine Le.same (kc _) ?_;simp;rw[av (by omega)];omega
   .rw[vy];simp
   .simp
   .simp
 .simp at h;have hQ:Q=[]:=by
   by_cases e:P=[]
   .exact fI e
   .have:1<=P.length:=Gr.2 e;exact oK (by omega)
  subst hQ;rw[Ej]at vy;subst vy;apply aa.exit;simp[Dr,fN]
section
variable{dj:aG->Prop}{dK:aG->aG->Int}
def k49(dj:aG->Prop)(dK:aG->aG->Int):bW->bS->iw
 |[.aW r bG,.v (.int .i64 a),.v (.int .i64 b),.v (.fn (.func c) cz)],ab=>match ab r with
  |some (.bm bM e sz D)=>⟨bG=bM/\sz=5/\c=66/\cz=[]/\(∀x∈D,dj x)/\0<=a/\a<=b/\b<=D.length/\D.length<=140737488355328,
    .v (.dh []),dx ab r (.bm bG e 5 (dG (my dK) D a.toNat b.toNat))⟩
  |_=>⟨False,.undef,ab⟩
 |[.aZ,.v (.int .i64 a),.v (.int .i64 b),.v (.fn (.func c) cz)],ab=>⟨a=0/\b=0,.v (.dh []),ab⟩
 |_,ab=>⟨False,.undef,ab⟩
def ST(dj:aG->Prop)(dK:aG->aG->Int)(F:Nat):kv:=bz [(161,fl (k49 dj dK)),(162,fl (SG dj dK F)),(192,fl Z8),(66,pS dj dK)]
def avu(ab:bS)(f:T){N:Nat}(hN:∀r,N<=r->ab r=none):ce ak 161 [.aZ,.v (ti 0),.v (ti 0),.v f] ab ⟨True,.v (.dh []),ab⟩:=by
 have bb:aw ak (bz []):=aw.nil;refine c49.Z1 hN (by simp) (iE ?_);simp;apply aa.ai bb fw [2,8];simp[Px];apply aa.block;refine aa.loop (λy:Nat=>⟨DM.look [(2,.v (ti 0)),(8,.v (ti 1))],ab,N+1000,N,[]⟩) (λ_=>True) (λ_=>0) 0 (Le.same (λk hk=>hN k (by omega)) (by simp)) trivial (λy hy=>?_);apply aa.sq bb fw [14];simp[Kj];refine aa.cond rfl (λh=>by cases h) (λ_=>?_);apply aa.exit;simp[Dr]
def arI(hc:qE dj dK 66 5)(hw:SWO (my dK))(F:Nat):aw ak (ST dj dK F):=by
 refine aw.il (arE hc hw F) ?_;intro args ab h;unfold k49 at h⊢;split at h
 .split at h
  .rename_i a b c cz _ bM e sz D eH;obtain⟨rfl,rfl,rfl,rfl,h1,h2,h3,h4,h5⟩:=h;have ea:a=(a.toNat:Int):=by omega
   have eb:b=(b.toNat:Int):=by omega
   refine⟨λN hN=>?_,λk hk=>fj eH hk⟩;have:=t49 hc D a.toNat b.toNat ab _ _ e eH h1 (by omega) (by omega) h5 hN;rw[<-ea,<-eb]at this;simp only[];exact this.of rfl rfl
  .exact h.elim
 .obtain⟨rfl,rfl⟩:=h;exact⟨λN hN=>(avu ab _ hN).of rfl rfl,λ_ h=>h⟩
 .exact h.elim
structure KD where
 k:Nat
 D:List (aG)
structure BD where
 b:Nat
 D:List (aG)
def t48(hc:qE dj dK 66 5)(hw:SWO (my dK))
  (D:List (aG)) (ab:bS) (r bG e:Nat) (eH:ab r=some (.bm bG e 5 D)) (cK:∀x∈D,dj x) (h4:D.length<=140737488355328)
  {N:Nat} (hN:∀r,N<=r->ab r=none):ce ak 116 [.aW r bG,.v (ti D.length),.v (.fn (.func 66) [])] ab ⟨True,.v (.dh []),dx ab r (.bm bG e 5 (dP (my dK) D))⟩:=by
 have bb:=arI hc hw (D.length+1);have kc:∀o k,N+1000<=k->dx ab r o k=none:=λo k hk=>fj eH (hN k (by omega));obtain⟨lt,cQ⟩:=aY (my dK:aG->aG->Bool);rw[cQ]at hw⊢;refine c48.Z1 hN (by simp) (iE ?_);rw[oG eH];simp;obtain⟨n,hn⟩:=aY D.length;obtain⟨RR,Ts⟩:=aY (dP lt D);have same:∀D':List (aG),dP lt D'=RR->(∀x∈D',dj x)/\D'.length=n:=by
  intro D' h;refine⟨λx hx=>cK x ?_, ?_⟩
  .have:x∈dP lt D':=by simpa using hx
   rw[h,<-Ts]at this;simpa using this
  .have:=gO (lt:=lt) D';rw[h,<-Ts,gO]at this;omega
 have PU:∀(D':List (aG)) (a b:Nat),dP lt D'=RR->a<=b->dP lt (dG lt D' a b)=RR:=λD' a b h ik=>by rw[G6 hw ik,h]
 rw[hn,Ts];apply aa.ai bb fw [0,1,2,6];simp[Pt];apply aa.ai bb fw [0,1,2,6,7,8];simp[Pu];apply aa.seq;apply aa.block;refine aa.loop (λy:KD=>⟨DM.look [(0,.aW r bG),(1,.v (ti n)),(2,.v (.fn (.func 66) [])),(6,.v (ti 20)),(7,.v (ti ((20*y.k:Nat):Int))),(8,.v (ti ((20*y.k+20:Nat):Int)))],dx ab r (.bm bG e 5 y.D),N+1000,N,[]⟩)
  (λy=>20*y.k<=n/\dP lt y.D=RR/\yY lt y.D 20 (λj=>j<y.k)) (λy=>n-20*y.k) ⟨0,D⟩ ?_ ⟨by simp,Ts,λj hj=>by simp at hj⟩ (λy hy=>?_)
 .exact Le.same (kc _) (by simp)
 obtain⟨k,D1⟩:=y;obtain⟨hk,hs,hb⟩:=hy;simp only at hk hs hb⊢;obtain⟨g1,l1⟩:=same D1 hs;apply aa.seq;obtain⟨a,ha⟩:=aY (20*k);rw[ha]at hk⊢;apply aa.ai bb fw [0,1,2,6,7,8,13];simp[Ki];refine aa.cond rfl (λh=>?_) (λh=>?_)
 .simp at h;apply aa.skip;simp;apply aa.block;refine aa.fR bb fw (rs:=Ws) (.inr ⟨_,pV⟩) (by kernel_rfl) [0,1,2,6,8] ?_;simp[Ws,ST,k49,cQ];refine⟨⟨g1,by omega,by omega⟩, ?_⟩;apply aa.ai bb fw [0,1,2,6,7,8];simp[Wt];apply aa.cZ bb fw [0,1,2,6,7,8];simp[aoK];refine⟨⟨k+1,dG lt D1 a (a+20)⟩, ?_,⟨by simp only;omega,PU _ _ _ hs (by omega),λj hj=>?_⟩,by simp only;omega⟩
  .have:((a:Int)+20).toNat=a+20:=by omega
   simp only[this];refine Le.same (kc _) ?_;simp;rw[av (by omega)];omega
  .simp only at hj;by_cases e:j=k
   .subst e;rw[show j*20=a by omega,kV (by omega) (by omega)];exact fq hw _
   .rw[iF (by omega) (by omega) (.inl (by omega))];exact hb j (by omega)
 simp at h;apply aa.exit;simp;refine aa.fR bb fw (rs:=Hz) (.inr ⟨_,pV⟩) (by kernel_rfl) [0,1,2,6] ?_;simp[Hz,ST,k49,cQ];refine⟨⟨g1,by omega,by omega⟩, ?_⟩;obtain⟨D2,Z9⟩:=aY (dG lt D1 a n);rw[Z9];have Tk:dP lt D2=RR:=by rw[<-Z9];exact PU _ _ _ hs (by omega)
 have l2:D2.length=n:=(same D2 Tk).2;have jZ:yY lt D2 20 (λ_=>True):=by
  intro j _;by_cases e:j*20<a
  .rw[<-Z9,iF (by omega) (by omega) (.inl (by omega))];exact hb j (by omega)
  .by_cases e2:j*20=a
   .rw[e2,AA (by omega),<-AA (i:=a) (j:=n) (by omega),<-Z9,kV (by omega) (by omega)];exact fq hw _
   .have:eY D2 (j*20) (j*20+20)=[]:=oK (by simp;omega);rw[this];exact List.Pairwise.nil
 clear Z9 hb hs g1 l1;apply aa.block;refine aa.loop (λy:BD=>⟨DM.look [(0,.aW r bG),(1,.v (ti n)),(2,.v (.fn (.func 66) [])),(6,.v (ti y.b))],dx ab r (.bm bG e 5 y.D),N+1000,N,[]⟩)
  (λy=>0<y.b/\dP lt y.D=RR/\yY lt y.D y.b (λ_=>True)) (λy=>n-y.b) ⟨20,D2⟩ ?_ ⟨by simp,Tk,jZ⟩ (λy hy=>?_)
 .exact Le.same (kc _) (by simp)
 obtain⟨bs,D3⟩:=y;obtain⟨hbs,hs3,Eu⟩:=hy;simp only at hbs hs3 Eu⊢;obtain⟨g3,l3⟩:=same D3 hs3;apply aa.sq bb fw [0,1,2,6,30];simp[aet];refine aa.cond rfl (λh2=>?_) (λh2=>?_)
 .simp at h2;have w1:IntKind.i64.wrap (2*(bs:Int))=((2*bs:Nat):Int):=by rw[av (by omega)];omega
  apply aa.skip;simp;apply aa.block;apply aa.ai bb fw [0,1,2,6,7,8];simp[aoL,w1];apply aa.seq;apply aa.block;refine aa.loop (λy:KD=>⟨DM.look [(0,.aW r bG),(1,.v (ti n)),(2,.v (.fn (.func 66) [])),(6,.v (ti bs)),(7,.v (ti ((y.k*(2*bs):Nat):Int))),(8,.v (ti ((y.k*(2*bs)+2*bs:Nat):Int)))],dx ab r (.bm bG e 5 y.D),N+1000,N,[]⟩)
   (λy=>y.k*(2*bs)<=n/\dP lt y.D=RR/\yY lt y.D (2*bs) (λj=>j<y.k)/\yY lt y.D bs (λj=>y.k*(2*bs)<=j*bs)) (λy=>n-y.k*(2*bs)) ⟨0,D3⟩ ?_ ⟨by simp,hs3,λj hj=>by simp at hj,λj _=>Eu j trivial⟩ (λy hy=>?_)
  .exact Le.same (kc _) (by simp)
  obtain⟨k,D4⟩:=y;obtain⟨hk,hs4,hb4,hc4⟩:=hy;simp only at hk hs4 hb4 hc4⊢;obtain⟨g4,l4⟩:=same D4 hs4;have e2:2*k*bs=k*(2*bs):=by rw[Nat.mul_comm 2 k,Nat.mul_assoc]
  have e3:(2*k+1)*bs=k*(2*bs)+bs:=by rw[Fb,e2,ZcV]
  have hA:=hc4 (2*k) (by simp only;omega);have hB:=hc4 (2*k+1) (by simp only;omega);rw[e2]at hA;rw[e3]at hB;obtain⟨a,ha⟩:=aY (k*(2*bs));simp only[ha]at hk hA hB hc4⊢;apply aa.sq bb fw [0,1,2,6,7,8,35];simp[aoM];refine aa.cond rfl (λh3=>?_) (λh3=>?_)
  .simp at h3;have w2:IntKind.i64.wrap ((a:Int)+bs)=((a+bs:Nat):Int):=by rw[av (by omega)];omega
   apply aa.skip;simp;apply aa.block;refine aa.fR bb fw (rs:=Pv) (.inr ⟨_,pV⟩) (by kernel_rfl) [0,1,2,6,8] ?_;have tn:((a:Int)+2*(bs:Int)).toNat=a+2*bs:=by omega
   simp[Pv,ST,SG,cQ,w2,tn];refine⟨⟨g4,by omega,by omega,by omega,by omega,by omega,hA,by rw[show a+2*bs=a+bs+bs by omega];exact hB⟩, ?_⟩;apply aa.ai bb fw [0,1,2,6,7,8];simp[aha];apply aa.cZ bb fw [0,1,2,6,7,8];simp[ahb,w1];have e4:(k+1)*(2*bs)=a+2*bs:=by rw[Fb,ha,ZcV]
   refine⟨⟨k+1,dG lt D4 a (a+2*bs)⟩, ?_,⟨by simp only[e4];omega,PU _ _ _ hs4 (by omega),λj hj=>?_,λj hj=>?_⟩,by simp only[e4];omega⟩
   .simp only[];refine Le.same (kc _) ?_;have e4':((k:Int)+1)*(2*(bs:Int))=(a:Int)+2*bs:=by exact_mod_cast e4
    simp[e4'];rw[av (by omega)]
   .simp only at hj;by_cases e:j=k
    .subst e;rw[ha,kV (by omega) (by omega)];exact fq hw _
    .have:=yZ (bs:=2*bs) (show j<k by omega);rw[iF (by omega) (by omega) (.inl (by omega))];exact hb4 j (by simp only;omega)
   .simp only[e4]at hj;rw[iF (by omega) (by omega) (.inr (by omega))];exact hc4 j (by simp only;omega)
  .simp at h3;apply aa.exit;simp;have w2:IntKind.i64.wrap ((a:Int)+bs)=((a+bs:Nat):Int):=by rw[av (by omega)];omega
   apply aa.sq bb fw [0,1,2,6,7,9];simp[ahc,w2];apply aa.ai bb fw [0,1,2,6,7,9,54];simp[ahd];obtain⟨D5,hD5⟩:=aY ((if a+bs<n then dG lt D4 a n else D4));have hs5:dP lt D5=RR:=by
    rw[<-hD5];split
    .exact PU _ _ _ hs4 (by omega)
    .exact hs4
   have l5:D5.length=n:=(same D5 hs5).2;have hb5:yY lt D5 (2*bs) (λ_=>True):=by
    intro j _;by_cases e:j<k
    .have:=yZ (bs:=2*bs) e;rw[<-hD5];split
     .rw[iF (by omega) (by omega) (.inl (by omega))];exact hb4 j e
     .exact hb4 j e
    .by_cases e5:j=k
     .subst e5;rw[ha,AA (by omega)];rw[<-AA (i:=a) (j:=n) (by omega),<-hD5];split
      .rw[kV (by omega) (by omega)];exact fq hw _
      .rw[AA (by omega),<-AA (i:=a) (j:=a+bs) (by omega)];exact hA
     .have:=yZ (bs:=2*bs) (show k<j by omega);have:eY D5 (j*(2*bs)) (j*(2*bs)+2*bs)=[]:=oK (by simp;omega);rw[this];exact List.Pairwise.nil
   refine aa.to ⟨DM.look [(0,.aW r bG),(1,.v (ti n)),(2,.v (.fn (.func 66) [])),(6,.v (ti bs))],dx ab r (.bm bG e 5 D5),N+1000,N,[]⟩ ?_ ?_
   .refine aa.cond rfl (λh5=>?_) (λh5=>?_)
    .simp at h5;refine aa.rP bb fw (rs:=Pw) (.inr ⟨_,pV⟩) (by kernel_rfl) [0,1,2,6] ?_;have tn:((a:Int)+(bs:Int)).toNat=a+bs:=by omega
     simp[Pw,ST,SG,cQ,tn];refine⟨⟨g4,by omega,by omega,by omega,by omega,by omega,hA, ?_⟩, ?_⟩
     .rw[AA (by omega),<-AA (i:=a+bs) (j:=a+bs+bs) (by omega)];exact hB
     .rw[ee (by omega)]at hD5;rw[hD5];exact Le.same (kc _) (by simp)
    .simp at h5;rw[iK (by omega)]at hD5;rw[hD5];refine aa.skip ⟨rfl, ?_⟩;exact Le.same (kc _) (by simp)
   .simp;apply aa.cZ bb fw [0,1,2,6];simp[ahe];refine⟨⟨2*bs,D5⟩, ?_,⟨by simp only;omega,hs5,hb5⟩,by simp only;omega⟩;refine Le.same (kc _) ?_;simp;rw[av (by omega)];omega
 .simp at h2;have:D3=RR:=by
   rw[<-hs3];refine(jg hw ?_).symm;have:=Eu 0 trivial;rw[ZcH,Ow,AA (by omega),ZcJ]at this;exact this
  apply aa.exit;simp[wJ,this]
end
section
variable{dj:aG->Prop}{dK:aG->aG->Int}
def avv(hc:qE dj dK 66 5)(hw:SWO (my dK))(ab:bS)(f:Nat){N:Nat}(hN:∀r,N<=r->ab r=none):
  ce ak 116 [.aZ,.v (ti 0),.v (.fn (.func f) [])] ab ⟨True,.v (.dh []),ab⟩:=by
 have bb:=arI hc hw 0;have kc:∀k,N+1000<=k->ab k=none:=λk hk=>hN k (by omega);refine c48.Z1 hN (by simp) (iE ?_);simp;apply aa.ai bb fw [0,1,2,6];simp[Pt];apply aa.ai bb fw [0,1,2,6,7,8];simp[Pu];apply aa.seq;apply aa.block;refine aa.loop (λy:Nat=>⟨DM.look [(0,.aZ),(1,.v (ti 0)),(2,.v (.fn (.func f) [])),(6,.v (ti 20)),(7,.v (ti 0)),(8,.v (ti 20))],ab,N+1000,N,[]⟩) (λ_=>True) (λ_=>0) 0 (Le.same kc (by simp)) trivial (λy hy=>?_);apply aa.sq bb fw [0,1,2,6,7,13];simp[Ki];refine aa.cond rfl (λh=>by cases h) (λ_=>?_);apply aa.exit;simp;refine aa.fR bb fw (rs:=Hz) (.inr ⟨_,pV⟩) (by kernel_rfl) [1,6] ?_;simp[Hz,ST,k49];apply aa.block;refine aa.loop (λy:Nat=>⟨DM.look [(1,.v (ti 0)),(6,.v (ti 20))],ab,N+1000,N,[]⟩) (λ_=>True) (λ_=>0) 0 (Le.same kc (by simp)) trivial (λy hy=>?_);apply aa.sq bb fw [30];simp[aet];refine aa.cond rfl (λh=>by cases h) (λ_=>?_);apply aa.exit;simp[wJ]
def In(dj:aG->Prop)(dK:aG->aG->Int):bW->bS->iw
 |[.aW r bG,.v (.int .i64 n),.v (.fn (.func c) cz)],ab=>match ab r with
  |some (.bm bM e sz D)=>⟨bG=bM/\sz=5/\c=66/\cz=[]/\(∀x∈D,dj x)/\n=D.length/\D.length<=140737488355328,
    .v (.dh []),dx ab r (.bm bG e 5 (dP (my dK) D))⟩
  |_=>⟨False,.undef,ab⟩
 |[.aZ,.v (.int .i64 n),.v (.fn (.func c) cz)],ab=>⟨n=0/\cz=[],.v (.dh []),ab⟩
 |_,ab=>⟨False,.undef,ab⟩
def arJ(hc:qE dj dK 66 5)(hw:SWO (my dK)):aw ak (bz [(116,fl (In dj dK))]):=by
 refine aw.il aw.nil ?_;intro args ab h;unfold In at h⊢;split at h
 .split at h
  .rename_i c cz _ bM e sz D eH;obtain⟨rfl,rfl,rfl,rfl,h1,rfl,h5⟩:=h;refine⟨λN hN=>?_,λk hk=>fj eH hk⟩;simp only[eH];exact(t48 hc hw D ab _ _ e eH h1 h5 hN).of rfl rfl
  .exact h.elim
 .obtain⟨rfl,rfl⟩:=h;exact⟨λN hN=>(avv hc hw ab _ hN).of rfl rfl,λ_ h=>h⟩
 .exact h.elim
def k35(dj:aG->Prop)(dK:aG->aG->Int):bW->bS->iw
 |[.aW r bG,.v (.fn (.func c) cz)],ab=>match ab r with
  |some (.bm bM e sz D)=>⟨bG=bM/\sz=5/\c=66/\cz=[]/\(∀x∈D,dj x)/\D.length<=140737488355328,
    .v (.dh []),dx ab r (.bm bG e 5 (dP (my dK) D))⟩
  |_=>⟨False,.undef,ab⟩
 |[.aZ,.v (.fn (.func c) cz)],ab=>⟨cz=[],.v (.dh []),ab⟩
 |_,ab=>⟨False,.undef,ab⟩
def t35(hc:qE dj dK 66 5)(hw:SWO (my dK))(D:List (aG))(ab:bS)(r bG e:Nat)(eH:ab r=some (.bm bG e 5 D))(cK:∀x∈D,dj x)(h4:D.length<=140737488355328)
  {N:Nat} (hN:∀r,N<=r->ab r=none):ce ak 65 [.aW r bG,.v (.fn (.func 66) [])] ab ⟨True,.v (.dh []),dx ab r (.bm bG e 5 (dP (my dK) D))⟩:=by
 have bb:=arJ hc hw;refine c35.Z1 hN (by simp) (iE ?_);rw[oG eH];simp;refine aa.rP bb fw (rs:=Hx) (.inr ⟨_,pV⟩) (by kernel_rfl) [] ?_;simp[Hx,In,wI];exact⟨cK,h4⟩
def avw(hc:qE dj dK 66 5)(hw:SWO (my dK))(ab:bS)(f:Nat){N:Nat}(hN:∀r,N<=r->ab r=none):ce ak 65 [.aZ,.v (.fn (.func f) [])] ab ⟨True,.v (.dh []),ab⟩:=by
 have bb:=arJ hc hw;refine c35.Z1 hN (by simp) (iE ?_);simp;refine aa.rP bb fw (rs:=Hx) (.inr ⟨_,pV⟩) (by kernel_rfl) [] ?_;simp[Hx,In,wI]
def auD(hc:qE dj dK 66 5)(hw:SWO (my dK)){l:List (Nat×DM.Spec)}(h:aw ak (bz l)):aw ak (bz ((65,fl (k35 dj dK))::l)):=by
 refine aw.il h ?_;intro args ab h;unfold k35 at h⊢;split at h
 .split at h
  .rename_i c cz _ bM e sz D eH;obtain⟨rfl,rfl,rfl,rfl,h1,h5⟩:=h;refine⟨λN hN=>?_,λk hk=>fj eH hk⟩;simp only[eH];exact(t35 hc hw D ab _ _ e eH h1 h5 hN).of rfl rfl
  .exact h.elim
 .subst h;exact⟨λN hN=>(avw hc hw ab _ hN).of rfl rfl,λ_ h=>h⟩
 .exact h.elim
end
end Go.Proofs.It
