/- A part. Conditions: none. -/
import Derived.Test.YtnhpkhblghgpdaaGreatDoorXab
import Derived.Shelf.SlSortCmp.NoneTotal
import Derived.ChangeArms
import Derived.ChangeStays
import Derived.ChangeSame
import Derived.RowKit
import Derived.OpenShut
import Derived.Test.YtnhpkhblghgpdaaGreatDoorProg
import Derived.KernelRfl
set_option linter.all false
set_option maxRecDepth 100000
set_option maxHeartbeats 8000000
namespace Go.DM
open Go.RowKit
section
variable{ab:bw}{r:Nat}{P:Program}
variable [bM] [dM]
abbrev tI(n:Int):T:=.int .i64 n
abbrev pw(k:Nat):Type:={l:bU//l.length=k}
instance(k:Nat):Inhabited (pw k):=⟨⟨List.replicate k 0,by simp⟩⟩
def rW{k:Nat}(x:pw k):List Value:=x.1.map (Value.int .i64)
def jn{k:Nat}(x:pw k):aL:=x.1.map tI
def XM{w w':World}(h:wN w.heap.size w w'):∃q os',w'=Go.Sort.grow (w.drewN q) os':=by
 refine⟨w'.drawn-w.drawn,w'.heap.extract w.heap.size w'.heap.size, ?_⟩;obtain⟨⟨h1,h2,h3,h4,h5⟩,h6⟩:=h;cases w with
 |mk heap tape drawn os output=>
  cases w' with
  |mk aaB avx atW os' aty=>
   simp only at h1 h2 h3 h4 h5 h6;subst h1 h2 h3;simp only[Go.Sort.grow,World.drewN,World.mk.injEq,D7,qI];refine⟨?_,by omega⟩;apply Array.ext_getElem?;intro k;rw[Array.getElem?_append];split
   ·rename_i hk;exact h5 k hk
   ·rename_i hk;rw[Array.getElem?_extract];split
    ·rw[show heap.size+(k-heap.size)=k by omega]
    ·rename_i h7;rw[Array.getElem?_eq_none (by omega)]
def wr{w:World}{W:fI}:∀l:bU,bl w W (l.map tI) (l.map (Value.int .i64))
 |[]=>by simp[bl]
 |n::l=>by
  simp only[qD,bl];exact⟨_,_,rfl,rfl,by simp[bm],wr l⟩
def zq{w:World}{W:fI}:∀{l:bU} {vs:List Value},bl w W (l.map tI) vs->vs=l.map (Value.int .i64)
 |[],vs,h=>by simpa [bl]using h
 |n::l,vs,h=>by
  simp only[qD,bl]at h;obtain⟨v,jN,rfl,_,h1,h2⟩:=h;simp only[bm]at h1;rw[h1,zq h2];rfl
def Cy{α:Type}{sz:Nat}:∀{av:List (List α)} {j:Nat},(∀r∈av,r.length=sz)->av.flatten[j]? =(av[j/sz]?).bind λr=>r[j % sz]?
 |[],j,_=>by simp
 |r::av,j,h=>by
  have hr:=h r (by simp);by_cases hs:sz=0
  ·subst hs;have:∀x∈r::av,x=[]:=λx hx=>Zdt.1 (h x hx);have h2:(r::av).flatten=[]:=by
    rw[List.flatten_eq_nil_iff];exact this
   rw[h2];simp[this r (by simp)]
  rw[ZI,Zc5];split
  ·rename_i hj;rw[hr]at hj;rw[Nat.div_eq_of_lt hj,Zc0 hj];simp
  ·rename_i hj;rw[hr]at hj;rw[hr,Cy λx hx=>h x (by simp[hx])];obtain⟨i,rfl⟩:∃i,j=i+sz:=⟨j-sz,by omega⟩;rw[ZcQ,Nat.add_div_right i (by omega),Nat.add_mod_right];rw[JE]
def Fb{k:Nat}(D:List (pw k)):(Go.Sort.flatK rW k D.toArray).toList=((D.map (·.1)).flatten).map (Value.int .i64):=by
 have hl:∀r∈D.map (·.1),r.length=k:=by
  intro r hr;obtain⟨x,_,rfl⟩:=lq.1 hr;exact x.2
 have apl:(D.map (·.1)).flatten.length=D.length*k:=by
  clear hl;induction D with
  |nil=>simp
  |cons x D ih=>simp only[qD,ZI,Eu,x.2,ih,w9,Za];omega
 apply ZbZ;intro j;by_cases hj:j<D.length*k
 ·have Dd:0<k:=by
   cases k with
   |zero=>simp at hj
   |succ k=>omega
  have h1:j/k<D.length:=Nat.div_lt_of_lt_mul (by rwa [Nat.mul_comm]);have h2:j % k<k:=Nat.mod_lt _ Dd;have ji:j<(Go.Sort.flatK rW k D.toArray).size:=by simpa using hj
  rw[ZbG,Cy hl,ZbG,xb h1];simp only[O6,ZcI];have h3:=Go.Sort.get_flatK rW k D.toArray j (by simpa using hj);rw[Zb6,ZbP ji];rw[getElem!_pos _ j ji]at h3;rw[h3];have h4:D.toArray[j/k]! =D[j/k]:=by rw[getElem!_pos _ _ (by simpa using h1)];simp
  rw[h4];have h5:j % k<(D[j/k]).1.length:=by rw[(D[j/k]).2];exact h2
  unfold rW;rw[getElem!_pos _ _ (by simpa using h5)];simp[h5]
 ·rw[ZbB (by simpa using hj),ZbB (by rw[XN,apl];omega)]
def H4{k:Nat}(D:List (pw k)):(D.map jn).flatten=((D.map (·.1)).flatten).map tI:=by
 induction D with
 |nil=>rfl
 |cons x D ih=>simp only[qD,ZI,ih,Pv];rfl
def P2{o:Ob}(h:ab r=some o):eJ ab r o=ab:=by
 funext k;rw[P3];split
 ·rename_i e;rw[e,h]
 ·rfl
def aaC{g:FuncId}{k:Nat}{x y:pw k}{c:Int}(hg: @bu bM.none P g [.agg (jn x),.agg (jn y)] (tI c))(w:World):
  Calls P g (#[.agg (rW x).toArray,.agg (rW y).toArray]++ #[]) w λe w'=>e=.returned (.int .i64 c)/\∃q os',w'=Go.Sort.grow (w.drewN q) os':=by
 rw[ZbV];refine(@bu.agA bM.none Sg P g _ _ hg w #[.agg (rW x).toArray,.agg (rW y).toArray] (Hg.empty _ _) ?_).mono ?_
 ·show ga w (λ_=>False) [.agg (jn x),.agg (jn y)] [.agg (rW x).toArray,.agg (rW y).toArray];simp only[ga];exact⟨_,_,rfl,⟨_,rfl,wr x.1⟩,_,_,rfl,⟨_,rfl,wr y.1⟩,rfl⟩
 ·rintro e' w' ⟨v,rfl,hb,hv⟩;simp only[bm]at hv;subst hv;exact⟨rfl,XM hb⟩
def Cz{k:Nat}(cf:pw k->pw k->Int)(D:List (pw k)):List (pw k):=D.mergeSort λx y=> !(Go.Proofs.ltOf cf) y x
open Go.Proofs Go.Sort in
def Mr{ρ:Go.Shelf.Ren}(Lay:SlLaysF0.n6 P ρ){k:Nat}(hk:0<k)(aE:∀w,(isAgg (ρ.t 24)).run P w=.ok true w)(zE:∀w,(Go.sizeOf (ρ.t 24)).run P w=.ok k w)
  {g:FuncId} {cf:pw k->pw k->Int} (hg:∀x y:pw k, @bu bM.none P g [.agg (jn x),.agg (jn y)] (tI (cf x y))) (hO:Go.Sort.SWO (ltOf cf)) (hT:∀x y,(ltOf cf) x y=false->(ltOf cf) y x=false->x=y)
  (D:List (pw k)) {bI e:Nat} (gP:ab r=some (.bE bI e k (D.map jn))) (dN:D.length<4611686018427387904):
  aQ P (ρ.f 6) [.bC r bI,.v (.fn (.func g) [])] ab ⟨True,.v (.eB []),eJ ab r (.bE bI e k ((Cz cf D).map jn))⟩:=by
 have eg:∀args w,(callFunc g args).run P w=.ok (.enter g args) w:=by
  obtain⟨fn,h1,h2,h3⟩:= @bu.entry bM.none _ _ _ _ (hg default default);cases hb:fn.body with
  |none=>rw[hb]at h3;cases h3
  |some c=>exact enters_of h1 (by simpa using h2) hb
 refine⟨?_,λbase W M w0 w L cI hRO hr=>?_⟩
 ·obtain⟨nm,hn,hf⟩:=Lay.f6;exact⟨_,hf,by simpa using hn,rfl⟩
 obtain⟨tw,y6⟩:=hr;obtain⟨x,f,yR⟩:∃x f,cI.toList=[x,f]:=by
  match yR:cI.toList,tw with
  |[x,f],_=>exact⟨x,f,rfl⟩
 have apm:cI= #[x,f]:=Array.ext' (by simpa using yR);subst apm;have hx:=y6 0 _ x rfl rfl;have hf:=y6 1 _ f rfl rfl;simp only[aA,bm]at hf;obtain⟨cv,rfl,hcv⟩:=hf;have hcv:cv= #[]:=by
  simp only[bl]at hcv;exact Array.ext' (by simpa using hcv)
 subst hcv;simp only[aA]at hx;obtain⟨_,cw,e',jh,fc,apn,P4,Dz⟩:=hx;rw[gP]at apn;cases apn;have Dz:=Dz rfl;subst Dz;obtain⟨ji,eQ,hm,oQ⟩:=hRO.ob r _ gP;have wO:(Cz cf D).length=D.length:=List.length_mergeSort ..;rcases oQ with⟨Mh,a,ha⟩|⟨g',cap,eH,hv,hp,hh,jW,tp,I9,ig⟩
 ·rw[ha];refine(AnyF.slices_SortFunc_none Lay a 0 _ w).mono ?_;rintro e' w' ⟨rfl,rfl⟩;have hD:D=[]:=by simpa using Mh
  subst hD;have hs:Cz cf []=[]:=by simp[Cz]
  rw[hs,P2 gP];exact⟨_,L,rfl,hRO,ic.cZ (du.refl _ _),by simp[aA,bm,ga]⟩
 ·rw[hv];have hgl:g'<w.heap.size:=(wb.1 hh).1;rw[H4]at ig;have nI:=zq ig;rw[<-Fb]at nI;have alY:∀j,w.cell? ⟨g',j,none⟩=eH[j]? :=by
   intro j;simp only[World.cell?,hh];rfl
  have hH:HoldsK rW k w g' 0 D.toArray:=by
   intro j hj;refine⟨?_, ?_⟩
   ·rw[Lm,alY];have h1:=congrArg (λl:List Value=>l[j]?) nI;have hj2:j<(D.map jn).length*k:=by simpa using hj
    rw[HO,cF hj2,Zb6,Zb6,ZbP hj]at h1;rw[h1,getElem!_pos _ j hj];rfl
   ·simp only[World.frozen?,hh];simp
  have apo:CmpLays P g #[] rW k cf g' 0 D.toArray.size w:=by
   intro m os dk hdk x y;obtain⟨w1,Zh⟩:=be (sortWorldK rW k w g' 0 m dk os);rw[Zh];exact aaC (hg x y) w1
  have tA:=AnyQ.slices_SortFunc_total Lay k aE zE rW (λx=>by simp[rW,x.2]) (λx v hv=>by
   simp only[rW,lq]at hv;obtain⟨n,_,rfl⟩:=hv;rfl) cf hO g #[] g' 0 cap D.toArray w eg apo hH hgl (by simpa using dN) hT
  rw[show(D.map jn).length=D.toArray.size by simp];refine tA.mono ?_;rintro e' w' ⟨rfl,n,os,rfl⟩;refine⟨_,L,rfl, ?_⟩;obtain⟨S,hS⟩:=be (Cz cf D);have O7:(D.toArray.toList.mergeSort λx y=> !(ltOf cf) y x).toArray=S.toArray:=by rw[<-hS];rfl
  rw[O7];rw[hS]at wO⊢;obtain⟨F,hF⟩:=be (flatK rW k S.toArray);have hFs:F.size=D.length*k:=by rw[<-hF];simp[wO]
  have hFl:F.toList=((S.map (·.1)).flatten).map (Value.int .i64):=by rw[<-hF];exact Fb S
  have oT:(D.map jn).length*k<=eH.size:=by rw[I9];exact Zbu k jW
  have avF:D.length*k<=eH.size:=by simpa using oT
  have aaD:∀b:Nat,b<w.heap.size->(sortWorldK rW k w g' 0 n S.toArray os).heap[b]? =if b=g' then some (.cells (Go.Sort.putCells id 0 F eH) e (0,0))else w.heap[b]? :=by
   intro b hb;have gm:b<(putRowK rW k (Go.Sort.ahead w n) g' 0 S.toArray).heap.size:=by
    simp[Go.Sort.putRowK,Go.Sort.putRow,Go.Sort.mapBlock,Go.Sort.ahead,hb]
   simp only[sortWorldK,Go.Sort.grow];rw[Zdk gm];simp only[putRowK,Go.Sort.putRow,Go.Sort.mapBlock,Go.Sort.ahead,hF,Array.getElem?_modify];by_cases e1:b=g'
   ·subst e1;rw[cF rfl,cF rfl,hh];rfl
   ·rw[aY (λh=>e1 h.symm),aY e1]
  have xd:w.heap.size<=(sortWorldK rW k w g' 0 n S.toArray os).heap.size:=by
   simp[sortWorldK,Go.Sort.grow,putRowK,Go.Sort.putRow,Go.Sort.mapBlock,Go.Sort.ahead]
  have iN:L.own r (.bE bI e k (D.map jn))=some g':=by simp[Loc.own,hv,bi,Hi.1 hp]
  have pV:∀j,(Go.Sort.putCells id 0 F eH)[j]? =if j<F.size then F[j]? else eH[j]? :=by
   intro j;simp only[Go.Sort.putCells,Array.getElem?_mapIdx];by_cases hj:j<F.size
   ·rw[cF hj,ZbP (show j<eH.size by omega),ZbP hj];simp[hj]
   ·rw[aY hj];cases eH[j]? with
    |none=>rfl
    |some v=>simp;intro h;omega
  have w8:Fr base M w0 (sortWorldK rW k w g' 0 n S.toArray os):=by
   refine hRO.fr.trans ⟨rfl,rfl,rfl,xK hRO.fr.jO hRO.fr.size,xd,λb hb Jf=>?_,by simp[sortWorldK,Go.Sort.grow,putRowK,Go.Sort.putRow,Go.Sort.mapBlock,Go.Sort.ahead]⟩;have hbw:b<w.heap.size:=ZbJ hb (xK hRO.fr.jO hRO.fr.size);rw[aaD b hbw,aY];rintro rfl;rcases hm b (by simp[hv,bi,Hi.1 hp])with h|h
   ·omega
   ·exact Jf h
  have XK:=cC.put (r:=r) (o':=.bE bI e k (S.map jn)) (L':=L) hRO w8 xd (λ_ _=>⟨rfl,rfl⟩) rfl
   (λb hb bZ=>by rw[aaD b hb,aY];rintro rfl;exact bZ _ gP iN)
   (λb hb=>.inl ⟨_,gP,hb⟩) (λo' iV uV=>by rw[gP]at iV;cases iV;exact eA rfl uV)
   (λcw e' jh fc h=>by rw[gP]at h;cases h;exact⟨bI,e,k,_,rfl,fq _,λ_=>⟨rfl,rfl,by simp[wO]⟩⟩)
   (λfu=>by
    refine⟨ji,λx hx=>?_,hm,.inr ⟨g',cap,Go.Sort.putCells id 0 F eH,by rw[hv];simp[wO],hp,by rw[aaD g' hgl,cF rfl],by simpa [wO]using jW,tp,by simpa [Go.Sort.putCells]using I9, ?_⟩⟩
    ·obtain⟨y,_,rfl⟩:=lq.1 hx;simp[jn,y.2]
    ·rw[H4];have e1:(Go.Sort.putCells id 0 F eH).toList.take ((S.map jn).length*k)=((S.map (·.1)).flatten).map (Value.int .i64):=by
      rw[<-hFl];apply ZbZ;intro j;rw[HO,XN,wO,Zb6,Zb6,pV,hFs];by_cases hj:j<D.length*k
      ·simp[hj]
      ·rw[aY hj,Array.getElem?_eq_none (by omega)]
     rw[e1];exact wr _)
  rw[show cN ab (some (r,.bE bI e k (S.map jn)))=eJ ab r (.bE bI e k (S.map jn))from rfl]at XK;exact⟨XK.1,XK.2,by simp[aA,bm,ga]⟩
end
end Go.DM
namespace Go.DM
open Go.RowKit
variable [bM] [dM]
section
variable{P:Program}{nt:Nat}{Γ:pk}{Q:Exit->ma->Prop}{tm:dn}{ob:bw}{aK low:Nat}{td:List (aL)}
def MF(P:Program)(Γ:pk)(aK:Nat)(r:RO)(s:RS)(K:RS->Prop):Prop:=
 (s.ab (nm aK r)=none/\cT Γ aK r s/\K (g0 Γ aK r s))\/
 (∃f args dst af N N' oW,r=⟨.call f args,dst,none,af,none⟩/\tP P f (args.map (·.ev s.tmps)) s.ab N N' oW/\∀val mG,oW val mG->K ⟨c5 s.tmps dst val,mG,s.todo⟩)
def MF.of{r:RO}{s:RS}{K:RS->Prop}(h:s.ab (nm aK r)=none)(e:fj Γ aK [r] s K):MF P Γ aK r s K:=
 .inl ⟨h,by obtain⟨h1,h2⟩:=jm _ _ _ e;exact⟨h1.1,h2⟩⟩
def wQ(D:Nat->Bool)(i:Nat):Nat->Bool:=λj=>if j=i then true else D j
def aa.apF(aC:ay P Γ)(hm:P.follows .mixedOrders=true){iX:Bool}{rs:ai}{d:DC}(hd:d=.region iX (rs.map bare))(Jy:rs.all (mi nt)=true)(ks:cQ)(N':Nat)(I:(Nat->Bool)->RS->Prop)
  (h0:(∀t,aK<=t->ob t=none)->I (λ_=>false) ⟨tm,ob,td⟩)
  (hs:∀D i r s,rs[i]? =some r->D i=false->(∀e∈r.after,D e=true)->(∀j y,rs[j]? =some y->D j=true->∀e∈y.after,D e=true)->I D s->MF P Γ aK r s (I (wQ D i)))
  (he:∀D s,(∀i,i<rs.length->D i=true)->I D s->(∀t,N'<=t->s.ab t=none)/\Q .normal ⟨look (lU ks s.tmps),s.ab,N',low,s.todo⟩)
  (apG:iX=true):aa P nt d Q ⟨tm,ob,aK,low,td⟩:=by
 subst hd apG;refine⟨λc hc=>?_⟩;obtain⟨id,ops,rfl,oT,aN⟩:=nJ hc;have al6:gb P ops=some (rs.map bare):=oT;obtain⟨dN,mF⟩:=j9 al6;simp only[eE,mD,ZcJ,Bool.false_or]at aN;obtain⟨⟨eF,Xt⟩,Lt⟩:=aN;obtain⟨ef,_⟩:=EV Lt
 let g:Nat->RO:=λi=>(rs[i]?).getD ⟨.sh (.ia .undef),none,none,[],none⟩
 have gg:∀i,i<ops.size->rs[i]? =some (g i):=λi hi=>by
  have:i<rs.length:=by omega
  simp[g,this]
 have hgc:∀(i:Nat) (o:Oper),ops[i]? =some o->eC P ops o=some (bare (g i)):=λi o ho=>by
  obtain⟨r,h1,h2⟩:=mF i o ho;have hi:i<ops.size:=(wb.1 ho).1;rw[gg i hi]at h1;rw[Zb8 h1];exact h2
 have kr:∀i,i<ops.size->mi nt (g i)=true:=λi hi=>by
  exact NS.1 Jy _ (xN (gg i hi))
 have A8:∀(i:Nat) (listed:Array Bool),i∈Region.ready .any ops listed↔listed.getD i true=false/\i<ops.size/\∀e∈(g i).after,listed.getD e false=true:=by
  intro i listed;rw[mem_ready];constructor
  ·rintro⟨h0,o,ho,h⟩;refine⟨h0,(wb.1 ho).1,λe he=>?_⟩;have h4:(g i).after=_:=(gh (hgc i o ho)).2.2.2;rw[h4]at he;simp only[lq,Sv]at he;obtain⟨x,⟨hx,hb⟩,rfl⟩:=he;exact h x (by simpa using hx) hb
  ·rintro⟨h0,hi,h⟩;have ho:ops[i]? =some ops[i]:=by simp[hi]
   refine⟨h0,ops[i],ho,λe he hb=>h e.on ?_⟩;have h4:(g i).after=_:=(gh (hgc i _ ho)).2.2.2;rw[h4];exact lq.2 ⟨e,Sv.2 ⟨by simpa using he,hb⟩,rfl⟩
 have aeQ:∀i,i<ops.size->∀e∈(g i).after,e<i:=λi hi e he=>ef i (bare (g i)) (by rw[ZbG,gg i hi];rfl) e he;intro n κ XA w L xk r;have x6:∀t,aK<=t->ob t=none:=λt ht=>r.fresh t ht;have aeR:∀{l:Array Bool} {i j:Nat} {b:Bool},l.size=ops.size->i<ops.size->(l.setIfInBounds i true).getD j b=if j=i then true else l.getD j b:=λ{l i j b} hs hi=>by
  rw[O2,Zcd,O2];by_cases e:j=i
  ·subst e;simp[hs,hi]
  ·have:¬i=j:=λh=>e h.symm;simp[e,this]
 have HV:∀i (hi:i<ops.size),ops[i]? =some ops[i]:=λi hi=>by simp[hi]
 have main:∀(A7:Nat) (l:Array Bool),l.size=ops.size->(rem ops.size l).length=A7->(∀j,j<ops.size->l.getD j false=true->∀e∈(g j).after,l.getD e false=true)->∀(s:RS) (a:Act) (w:World) (L:Loc),I (λj=>l.getD j false) s->eW κ nt s a w L->
   wpAnyIn (iZ κ.ro) n P .any ops (λe a w=>∃dx L',Q e dx/\H0 κ nt dx a w L') A7 l a w:=by
  intro A7;have cj:∀(l:Array Bool),l.size=ops.size->Region.ready .any ops l=[]->∀(s:RS) (a:Act) (w:World) (L:Loc),I (λj=>l.getD j false) s->eW κ nt s a w L->∃dx L',Q .normal dx/\H0 κ nt dx a w L':=by
   intro l hl hr s a w L hI hR;have eF:∀i,i<ops.size->l.getD i false=true:=by
    intro i;induction i using Nat.strongRecOn with
    |_ i ih=>
     intro hi;cases hv:l.getD i false with
     |true=>rfl
     |false=>
      have:i∈Region.ready .any ops l:=(A8 i l).2 ⟨by rw[<-aaN (by omega) false true];exact hv,hi,λe he=>ih e (aeQ i hi e he) (by have:=aeQ i hi e he;omega)⟩;rw[hr]at this;cases this
   obtain⟨w8,hQ⟩:=he _ s (λi hi=>eF i (by omega)) hI;obtain⟨L4,R4⟩:=Le.vA (st:=⟨s.tmps,s.ab,N',low,s.todo⟩) (lG s.tmps ks) κ nt a w L ⟨hR,w8,r.low,r.it⟩;exact⟨_,L4,hQ,R4⟩
  induction A7 with
  |zero=>
   intro l hl ama aV s a w L hI hR;have aaR:Region.ready .any ops l=[]:=by
    cases hr:Region.ready .any ops l with
    |nil=>rfl
    |cons i t=>
     have hi:i∈Region.ready .any ops l:=by rw[hr];simp
     obtain⟨h1,h2,_⟩:=(A8 i l).1 hi;have:i∈rem ops.size l:=by unfold rem;rw[Sv];exact⟨Pi.2 h2,by rw[h1];rfl⟩
     rw[Zdt.1 ama]at this;cases this
   exact⟨aaR,cj l hl aaR s a w L hI hR⟩
  |succ A7 ih=>
   intro l hl ama aV s a w L hI hR;refine⟨λhr=>cj l hl hr s a w L hI hR,λi hi=>?_⟩;obtain⟨h1,h2,h3⟩:=(A8 i l).1 hi;have Lq:l.getD i false=false:=by rw[aaN (by omega) false true];exact h1
   have hl':(l.setIfInBounds i true).size=ops.size:=by simpa using hl
   have agJ:(rem ops.size (l.setIfInBounds i true)).length=A7:=by
    have key:∀m,m<=ops.size->((List.range m).filter λj=> !(l.setIfInBounds i true).getD j true).length+(if i<m then 1 else 0)=((List.range m).filter λj=> !l.getD j true).length:=by
     intro m;induction m with
     |zero=>intro _;simp
     |succ m ihm=>
      intro hm;have:=ihm (by omega);rw[Hu,Y8,Y8,Eu,Eu];by_cases e:i=m
      ·subst e;have c1:(l.setIfInBounds i true).getD i true=true:=by rw[aeR hl h2];simp
       rw[aY (Nat.lt_irrefl i)]at this;rw[cF (Zcr i)];simp only[Sj,List.filter_nil,c1,h1,ZcJ,Bool.not_false,Lp,OV,jP,Zcz,w9];omega
      ·have c1:(l.setIfInBounds i true).getD m true=l.getD m true:=by rw[aeR hl h2,aY (λh=>e h.symm)]
       simp only[Sj,List.filter_nil,c1];obtain⟨X,hX⟩:=be ((if(!l.getD m true)=true then [m]else []).length);rw[hX];by_cases h:i<m
       ·rw[cF h]at this;rw[cF (by omega)];omega
       ·rw[aY h]at this;rw[aY (by omega)];omega
    have:=key ops.size (fq _);rw[cF h2]at this;unfold rem at ama⊢;omega
   have hD:(λj=>(l.setIfInBounds i true).getD j false)=wQ (λj=>l.getD j false) i:=by
    funext j;rw[aeR hl h2];rfl
   have apH:∀j,j<ops.size->(l.setIfInBounds i true).getD j false=true->∀e∈(g j).after,(l.setIfInBounds i true).getD e false=true:=by
    intro j hj hv e he;rw[aeR hl h2]at hv⊢;by_cases e1:j=i
    ·subst e1;split
     ·rfl
     ·exact h3 e he
    ·rw[aY e1]at hv;split
     ·rfl
     ·exact aV j hj hv e he
   rcases hs (λj=>l.getD j false) i (g i) s (gg i h2) Lq h3 (λj y hj hv e he=>by
     have hjs:j<ops.size:=by have:=(C7.1 hj).1;omega
     have:y=g j:=by rw[gg j hjs]at hj;exact(Zb8 hj).symm
     rw[this]at he;exact aV j hjs hv e he) hI with⟨hf,aN,hK⟩|⟨f,args,dst,af,N,N2,oW,hr,auf,hK⟩
   ·refine ow aC xk (HV i h2) (hgc i _ (HV i h2)) (kr i h2) hR hf aN λa' w' L' SR=>?_;exact ih _ hl' agJ apH _ a' w' L' (by rw[hD];exact hK) SR
   ·refine Fm xk (HV i h2) (by rw[hgc i _ (HV i h2),hr];rfl) (by rw[<-hr];exact kr i h2) hR auf λa' w' L' val mG hP SR=>?_;exact ih _ hl' agJ apH _ a' w' L' (by rw[hD];exact hK val mG hP) SR
 have hh:eW κ nt ⟨tm,ob,td⟩ XA {w with drawn:=w.drawn+1} L:=by
  have hb:wN w.heap.size w {w with drawn:=w.drawn+1}:=⟨⟨rfl,rfl,rfl,fq _,λ_ _=>rfl⟩,Zdy _⟩;obtain⟨W,base,M,w0,dK,h0⟩:=r.r.ex;obtain⟨hO,hA⟩:=cC.grow h0.o hb;obtain⟨Ds,h1,h2,h3,h4⟩:=r.r.defers;exact⟨⟨W,base,M,w0,dK,h0.size,λt=>aA.fu hA _ _ (h0.tmps t),hO⟩,r.r.fu.comp hA (dK.Ju _) dK.sub.2,⟨Ds,h1,h2,λD hD=>⟨hA.dG.Y9 D (h3 D hD).1,(h3 D hD).2⟩,h4⟩,r.r.bg,r.r.cj⟩
 have x7:∀i b,i<ops.size->(Array.replicate ops.size false).getD i b=false:=λi b hi=>by rw[O2];simp[hi]
 have hD0:(λj=>(Array.replicate ops.size false).getD j false)=λ_=>false:=by
  funext j;rw[O2];by_cases h:j<ops.size
  ·simp[h]
  ·simp[h]
 refine wpIn_region_any hm (main ops.size _ (by simp) ?_ (λj hj hv=>?_) _ _ _ _ (by rw[hD0];exact h0 x6) hh)
 ·have:rem ops.size (Array.replicate ops.size false)=List.range ops.size:=by
   unfold rem;rw[List.filter_eq_self];intro i hi;rw[x7 i true (Pi.1 hi)];rfl
  rw[this,Zcj]
 ·rw[x7 j false hj]at hv;cases hv
end
end Go.DM
namespace Go.DM
open Go.RowKit
section
variable{f:FuncId}
variable [bM]
def P8(k:bG->bw->fV):Prop:=∀args ab,(k args ab).ok->∀x,ab x=none->(k args ab).ab x=none
abbrev yk(l:Nat)(k:bG->bw->fV)(h:P8 k):dM:=⟨some (l,k),λl' k' e=>by cases e;exact h⟩
structure P9(P:Program)(f:FuncId)(args:bG)(ab:bw)(k:bG->bw->fV)(aJ:bw):Prop where
 entry:EG P f
 run:∀(l:Nat) (r s:Loop) (base:Nat) (W M:fI) (w0 w:World) (L:Loc) (cI:Array Value),Jt P l r s k base W M w0 ab L w->base<=l->w.heap[l]? =some (.loop r)->cC base W M w0 ab w L->j7 w W ab L args cI.toList->
  Calls P f (#[.func (.yield l) #[] #[]]++cI) w λe B=>(∃v,e=.returned v)/\∃L' r',(r'=r\/r'=s)/\cC base W M w0 aJ B L'/\ic W ab L (w.putObj l (.loop r')) aJ L' B
def aaO(l:Nat)(args:bG)(ab:bw)(N:Nat):ma:=⟨λj=>match j with|0=>.v (.pO (.func (.yield l) #[] #[]))|j+1=>Dc args[j]?,ab,N,N,[[]]⟩
section
variable{P:Program}{nt:Nat}
def aB.okY{d:DC}(h:aB P f nt d []){args:bG}{ab aJ:bw}{k:bG->bw->fV}(hnm:P8 k){N:Nat}(hN:∀r,N<=r->ab r=none)(dN:args.length+1<=nt)
  (kk:∀l, @aa _ (yk l k hnm) P nt d (λe st=>(e=.normal\/e=.ret)/\st.ab=aJ) (aaO l args ab N)):P9 P f args ab k aJ:=by
 have Ba:=h.entry;obtain⟨fn,tz,rfl,h3,hr,_⟩:=h;obtain⟨c,hb,hc⟩:=iU.1 h3;refine⟨Ba,λl rl sl base W M w0 w L cI hy P0 hlp hO C9=>?_⟩
 letI:=yk l k hnm
 have kk:=kk l;have hl:=C9.1;simp only[I0]at hl;have vy:H0 ⟨W,ab,L,w,base,M,w0,none,none,some (l,rl,sl)⟩ fn.ntmps (aaO l args ab N) {tmps:=(#[.func (.yield l) #[] #[]]++cI)++Array.replicate (fn.ntmps-(#[Value.func (.yield l) #[] #[]]++cI).size) Go.undef,defers:=[]} w L:=by
  refine⟨⟨⟨W,base,M,w0,⟨(λh=>by cases h),rfl,rfl,rfl,rfl⟩,by simp;omega,λj=>?_,hO⟩,
   (by
    show ic W ab L (w.putObj l (.loop rl)) ab L w;rw[World.vn hlp];exact ic.cZ (du.refl _ _)),⟨[],rfl,Zce,(λ_ h=>by cases h),λ_=>rfl⟩,λ_=>xK hO.fr.jO hO.fr.size,⟨N,hN⟩⟩,hN,hN,λh=>by cases h⟩
  simp only[aaO];cases j with
  |zero=>simp only[aA,bm];exact p8 (by simp)
  |succ j=>
   simp only;cases hk:args[j]? with
   |some x=>
    have hv:∃v,cI.toList[j]? =some v:=by
     have:j<cI.size:=by rw[hl];exact(C7.1 hk).1
     exact⟨cI[j],by simp[this]⟩
    obtain⟨v,hv⟩:=hv;have uw:(#[Value.func (.yield l) #[] #[]]++cI).toList[j+1]? =some v:=by simpa using hv
    simp only[p8 uw,Dc];exact C9.2 j x v hk hv
   |none=>
    have yQ:(#[Value.func (.yield l) #[] #[]]++cI).size<=j+1:=by
     have:=ZbQ.1 hk;simp;omega
    simp only[Dc,aA,pF yQ]
 refine callsIn_wide.1 (callsIn_of_wp_marks (n:=0) tz hb trivial ?_);refine wpIn_mono (kk.run c hc 0 _ _ _ _ ⟨λJ hJ=>(by cases hJ),λl' r' s' hY=>(by cases hY;exact⟨P0,hlp,k,rfl,hy⟩),λl hl=>(by cases hl)⟩ vy) ?_;rintro e a' w' ⟨dx,L',⟨he,hq⟩,r'⟩;have done:LeavesInM Fence.wide 0 P fn a'.tmps (λe B=>(∃v,e=.returned v)/\∃L' r',(r'=rl\/r'=sl)/\cC base W M w0 aJ B L'/\ic W ab L (w.putObj l (.loop r')) aJ L' B) a'.defers .returning w':=by
  obtain⟨Ds,h1,h2,h3,_⟩:=r'.r.defers;rw[h1];refine vx (κ:=⟨W,ab,L,w,base,M,w0,none,none,some (l,rl,sl)⟩) rfl ?_ Ds a' w' L' r'.r h1 h2 h3;intro a2 w2 L2 h4;obtain⟨W',Ml,M',w0',dK,h0⟩:=h4.ex;obtain⟨_,e1,e2,e3,e4⟩:=dK
  replace h0:R0 base W M w0 fn.ntmps dx.tmps dx.ab a2 w2 L2:=by rw[e1,e2,e3,e4]at h0;exact h0
  obtain⟨v,k1,_⟩:=vw (st:=dx) h0 (gu:=true) (W':=λ_=>False) (λ_ _ _ _ _ _ h=>h) (λ_ h=>h.elim) hr ⟨(trivial:kQ true dx []),rfl⟩;have O5:=h0.o;have uG:ic W ab L (w.putObj l (.loop (match dx.todo with|[]=>sl|_=>rl))) dx.ab L2 w2:=h4.fu;rw[hq]at O5 uG;refine⟨v,k1,⟨v,rfl⟩,L2,_, ?_,O5,uG⟩;cases dx.todo with
  |nil=>exact .inr rfl
  |cons _ _=>exact .inl rfl
 rcases he with rfl|rfl
 ·exact done
 ·exact done
def Fo(f:dn):cQ->bG->Nat->DV
 |p::ps,x::xs=>Fo (c5 f (some p) x) ps xs
 |_,_=>f
def Ia{A:World}{W:fI}{ab:bw}{L:Loc}:∀(ps:cQ) (x:bG) (cI:List Value) (f:dn) (tm:Array Value),(∀p∈ps,p<nt)->tm.size=nt->x.length=ps.length->j7 A W ab L x cI->
  (∀t,aA A W ab L (f t) (tm.getD t Go.undef))->
  ((ps.zip cI).foldl (λt (pv:Nat×Value)=>t.setIfInBounds pv.1 pv.2) tm).size=nt/\∀t,aA A W ab L (Fo f ps x t) (((ps.zip cI).foldl (λt (pv:Nat×Value)=>t.setIfInBounds pv.1 pv.2) tm).getD t Go.undef)
 |[],x,cI,f,tm,_,hs,hl,hr,hf=>by
  have:x=[]:=LQ (by simpa using hl);subst this;exact⟨by simpa using hs,by simpa [Fo]using hf⟩
 |p::ps,[],cI,f,tm,_,_,hl,_,_=>by simp at hl
 |p::ps,y::x,[],f,tm,_,_,_,hr,_=>by have:=hr.1;simp at this
 |p::ps,y::x,v::jN,f,tm,hp,hs,hl,hr,hf=>by
  simp only[List.zip_cons_cons,B6,Fo];refine Ia ps x jN _ _ (λq hq=>hp q (Zl _ hq)) (by simpa using hs) (by simpa using hl) ⟨by simpa using hr.1,λi d v' h1 h2=>hr.2 (i+1) d v' (by simpa using h1) (by simpa using h2)⟩ λt=>?_;rw[EI _ _ _ _ (by rw[hs];exact hp p (Zk ..))];simp only[c5];by_cases ht:t=p
  ·simp only[ht,jP];exact hr.2 0 y v rfl rfl
  ·simp only[ht,OV];exact hf t
def aa.aeP [dM]{Q:Exit->ma->Prop}{st:ma}{g:bW}{ps:cQ}{aS bS:DC}{ch:bG}{k:bG->bw->fV}{cj:bw}(id:Nat)(hit:P9 P f ch st.ab k cj)(A1:0<st.low)
  (hg:g.ev st.tmps=.oP (.func f) ch) (mh:∀r,st.aK<=r->cj r=none)
  (round:∀args ab N,0<N->(k args ab).ok->yIs (k args ab).val->(∀r,N<=r->ab r=none)->args.length=ps.length/\
   aa P nt aS (λe s1=>e=.normal/\aa P nt bS (λe s2=>((yGo (k args ab).val=true/\e=.normal)\/(yGo (k args ab).val=false/\e=.exit id))/\∃N',Le s2 ⟨λ_=>.undef,(k args ab).ab,N',N,[]⟩) s1) ⟨Fo st.tmps ps args,ab,N,N,[]⟩)
  (done:Q .normal ⟨st.tmps,cj,st.aK,st.low,st.todo⟩) (stop:Q (.exit id) ⟨st.tmps,cj,st.aK,st.low,st.todo⟩):aa P nt (.JF g ps aS bS) Q st:=by
 refine⟨λc hc=>?_⟩;obtain⟨g',qs,y,z,rfl,hg',rfl,ef,hy,hz⟩:=PN hc;intro n κ a w L gd r;have hJ:κ.J=none:=by
  cases hj:κ.J with
  |none=>rfl
  |some J=>have:=r.it (by rw[hj];rfl);omega
 obtain⟨W,base,M,w0,dK,h0⟩:=r.r.ex;have EK:=dK;unfold pX.At at EK;simp only[hJ]at EK;obtain⟨htd,rfl,rfl,rfl,rfl⟩:=EK;have hgv:=bW.bX h0.o.gl h0.tmps hg';rw[hg]at hgv;simp only[aA]at hgv;obtain⟨vs,hgv,HY⟩:=hgv;have jW:κ.base<=w.heap.size:=xK h0.o.fr.jO h0.o.fr.size;refine wpIn_rangeFunc ?_;intro fn tz;obtain⟨l,Ds0,W1,rec,Ba,xV,hlw,Zo,r1,r2,r3,r4,r5,r6,r7,zg,hDs⟩:=XO (P:=P) (ro:=κ.ro) (w:=w) (fn:=fn) (tm:=a.tmps) (ps:=qs) (y:=y) (z:=z) (λl hl=>by
  obtain⟨rc,hrc⟩:=gd.rd l hl;obtain⟨rc',at5⟩:=pX.Z1 st.todo hrc;exact⟨rc',r.r.fu.dG.ZF l rc' at5⟩)
 obtain⟨fnE,at6,bZ,Cs⟩:=hit.entry;have hDl:∀D∈Ds0,D≠l:=λD hD e=>by
  have:=(hDs D hD).1;rw[e,Zo]at this;cases this
 obtain⟨xp,hA1⟩:=cC.grow h0.o xV;have hlb:κ.base<=l:=xK jW hlw;obtain⟨SQ,aaP⟩:=be (({rec with state:=.done,pending:=some (.exit id)}:Loop):Loop);have at7:({rec with state:=.ready,pending:=none}:Loop)=rec:=by cases rec;simp_all
 have ZJ:∀x:Loop,¬Obj.plain (.loop x):=λx e=>e;have al8:Jt P l rec SQ k κ.base κ.W κ.M κ.w0 st.ab L W1:=by
  refine⟨λA L' ab args cI aN hyi hfi h5 hAd hO hDA=>?_⟩;obtain⟨N,hN⟩:=hfi;have hN1:∀x,N+1<=x->ab x=none:=λx hx=>hN x (by omega);obtain⟨dN,hr⟩:=round args ab (N+1) (by omega) aN hyi hN1;have yR:cI.size=rec.params.size:=by
   have:=hDA.1;rw[r5];simpa [dN]using this
  have Mb:=run_yield (P:=P) (args:=cI) h5 yR;rw[r3,r4,r5,r6,r7]at Mb;refine⟨_,_,_,_,Mb, ?_⟩;have apw:κ.base<=A.heap.size:=xK hO.fr.jO hO.fr.size;have hlA:=(wb.1 h5).1;have iW:∀t,aA A κ.W ab L' (st.tmps t) (a.tmps.getD t Go.undef):=λt=>aA.fu (hA1.comp hAd (λ_ h=>.inl h) (λ_ h=>h)) _ _ (h0.tmps t);have Xk:=Ia (nt:=nt) qs.toList args cI.toList st.tmps a.tmps ef h0.size dN hDA iW;rw[<-P5]at Xk
  let κ1:pX:=⟨κ.W,ab,L',A,κ.base,κ.M,κ.w0,none,some l,none⟩
  have apx:κ1.Good P:=⟨λJ hJ=>(by cases hJ),λl r s hY=>(by cases hY),λl' hl'=>by cases hl';exact⟨rec,h5⟩⟩;have at8:H0 κ1 nt ⟨Fo st.tmps qs.toList args,ab,N+1,N+1,[]⟩ {tmps:=(qs.zip cI).foldl (λt (p,v)=>t.setIfInBounds p v) a.tmps,defers:=[]} A L':=
   ⟨⟨⟨κ.W,κ.base,κ.M,κ.w0,⟨λ_=>rfl,rfl,rfl,rfl,rfl⟩,Xk.1,Xk.2,hO⟩,ic.cZ (du.refl _ _),⟨[],rfl,Zce,(λ_ h=>by cases h),λ_=>rfl⟩,λ_=>apw,⟨N+1,hN1⟩⟩,hN1,hN1,λh=>by cases h⟩
  refine roundIn_of_wpIn trivial ?_;refine wpIn_mono (hr.run y hy 0 κ1 _ A L' apx at8) ?_;rintro e a' w' ⟨s1,L1,⟨rfl,apy⟩,XY⟩;have apz:ic κ.W ab L' A s1.ab L1 w':=XY.r.fu;have Ci:w'.heap[l]? =some (.loop rec):=apz.dG.ZF l rec h5;have avI:=(wb.1 Ci).1;refine⟨_,run_beginRound Ci r1, ?_⟩
  let busy:Loop:={rec with state:=.busy}
  let κ2:pX:=⟨κ.W,ab,L',A.putObj l (.loop busy),κ.base,κ.M,κ.w0,none,some l,none⟩
  have hsA:(A.putObj l (.loop busy)).heap.size=A.heap.size:=by simp[World.putObj]
  have OW:(w'.putObj l (.loop busy)).heap.size=w'.heap.size:=by simp[World.putObj]
  have gA:(A.putObj l (.loop busy)).heap[l]? =some (.loop busy):=World.putObj_heap_same hlA;have apA:κ2.Good P:=⟨λJ hJ=>(by cases hJ),λl r s hY=>(by cases hY),λl' hl'=>by cases hl';exact⟨busy,gA⟩⟩;have at9:ic κ.W ab L' (A.putObj l (.loop busy)) s1.ab L1 (w'.putObj l (.loop busy)):=ic.Dt (r:=rec) hlA (by rw[World.vn h5];exact apz);have aua:H0 κ2 nt s1 a' (w'.putObj l (.loop busy)) L1:=by
   obtain⟨W2,ao3,M2,w02,aao,h02⟩:=XY.r.ex;obtain⟨e0,e1,e2,e3,e4⟩:=aao
   replace h02:R0 κ.base κ.W κ.M κ.w0 nt s1.tmps s1.ab a' w' L1:=by rw[e1,e2,e3,e4]at h02;exact h02
   have C8:KeepsC (WW κ.W s1.ab L1) w' (w'.putObj l (.loop busy)):=⟨by rw[OW];exact fq _,λb c e fr hb _=>pu Ci (ZJ _) b _ trivial hb⟩;obtain⟨Ds,d1,d2,d3,d4⟩:=XY.r.defers;refine⟨⟨⟨κ.W,κ.base,κ.M,κ.w0,⟨e0,rfl,rfl,rfl,rfl⟩,h02.size,λt=>(pZ C8 (SizeOf.sizeOf (s1.tmps t)+1)).1 (s1.tmps t) _ (Zcr _) (h02.tmps t),vo h02.o Ci (ZJ _) hlb⟩,at9,⟨Ds,d1,d2,λD hD=>?_,d4⟩,λ_=>by rw[hsA];exact apw,XY.r.cj⟩,XY.fresh,XY.low,λh=>by cases h⟩;have:=d3 D hD;refine⟨?_,by rw[hsA];exact this.2⟩;rw[World.putObj_heap_other (by rintro rfl;rw[Ci]at this;cases this.1)];exact this.1
  refine wpIn_mono (apy.run z hz 0 κ2 a' _ L1 apA aua) ?_;rintro e a3 w3 ⟨s3,L3,⟨apB,N',hLe⟩,aub⟩;obtain⟨L4,apC⟩:=hLe κ2 nt a3 w3 L3 aub;have apD:ic κ.W ab L' (A.putObj l (.loop busy)) (k args ab).ab L4 w3:=apC.r.fu;have hl3:w3.heap[l]? =some (.loop busy):=apD.dG.ZF l busy gA;obtain⟨W5,avy,M5,w05,auc,h05⟩:=apC.r.ex;obtain⟨_,e1,e2,e3,e4⟩:=auc
  replace h05:cC κ.base κ.W κ.M κ.w0 (k args ab).ab w3 L4:=by have:=h05.o;rw[e1,e2,e3,e4]at this;exact this
  have apE:∀rf:Loop,cC κ.base κ.W κ.M κ.w0 (k args ab).ab (w3.putObj l (.loop rf)) L4/\ic κ.W ab L' (A.putObj l (.loop rf)) (k args ab).ab L4 (w3.putObj l (.loop rf)):=
   λrf=>⟨vo h05 hl3 (ZJ _) hlb,ic.Dt hlA apD⟩
  rcases apB with⟨Z3,rfl⟩|⟨Z3,rfl⟩
  ·have Bl:=run_endRound (P:=P) none hl3;simp only[Option.isNone_none,jP]at Bl;have Rw:({busy with state:=.ready,pending:=none}:Loop)=rec:=by rw[<-at7]
   rw[Rw]at Bl;refine⟨_,_,Bl,by rw[Z3],L4, ?_⟩;rw[Z3];exact apE rec
  ·have Bl:=run_endRound (P:=P) (some (.exit id)) hl3;simp only[Option.isNone_some,Lp,OV]at Bl;have Rw:({busy with state:=.done,pending:=some (.exit id)}:Loop)=SQ:=by rw[<-aaP]
   rw[Rw]at Bl;refine⟨_,_,Bl,by rw[Z3],L4, ?_⟩;rw[Z3];exact apE SQ
 refine⟨l,Ds0.map mark,W1,{target:=.fn (.func f) vs,args:= #[.func (.yield l) #[] #[]]},W1,f, #[.func (.yield l) #[] #[]]++vs,W1,Ba, ?_,λ_ _=>trivial, ?_,(λh=>by cases h), ?_⟩
 ·simp only[resolve,hgv,Deferred.ofValue];simp[Act.eval]
 ·simp[invoke,callFunc,at6,bZ];intro ni;simp[ni]at Cs
 ·have al9:j7 W1 κ.W st.ab L ch vs.toList:=by
   have h:=Cr HY;exact⟨h.1,λi d v h1 h2=>aA.fu hA1 _ _ (h.2 i d v h1 h2)⟩
  refine fe ((hit.run l rec SQ κ.base κ.W κ.M κ.w0 W1 L vs al8 hlb Zo xp al9).mono ?_);rintro e B ⟨⟨v,rfl⟩,L',r',gS,hO',hA'⟩;have hlW:=(wb.1 Zo).1;have hlB:B.heap[l]? =some (.loop r'):=hA'.dG.ZF _ _ (World.putObj_heap_same hlW);have hnb:r'.state≠ .busy:=by
   rcases gS with rfl|rfl
   ·rw[r1];simp
   ·rw[<-aaP];simp
  have MD:=run_endLoop (P:=P) hlB hnb;obtain⟨off,Df⟩:=be (({r' with state:=.exhausted}:Loop):Loop);rw[Df]at MD;have C8:KeepsC (WW κ.W cj L') B (B.putObj l (.loop off)):=⟨by simp[World.putObj],λb c e fr hb _=>pu hlB (ZJ _) b _ trivial hb⟩;have agI:∀x:Loop,ic κ.W st.ab L w st.ab L (W1.putObj l (.loop x)):=λx=>by
   have hbx:wN w.heap.size w (W1.putObj l (.loop x)):=by
    refine⟨⟨xV.os,xV.tape,xV.output, ?_,λb hb=>?_⟩,xV.drawn⟩
    ·have:=xV.size;simpa [World.putObj]using this
    ·rw[World.putObj_heap_other (by omega)];exact xV.block b hb
   exact(cC.grow h0.o hbx).2
  have uG:ic κ.W st.ab L w cj L' (B.putObj l (.loop off)):=(agI off).comp (ic.Dt hlW hA') (λ_ h=>.inl h) (λ_ h=>h);have hA3:ic κ.W st.ab L w cj L' B:=(agI r').comp hA' (λ_ h=>.inl h) (λ_ h=>h);obtain⟨Ds,d1,d2,d3,d4⟩:=r.r.defers;have hgw:κ.gw.heap.size<=w.heap.size:=by have:=r.r.fu.dG.size;rw[pX.zf]at this;exact this
  have hR:H0 κ nt ⟨st.tmps,cj,st.aK,st.low,st.todo⟩ {a with defers:=Ds0.map mark++a.defers} (B.putObj l (.loop off)) L':=by
   refine⟨⟨⟨κ.W,κ.base,κ.M,κ.w0,dK,h0.size,λt=>aA.fu uG _ _ (h0.tmps t),vo hO' hlB (ZJ _) hlb⟩,r.r.fu.comp uG (dK.Ju _) dK.sub.2,⟨Ds0++Ds,by rw[Pv,<-d1], ?_,λD hD=>?_,λh=>by rw[hJ]at h;cases h⟩,r.r.bg,⟨st.aK,mh⟩⟩,mh,r.low,r.it⟩
   ·rw[Zcl];refine⟨zg,d2,λD hD D' hD' e=>?_⟩;subst e;have k1:=(hDs D hD).2;have k2:=(wb.1 (d3 D hD').1).1;omega
   ·rcases oi.1 hD with hD|hD
    ·refine⟨?_,xK hgw (hDs D hD).2⟩;rw[World.putObj_heap_other (hDl D hD)];exact hA'.dG.Y9 D (by rw[World.putObj_heap_other (hDl D hD)];exact(hDs D hD).1)
    ·exact⟨uG.dG.Y9 D (d3 D hD).1,(d3 D hD).2⟩
  rcases gS with rfl|rfl
  ·rw[r2]at MD;exact⟨none,_,MD,_,L',done,hR⟩
  ·have:r'.pending=some (.exit id):=by rw[<-aaP]
   rw[this]at MD;exact⟨some (.exit id),_,MD,wpIn_exit ⟨_,L',stop,hR⟩⟩
end
end
section
variable{base nt:Nat}{W M:fI}{w0:World}{st:ma}{rs:List dS}
variable [bM] [dM]{P:Program}
def CI(st:ma)(rs:List dS):bG:=rs.map λr=>(r.oU st).val
def JT(st:ma)(rs:List dS):DV:=match CI st rs with
 |[x]=>x
 |ds=>.eB ds
def aaQ{w:World}{a:Act}{L:Loc}(h:R0 base W M w0 nt st.tmps st.ab a w L){rv:ResultVar}{r:dS}(hr:o7 P rv=some r)(aN:(r.oU st).ok):
  ∃v,((match rv with|.tmp t=>pure (a.tmps.getD t Go.undef)|.cell b t=>do loadVar t (<-asAddr (a.tmps.getD b Go.undef))):Sem Value).run P w=.ok v w/\aA w W st.ab L (r.oU st).val v:=by
 cases rv with
 |tmp t=>
  simp only[o7,cu]at hr;subst hr;exact⟨_,rfl,h.tmps t⟩
 |cell b t=>
  simp only[o7]at hr;split at hr
  ·rename_i d i hd hi;simp only[cu]at hr;subst hr;simp only[dS.oU]at aN;obtain⟨hp,v,ce,hv⟩:=xM h.o hd hi (h.tmps b) aN;refine⟨v, ?_,hv⟩;have hpt:∃p,a.tmps.getD b Go.undef=.pointer (some p):=by
    have hx:=h.tmps b;have ho:=aN;cases hq:st.tmps b with
    |ptr r off=>rw[hq]at hx;simp only[aA]at hx;exact⟨_,hx.2⟩
    |mV av j off=>rw[hq]at hx;simp only[aA]at hx;obtain⟨_,_,_,hx,_⟩:=hx;exact⟨_,hx⟩
    |jd cs off=>rw[hq]at hx;simp only[aA]at hx;obtain⟨_,_,hx,_⟩:=hx;exact⟨_,hx⟩
    |kO r bI j off=>rw[hq]at hx;simp only[aA]at hx;obtain⟨⟨_,_,hx⟩,_⟩:=hx;exact⟨_,hx⟩
    |v t'=>
     rw[hq]at hx ho;cases t' with
     |box cs=>simp only[aA,bm]at hx;obtain⟨_,_,hx,_⟩:=hx;exact⟨_,hx⟩
     |_=>exact ho.elim
    |_=>rw[hq]at ho;exact ho.elim
   obtain⟨p,hp⟩:=hpt;show Sem.run P (do loadVar t (<-asAddr (a.tmps.getD b Go.undef))) w=_;rw[hp]at ce⊢;simpa [Instr.loadAt,Instr.sureAddr,asAddr]using ce
  ·cases hr
def ME{base:Nat}{W M:fI}{w0 w:World}{nt:Nat}{st:ma}{a:Act}{L:Loc}(h:R0 base W M w0 nt st.tmps st.ab a w L):∀{rvs:List ResultVar} {rs:List dS},rvs.mapM (o7 P)=some rs->(∀r∈rs,(r.oU st).ok)->
  ∃vs,(rvs.mapM (λrv=>((match rv with|.tmp t=>pure (a.tmps.getD t Go.undef)|.cell b t=>do loadVar t (<-asAddr (a.tmps.getD b Go.undef))):Sem Value))).run P w=.ok vs w/\eP w W st.ab L (CI st rs) vs
 |[],rs,hr,_=>by simp at hr;subst hr;exact⟨[],by simp,by simp[CI,eP]⟩
 |rv::rvs,rs,hr,aN=>by
  simp only[Ln,mb,kP,jG,cu]at hr;obtain⟨r,tw,rs',nz,rfl⟩:=hr;obtain⟨v,h1,h2⟩:=aaQ h tw (aN r (by simp));obtain⟨vs,h3,h4⟩:=ME h nz λx hx=>aN x (by simp[hx]);refine⟨v::vs, ?_, ?_⟩
  ·rw[Ln];simp only[Sem.run_bind,h1,Result.andThen_ok,h3,Sem.run_pure]
  ·simp only[CI,qD,eP];exact⟨v,vs,rfl,h2,h4⟩
def eP.length{w:World}{W:fI}{ab:bw}{L:Loc}:∀{ds:bG} {vs:List Value},eP w W ab L ds vs->vs.length=ds.length
 |[],vs,h=>by simp only[eP]at h;subst h;rfl
 |d::ds,vs,h=>by
  simp only[eP]at h;obtain⟨x,jN,rfl,_,h2⟩:=h;simp[eP.length h2]
def JU{w:World}{a:Act}{L:Loc}(h:R0 base W M w0 nt st.tmps st.ab a w L){fn:Func}(hr:fn.results.toList.mapM (o7 P)=some rs)(aN:∀r∈rs,(r.oU st).ok):
  ∃v,(results fn a.tmps).run P w=.ok v w/\aA w W st.ab L (JT st rs) v:=by
 obtain⟨vs,h2,h3⟩:=ME h hr aN;have hm:(fn.results.mapM (λrv=>((match rv with|.tmp t=>pure (a.tmps.getD t Go.undef)|.cell b t=>do loadVar t (<-asAddr (a.tmps.getD b Go.undef))):Sem Value))).run P w=.ok vs.toArray w:=by
  rw[ZcO];simp only[Sem.run_map,h2,Result.andThen_ok]
 have hl:vs.length=(CI st rs).length:=eP.length h3;refine⟨if h:vs.toArray.size=1 then vs.toArray[0]else .tuple vs.toArray, ?_, ?_⟩
 ·have AI:(results fn a.tmps)=(do
   let vs<-fn.results.mapM (λrv=>((match rv with|.tmp t=>pure (a.tmps.getD t Go.undef)|.cell b t=>do loadVar t (<-asAddr (a.tmps.getD b Go.undef))):Sem Value))
   pure (if h:vs.size=1 then vs[0]else .tuple vs)):=rfl
  rw[AI];simp only[Sem.run_bind,hm,Result.andThen_ok,Sem.run_pure]
 ·unfold JT;cases LU:CI st rs with
  |nil=>
   rw[LU]at hl h3;have:vs=[]:=LQ (by simpa using hl);subst this;simp only[aA];exact⟨#[],by simp,by simp[eP]⟩
  |cons x ds=>
   rw[LU]at hl h3;cases ds with
   |nil=>
    simp only[eP]at h3;obtain⟨y,jN,rfl,h4,rfl⟩:=h3;simpa using h4
   |cons y ds=>
    have:vs.toArray.size≠1:=by simp at hl⊢;omega
    rw[Zdf this];simp only[aA];exact⟨vs.toArray,rfl,by simpa using h3⟩
def aud(rs:List dS)(r:fV):Exit->ma->Prop
 |.normal,st|.ret,st=>(∀x∈rs,(x.oU st).ok)/\Le ⟨look [(0,JT st rs)],st.ab,st.aK,st.low,st.todo⟩ ⟨look [(0,r.val)],r.ab,st.aK,st.low,st.todo⟩
 |_,_=>False
def aB.okD{f:FuncId}{d:DC}(h:aB P f nt d rs){args:bG}{ab:bw}{r:fV}{N:Nat}(hN:∀r,N<=r->ab r=none)(dN:args.length<=nt)(hnt:0<nt)
  (k:df ab N->aa P nt d (aud rs r) ⟨look (args.zipIdx.map λp=>(p.2,p.1)),aO [] ab,N,N,[]⟩):aQ P f args ab r:=by
 have Ba:=h.entry;obtain⟨fn,tz,rfl,h3,hr,_⟩:=h;obtain⟨c,hb,hc⟩:=iU.1 h3;refine⟨Ba,λbase W M w0 w L cI hO C9=>?_⟩;have k:=Bc (k (Bk hO hN));have hl:=C9.1;simp only[I0]at hl;have vy:H0 ⟨W,ab,L,w,base,M,w0,none,none,none⟩ fn.ntmps (xm args ab N) {tmps:=cI++Array.replicate (fn.ntmps-cI.size) Go.undef,defers:=[]} w L:=by
  refine⟨⟨⟨W,base,M,w0,⟨λ_=>rfl,rfl,rfl,rfl,rfl⟩,by simp;omega,λk=>?_,hO⟩,
   ic.cZ (du.refl _ _),⟨[],rfl,Zce,(λ_ h=>by cases h),λ_=>rfl⟩,λ_=>xK hO.fr.jO hO.fr.size,⟨N,hN⟩⟩,hN,hN,λh=>by cases h⟩
  simp only[xm];cases hk:args[k]? with
  |some x=>
   have hv:∃v,cI.toList[k]? =some v:=by
    have:k<cI.size:=by rw[hl];exact(C7.1 hk).1
    exact⟨cI[k],by simp[this]⟩
   obtain⟨v,hv⟩:=hv;simp only[p8 hv,Dc];exact C9.2 k x v hk hv
  |none=>
   have yQ:cI.size<=k:=by
    have:=ZbQ.1 hk;omega
   simp only[Dc,aA,pF yQ]
 refine callsIn_wide.1 (callsIn_of_wp_marks (n:=0) tz hb trivial ?_);refine wpIn_mono (k.run c hc 0 _ _ _ _ ⟨λJ hJ=>(by cases hJ),λl r s hY=>(by cases hY),λl hl=>(by cases hl)⟩ vy) ?_;rintro e a' w' ⟨dx,L',q,r'⟩;have done:((∀x∈rs,(x.oU dx).ok)/\Le ⟨look [(0,JT dx rs)],dx.ab,dx.aK,dx.low,dx.todo⟩ ⟨look [(0,r.val)],r.ab,dx.aK,dx.low,dx.todo⟩)->LeavesInM Fence.wide 0 P fn a'.tmps (λe w'=>∃v L',e=.returned v/\cC base W M w0 r.ab w' L'/\ic W ab L w r.ab L' w'/\aA w' W r.ab L' r.val v) a'.defers .returning w':=by
  rintro⟨hq1,Zm⟩;obtain⟨Ds,h1,h2,h3,_⟩:=r'.r.defers;rw[h1];refine vx (κ:=⟨W,ab,L,w,base,M,w0,none,none,none⟩) rfl ?_ Ds a' w' L' r'.r h1 h2 h3;intro a2 w2 L2 h4;obtain⟨W',Ml,M',w0',dK,h0⟩:=h4.ex;obtain⟨v,k1,k2⟩:=JU (st:=dx) h0 hr hq1;have h5:=eW.put h4 dK h0 (some 0) (λd hd=>by cases hd;exact hnt) h0.o (ic.cZ (du.refl _ _)) k2 h4.cj;have h6:H0 ⟨W,ab,L,w,base,M,w0,none,none,none⟩ fn.ntmps ⟨c5 dx.tmps (some 0) (JT dx rs),dx.ab,dx.aK,dx.low,dx.todo⟩ (a2.put (some 0) v) w2 L2:=⟨h5,r'.fresh,r'.low,r'.it⟩;obtain⟨L3,h7⟩:=(Le.vA (st:=⟨c5 dx.tmps (some 0) (JT dx rs),dx.ab,dx.aK,dx.low,dx.todo⟩) (tm:=look [(0,JT dx rs)]) (λk=>by
   by_cases hk:k=0
   ·subst hk;right;rfl
   ·left;simp[look,hk])) _ _ _ _ _ h6
  obtain⟨L4,h8⟩:=Zm _ _ _ _ _ h7;obtain⟨W'',aue,M'',avJ,aao,h9⟩:=h8.r.ex;obtain⟨_,e1,e2,e3,e4⟩:=aao;rw[e1,e2,e3,e4]at h9;have hv:=h9.tmps 0;have ji:0<a2.tmps.size:=by rw[h0.size];exact hnt
  refine⟨v,k1,v,L4,rfl,h9.o,h8.r.fu, ?_⟩;have:(a2.put (some 0) v).tmps.getD 0 Go.undef=v:=by simp[Act.put,ji]
  rw[this]at hv;simpa [look]using hv
 cases e with
 |normal=>exact done q
 |ret=>exact done q
 |_=>exact q.elim
end
end Go.DM
namespace Go.DM
open Go.RowKit
variable [bM] [dM]
section
variable{P:Program}{nt:Nat}{Γ:pk}{Q:Exit->ma->Prop}{tm:dn}{ob:bw}{aK low:Nat}{td:List (aL)}
end
end Go.DM
namespace Go.DM
open Go.RowKit Go.ChangeShapes Go.WideShapes
section
variable{sp:Nat->Bool}{held:Bool}{base:Nat}
variable [bM]
def oC(P:Program)(L:List TypeId):Nat->List Field->Nat->Bool
 |o,[],n=>o==n
 |o,f::fs,n=>f.offset==o&&L.contains f.type&&oC P L (o+P.cellsOf f.type) fs n
def wn(P:Program)(L:List TypeId)(t:TypeId):Bool:=
 match P.underlying t with
 |some .bool|some (.int _)|some .string=>true
 |some (.slice e)=>L.contains e&&decide (0<P.cellsOf e)
 |some (.struct fs)=>oC P L 0 fs.toList (P.cellsOf t)
 |some (.array n e)=>L.contains e&&P.cellsOf t==n*P.cellsOf e
 |_=>false
def oD(P:Program)(L:List TypeId):Bool:=L.all (wn P L)
def qb(q:TypeId->aL->Prop):List TypeId->aL->Prop
 |[],ts=>ts=[]
 |t::wP,ts=>∃a b,ts=a++b/\q t a/\qb q wP b
def kJ(P:Program):Nat->TypeId->aL->Prop
 |0,_,_=>False
 |n+1,t,ts=>
  match P.underlying t with
  |some .bool=>∃b,ts=[.bool b]
  |some (.int k)=>∃x,ts=[.int k x]/\(Lit.int k x).wf=true
  |some .string=>∃s,ts=[.str s]/\s.size<=maxLen
  |some (.slice e)=>∃av,ts=[.sl av]/\av.length<=maxLen/\∀r∈av,kJ P n e r
  |some (.struct fs)=>qb (kJ P n) (fs.toList.map (·.type)) ts
  |some (.array k e)=>qb (kJ P n) (List.replicate k e) ts
  |_=>False
def rU(P:Program)(n:Nat)(t:TypeId)(x:T):Prop:=
 match P.underlying t with
 |some (.struct _)|some (.array _ _)=>∃ts,x=.agg ts/\kJ P n t ts
 |_=>kJ P n t [x]
def Dx(P:Program):List TypeId->aL->Prop
 |[],xs=>xs=[]
 |t::ts,xs=>∃x mq,xs=x::mq/\(∃n,rU P n t x)/\Dx P ts mq
section
variable{P:Program}{L:List TypeId}
def wo(h:oD P L=true){t:TypeId}(ht:t∈L):wn P L t=true:=NS.1 h t ht
def xn:∀(fs:List Field) (o n:Nat),oC P L o fs n=true->(∀f∈fs,f.type∈L)/\n=o+(fs.map λf=>P.cellsOf f.type).sum/\∀(j:Nat) f,fs[j]? =some f->f.offset=o+((fs.take j).map λf=>P.cellsOf f.type).sum
 |[],o,n,h=>by
  simp only[oC,Zcn]at h;exact⟨λ_ h=>(by cases h),by simp[h],λj f h=>by simp at h⟩
 |f::fs,o,n,h=>by
  simp only[oC,mD,Zcn,Zb7]at h;obtain⟨⟨h1,h2⟩,h3⟩:=h;obtain⟨k1,k2,k3⟩:=xn fs _ n h3;refine⟨λg hg=>?_, ?_,λj g hg=>?_⟩
  ·rcases fN.1 hg with rfl|hg
   ·exact h2
   ·exact k1 g hg
  ·rw[k2];simp;omega
  ·cases j with
   |zero=>simp at hg;subst hg;simp[h1]
   |succ j=>
    have:=k3 j g (by simpa using hg);rw[this];simp;omega
def PY(h:oD P L=true):Kids P (·∈L):=by
 refine⟨λ{t e} ht hu=>?_,λ{t e} ht hu=>?_,λ{t e n} ht hu=>?_,λ{t fs} ht hu=>?_,λ{t k e} ht hu=>?_⟩;all_goals
  have:=wo h ht;simp only[wn,hu]at this
 ·cases this
 ·simp only[mD,Zb7]at this;exact this.1
 ·simp only[mD,Zb7,Zcn]at this;exact this
 ·obtain⟨k1,k2,k3⟩:=xn _ _ _ this;exact⟨k1,by simpa using k2,λj f hf=>by simpa using k3 j f hf⟩
 ·cases this
def E4{H:Type}{enc:TypeId×Value->H}{w:World}{n:Nat}{sp:Nat->Bool}{held:Bool}{cs:List Value}
  (ih:∀t cs x,t∈L->DataW.trod enc P w 0 sp held n t cs=some x->∃ts,bl w (λ_=>False) ts cs/\kJ P n t ts):
  ∀(fs:List Field) (o N:Nat),oC P L o fs N=true->(∀f∈fs,∃x,DataW.trod enc P w 0 sp held n f.type ((cs.drop f.offset).take (P.cellsOf f.type))=some x)->cs.length=N->
   ∃ts,bl w (λ_=>False) ts (cs.drop o)/\qb (kJ P n) (fs.map (·.type)) ts
 |[],o,N,h,_,hl=>by
  simp only[oC,Zcn]at h;exact⟨[],by simp only[bl];rw[ZbE (by omega)],rfl⟩
 |f::fs,o,N,h,hx,hl=>by
  simp only[oC,mD,Zcn,Zb7]at h;obtain⟨⟨h1,h2⟩,h3⟩:=h;obtain⟨x,PZ⟩:=hx f (Zk ..);obtain⟨a,ha,hta⟩:=ih _ _ _ h2 PZ;obtain⟨b,hb,htb⟩:=E4 ih fs _ N h3 (λg hg=>hx g (Zl _ hg)) hl;refine⟨a++b, ?_,a,b,rfl,hta,htb⟩;have:=bl.append ha hb;rw[h1,<-List.drop_drop,ZbA]at this;exact this
def SA{H:Type}{enc:TypeId×Value->H}{w:World}{n:Nat}{sp:Nat->Bool}{held:Bool}{cs:List Value}{e:TypeId}(he:e∈L)
  (ih:∀t cs x,t∈L->DataW.trod enc P w 0 sp held n t cs=some x->∃ts,bl w (λ_=>False) ts cs/\kJ P n t ts):
  ∀(k i:Nat),(∀j,i<=j->j<i+k->∃x,DataW.trod enc P w 0 sp held n e ((cs.drop (j*P.cellsOf e)).take (P.cellsOf e))=some x)->cs.length=(i+k)*P.cellsOf e->
   ∃ts,bl w (λ_=>False) ts (cs.drop (i*P.cellsOf e))/\qb (kJ P n) (List.replicate k e) ts
 |0,i,_,hl=>by
  exact⟨[],by simp only[bl];rw[ZbE (by rw[hl];simp)],rfl⟩
 |k+1,i,hx,hl=>by
  obtain⟨x,PZ⟩:=hx i (fq _) (by omega);obtain⟨a,ha,hta⟩:=ih _ _ _ he PZ;obtain⟨b,hb,htb⟩:=SA he ih k (i+1) (λj h1 h2=>hx j (by omega) (by omega)) (by rw[hl];congr 1;omega);refine⟨a++b, ?_,a,b,rfl,hta,htb⟩;have:=bl.append ha hb;rw[show(i+1)*P.cellsOf e=i*P.cellsOf e+P.cellsOf e by rw[Za];omega,<-List.drop_drop,ZbA]at this;exact this
def Cw{α:Type}{q:Nat->α->Prop}:∀(n:Nat),(∀i,i<n->∃x,q i x)->∃l:List α,l.length=n/\∀i x,l[i]? =some x->q i x
 |0,_=>⟨[],rfl,λi x h=>by simp at h⟩
 |n+1,h=>by
  obtain⟨l,hl,hq⟩:=Cw n λi hi=>h i (by omega);obtain⟨x,hx⟩:=h n (by omega);refine⟨l++[x],by simp[hl],λi y hy=>?_⟩;by_cases hi:i<l.length
  ·rw[Zbl hi]at hy;exact hq i y hy
  ·rw[Zbj (by omega)]at hy;have:i=n:=by
    have:=(C7.1 hy).1;simp at this;omega
   subst this;simp[hl]at hy;subst hy;exact hx
def wp{w:World}{a:Addr}{n:Nat}{cs:List Value}(h:w.cells? 0 a n=some cs):cs.length=n/\∀j v,cs[j]? =some v->w.cell? (a.add j)=some v:=by
 simp only[World.cells?,Sk,jP]at h;refine⟨by simpa using mapM_some_length h,λj v hj=>?_⟩;have ef:j<n:=by
  have:=(C7.1 hj).1;have h2:=mapM_some_length h;simp at h2;omega
 have:=mapM_some_get h j j (by simp[ef]);rw[hj]at this;simpa using this.symm
where
 mapM_some_length {α β:Type} {f:α->Option β} {l:List α} {r:List β} (h:l.mapM f=some r):r.length=l.length:=by
  induction l generalizing r with
  |nil=>simp at h;simp[h]
  |cons x l ih=>
   simp only[Ln,mb,kP,jG,cu]at h;obtain⟨y,_,ys,qG,rfl⟩:=h;simp[ih qG]
 mapM_some_get {α β:Type} {f:α->Option β} {l:List α} {r:List β} (h:l.mapM f=some r) (i:Nat) (x:α) (hx:l[i]? =some x):r[i]? =f x:=by
  induction l generalizing r i with
  |nil=>simp at hx
  |cons y l ih=>
   simp only[Ln,mb,kP,jG,cu]at h;obtain⟨z,hz,ys,qG,rfl⟩:=h;cases i with
   |zero=>simp at hx;subst hx;simp[hz]
   |succ i=>simpa using ih qG i (by simpa using hx)
def SB{w:World}{a:Addr}{v:Value}(h:w.cell? a=some v):a.block<w.heap.size/\a.spot=none:=by
 unfold World.cell? at h;split at h
 ·rename_i c e f hb;split at h
  ·cases h
  ·rename_i hs;exact⟨(wb.1 hb).1,by simpa using hs⟩
 ·cases h
def add_zero(a:Addr):a.add 0=a:=by simp[Addr.add]
def Mm(b o k:Nat):(⟨b,o,none⟩:Addr).add k=⟨b,o+k,none⟩:=by
 unfold Addr.add;by_cases h:k=0<;>simp[h]
def aax{H:Type}{enc:TypeId×Value->H}{w:World}(hL:oD P L=true):∀(n:Nat) (t:TypeId) (cs:List Value) (x:DataW H×List MemPlace),t∈L->
  DataW.trod enc P w 0 sp held n t cs=some x->∃ts,bl w (λ_=>False) ts cs/\kJ P n t ts:=by
 intro n;induction n with
 |zero=>intro t cs x _ h;simp[DataW.trod]at h
 |succ n ih=>
  intro t cs x ht h;have hp:=wo hL ht;have one:∀{y:T} {v:Value},v.oneCell'=true->bm w (λ_=>False) y v->bl w (λ_=>False) [y] [v]:=λh1 h2=>by simp only[bl];exact⟨_,_,rfl,h1,h2,rfl⟩
  unfold wn at hp;split at hp
  ·rename_i hu;obtain⟨b,rfl,rfl⟩:∃b,cs=[.bool b]/\x=(.lit (.bool b),[]):=by
    unfold DataW.trod at h;rw[hu]at h;split at h<;>simp_all
   exact⟨[.bool b],one rfl (by simp[bm]),by simp[kJ,hu]⟩
  ·rename_i k hu;obtain⟨m,rfl,rfl,hw⟩:=DataW.trod_int hu h;exact⟨[.int k m],one rfl (by simp[bm]),by simp[kJ,hu,hw]⟩
  ·rename_i hu;obtain⟨s,rfl,rfl,hs⟩:=DataW.trod_string hu h;exact⟨[.str s],one rfl (by simp[bm]),by simp[kJ,hu,hs]⟩
  ·rename_i e hu;simp only[mD,Zb7,oS]at hp;obtain⟨he,Hp⟩:=hp;rcases DataW.trod_slice hu h with⟨rfl,rfl⟩|⟨a,len,cap,agB,rest,m,hm,rfl,rfl,_,hlc,tp,hel,mF,_,_⟩
   ·exact⟨[.sl []],one rfl (by simp[bm]),by simp[kJ,hu]⟩
   ·obtain rfl:n=m:=by omega
    have jH:∀i,i<len->∃r:aL,(∃w7,w.cells? 0 (a.add (i*P.cellsOf e)) (P.cellsOf e)=some w7/\bl w (λ_=>False) r w7)/\kJ P n e r:=by
     intro i hi;have h1:=mF i hi;have h2:∃y,agB[i]? =some y:=⟨agB[i],xb (by omega)⟩;obtain⟨y,hy⟩:=h2;rw[hy]at h1;obtain⟨w7,h3,h4⟩:=jG.1 h1;obtain⟨ts,h5,h6⟩:=ih e w7 y he h4;exact⟨ts,⟨w7,h3,h5⟩,h6⟩
    obtain⟨av,dN,hq⟩:=Cw len jH;refine⟨[.sl av], ?_, ?_⟩
    ·simp only[bl];refine⟨_,[],rfl,rfl, ?_,rfl⟩;simp only[bm];cases av with
     |nil=>
      simp at dN;subst dN;exact .inl ⟨rfl,_,_,rfl⟩
     |cons r0 av=>
      right;obtain⟨⟨cs0,h3,h4⟩,_⟩:=hq 0 r0 rfl;obtain⟨h5,h6⟩:=wp h3;have Zd:∃v,cs0[0]? =some v:=⟨cs0[0],xb (by omega)⟩;obtain⟨v0,hv0⟩:=Zd;have h60:=h6 0 v0 hv0;simp only[Zc3,add_zero]at h60;obtain⟨hb,hs⟩:=SB h60;obtain⟨b,o,sp'⟩:=a;simp only at hb hs;subst hs;have dK:∀i r,(r0::av)[i]? =some r->r.length=P.cellsOf e/\eD w (λ_=>False) b (o+i*P.cellsOf e) r:=by
       intro i r hr;obtain⟨⟨w7,h3,h4⟩,_⟩:=hq i r hr;obtain⟨h5,h6⟩:=wp h3;refine⟨by rw[<-bl.length h4,h5],eD.tl h4 λj v hj=>?_⟩;have h7:=h6 j v hj;rw[Mm,Mm]at h7;exact h7
      exact⟨b,o,cap,P.cellsOf e,by rw[dN],hb,λh=>h,by omega,bD.Dn _ _ dK⟩
    ·simp only[kJ,hu];refine⟨av,rfl,by omega,λr hr=>?_⟩;obtain⟨i,hi⟩:=Zcc hr;exact(hq i r hi).2
  ·rename_i fs hu;obtain⟨xs,m,hm,rfl,hl,Ho,hf⟩:=DataW.trod_struct hu h;obtain rfl:n=m:=by omega
   obtain⟨ts,h1,h2⟩:=E4 (cs:=cs) ih fs.toList 0 _ hp (λf hfm=>by
    obtain⟨i,hi⟩:=Zcc hfm;have qO:fs[i]? =some f:=by simpa using hi
    have:=hf i f qO;have ef:i<xs.length:=by rw[Ho];exact(wb.1 qO).1
    rw[xb ef]at this;exact⟨_,this⟩) hl
   exact⟨ts,by simpa using h1,by simpa [kJ,hu]using h2⟩
  ·rename_i k e hu;simp only[mD,Zb7,Zcn]at hp;have key:cs.length=P.cellsOf t/\∀i,i<k->∃y,DataW.trod enc P w 0 sp held n e ((cs.drop (i*P.cellsOf e)).take (P.cellsOf e))=some y:=by
    unfold DataW.trod at h;rw[hu]at h;split at h<;>simp_all
    obtain⟨hl,xs,AW,_⟩:=h;intro i hi;have:=wp.mapM_some_get AW i i (by simp[hi]);have ef:i<xs.length:=by rw[wp.mapM_some_length AW];simp[hi]
    rw[xb ef]at this;exact⟨_,_,this.symm⟩
   obtain⟨ts,h1,h2⟩:=SA (cs:=cs) hp.1 ih k 0 (λj _ hj=>key.2 j (by omega)) (by rw[key.1,hp.2];simp);exact⟨ts,by simpa using h1,by simpa [kJ,hu]using h2⟩
  ·cases hp
def aeH{H:Type}{enc:TypeId×Value->H}{w:World}(hL:oD P L=true){t:TypeId}(ht:t∈L){v:Value}(hv:Value.okWide P w .any base t v){d:DataW H}{ps:List MemPlace}
  (h:DataW.Trod enc P w 0 sp held t v d ps):∃x,bm w (λ_=>False) x v/\∃n,rU P n t x:=by
 obtain⟨n,h⟩:=h;obtain⟨ts,h1,h2⟩:=aax hL n t _ _ ht h;have hp:=wo hL ht;have JG:(∀cs,v≠ .agg cs)->∃x,ts=[x]/\bm w (λ_=>False) x v:=by
  intro bZ;have hc:v.cells.toList=[v]:=by cases v<;>first|rfl|exact eA rfl (bZ _)
  rw[hc]at h1;cases ts with
  |nil=>simp only[bl]at h1;cases h1
  |cons x xs=>
   simp only[bl]at h1;obtain⟨_,_,e,_,hr,nz⟩:=h1;simp only[LS]at e;obtain⟨rfl,rfl⟩:=e;have:=bl.length nz;simp at this;have e:xs=[]:=LQ this.symm;exact⟨x,by rw[e],hr⟩
 have agg:(∃cs,v=.agg cs)->∃x,x=T.agg ts/\bm w (λ_=>False) x v:=by
  rintro⟨cs,rfl⟩;exact⟨_,rfl,by simp only[bm];exact⟨cs,rfl,by simpa [Value.cells]using h1⟩⟩
 unfold wn at hp;split at hp
 ·rename_i hu;obtain⟨b,rfl⟩:=okWide_bool hu hv;obtain⟨x,rfl,hr⟩:=JG (λ_ h=>by cases h);exact⟨x,hr,n,by simp only[rU,hu];exact h2⟩
 ·rename_i k hu;obtain⟨b,rfl⟩:=okWide_int hu hv;obtain⟨x,rfl,hr⟩:=JG (λ_ h=>by cases h);exact⟨x,hr,n,by simp only[rU,hu];exact h2⟩
 ·rename_i hu;obtain⟨b,rfl⟩:=okWide_string hu hv;obtain⟨x,rfl,hr⟩:=JG (λ_ h=>by cases h);exact⟨x,hr,n,by simp only[rU,hu];exact h2⟩
 ·rename_i e hu;obtain⟨a,l,c,rfl⟩:=okWide_slice hu hv;obtain⟨x,rfl,hr⟩:=JG (λ_ h=>by cases h);exact⟨x,hr,n,by simp only[rU,hu];exact h2⟩
 ·rename_i fs hu;obtain⟨cs,rfl,_⟩:=okWide_struct hu hv;obtain⟨x,rfl,hr⟩:=agg ⟨_,rfl⟩;exact⟨_,hr,n,by simp only[rU,hu];exact⟨_,rfl,h2⟩⟩
 ·rename_i k e hu;have:∃cs,v=.agg cs:=by
   simp only[Value.okWide,hu]at hv;cases v<;>simp_all
  obtain⟨cs,rfl⟩:=this;obtain⟨x,rfl,hr⟩:=agg ⟨_,rfl⟩;exact⟨_,hr,n,by simp only[rU,hu];exact⟨_,rfl,h2⟩⟩
 ·cases hp
def Mn{H:Type}{enc:TypeId×Value->H}{w:World}{sp:Nat->Bool}{held:Bool}(hL:oD P L=true){base:Nat}:∀{wP:List TypeId} {vs:List Value} {ds:List (DataW H)} {ps:List MemPlace},(∀t∈wP,t∈L)->
  (∀(j:Nat) t v,wP[j]? =some t->vs[j]? =some v->Value.okWide P w .any base t v)->DataW.TrodAll enc P w 0 sp held wP vs ds ps->∃xs,ga w (λ_=>False) xs vs/\Dx P wP xs
 |[],vs,ds,ps,_,_,h=>by
  obtain⟨rfl,rfl,rfl⟩:=trodAll_nil h;exact⟨[],by simp[ga],rfl⟩
 |t::wP,vs,ds,ps,ht,hv,h=>by
  obtain⟨v,vs1,d,ds1,a,b,rfl,rfl,rfl,h1,h2⟩:=trodAll_cons h;obtain⟨x,k1,k2⟩:=aeH hL (ht t (Zk ..)) (hv 0 t v rfl rfl) h1;obtain⟨xs,k3,k4⟩:=Mn hL (λu hu=>ht u (Zl _ hu)) (λj u y h1 h2=>hv (j+1) u y (by simpa using h1) (by simpa using h2)) h2;exact⟨x::xs,by simp only[ga];exact⟨v,vs1,rfl,k1,k3⟩,x,xs,rfl,k2,k4⟩
def E5{H:Type}{enc:TypeId×Value->H}{w w':World}{sp':Nat->Bool}{held:Bool}(hL:oD P L=true)(agC:held=true):∀{wP:List TypeId} {vs:List Value} {ds:List (DataW H)} {ps:List MemPlace},(∀t∈wP,t∈L)->
  DataW.TrodAll enc P w 0 (λ_=>true) held wP vs ds ps->(∀p∈ps,w.sameAt w' p)->(∀p∈ps,sp' p.block=true)->DataW.TrodAll enc P w' 0 sp' held wP vs ds ps
 |[],vs,ds,ps,_,h,_,_=>by
  obtain⟨rfl,rfl,rfl⟩:=trodAll_nil h;exact trodAll_mk0
 |t::wP,vs,ds,ps,ht,h,h1,h2=>by
  obtain⟨v,vs1,d,ds1,a,b,rfl,rfl,rfl,⟨n,k1⟩,k2⟩:=trodAll_cons h;refine trodAll_cons_mk ⟨n,DataW.trod_stays (PY hL) (λ{t e} ht hu=>?_) (λh=>by rw[agC]at h;cases h) (ht t (Zk ..)) k1 (λp hp=>h1 p (List.mem_append_left _ hp)) (λp hp=>h2 p (List.mem_append_left _ hp))⟩
   (E5 hL agC (λu hu=>ht u (Zl _ hu)) k2 (λp hp=>h1 p (Zch _ hp)) (λp hp=>h2 p (Zch _ hp)))
  have:=wo hL ht;simp only[wn,hu,mD,oS]at this;exact this.2
def Mo{H:Type}{enc:TypeId×Value->H}{w:World}{b:Nat}{sp:Nat->Bool}{held:Bool}:∀{wP:List TypeId} {vs:List Value} {ds:List (DataW H)} {ps:List MemPlace},DataW.TrodAll enc P w b sp held wP vs ds ps->ds.length=wP.length
 |[],vs,ds,ps,h=>by
  obtain⟨rfl,rfl,rfl⟩:=trodAll_nil h;rfl
 |t::wP,vs,ds,ps,h=>by
  obtain⟨v,vs1,d,ds1,a,b,rfl,rfl,rfl,h1,h2⟩:=trodAll_cons h;simp[Mo h2]
def JH{H:Type}{enc:TypeId×Value->H}{W:World}{args:Array Value}{ds gs:List (DataW H)}{cR:List MemPlace}{f:FuncId}{fn:Func}{s:ChangeSpec}{tb:TypeId}{apart fresh handsOn again:Bool}
  (hL:oD P L=true) (zm:∀t∈fn.params.toList,t∈L) (XK:fn.resultTypes= #[tb]) (hb:P.underlying tb=some .bool) (agD:s.vars=[]) (tz:∀ds:List (DataW H),ds.length=fn.params.size->s.fn H ds={results:=[.lit (.bool true)],args:=ds})
  (tA:∀xs,Dx P fn.params.toList xs->bu P f xs (.bool true))
  (dd:∀(j:Nat) t v,fn.params[j]? =some t->args[j]? =some v->Value.okWide P W .any base t v)
  (hW:DataW.Whole enc P fn.params.toList s.vars apart W args.toList ds gs cR) (hg:Hg W λ_=>False):
  Calls P f args W λe W'=>∃v,e=.returned v/\s.post enc P fn apart fresh handsOn again W args v W':=by
 have hW':=hW;obtain⟨p,q,hA,hV,rfl,hfz,zg⟩:=hW;rw[agD]at hV;obtain⟨rfl,rfl⟩:=trodVars_none hV;obtain⟨xs,hr,hx⟩:=Mn hL zm (λj t v h1 h2=>dd j t v (by simpa using h1) (by simpa using h2)) hA;have dN:ds.length=fn.params.size:=by
  have:=Mo hA;simpa using this
 refine((tA xs hx).agA hg hr).mono ?_;rintro e w' ⟨v,rfl,P0,hv⟩;simp only[bm]at hv;subst hv;have ef:=hW'.lt;have ze:∀sp:Nat->Bool,(∀x∈p,sp x.block=true)->DataW.TrodAll enc P w' 0 sp true fn.params.toList args.toList ds p:=λsp ou=>
  E5 hL rfl zm hA (λx hx=>P0.same (ef x (by simpa using hx))) ou
 have nz:∀(b:Nat) (sp:Nat->Bool) (hd:Bool),DataW.TrodAll enc P w' b sp hd fn.resultTypes.toList ((Value.bool true).resultList fn.resultTypes.size) [.lit (.bool true)] []:=λb sp hd=>by
  rw[XK];exact trodAll_cons_mk (shut_bool hb _) trodAll_mk0
 have he:s.fn H (ds++[])={results:=[.lit (.bool true)],args:=ds}:=by rw[wa];exact tz ds dN
 have hv0:∀sp:Nat->Bool,DataW.TrodVars enc P w' sp s.vars [] []:=λsp=>by rw[agD];rfl
 have hev:(s.fn H (ds++[])).vars=[]:=by rw[he]
 refine⟨_,rfl,ds,[],p++[],[],p,[],hW',by rw[he];exact nz _ _ _,by rw[he];exact ze _ (λx hx=>by simpa using ef x (by simpa using hx)),by rw[hev];exact hv0 _,P0.frame _,λ_=>?_⟩;refine⟨ok_one XK rfl (okWide_bool_mk hb _),_,_,([]++p)++[],⟨[]++p,[],trodAll_append (ze _ (λ_ _=>rfl)) (nz _ _ _),hv0 _,rfl, ?_, ?_⟩, ?_⟩
 ·intro b off hp;rw[P0.frozen (ef _ (by simpa using hp))];exact hfz b off (by simpa using hp)
 ·intro ha;simpa using zg ha
 ·intro x hx _;simpa using hx
end
inductive Ty where
 |bool|int (k:IntKind)|str
 |slice (e:Ty)
 |seq (fs:List Ty)
mutual
def Ty.qJ:Ty->aL->Prop
 |.bool,ts=>∃b,ts=[.bool b]
 |.int k,ts=>∃x,ts=[.int k x]/\(Lit.int k x).wf=true
 |.str,ts=>∃s,ts=[.str s]/\s.size<=maxLen
 |.slice e,ts=>∃av,ts=[.sl av]/\av.length<=maxLen/\∀r∈av,e.qJ r
 |.seq fs,ts=>Ty.lH fs ts
def Ty.lH:List Ty->aL->Prop
 |[],ts=>ts=[]
 |t::wP,ts=>∃a b,ts=a++b/\t.qJ a/\Ty.lH wP b
end
def Ty.arg:Ty->T->Prop
 |.seq fs,x=>∃ts,x=.agg ts/\Ty.lH fs ts
 |ty,x=>ty.qJ [x]
def Ty.args:List Ty->aL->Prop
 |[],xs=>xs=[]
 |t::wP,xs=>∃x mq,xs=x::mq/\t.arg x/\Ty.args wP mq
def tG(P:Program):Nat->TypeId->Option Ty
 |0,_=>none
 |n+1,t=>
  match P.underlying t with
  |some .bool=>some .bool
  |some (.int k)=>some (.int k)
  |some .string=>some .str
  |some (.slice e)=>(tG P n e).map .slice
  |some (.struct fs)=>(zn (tG P n) (fs.toList.map (·.type))).map .seq
  |some (.array k e)=>(tG P n e).map λx=>.seq (List.replicate k x)
  |_=>none
where
 zn (q:TypeId->Option Ty):List TypeId->Option (List Ty)
 |[]=>some []
 |t::ts=>match q t,zn q ts with
  |some x,some xs=>some (x::xs)
  |_,_=>none
section
variable{P:Program}
def Bb:∀(m n:Nat) (t:TypeId) (ty:Ty) (ts:aL),tG P m t=some ty->kJ P n t ts->ty.qJ ts:=by
 intro m;induction m with
 |zero=>intro n t ty ts h;simp[tG]at h
 |succ m ih=>
  intro n t ty ts h hs;cases n with
  |zero=>exact hs.elim
  |succ n=>
   unfold tG at h;unfold kJ at hs;split at h
   ·rename_i hu;rw[hu]at hs;cases h;simpa [Ty.qJ]using hs
   ·rename_i hu;rw[hu]at hs;cases h;simpa [Ty.qJ]using hs
   ·rename_i hu;rw[hu]at hs;cases h;simpa [Ty.qJ]using hs
   ·rename_i e hu;rw[hu]at hs;obtain⟨x,hx,rfl⟩:=iU.1 h;obtain⟨av,rfl,h1,h2⟩:=hs;simp only[Ty.qJ];exact⟨av,rfl,h1,λr hr=>ih n e x r hx (h2 r hr)⟩
   ·rename_i fs hu;rw[hu]at hs;obtain⟨x,hx,rfl⟩:=iU.1 h;simp only[Ty.qJ];have key:∀(wP:List TypeId) (xs:List Ty) (ts:aL),tG.zn (tG P m) wP=some xs->qb (kJ P n) wP ts->Ty.lH xs ts:=by
     intro wP;induction wP with
     |nil=>intro xs ts h hs;simp only[tG.zn,cu]at h;subst h;simpa [Ty.lH,qb]using hs
     |cons u wP ih2=>
      intro xs ts h hs;simp only[tG.zn]at h;split at h
      ·rename_i y ys hy qG;cases h;simp only[qb]at hs;obtain⟨a,b,rfl,h1,h2⟩:=hs;simp only[Ty.lH];exact⟨a,b,rfl,ih n u y a hy h1,ih2 ys b qG h2⟩
      ·cases h
    exact key _ _ _ hx hs
   ·rename_i k e hu;rw[hu]at hs;obtain⟨x,hx,rfl⟩:=iU.1 h;simp only[Ty.qJ];have key:∀(k:Nat) (ts:aL),qb (kJ P n) (List.replicate k e) ts->Ty.lH (List.replicate k x) ts:=by
     intro k;induction k with
     |zero=>intro ts hs;simpa [Ty.lH,qb]using hs
     |succ k ih2=>
      intro ts hs;simp only[Xb,qb]at hs;obtain⟨a,b,rfl,h1,h2⟩:=hs;simp only[Xb,Ty.lH];exact⟨a,b,rfl,ih n e x a hx h1,ih2 b h2⟩
    exact key k ts hs
   ·cases h
def alW{m n:Nat}{t:TypeId}{ty:Ty}{x:T}(h:tG P m t=some ty)(hs:rU P n t x):ty.arg x:=by
 cases m with
 |zero=>simp[tG]at h
 |succ m=>
  have h0:=h;unfold tG at h;unfold rU at hs;split at h
  ·rename_i hu;rw[hu]at hs;cases h;exact Bb _ _ _ _ _ h0 hs
  ·rename_i hu;rw[hu]at hs;cases h;exact Bb _ _ _ _ _ h0 hs
  ·rename_i hu;rw[hu]at hs;cases h;exact Bb _ _ _ _ _ h0 hs
  ·rename_i e hu;rw[hu]at hs;obtain⟨y,hy,rfl⟩:=iU.1 h;exact Bb _ _ _ _ _ h0 hs
  ·rename_i fs hu;rw[hu]at hs;obtain⟨y,hy,rfl⟩:=iU.1 h;obtain⟨ts,rfl,h2⟩:=hs;have:=Bb _ _ _ _ _ h0 h2;simp only[Ty.qJ]at this;exact⟨ts,rfl,this⟩
  ·rename_i k e hu;rw[hu]at hs;obtain⟨y,hy,rfl⟩:=iU.1 h;obtain⟨ts,rfl,h2⟩:=hs;have:=Bb _ _ _ _ _ h0 h2;simp only[Ty.qJ]at this;exact⟨ts,rfl,this⟩
  ·cases h
def SD{m:Nat}:∀{wP:List TypeId} {l:List Ty} {xs:aL},tG.zn (tG P m) wP=some l->Dx P wP xs->Ty.args l xs
 |[],l,xs,h,hs=>by simp only[tG.zn,cu]at h;subst h;exact hs
 |t::wP,l,xs,h,hs=>by
  simp only[tG.zn]at h;split at h
  ·rename_i y ys hy qG;cases h;obtain⟨x,mq,rfl,⟨n,h1⟩,h2⟩:=hs;exact⟨x,mq,rfl,alW hy h1,SD qG h2⟩
  ·cases h
end
end
end Go.DM
namespace Go.Proofs
open Go.DM
noncomputable abbrev aj:=Tryz.prog
instance arC:bM:=⟨[(0,[.int .i64 (1099511627776),.int .i64 (0),.int .i64 (-1),.int .i64 (0)])]⟩
def ajF:ai:=[
 B 0 1,
 o (.alloc [V 0,.aX,.aX]) 2 []]
def ajG:ai:=[
 L 3 1 11 [],
 o (.mkMap [(.int .i64),(.int .i64),(.int .i64)] true) 12 [],
 o (.build [.aX,.aX,V 0,(.v (.pO (Go.Value.map Option.none)))] [(0,3,(t 11)),(3,1,(t 12))]) 13 [0,1],
 o (.box (t 13)) 14 [2],
 m 14 3 [3,0,1,2,3]]
def ajH:ai:=[
 a 0 1 15 [],
 l 15 16 [0],
 N 16 17 [1],
 m 17 4 [2,0,1,2]]
def QL:ai:=[
 n 4 18,
 o (.bin .mul (i 2) (t 18)) 19 [0],
 C .add 19 1 20 [1],
 o (.bslice 1 1 [V 0] [(0,1,(i 1099511627776))]) 21 [],
 n 4 22,
 o (.bin .mul (i 2) (t 22)) 23 [4],
 C .add 23 1 24 [5],
 o (.callF 46 [(t 21),(t 24)]) 25 [3,6],
 o (.build [V 0,.aX,.aX] [(0,1,(t 20)),(2,1,(t 25))]) 26 [2,7],
 o (.alloc [V 0,.aX,.aX]) 5 [],
 S 3 5 26 (k [9,8,7] 9)]
def arD:ai:=QL.map bare
def ajI:ai:=[
 n 4 27,
 C .add 27 1 28 [0],
 I 0 29]
def ajJ:ai:=[
 b .lss 29 28 30 []]
def ajK:ai:=[
 n 29 31,
 m 31 6 [0,0]]
def QM:ai:=[
 n 3 32,
 n 6 33,
 o (.callS 47 [(t 32),(t 33)]) 34 [0,1]]
def arE:ai:=QM.map bare
def arF:ai:=[
 a 2 5 36 [],
 l 36 37 [0],
 n 6 38,
 o (.bin .mul (i 2) (t 38)) 39 [2],
 n 3 40,
 n 6 41,
 n 4 42,
 o (.call 48 [(t 40),(t 41),(t 42)]) 43 [4,5,6],
 m 43 35 [7],
 e 0 35 44 [8],
 e 1 35 45 [8],
 x 1 37 39 46 (k [1,3] 9),
 S 1 46 44 (k [11,9,7] 9)]
def ajL:ai:=[
 C .add 29 1 47 [],
 m 47 29 [0]]
def acx:ai:=[
 Z 7]
def acy:ai:=[
 n 3 48,
 c 48 49 [0],
 a 3 49 50 [1],
 l 50 51 [2],
 o (.rangeM (t 51)) 52 [3]]
def acz:ai:=[
 o (.entryM (t 52)) 55 [],
 e 0 55 56 [0],
 o (.alloc [V 0,V 0,V 0]) 8 [],
 S 3 8 56 [2,1,0,1,2]]
def acA:ai:=[
 n 7 57,
 L 3 8 58 [],
 o (.bslice 1 3 [V 0,V 0,V 0] [(0,3,(t 58))]) 59 [1],
 o (.append 104 3 24 (t 57) (t 59)) 60 [0,2],
 m 60 7 [3,3,0,1,2,3]]
def KD:ai:=[
 n 7 61,
 o (.callS 49 [(t 61),(.ia (.v (.fn (.func 50) [])))]) 62 [0]]
def amv:ai:=KD.map bare
def acB:ai:=[
 n 7 63,
 N 63 64 [0],
 I 0 65]
def acC:ai:=[
 b .lss 65 64 66 []]
def acD:ai:=[
 x 3 63 65 67 [],
 L 3 67 68 [0],
 o (.alloc [V 0,V 0,V 0]) 10 [],
 S 3 10 68 [2,1,0,1,2]]
def acE:ai:=[
 a 1 5 69 [],
 l 69 70 [0],
 n 3 71,
 c 71 72 [2],
 a 3 72 73 [3],
 l 73 74 [4],
 L 3 10 75 [],
 o (.lookup [(.int .i64),(.int .i64),(.int .i64)] true (.agg [(.v (.int .i64 0)),(.v (.int .i64 0)),(.v (.int .i64 0)),(.v (.int .i64 0)),.aX]) false (t 74) (t 75)) 76 [5,6],
 o (.bslice 1 5 [V 0,V 0,V 0,V 0,.aX] [(0,5,(t 76))]) 77 [7],
 o (.append 108 5 56 (t 70) (t 77)) 78 [1,8],
 a 1 5 79 (k [] 9),
 S 1 79 78 (k [10,9,9] 9)]
def acF:ai:=[
 C .add 65 1 80 [],
 m 80 65 [0]]
def acG:ai:=[
 L 3 5 81 [],
 S 3 2 81 [0,0]]
def d12:DC:=(j (y ajF) (j (y ajG) (j (y ajH) (j (y arD) (j (j (y ajI) (.block 0 (.loop (j (y ajJ) (j (.cond (.tmp 30) .skip (.exit 0)) (j (.block 1 (j (y ajK) (j (y arE) (Y arF)))) (y ajL))))))) (j (y acx) (j (j (y acy) (.block 2 (.loop (j (.Sx (.tmp 52) 53 54) (j (.cond (.tmp 54) .skip (.exit 2)) (.block 3 (j (y acz) (y acA)))))))) (j (y amv) (j (j (y acB) (.block 4 (.loop (j (y acC) (j (.cond (.tmp 66) .skip (.exit 4)) (j (.block 5 (j (y acD) (Y acE))) (y acF))))))) (j (y acG) .ret))))))))))
def acH:List dS:=[.cell 2 3 true]
def c12 [bM]:aB aj 29 82 d12 acH:=aB.of Tryz.f29 (by kernel_rfl)
def ajM:ai:=[
 n 0 12,
 c 12 13 [0],
 a 0 13 14 [1],
 a 0 14 15 [2],
 l 15 16 [3],
 N 16 17 [4],
 m 17 4 (k [5] 5)]
def ajN:ai:=[
 n 1 18,
 m 18 5 [0,0]]
def ajO:ai:=[
 n 5 19,
 n 4 20,
 b .leq 19 20 21 [0,1]]
def QN:ai:=[
 n 0 25,
 n 1 26,
 n 5 27,
 o (.callS 48 [(t 25),(t 26),(t 27)]) 28 [0,1,2],
 m 28 24 [3],
 e 0 24 29 [4],
 e 1 24 30 [4],
 m 29 6 (k [5,3] 5),
 m 30 7 (k [6,7] 7)]
def arG:ai:=QN.map bare
def ajP:ai:=[
 n 5 31,
 n 1 32,
 b .gtr 31 32 33 [0,1]]
def QO:ai:=[
 n 0 35,
 n 1 36,
 n 5 37,
 C .sub 37 1 38 [2],
 o (.callS 48 [(t 35),(t 36),(t 38)]) 39 [0,1,3],
 m 39 34 [4],
 e 0 34 40 [5],
 e 1 34 41 [5],
 m 40 8 (k [6,4] 6),
 m 41 9 (k [7,8] 8)]
def arH:ai:=QO.map bare
def QP:ai:=[
 n 0 42,
 n 1 43,
 n 5 44,
 C .sub 44 1 45 [2],
 n 8 46,
 n 9 47,
 o (.callS 74 [(t 42),(t 43),(t 45),(t 46),(t 47)]) 48 [0,1,3,4,5]]
def arI:ai:=QP.map bare
def ajQ:ai:=[
 n 0 49,
 c 49 50 [0],
 a 0 50 51 [1],
 a 1 51 52 [2],
 l 52 53 [3],
 N 53 54 [4],
 I 0 55]
def ajR:ai:=[
 b .lss 55 54 56 []]
def ajS:ai:=[
 n 55 57,
 x 1 53 55 58 [],
 l 58 59 [1],
 m 57 10 [0,0,1,2],
 m 59 11 [2,3,0,1,2,3]]
def KE:ai:=[
 n 0 60,
 n 1 61,
 o (.bin .mul (i 2) (t 61)) 62 [1],
 n 5 63,
 o (.bin .mul (i 2) (t 63)) 64 [3],
 n 10 65,
 n 6 66,
 n 11 67,
 b .add 66 67 68 [6,7],
 n 7 69,
 o (.callF 76 [(t 69)]) 70 [9],
 n 10 71,
 o (.build [V 0,V 0] [(0,1,(i 3)),(1,1,(t 71))]) 72 [11],
 o (.bslice 1 2 [V 0,V 0] [(0,2,(t 72))]) 73 [12],
 o (.append 117 2 16 (t 70) (t 73)) 74 [10,13,10],
 o (.build [V 0,V 0,V 0,V 0,.aX] [(0,1,(t 62)),(1,1,(t 64)),(2,1,(t 65)),(3,1,(t 68)),(4,1,(t 74))]) 75 [2,4,5,8,14],
 o (.callS 75 [(t 60),(t 75)]) 76 [0,15,14]]
def amw:ai:=KE.map bare
def acI:ai:=[
 C .add 55 1 77 [],
 m 77 55 [0]]
def KF:ai:=[
 n 0 78,
 n 5 79,
 o (.callS 77 [(t 78),(t 79)]) 80 [0,1]]
def amx:ai:=KF.map bare
def KG:ai:=[
 n 0 81,
 n 1 82,
 o (.bin .mul (i 2) (t 82)) 83 [1],
 n 5 84,
 o (.bin .mul (i 2) (t 84)) 85 [3],
 C .add 85 1 86 [4],
 n 0 87,
 c 87 88 [6],
 a 0 88 89 [7],
 a 0 89 90 [8],
 l 90 91 [9],
 n 5 92,
 C .add 92 1 93 [11],
 x 3 91 93 94 [10,12],
 a 0 94 95 [13],
 l 95 96 [14],
 n 6 97,
 n 0 98,
 c 98 99 [17],
 a 0 99 100 [18],
 a 2 100 101 [19],
 l 101 102 [20],
 b .add 97 102 103 [16,21],
 n 7 104,
 o (.callF 76 [(t 104)]) 105 [23],
 o (.build [V 0,V 0] [(0,1,(i 4))]) 106 [],
 o (.bslice 1 2 [V 0,V 0] [(0,2,(t 106))]) 107 [25],
 o (.append 117 2 16 (t 105) (t 107)) 108 [24,26,24],
 o (.build [V 0,V 0,V 0,V 0,.aX] [(0,1,(t 83)),(1,1,(t 86)),(2,1,(t 96)),(3,1,(t 103)),(4,1,(t 108))]) 109 [2,5,15,22,27],
 o (.callS 75 [(t 81),(t 109)]) 110 [0,28,27]]
def amy:ai:=KG.map bare
def acJ:ai:=[
 n 5 22,
 C .add 22 1 23 [0],
 m 23 5 [1,0,1]]
def KH:ai:=[
 n 0 111,
 n 1 112,
 o (.callS 77 [(t 111),(t 112)]) 113 [0,1]]
def amz:ai:=KH.map bare
def KJ:ai:=[
 n 0 114,
 n 1 115,
 o (.bin .mul (i 2) (t 115)) 116 [1],
 C .add 116 1 117 [2],
 n 1 118,
 o (.bin .mul (i 2) (t 118)) 119 [4],
 C .add 119 4 120 [5],
 n 0 121,
 c 121 122 [7],
 a 0 122 123 [8],
 a 0 123 124 [9],
 l 124 125 [10],
 n 1 126,
 x 3 125 126 127 [11,12],
 a 0 127 128 [13],
 l 128 129 [14],
 o (.build [V 0,V 0,V 0,V 0,.aX] [(0,1,(t 117)),(1,1,(t 120)),(2,1,(t 129))]) 130 [3,6,15],
 o (.callS 75 [(t 114),(t 130)]) 131 [0,16]]
def amA:ai:=KJ.map bare
def d30:DC:=(j (y ajM) (j (j (y ajN) (.block 0 (.loop (j (j (y ajO) (.cond (.tmp 21) .skip (.exit 0))) (j (.block 1 (j (y arG) (j (j (y ajP) (.cond (.tmp 33) (j (y arH) (y arI)) .skip)) (j (j (y ajQ) (.block 2 (.loop (j (y ajR) (j (.cond (.tmp 56) .skip (.exit 2)) (j (.block 3 (j (y ajS) (y amw))) (y acI))))))) (j (y amx) (.cond (.tmp 80) (.jQ amy) .skip)))))) (y acJ)))))) (j (y amz) (.cond (.tmp 113) (y amA) .skip))))
def acK:List dS:=[]
def c30 [bM]:aB aj 47 132 d30 acK:=aB.of Tryz.f47 (by kernel_rfl)
def ajT:ai:=[
 I 0 6,
 o (.sh (.ia .aX)) 7 [0]]
def ajU:ai:=[
 I 0 8]
def ajV:ai:=[
 Z 9]
def ajW:ai:=[
 n 0 12,
 c 12 13 [0],
 a 0 13 14 [1],
 a 0 14 15 [2],
 l 15 16 [3],
 n 1 17,
 n 2 18,
 o (.slice 3 (t 16) (some (t 17)) (some (t 18))) 19 [4,5,6],
 N 19 20 [7],
 I 0 21]
def ajX:ai:=[
 b .lss 21 20 22 []]
def ajY:ai:=[
 x 3 19 21 23 [],
 L 3 23 24 [0],
 o (.alloc [V 0,.aX,V 0]) 11 [],
 S 3 11 24 [2,1,0,1,2]]
def ajZ:ai:=[
 n 8 25,
 a 2 11 26 [],
 l 26 27 [1],
 b .add 25 27 28 [0,2],
 o (.minmax false (t 28) (i 1099511627776)) 29 [3],
 m 29 8 (k [4] 4)]
def aj0:ai:=[
 n 9 30,
 o (.build [V 0,V 0] [(0,1,(i 2))]) 31 [],
 o (.bslice 1 2 [V 0,V 0] [(0,2,(t 31))]) 32 [1],
 o (.append 117 2 16 (t 30) (t 32)) 33 [0,2],
 m 33 9 [3,3,0,1,2,3]]
def aj1:ai:=[
 C .add 21 1 34 [],
 m 34 21 [0]]
def aj2:ai:=[
 n 8 35,
 n 9 36,
 m 35 6 [0,0],
 m 36 7 [1,2,0,1,2]]
def d31:DC:=(j (y ajT) (j (y ajU) (j (y ajV) (j (j (y ajW) (.block 0 (.loop (j (y ajX) (j (.cond (.tmp 22) .skip (.exit 0)) (j (.block 1 (j (y ajY) (j (y ajZ) (y aj0)))) (y aj1))))))) (j (y aj2) .ret)))))
def acL:List dS:=[.oz 6,.oz 7]
def c31 [bM]:aB aj 48 37 d31 acL:=aB.of Tryz.f48 (by kernel_rfl)
def aj3:ai:=[
 n 0 12,
 c 12 13 [0],
 a 0 13 14 [1],
 a 0 14 15 [2],
 l 15 16 [3],
 n 2 17,
 x 3 16 17 18 [4,5],
 a 1 18 19 [6],
 l 19 20 [7],
 N 20 21 [8],
 I 0 22]
def aj4:ai:=[
 b .lss 22 21 23 []]
def aj5:ai:=[
 n 22 24,
 x 1 20 22 25 [],
 l 25 26 [1],
 m 24 10 [0,0,1,2],
 m 26 11 [2,3,0,1,2,3]]
def aj6:ai:=[
 n 11 27,
 C .geq 27 0 28 [0]]
def QQ:ai:=[
 n 0 29,
 n 1 30,
 o (.bin .mul (i 2) (t 30)) 31 [1],
 n 2 32,
 o (.bin .mul (i 2) (t 32)) 33 [3],
 C .add 33 2 34 [4],
 n 10 35,
 n 3 36,
 n 11 37,
 b .add 36 37 38 [7,8],
 n 4 39,
 o (.callF 76 [(t 39)]) 40 [10],
 n 10 41,
 o (.build [V 0,V 0] [(0,1,(i 1)),(1,1,(t 41))]) 42 [12],
 o (.bslice 1 2 [V 0,V 0] [(0,2,(t 42))]) 43 [13],
 o (.append 117 2 16 (t 40) (t 43)) 44 [11,14,11],
 o (.build [V 0,V 0,V 0,V 0,.aX] [(0,1,(t 31)),(1,1,(t 34)),(2,1,(t 35)),(3,1,(t 38)),(4,1,(t 44))]) 45 [2,5,6,9,15],
 o (.callS 75 [(t 29),(t 45)]) 46 [0,16,15]]
def arJ:ai:=QQ.map bare
def aj7:ai:=[
 C .add 22 1 47 [],
 m 47 22 [0]]
def d47:DC:=(j (y aj3) (.block 0 (.loop (j (y aj4) (j (.cond (.tmp 23) .skip (.exit 0)) (j (.block 1 (j (y aj5) (j (y aj6) (.cond (.tmp 28) (y arJ) .skip)))) (y aj7)))))))
def acM:List dS:=[]
def c47 [bM]:aB aj 74 48 d47 acM:=aB.of Tryz.f74 (by kernel_rfl)
def aj8:ai:=[
 B 1 3]
def aj9:ai:=[
 a 0 3 7 [],
 l 7 8 [0],
 a 1 3 9 [],
 l 9 10 [2],
 a 2 3 11 [],
 l 11 12 [4],
 o (.build [V 0,V 0,V 0] [(0,1,(t 8)),(1,1,(t 10)),(2,1,(t 12))]) 13 [1,3,5],
 o (.alloc [V 0,V 0,V 0]) 4 [],
 S 3 4 13 (k [7,6] 7)]
def acN:ai:=[
 n 0 15,
 c 15 16 [0],
 a 3 16 17 [1],
 l 17 18 [2],
 L 3 4 19 [],
 o (.lookup [(.int .i64),(.int .i64),(.int .i64)] true (.agg [(.v (.int .i64 0)),(.v (.int .i64 0)),(.v (.int .i64 0)),(.v (.int .i64 0)),.aX]) true (t 18) (t 19)) 20 [3,4],
 m 20 14 [5],
 e 0 14 21 [6],
 e 1 14 22 [6],
 o (.alloc [V 0,V 0,V 0,V 0,.aX]) 5 [],
 S 5 5 21 [9,7,0,1,2,3,4,5,6,7,9],
 m 22 6 (k [8,10] 10)]
def acO:ai:=[
 a 3 3 23 [],
 l 23 24 [0],
 C .lss 24 1099511627776 25 [1],
 m 25 26 [2],
 w 6 27 26 true [3],
 K 27 28 26 true [4,3],
 w 28 29 26 true [5,3,3],
 u 3 3 30 29 false [6],
 v 30 31 29 false [7,6],
 u 3 5 32 29 false [6],
 v 32 33 29 false [9,6],
 D .lss 31 33 34 29 false [8,10,6],
 g (.pick (t 29) (.ia (.v (.bool true))) (t 34)) 35 26 true [6,11,3],
 q 26 35 36 [3,12]]
def acP:ai:=[
 n 0 37,
 c 37 38 [0],
 a 3 38 39 [1],
 l 39 40 [2],
 L 3 4 41 [],
 L 5 3 42 [],
 s (.mapUpd [(.int .i64),(.int .i64),(.int .i64)] true (t 40) (t 41) (t 42)) (k [3,4,5] 5)]
def d48:DC:=(j (y aj8) (j (y aj9) (j (Y acN) (j (y acO) (.cond (.tmp 36) (Y acP) .skip)))))
def QR:List dS:=[]
def c48 [bM]:aB aj 75 43 d48 QR:=aB.of Tryz.f75 (by kernel_rfl)
def aka:ai:=[
 Z 2]
def acQ:ai:=[
 n 0 3,
 o (.isNil 0 false (t 3)) 4 [0]]
def akb:ai:=[
 Z 2]
def acR:ai:=[
 o (.bslice 0 2 [] []) 5 [],
 n 0 6,
 o (.append 117 2 16 (t 5) (t 6)) 7 [0,1],
 m 7 2 [2,2,0,1,2]]
def d49:DC:=(j (y aka) (j (j (y acQ) (.cond (.tmp 4) (j (y akb) .ret) .skip)) (j (y acR) .ret)))
def c49 [bM]:aB aj 76 8 d49 (dj 2):=aB.of Tryz.f76 (by kernel_rfl)
def akc:ai:=[
 F 4]
def akd:ai:=[
 n 0 6,
 c 6 7 [0],
 a 0 7 8 [1],
 a 0 8 9 [2],
 l 9 10 [3],
 m 10 5 (k [4] 4)]
def acS:ai:=[
 n 1 11,
 C .add 11 1 12 [0],
 n 5 13,
 N 13 14 [2],
 b .lss 12 14 15 [1,3],
 m 15 16 [4],
 w 0 17 16 true [5],
 g (.nilCheck (t 17)) 18 16 true [6,5],
 u 0 18 19 16 true [7,5],
 u 2 19 20 16 true [8,5],
 v 20 21 16 true [9,5],
 E .gtr 21 0 22 16 true [10,5],
 q 16 22 23 [5,11],
 m 23 24 [12,5],
 w 5 25 24 true [13],
 w 1 26 24 true [13],
 g (.idxAddr 3 (t 25) (t 26)) 27 24 true [14,15,13],
 u 0 27 28 24 true [16,13],
 v 28 29 24 true [17,13],
 E .geq 29 0 30 24 true [18,13],
 q 24 30 31 [13,19],
 m 31 32 [20,13],
 w 5 33 32 true [21],
 w 1 34 32 true [21],
 E .add 34 1 35 32 true [23,21],
 g (.idxAddr 3 (t 33) (t 35)) 36 32 true [22,24,21],
 u 0 36 37 32 true [25,21],
 v 37 38 32 true [26,21],
 E .geq 38 0 39 32 true [27,21],
 q 32 39 40 [21,28],
 m 40 4 (k [29,21] 29)]
def d50:DC:=(j (y akc) (j (y akd) (j (y acS) .ret)))
def c50 [bM]:aB aj 77 41 d50 (dj 4):=aB.of Tryz.f77 (by kernel_rfl)
def ake:ai:=[
 Z 4]
def akf:ai:=[
 n 1 9,
 C .lss 9 0 10 [0]]
def arK:ai:=[
 o (.fail) 11 [],
 s (.fail) [0]]
def akg:ai:=[
 n 0 13,
 N 13 14 [0],
 o (.conv .u64 (t 14)) 15 [1],
 n 1 16,
 o (.conv .u64 (t 16)) 17 [3],
 o (.call 73 [(t 15),(t 17)]) 18 [2,4],
 m 18 12 [5],
 e 0 12 19 [6],
 e 1 12 20 [6],
 m 19 5 (k [7,5] 7),
 m 20 6 (k [8,9] 9)]
def akh:ai:=[
 n 5 21,
 o (.bin .gtr (t 21) (.ia (.v (.int .u64 0)))) 22 [0],
 m 22 23 [1],
 w 6 24 23 false [2],
 g (.bin .gtr (t 24) (.ia (.v (.int .u64 9223372036854775807)))) 25 23 false [3,2],
 p 23 25 26 [2,4]]
def arL:ai:=[
 o (.fail) 27 [],
 s (.fail) [0]]
def aki:ai:=[
 n 6 28,
 o (.conv .i64 (t 28)) 29 [0],
 o (.mkSlice 3 1 8 [(.int .i64 0)] (t 29)) 30 [1,1],
 m 30 7 [2,0,1,2]]
def akj:ai:=[
 n 7 31,
 n 0 32,
 o (.copy 1 (t 31) (t 32)) 33 [0,1],
 m 33 8 [2,2,0,1,2]]
def akk:ai:=[
 n 8 34,
 n 7 35,
 N 35 36 [1],
 b .lss 34 36 37 [0,2]]
def akl:ai:=[
 n 8 38,
 n 7 39,
 n 8 40,
 o (.slice 1 (t 39) (some (t 40)) none) 41 [1,2],
 n 7 42,
 n 8 43,
 o (.slice 1 (t 42) none (some (t 43))) 44 [4,5],
 o (.copy 1 (t 41) (t 44)) 45 [3,6],
 b .add 38 45 46 [0,7],
 m 46 8 (k [8,7] 8)]
def acT:ai:=[
 n 7 47,
 m 47 4 [0,0]]
def d29:DC:=(j (y ake) (j (j (y akf) (.cond (.tmp 10) (y arK) .skip)) (j (y akg) (j (j (y akh) (.cond (.tmp 26) (y arL) .skip)) (j (y aki) (j (y akj) (j (.block 0 (.loop (j (j (y akk) (.cond (.tmp 37) .skip (.exit 0))) (.block 1 (Y akl))))) (j (y acT) .ret))))))))
def c29 [bM]:aB aj 46 48 d29 (dj 4):=aB.of Tryz.f46 (by kernel_rfl)
def akm:ai:=[
 B 0 2,
 B 1 3,
 I 0 4]
def akn:ai:=[
 a 0 2 5 [],
 l 5 6 [0],
 a 0 3 7 [],
 l 7 8 [2],
 o (.call 81 [(t 6),(t 8)]) 9 [1,3],
 a 1 2 10 [],
 l 10 11 [5],
 a 1 3 12 [],
 l 12 13 [7],
 o (.call 81 [(t 11),(t 13)]) 14 [6,8,4],
 a 2 2 15 [],
 l 15 16 [10],
 a 2 3 17 [],
 l 17 18 [12],
 o (.call 81 [(t 16),(t 18)]) 19 [11,13,9],
 o (.bslice 3 1 [V 0,V 0,V 0] [(0,1,(t 9)),(1,1,(t 14)),(2,1,(t 19))]) 20 [4,9,14],
 o (.call 80 [(t 20)]) 21 [15,14],
 m 21 4 (k [16,16] 16)]
def d33:DC:=(j (y akm) (j (Y akn) .ret))
def c33 [bM]:aB aj 50 22 d33 (dj 4):=aB.of Tryz.f50 (by kernel_rfl)
def ako:ai:=[
 I 0 2]
def akp:ai:=[
 I 0 3]
def akq:ai:=[
 n 0 6,
 N 6 7 [0],
 I 0 8]
def akr:ai:=[
 b .lss 8 7 9 []]
def aks:ai:=[
 x 1 6 8 10 [],
 l 10 11 [0],
 m 11 5 [1,0,1]]
def akt:ai:=[
 n 5 12,
 n 3 13,
 b .neq 12 13 14 [0,1]]
def aku:ai:=[
 n 5 15,
 m 15 2 [0,0]]
def akv:ai:=[
 C .add 8 1 16 [],
 m 16 8 [0]]
def akw:ai:=[
 n 3 17,
 m 17 2 [0,0]]
def d53:DC:=(j (y ako) (j (y akp) (j (j (y akq) (.block 0 (.loop (j (y akr) (j (.cond (.tmp 9) .skip (.exit 0)) (j (.block 1 (j (y aks) (j (y akt) (.cond (.tmp 14) (j (y aku) .ret) .skip)))) (y akv))))))) (j (y akw) .ret))))
def c53 [bM]:aB aj 80 18 d53 (dj 2):=aB.of Tryz.f80 (by kernel_rfl)
def MO:ai:=[
 I 0 4]
def MP:ai:=[
 n 0 7,
 o (.call 118 [(t 7)]) 8 [0],
 m 8 5 [1,1,0,1]]
def akx:ai:=[
 n 1 9,
 o (.call 118 [(t 9)]) 10 [0],
 m 10 6 [1,1,0,1]]
def aky:ai:=[
 n 5 11]
def arM:ai:=[
 n 6 12]
def arN:ai:=[
 I 0 4]
def arO:ai:=[
 I (-1) 4]
def akz:ai:=[
 n 6 13]
def arP:ai:=[
 I 1 4]
def akA:ai:=[
 n 0 14,
 n 1 15,
 b .lss 14 15 16 [0,1]]
def acU:ai:=[
 I (-1) 4]
def acV:ai:=[
 n 0 17,
 n 1 18,
 b .gtr 17 18 19 [0,1]]
def acW:ai:=[
 I 1 4]
def acX:ai:=[
 I 0 4]
def d54:DC:=(j (y MO) (j (y MP) (j (y akx) (j (j (y aky) (.cond (.tmp 11) (j (j (y arM) (.cond (.tmp 12) (j (y arN) .ret) .skip)) (j (y arO) .ret)) .skip)) (j (j (y akz) (.cond (.tmp 13) (j (y arP) .ret) .skip)) (j (j (y akA) (.cond (.tmp 16) (j (y acU) .ret) .skip)) (j (j (y acV) (.cond (.tmp 19) (j (y acW) .ret) .skip)) (j (y acX) .ret))))))))
def c54 [bM]:aB aj 81 20 d54 (dj 4):=aB.of Tryz.f81 (by kernel_rfl)
def akB:ai:=[
 F 2]
def akC:ai:=[
 n 0 3,
 n 0 4,
 b .neq 3 4 5 [0,1],
 m 5 2 [2,0,1,2]]
def d71:DC:=(j (y akB) (j (y akC) .ret))
def c71 [bM]:aB aj 118 6 d71 (dj 2):=aB.of Tryz.f118 (by kernel_rfl)
def akD:ai:=[
 o (.sh (.ia (.v (.int .u64 0)))) 4 [],
 o (.sh (.ia (.v (.int .u64 0)))) 5 [0]]
def arQ:ai:=[
 n 0 11,
 o (.conv .u32 (t 11)) 12 [0],
 n 1 13,
 o (.conv .u32 (t 13)) 14 [2],
 o (.call 106 [(t 12),(t 14)]) 15 [1,3],
 m 15 10 [4],
 e 0 10 16 [5],
 e 1 10 17 [5],
 m 16 6 (k [6,4] 6),
 m 17 7 (k [7,8] 8)]
def arR:ai:=[
 n 6 18,
 o (.conv .u64 (t 18)) 19 [0],
 n 7 20,
 o (.conv .u64 (t 20)) 21 [2],
 m 19 4 [1,0,1],
 m 21 5 (k [3,4] 4)]
def akE:ai:=[
 n 0 23,
 n 1 24,
 o (.call 107 [(t 23),(t 24)]) 25 [0,1],
 m 25 22 [2],
 e 0 22 26 [3],
 e 1 22 27 [3],
 m 26 8 (k [4,2] 4),
 m 27 9 (k [5,6] 6)]
def akF:ai:=[
 n 8 28,
 n 9 29,
 m 28 4 [0,0],
 m 29 5 [1,2,0,1,2]]
def d46:DC:=(j (y akD) (j (.cond (.ia (.v (.bool false))) (j (y arQ) (j (y arR) .ret)) .skip) (j (y akE) (j (y akF) .ret))))
def acY:List dS:=[.oz 4,.oz 5]
def c46 [bM]:aB aj 73 30 d46 acY:=aB.of Tryz.f73 (by kernel_rfl)
def MQ:ai:=[
 o (.sh (.ia (.v (.int .u64 0)))) 4 [],
 o (.sh (.ia (.v (.int .u64 0)))) 5 [0]]
def CL:ai:=[
 n 0 14,
 o (.bin .and (t 14) (.ia (.v (.int .u64 4294967295)))) 15 [0],
 m 15 6 [1,0,1]]
def MR:ai:=[
 n 0 16,
 o (.bin .shr (t 16) (.ia (.v (.int .u64 32)))) 17 [0],
 m 17 7 [1,0,1]]
def MS:ai:=[
 n 1 18,
 o (.bin .and (t 18) (.ia (.v (.int .u64 4294967295)))) 19 [0],
 m 19 8 [1,0,1]]
def Tb:ai:=[
 n 1 20,
 o (.bin .shr (t 20) (.ia (.v (.int .u64 32)))) 21 [0],
 m 21 9 [1,0,1]]
def Tc:ai:=[
 n 6 22,
 n 8 23,
 b .mul 22 23 24 [0,1],
 m 24 10 [2,0,1,2]]
def akG:ai:=[
 n 7 25,
 n 8 26,
 b .mul 25 26 27 [0,1],
 n 10 28,
 o (.bin .shr (t 28) (.ia (.v (.int .u64 32)))) 29 [3],
 b .add 27 29 30 [2,4],
 m 30 11 (k [5] 5)]
def akH:ai:=[
 n 11 31,
 o (.bin .and (t 31) (.ia (.v (.int .u64 4294967295)))) 32 [0],
 m 32 12 [1,0,1]]
def akI:ai:=[
 n 11 33,
 o (.bin .shr (t 33) (.ia (.v (.int .u64 32)))) 34 [0],
 m 34 13 [1,0,1]]
def akJ:ai:=[
 n 12 35,
 n 6 36,
 n 9 37,
 b .mul 36 37 38 [1,2],
 b .add 35 38 39 [0,3],
 m 39 12 (k [4] 4)]
def acZ:ai:=[
 n 7 40,
 n 9 41,
 b .mul 40 41 42 [0,1],
 n 13 43,
 b .add 42 43 44 [2,3],
 n 12 45,
 o (.bin .shr (t 45) (.ia (.v (.int .u64 32)))) 46 [5],
 b .add 44 46 47 [4,6],
 m 47 4 (k [7] 7)]
def ac0:ai:=[
 n 0 48,
 n 1 49,
 b .mul 48 49 50 [0,1],
 m 50 5 [2,0,1,2]]
def d60:DC:=(j (y MQ) (j (y CL) (j (y MR) (j (y MS) (j (y Tb) (j (y Tc) (j (y akG) (j (y akH) (j (y akI) (j (y akJ) (j (y acZ) (j (y ac0) .ret))))))))))))
def x9:List dS:=[.oz 4,.oz 5]
def c60 [bM]:aB aj 107 51 d60 x9:=aB.of Tryz.f107 (by kernel_rfl)
def follows:aj.follows .mixedOrders=true:=by kernel_rfl
abbrev fw:=follows
namespace cD
def agK:ai:=[
 B 0 2,
 B 1 3,
 F 4]
def MH:ai:=[
 a 0 2 5 [],
 l 5 6 [0],
 a 0 3 7 [],
 l 7 8 [2],
 b .lss 6 8 9 [1,3],
 m 9 10 [4],
 u 0 2 11 10 false [5],
 v 11 12 10 false [6,5],
 u 0 3 13 10 false [5],
 v 13 14 10 false [8,5],
 D .eql 12 14 15 10 false [7,9,5],
 w 15 16 10 false [10,5,5],
 u 1 2 17 16 true [11],
 v 17 18 16 true [12,11],
 u 1 3 19 16 true [11],
 v 19 20 16 true [14,11],
 D .lss 18 20 21 16 true [13,15,11],
 g (.pick (t 16) (t 21) (.ia (.v (.bool false)))) 22 10 false [11,16,5],
 p 10 22 23 [5,17],
 m 23 4 (k [18,11] 18)]
def d92:DC:=(j (y agK) (j (y MH) .ret))
def c92 [bM]:aB aj 97 24 d92 (dj 4):=aB.of Tryz.f97 (by kernel_rfl)
def agL:ai:=[
 o (.alloc [V 0,V 0]) 4 []]
def agM:ai:=[
 n 0 8,
 m 8 5 [0,0],
 o (.sh (i 1)) 6 [1,0,1]]
def agN:ai:=[
 I 0 7]
def agO:ai:=[
 n 7 9,
 n 1 10,
 N 10 11 [1],
 b .lss 9 11 12 [0,2]]
def agP:ai:=[
 n 5 15,
 n 1 16,
 n 7 17,
 x 2 16 17 18 [1,2],
 a 0 18 19 [3],
 l 19 20 [4],
 b .add 15 20 21 [0,5],
 o (.minmax false (t 21) (i 1099511627776)) 22 [6],
 n 6 23,
 n 1 24,
 n 7 25,
 x 2 24 25 26 [9,10],
 a 1 26 27 [11],
 l 27 28 [12],
 b .add 23 28 29 [8,13],
 o (.minmax false (t 29) (i 1099511627776)) 30 [14],
 m 22 5 (k [7] 7),
 m 30 6 (k [15,16] 16)]
def agQ:ai:=[
 n 7 13,
 C .add 13 1 14 [0],
 m 14 7 [1,0,1]]
def agR:ai:=[
 n 5 31,
 C .geq 31 1099511627776 32 [0]]
def agS:ai:=[
 o (.build [V 0,V 0] [(0,1,(i 1099511627776))]) 33 [],
 S 2 4 33 [0,0]]
def agT:ai:=[
 n 5 34,
 n 6 35,
 o (.build [V 0,V 0] [(0,1,(t 34)),(1,1,(t 35))]) 36 [0,1],
 S 2 4 36 [2,0,1,2]]
def d69:DC:=(j (y agL) (j (y agM) (j (j (y agN) (.block 0 (.loop (j (j (y agO) (.cond (.tmp 12) .skip (.exit 0))) (j (.block 1 (Y agP)) (y agQ)))))) (j (j (y agR) (.cond (.tmp 32) (j (y agS) .ret) .skip)) (j (y agT) .ret)))))
def Qd:List dS:=[.cell 4 2 true]
def c69 [bM]:aB aj 95 37 d69 Qd:=aB.of Tryz.f95 (by kernel_rfl)
def agU:ai:=[
 B 0 2,
 Z 4]
def agV:ai:=[
 Z 5]
def agW:ai:=[
 I 0 6]
def agX:ai:=[
 n 6 7,
 a 1 2 8 [],
 l 8 9 [1],
 N 9 10 [2],
 b .lss 7 10 11 [0,3]]
def agY:ai:=[
 n 5 14,
 n 1 15,
 a 1 2 16 [],
 l 16 17 [2],
 n 6 18,
 x 1 17 18 19 [3,4],
 l 19 20 [5],
 x 2 15 20 21 [1,6],
 L 2 21 22 [7],
 o (.bslice 1 2 [V 0,V 0] [(0,2,(t 22))]) 23 [8],
 o (.append 63 2 16 (t 14) (t 23)) 24 [0,9],
 m 24 5 (k [10,10] 10)]
def agZ:ai:=[
 n 6 12,
 C .add 12 1 13 [0],
 m 13 6 [1,0,1]]
def ag0:ai:=[
 n 5 25,
 m 25 4 [0,0]]
def d91:DC:=(j (y agU) (j (y agV) (j (j (y agW) (.block 0 (.loop (j (j (y agX) (.cond (.tmp 11) .skip (.exit 0))) (j (.block 1 (y agY)) (y agZ)))))) (j (y ag0) .ret))))
def c91 [bM]:aB aj 96 26 d91 (dj 4):=aB.of Tryz.f96 (by kernel_rfl)
def ag1:ai:=[
 B 0 1,
 Z 2,
 o (.sh (.ia .aX)) 3 [1]]
def ag2:ai:=[
 a 0 1 14 [],
 l 14 15 [0],
 o (.mkSlice 63 2 16 [(.int .i64 0),(.int .i64 0)] (t 15)) 16 [1,1],
 m 16 4 [2,0,1,2]]
def ag3:ai:=[
 a 0 1 17 [],
 l 17 18 [0],
 o (.mkSlice 3 1 8 [(.int .i64 0)] (t 18)) 19 [1,1],
 m 19 5 [2,0,1,2]]
def ag4:ai:=[
 I 0 6]
def ag5:ai:=[
 n 6 20,
 a 0 1 21 [],
 l 21 22 [1],
 b .lss 20 22 23 [0,2]]
def ag6:ai:=[
 n 4 26,
 n 6 27,
 n 5 28,
 n 6 29,
 o (.build [V 0,V 0] [(0,1,(i 1099511627776))]) 30 [],
 x 2 26 27 31 [0,1,0,1,4],
 S 2 31 30 [5,4,0,1,4],
 x 1 28 29 32 (k [2,3] 6),
 s (.store 1 (t 32) (i (-1))) (k [7,6] 6)]
def ag7:ai:=[
 n 6 24,
 C .add 24 1 25 [0],
 m 25 6 [1,0,1]]
def ag8:ai:=[
 R 7]
def ag9:ai:=[
 n 7 33]
def aha:ai:=[
 F 7]
def aaX:ai:=[
 I 0 8]
def aaY:ai:=[
 n 8 34,
 a 1 1 35 [],
 l 35 36 [1],
 N 36 37 [2],
 b .lss 34 37 38 [0,3]]
def aaZ:ai:=[
 a 1 1 41 [],
 l 41 42 [0],
 n 8 43,
 x 5 42 43 44 [1,2],
 L 5 44 45 [3],
 o (.alloc [V 0,.aX,V 0,V 0,V 0]) 9 [],
 S 5 9 45 (k [5,4] 5)]
def JV:ai:=[
 a 2 9 46 [],
 l 46 47 [0],
 L 5 9 48 [],
 n 4 49,
 o (.callF 96 [(t 48),(t 49)]) 50 [2,3],
 o (.call 95 [(t 47),(t 50)]) 51 [1,4,4],
 o (.alloc [V 0,V 0]) 10 [],
 S 2 10 51 (k [6,5,5] 6)]
def amb:ai:=JV.map bare
def aa0:ai:=[
 L 2 10 52 [],
 n 4 53,
 a 0 9 54 [],
 l 54 55 [2],
 x 2 53 55 56 [1,3],
 L 2 56 57 [4],
 o (.call 97 [(t 52),(t 57)]) 58 [0,5]]
def aa1:ai:=[
 n 4 59,
 a 0 9 60 [],
 l 60 61 [1],
 L 2 10 62 [],
 x 2 59 61 63 [0,2,0,1,2,3],
 S 2 63 62 [4,3,0,1,2,3]]
def aa2:ai:=[
 R 7]
def Qe:ai:=[
 n 8 39,
 C .add 39 1 40 [0],
 m 40 8 [1,0,1]]
def aa3:ai:=[
 a 1 1 64 [],
 l 64 65 [0],
 N 65 66 [1],
 C .sub 66 1 67 [2],
 m 67 11 [3,0,1,2,3]]
def aa4:ai:=[
 n 11 68,
 C .geq 68 0 69 [0]]
def aa5:ai:=[
 a 1 1 72 [],
 l 72 73 [0],
 n 11 74,
 x 5 73 74 75 [1,2],
 L 5 75 76 [3],
 o (.alloc [V 0,.aX,V 0,V 0,V 0]) 12 [],
 S 5 12 76 (k [5,4] 5)]
def aa6:ai:=[
 n 4 77,
 a 0 12 78 [],
 l 78 79 [1],
 x 2 77 79 80 [0,2],
 L 2 80 81 [3],
 o (.alloc [V 0,V 0]) 13 [],
 S 2 13 81 (k [5,4] 5)]
def zJ:ai:=[
 a 0 13 82 [],
 l 82 83 [0],
 C .lss 83 1099511627776 84 [1],
 m 84 85 [2],
 u 2 12 86 85 true [3],
 v 86 87 85 true [4,3],
 g (.load 5 true (t 12)) 88 85 true [3],
 w 4 89 85 true [3],
 g (.callF 96 [(t 88),(t 89)]) 90 85 true [6,7,3,3],
 g (.call 95 [(t 87),(t 90)]) 91 85 true [5,8,8,3],
 g (.load 2 true (t 13)) 92 85 true [3],
 g (.eqT false true [(.int .i64),(.int .i64)] (t 91) (t 92)) 93 85 true [9,10,3],
 q 85 93 94 [3,11]]
def amc:ai:=zJ.map bare
def aa7:ai:=[
 n 5 95,
 a 0 12 96 [],
 l 96 97 [1],
 n 11 98,
 x 1 95 97 99 [0,2,0,1,2,3],
 S 1 99 98 [4,3,0,1,2,3]]
def Qf:ai:=[
 n 11 70,
 C .sub 70 1 71 [0],
 m 71 11 [1,0,1]]
def aa8:ai:=[
 n 4 100,
 n 5 101,
 m 100 2 [0,0],
 m 101 3 [1,2,0,1,2]]
def d66:DC:=(j (y ag1) (j (y ag2) (j (y ag3) (j (j (y ag4) (.block 0 (.loop (j (j (y ag5) (.cond (.tmp 23) .skip (.exit 0))) (j (.block 1 (y ag6)) (y ag7)))))) (j (j (y ag8) (.block 2 (.loop (j (j (y ag9) (.cond (.tmp 33) .skip (.exit 2))) (.block 3 (j (y aha) (j (y aaX) (.block 4 (.loop (j (j (y aaY) (.cond (.tmp 38) .skip (.exit 4))) (j (.block 5 (j (y aaZ) (j (Y amb) (j (Y aa0) (.cond (.tmp 58) (j (y aa1) (y aa2)) .skip))))) (y Qe)))))))))))) (j (j (y aa3) (.block 6 (.loop (j (j (y aa4) (.cond (.tmp 69) .skip (.exit 6))) (j (.block 7 (j (y aa5) (j (y aa6) (j (Y amc) (.cond (.tmp 94) (y aa7) .skip))))) (y Qf)))))) (j (y aa8) .ret)))))))
def aa9:List dS:=[.oz 2,.oz 3]
def c66 [bM]:aB aj 61 102 d66 aa9:=aB.of Tryz.f61 (by kernel_rfl)
def ahb:ai:=[
 B 0 1,
 Z 2]
def ahc:ai:=[
 a 0 1 3 [],
 l 3 4 [0]]
def ahd:ai:=[
 C .eql 4 3 6 [],
 m 6 5 [0]]
def ahe:ai:=[
 a 2 1 7 [],
 l 7 8 [0],
 o (.bslice 1 1 [V 0] [(0,1,(t 8))]) 9 [1],
 m 9 2 [2,0,1,2]]
def ahf:ai:=[
 C .eql 4 4 11 [],
 m 11 10 [0]]
def ahg:ai:=[
 a 2 1 12 [],
 l 12 13 [0],
 a 3 1 14 [],
 l 14 15 [2],
 o (.bslice 2 1 [V 0,V 0] [(0,1,(t 13)),(1,1,(t 15))]) 16 [1,3],
 m 16 2 (k [4] 4)]
def ahh:ai:=[
 Z 2]
def d93:DC:=(j (y ahb) (j (j (y ahc) (.block 0 (j (y ahd) (.cond (.tmp 5) (j (y ahe) .ret) (j (y ahf) (.cond (.tmp 10) (j (y ahg) .ret) .skip)))))) (j (y ahh) .ret)))
def c93 [bM]:aB aj 98 17 d93 (dj 2):=aB.of Tryz.f98 (by kernel_rfl)
def ahi:ai:=[
 B 0 2,
 o (.alloc [V 0,.aX]) 4 []]
def ahj:ai:=[
 Z 5]
def ahk:ai:=[
 I 0 6]
def ahl:ai:=[
 n 6 9,
 a 3 2 10 [],
 l 10 11 [1],
 N 11 12 [2],
 b .lss 9 12 13 [0,3]]
def ahm:ai:=[
 a 3 2 16 [],
 l 16 17 [0],
 n 6 18,
 x 6 17 18 19 [1,2],
 L 6 19 20 [3],
 o (.alloc [V 0,V 0,V 0,V 0,V 0,V 0]) 7 [],
 S 6 7 20 (k [5,4] 5)]
def ahn:ai:=[
 a 4 7 21 [],
 l 21 22 [0],
 m 22 8 [1,0,1]]
def aho:ai:=[
 a 0 7 23 [],
 l 23 24 [0],
 C .eql 24 2 25 [1]]
def ahp:ai:=[
 n 8 26,
 n 1 27,
 a 2 7 28 [],
 l 28 29 [2],
 x 1 27 29 30 [1,3],
 l 30 31 [4],
 b .add 26 31 32 [0,5],
 m 32 8 (k [6] 6)]
def aba:ai:=[
 n 5 33,
 a 1 7 34 [],
 l 34 35 [1],
 L 6 7 36 [],
 o (.call 98 [(t 36)]) 37 [3],
 n 8 38,
 o (.build [V 0,.aX,V 0,V 0,V 0] [(0,1,(t 35)),(1,1,(t 37)),(2,1,(t 38))]) 39 [2,4,5],
 o (.bslice 1 5 [V 0,.aX,V 0,V 0,V 0] [(0,5,(t 39))]) 40 [6],
 o (.append 157 5 56 (t 33) (t 40)) 41 [0,7,4],
 m 41 5 (k [8,8] 8)]
def abb:ai:=[
 n 6 14,
 C .add 14 1 15 [0],
 m 15 6 [1,0,1]]
def abc:ai:=[
 a 1 2 42 [],
 l 42 43 [0],
 n 5 44,
 o (.build [V 0,.aX] [(0,1,(t 43)),(1,1,(t 44))]) 45 [1,2],
 S 2 4 45 [3,0,1,2,3]]
def d67:DC:=(j (y ahi) (j (y ahj) (j (j (y ahk) (.block 0 (.loop (j (j (y ahl) (.cond (.tmp 13) .skip (.exit 0))) (j (.block 1 (j (y ahm) (j (y ahn) (j (j (y aho) (.cond (.tmp 25) (y ahp) .skip)) (Y aba))))) (y abb)))))) (j (y abc) .ret))))
def abd:List dS:=[.cell 4 2 true]
def c67 [bM]:aB aj 62 46 d67 abd:=aB.of Tryz.f62 (by kernel_rfl)
def ahq:ai:=[
 B 0 2,
 F 4]
def ahr:ai:=[
 n 1 6,
 N 6 7 [0],
 a 0 2 8 [],
 l 8 9 [2],
 b .neq 7 9 10 [1,3]]
def ahs:ai:=[
 F 4]
def aht:ai:=[
 I 0 5]
def ahu:ai:=[
 n 5 11,
 n 1 12,
 N 12 13 [1],
 b .lss 11 13 14 [0,2]]
def ST:ai:=[
 n 1 17,
 n 5 18,
 x 1 17 18 19 [0,1],
 l 19 20 [2],
 C .lss 20 1 21 [3],
 m 21 22 [4],
 w 1 23 22 false [5],
 w 5 24 22 false [5],
 g (.idxAddr 1 (t 23) (t 24)) 25 22 false [6,7,5],
 v 25 26 22 false [8,5],
 E .gtr 26 60000 27 22 false [9,5],
 p 22 27 28 [5,10]]
def ahv:ai:=[
 F 4]
def ahw:ai:=[
 n 5 15,
 C .add 15 1 16 [0],
 m 16 5 [1,0,1]]
def ahx:ai:=[
 R 4]
def d44:DC:=(j (y ahq) (j (j (y ahr) (.cond (.tmp 10) (j (y ahs) .ret) .skip)) (j (j (y aht) (.block 0 (.loop (j (j (y ahu) (.cond (.tmp 14) .skip (.exit 0))) (j (.block 1 (j (y ST) (.cond (.tmp 28) (j (y ahv) .ret) .skip))) (y ahw)))))) (j (y ahx) .ret))))
def c44 [bM]:aB aj 35 29 d44 (dj 4):=aB.of Tryz.f35 (by kernel_rfl)
def MI:ai:=[
 B 0 2,
 Z 4]
def Fq:ai:=[
 L 4 2 7 [],
 o (.call 34 [(t 7)]) 8 [0],
 U 8 9 [1],
 m 9 10 [2,1],
 g (.load 4 true (t 2)) 11 10 false [3],
 w 1 12 10 false [3],
 g (.call 35 [(t 11),(t 12)]) 13 10 false [4,5,3,3],
 K 13 14 10 false [6,3],
 p 10 14 15 [3,7]]
def MJ:ai:=[
 Z 4]
def MK:ai:=[
 L 4 2 17 [],
 n 1 18,
 o (.call 62 [(t 17),(t 18)]) 19 [0,1],
 o (.call 61 [(t 19)]) 20 [2,2],
 m 20 16 [3],
 e 0 16 21 [4],
 e 1 16 22 [4],
 m 21 5 (k [5,3] 5),
 m 22 6 (k [6,7] 7)]
def ML:ai:=[
 n 5 23,
 m 23 4 [0,0]]
def d45:DC:=(j (y MI) (j (j (y Fq) (.cond (.tmp 15) (j (y MJ) .ret) .skip)) (j (y MK) (j (y ML) .ret))))
def c45 [bM]:aB aj 36 24 d45 (dj 4):=aB.of Tryz.f36 (by kernel_rfl)
def ahy:ai:=[
 B 0 2,
 F 4]
def SU:ai:=[
 L 4 2 7 [],
 o (.call 34 [(t 7)]) 8 [0],
 U 8 9 [1],
 m 9 10 [2,1],
 g (.load 4 true (t 2)) 11 10 false [3],
 w 1 12 10 false [3],
 g (.call 35 [(t 11),(t 12)]) 13 10 false [4,5,3,3],
 K 13 14 10 false [6,3],
 p 10 14 15 [3,7]]
def ahz:ai:=[
 F 4]
def ahA:ai:=[
 L 4 2 16 [],
 n 1 17,
 o (.call 36 [(t 16),(t 17)]) 18 [0,1],
 m 18 5 [2,2,0,1,2]]
def ahB:ai:=[
 I 0 6]
def ahC:ai:=[
 n 6 19,
 n 5 20,
 N 20 21 [1],
 b .lss 19 21 22 [0,2]]
def ahD:ai:=[
 n 5 25,
 n 6 26,
 x 2 25 26 27 [0,1],
 a 1 27 28 [2],
 l 28 29 [3],
 C .gtr 29 1000 30 [4]]
def ahE:ai:=[
 F 4]
def ahF:ai:=[
 n 6 23,
 C .add 23 1 24 [0],
 m 24 6 [1,0,1]]
def ahG:ai:=[
 R 4]
def d22:DC:=(j (y ahy) (j (j (y SU) (.cond (.tmp 15) (j (y ahz) .ret) .skip)) (j (y ahA) (j (j (y ahB) (.block 0 (.loop (j (j (y ahC) (.cond (.tmp 22) .skip (.exit 0))) (j (.block 1 (j (y ahD) (.cond (.tmp 30) (j (y ahE) .ret) .skip))) (y ahF)))))) (j (y ahG) .ret)))))
def c22 [bM]:aB aj 22 31 d22 (dj 4):=aB.of Tryz.f22 (by kernel_rfl)
def ahH:ai:=[
 B 0 1,
 F 2]
def zK:ai:=[
 a 0 1 6 [],
 l 6 7 [0],
 C .lss 7 0 8 [1],
 m 8 9 [2],
 u 0 1 10 9 false [3],
 v 10 11 9 false [4,3],
 E .gtr 11 120 12 9 false [5,3],
 p 9 12 13 [3,6],
 m 13 14 [7,3],
 u 1 1 15 14 false [8],
 v 15 16 14 false [9,8],
 E .lss 16 1 17 14 false [10,8],
 p 14 17 18 [8,11],
 m 18 19 [12,8],
 u 1 1 20 19 false [13],
 v 20 21 19 false [14,13],
 E .gtr 21 1000 22 19 false [15,13],
 p 19 22 23 [13,16],
 m 23 24 [17,13],
 u 2 1 25 24 false [18],
 v 25 26 24 false [19,18],
 E .lss 26 0 27 24 false [20,18],
 p 24 27 28 [18,21],
 m 28 29 [22,18],
 u 2 1 30 29 false [23],
 v 30 31 29 false [24,23],
 u 1 1 32 29 false [23],
 v 32 33 29 false [26,23],
 D .geq 31 33 34 29 false [25,27,23],
 p 29 34 35 [23,28],
 m 35 36 [29,23],
 u 3 1 37 36 false [30],
 v 37 38 36 false [31,30],
 H 38 39 36 false [32,30],
 E .gtr 39 600 40 36 false [33,30],
 p 36 40 41 [30,34]]
def ahI:ai:=[
 F 2]
def ahJ:ai:=[
 I 0 3]
def ahK:ai:=[
 n 3 42,
 a 3 1 43 [],
 l 43 44 [1],
 N 44 45 [2],
 b .lss 42 45 46 [0,3]]
def ahL:ai:=[
 a 3 1 49 [],
 l 49 50 [0],
 n 3 51,
 x 6 50 51 52 [1,2],
 L 6 52 53 [3],
 o (.alloc [V 0,V 0,V 0,V 0,V 0,V 0]) 4 [],
 S 6 4 53 (k [5,4] 5)]
def Fs:ai:=[
 a 1 4 54 [],
 l 54 55 [0],
 C .lss 55 0 56 [1],
 m 56 57 [2],
 u 1 4 58 57 false [3],
 v 58 59 57 false [4,3],
 u 1 1 60 57 false [3],
 v 60 61 57 false [6,3],
 D .geq 59 61 62 57 false [5,7,3],
 p 57 62 63 [3,8],
 m 63 64 [9,3],
 u 4 4 65 64 false [10],
 v 65 66 64 false [11,10],
 E .lss 66 0 67 64 false [12,10],
 p 64 67 68 [10,13],
 m 68 69 [14,10],
 u 4 4 70 69 false [15],
 v 70 71 69 false [16,15],
 E .gtr 71 1000 72 69 false [17,15],
 p 69 72 73 [15,18],
 m 73 74 [19,15],
 u 5 4 75 74 false [20],
 v 75 76 74 false [21,20],
 E .lss 76 (-1) 77 74 false [22,20],
 p 74 77 78 [20,23]]
def ahM:ai:=[
 F 2]
def ahN:ai:=[
 F 5]
def ahO:ai:=[
 a 0 4 79 [],
 l 79 80 [0]]
def abe:ai:=[
 C .eql 80 1 82 [],
 m 82 81 [0]]
def JW:ai:=[
 a 2 4 83 [],
 l 83 84 [0],
 C .eql 84 0 85 [1],
 m 85 86 [2],
 u 3 4 87 86 true [3],
 v 87 88 86 true [4,3],
 E .eql 88 0 89 86 true [5,3],
 q 86 89 90 [3,6],
 m 90 5 (k [7,3] 7)]
def abf:ai:=[
 C .eql 80 2 92 [],
 m 92 91 [0]]
def Ft:ai:=[
 a 2 4 93 [],
 l 93 94 [0],
 C .geq 94 0 95 [1],
 m 95 96 [2],
 u 2 4 97 96 true [3],
 v 97 98 96 true [4,3],
 u 0 1 99 96 true [3],
 v 99 100 96 true [6,3],
 D .lss 98 100 101 96 true [5,7,3],
 q 96 101 102 [3,8],
 m 102 103 [9,3],
 u 3 4 104 103 true [10],
 v 104 105 103 true [11,10],
 E .eql 105 0 106 103 true [12,10],
 q 103 106 107 [10,13],
 m 107 5 (k [14,10] 14)]
def abg:ai:=[
 C .eql 80 3 109 [],
 m 109 108 [0]]
def Fu:ai:=[
 a 2 4 110 [],
 l 110 111 [0],
 C .geq 111 0 112 [1],
 m 112 113 [2],
 u 2 4 114 113 true [3],
 v 114 115 113 true [4,3],
 u 1 1 116 113 true [3],
 v 116 117 113 true [6,3],
 D .lss 115 117 118 113 true [5,7,3],
 q 113 118 119 [3,8],
 m 119 120 [9,3],
 u 3 4 121 120 true [10],
 v 121 122 120 true [11,10],
 E .eql 122 0 123 120 true [12,10],
 q 120 123 124 [10,13],
 m 124 5 (k [14,10] 14)]
def abh:ai:=[
 C .eql 80 4 126 [],
 m 126 125 [0]]
def Bn:ai:=[
 a 2 4 127 [],
 l 127 128 [0],
 C .geq 128 0 129 [1],
 m 129 130 [2],
 u 2 4 131 130 true [3],
 v 131 132 130 true [4,3],
 u 1 1 133 130 true [3],
 v 133 134 130 true [6,3],
 D .lss 132 134 135 130 true [5,7,3],
 q 130 135 136 [3,8],
 m 136 137 [9,3],
 u 3 4 138 137 true [10],
 v 138 139 137 true [11,10],
 E .geq 139 0 140 137 true [12,10],
 q 137 140 141 [10,13],
 m 141 142 [14,10],
 u 3 4 143 142 true [15],
 v 143 144 142 true [16,15],
 u 1 1 145 142 true [15],
 v 145 146 142 true [18,15],
 D .lss 144 146 147 142 true [17,19,15],
 q 142 147 148 [15,20],
 m 148 5 (k [21,15] 21)]
def Bo:ai:=[
 n 5 149,
 U 149 150 [0]]
def Bp:ai:=[
 F 2]
def Bq:ai:=[
 n 3 47,
 C .add 47 1 48 [0],
 m 48 3 [1,0,1]]
def abi:ai:=[
 R 2]
def d20:DC:=(j (y ahH) (j (j (y zK) (.cond (.tmp 41) (j (y ahI) .ret) .skip)) (j (j (y ahJ) (.block 0 (.loop (j (j (y ahK) (.cond (.tmp 46) .skip (.exit 0))) (j (.block 1 (j (y ahL) (j (j (y Fs) (.cond (.tmp 78) (j (y ahM) .ret) .skip)) (j (y ahN) (j (j (y ahO) (.block 2 (j (y abe) (.cond (.tmp 81) (y JW) (j (y abf) (.cond (.tmp 91) (y Ft) (j (y abg) (.cond (.tmp 108) (y Fu) (j (y abh) (.cond (.tmp 125) (y Bn) .skip)))))))))) (j (y Bo) (.cond (.tmp 150) (j (y Bp) .ret) .skip))))))) (y Bq)))))) (j (y abi) .ret))))
def c20 [bM]:aB aj 34 151 d20 (dj 2):=aB.of Tryz.f34 (by kernel_rfl)
def ahP:ai:=[
 B 0 3,
 I 0 6]
def ahQ:ai:=[
 n 1 8,
 a 1 3 9 [],
 l 9 10 [1],
 b .mul 8 10 11 [0,2],
 n 1 12,
 n 1 13,
 C .sub 13 1 14 [5],
 b .mul 12 14 15 [4,6],
 C .quo 15 2 16 [7],
 b .sub 11 16 17 [3,8],
 m 17 7 (k [9] 9)]
def ahR:ai:=[
 n 7 18,
 n 2 19,
 b .add 18 19 20 [0,1],
 n 1 21,
 b .sub 20 21 22 [2,3],
 a 0 3 23 [],
 l 23 24 [5],
 b .mul 22 24 25 [4,6],
 m 25 6 (k [7] 7)]
def d64:DC:=(j (y ahP) (j (y ahQ) (j (y ahR) .ret)))
def c64 [bM]:aB aj 151 26 d64 (dj 6):=aB.of Tryz.f151 (by kernel_rfl)
def ahS:ai:=[
 B 0 2,
 B 1 3,
 o (.alloc [V 0,V 0,V 0,V 0]) 4 []]
def Fv:ai:=[
 a 0 3 7 [],
 l 7 8 [0],
 C .lss 8 0 9 [1],
 m 9 10 [2],
 u 0 3 11 10 false [3],
 v 11 12 10 false [4,3],
 u 0 2 13 10 false [3],
 v 13 14 10 false [6,3],
 D .geq 12 14 15 10 false [5,7,3],
 p 10 15 16 [3,8],
 m 16 17 [9,3],
 u 1 3 18 17 false [10],
 v 18 19 17 false [11,10],
 E .lss 19 0 20 17 false [12,10],
 p 17 20 21 [10,13],
 m 21 22 [14,10],
 u 1 3 23 22 false [15],
 v 23 24 22 false [16,15],
 u 2 3 25 22 false [15],
 v 25 26 22 false [18,15],
 D .gtr 24 26 27 22 false [17,19,15],
 p 22 27 28 [15,20],
 m 28 29 [21,15],
 u 2 3 30 29 false [22],
 v 30 31 29 false [23,22],
 u 1 2 32 29 false [22],
 v 32 33 29 false [25,22],
 D .geq 31 33 34 29 false [24,26,22],
 p 29 34 35 [22,27]]
def ahT:ai:=[
 o (.load 4 true (.ia (.jd [(.int .i64 1099511627776),(.int .i64 0),(.int .i64 (-1)),(.int .i64 0)] 0))) 36 [],
 S 4 4 36 [0,0]]
def ahU:ai:=[
 a 2 2 37 [],
 l 37 38 [0],
 N 38 39 [1],
 m 39 5 [2,0,1,2]]
def MM:ai:=[
 a 2 3 40 [],
 l 40 41 [0],
 n 5 42,
 b .gtr 41 42 43 [1,2],
 m 43 44 [3],
 u 1 3 45 44 false [4],
 v 45 46 44 false [5,4],
 E .gtr 46 0 47 44 false [6,4],
 w 47 48 44 false [7,4,4],
 u 1 2 49 48 true [8],
 v 49 50 48 true [9,8],
 w 5 51 48 true [8],
 D .gtr 50 51 52 48 true [10,11,8],
 g (.pick (t 48) (t 52) (.ia (.v (.bool false)))) 53 44 false [8,12,4],
 p 44 53 54 [4,13],
 m 54 55 [14,8],
 u 2 3 56 55 false [15],
 v 56 57 55 false [16,15],
 E .gtr 57 0 58 55 false [17,15],
 w 58 59 55 false [18,15,15],
 u 0 2 60 59 true [19],
 v 60 61 59 true [20,19],
 w 5 62 59 true [19],
 D .gtr 61 62 63 59 true [21,22,19],
 g (.pick (t 59) (t 63) (.ia (.v (.bool false)))) 64 55 false [19,23,15],
 p 55 64 65 [15,24],
 m 65 66 [25,19],
 u 0 3 67 66 false [26],
 v 67 68 66 false [27,26],
 w 5 69 66 false [26],
 D .geq 68 69 70 66 false [28,29,26],
 p 66 70 71 [26,30]]
def apI:ai:=[
 o (.load 4 true (.ia (.jd [(.int .i64 1099511627776),(.int .i64 0),(.int .i64 (-1)),(.int .i64 0)] 0))) 72 [],
 S 4 4 72 [0,0]]
def ahV:ai:=[
 L 3 2 73 [],
 a 1 3 74 [],
 l 74 75 [1],
 a 2 3 76 [],
 l 76 77 [3],
 o (.call 151 [(t 73),(t 75),(t 77)]) 78 [0,2,4],
 a 0 3 79 [],
 l 79 80 [6],
 b .add 78 80 81 [5,7],
 m 81 6 (k [8,5] 8)]
def ahW:ai:=[
 n 6 82,
 n 5 83,
 b .geq 82 83 84 [0,1]]
def apJ:ai:=[
 o (.load 4 true (.ia (.jd [(.int .i64 1099511627776),(.int .i64 0),(.int .i64 (-1)),(.int .i64 0)] 0))) 85 [],
 S 4 4 85 [0,0]]
def ahX:ai:=[
 a 2 2 86 [],
 l 86 87 [0],
 n 6 88,
 x 4 87 88 89 [1,2],
 L 4 89 90 [3],
 S 4 4 90 (k [4] 4)]
def d37:DC:=(j (y ahS) (j (j (y Fv) (.cond (.tmp 35) (j (y ahT) .ret) .skip)) (j (y ahU) (j (j (y MM) (.cond (.tmp 71) (j (y apI) .ret) .skip)) (j (Y ahV) (j (j (y ahW) (.cond (.tmp 84) (j (y apJ) .ret) .skip)) (j (y ahX) .ret)))))))
def Qg:List dS:=[.cell 4 4 true]
def c37:aB aj 144 91 d37 Qg:=aB.of Tryz.f144 (by kernel_rfl)
def ahY:ai:=[
 B 0 2,
 B 1 3,
 F 4]
def MN:ai:=[
 a 0 2 5 [],
 l 5 6 [0],
 a 0 3 7 [],
 l 7 8 [2],
 b .lss 6 8 9 [1,3],
 m 9 10 [4],
 u 0 2 11 10 false [5],
 v 11 12 10 false [6,5],
 u 0 3 13 10 false [5],
 v 13 14 10 false [8,5],
 D .eql 12 14 15 10 false [7,9,5],
 w 15 16 10 false [10,5,5],
 u 1 2 17 16 true [11],
 v 17 18 16 true [12,11],
 u 1 3 19 16 true [11],
 v 19 20 16 true [14,11],
 D .lss 18 20 21 16 true [13,15,11],
 g (.pick (t 16) (t 21) (.ia (.v (.bool false)))) 22 10 false [11,16,5],
 p 10 22 23 [5,17],
 m 23 4 (k [18,11] 18)]
def d56:DC:=(j (y ahY) (j (y MN) .ret))
def c56 [bM]:aB aj 84 24 d56 (dj 4):=aB.of Tryz.f84 (by kernel_rfl)
def ahZ:ai:=[
 o (.alloc [V 0,V 0]) 4 []]
def ah0:ai:=[
 n 0 8,
 o (.minmax false (t 8) (i 1099511627776)) 9 [0],
 o (.build [V 0,V 0] [(0,1,(t 9)),(1,1,(i 1))]) 10 [1],
 o (.alloc [V 0,V 0]) 5 [],
 S 2 5 10 [3,2,0,1,2,3]]
def ah1:ai:=[
 n 1 11,
 N 11 12 [0],
 I 0 13]
def ah2:ai:=[
 b .lss 13 12 14 []]
def ah3:ai:=[
 x 2 11 13 15 [],
 L 2 15 16 [0],
 o (.alloc [V 0,V 0]) 7 [],
 S 2 7 16 [2,1,0,1,2]]
def ah4:ai:=[
 a 0 5 17 [],
 l 17 18 [0],
 a 0 7 19 [],
 l 19 20 [2],
 b .add 18 20 21 [1,3],
 o (.minmax false (t 21) (i 1099511627776)) 22 [4],
 a 0 5 23 (k [] 5),
 S 1 23 22 (k [6,5] 5)]
def ah5:ai:=[
 a 1 5 24 [],
 l 24 25 [0],
 a 1 7 26 [],
 l 26 27 [2],
 b .add 25 27 28 [1,3],
 o (.minmax false (t 28) (i 1099511627776)) 29 [4],
 a 1 5 30 (k [] 5),
 S 1 30 29 (k [6,5] 5)]
def ah6:ai:=[
 C .add 13 1 31 [],
 m 31 13 [0]]
def ah7:ai:=[
 a 0 5 32 [],
 l 32 33 [0],
 C .eql 33 1099511627776 34 [1]]
def ah8:ai:=[
 o (.build [V 0,V 0] [(0,1,(i 1099511627776))]) 35 [],
 S 2 4 35 [0,0]]
def abj:ai:=[
 L 2 5 36 [],
 S 2 4 36 [0,0]]
def d84:DC:=(j (y ahZ) (j (y ah0) (j (j (y ah1) (.block 0 (.loop (j (y ah2) (j (.cond (.tmp 14) .skip (.exit 0)) (j (.block 1 (j (y ah3) (j (y ah4) (y ah5)))) (y ah6))))))) (j (j (y ah7) (.cond (.tmp 34) (j (y ah8) .ret) .skip)) (j (y abj) .ret)))))
def Qh:List dS:=[.cell 4 2 true]
def c84 [bM]:aB aj 123 37 d84 Qh:=aB.of Tryz.f123 (by kernel_rfl)
def ah9:ai:=[
 B 0 2,
 F 4]
def Fw:ai:=[
 a 0 2 5 [],
 l 5 6 [0],
 C .eql 6 3 7 [1],
 m 7 8 [2],
 u 2 2 9 8 true [3],
 v 9 10 8 true [4,3],
 w 1 11 8 true [3],
 D .eql 10 11 12 8 true [5,6,3],
 q 8 12 13 [3,7],
 m 13 14 [8,3],
 u 0 2 15 14 false [9],
 v 15 16 14 false [10,9],
 E .eql 16 4 17 14 false [11,9],
 w 17 18 14 false [12,9,9],
 u 2 2 19 18 true [13],
 v 19 20 18 true [14,13],
 w 1 21 18 true [13],
 D .eql 20 21 22 18 true [15,16,13],
 w 22 23 18 true [17,13,13],
 u 3 2 24 23 false [18],
 v 24 25 23 false [19,18],
 w 1 26 23 false [18],
 D .eql 25 26 27 23 false [20,21,18],
 g (.pick (t 23) (.ia (.v (.bool true))) (t 27)) 28 18 true [18,22,13],
 g (.pick (t 18) (t 28) (.ia (.v (.bool false)))) 29 14 false [13,23,9],
 p 14 29 30 [9,24],
 m 30 4 (k [25,18] 25)]
def d86:DC:=(j (y ah9) (j (y Fw) .ret))
def c86 [bM]:aB aj 125 31 d86 (dj 4):=aB.of Tryz.f125 (by kernel_rfl)
def aia:ai:=[
 o (.alloc [V 0,V 0]) 8 []]
def SW:ai:=[
 n 2 9,
 n 0 10,
 c 10 11 [1],
 a 10 11 12 [2],
 l 12 13 [3],
 b .eql 9 13 14 [0,4],
 m 14 15 [5],
 w 3 16 15 true [6],
 w 0 17 15 true [6],
 g (.nilCheck (t 17)) 18 15 true [8,6],
 u 11 18 19 15 true [9,6],
 v 19 20 15 true [10,6],
 D .eql 16 20 21 15 true [7,11,6],
 q 15 21 22 [6,12]]
def aib:ai:=[
 n 0 23,
 c 23 24 [0],
 a 12 24 25 [1],
 l 25 26 [2],
 n 1 27,
 x 2 26 27 28 [3,4],
 L 2 28 29 [5],
 S 2 8 29 (k [6] 6)]
def aic:ai:=[
 n 0 30,
 c 30 31 [0],
 a 7 31 32 [1],
 L 3 32 33 [2],
 n 1 34,
 n 2 35,
 n 3 36,
 o (.build [V 0,V 0,V 0] [(0,1,(t 34)),(1,1,(t 35)),(2,1,(t 36))]) 37 [4,5,6],
 o (.call 144 [(t 33),(t 37)]) 38 [3,7],
 o (.field 0 2 true (t 38)) 39 [8],
 S 2 8 39 (k [9,8] 9)]
def d83:DC:=(j (y aia) (j (j (y SW) (.cond (.tmp 22) (j (y aib) .ret) .skip)) (j (y aic) .ret)))
def Qi:List dS:=[.cell 8 2 true]
def c83 [bM]:aB aj 122 40 d83 Qi:=aB.of Tryz.f122 (by kernel_rfl)
def abk:ai:=[
 F 4]
def abl:ai:=[
 n 1 7,
 N 7 8 [0],
 I 0 9]
def abm:ai:=[
 b .lss 9 8 10 []]
def aid:ai:=[
 x 3 7 9 11 [],
 L 3 11 12 [0],
 o (.alloc [V 0,V 0,V 0]) 6 [],
 S 3 6 12 [2,1,0,1,2]]
def SX:ai:=[
 a 1 6 13 [],
 l 13 14 [0],
 n 0 15,
 c 15 16 [2],
 a 10 16 17 [3],
 l 17 18 [4],
 b .eql 14 18 19 [1,5],
 m 19 20 [6],
 u 2 6 21 20 true [7],
 v 21 22 20 true [8,7],
 w 0 23 20 true [7],
 g (.nilCheck (t 23)) 24 20 true [10,7],
 u 11 24 25 20 true [11,7],
 v 25 26 20 true [12,7],
 D .eql 22 26 27 20 true [9,13,7],
 q 20 27 28 [7,14]]
def aie:ai:=[
 R 4]
def aif:ai:=[
 C .add 9 1 29 [],
 m 29 9 [0]]
def abn:ai:=[
 F 4]
def d59:DC:=(j (y abk) (j (j (y abl) (.block 0 (.loop (j (y abm) (j (.cond (.tmp 10) .skip (.exit 0)) (j (.block 1 (j (y aid) (j (Y SX) (.cond (.tmp 28) (j (y aie) .ret) .skip)))) (y aif))))))) (j (y abn) .ret)))
def c59 [bM]:aB aj 87 30 d59 (dj 4):=aB.of Tryz.f87 (by kernel_rfl)
def abo:ai:=[
 o (.alloc [V 0,V 0]) 6 []]
def abp:ai:=[
 Z 7]
def abq:ai:=[
 n 2 10,
 N 10 11 [0],
 I 0 12]
def abr:ai:=[
 b .lss 12 11 13 []]
def aig:ai:=[
 x 3 10 12 14 [],
 L 3 14 15 [0],
 o (.alloc [V 0,V 0,V 0]) 9 [],
 S 3 9 15 [2,1,0,1,2]]
def Qj:ai:=[
 n 7 16,
 n 0 17,
 a 0 9 18 [],
 l 18 19 [2],
 a 1 9 20 [],
 l 20 21 [4],
 a 2 9 22 [],
 l 22 23 [6],
 o (.callS 122 [(t 17),(t 19),(t 21),(t 23)]) 24 [1,3,5,7],
 o (.bslice 1 2 [V 0,V 0] [(0,2,(t 24))]) 25 [8],
 o (.append 63 2 16 (t 16) (t 25)) 26 [0,9,8],
 m 26 7 (k [10,10] 10)]
def apK:ai:=Qj.map bare
def aih:ai:=[
 C .add 12 1 27 [],
 m 27 12 [0]]
def abs:ai:=[
 n 1 28,
 n 7 29,
 o (.call 123 [(t 28),(t 29)]) 30 [0,1],
 S 2 6 30 [2,2,0,1,2]]
def d61:DC:=(j (y abo) (j (y abp) (j (j (y abq) (.block 0 (.loop (j (y abr) (j (.cond (.tmp 13) .skip (.exit 0)) (j (.block 1 (j (y aig) (y apK))) (y aih))))))) (j (y abs) .ret))))
def Qk:List dS:=[.cell 6 2 true]
def c61 [bM]:aB aj 89 31 d61 Qk:=aB.of Tryz.f89 (by kernel_rfl)
def aii:ai:=[
 F 4]
def aij:ai:=[
 n 1 7,
 N 7 8 [0],
 I 0 9]
def aik:ai:=[
 b .lss 9 8 10 []]
def ail:ai:=[
 x 3 7 9 11 [],
 L 3 11 12 [0],
 o (.alloc [V 0,V 0,V 0]) 6 [],
 S 3 6 12 [2,1,0,1,2]]
def SY:ai:=[
 a 1 6 13 [],
 l 13 14 [0],
 n 0 15,
 c 15 16 [2],
 a 10 16 17 [3],
 l 17 18 [4],
 b .eql 14 18 19 [1,5],
 m 19 20 [6],
 u 2 6 21 20 true [7],
 v 21 22 20 true [8,7],
 w 0 23 20 true [7],
 g (.nilCheck (t 23)) 24 20 true [10,7],
 u 11 24 25 20 true [11,7],
 v 25 26 20 true [12,7],
 D .eql 22 26 27 20 true [9,13,7],
 q 20 27 28 [7,14],
 m 28 29 [15,7],
 w 0 30 29 true [16],
 g (.nilCheck (t 30)) 31 29 true [17,16],
 u 13 31 32 29 true [18,16],
 v 32 33 29 true [19,16],
 u 0 6 34 29 true [16],
 v 34 35 29 true [21,16],
 g (.idxAddr 1 (t 33) (t 35)) 36 29 true [20,22,16],
 v 36 37 29 true [23,16],
 K 37 38 29 true [24,16],
 q 29 38 39 [16,25]]
def aim:ai:=[
 F 4]
def ain:ai:=[
 C .add 9 1 40 [],
 m 40 9 [0]]
def aio:ai:=[
 R 4]
def d89:DC:=(j (y aii) (j (j (y aij) (.block 0 (.loop (j (y aik) (j (.cond (.tmp 10) .skip (.exit 0)) (j (.block 1 (j (y ail) (j (Y SY) (.cond (.tmp 39) (j (y aim) .ret) .skip)))) (y ain))))))) (j (y aio) .ret)))
def c89 [bM]:aB aj 128 41 d89 (dj 4):=aB.of Tryz.f128 (by kernel_rfl)
def MO:ai:=[
 o (.sh (.ia (.v (.pO (Go.Value.pointer Option.none))))) 2 []]
def MP:ai:=[
 n 0 3,
 o (.mkMap [(.int .i64)] false) 4 [],
 o (.build [(.v (.pO (Go.Value.nilFunc))),.aX,(.v (.pO (Go.Value.map Option.none))),V 0,V 0] [(0,1,(t 3)),(2,1,(t 4))]) 5 [0,1],
 o (.box (t 5)) 6 [2],
 m 6 2 [3,0,1,2,3]]
def d54:DC:=(j (y MO) (j (y MP) .ret))
def c54 [bM]:aB aj 82 7 d54 (dj 2):=aB.of Tryz.f82 (by kernel_rfl)
def abt:ai:=[
 F 6]
def Ql:ai:=[
 n 0 9,
 c 9 10 [0],
 a 1 10 11 [1],
 l 11 12 [2],
 n 1 13,
 x 3 12 13 14 [3,4],
 L 3 14 15 [5],
 n 0 16,
 c 16 17 [7],
 a 1 17 18 [8],
 l 18 19 [9],
 n 2 20,
 x 3 19 20 21 [10,11],
 L 3 21 22 [12],
 o (.alloc [V 0,V 0,V 0]) 7 [],
 o (.alloc [V 0,V 0,V 0]) 8 [],
 S 3 7 15 [14,6,0,1,2,3,4,5,6,14,15],
 S 3 8 22 (k [15,13,16] 16)]
def abu:ai:=[
 n 0 23,
 c 23 24 [0],
 a 0 24 25 [1],
 l 25 26 [2],
 a 0 7 27 [],
 l 27 28 [4],
 a 0 8 29 [],
 l 29 30 [6],
 o (.callv (t 26) [(t 28),(t 30)]) 31 [3,5,7]]
def abv:ai:=[
 R 6]
def Qm:ai:=[
 n 0 32,
 c 32 33 [0],
 a 0 33 34 [1],
 l 34 35 [2],
 a 0 8 36 [],
 l 36 37 [4],
 a 0 7 38 [],
 l 38 39 [6],
 o (.callv (t 35) [(t 37),(t 39)]) 40 [3,5,7],
 U 40 41 [8],
 m 41 42 [9,8],
 u 2 7 43 42 true [10],
 v 43 44 42 true [11,10],
 u 2 8 45 42 true [10],
 v 45 46 42 true [13,10],
 D .lss 44 46 47 42 true [12,14,10],
 q 42 47 48 [10,15],
 m 48 6 (k [16,10] 16)]
def aui:DC:=(j (y abt) (j (.jQ Ql) (j (j (Y abu) (.cond (.tmp 31) (j (y abv) .ret) .skip)) (j (Y Qm) .ret))))
def auj [bM]:aB aj 150 49 aui (dj 6):=aB.of Tryz.f150 (by kernel_rfl)
def abw:ai:=[
 n 0 6,
 c 6 7 [0],
 a 1 7 8 [1],
 l 8 9 [2],
 n 1 10,
 n 0 11,
 c 11 12 [5],
 a 1 12 13 [6],
 l 13 14 [7],
 n 2 15,
 n 0 16,
 c 16 17 [10],
 a 1 17 18 [11],
 l 18 19 [12],
 n 2 20,
 x 3 19 20 21 [13,14],
 L 3 21 22 [15],
 n 0 23,
 c 23 24 [17],
 a 1 24 25 [18],
 l 25 26 [19],
 n 1 27,
 x 3 26 27 28 [20,21],
 L 3 28 29 [22],
 x 3 9 10 30 [3,4,0,1,2,3,4,8,10,11,12,13,14,15,16,20,23],
 S 3 30 22 [24,16,0,1,2,3,4,8,10,11,12,13,14,15,16,20,23],
 x 3 14 15 31 (k [8,9] 25),
 S 3 31 29 (k [26,23,25] 25)]
def abx:ai:=[
 n 0 32,
 c 32 33 [0],
 a 2 33 34 [1],
 l 34 35 [2],
 n 0 36,
 c 36 37 [4],
 a 1 37 38 [5],
 l 38 39 [6],
 n 1 40,
 x 3 39 40 41 [7,8],
 a 1 41 42 [9],
 l 42 43 [10],
 n 0 44,
 c 44 45 [12],
 a 2 45 46 [13],
 l 46 47 [14],
 n 0 48,
 c 48 49 [16],
 a 1 49 50 [17],
 l 50 51 [18],
 n 2 52,
 x 3 51 52 53 [19,20],
 a 1 53 54 [21],
 l 54 55 [22],
 n 1 56,
 n 2 57,
 o (.mapEnt [(.int .i64)] false (.v (.int .i64 0)) (t 35) (t 43)) 58 [3,11,15,19,23],
 e 1 58 59 [26],
 s (.entSt (t 35) (t 59) (t 56)) [3,27,24,26,0,1,2,3,4,5,6,7,8,9,10,11,15,19,23,24,26],
 o (.mapEnt [(.int .i64)] false (.v (.int .i64 0)) (t 47) (t 55)) 60 [15,23,28,0,1,2,3,4,5,6,7,8,9,10,11,15,19,23,24,26,27,28],
 e 1 60 61 [29],
 s (.entSt (t 47) (t 61) (t 57)) (k [15,30,25,29] 29)]
def auk:DC:=(j (Y abw) (Y abx))
def SZ:List dS:=[]
def aul [bM]:aB aj 145 62 auk SZ:=aB.of Tryz.f145 (by kernel_rfl)
def zL:ai:=[
 n 1 4,
 C .gtr 4 0 5 [0],
 m 5 6 [1],
 w 0 7 6 true [2],
 w 1 8 6 true [2],
 w 1 9 6 true [2],
 E .sub 9 1 10 6 true [5,2],
 E .quo 10 2 11 6 true [6,2],
 g (.callS 150 [(t 7),(t 8),(t 11)]) 12 6 true [3,4,7,2,2],
 q 6 12 13 [2,8]]
def amd:ai:=zL.map bare
def JX:ai:=[
 n 0 14,
 n 1 15,
 n 1 16,
 C .sub 16 1 17 [2],
 C .quo 17 2 18 [3],
 o (.callS 145 [(t 14),(t 15),(t 18)]) 19 [0,1,4]]
def ame:ai:=JX.map bare
def aby:ai:=[
 n 1 20,
 C .sub 20 1 21 [0],
 C .quo 21 2 22 [1],
 m 22 1 [2,0,1,2]]
def aum:DC:=(.block 0 (.loop (j (j (y amd) (.cond (.tmp 13) .skip (.exit 0))) (.block 1 (j (y ame) (y aby))))))
def JY:List dS:=[]
def aun [bM]:aB aj 142 23 aum JY:=aB.of Tryz.f142 (by kernel_rfl)
def abz:ai:=[
 n 1 6,
 m 6 4 [0,0]]
def abA:ai:=[
 n 1 7,
 o (.bin .mul (i 2) (t 7)) 8 [0],
 C .add 8 1 9 [1],
 m 9 5 [2,0,1,2]]
def JZ:ai:=[
 n 5 10,
 n 1 11,
 o (.bin .mul (i 2) (t 11)) 12 [1],
 C .add 12 2 13 [2],
 b .leq 10 13 14 [0,3],
 m 14 15 [4],
 w 5 16 15 true [5],
 w 0 17 15 true [5],
 g (.nilCheck (t 17)) 18 15 true [7,5],
 u 1 18 19 15 true [8,5],
 v 19 20 15 true [9,5],
 H 20 21 15 true [10,5],
 D .lss 16 21 22 15 true [6,11,5],
 q 15 22 23 [5,12]]
def J1:ai:=[
 n 0 26,
 n 5 27,
 n 4 28,
 o (.callS 150 [(t 26),(t 27),(t 28)]) 29 [0,1,2]]
def amf:ai:=J1.map bare
def abB:ai:=[
 n 5 30,
 m 30 4 [0,0]]
def abC:ai:=[
 n 5 24,
 C .add 24 1 25 [0],
 m 25 5 [1,0,1]]
def abD:ai:=[
 n 4 31,
 n 1 32,
 b .eql 31 32 33 [0,1]]
def J2:ai:=[
 n 0 34,
 n 1 35,
 n 4 36,
 o (.callS 145 [(t 34),(t 35),(t 36)]) 37 [0,1,2]]
def amg:ai:=J2.map bare
def abE:ai:=[
 n 4 38,
 m 38 1 [0,0]]
def auo:DC:=(.block 0 (.loop (.block 1 (j (y abz) (j (j (y abA) (.block 2 (.loop (j (j (y JZ) (.cond (.tmp 23) .skip (.exit 2))) (j (.block 3 (j (y amf) (.cond (.tmp 29) (y abB) .skip))) (y abC)))))) (j (j (y abD) (.cond (.tmp 33) .ret .skip)) (j (y amg) (y abE))))))))
def Ta:List dS:=[]
def aup [bM]:aB aj 143 39 auo Ta:=aB.of Tryz.f143 (by kernel_rfl)
def aip:ai:=[
 I 0 4]
def aiq:ai:=[
 n 0 7,
 c 7 8 [0],
 a 3 8 9 [1],
 l 9 10 [2],
 n 0 11,
 c 11 12 [4],
 a 1 12 13 [5],
 l 13 14 [6],
 N 14 15 [7],
 m 10 5 [3,0,1,2,3],
 m 15 6 (k [8,9] 9)]
def air:ai:=[
 n 0 16,
 n 0 17,
 c 17 18 [1],
 a 1 18 19 [2],
 l 19 20 [3],
 n 1 21,
 n 5 22,
 n 0 23,
 c 23 24 [7],
 a 4 24 25 [8],
 l 25 26 [9],
 o (.build [V 0,V 0,V 0] [(0,1,(t 21)),(1,1,(t 22)),(2,1,(t 26))]) 27 [5,6,10],
 o (.bslice 1 3 [V 0,V 0,V 0] [(0,3,(t 27))]) 28 [11],
 o (.append 220 3 24 (t 20) (t 28)) 29 [4,12],
 c 16 30 (k [0] 13),
 a 1 30 31 (k [14] 13),
 S 1 31 29 (k [15,13,13] 13)]
def ais:ai:=[
 n 0 32,
 c 32 33 [0],
 a 2 33 34 [1],
 l 34 35 [2],
 n 5 36,
 n 6 37,
 s (.mapUpd [(.int .i64)] false (t 35) (t 36) (t 37)) (k [3,4,5] 5)]
def ait:ai:=[
 n 0 38,
 n 0 39,
 n 0 40,
 c 40 41 [2],
 a 3 41 42 [3],
 l 42 43 [4],
 C .add 43 1 44 [5],
 n 0 45,
 c 45 46 [7],
 a 4 46 47 [8],
 l 47 48 [9],
 C .add 48 1 49 [10],
 c 38 50 [0,0,2,3,4,5,6,10],
 a 3 50 51 [12,0,2,3,4,5,6,10],
 S 1 51 44 [13,6,0,2,3,4,5,6,10],
 c 39 52 (k [1] 14),
 a 4 52 53 (k [15] 14),
 S 1 53 49 (k [16,11,14] 14)]
def Qn:ai:=[
 n 0 54,
 n 6 55,
 o (.callS 142 [(t 54),(t 55)]) 56 [0,1]]
def apL:ai:=Qn.map bare
def aiu:ai:=[
 n 5 57,
 m 57 4 [0,0]]
def d82:DC:=(j (y aip) (j (Y aiq) (j (Y air) (j (y ais) (j (Y ait) (j (y apL) (j (y aiu) .ret)))))))
def c82 [bM]:aB aj 121 58 d82 (dj 4):=aB.of Tryz.f121 (by kernel_rfl)
def aiv:ai:=[
 I 0 2,
 o (.sh (.ia (.v (.bool false)))) 3 [0]]
def aiw:ai:=[
 n 0 6,
 c 6 7 [0],
 a 1 7 8 [1],
 l 8 9 [2],
 N 9 10 [3],
 C .eql 10 0 11 [4]]
def aix:ai:=[
 o (.alloc [V 0]) 12 [],
 c 12 13 [0],
 l 13 14 [1],
 m 14 2 [2,0,1,2],
 o (.sh (.ia (.v (.bool false)))) 3 [3,0,1,2,3]]
def abF:ai:=[
 n 0 15,
 c 15 16 [0],
 a 1 16 17 [1],
 l 17 18 [2],
 o (.idxAddr 3 (t 18) (i 0)) 19 [3],
 L 3 19 20 [4],
 n 0 21,
 c 21 22 [6],
 a 1 22 23 [7],
 l 23 24 [8],
 N 24 25 [9],
 C .sub 25 1 26 [10],
 o (.alloc [V 0,V 0,V 0]) 4 [],
 S 3 4 20 [12,5,0,1,2,3,4,5,12],
 m 26 5 (k [11,13] 13)]
def Qo:ai:=[
 n 0 27,
 n 5 28,
 o (.callS 145 [(t 27),(i 0),(t 28)]) 29 [0,1]]
def apM:ai:=Qo.map bare
def aiy:ai:=[
 n 0 30,
 n 0 31,
 c 31 32 [1],
 a 1 32 33 [2],
 l 33 34 [3],
 n 5 35,
 o (.slice 3 (t 34) none (some (t 35))) 36 [4,5],
 c 30 37 (k [0] 6),
 a 1 37 38 (k [7] 6),
 S 1 38 36 (k [8,6] 6)]
def aiz:ai:=[
 n 0 39,
 c 39 40 [0],
 a 2 40 41 [1],
 l 41 42 [2],
 a 1 4 43 [],
 l 43 44 [4],
 s (.mapDel [(.int .i64)] false (t 42) (t 44)) [3,5]]
def Qp:ai:=[
 n 0 45,
 o (.callS 143 [(t 45),(i 0)]) 46 [0]]
def apN:ai:=Qp.map bare
def aiA:ai:=[
 a 0 4 47 [],
 l 47 48 [0],
 m 48 2 [1,0,1],
 o (.sh (.ia (.v (.bool true)))) 3 [2,0,1,2]]
def d85:DC:=(j (y aiv) (j (j (y aiw) (.cond (.tmp 11) (j (y aix) .ret) .skip)) (j (.jQ abF) (j (y apM) (j (y aiy) (j (Y aiz) (j (y apN) (j (y aiA) .ret))))))))
def Qq:List dS:=[.oz 2,.oz 3]
def c85 [bM]:aB aj 124 49 d85 Qq:=aB.of Tryz.f124 (by kernel_rfl)
def aiB:ai:=[
 F 6]
def aiC:ai:=[
 n 0 10,
 c 10 11 [0],
 a 2 11 12 [1],
 l 12 13 [2],
 n 1 14,
 o (.lookup [(.int .i64)] false (.v (.int .i64 0)) true (t 13) (t 14)) 15 [3,4],
 m 15 9 [5],
 e 0 9 16 [6],
 e 1 9 17 [6],
 m 16 7 (k [7] 7),
 m 17 8 (k [8,9] 9)]
def aiD:ai:=[
 n 8 18,
 U 18 19 [0]]
def apO:ai:=[
 F 6]
def aiE:ai:=[
 n 0 20,
 c 20 21 [0],
 a 1 21 22 [1],
 l 22 23 [2],
 n 7 24,
 n 0 25,
 c 25 26 [5],
 a 1 26 27 [6],
 l 27 28 [7],
 n 7 29,
 n 2 30,
 n 0 31,
 c 31 32 [11],
 a 4 32 33 [12],
 l 33 34 [13],
 x 3 23 24 35 [3,4,0,1,2,3,4,8,10,14],
 a 0 35 36 [15,0,1,2,3,4,8,10,14],
 S 1 36 30 [16,10,0,1,2,3,4,8,10,14],
 x 3 28 29 37 (k [8,9] 17),
 a 2 37 38 (k [18] 17),
 S 1 38 34 (k [19,14,17] 17)]
def aiF:ai:=[
 n 0 39,
 c 39 40 [0],
 a 4 40 41 [1],
 l 41 42 [2],
 C .add 42 1 43 [3],
 c 39 44 (k [0] 4),
 a 4 44 45 (k [5] 4),
 S 1 45 43 (k [6,4] 4)]
def Qr:ai:=[
 n 0 46,
 n 7 47,
 o (.callS 142 [(t 46),(t 47)]) 48 [0,1]]
def apP:ai:=Qr.map bare
def Qt:ai:=[
 n 0 49,
 n 0 50,
 c 50 51 [1],
 a 2 51 52 [2],
 l 52 53 [3],
 n 1 54,
 o (.lookup [(.int .i64)] false (.v (.int .i64 0)) false (t 53) (t 54)) 55 [4,5],
 o (.callS 143 [(t 49),(t 55)]) 56 [0,6]]
def apQ:ai:=Qt.map bare
def aiG:ai:=[
 R 6]
def d81:DC:=(j (y aiB) (j (y aiC) (j (j (y aiD) (.cond (.tmp 19) (j (y apO) .ret) .skip)) (j (Y aiE) (j (y aiF) (j (y apP) (j (y apQ) (j (y aiG) .ret))))))))
def c81 [bM]:aB aj 120 57 d81 (dj 6):=aB.of Tryz.f120 (by kernel_rfl)
def MQ:ai:=[
 B 2 5]
def CL:ai:=[
 n 0 6,
 c 6 7 [0],
 a 13 7 8 [1],
 l 8 9 [2],
 n 1 10,
 x 1 9 10 11 [3,4],
 l 11 12 [5],
 m 12 13 [6],
 u 0 5 14 13 false [7],
 v 14 15 13 false [8,7],
 E .geq 15 1099511627776 16 13 false [9,7],
 p 13 16 17 [7,10],
 m 17 18 [11,7],
 g (.load 2 true (t 5)) 19 18 false [12],
 w 0 20 18 false [12],
 g (.nilCheck (t 20)) 21 18 false [14,12],
 u 12 21 22 18 false [15,12],
 v 22 23 18 false [16,12],
 w 1 24 18 false [12],
 g (.idxAddr 2 (t 23) (t 24)) 25 18 false [17,18,12],
 g (.load 2 true (t 25)) 26 18 false [19,12],
 g (.call 84 [(t 19),(t 26)]) 27 18 false [13,20,12,12],
 K 27 28 18 false [21,12],
 p 18 28 29 [12,22]]
def MR:ai:=[
 n 0 30,
 c 30 31 [0],
 a 12 31 32 [1],
 l 32 33 [2],
 n 1 34,
 L 2 5 35 [],
 x 2 33 34 36 (k [3,4] 5),
 S 2 36 35 (k [6,5] 5)]
def MS:ai:=[
 n 0 37,
 c 37 38 [0],
 a 14 38 39 [1],
 l 39 40 [2],
 n 1 41,
 x 1 40 41 42 [3,4],
 l 42 43 [5],
 C .geq 43 0 44 [6]]
def Tb:ai:=[
 n 0 45,
 c 45 46 [0],
 a 15 46 47 [1],
 l 47 48 [2],
 n 0 49,
 c 49 50 [4],
 a 14 50 51 [5],
 l 51 52 [6],
 n 1 53,
 x 1 52 53 54 [7,8],
 l 54 55 [9],
 n 1 56,
 o (.call 120 [(t 48),(t 55),(t 56)]) 57 [3,10,11]]
def abG:ai:=[
 n 0 45,
 c 45 46 [0],
 a 15 46 47 [1],
 l 47 48 [2],
 n 0 49,
 c 49 50 [4],
 a 14 50 51 [5],
 l 51 52 [6],
 n 1 53,
 x 1 52 53 54 [7,8],
 l 54 55 [9],
 n 1 56,
 o (.callS 120 [(t 48),(t 55),(t 56)]) 57 [3,10,11]]
def Tc:ai:=[
 n 0 58,
 c 58 59 [0],
 a 14 59 60 [1],
 l 60 61 [2],
 n 1 62,
 n 0 63,
 c 63 64 [5],
 a 15 64 65 [6],
 l 65 66 [7],
 n 1 67,
 o (.call 121 [(t 66),(t 67)]) 68 [8,9],
 x 1 61 62 69 (k [3,4] 10),
 S 1 69 68 (k [11,10,10] 10)]
def abH:ai:=[
 n 0 58,
 c 58 59 [0],
 a 14 59 60 [1],
 l 60 61 [2],
 n 1 62,
 n 0 63,
 c 63 64 [5],
 a 15 64 65 [6],
 l 65 66 [7],
 n 1 67,
 o (.callS 121 [(t 66),(t 67)]) 68 [8,9],
 x 1 61 62 69 (k [3,4] 10),
 S 1 69 68 (k [11,10,10] 10)]
def d60:DC:=(j (y MQ) (j (j (Y CL) (.cond (.tmp 29) .ret .skip)) (j (Y MR) (j (y MS) (.cond (.tmp 44) (Y Tb) (Y Tc))))))
def x9:List dS:=[]
def c60 [bM]:aB aj 88 70 d60 x9:=aB.of Tryz.f88 (by kernel_rfl)
def abI:ai:=[
 I 0 4]
def abJ:ai:=[
 n 0 8,
 I 0 5,
 m 8 6 [0,1,0,1]]
def abK:ai:=[
 n 5 9,
 n 6 10,
 b .lss 9 10 11 [0,1]]
def abL:ai:=[
 n 5 12,
 n 6 13,
 b .add 12 13 14 [0,1],
 o (.conv .u64 (t 14)) 15 [2],
 o (.bin .shr (t 15) (.ia (.v (.int .u64 1)))) 16 [3],
 o (.conv .i64 (t 16)) 17 [4],
 m 17 7 (k [5] 5)]
def abM:ai:=[
 n 1 18,
 n 7 19,
 o (.callv (t 18) [(t 19)]) 20 [0,1],
 U 20 21 [2]]
def abN:ai:=[
 n 7 22,
 C .add 22 1 23 [0],
 m 23 5 [1,0,1]]
def abO:ai:=[
 n 7 24,
 m 24 6 [0,0]]
def abP:ai:=[
 n 5 25,
 m 25 4 [0,0]]
def auq:DC:=(j (y abI) (j (y abJ) (j (.block 0 (.loop (j (j (y abK) (.cond (.tmp 11) .skip (.exit 0))) (.block 1 (j (y abL) (j (y abM) (.cond (.tmp 21) (y abN) (y abO)))))))) (j (y abP) .ret))))
def aur [bM]:aB aj 140 26 auq (dj 4):=aB.of Tryz.f140 (by kernel_rfl)
def abQ:ai:=[
 F 3]
def abR:ai:=[
 l 1 5 [],
 c 5 6 [0],
 a 4 6 7 [1],
 a 1 7 8 [2],
 l 8 9 [3],
 n 0 10,
 x 5 9 10 11 [4,5],
 L 5 11 12 [6],
 o (.alloc [V 0,V 0,V 0,V 0,.aX]) 4 [],
 S 5 4 12 (k [8,7] 8)]
def Fx:ai:=[
 a 0 4 13 [],
 l 13 14 [0],
 l 1 15 [],
 c 15 16 [2],
 a 10 16 17 [3],
 l 17 18 [4],
 b .gtr 14 18 19 [1,5],
 m 19 20 [6],
 u 0 4 21 20 false [7],
 v 21 22 20 false [8,7],
 v 1 23 20 false [7],
 g (.nilCheck (t 23)) 24 20 false [10,7],
 u 10 24 25 20 false [11,7],
 v 25 26 20 false [12,7],
 D .eql 22 26 27 20 false [9,13,7],
 w 27 28 20 false [14,7,7],
 u 1 4 29 28 true [15],
 v 29 30 28 true [16,15],
 v 1 31 28 true [15],
 g (.nilCheck (t 31)) 32 28 true [18,15],
 u 11 32 33 28 true [19,15],
 v 33 34 28 true [20,15],
 D .geq 30 34 35 28 true [17,21,15],
 g (.pick (t 28) (t 35) (.ia (.v (.bool false)))) 36 20 false [15,22,7],
 p 20 36 37 [7,23],
 m 37 3 (k [24,15] 24)]
def aus:DC:=(j (y abQ) (j (y abR) (j (Y Fx) .ret)))
def aut [bM]:aB aj 141 38 aus (dj 3):=aB.of Tryz.f141 (by kernel_rfl)
def aiH:ai:=[
 B 0 1,
 I 0 2,
 o (.sh (i 0)) 3 [1]]
def Qu:ai:=[
 l 1 6 [],
 c 6 7 [0],
 a 4 7 8 [1],
 a 1 8 9 [2],
 l 9 10 [3],
 N 10 11 [4],
 o (.mkFn (.func 141) [(t 1)]) 12 [],
 o (.callS 140 [(t 11),(t 12)]) 13 [5,6],
 m 13 4 (k [7,7] 7)]
def apR:ai:=Qu.map bare
def aiI:ai:=[
 n 4 14,
 m 14 5 [0,0]]
def MT:ai:=[
 n 5 15,
 l 1 16 [],
 c 16 17 [1],
 a 4 17 18 [2],
 a 1 18 19 [3],
 l 19 20 [4],
 N 20 21 [5],
 b .lss 15 21 22 [0,6],
 m 22 23 [7],
 v 1 24 23 true [8],
 g (.nilCheck (t 24)) 25 23 true [9,8],
 u 4 25 26 23 true [10,8],
 u 1 26 27 23 true [11,8],
 v 27 28 23 true [12,8],
 w 5 29 23 true [8],
 g (.idxAddr 5 (t 28) (t 29)) 30 23 true [13,14,8],
 u 0 30 31 23 true [15,8],
 v 31 32 23 true [16,8],
 v 1 33 23 true [8],
 g (.nilCheck (t 33)) 34 23 true [18,8],
 u 10 34 35 23 true [19,8],
 v 35 36 23 true [20,8],
 D .eql 32 36 37 23 true [17,21,8],
 q 23 37 38 [8,22],
 m 38 39 [23,8],
 v 1 40 39 true [24],
 g (.nilCheck (t 40)) 41 39 true [25,24],
 u 4 41 42 39 true [26,24],
 u 1 42 43 39 true [27,24],
 v 43 44 39 true [28,24],
 w 5 45 39 true [24],
 g (.idxAddr 5 (t 44) (t 45)) 46 39 true [29,30,24],
 u 1 46 47 39 true [31,24],
 v 47 48 39 true [32,24],
 v 1 49 39 true [24],
 g (.nilCheck (t 49)) 50 39 true [34,24],
 u 11 50 51 39 true [35,24],
 v 51 52 39 true [36,24],
 D .eql 48 52 53 39 true [33,37,24],
 q 39 53 54 [24,38]]
def aiJ:ai:=[
 n 5 55,
 C .add 55 1 56 [0],
 m 56 5 [1,0,1]]
def aiK:ai:=[
 n 4 57,
 n 5 58,
 m 57 2 [0,0],
 m 58 3 [1,2,0,1,2]]
def d80:DC:=(j (y aiH) (j (y apR) (j (y aiI) (j (.block 0 (.loop (j (j (Y MT) (.cond (.tmp 54) .skip (.exit 0))) (.block 1 (y aiJ))))) (j (y aiK) .ret)))))
def abS:List dS:=[.oz 2,.oz 3]
def c80 [bM]:aB aj 119 59 d80 abS:=aB.of Tryz.f119 (by kernel_rfl)
def aiL:ai:=[
 B 1 4]
def aiM:ai:=[
 a 0 4 10 [],
 l 10 11 [0]]
def aiN:ai:=[
 C .eql 11 1 13 [],
 m 13 12 [0]]
def aiO:ai:=[
 n 0 14,
 c 14 15 [0],
 a 10 15 16 [1],
 l 16 17 [2],
 n 0 18,
 c 18 19 [4],
 a 11 19 20 [5],
 l 20 21 [6],
 b .eql 17 21 22 [3,7]]
def aiP:ai:=[
 n 2 23,
 n 0 24,
 c 24 25 [1],
 a 10 25 26 [2],
 l 26 27 [3],
 a 4 4 28 [],
 l 28 29 [5],
 o (.callv (t 23) [(t 27),(t 29),(.ia .aX)]) 30 [0,4,6]]
def aiQ:ai:=[
 C .eql 11 2 32 [],
 m 32 31 [0]]
def Qv:ai:=[
 n 0 34,
 o (.callS 119 [(t 34)]) 35 [0],
 m 35 33 [1],
 e 0 33 36 [2],
 e 1 33 37 [2],
 m 36 6 [3,1,0,1,2,3],
 m 37 7 (k [4,5] 5)]
def apS:ai:=Qv.map bare
def aiR:ai:=[
 n 6 38,
 m 38 8 [0,0]]
def aiS:ai:=[
 n 8 39,
 n 7 40,
 b .lss 39 40 41 [0,1]]
def abT:ai:=[
 n 0 44,
 c 44 45 [0],
 a 4 45 46 [1],
 a 1 46 47 [2],
 l 47 48 [3],
 n 8 49,
 x 5 48 49 50 [4,5],
 a 2 50 51 [6],
 l 51 52 [7],
 a 2 4 53 [],
 l 53 54 [9],
 b .eql 52 54 55 [8,10],
 m 55 56 [11],
 w 2 57 56 true [12],
 w 8 58 56 true [12],
 u 4 4 59 56 true [12],
 v 59 60 56 true [15,12],
 w 0 61 56 true [12],
 g (.nilCheck (t 61)) 62 56 true [17,12],
 u 4 62 63 56 true [18,12],
 u 1 63 64 56 true [19,12],
 v 64 65 56 true [20,12],
 w 8 66 56 true [12],
 g (.idxAddr 5 (t 65) (t 66)) 67 56 true [21,22,12],
 u 3 67 68 56 true [23,12],
 v 68 69 56 true [24,12],
 D .add 60 69 70 56 true [16,25,12],
 g (.callv (t 57) [(t 58),(t 70),(.ia .aX)]) 71 56 true [13,14,26,12,12],
 K 71 72 56 true [27,12],
 q 56 72 73 [12,28]]
def Qw:ai:=[
 n 8 42,
 C .add 42 1 43 [0],
 m 43 8 [1,0,1]]
def abU:ai:=[
 C .eql 11 3 75 [],
 m 75 74 [0]]
def abV:ai:=[
 n 2 76,
 n 0 77,
 c 77 78 [1],
 a 10 78 79 [2],
 l 79 80 [3],
 a 4 4 81 [],
 l 81 82 [5],
 a 2 4 83 [],
 l 83 84 [7],
 n 0 85,
 c 85 86 [9],
 a 10 86 87 [10],
 l 87 88 [11],
 n 0 89,
 c 89 90 [13],
 a 11 90 91 [14],
 l 91 92 [15],
 o (.build [V 0,V 0,V 0] [(0,1,(t 84)),(1,1,(t 88)),(2,1,(t 92))]) 93 [8,12,16],
 o (.bslice 1 3 [V 0,V 0,V 0] [(0,3,(t 93))]) 94 [17],
 o (.callv (t 76) [(t 80),(t 82),(t 94)]) 95 [0,4,6,18]]
def abW:ai:=[
 C .eql 11 4 97 [],
 m 97 96 [0]]
def abX:ai:=[
 n 0 98,
 c 98 99 [0],
 a 10 99 100 [1],
 l 100 101 [2],
 m 101 9 [3,0,1,2,3]]
def abY:ai:=[
 n 9 102,
 n 0 103,
 c 103 104 [1],
 a 11 104 105 [2],
 l 105 106 [3],
 b .leq 102 106 107 [0,4]]
def abZ:ai:=[
 n 2 110,
 n 9 111,
 a 4 4 112 [],
 l 112 113 [2],
 a 2 4 114 [],
 l 114 115 [4],
 n 0 116,
 c 116 117 [6],
 a 10 117 118 [7],
 l 118 119 [8],
 n 9 120,
 o (.build [V 0,V 0,V 0] [(0,1,(t 115)),(1,1,(t 119)),(2,1,(t 120))]) 121 [5,9,10],
 a 3 4 122 [],
 l 122 123 [12],
 n 9 124,
 n 0 125,
 c 125 126 [15],
 a 11 126 127 [16],
 l 127 128 [17],
 o (.build [V 0,V 0,V 0] [(0,1,(t 123)),(1,1,(t 124)),(2,1,(t 128))]) 129 [13,14,18],
 o (.bslice 2 3 [V 0,V 0,V 0,V 0,V 0,V 0] [(0,3,(t 121)),(3,3,(t 129))]) 130 [11,19],
 o (.callv (t 110) [(t 111),(t 113),(t 130)]) 131 [0,1,3,20],
 U 131 132 [21]]
def ab0:ai:=[
 n 9 108,
 C .add 108 1 109 [0],
 m 109 9 [1,0,1]]
def d57:DC:=(j (y aiL) (j (y aiM) (.block 0 (j (y aiN) (.cond (.tmp 12) (j (Y aiO) (.cond (.tmp 22) (Y aiP) .skip)) (j (y aiQ) (.cond (.tmp 31) (j (y apS) (j (y aiR) (.block 1 (.loop (j (j (y aiS) (.cond (.tmp 41) .skip (.exit 1))) (j (.block 2 (j (Y abT) (.cond (.tmp 73) .ret .skip))) (y Qw))))))) (j (y abU) (.cond (.tmp 74) (Y abV) (j (y abW) (.cond (.tmp 96) (j (y abX) (.block 3 (.loop (j (j (y abY) (.cond (.tmp 107) .skip (.exit 3))) (j (.block 4 (j (Y abZ) (.cond (.tmp 132) .ret .skip))) (y ab0)))))) .skip)))))))))))
def tQ:List dS:=[]
def c57 [bM]:aB aj 85 133 d57 tQ:=aB.of Tryz.f85 (by kernel_rfl)
def aiT:ai:=[
 B 1 4]
def aiU:ai:=[
 a 0 4 8 [],
 l 8 9 [0],
 C .neq 9 4 10 [1]]
def Qx:ai:=[
 n 0 11,
 L 6 4 12 [],
 n 2 13,
 o (.callS 85 [(t 11),(t 12),(t 13)]) 14 [0,1,2]]
def apT:ai:=Qx.map bare
def aiV:ai:=[
 n 0 15,
 c 15 16 [0],
 a 10 16 17 [1],
 l 17 18 [2],
 n 0 19,
 c 19 20 [4],
 a 11 20 21 [5],
 l 21 22 [6],
 o (.bslice 2 1 [V 0,V 0] [(0,1,(t 18)),(1,1,(t 22))]) 23 [3,7],
 N 23 24 [8],
 I 0 25]
def aiW:ai:=[
 b .lss 25 24 26 []]
def aiX:ai:=[
 x 1 23 25 27 [],
 l 27 28 [0],
 m 28 7 [1,0,1]]
def aiY:ai:=[
 n 2 29,
 n 7 30,
 a 4 4 31 [],
 l 31 32 [2],
 a 2 4 33 [],
 l 33 34 [4],
 n 0 35,
 c 35 36 [6],
 a 10 36 37 [7],
 l 37 38 [8],
 n 7 39,
 o (.build [V 0,V 0,V 0] [(0,1,(t 34)),(1,1,(t 38)),(2,1,(t 39))]) 40 [5,9,10],
 a 3 4 41 [],
 l 41 42 [12],
 n 7 43,
 n 0 44,
 c 44 45 [15],
 a 11 45 46 [16],
 l 46 47 [17],
 o (.build [V 0,V 0,V 0] [(0,1,(t 42)),(1,1,(t 43)),(2,1,(t 47))]) 48 [13,14,18],
 o (.bslice 2 3 [V 0,V 0,V 0,V 0,V 0,V 0] [(0,3,(t 40)),(3,3,(t 48))]) 49 [11,19],
 o (.callv (t 29) [(t 30),(t 32),(t 49)]) 50 [0,1,3,20]]
def aiZ:ai:=[
 C .add 25 1 51 [],
 m 51 25 [0]]
def d87:DC:=(j (y aiT) (j (j (y aiU) (.cond (.tmp 10) (j (y apT) .ret) .skip)) (j (Y aiV) (.block 0 (.loop (j (y aiW) (j (.cond (.tmp 26) .skip (.exit 0)) (j (.block 1 (j (y aiX) (Y aiY))) (y aiZ)))))))))
def Qy:List dS:=[]
def c87 [bM]:aB aj 126 52 d87 Qy:=aB.of Tryz.f126 (by kernel_rfl)
def MU:ai:=[
 F 8]
def xq:ai:=[
 l 3 9 [],
 n 2 10,
 o (.call 87 [(t 9),(t 10)]) 11 [0,1],
 U 11 12 [2]]
def ab1:ai:=[
 l 3 9 [],
 n 2 10,
 o (.callS 87 [(t 9),(t 10)]) 11 [0,1],
 U 11 12 [2]]
def Td:ai:=[
 l 3 13 [],
 a 1 4 14 [],
 l 14 15 [1],
 l 3 16 [],
 n 1 17,
 n 2 18,
 o (.call 89 [(t 16),(t 17),(t 18)]) 19 [3,4,5],
 o (.call 88 [(t 13),(t 15),(t 19)]) 20 [0,2,6,6]]
def ab2:ai:=[
 l 3 13 [],
 a 1 4 14 [],
 l 14 15 [1],
 l 3 16 [],
 n 1 17,
 n 2 18,
 o (.callS 89 [(t 16),(t 17),(t 18)]) 19 [3,4,5],
 o (.callS 88 [(t 13),(t 15),(t 19)]) 20 [0,2,6,6]]
def Id:ai:=[
 R 8]
def d58:DC:=(j (y MU) (j (j (y xq) (.cond (.tmp 12) (Y Td) .skip)) (j (y Id) .ret)))
def c58 [bM]:aB aj 86 21 d58 (dj 8):=aB.of Tryz.f86 (by kernel_rfl)
def ai0:ai:=[
 F 8]
def Fy:ai:=[
 l 3 9 [],
 n 2 10,
 o (.callS 87 [(t 9),(t 10)]) 11 [0,1],
 m 11 12 [2,2],
 v 3 13 12 true [3],
 w 2 14 12 true [3],
 g (.callS 128 [(t 13),(t 14)]) 15 12 true [4,5,3,3],
 q 12 15 16 [3,6]]
def apU:ai:=Fy.map bare
def Qz:ai:=[
 l 3 17 [],
 a 1 4 18 [],
 l 18 19 [1],
 l 3 20 [],
 n 1 21,
 n 2 22,
 o (.callS 89 [(t 20),(t 21),(t 22)]) 23 [3,4,5],
 o (.callS 88 [(t 17),(t 19),(t 23)]) 24 [0,2,6,6]]
def apV:ai:=Qz.map bare
def Te:ai:=[
 R 8]
def d88:DC:=(j (y ai0) (j (j (y apU) (.cond (.tmp 16) (Y apV) .skip)) (j (y Te) .ret)))
def c88 [bM]:aB aj 127 25 d88 (dj 8):=aB.of Tryz.f127 (by kernel_rfl)
def ai1:ai:=[
 B 0 1]
def Fz:ai:=[
 l 1 7 [],
 c 7 8 [0],
 a 15 8 9 [1],
 l 9 10 [2],
 o (.callS 124 [(t 10)]) 11 [3],
 m 11 6 [4],
 e 0 6 12 [5],
 e 1 6 13 [5],
 m 12 2 (k [6,4] 6),
 m 13 3 (k [7,8] 8)]
def apW:ai:=Fz.map bare
def ab3:ai:=[
 n 3 14,
 U 14 15 [0]]
def ai2:ai:=[
 l 1 16 [],
 c 16 17 [0],
 a 13 17 18 [1],
 l 18 19 [2],
 n 2 20,
 x 1 19 20 21 (k [3,4] 4),
 s (.store 1 (t 21) (.ia (.v (.bool true)))) (k [5] 4)]
def ai3:ai:=[
 l 1 22 [],
 c 22 23 [0],
 a 0 23 24 [1],
 a 3 24 25 [2],
 l 25 26 [3],
 N 26 27 [4],
 I 0 28]
def ai4:ai:=[
 b .lss 28 27 29 []]
def ai5:ai:=[
 x 6 26 28 30 [],
 L 6 30 31 [0],
 o (.alloc [V 0,V 0,V 0,V 0,V 0,V 0]) 5 [],
 S 6 5 31 [2,1,0,1,2]]
def ai6:ai:=[
 L 6 5 32 [],
 n 2 33,
 o (.call 125 [(t 32),(t 33)]) 34 [0,1],
 U 34 35 [2]]
def QA:ai:=[
 l 1 36 [],
 L 6 5 37 [],
 o (.mkFn (.func 127) [(t 1),(t 5)]) 38 [],
 o (.callS 126 [(t 36),(t 37),(t 38)]) 39 [0,1,2]]
def apX:ai:=QA.map bare
def ab4:ai:=[
 C .add 28 1 40 [],
 m 40 28 [0]]
def d62:DC:=(j (y ai1) (.block 0 (.loop (.block 1 (j (y apW) (j (j (y ab3) (.cond (.tmp 15) .ret .skip)) (j (y ai2) (j (y ai3) (.block 2 (.loop (j (y ai4) (j (.cond (.tmp 29) .skip (.exit 2)) (j (.block 3 (j (y ai5) (j (j (y ai6) (.cond (.tmp 35) (.exit 3) .skip)) (y apX)))) (y ab4))))))))))))))
def ab5:List dS:=[]
def c62 [bM]:aB aj 90 41 d62 ab5:=aB.of Tryz.f90 (by kernel_rfl)
def ai7:ai:=[
 F 10]
def QB:ai:=[
 l 3 11 [],
 n 1 12,
 n 2 13,
 o (.callS 89 [(t 11),(t 12),(t 13)]) 14 [0,1,2],
 L 2 4 15 [],
 o (.eqT true true [(.int .i64),(.int .i64)] (t 14) (t 15)) 16 [3,4]]
def apY:ai:=QB.map bare
def ai8:ai:=[
 R 10]
def ai9:ai:=[
 L 2 4 17 [],
 l 5 18 [],
 n 0 19,
 o (.build [V 0,V 0,V 0,V 0] [(0,2,(t 17)),(2,1,(t 18)),(3,1,(t 19))]) 20 [0,1,2],
 S 4 6 20 [3,0,1,2,3]]
def aja:ai:=[
 F 10]
def d90:DC:=(j (y ai7) (j (j (Y apY) (.cond (.tmp 16) (j (y ai8) .ret) .skip)) (j (y ai9) (j (y aja) .ret))))
def c90 [bM]:aB aj 129 21 d90 (dj 10):=aB.of Tryz.f129 (by kernel_rfl)
def ajb:ai:=[
 B 0 2,
 o (.alloc [V 0,V 0,V 0,V 0]) 4 []]
def ajc:ai:=[
 l 2 9 [],
 c 9 10 [0],
 a 12 10 11 [1],
 l 11 12 [2],
 n 1 13,
 x 2 12 13 14 [3,4],
 L 2 14 15 [5],
 o (.alloc [V 0,V 0]) 5 [],
 S 2 5 15 (k [7,6] 7)]
def ajd:ai:=[
 o (.load 4 true (.ia (.jd [(.int .i64 1099511627776),(.int .i64 0),(.int .i64 (-1)),(.int .i64 0)] 0))) 16 [],
 o (.alloc [V 0,V 0,V 0,V 0]) 6 [],
 S 4 6 16 [1,0,0,1]]
def aje:ai:=[
 l 2 17 [],
 c 17 18 [0],
 a 0 18 19 [1],
 a 3 19 20 [2],
 l 20 21 [3],
 N 21 22 [4],
 I 0 23]
def ajf:ai:=[
 b .lss 23 22 24 []]
def ajg:ai:=[
 n 23 25,
 x 6 21 23 26 [],
 L 6 26 27 [1],
 o (.alloc [V 0]) 7 [],
 o (.alloc [V 0,V 0,V 0,V 0,V 0,V 0]) 8 [],
 S 1 7 25 (k [3,0] 4),
 S 6 8 27 (k [4,2,5] 5)]
def MV:ai:=[
 a 1 8 28 [],
 l 28 29 [0],
 n 1 30,
 b .neq 29 30 31 [1,2],
 m 31 32 [3],
 u 0 5 33 32 false [4],
 v 33 34 32 false [5,4],
 E .geq 34 1099511627776 35 32 false [6,4],
 p 32 35 36 [4,7],
 m 36 37 [8,4],
 u 2 6 38 37 false [9],
 v 38 39 37 false [10,9],
 E .geq 39 0 40 37 false [11,9],
 p 37 40 41 [9,12]]
def QC:ai:=[
 l 2 42 [],
 L 6 8 43 [],
 o (.mkFn (.func 129) [(t 2),(t 5),(t 7),(t 6)]) 44 [],
 o (.callS 85 [(t 42),(t 43),(t 44)]) 45 [0,1,2]]
def apZ:ai:=QC.map bare
def ab6:ai:=[
 C .add 23 1 46 [],
 m 46 23 [0]]
def ajh:ai:=[
 L 4 6 47 [],
 S 4 4 47 [0,0]]
def d63:DC:=(j (y ajb) (j (y ajc) (j (y ajd) (j (j (y aje) (.block 0 (.loop (j (y ajf) (j (.cond (.tmp 24) .skip (.exit 0)) (j (.block 1 (j (y ajg) (j (j (y MV) (.cond (.tmp 41) (.exit 1) .skip)) (y apZ)))) (y ab6))))))) (j (y ajh) .ret)))))
def ab7:List dS:=[.cell 4 4 true]
def c63:aB aj 91 48 d63 ab7:=aB.of Tryz.f91 (by kernel_rfl)
def aji:ai:=[
 F 5]
def ajj:ai:=[
 l 2 6 [],
 c 6 7 [0],
 a 12 7 8 [1],
 l 8 9 [2],
 n 0 10,
 x 2 9 10 11 [3,4],
 L 2 11 12 [5],
 l 2 13 [],
 c 13 14 [7],
 a 12 14 15 [8],
 l 15 16 [9],
 n 1 17,
 x 2 16 17 18 [10,11],
 L 2 18 19 [12],
 o (.call 84 [(t 12),(t 19)]) 20 [6,13],
 m 20 5 (k [14,14] 14)]
def d55:DC:=(j (y aji) (j (Y ajj) .ret))
def c55 [bM]:aB aj 83 21 d55 (dj 5):=aB.of Tryz.f83 (by kernel_rfl)
def ajk:ai:=[
 B 0 5,
 B 1 6,
 B 2 7,
 Z 10]
def ajl:ai:=[
 L 4 5 17 [],
 L 3 6 18 [],
 L 3 7 19 [],
 n 3 20,
 n 4 21,
 a 1 5 22 [],
 l 22 23 [5],
 o (.mkSlice 63 2 16 [(.int .i64 0),(.int .i64 0)] (t 23)) 24 [6,6],
 a 1 5 25 [],
 l 25 26 [8],
 o (.mkSlice 4 1 1 [(.bool false)] (t 26)) 27 [9,9],
 a 1 5 28 [],
 l 28 29 [11],
 o (.mkSlice 3 1 8 [(.int .i64 0)] (t 29)) 30 [12,12],
 o (.build [V 0,V 0,V 0,.aX,V 0,.aX,.aX,V 0,V 0,.aX,V 0,V 0,.aX,.aX,.aX,(.v (.pO (Go.Value.pointer Option.none)))] [(0,4,(t 17)),(4,3,(t 18)),(7,3,(t 19)),(10,1,(t 20)),(11,1,(t 21)),(12,1,(t 24)),(13,1,(t 27)),(14,1,(t 30))]) 31 [0,1,2,3,4,7,10,13],
 o (.box (t 31)) 32 [14],
 o (.alloc [(.v (.pO (Go.Value.pointer Option.none)))]) 11 [],
 S 1 11 32 (k [16,15] 16)]
def Tf:ai:=[
 l 11 33 [],
 o (.mkFn (.func 83) [(t 11)]) 34 [],
 o (.call 82 [(t 34)]) 35 [1],
 c 33 36 [0,0,1,2],
 a 15 36 37 [3,0,1,2],
 S 1 37 35 [4,2,2,0,1,2]]
def ajm:ai:=[
 l 11 38 [],
 c 38 39 [0],
 a 12 39 40 [1],
 l 40 41 [2],
 N 41 42 [3],
 I 0 43]
def ajn:ai:=[
 b .lss 43 42 44 []]
def ajo:ai:=[
 n 43 45,
 m 45 12 [0,0]]
def ajp:ai:=[
 l 11 46 [],
 c 46 47 [0],
 a 12 47 48 [1],
 l 48 49 [2],
 n 12 50,
 o (.addOff 0 (.ia (.jd [(.int .i64 1099511627776),(.int .i64 0),(.int .i64 (-1)),(.int .i64 0)] 0))) 51 [],
 L 2 51 52 [5],
 x 2 49 50 53 (k [3,4] 6),
 S 2 53 52 (k [7,6] 6)]
def ajq:ai:=[
 l 11 54 [],
 c 54 55 [0],
 a 14 55 56 [1],
 l 56 57 [2],
 n 12 58,
 x 1 57 58 59 (k [3,4] 4),
 s (.store 1 (t 59) (i (-1))) (k [5] 4)]
def ajr:ai:=[
 C .add 43 1 60 [],
 m 60 43 [0]]
def ajs:ai:=[
 a 3 5 61 [],
 l 61 62 [0],
 N 62 63 [1],
 I 0 64]
def ab8:ai:=[
 b .lss 64 63 65 []]
def ab9:ai:=[
 x 6 62 64 66 [],
 L 6 66 67 [0],
 o (.alloc [V 0,V 0,V 0,V 0,V 0,V 0]) 14 [],
 S 6 14 67 [2,1,0,1,2]]
def J3:ai:=[
 l 11 68 [],
 L 6 14 69 [],
 o (.mkFn (.func 86) [(t 11),(t 14)]) 70 [],
 o (.callS 85 [(t 68),(t 69),(t 70)]) 71 [0,1,2]]
def amh:ai:=J3.map bare
def aca:ai:=[
 C .add 64 1 72 [],
 m 72 64 [0]]
def J4:ai:=[
 l 11 73 [],
 o (.callS 90 [(t 73)]) 74 [0]]
def ami:ai:=J4.map bare
def acb:ai:=[
 Z 15]
def acd:ai:=[
 a 1 5 75 [],
 l 75 76 [0],
 I 0 77]
def ace:ai:=[
 b .lss 77 76 78 []]
def acf:ai:=[
 n 77 79,
 m 79 16 [0,0]]
def J5:ai:=[
 n 15 80,
 l 11 81 [],
 n 16 82,
 o (.callS 91 [(t 81),(t 82)]) 83 [1,2],
 o (.bslice 1 4 [V 0,V 0,V 0,V 0] [(0,4,(t 83))]) 84 [3],
 o (.append 65 4 32 (t 80) (t 84)) 85 [0,4,3],
 m 85 15 (k [5,5] 5)]
def amj:ai:=J5.map bare
def acg:ai:=[
 C .add 77 1 86 [],
 m 86 77 [0]]
def ach:ai:=[
 n 15 87,
 m 87 10 [0,0]]
def d35:DC:=(j (y ajk) (j (Y ajl) (j (Y Tf) (j (j (y ajm) (.block 0 (.loop (j (y ajn) (j (.cond (.tmp 44) .skip (.exit 0)) (j (.block 1 (j (y ajo) (j (Y ajp) (y ajq)))) (y ajr))))))) (j (j (y ajs) (.block 2 (.loop (j (y ab8) (j (.cond (.tmp 65) .skip (.exit 2)) (j (.block 3 (j (y ab9) (y amh))) (y aca))))))) (j (y ami) (j (y acb) (j (j (y acd) (.block 4 (.loop (j (y ace) (j (.cond (.tmp 78) .skip (.exit 4)) (j (.block 5 (j (y acf) (y amj))) (y acg))))))) (j (y ach) .ret)))))))))
def c35:aB aj 52 88 d35 (dj 10):=aB.of Tryz.f52 (by kernel_rfl)
end cD
end Go.Proofs
namespace Go.Proofs
open Go.DM
def akK:ai:=[
 B 0 2,
 F 4]
def CQ:ai:=[
 n 1 6,
 C .lss 6 0 7 [0],
 m 7 8 [1],
 u 0 2 9 8 false [2],
 v 9 10 8 false [3,2],
 H 10 11 8 false [4,2],
 E .gtr 11 60 12 8 false [5,2],
 p 8 12 13 [2,6],
 m 13 14 [7,2],
 u 1 2 15 14 false [8],
 v 15 16 14 false [9,8],
 H 16 17 14 false [10,8],
 w 1 18 14 false [8],
 D .neq 17 18 19 14 false [11,12,8],
 p 14 19 20 [8,13],
 m 20 21 [14,8],
 u 2 2 22 21 false [15],
 v 22 23 21 false [16,15],
 E .lss 23 0 24 21 false [17,15],
 p 21 24 25 [15,18],
 m 25 26 [19,15],
 u 2 2 27 26 false [20],
 v 27 28 26 false [21,20],
 E .gtr 28 60000 29 26 false [22,20],
 p 26 29 30 [20,23],
 m 30 31 [24,20],
 u 0 2 32 31 false [25],
 v 32 33 31 false [26,25],
 w 1 34 31 false [25],
 g (.call 37 [(t 33),(t 34)]) 35 31 false [27,28,25,25],
 K 35 36 31 false [29,25],
 p 31 36 37 [25,30]]
def akL:ai:=[
 F 4]
def akM:ai:=[
 I 0 5]
def akN:ai:=[
 n 5 38,
 n 1 39,
 b .lss 38 39 40 [0,1]]
def ac1:ai:=[
 a 1 2 43 [],
 l 43 44 [0],
 n 5 45,
 x 1 44 45 46 [1,2],
 l 46 47 [3],
 C .lss 47 1 48 [4],
 m 48 49 [5],
 u 1 2 50 49 false [6],
 v 50 51 49 false [7,6],
 w 5 52 49 false [6],
 g (.idxAddr 1 (t 51) (t 52)) 53 49 false [8,9,6],
 v 53 54 49 false [10,6],
 E .gtr 54 60000 55 49 false [11,6],
 p 49 55 56 [6,12]]
def akO:ai:=[
 F 4]
def akP:ai:=[
 n 5 41,
 C .add 41 1 42 [0],
 m 42 5 [1,0,1]]
def akQ:ai:=[
 R 4]
def d28:DC:=(j (y akK) (j (j (y CQ) (.cond (.tmp 37) (j (y akL) .ret) .skip)) (j (j (y akM) (.block 0 (.loop (j (j (y akN) (.cond (.tmp 40) .skip (.exit 0))) (j (.block 1 (j (y ac1) (.cond (.tmp 56) (j (y akO) .ret) .skip))) (y akP)))))) (j (y akQ) .ret))))
def c28 [bM]:aB aj 23 57 d28 (dj 4):=aB.of Tryz.f23 (by kernel_rfl)
def MI:ai:=[
 F 4]
def Fq:ai:=[
 I 0 5]
def MJ:ai:=[
 n 5 6,
 n 0 7,
 N 7 8 [1],
 b .lss 6 8 9 [0,2]]
def MK:ai:=[
 n 0 12,
 n 5 13,
 x 3 12 13 14 [0,1],
 L 3 14 15 [2],
 n 1 16,
 o (.call 63 [(t 15),(t 16)]) 17 [3,4],
 U 17 18 [5]]
def ML:ai:=[
 F 4]
def akR:ai:=[
 n 5 10,
 C .add 10 1 11 [0],
 m 11 5 [1,0,1]]
def akS:ai:=[
 R 4]
def d45:DC:=(j (y MI) (j (j (y Fq) (.block 0 (.loop (j (j (y MJ) (.cond (.tmp 9) .skip (.exit 0))) (j (.block 1 (j (y MK) (.cond (.tmp 18) (j (y ML) .ret) .skip))) (y akR)))))) (j (y akS) .ret)))
def c45 [bM]:aB aj 37 19 d45 (dj 4):=aB.of Tryz.f37 (by kernel_rfl)
def MU:ai:=[
 B 0 2,
 F 4]
def xq:ai:=[
 a 0 2 7 [],
 l 7 8 [0],
 C .lss 8 (-1) 9 [1],
 m 9 10 [2],
 u 0 2 11 10 false [3],
 v 11 12 10 false [4,3],
 w 1 13 10 false [3],
 D .geq 12 13 14 10 false [5,6,3],
 p 10 14 15 [3,7],
 m 15 16 [8,3],
 u 1 2 17 16 false [9],
 v 17 18 16 false [10,9],
 H 18 19 16 false [11,9],
 w 1 20 16 false [9],
 D .neq 19 20 21 16 false [12,13,9],
 p 16 21 22 [9,14],
 m 22 23 [15,9],
 u 2 2 24 23 false [16],
 v 24 25 23 false [17,16],
 E .lss 25 1 26 23 false [18,16],
 p 23 26 27 [16,19],
 m 27 28 [20,16],
 u 2 2 29 28 false [21],
 v 29 30 28 false [22,21],
 E .gtr 30 60000 31 28 false [23,21],
 w 31 32 28 false [24,21,21],
 u 2 2 33 32 true [25],
 v 33 34 32 true [26,25],
 E .neq 34 1099511627776 35 32 true [27,25],
 g (.pick (t 32) (t 35) (.ia (.v (.bool false)))) 36 28 false [25,28,21],
 p 28 36 37 [21,29]]
def Td:ai:=[
 F 4]
def Id:ai:=[
 I 0 5]
def akT:ai:=[
 n 5 38,
 n 1 39,
 b .lss 38 39 40 [0,1]]
def akU:ai:=[
 a 1 2 43 [],
 l 43 44 [0],
 n 5 45,
 x 1 44 45 46 [1,2],
 l 46 47 [3],
 m 47 6 (k [4] 4)]
def GD:ai:=[
 n 5 48,
 a 0 2 49 [],
 l 49 50 [1],
 b .eql 48 50 51 [0,2],
 m 51 52 [3],
 w 6 53 52 true [4],
 E .neq 53 0 54 52 true [5,4],
 q 52 54 55 [4,6],
 m 55 56 [7,4],
 w 5 57 56 false [8],
 u 0 2 58 56 false [8],
 v 58 59 56 false [10,8],
 D .neq 57 59 60 56 false [9,11,8],
 w 60 61 56 false [12,8,8],
 w 6 62 61 true [13],
 E .neq 62 (-1) 63 61 true [14,13],
 g (.pick (t 61) (t 63) (.ia (.v (.bool false)))) 64 56 false [13,15,8],
 w 64 65 56 false [16,13,8],
 w 6 66 65 true [17],
 E .lss 66 1 67 65 true [18,17],
 w 67 68 65 true [19,17,17],
 w 6 69 68 false [20],
 E .gtr 69 60000 70 68 false [21,20],
 g (.pick (t 68) (.ia (.v (.bool true))) (t 70)) 71 65 true [20,22,17],
 g (.pick (t 65) (t 71) (.ia (.v (.bool false)))) 72 56 false [17,23,8],
 p 56 72 73 [8,24]]
def akV:ai:=[
 F 4]
def akW:ai:=[
 n 5 41,
 C .add 41 1 42 [0],
 m 42 5 [1,0,1]]
def akX:ai:=[
 R 4]
def d58:DC:=(j (y MU) (j (j (y xq) (.cond (.tmp 37) (j (y Td) .ret) .skip)) (j (j (y Id) (.block 0 (.loop (j (j (y akT) (.cond (.tmp 40) .skip (.exit 0))) (j (.block 1 (j (y akU) (j (y GD) (.cond (.tmp 73) (j (y akV) .ret) .skip)))) (y akW)))))) (j (y akX) .ret))))
def c58 [bM]:aB aj 63 74 d58 (dj 4):=aB.of Tryz.f63 (by kernel_rfl)
namespace cD
def Tg:ai:=[
 B 0 1,
 Z 2,
 o (.sh (.ia .aX)) 3 [1]]
def aeT:ai:=[
 L 2 1 17 [],
 a 0 1 18 [],
 l 18 19 [1],
 o (.mkSlice 63 2 16 [(.int .i64 0),(.int .i64 0)] (t 19)) 20 [2,2],
 a 0 1 21 [],
 l 21 22 [4],
 o (.mkSlice 4 1 1 [(.bool false)] (t 22)) 23 [5,5],
 a 1 1 24 [],
 l 24 25 [7],
 N 25 26 [8],
 o (.mkSlice 3 1 8 [(.int .i64 0)] (t 26)) 27 [9,9],
 a 0 1 28 [],
 l 28 29 [11],
 o (.mkSlice 26 1 24 [(.sl [])] (t 29)) 30 [12,12],
 o (.build [V 0,.aX,.aX,.aX,.aX,.aX,(.v (.pO (Go.Value.pointer Option.none)))] [(0,2,(t 17)),(2,1,(t 20)),(3,1,(t 23)),(4,1,(t 27)),(5,1,(t 30))]) 31 [0,3,6,10,13],
 o (.box (t 31)) 32 [14],
 m 32 4 (k [15] 15)]
def MW:ai:=[
 L 2 1 17 [],
 a 0 1 18 [],
 l 18 19 [1],
 o (.mkSlice 63 2 16 [(.int .i64 0),(.int .i64 0)] (t 19)) 20 [2,2],
 a 0 1 21 [],
 l 21 22 [4],
 o (.mkSlice 4 1 1 [(.bool false)] (t 22)) 23 [5,5],
 a 1 1 24 [],
 l 24 25 [7],
 N 25 26 [8],
 o (.mkSlice 3 1 8 [(.int .i64 0)] (t 26)) 27 [9,9],
 a 0 1 28 [],
 l 28 29 [11],
 o (.mkSliceB 26 1 24 [(.sl [])] (t 29)) 30 [12,12],
 o (.build [V 0,.aX,.aX,.aX,.aX,.aX,(.v (.pO (Go.Value.pointer Option.none)))] [(0,2,(t 17)),(2,1,(t 20)),(3,1,(t 23)),(4,1,(t 27)),(5,1,(t 30))]) 31 [0,3,6,10,13],
 o (.box (t 31)) 32 [14],
 m 32 4 (k [15] 15)]
def Th:ai:=[
 n 4 33,
 o (.call 100 [(.ia (.v (.fn (.func 101) [])))]) 34 [],
 c 33 35 [0,0,1],
 a 6 35 36 [2,0,1],
 S 1 36 34 [3,1,1,0,1]]
def Ti:ai:=[
 a 0 1 37 [],
 l 37 38 [0],
 o (.mkSlice 3 1 8 [(.int .i64 0)] (t 38)) 39 [1,1],
 m 39 5 [2,0,1,2]]
def Tj:ai:=[
 n 4 40,
 c 40 41 [0],
 a 2 41 42 [1],
 l 42 43 [2],
 N 43 44 [3],
 I 0 45]
def Tk:ai:=[
 b .lss 45 44 46 []]
def Tl:ai:=[
 n 45 47,
 m 47 6 [0,0]]
def Tm:ai:=[
 n 4 48,
 c 48 49 [0],
 a 2 49 50 [1],
 l 50 51 [2],
 n 6 52,
 o (.build [V 0,V 0] [(0,1,(i 1099511627776))]) 53 [],
 x 2 51 52 54 (k [3,4] 5),
 S 2 54 53 (k [6,5] 5)]
def Tn:ai:=[
 n 5 55,
 n 6 56,
 x 1 55 56 57 [0,1,0,1],
 s (.store 1 (t 57) (i (-1))) [2,0,1]]
def To:ai:=[
 C .add 45 1 58 [],
 m 58 45 [0]]
def FA:ai:=[
 a 1 1 59 [],
 l 59 60 [0],
 N 60 61 [1],
 I 0 62]
def FB:ai:=[
 b .lss 62 61 63 []]
def FC:ai:=[
 n 62 64,
 x 5 60 62 65 [],
 L 5 65 66 [1],
 o (.alloc [V 0,.aX,V 0,V 0,V 0]) 8 [],
 m 64 7 [0,0,1,2,3],
 S 5 8 66 (k [3,2,4] 4)]
def FD:ai:=[
 n 4 67,
 c 67 68 [0],
 a 4 68 69 [1],
 l 69 70 [2],
 n 7 71,
 a 1 8 72 [],
 l 72 73 [5],
 N 73 74 [6],
 x 1 70 71 75 (k [3,4] 7),
 S 1 75 74 (k [8,7] 7)]
def FE:ai:=[
 a 1 8 76 [],
 l 76 77 [0],
 N 77 78 [1],
 I 0 79]
def FF:ai:=[
 b .lss 79 78 80 []]
def FG:ai:=[
 x 1 77 79 81 [],
 l 81 82 [0],
 m 82 10 [1,0,1]]
def sF:ai:=[
 n 4 83,
 c 83 84 [0],
 a 5 84 85 [1],
 l 85 86 [2],
 n 10 87,
 n 4 88,
 c 88 89 [5],
 a 5 89 90 [6],
 l 90 91 [7],
 n 10 92,
 x 1 91 92 93 [8,9],
 l 93 94 [10],
 n 7 95,
 o (.bslice 1 1 [V 0] [(0,1,(t 95))]) 96 [12],
 o (.append 3 1 8 (t 94) (t 96)) 97 [11,13],
 x 1 86 87 98 (k [3,4] 14),
 S 1 98 97 (k [15,14,14] 14)]
def zM:ai:=[
 C .add 79 1 99 [],
 m 99 79 [0]]
def FH:ai:=[
 C .add 62 1 100 [],
 m 100 62 [0]]
def FI:ai:=[
 n 4 101,
 c 101 102 [0],
 a 4 102 103 [1],
 l 103 104 [2],
 N 104 105 [3],
 I 0 106]
def FJ:ai:=[
 b .lss 106 105 107 []]
def FK:ai:=[
 n 106 108,
 x 1 104 106 109 [],
 l 109 110 [1],
 m 108 11 [0,0,1,2],
 m 110 12 [2,3,0,1,2,3]]
def zN:ai:=[
 n 12 111,
 C .eql 111 0 112 [0],
 m 112 113 [1],
 u 1 1 114 113 true [2],
 v 114 115 113 true [3,2],
 w 11 116 113 true [2],
 g (.idxAddr 5 (t 115) (t 116)) 117 113 true [4,5,2],
 u 1 117 118 113 true [6,2],
 v 118 119 113 true [7,2],
 H 119 120 113 true [8,2],
 E .eql 120 0 121 113 true [9,2],
 q 113 121 122 [2,10]]
def MX:ai:=[
 n 4 123,
 n 11 124,
 o (.call 102 [(t 123),(t 124)]) 125 [0,1]]
def Ie:ai:=[
 n 4 123,
 n 11 124,
 o (.callS 102 [(t 123),(t 124)]) 125 [0,1]]
def zO:ai:=[
 C .add 106 1 126 [],
 m 126 106 [0]]
def MY:ai:=[
 n 4 128,
 c 128 129 [0],
 a 6 129 130 [1],
 l 130 131 [2],
 o (.call 103 [(t 131)]) 132 [3],
 m 132 127 [4],
 e 0 127 133 [5],
 e 1 127 134 [5],
 o (.alloc [V 0,V 0,V 0]) 13 [],
 S 3 13 133 [8,6,4,0,1,2,3,4,5,6,8],
 m 134 14 (k [7,9] 9)]
def ww:ai:=[
 n 4 128,
 c 128 129 [0],
 a 6 129 130 [1],
 l 130 131 [2],
 o (.callS 103 [(t 131)]) 132 [3],
 m 132 127 [4],
 e 0 127 133 [5],
 e 1 127 134 [5],
 o (.alloc [V 0,V 0,V 0]) 13 [],
 S 3 13 133 [8,6,4,0,1,2,3,4,5,6,8],
 m 134 14 (k [7,9] 9)]
def zP:ai:=[
 n 14 135,
 U 135 136 [0]]
def FL:ai:=[
 n 4 137,
 c 137 138 [0],
 a 3 138 139 [1],
 l 139 140 [2],
 a 0 13 141 [],
 l 141 142 [4],
 x 1 140 142 143 [3,5],
 l 143 144 [6],
 U 144 145 [7]]
def MZ:ai:=[
 n 4 146,
 L 3 13 147 [],
 o (.call 104 [(t 146),(t 147)]) 148 [0,1]]
def If:ai:=[
 n 4 146,
 L 3 13 147 [],
 o (.callS 104 [(t 146),(t 147)]) 148 [0,1]]
def FM:ai:=[
 a 1 1 149 [],
 l 149 150 [0],
 N 150 151 [1],
 I 0 152]
def FN:ai:=[
 b .lss 152 151 153 []]
def FO:ai:=[
 n 152 154,
 x 5 150 152 155 [],
 L 5 155 156 [1],
 o (.alloc [V 0,.aX,V 0,V 0,V 0]) 16 [],
 m 154 15 [0,0,1,2,3],
 S 5 16 156 (k [3,2,4] 4)]
def M0:ai:=[
 n 5 157,
 a 0 16 158 [],
 l 158 159 [1],
 x 1 157 159 160 [0,2],
 l 160 161 [3],
 C .lss 161 0 162 [4],
 m 162 163 [5],
 w 4 164 163 true [6],
 g (.nilCheck (t 164)) 165 163 true [7,6],
 u 3 165 166 163 true [8,6],
 v 166 167 163 true [9,6],
 u 0 16 168 163 true [6],
 v 168 169 163 true [11,6],
 g (.idxAddr 1 (t 167) (t 169)) 170 163 true [10,12,6],
 v 170 171 163 true [13,6],
 q 163 171 172 [6,14],
 m 172 173 [15,6],
 w 4 174 173 true [16],
 g (.load 5 true (t 16)) 175 173 true [16],
 g (.call 105 [(t 174),(t 175)]) 176 173 true [17,18,16,16],
 w 4 177 173 true [16],
 g (.nilCheck (t 177)) 178 173 true [20,16],
 u 2 178 179 173 true [21,16],
 v 179 180 173 true [22,16],
 u 0 16 181 173 true [16],
 v 181 182 173 true [24,16],
 g (.idxAddr 2 (t 180) (t 182)) 183 173 true [23,25,16],
 g (.load 2 true (t 183)) 184 173 true [26,16],
 g (.eqT false true [(.int .i64),(.int .i64)] (t 176) (t 184)) 185 173 true [19,27,16],
 q 173 185 186 [16,28]]
def FP:ai:=[
 n 5 187,
 a 0 16 188 [],
 l 188 189 [1],
 n 15 190,
 x 1 187 189 191 [0,2,0,1,2,3],
 S 1 191 190 [4,3,0,1,2,3]]
def zQ:ai:=[
 C .add 152 1 192 [],
 m 192 152 [0]]
def FQ:ai:=[
 n 4 193,
 c 193 194 [0],
 a 2 194 195 [1],
 l 195 196 [2],
 n 5 197,
 m 196 2 [3,0,1,2,3],
 m 197 3 (k [4,5] 5)]
def ap0:DC:=(j (y Tg) (j (Y aeT) (j (y Th) (j (y Ti) (j (j (y Tj) (.block 0 (.loop (j (y Tk) (j (.cond (.tmp 46) .skip (.exit 0)) (j (.block 1 (j (y Tl) (j (y Tm) (y Tn)))) (y To))))))) (j (j (y FA) (.block 2 (.loop (j (y FB) (j (.cond (.tmp 63) .skip (.exit 2)) (j (.block 3 (j (y FC) (j (Y FD) (j (y FE) (.block 4 (.loop (j (y FF) (j (.cond (.tmp 80) .skip (.exit 4)) (j (.block 5 (j (y FG) (.jQ sF))) (y zM)))))))))) (y FH))))))) (j (j (y FI) (.block 6 (.loop (j (y FJ) (j (.cond (.tmp 107) .skip (.exit 6)) (j (.block 7 (j (y FK) (j (y zN) (.cond (.tmp 122) (y MX) .skip)))) (y zO))))))) (j (.block 8 (.loop (.block 9 (j (y MY) (j (j (y zP) (.cond (.tmp 136) (.exit 8) .skip)) (j (Y FL) (.cond (.tmp 145) (y MZ) .skip))))))) (j (j (y FM) (.block 10 (.loop (j (y FN) (j (.cond (.tmp 153) .skip (.exit 10)) (j (.block 11 (j (y FO) (j (Y M0) (.cond (.tmp 186) (y FP) .skip)))) (y zQ))))))) (j (y FQ) .ret))))))))))
def sG:List dS:=[.oz 2,.oz 3]
def ap1 [bM]:aB aj 71 198 ap0 sG:=aB.of Tryz.f71 (by kernel_rfl)
def Tp:ai:=[
 o (.sh (.ia (.v (.pO (Go.Value.pointer Option.none))))) 2 []]
def Tq:ai:=[
 n 0 3,
 o (.mkMap [(.int .i64)] false) 4 [],
 o (.build [(.v (.pO (Go.Value.nilFunc))),.aX,(.v (.pO (Go.Value.map Option.none))),V 0,V 0] [(0,1,(t 3)),(2,1,(t 4))]) 5 [0,1],
 o (.box (t 5)) 6 [2],
 m 6 2 [3,0,1,2,3]]
def ap2:DC:=(j (y Tp) (j (y Tq) .ret))
def ap3 [bM]:aB aj 100 7 ap2 (dj 2):=aB.of Tryz.f100 (by kernel_rfl)
def Tr:ai:=[
 B 0 2,
 B 1 3,
 F 4]
def Ts:ai:=[
 a 1 2 5 [],
 L 2 5 6 [0],
 a 1 3 7 [],
 L 2 7 8 [2],
 o (.call 84 [(t 6),(t 8)]) 9 [1,3],
 m 9 4 (k [4,4] 4)]
def ap4:DC:=(j (y Tr) (j (y Ts) .ret))
def ap5 [bM]:aB aj 101 10 ap4 (dj 4):=aB.of Tryz.f101 (by kernel_rfl)
def Tu:ai:=[
 n 0 6,
 c 6 7 [0],
 a 0 7 8 [1],
 a 1 8 9 [2],
 l 9 10 [3],
 n 1 11,
 x 5 10 11 12 [4,5],
 L 5 12 13 [6],
 o (.alloc [V 0,.aX,V 0,V 0,V 0]) 4 [],
 S 5 4 13 (k [8,7] 8)]
def FR:ai:=[
 n 0 14,
 L 5 4 15 [],
 o (.callS 105 [(t 14),(t 15)]) 16 [0,1],
 o (.alloc [V 0,V 0]) 5 [],
 S 2 5 16 [3,2,2,0,1,2,3]]
def aeU:ai:=FR.map bare
def DG:ai:=[
 a 0 5 17 [],
 l 17 18 [0],
 C .lss 18 1099511627776 19 [1],
 m 19 20 [2],
 w 0 21 20 true [3],
 g (.nilCheck (t 21)) 22 20 true [4,3],
 u 3 22 23 20 true [5,3],
 v 23 24 20 true [6,3],
 u 0 4 25 20 true [3],
 v 25 26 20 true [8,3],
 g (.idxAddr 1 (t 24) (t 26)) 27 20 true [7,9,3],
 v 27 28 20 true [10,3],
 K 28 29 20 true [11,3],
 q 20 29 30 [3,12]]
def FT:ai:=[
 n 0 31,
 c 31 32 [0],
 a 6 32 33 [1],
 l 33 34 [2],
 a 0 4 35 [],
 l 35 36 [4],
 L 2 5 37 [],
 o (.build [V 0,V 0,V 0] [(0,1,(t 36)),(1,2,(t 37))]) 38 [5,6],
 o (.callS 132 [(t 34),(t 38)]) 39 [3,7]]
def aeV:ai:=FT.map bare
def ap6:DC:=(j (y Tu) (j (y aeU) (j (Y DG) (.cond (.tmp 30) (Y aeV) .skip))))
def FU:List dS:=[]
def ap7 [bM]:aB aj 102 40 ap6 FU:=aB.of Tryz.f102 (by kernel_rfl)
def Tv:ai:=[
 o (.alloc [V 0,V 0,V 0]) 2 [],
 F 3]
def Tw:ai:=[
 n 0 6,
 c 6 7 [0],
 a 1 7 8 [1],
 l 8 9 [2],
 N 9 10 [3],
 C .eql 10 0 11 [4]]
def Tx:ai:=[
 o (.alloc [V 0,V 0,V 0]) 12 [],
 c 12 13 [0],
 L 3 13 14 [1],
 S 3 2 14 [2,0,1,2],
 o (.sh (.ia (.v (.bool false)))) 3 [3,0,1,2,3]]
def J6:ai:=[
 n 0 15,
 c 15 16 [0],
 a 1 16 17 [1],
 l 17 18 [2],
 o (.idxAddr 5 (t 18) (i 0)) 19 [3],
 L 5 19 20 [4],
 n 0 21,
 c 21 22 [6],
 a 1 22 23 [7],
 l 23 24 [8],
 N 24 25 [9],
 C .sub 25 1 26 [10],
 o (.alloc [V 0,V 0,V 0,V 0,V 0]) 4 [],
 S 5 4 20 [12,5,0,1,2,3,4,5,12],
 m 26 5 (k [11,13] 13)]
def FV:ai:=[
 n 0 27,
 n 5 28,
 o (.callS 133 [(t 27),(i 0),(t 28)]) 29 [0,1]]
def aeW:ai:=FV.map bare
def Tz:ai:=[
 n 0 30,
 n 0 31,
 c 31 32 [1],
 a 1 32 33 [2],
 l 33 34 [3],
 n 5 35,
 o (.slice 5 (t 34) none (some (t 35))) 36 [4,5],
 c 30 37 (k [0] 6),
 a 1 37 38 (k [7] 6),
 S 1 38 36 (k [8,6] 6)]
def TA:ai:=[
 n 0 39,
 c 39 40 [0],
 a 2 40 41 [1],
 l 41 42 [2],
 a 3 4 43 [],
 l 43 44 [4],
 s (.mapDel [(.int .i64)] false (t 42) (t 44)) [3,5]]
def FW:ai:=[
 n 0 45,
 o (.callS 134 [(t 45),(i 0)]) 46 [0]]
def aeX:ai:=FW.map bare
def TB:ai:=[
 a 0 4 47 [],
 L 3 47 48 [0],
 S 3 2 48 [1,0,1],
 o (.sh (.ia (.v (.bool true)))) 3 [2,0,1,2]]
def ap8:DC:=(j (y Tv) (j (j (y Tw) (.cond (.tmp 11) (j (y Tx) .ret) .skip)) (j (.jQ J6) (j (y aeW) (j (y Tz) (j (Y TA) (j (y aeX) (j (y TB) .ret))))))))
def FX:List dS:=[.cell 2 3 true,.oz 3]
def ap9 [bM]:aB aj 103 49 ap8 FX:=aB.of Tryz.f103 (by kernel_rfl)
def TC:ai:=[
 B 1 3]
def J7:ai:=[
 n 0 6,
 c 6 7 [0],
 a 3 7 8 [1],
 l 8 9 [2],
 a 0 3 10 [],
 l 10 11 [4],
 n 0 12,
 c 12 13 [6],
 a 2 13 14 [7],
 l 14 15 [8],
 a 0 3 16 [],
 l 16 17 [10],
 a 1 3 18 [],
 L 2 18 19 [12],
 x 1 9 11 20 [3,5,0,1,2,3,4,5,9],
 s (.store 1 (t 20) (.ia (.v (.bool true)))) [14,0,1,2,3,4,5,9],
 x 2 15 17 21 (k [9,11] 15),
 S 2 21 19 (k [16,13,15] 15)]
def TD:ai:=[
 n 0 22,
 c 22 23 [0],
 a 5 23 24 [1],
 l 24 25 [2],
 a 0 3 26 [],
 l 26 27 [4],
 x 1 25 27 28 [3,5],
 l 28 29 [6],
 N 29 30 [7],
 I 0 31]
def TE:ai:=[
 b .lss 31 30 32 []]
def TF:ai:=[
 x 1 29 31 33 [],
 l 33 34 [0],
 m 34 5 [1,0,1]]
def TG:ai:=[
 n 0 35,
 c 35 36 [0],
 a 4 36 37 [1],
 l 37 38 [2],
 n 5 39,
 x 1 38 39 40 [3,4],
 l 40 41 [5],
 C .sub 41 1 42 [6],
 x 1 38 39 43 (k [3,4] 7),
 S 1 43 42 (k [8,7] 7)]
def TH:ai:=[
 n 0 44,
 c 44 45 [0],
 a 4 45 46 [1],
 l 46 47 [2],
 n 5 48,
 x 1 47 48 49 [3,4],
 l 49 50 [5],
 C .eql 50 0 51 [6]]
def FY:ai:=[
 n 0 52,
 n 5 53,
 o (.callS 102 [(t 52),(t 53)]) 54 [0,1]]
def aeY:ai:=FY.map bare
def J8:ai:=[
 C .add 31 1 55 [],
 m 55 31 [0]]
def aqa:DC:=(j (y TC) (j (.jQ J7) (j (Y TD) (.block 0 (.loop (j (y TE) (j (.cond (.tmp 32) .skip (.exit 0)) (j (.block 1 (j (y TF) (j (y TG) (j (y TH) (.cond (.tmp 51) (y aeY) .skip))))) (y J8)))))))))
def M1:List dS:=[]
def aqb [bM]:aB aj 104 56 aqa M1:=aB.of Tryz.f104 (by kernel_rfl)
def J9:ai:=[
 B 1 3,
 o (.alloc [V 0,V 0]) 4 []]
def Ka:ai:=[
 a 1 3 8 [],
 l 8 9 [0],
 N 9 10 [1],
 o (.mkSlice 63 2 16 [(.int .i64 0),(.int .i64 0)] (t 10)) 11 [2,2],
 m 11 5 [3,0,1,2,3]]
def Kb:ai:=[
 a 1 3 12 [],
 l 12 13 [0],
 N 13 14 [1],
 I 0 15]
def Kc:ai:=[
 b .lss 15 14 16 []]
def Kd:ai:=[
 n 15 17,
 x 1 13 15 18 [],
 l 18 19 [1],
 m 17 6 [0,0,1,2],
 m 19 7 [2,3,0,1,2,3]]
def Ke:ai:=[
 n 5 20,
 n 6 21,
 n 0 22,
 c 22 23 [2],
 a 2 23 24 [3],
 l 24 25 [4],
 n 7 26,
 x 2 25 26 27 [5,6],
 L 2 27 28 [7],
 x 2 20 21 29 (k [0,1] 8),
 S 2 29 28 (k [9,8] 8)]
def Kf:ai:=[
 C .add 15 1 30 [],
 m 30 15 [0]]
def Kg:ai:=[
 a 2 3 31 [],
 l 31 32 [0],
 n 5 33,
 o (.call 123 [(t 32),(t 33)]) 34 [1,2],
 S 2 4 34 [3,3,0,1,2,3]]
def aqc:DC:=(j (y J9) (j (y Ka) (j (j (y Kb) (.block 0 (.loop (j (y Kc) (j (.cond (.tmp 16) .skip (.exit 0)) (j (.block 1 (j (y Kd) (y Ke))) (y Kf))))))) (j (y Kg) .ret))))
def FZ:List dS:=[.cell 4 2 true]
def ajt [bM]:aB aj 105 35 aqc FZ:=aB.of Tryz.f105 (by kernel_rfl)
def TI:ai:=[
 B 1 3,
 I 0 4]
def TJ:ai:=[
 n 0 7,
 c 7 8 [0],
 a 3 8 9 [1],
 l 9 10 [2],
 n 0 11,
 c 11 12 [4],
 a 1 12 13 [5],
 l 13 14 [6],
 N 14 15 [7],
 m 10 5 [3,0,1,2,3],
 m 15 6 (k [8,9] 9)]
def TK:ai:=[
 n 0 16,
 n 0 17,
 c 17 18 [1],
 a 1 18 19 [2],
 l 19 20 [3],
 L 3 3 21 [],
 n 5 22,
 n 0 23,
 c 23 24 [7],
 a 4 24 25 [8],
 l 25 26 [9],
 o (.build [V 0,V 0,V 0,V 0,V 0] [(0,3,(t 21)),(3,1,(t 22)),(4,1,(t 26))]) 27 [5,6,10],
 o (.bslice 1 5 [V 0,V 0,V 0,V 0,V 0] [(0,5,(t 27))]) 28 [11],
 o (.append 211 5 40 (t 20) (t 28)) 29 [4,12],
 c 16 30 (k [0] 13),
 a 1 30 31 (k [14] 13),
 S 1 31 29 (k [15,13,13] 13)]
def TL:ai:=[
 n 0 32,
 c 32 33 [0],
 a 2 33 34 [1],
 l 34 35 [2],
 n 5 36,
 n 6 37,
 s (.mapUpd [(.int .i64)] false (t 35) (t 36) (t 37)) (k [3,4,5] 5)]
def TM:ai:=[
 n 0 38,
 n 0 39,
 n 0 40,
 c 40 41 [2],
 a 3 41 42 [3],
 l 42 43 [4],
 C .add 43 1 44 [5],
 n 0 45,
 c 45 46 [7],
 a 4 46 47 [8],
 l 47 48 [9],
 C .add 48 1 49 [10],
 c 38 50 [0,0,2,3,4,5,6,10],
 a 3 50 51 [12,0,2,3,4,5,6,10],
 S 1 51 44 [13,6,0,2,3,4,5,6,10],
 c 39 52 (k [1] 14),
 a 4 52 53 (k [15] 14),
 S 1 53 49 (k [16,11,14] 14)]
def F0:ai:=[
 n 0 54,
 n 6 55,
 o (.callS 147 [(t 54),(t 55)]) 56 [0,1]]
def aeZ:ai:=F0.map bare
def TN:ai:=[
 n 5 57,
 m 57 4 [0,0]]
def aqd:DC:=(j (y TI) (j (Y TJ) (j (Y TK) (j (y TL) (j (Y TM) (j (y aeZ) (j (y TN) .ret)))))))
def aqe [bM]:aB aj 132 58 aqd (dj 4):=aB.of Tryz.f132 (by kernel_rfl)
def TO:ai:=[
 n 0 6,
 c 6 7 [0],
 a 1 7 8 [1],
 l 8 9 [2],
 n 1 10,
 n 0 11,
 c 11 12 [5],
 a 1 12 13 [6],
 l 13 14 [7],
 n 2 15,
 n 0 16,
 c 16 17 [10],
 a 1 17 18 [11],
 l 18 19 [12],
 n 2 20,
 x 5 19 20 21 [13,14],
 L 5 21 22 [15],
 n 0 23,
 c 23 24 [17],
 a 1 24 25 [18],
 l 25 26 [19],
 n 1 27,
 x 5 26 27 28 [20,21],
 L 5 28 29 [22],
 x 5 9 10 30 [3,4,0,1,2,3,4,8,10,11,12,13,14,15,16,20,23],
 S 5 30 22 [24,16,0,1,2,3,4,8,10,11,12,13,14,15,16,20,23],
 x 5 14 15 31 (k [8,9] 25),
 S 5 31 29 (k [26,23,25] 25)]
def TP:ai:=[
 n 0 32,
 c 32 33 [0],
 a 2 33 34 [1],
 l 34 35 [2],
 n 0 36,
 c 36 37 [4],
 a 1 37 38 [5],
 l 38 39 [6],
 n 1 40,
 x 5 39 40 41 [7,8],
 a 3 41 42 [9],
 l 42 43 [10],
 n 0 44,
 c 44 45 [12],
 a 2 45 46 [13],
 l 46 47 [14],
 n 0 48,
 c 48 49 [16],
 a 1 49 50 [17],
 l 50 51 [18],
 n 2 52,
 x 5 51 52 53 [19,20],
 a 3 53 54 [21],
 l 54 55 [22],
 n 1 56,
 n 2 57,
 o (.mapEnt [(.int .i64)] false (.v (.int .i64 0)) (t 35) (t 43)) 58 [3,11,15,19,23],
 e 1 58 59 [26],
 s (.entSt (t 35) (t 59) (t 56)) [3,27,24,26,0,1,2,3,4,5,6,7,8,9,10,11,15,19,23,24,26],
 o (.mapEnt [(.int .i64)] false (.v (.int .i64 0)) (t 47) (t 55)) 60 [15,23,28,0,1,2,3,4,5,6,7,8,9,10,11,15,19,23,24,26,27,28],
 e 1 60 61 [29],
 s (.entSt (t 47) (t 61) (t 57)) (k [15,30,25,29] 29)]
def aqf:DC:=(j (Y TO) (Y TP))
def M3:List dS:=[]
def aqg [bM]:aB aj 133 62 aqf M3:=aB.of Tryz.f133 (by kernel_rfl)
def TQ:ai:=[
 n 1 6,
 m 6 4 [0,0]]
def TR:ai:=[
 n 1 7,
 o (.bin .mul (i 2) (t 7)) 8 [0],
 C .add 8 1 9 [1],
 m 9 5 [2,0,1,2]]
def DH:ai:=[
 n 5 10,
 n 1 11,
 o (.bin .mul (i 2) (t 11)) 12 [1],
 C .add 12 2 13 [2],
 b .leq 10 13 14 [0,3],
 m 14 15 [4],
 w 5 16 15 true [5],
 w 0 17 15 true [5],
 g (.nilCheck (t 17)) 18 15 true [7,5],
 u 1 18 19 15 true [8,5],
 v 19 20 15 true [9,5],
 H 20 21 15 true [10,5],
 D .lss 16 21 22 15 true [6,11,5],
 q 15 22 23 [5,12]]
def F1:ai:=[
 n 0 26,
 n 5 27,
 n 4 28,
 o (.callS 148 [(t 26),(t 27),(t 28)]) 29 [0,1,2]]
def ae0:ai:=F1.map bare
def TS:ai:=[
 n 5 30,
 m 30 4 [0,0]]
def TT:ai:=[
 n 5 24,
 C .add 24 1 25 [0],
 m 25 5 [1,0,1]]
def TU:ai:=[
 n 4 31,
 n 1 32,
 b .eql 31 32 33 [0,1]]
def F2:ai:=[
 n 0 34,
 n 1 35,
 n 4 36,
 o (.callS 133 [(t 34),(t 35),(t 36)]) 37 [0,1,2]]
def ae1:ai:=F2.map bare
def TV:ai:=[
 n 4 38,
 m 38 1 [0,0]]
def aqh:DC:=(.block 0 (.loop (.block 1 (j (y TQ) (j (j (y TR) (.block 2 (.loop (j (j (y DH) (.cond (.tmp 23) .skip (.exit 2))) (j (.block 3 (j (y ae0) (.cond (.tmp 29) (y TS) .skip))) (y TT)))))) (j (j (y TU) (.cond (.tmp 33) .ret .skip)) (j (y ae1) (y TV))))))))
def M4:List dS:=[]
def aqi [bM]:aB aj 134 39 aqh M4:=aB.of Tryz.f134 (by kernel_rfl)
def vG:ai:=[
 n 1 4,
 C .gtr 4 0 5 [0],
 m 5 6 [1],
 w 0 7 6 true [2],
 w 1 8 6 true [2],
 w 1 9 6 true [2],
 E .sub 9 1 10 6 true [5,2],
 E .quo 10 2 11 6 true [6,2],
 g (.callS 148 [(t 7),(t 8),(t 11)]) 12 6 true [3,4,7,2,2],
 q 6 12 13 [2,8]]
def ae2:ai:=vG.map bare
def F3:ai:=[
 n 0 14,
 n 1 15,
 n 1 16,
 C .sub 16 1 17 [2],
 C .quo 17 2 18 [3],
 o (.callS 133 [(t 14),(t 15),(t 18)]) 19 [0,1,4]]
def ae3:ai:=F3.map bare
def TW:ai:=[
 n 1 20,
 C .sub 20 1 21 [0],
 C .quo 21 2 22 [1],
 m 22 1 [2,0,1,2]]
def aqj:DC:=(.block 0 (.loop (j (j (y ae2) (.cond (.tmp 13) .skip (.exit 0))) (.block 1 (j (y ae3) (y TW))))))
def F4:List dS:=[]
def aqk [bM]:aB aj 147 23 aqj F4:=aB.of Tryz.f147 (by kernel_rfl)
def TX:ai:=[
 F 6]
def Kh:ai:=[
 n 0 9,
 c 9 10 [0],
 a 1 10 11 [1],
 l 11 12 [2],
 n 1 13,
 x 5 12 13 14 [3,4],
 L 5 14 15 [5],
 n 0 16,
 c 16 17 [7],
 a 1 17 18 [8],
 l 18 19 [9],
 n 2 20,
 x 5 19 20 21 [10,11],
 L 5 21 22 [12],
 o (.alloc [V 0,V 0,V 0,V 0,V 0]) 7 [],
 o (.alloc [V 0,V 0,V 0,V 0,V 0]) 8 [],
 S 5 7 15 [14,6,0,1,2,3,4,5,6,14,15],
 S 5 8 22 (k [15,13,16] 16)]
def TY:ai:=[
 n 0 23,
 c 23 24 [0],
 a 0 24 25 [1],
 l 25 26 [2],
 a 0 7 27 [],
 L 3 27 28 [4],
 a 0 8 29 [],
 L 3 29 30 [6],
 o (.callv (t 26) [(t 28),(t 30)]) 31 [3,5,7]]
def TZ:ai:=[
 R 6]
def Ki:ai:=[
 n 0 32,
 c 32 33 [0],
 a 0 33 34 [1],
 l 34 35 [2],
 a 0 8 36 [],
 L 3 36 37 [4],
 a 0 7 38 [],
 L 3 38 39 [6],
 o (.callv (t 35) [(t 37),(t 39)]) 40 [3,5,7],
 U 40 41 [8],
 m 41 42 [9,8],
 u 4 7 43 42 true [10],
 v 43 44 42 true [11,10],
 u 4 8 45 42 true [10],
 v 45 46 42 true [13,10],
 D .lss 44 46 47 42 true [12,14,10],
 q 42 47 48 [10,15],
 m 48 6 (k [16,10] 16)]
def aql:DC:=(j (y TX) (j (.jQ Kh) (j (j (Y TY) (.cond (.tmp 31) (j (y TZ) .ret) .skip)) (j (Y Ki) .ret))))
def aqm [bM]:aB aj 148 49 aql (dj 6):=aB.of Tryz.f148 (by kernel_rfl)
def T0:ai:=[
 B 0 1,
 F 2]
def px:ai:=[
 a 0 1 3 [],
 l 3 4 [0],
 C .lss 4 0 5 [1],
 m 5 6 [2],
 u 0 1 7 6 false [3],
 v 7 8 6 false [4,3],
 E .gtr 8 120 9 6 false [5,3],
 p 6 9 10 [3,6],
 m 10 11 [7,3],
 u 1 1 12 11 false [8],
 v 12 13 11 false [9,8],
 E .lss 13 1 14 11 false [10,8],
 p 11 14 15 [8,11],
 m 15 16 [12,8],
 u 1 1 17 16 false [13],
 v 17 18 16 false [14,13],
 E .gtr 18 1000 19 16 false [15,13],
 p 16 19 20 [13,16],
 m 20 21 [17,13],
 u 2 1 22 21 false [18],
 v 22 23 21 false [19,18],
 E .lss 23 0 24 21 false [20,18],
 p 21 24 25 [18,21],
 m 25 26 [22,18],
 u 2 1 27 26 false [23],
 v 27 28 26 false [24,23],
 u 1 1 29 26 false [23],
 v 29 30 26 false [26,23],
 D .geq 28 30 31 26 false [25,27,23],
 p 26 31 32 [23,28],
 m 32 33 [29,23],
 u 3 1 34 33 false [30],
 v 34 35 33 false [31,30],
 H 35 36 33 false [32,30],
 E .gtr 36 600 37 33 false [33,30],
 p 33 37 38 [30,34]]
def T1:ai:=[
 F 2]
def T2:ai:=[
 a 3 1 39 [],
 l 39 40 [0],
 o (.mkFn (.func 39) [(t 1)]) 41 [],
 o (.call 38 [(t 40),(t 41)]) 42 [1,2],
 U 42 43 [3],
 m 43 2 (k [4,3] 4)]
def aqn:DC:=(j (y T0) (j (j (y px) (.cond (.tmp 38) (j (y T1) .ret) .skip)) (j (y T2) .ret)))
def aqo [bM]:aB aj 26 44 aqn (dj 2):=aB.of Tryz.f26 (by kernel_rfl)
def T3:ai:=[
 B 0 2,
 F 4]
def tR:ai:=[
 n 1 5,
 C .lss 5 0 6 [0],
 m 6 7 [1],
 u 0 2 8 7 false [2],
 v 8 9 7 false [3,2],
 H 9 10 7 false [4,2],
 E .gtr 10 60 11 7 false [5,2],
 p 7 11 12 [2,6],
 m 12 13 [7,2],
 u 1 2 14 13 false [8],
 v 14 15 13 false [9,8],
 H 15 16 13 false [10,8],
 w 1 17 13 false [8],
 D .neq 16 17 18 13 false [11,12,8],
 p 13 18 19 [8,13],
 m 19 20 [14,8],
 u 2 2 21 20 false [15],
 v 21 22 20 false [16,15],
 E .neq 22 0 23 20 false [17,15],
 w 23 24 20 false [18,15,15],
 u 2 2 25 24 true [19],
 v 25 26 24 true [20,19],
 g (.call 41 [(t 26)]) 27 24 true [21,19,19],
 K 27 28 24 true [22,19],
 g (.pick (t 24) (t 28) (.ia (.v (.bool false)))) 29 20 false [19,23,15],
 p 20 29 30 [15,24]]
def T4:ai:=[
 F 4]
def Kj:ai:=[
 a 1 2 31 [],
 l 31 32 [0],
 o (.call 42 [(t 32),(.ia (.v (.fn (.func 43) [])))]) 33 [1],
 U 33 34 [2],
 m 34 35 [3,2],
 u 0 2 36 35 true [4],
 v 36 37 35 true [5,4],
 w 1 38 35 true [4],
 g (.call 44 [(t 37),(t 38)]) 39 35 true [6,7,4,4],
 q 35 39 40 [4,8],
 m 40 4 (k [9,8] 9)]
def aqp:DC:=(j (y T3) (j (j (y tR) (.cond (.tmp 30) (j (y T4) .ret) .skip)) (j (y Kj) .ret)))
def aqq [bM]:aB aj 27 41 aqp (dj 4):=aB.of Tryz.f27 (by kernel_rfl)
def T5:ai:=[
 B 0 2,
 F 4]
def DI:ai:=[
 L 4 2 7 [],
 o (.call 26 [(t 7)]) 8 [0],
 U 8 9 [1],
 m 9 10 [2,1],
 w 1 11 10 false [3],
 H 11 12 10 false [4,3],
 u 0 2 13 10 false [3],
 v 13 14 10 false [6,3],
 D .neq 12 14 15 10 false [5,7,3],
 p 10 15 16 [3,8]]
def T6:ai:=[
 F 4]
def T7:ai:=[
 L 4 2 17 [],
 n 1 18,
 o (.call 45 [(t 17),(t 18)]) 19 [0,1],
 N 19 20 [2],
 I 0 21]
def T8:ai:=[
 b .lss 21 20 22 []]
def T9:ai:=[
 x 2 19 21 23 [],
 L 2 23 24 [0],
 o (.alloc [V 0,V 0]) 6 [],
 S 2 6 24 [2,1,0,1,2]]
def DJ:ai:=[
 a 0 6 25 [],
 l 25 26 [0],
 C .lss 26 1099511627776 27 [1],
 m 27 28 [2],
 u 1 6 29 28 true [3],
 v 29 30 28 true [4,3],
 E .gtr 30 1000 31 28 true [5,3],
 q 28 31 32 [3,6]]
def Ua:ai:=[
 F 4]
def Ub:ai:=[
 C .add 21 1 33 [],
 m 33 21 [0]]
def Uc:ai:=[
 R 4]
def aqr:DC:=(j (y T5) (j (j (y DI) (.cond (.tmp 16) (j (y T6) .ret) .skip)) (j (j (y T7) (.block 0 (.loop (j (y T8) (j (.cond (.tmp 22) .skip (.exit 0)) (j (.block 1 (j (y T9) (j (y DJ) (.cond (.tmp 32) (j (y Ua) .ret) .skip)))) (y Ub))))))) (j (y Uc) .ret))))
def aqs [bM]:aB aj 28 34 aqr (dj 4):=aB.of Tryz.f28 (by kernel_rfl)
def Ud:ai:=[
 F 4]
def Ue:ai:=[
 n 0 5,
 n 1 6,
 o (.call 64 [(t 5),(t 6)]) 7 [0,1],
 C .geq 7 0 8 [2],
 m 8 4 [3,2,0,1,2,3]]
def aqt:DC:=(j (y Ud) (j (y Ue) .ret))
def aqu [bM]:aB aj 38 9 aqt (dj 4):=aB.of Tryz.f38 (by kernel_rfl)
def Uf:ai:=[
 B 0 2,
 F 3]
def Ug:ai:=[
 L 4 1 4 [],
 L 6 2 5 [],
 o (.call 40 [(t 4),(t 5)]) 6 [0,1],
 U 6 7 [2],
 m 7 3 [3,2,0,1,2,3]]
def aqv:DC:=(j (y Uf) (j (y Ug) .ret))
def aqw [bM]:aB aj 39 8 aqv (dj 3):=aB.of Tryz.f39 (by kernel_rfl)
def Uh:ai:=[
 B 0 2,
 B 1 3,
 F 4]
def Ui:ai:=[
 o (.mkFn (.func 65) [(t 2)]) 6 [],
 m 6 5 [0,0]]
def wx:ai:=[
 n 5 7,
 a 1 3 8 [],
 l 8 9 [1],
 o (.callv (t 7) [(t 9)]) 10 [0,2],
 U 10 11 [3],
 m 11 12 [4,3],
 u 4 3 13 12 false [5],
 v 13 14 12 false [6,5],
 E .lss 14 0 15 12 false [7,5],
 p 12 15 16 [5,8],
 m 16 17 [9,5],
 u 4 3 18 17 false [10],
 v 18 19 17 false [11,10],
 E .gtr 19 1000 20 17 false [12,10],
 p 17 20 21 [10,13],
 m 21 22 [14,10],
 u 5 3 23 22 false [15],
 v 23 24 22 false [16,15],
 E .lss 24 (-1) 25 22 false [17,15],
 p 22 25 26 [15,18]]
def Uj:ai:=[
 F 4]
def Uk:ai:=[
 a 0 3 27 [],
 l 27 28 [0]]
def Ul:ai:=[
 C .eql 28 1 30 [],
 m 30 29 [0]]
def DK:ai:=[
 a 2 3 31 [],
 l 31 32 [0],
 C .eql 32 0 33 [1],
 m 33 34 [2],
 u 3 3 35 34 true [3],
 v 35 36 34 true [4,3],
 E .eql 36 0 37 34 true [5,3],
 q 34 37 38 [3,6],
 m 38 4 (k [7,3] 7)]
def Um:ai:=[
 C .eql 28 2 40 [],
 m 40 39 [0]]
def zR:ai:=[
 a 2 3 41 [],
 l 41 42 [0],
 C .geq 42 0 43 [1],
 m 43 44 [2],
 u 2 3 45 44 true [3],
 v 45 46 44 true [4,3],
 u 0 2 47 44 true [3],
 v 47 48 44 true [6,3],
 D .lss 46 48 49 44 true [5,7,3],
 q 44 49 50 [3,8],
 m 50 51 [9,3],
 u 3 3 52 51 true [10],
 v 52 53 51 true [11,10],
 E .eql 53 0 54 51 true [12,10],
 q 51 54 55 [10,13],
 m 55 4 (k [14,10] 14)]
def Un:ai:=[
 C .eql 28 3 57 [],
 m 57 56 [0]]
def zS:ai:=[
 n 5 58,
 a 2 3 59 [],
 l 59 60 [1],
 o (.callv (t 58) [(t 60)]) 61 [0,2],
 m 61 62 [3,3],
 u 3 3 63 62 true [4],
 v 63 64 62 true [5,4],
 E .eql 64 0 65 62 true [6,4],
 q 62 65 66 [4,7],
 m 66 4 (k [8,4] 8)]
def M6:ai:=[
 C .eql 28 4 68 [],
 m 68 67 [0]]
def zT:ai:=[
 n 5 69,
 a 2 3 70 [],
 l 70 71 [1],
 o (.callv (t 69) [(t 71)]) 72 [0,2],
 m 72 73 [3,3],
 w 5 74 73 true [4],
 u 3 3 75 73 true [4],
 v 75 76 73 true [6,4],
 g (.callv (t 74) [(t 76)]) 77 73 true [5,7,4,4],
 q 73 77 78 [4,8],
 m 78 4 (k [9,8] 9)]
def M7:ai:=[
 F 4]
def aqx:DC:=(j (y Uh) (j (y Ui) (j (j (y wx) (.cond (.tmp 26) (j (y Uj) .ret) .skip)) (j (j (y Uk) (.block 0 (j (y Ul) (.cond (.tmp 29) (j (y DK) .ret) (j (y Um) (.cond (.tmp 39) (j (y zR) .ret) (j (y Un) (.cond (.tmp 56) (j (y zS) .ret) (j (y M6) (.cond (.tmp 67) (j (y zT) .ret) .skip)))))))))) (j (y M7) .ret)))))
def aqy [bM]:aB aj 40 79 aqx (dj 4):=aB.of Tryz.f40 (by kernel_rfl)
def Uo:ai:=[
 F 2]
def DL:ai:=[
 n 0 3,
 C .geq 3 1 4 [0],
 m 4 5 [1],
 w 0 6 5 true [2],
 E .leq 6 60000 7 5 true [3,2],
 q 5 7 8 [2,4],
 m 8 2 (k [5,2] 5)]
def aqz:DC:=(j (y Uo) (j (y DL) .ret))
def aqA [bM]:aB aj 41 9 aqz (dj 2):=aB.of Tryz.f41 (by kernel_rfl)
def Up:ai:=[
 F 4]
def Uq:ai:=[
 n 0 5,
 n 1 6,
 o (.call 66 [(t 5),(t 6)]) 7 [0,1],
 C .geq 7 0 8 [2],
 m 8 4 [3,2,0,1,2,3]]
def aqB:DC:=(j (y Up) (j (y Uq) .ret))
def aqC [bM]:aB aj 42 9 aqB (dj 4):=aB.of Tryz.f42 (by kernel_rfl)
def Ur:ai:=[
 F 2]
def Us:ai:=[
 n 0 3,
 o (.call 41 [(t 3)]) 4 [0],
 U 4 5 [1],
 m 5 2 [2,1,0,1,2]]
def aqD:DC:=(j (y Ur) (j (y Us) .ret))
def aqE [bM]:aB aj 43 6 aqD (dj 2):=aB.of Tryz.f43 (by kernel_rfl)
def Ut:ai:=[
 B 1 3,
 F 4]
def Uu:ai:=[
 n 0 5,
 o (.mkFn (.func 68) [(t 3)]) 6 [],
 o (.call 67 [(t 5),(t 6)]) 7 [0,1],
 U 7 8 [2],
 m 8 4 [3,2,0,1,2,3]]
def aqF:DC:=(j (y Ut) (j (y Uu) .ret))
def aqG [bM]:aB aj 44 9 aqF (dj 4):=aB.of Tryz.f44 (by kernel_rfl)
def Kk:ai:=[
 B 0 2,
 Z 4]
def Kl:ai:=[
 L 4 2 7 [],
 n 1 8,
 o (.call 70 [(t 7),(t 8)]) 9 [0,1],
 U 9 10 [2]]
def Uv:ai:=[
 Z 4]
def Uw:ai:=[
 L 4 2 12 [],
 n 1 13,
 o (.call 72 [(t 12),(t 13)]) 14 [0,1],
 o (.call 71 [(t 14)]) 15 [2,2],
 m 15 11 [3],
 e 0 11 16 [4],
 e 1 11 17 [4],
 m 16 5 (k [5,3] 5),
 m 17 6 (k [6,7] 7)]
def Ux:ai:=[
 n 5 18,
 m 18 4 [0,0]]
def aqH:DC:=(j (y Kk) (j (j (y Kl) (.cond (.tmp 10) (j (y Uv) .ret) .skip)) (j (y Uw) (j (y Ux) .ret))))
def aju [bM]:aB aj 45 19 aqH (dj 4):=aB.of Tryz.f45 (by kernel_rfl)
def Uy:ai:=[
 I 0 4]
def Uz:ai:=[
 n 0 6,
 N 6 7 [0],
 I 0 8]
def UA:ai:=[
 b .lss 8 7 9 []]
def UB:ai:=[
 n 8 10,
 m 10 5 [0,0]]
def UC:ai:=[
 n 1 11,
 n 0 12,
 n 5 13,
 x 6 12 13 14 [1,2],
 L 6 14 15 [3],
 o (.callv (t 11) [(t 15)]) 16 [0,4]]
def UD:ai:=[
 n 5 17,
 m 17 4 [0,0]]
def UE:ai:=[
 C .add 8 1 18 [],
 m 18 8 [0]]
def UF:ai:=[
 I (-1) 4]
def aqI:DC:=(j (y Uy) (j (j (y Uz) (.block 0 (.loop (j (y UA) (j (.cond (.tmp 9) .skip (.exit 0)) (j (.block 1 (j (y UB) (j (y UC) (.cond (.tmp 16) (j (y UD) .ret) .skip)))) (y UE))))))) (j (y UF) .ret)))
def aqJ [bM]:aB aj 64 19 aqI (dj 4):=aB.of Tryz.f64 (by kernel_rfl)
def UG:ai:=[
 F 3]
def DN:ai:=[
 n 0 4,
 C .geq 4 0 5 [0],
 m 5 6 [1],
 w 0 7 6 true [2],
 u 1 1 8 6 true [2],
 v 8 9 6 true [4,2],
 D .lss 7 9 10 6 true [3,5,2],
 q 6 10 11 [2,6],
 m 11 3 (k [7,2] 7)]
def aqK:DC:=(j (y UG) (j (y DN) .ret))
def aqL [bM]:aB aj 65 12 aqK (dj 3):=aB.of Tryz.f65 (by kernel_rfl)
def UH:ai:=[
 I 0 4]
def UI:ai:=[
 n 0 6,
 N 6 7 [0],
 I 0 8]
def UJ:ai:=[
 b .lss 8 7 9 []]
def UK:ai:=[
 n 8 10,
 m 10 5 [0,0]]
def UL:ai:=[
 n 1 11,
 n 0 12,
 n 5 13,
 x 1 12 13 14 [1,2],
 l 14 15 [3],
 o (.callv (t 11) [(t 15)]) 16 [0,4]]
def UM:ai:=[
 n 5 17,
 m 17 4 [0,0]]
def UN:ai:=[
 C .add 8 1 18 [],
 m 18 8 [0]]
def UO:ai:=[
 I (-1) 4]
def aqM:DC:=(j (y UH) (j (j (y UI) (.block 0 (.loop (j (y UJ) (j (.cond (.tmp 9) .skip (.exit 0)) (j (.block 1 (j (y UK) (j (y UL) (.cond (.tmp 16) (j (y UM) .ret) .skip)))) (y UN))))))) (j (y UO) .ret)))
def aqN [bM]:aB aj 66 19 aqM (dj 4):=aB.of Tryz.f66 (by kernel_rfl)
def UP:ai:=[
 F 4]
def UQ:ai:=[
 n 0 5,
 n 1 6,
 o (.call 99 [(t 5),(t 6)]) 7 [0,1],
 C .geq 7 0 8 [2],
 m 8 4 [3,2,0,1,2,3]]
def aqO:DC:=(j (y UP) (j (y UQ) .ret))
def aqP [bM]:aB aj 67 9 aqO (dj 4):=aB.of Tryz.f67 (by kernel_rfl)
def UR:ai:=[
 B 0 2,
 F 3]
def US:ai:=[
 L 3 2 4 [],
 l 1 5 [],
 o (.call 69 [(t 4),(t 5)]) 6 [0,1],
 U 6 7 [2],
 m 7 3 [3,2,0,1,2,3]]
def aqQ:DC:=(j (y UR) (j (y US) .ret))
def aqR [bM]:aB aj 68 8 aqQ (dj 3):=aB.of Tryz.f68 (by kernel_rfl)
def UT:ai:=[
 B 0 2,
 F 4]
def tS:ai:=[
 a 0 2 7 [],
 l 7 8 [0],
 C .lss 8 (-1) 9 [1],
 m 9 10 [2],
 u 0 2 11 10 false [3],
 v 11 12 10 false [4,3],
 w 1 13 10 false [3],
 D .geq 12 13 14 10 false [5,6,3],
 p 10 14 15 [3,7],
 m 15 16 [8,3],
 u 1 2 17 16 false [9],
 v 17 18 16 false [10,9],
 H 18 19 16 false [11,9],
 w 1 20 16 false [9],
 D .neq 19 20 21 16 false [12,13,9],
 p 16 21 22 [9,14],
 m 22 23 [15,9],
 u 2 2 24 23 false [16],
 v 24 25 23 false [17,16],
 g (.call 41 [(t 25)]) 26 23 false [18,16,16],
 K 26 27 23 false [19,16],
 w 27 28 23 false [20,19,16],
 u 2 2 29 28 true [21],
 v 29 30 28 true [22,21],
 E .neq 30 1099511627776 31 28 true [23,21],
 g (.pick (t 28) (t 31) (.ia (.v (.bool false)))) 32 23 false [21,24,16],
 p 23 32 33 [16,25]]
def UU:ai:=[
 F 4]
def UV:ai:=[
 a 1 2 34 [],
 l 34 35 [0],
 N 35 36 [1],
 I 0 37]
def UW:ai:=[
 b .lss 37 36 38 []]
def UX:ai:=[
 n 37 39,
 x 1 35 37 40 [],
 l 40 41 [1],
 m 39 5 [0,0,1,2],
 m 41 6 [2,3,0,1,2,3]]
def wy:ai:=[
 n 5 42,
 a 0 2 43 [],
 l 43 44 [1],
 b .eql 42 44 45 [0,2],
 m 45 46 [3],
 w 6 47 46 true [4],
 E .neq 47 0 48 46 true [5,4],
 q 46 48 49 [4,6],
 m 49 50 [7,4],
 w 5 51 50 false [8],
 u 0 2 52 50 false [8],
 v 52 53 50 false [10,8],
 D .neq 51 53 54 50 false [9,11,8],
 w 54 55 50 false [12,8,8],
 w 6 56 55 true [13],
 E .neq 56 (-1) 57 55 true [14,13],
 g (.pick (t 55) (t 57) (.ia (.v (.bool false)))) 58 50 false [13,15,8],
 w 58 59 50 false [16,13,8],
 w 6 60 59 true [17],
 g (.call 41 [(t 60)]) 61 59 true [18,17,17],
 K 61 62 59 true [19,17],
 g (.pick (t 59) (t 62) (.ia (.v (.bool false)))) 63 50 false [17,20,8],
 p 50 63 64 [8,21]]
def UY:ai:=[
 F 4]
def UZ:ai:=[
 C .add 37 1 65 [],
 m 65 37 [0]]
def U0:ai:=[
 R 4]
def aqS:DC:=(j (y UT) (j (j (y tS) (.cond (.tmp 33) (j (y UU) .ret) .skip)) (j (j (y UV) (.block 0 (.loop (j (y UW) (j (.cond (.tmp 38) .skip (.exit 0)) (j (.block 1 (j (y UX) (j (y wy) (.cond (.tmp 64) (j (y UY) .ret) .skip)))) (y UZ))))))) (j (y U0) .ret))))
def aqT [bM]:aB aj 69 66 aqS (dj 4):=aB.of Tryz.f69 (by kernel_rfl)
def U1:ai:=[
 B 0 2,
 F 4]
def DO:ai:=[
 L 4 2 7 [],
 o (.call 26 [(t 7)]) 8 [0],
 U 8 9 [1],
 m 9 10 [2,1],
 w 1 11 10 false [3],
 H 11 12 10 false [4,3],
 u 0 2 13 10 false [3],
 v 13 14 10 false [6,3],
 D .neq 12 14 15 10 false [5,7,3],
 p 10 15 16 [3,8]]
def U2:ai:=[
 F 4]
def U3:ai:=[
 n 1 17,
 N 17 18 [0],
 I 0 19]
def U4:ai:=[
 b .lss 19 18 20 []]
def U5:ai:=[
 x 1 17 19 21 [],
 l 21 22 [0],
 m 22 6 [1,0,1]]
def DP:ai:=[
 n 6 23,
 C .lss 23 1 24 [0],
 m 24 25 [1],
 w 6 26 25 false [2],
 E .gtr 26 60000 27 25 false [3,2],
 p 25 27 28 [2,4]]
def U6:ai:=[
 F 4]
def U7:ai:=[
 C .add 19 1 29 [],
 m 29 19 [0]]
def U8:ai:=[
 R 4]
def aqU:DC:=(j (y U1) (j (j (y DO) (.cond (.tmp 16) (j (y U2) .ret) .skip)) (j (j (y U3) (.block 0 (.loop (j (y U4) (j (.cond (.tmp 20) .skip (.exit 0)) (j (.block 1 (j (y U5) (j (y DP) (.cond (.tmp 28) (j (y U6) .ret) .skip)))) (y U7))))))) (j (y U8) .ret))))
def aqV [bM]:aB aj 70 30 aqU (dj 4):=aB.of Tryz.f70 (by kernel_rfl)
def U9:ai:=[
 B 0 2,
 o (.alloc [V 0,.aX]) 4 []]
def Va:ai:=[
 a 1 2 9 [],
 l 9 10 [0],
 o (.build [V 0,.aX] [(0,1,(t 10))]) 11 [1],
 o (.alloc [V 0,.aX]) 5 [],
 S 2 5 11 [3,2,0,1,2,3]]
def Vb:ai:=[
 a 3 2 12 [],
 l 12 13 [0],
 N 13 14 [1],
 I 0 15]
def Vc:ai:=[
 b .lss 15 14 16 []]
def Vd:ai:=[
 x 6 13 15 17 [],
 L 6 17 18 [0],
 o (.alloc [V 0,V 0,V 0,V 0,V 0,V 0]) 7 [],
 S 6 7 18 [2,1,0,1,2]]
def Ve:ai:=[
 a 1 7 19 [],
 l 19 20 [0],
 a 4 7 21 [],
 l 21 22 [2],
 o (.build [V 0,.aX,V 0,V 0,V 0] [(0,1,(t 20)),(2,1,(t 22))]) 23 [1,3],
 o (.alloc [V 0,.aX,V 0,V 0,V 0]) 8 [],
 S 5 8 23 (k [5,4] 5)]
def Vf:ai:=[
 a 0 7 24 [],
 l 24 25 [0]]
def Vg:ai:=[
 C .eql 25 2 27 [],
 m 27 26 [0]]
def Vh:ai:=[
 a 2 8 28 [],
 l 28 29 [0],
 n 1 30,
 a 2 7 31 [],
 l 31 32 [3],
 x 1 30 32 33 [2,4],
 l 33 34 [5],
 b .add 29 34 35 [1,6],
 a 2 8 36 (k [] 7),
 S 1 36 35 (k [8,7] 7)]
def Vi:ai:=[
 C .eql 25 3 38 [],
 m 38 37 [0]]
def M8:ai:=[
 a 2 7 39 [],
 l 39 40 [0],
 o (.bslice 1 1 [V 0] [(0,1,(t 40))]) 41 [1],
 a 1 8 42 [0,1,2],
 S 1 42 41 [3,2,0,1,2]]
def M9:ai:=[
 C .eql 25 4 44 [],
 m 44 43 [0]]
def Na:ai:=[
 a 2 7 45 [],
 l 45 46 [0],
 a 3 7 47 [],
 l 47 48 [2],
 o (.bslice 2 1 [V 0,V 0] [(0,1,(t 46)),(1,1,(t 48))]) 49 [1,3],
 a 1 8 50 (k [] 4),
 S 1 50 49 (k [5,4] 4)]
def Nb:ai:=[
 a 1 5 51 [],
 l 51 52 [0],
 L 5 8 53 [],
 o (.bslice 1 5 [V 0,.aX,V 0,V 0,V 0] [(0,5,(t 53))]) 54 [2],
 o (.append 157 5 56 (t 52) (t 54)) 55 [1,3],
 a 1 5 56 (k [] 4),
 S 1 56 55 (k [5,4,4] 4)]
def Nc:ai:=[
 C .add 15 1 57 [],
 m 57 15 [0]]
def Nd:ai:=[
 L 2 5 58 [],
 S 2 4 58 [0,0]]
def aqW:DC:=(j (y U9) (j (y Va) (j (j (y Vb) (.block 0 (.loop (j (y Vc) (j (.cond (.tmp 16) .skip (.exit 0)) (j (.block 1 (j (y Vd) (j (y Ve) (j (j (y Vf) (.block 2 (j (y Vg) (.cond (.tmp 26) (Y Vh) (j (y Vi) (.cond (.tmp 37) (y M8) (j (y M9) (.cond (.tmp 43) (y Na) .skip)))))))) (y Nb))))) (y Nc))))))) (j (y Nd) .ret))))
def Nf:List dS:=[.cell 4 2 true]
def aqX [bM]:aB aj 72 59 aqW Nf:=aB.of Tryz.f72 (by kernel_rfl)
def Vj:ai:=[
 I 0 4]
def Vk:ai:=[
 n 0 6,
 N 6 7 [0],
 I 0 8]
def Vl:ai:=[
 b .lss 8 7 9 []]
def Vm:ai:=[
 n 8 10,
 m 10 5 [0,0]]
def Vn:ai:=[
 n 1 11,
 n 0 12,
 n 5 13,
 x 3 12 13 14 [1,2],
 L 3 14 15 [3],
 o (.callv (t 11) [(t 15)]) 16 [0,4]]
def Vo:ai:=[
 n 5 17,
 m 17 4 [0,0]]
def Vp:ai:=[
 C .add 8 1 18 [],
 m 18 8 [0]]
def Vq:ai:=[
 I (-1) 4]
def aqY:DC:=(j (y Vj) (j (j (y Vk) (.block 0 (.loop (j (y Vl) (j (.cond (.tmp 9) .skip (.exit 0)) (j (.block 1 (j (y Vm) (j (y Vn) (.cond (.tmp 16) (j (y Vo) .ret) .skip)))) (y Vp))))))) (j (y Vq) .ret)))
def aqZ [bM]:aB aj 99 19 aqY (dj 4):=aB.of Tryz.f99 (by kernel_rfl)
def F5:ai:=[
 B 0 3,
 B 1 4,
 B 2 5,
 F 6]
def Gg:ai:=[
 o (.call 8 []) 13 [],
 U 13 14 [0]]
def aci:ai:=[
 F 6]
def CB:ai:=[
 L 4 3 16 [],
 L 3 4 17 [],
 o (.call 9 [(t 16),(t 17)]) 18 [0,1],
 m 18 15 [2],
 e 0 15 19 [3],
 e 1 15 20 [3],
 o (.alloc [V 0,V 0,V 0,.aX,.aX,.aX,V 0,V 0,V 0,(.v (.bool false))]) 7 [],
 S 10 7 19 [6,4,2,0,1,2,3,4,6],
 m 20 8 (k [5,7] 7)]
def DQ:ai:=[
 n 8 21,
 U 21 22 [0],
 m 22 23 [1],
 g (.load 4 true (t 3)) 24 23 false [2],
 g (.load 3 true (t 4)) 25 23 false [2],
 g (.call 10 [(t 24),(t 25)]) 26 23 false [3,4,2,2],
 K 26 27 23 false [5,2],
 p 23 27 28 [2,6]]
def D6:ai:=[
 R 6]
def G2:ai:=[
 L 4 3 30 [],
 L 3 4 31 [],
 o (.call 12 [(t 30),(t 31)]) 32 [0,1],
 o (.arrAddr 2 1 (t 5) (i 0)) 33 [],
 l 33 34 [3],
 o (.conv .i64 (t 34)) 35 [4],
 o (.bin .add (i 1) (t 35)) 36 [5],
 o (.call 11 [(t 32),(t 36)]) 37 [2,6,2],
 m 37 29 [7],
 e 0 29 38 [8],
 e 1 29 39 [8],
 o (.alloc [V 0,V 0,.aX]) 9 [],
 S 3 9 38 [11,9,7,0,1,2,3,4,5,6,7,8,9,11],
 m 39 10 (k [10,12] 12)]
def G3:ai:=[
 L 4 3 41 [],
 L 3 4 42 [],
 o (.call 12 [(t 41),(t 42)]) 43 [0,1],
 o (.arrAddr 2 1 (t 5) (i 1)) 44 [],
 l 44 45 [3],
 o (.conv .i64 (t 45)) 46 [4],
 o (.bin .add (i 1) (t 46)) 47 [5],
 o (.call 11 [(t 43),(t 47)]) 48 [2,6,2],
 m 48 40 [7],
 e 0 40 49 [8],
 e 1 40 50 [8],
 o (.alloc [V 0,V 0,.aX]) 11 [],
 S 3 11 49 [11,9,7,0,1,2,3,4,5,6,7,8,9,11],
 m 50 12 (k [10,12] 12)]
def Km:ai:=[
 n 10 51,
 C .eql 51 0 52 [0],
 m 52 53 [1],
 w 12 54 53 true [2],
 E .eql 54 0 55 53 true [3,2],
 q 53 55 56 [2,4],
 m 56 57 [5,2],
 g (.load 3 true (t 9)) 58 57 true [6],
 g (.load 3 true (t 11)) 59 57 true [6],
 g (.call 13 [(t 58),(t 59)]) 60 57 true [7,8,6,6],
 q 57 60 61 [6,9],
 m 61 6 (k [10,9] 10)]
def afp:DC:=(j (y F5) (j (j (y Gg) (.cond (.tmp 14) (j (y aci) .ret) .skip)) (j (j (y CB) (j (y DQ) (.cond (.tmp 28) (j (y D6) .ret) .skip))) (j (Y G2) (j (Y G3) (j (y Km) .ret))))))
def afP [bM]:aB aj 3 62 afp (dj 6):=aB.of Tryz.f3 (by kernel_rfl)
def Vx:ai:=[
 F 0]
def Vy:ai:=[
 o (.call 21 []) 12 [],
 m 12 11 [0],
 e 0 11 13 [1],
 e 1 11 14 [1],
 o (.alloc [V 0,V 0,V 0,.aX]) 1 [],
 o (.alloc [.aX,.aX,V 0]) 2 [],
 S 4 1 13 [4,2,0,0,1,2,4,5],
 S 3 2 14 (k [5,3,6] 6)]
def Vz:ai:=[
 L 4 1 15 [],
 L 3 2 16 [],
 o (.call 12 [(t 15),(t 16)]) 17 [0,1],
 m 17 3 [2,2,0,1,2]]
def VA:ai:=[
 n 3 18,
 o (.isNil 1 false (t 18)) 19 [0]]
def ae5:ai:=[
 F 0]
def F7:ai:=[
 n 3 20,
 o (.callS 17 [(t 20),(i 4)]) 21 [0],
 m 21 4 [1,1,0,1]]
def ae6:ai:=F7.map bare
def F8:ai:=[
 n 3 23,
 o (.callS 19 [(t 23)]) 24 [0],
 m 24 22 [1],
 e 0 22 25 [2],
 e 1 22 26 [2],
 o (.alloc [V 0,V 0,.aX]) 5 [],
 S 3 5 25 [5,3,1,0,1,2,3,5],
 m 26 6 (k [4,6] 6)]
def ae7:ai:=F8.map bare
def F9:ai:=[
 n 3 27,
 o (.callS 18 [(t 27)]) 28 [0],
 m 28 7 [1,1,0,1]]
def ae8:ai:=F9.map bare
def Ga:ai:=[
 n 3 29,
 o (.callS 17 [(t 29),(i 9)]) 30 [0],
 m 30 8 [1,1,0,1]]
def ae9:ai:=Ga.map bare
def Gb:ai:=[
 n 3 32,
 o (.callS 19 [(t 32)]) 33 [0],
 m 33 31 [1],
 e 0 31 34 [2],
 e 1 31 35 [2],
 o (.alloc [V 0,V 0,.aX]) 9 [],
 S 3 9 34 [5,3,1,0,1,2,3,5],
 m 35 10 (k [4,6] 6)]
def afa:ai:=Gb.map bare
def Ni:ai:=[
 n 4 36,
 C .eql 36 4 37 [0],
 m 37 38 [1],
 w 6 39 38 true [2],
 E .eql 39 15 40 38 true [3,2],
 q 38 40 41 [2,4],
 m 41 42 [5,2],
 w 7 43 42 true [6],
 E .eql 43 2 44 42 true [7,6],
 q 42 44 45 [6,8],
 m 45 46 [9,6],
 w 8 47 46 true [10],
 E .eql 47 2 48 46 true [11,10],
 q 46 48 49 [10,12],
 m 49 50 [13,10],
 w 10 51 50 true [14],
 E .eql 51 0 52 50 true [15,14],
 q 50 52 53 [14,16],
 m 53 54 [17,14],
 u 1 9 55 54 true [18],
 v 55 56 54 true [19,18],
 E .eql 56 3 57 54 true [20,18],
 q 54 57 58 [18,21],
 m 58 59 [22,18],
 u 2 9 60 59 true [23],
 v 60 61 59 true [24,23],
 H 61 62 59 true [25,23],
 E .eql 62 6 63 59 true [26,23],
 q 59 63 64 [23,27],
 m 64 65 [28,23],
 u 2 9 66 65 true [29],
 v 66 67 65 true [30,29],
 g (.idxAddr 4 (t 67) (i 2)) 68 65 true [31,29],
 u 0 68 69 65 true [32,29],
 g (.load 2 true (t 69)) 70 65 true [33,29],
 g (.build [V 0,V 0] [(0,1,(i 2)),(1,1,(i 1))]) 71 65 true [29],
 g (.eqT false true [(.int .i64),(.int .i64)] (t 70) (t 71)) 72 65 true [34,35,29],
 q 65 72 73 [29,36],
 m 73 0 (k [37,29] 37)]
def aq2:DC:=(j (y Vx) (j (y Vy) (j (y Vz) (j (j (y VA) (.cond (.tmp 19) (j (y ae5) .ret) .skip)) (j (y ae6) (j (y ae7) (j (y ae8) (j (y ae9) (j (y afa) (j (y Ni) .ret))))))))))
def aq3 [bM]:aB aj 8 74 aq2 (dj 0):=aB.of Tryz.f8 (by kernel_rfl)
def VB:ai:=[
 B 0 2,
 B 1 3,
 o (.alloc [V 0,V 0,V 0,.aX,.aX,.aX,V 0,V 0,V 0,(.v (.bool false))]) 4 [],
 F 5]
def Kp:ai:=[
 L 4 2 7 [],
 a 1 3 8 [],
 l 8 9 [1],
 o (.call 22 [(t 7),(t 9)]) 10 [0,2],
 U 10 11 [3],
 m 11 12 [4,3],
 g (.load 3 true (t 3)) 13 12 false [5],
 u 0 2 14 12 false [5],
 v 14 15 12 false [7,5],
 g (.call 23 [(t 13),(t 15)]) 16 12 false [6,8,5,5],
 K 16 17 12 false [9,5],
 p 12 17 18 [5,10]]
def VC:ai:=[
 o (.build [V 0,V 0,V 0,.aX,.aX,.aX,V 0,V 0,V 0,(.v (.bool false))] []) 19 [],
 S 10 4 19 [0,0],
 o (.sh (.ia (.v (.bool false)))) 5 [1,0,1]]
def VD:ai:=[
 a 0 3 20 [],
 l 20 21 [0],
 N 21 22 [1],
 o (.bin .mul (i 2) (t 22)) 23 [2],
 C .add 23 1 24 [3],
 m 24 6 (k [4] 4)]
def VE:ai:=[
 L 4 2 25 [],
 L 3 3 26 [],
 n 6 27,
 n 6 28,
 C .add 28 1 29 [3],
 b .mul 27 29 30 [2,4],
 C .quo 30 2 31 [5],
 o (.build [V 0,V 0,V 0,.aX,.aX,.aX,V 0,V 0,V 0,(.v (.bool false))] [(0,4,(t 25)),(4,3,(t 26)),(7,1,(t 31))]) 32 [0,1,6],
 S 10 4 32 (k [7] 7),
 o (.sh (.ia (.v (.bool true)))) 5 (k [8] 8)]
def aq4:DC:=(j (y VB) (j (j (y Kp) (.cond (.tmp 18) (j (y VC) .ret) .skip)) (j (y VD) (j (y VE) .ret))))
def Gc:List dS:=[.cell 4 10 true,.oz 5]
def aq5 [bM]:aB aj 9 33 aq4 Gc:=aB.of Tryz.f9 (by kernel_rfl)
def VF:ai:=[
 B 0 2,
 B 1 3,
 F 4]
def wA:ai:=[
 L 4 2 5 [],
 a 1 3 6 [],
 l 6 7 [1],
 o (.call 24 [(t 5),(t 7)]) 8 [0,2],
 m 8 9 [3,3],
 u 1 2 10 9 true [4],
 v 10 11 9 true [5,4],
 E .leq 11 12 12 9 true [6,4],
 q 9 12 13 [4,7],
 m 13 14 [8,4],
 u 3 2 15 14 true [9],
 v 15 16 14 true [10,9],
 H 16 17 14 true [11,9],
 E .leq 17 20 18 14 true [12,9],
 q 14 18 19 [9,13],
 m 19 20 [14,9],
 g (.load 3 true (t 3)) 21 20 true [15],
 g (.call 25 [(t 21),(i 4),(i 6)]) 22 20 true [16,15,15],
 q 20 22 23 [15,17],
 m 23 4 (k [18,17] 18)]
def aq6:DC:=(j (y VF) (j (y wA) .ret))
def aq7 [bM]:aB aj 10 24 aq6 (dj 4):=aB.of Tryz.f10 (by kernel_rfl)
def VG:ai:=[
 o (.alloc [V 0,V 0,.aX]) 4 [],
 I 0 5]
def VH:ai:=[
 I 0 6]
def Gd:ai:=[
 n 6 7,
 C .lss 7 2000 8 [0],
 m 8 9 [1],
 w 0 10 9 true [2],
 w 1 11 9 true [2],
 g (.callS 17 [(t 10),(t 11)]) 12 9 true [3,4,2,2],
 E .gtr 12 0 13 9 true [5,2],
 q 9 13 14 [2,6]]
def afb:ai:=Gd.map bare
def VI:ai:=[
 n 6 15,
 C .add 15 1 16 [0],
 m 16 6 [1,0,1]]
def Ge:ai:=[
 n 0 17,
 o (.callS 19 [(t 17)]) 18 [0],
 e 0 18 19 [1],
 e 1 18 20 [1],
 S 3 4 19 [2,1,0,1,2,3],
 m 20 5 (k [3,4] 4)]
def afc:ai:=Ge.map bare
def aq8:DC:=(j (y VG) (j (j (y VH) (.block 0 (.loop (j (j (y afb) (.cond (.tmp 14) .skip (.exit 0))) (j (.block 1 .skip) (y VI)))))) (j (y afc) .ret)))
def Gf:List dS:=[.cell 4 3 true,.oz 5]
def aq9 [bM]:aB aj 11 21 aq8 Gf:=aB.of Tryz.f11 (by kernel_rfl)
def VJ:ai:=[
 B 0 2,
 B 1 3,
 o (.sh (.ia (.v (.pO (Go.Value.pointer Option.none))))) 4 []]
def VK:ai:=[
 L 4 2 7 [],
 o (.call 26 [(t 7)]) 8 [0],
 U 8 9 [1],
 m 9 10 [2,1],
 g (.load 3 true (t 3)) 11 10 false [3],
 u 0 2 12 10 false [3],
 v 12 13 10 false [5,3],
 g (.call 27 [(t 11),(t 13)]) 14 10 false [4,6,3,3],
 K 14 15 10 false [7,3],
 p 10 15 16 [3,8],
 m 16 17 [9,7],
 g (.load 4 true (t 2)) 18 17 false [10],
 u 1 3 19 17 false [10],
 v 19 20 17 false [12,10],
 g (.call 28 [(t 18),(t 20)]) 21 17 false [11,13,10,10],
 K 21 22 17 false [14,10],
 p 17 22 23 [10,15]]
def afd:ai:=[
 o (.sh (.ia (.v (.pO (Go.Value.pointer Option.none))))) 4 []]
def VL:ai:=[
 L 3 3 24 [],
 o (.call 29 [(t 24)]) 25 [0],
 o (.alloc [V 0,.aX,.aX]) 5 [],
 S 3 5 25 [2,1,1,0,1,2]]
def VN:ai:=[
 a 0 5 26 [],
 l 26 27 [0],
 a 0 5 28 [],
 l 28 29 [2],
 C .add 29 1 30 [3],
 b .mul 27 30 31 [1,4],
 C .quo 31 2 32 [5],
 m 32 6 (k [6] 6)]
def VO:ai:=[
 L 4 2 33 [],
 L 3 5 34 [],
 a 1 2 35 [],
 l 35 36 [2],
 a 0 5 37 [],
 l 37 38 [4],
 a 1 2 39 [],
 l 39 40 [6],
 n 6 41,
 b .mul 40 41 42 [7,8],
 o (.mkSlice 65 4 32 [(.int .i64 0),(.int .i64 0),(.int .i64 0),(.int .i64 0)] (t 42)) 43 [9,9],
 o (.build [V 0,V 0,.aX] [(0,1,(t 36)),(1,1,(t 38)),(2,1,(t 43))]) 44 [3,5,10],
 n 6 45,
 o (.build [V 0,V 0,V 0,.aX,V 0,.aX,.aX,V 0,V 0,.aX,V 0,V 0,V 0,(.v (.bool false))] [(0,4,(t 33)),(4,3,(t 34)),(7,3,(t 44)),(12,1,(t 45))]) 46 [0,1,11,12],
 o (.box (t 46)) 47 [13],
 m 47 4 (k [14] 14)]
def ara:DC:=(j (y VJ) (j (j (y VK) (.cond (.tmp 23) (j (y afd) .ret) .skip)) (j (y VL) (j (y VN) (j (Y VO) .ret)))))
def arb [bM]:aB aj 12 48 ara (dj 4):=aB.of Tryz.f12 (by kernel_rfl)
def VP:ai:=[
 B 0 2,
 B 1 3,
 F 4]
def VQ:ai:=[
 a 0 2 6 [],
 l 6 7 [0],
 a 0 3 8 [],
 l 8 9 [2],
 b .neq 7 9 10 [1,3],
 m 10 11 [4],
 u 1 2 12 11 false [5],
 v 12 13 11 false [6,5],
 u 1 3 14 11 false [5],
 v 14 15 11 false [8,5],
 D .neq 13 15 16 11 false [7,9,5],
 p 11 16 17 [5,10],
 m 17 18 [11,5],
 u 2 2 19 18 false [12],
 v 19 20 18 false [13,12],
 H 20 21 18 false [14,12],
 u 2 3 22 18 false [12],
 v 22 23 18 false [16,12],
 H 23 24 18 false [17,12],
 D .neq 21 24 25 18 false [15,18,12],
 p 18 25 26 [12,19]]
def afe:ai:=[
 F 4]
def VR:ai:=[
 I 0 5]
def VS:ai:=[
 n 5 27,
 a 2 2 28 [],
 l 28 29 [1],
 N 29 30 [2],
 b .lss 27 30 31 [0,3]]
def VT:ai:=[
 a 2 2 34 [],
 l 34 35 [0],
 n 5 36,
 x 4 35 36 37 [1,2],
 L 4 37 38 [3],
 a 2 3 39 [],
 l 39 40 [5],
 n 5 41,
 x 4 40 41 42 [6,7],
 L 4 42 43 [8],
 o (.eqT true true [(.int .i64),(.int .i64),(.int .i64),(.int .i64)] (t 38) (t 43)) 44 [4,9]]
def aff:ai:=[
 F 4]
def VU:ai:=[
 n 5 32,
 C .add 32 1 33 [0],
 m 33 5 [1,0,1]]
def VV:ai:=[
 R 4]
def arc:DC:=(j (y VP) (j (j (y VQ) (.cond (.tmp 26) (j (y afe) .ret) .skip)) (j (j (y VR) (.block 0 (.loop (j (j (y VS) (.cond (.tmp 31) .skip (.exit 0))) (j (.block 1 (j (Y VT) (.cond (.tmp 44) (j (y aff) .ret) .skip))) (y VU)))))) (j (y VV) .ret))))
def ard [bM]:aB aj 13 45 arc (dj 4):=aB.of Tryz.f13 (by kernel_rfl)
def Kq:ai:=[
 B 0 2,
 B 1 3,
 I 0 4]
def DR:ai:=[
 l 2 8 [],
 o (.isNil 1 false (t 8)) 9 [0],
 m 9 10 [1],
 v 2 11 10 false [2],
 g (.nilCheck (t 11)) 12 10 false [3,2],
 u 13 12 13 10 false [4,2],
 v 13 14 10 false [5,2],
 p 10 14 15 [2,6],
 m 15 16 [7,2],
 v 3 17 16 false [8],
 E .leq 17 0 18 16 false [9,8],
 p 16 18 19 [8,10]]
def VY:ai:=[
 I 0 4]
def VZ:ai:=[
 o (.alloc [V 0]) 5 [],
 s (.store 1 (t 5) (i 0)) [0,0]]
def V0:ai:=[
 l 2 20 [],
 o (.call 30 [(t 20)]) 21 [0]]
def V1:ai:=[
 n 22 6]
def V2:ai:=[
 n 23 7]
def Gh:ai:=[
 l 2 24 [],
 n 6 25,
 n 7 26,
 o (.callS 31 [(t 24),(t 25),(t 26)]) 27 [0,1,2]]
def afg:ai:=Gh.map bare
def V3:ai:=[
 l 5 28 [],
 C .add 28 1 29 [0],
 S 1 5 29 [1,0,1]]
def V4:ai:=[
 l 5 30 [],
 l 3 31 [],
 b .eql 30 31 32 [0,1]]
def Gi:ai:=[
 l 5 33 [],
 m 33 4 [0,0]]
def arh:DC:=(j (y Kq) (j (j (y DR) (.cond (.tmp 19) (j (y VY) .ret) .skip)) (j (y VZ) (j (j (y V0) (.block 0 (.JF (.tmp 21) [22,23] (j (y V1) (y V2)) (.block 1 (j (y afg) (j (y V3) (j (y V4) (.cond (.tmp 32) (.exit 0) .skip)))))))) (j (y Gi) .ret)))))
def ajv [bM]:aB aj 17 34 arh (dj 4):=aB.of Tryz.f17 (by kernel_rfl)
def V5:ai:=[
 I 0 2]
def V6:ai:=[
 n 0 3,
 o (.isNil 1 false (t 3)) 4 [0]]
def afh:ai:=[
 I 0 2]
def V7:ai:=[
 n 0 5,
 c 5 6 [0],
 a 12 6 7 [1],
 l 7 8 [2],
 m 8 2 [3,0,1,2,3]]
def ari:DC:=(j (y V5) (j (j (y V6) (.cond (.tmp 4) (j (y afh) .ret) .skip)) (j (y V7) .ret)))
def arj [bM]:aB aj 18 9 ari (dj 2):=aB.of Tryz.f18 (by kernel_rfl)
def Kr:ai:=[
 o (.alloc [V 0,V 0,.aX]) 2 [],
 I 0 3]
def Ks:ai:=[
 n 0 5,
 o (.isNil 1 false (t 5)) 6 [0],
 m 6 4 [1]]
def afi:ai:=[
 o (.build [V 0,V 0,.aX] []) 7 [],
 S 3 2 7 [0,0],
 o (.sh (i 15)) 3 [1,0,1]]
def Kt:ai:=[
 n 0 9,
 c 9 10 [0],
 a 13 10 11 [1],
 l 11 12 [2],
 m 12 8 [3]]
def V8:ai:=[
 o (.build [V 0,V 0,.aX] []) 13 [],
 S 3 2 13 [0,0],
 o (.sh (i 12)) 3 [1,0,1]]
def Ku:ai:=[
 n 0 15,
 c 15 16 [0],
 a 12 16 17 [1],
 l 17 18 [2],
 C .gtr 18 0 19 [3],
 m 19 14 [4]]
def V9:ai:=[
 o (.build [V 0,V 0,.aX] []) 20 [],
 S 3 2 20 [0,0],
 o (.sh (i 15)) 3 [1,0,1]]
def Wa:ai:=[
 n 0 21,
 c 21 22 [0],
 a 7 22 23 [1],
 L 3 23 24 [2],
 S 3 2 24 [3,0,1,2,3],
 o (.sh (i 0)) 3 (k [4] 4)]
def ark:DC:=(j (y Kr) (j (.block 0 (j (y Ks) (.cond (.tmp 4) (j (y afi) .ret) (j (y Kt) (.cond (.tmp 8) (j (y V8) .ret) (j (y Ku) (.cond (.tmp 14) (j (y V9) .ret) .skip))))))) (j (y Wa) .ret)))
def vH:List dS:=[.cell 2 3 true,.oz 3]
def ajw [bM]:aB aj 19 25 ark vH:=aB.of Tryz.f19 (by kernel_rfl)
def Wb:ai:=[
 o (.alloc [V 0,V 0,V 0,.aX]) 0 [],
 o (.alloc [.aX,.aX,V 0]) 1 []]
def Wc:ai:=[
 o (.build [V 0,V 0,V 0,V 0,V 0,V 0] [(0,1,(i 2)),(4,1,(i 2))]) 2 [],
 o (.bslice 1 6 [V 0,V 0,V 0,V 0,V 0,V 0] [(0,6,(t 2))]) 3 [0],
 o (.build [V 0,V 0,V 0,.aX] [(0,1,(i 1)),(1,1,(i 1)),(3,1,(t 3))]) 4 [1],
 o (.bslice 1 1 [V 0] [(0,1,(i 0))]) 5 [],
 o (.build [V 0,.aX,V 0] [(1,1,(t 5)),(2,1,(i 3))]) 6 [3],
 o (.bslice 1 3 [V 0,.aX,V 0] [(0,3,(t 6))]) 7 [4],
 o (.bslice 1 1 [V 0] [(0,1,(i 4))]) 8 [],
 o (.build [.aX,.aX,V 0] [(0,1,(t 7)),(1,1,(t 8))]) 9 [5,6],
 S 4 0 4 [2,0,1,2],
 S 3 1 9 (k [7,8] 8)]
def arl:DC:=(j (y Wb) (j (y Wc) .ret))
def Nj:List dS:=[.cell 0 4 true,.cell 1 3 true]
def arm [bM]:aB aj 21 10 arl Nj:=aB.of Tryz.f21 (by kernel_rfl)
def Wd:ai:=[
 B 0 2,
 F 4]
def zU:ai:=[
 a 3 2 5 [],
 l 5 6 [0],
 N 6 7 [1],
 C .leq 7 60 8 [2],
 m 8 9 [3],
 u 1 2 10 9 true [4],
 v 10 11 9 true [5,4],
 E .leq 11 60 12 9 true [6,4],
 q 9 12 13 [4,7],
 m 13 14 [8,4],
 w 1 15 14 true [9],
 H 15 16 14 true [10,9],
 E .leq 16 30 17 14 true [11,9],
 q 14 17 18 [9,12],
 m 18 4 (k [13,9] 13)]
def arn:DC:=(j (y Wd) (j (y zU) .ret))
def aro [bM]:aB aj 24 19 arn (dj 4):=aB.of Tryz.f24 (by kernel_rfl)
def We:ai:=[
 B 0 3,
 F 6]
def DS:ai:=[
 a 0 3 8 [],
 l 8 9 [0],
 N 9 10 [1],
 n 1 11,
 b .gtr 10 11 12 [2,3],
 m 12 13 [4],
 u 1 3 14 13 false [5],
 v 14 15 13 false [6,5],
 H 15 16 13 false [7,5],
 w 2 17 13 false [5],
 D .gtr 16 17 18 13 false [8,9,5],
 p 13 18 19 [5,10]]
def Wf:ai:=[
 F 6]
def Wg:ai:=[
 I 0 7]
def Wh:ai:=[
 n 7 20,
 a 0 3 21 [],
 l 21 22 [1],
 N 22 23 [2],
 b .lss 20 23 24 [0,3]]
def Wi:ai:=[
 a 0 3 27 [],
 l 27 28 [0],
 n 7 29,
 x 3 28 29 30 [1,2],
 a 1 30 31 [3],
 l 31 32 [4],
 N 32 33 [5],
 n 2 34,
 b .gtr 33 34 35 [6,7]]
def Wj:ai:=[
 F 6]
def Wk:ai:=[
 n 7 25,
 C .add 25 1 26 [0],
 m 26 7 [1,0,1]]
def Wl:ai:=[
 R 6]
def arp:DC:=(j (y We) (j (j (y DS) (.cond (.tmp 19) (j (y Wf) .ret) .skip)) (j (j (y Wg) (.block 0 (.loop (j (j (y Wh) (.cond (.tmp 24) .skip (.exit 0))) (j (.block 1 (j (y Wi) (.cond (.tmp 35) (j (y Wj) .ret) .skip))) (y Wk)))))) (j (y Wl) .ret))))
def arq [bM]:aB aj 25 36 arp (dj 6):=aB.of Tryz.f25 (by kernel_rfl)
def Wm:ai:=[
 B 0 1,
 o (.sh (.ia (.v (.pO (Go.Value.nilFunc))))) 2 []]
def Wn:ai:=[
 o (.mkFn (.func 51) [(t 1)]) 3 [],
 m 3 2 [0,0]]
def ars:DC:=(j (y Wm) (j (y Wn) .ret))
def art [bM]:aB aj 30 4 ars (dj 2):=aB.of Tryz.f30 (by kernel_rfl)
def Wo:ai:=[
 n 1 7,
 n 0 8,
 c 8 9 [1],
 a 4 9 10 [2],
 a 0 10 11 [3],
 l 11 12 [4],
 b .mul 7 12 13 [0,5],
 n 1 14,
 n 1 15,
 C .sub 15 1 16 [8],
 b .mul 14 16 17 [7,9],
 C .quo 17 2 18 [10],
 b .sub 13 18 19 [6,11],
 n 2 20,
 b .add 19 20 21 [12,13],
 n 1 22,
 b .sub 21 22 23 [14,15],
 m 23 6 (k [16] 16)]
def afj:ai:=[
 n 0 24,
 c 24 25 [0],
 a 7 25 26 [1],
 a 2 26 27 [2],
 l 27 28 [3],
 n 6 29,
 n 0 30,
 c 30 31 [6],
 a 0 31 32 [7],
 a 1 32 33 [8],
 l 33 34 [9],
 b .mul 29 34 35 [5,10],
 o (.slice 4 (t 28) (some (t 35)) none) 36 [4,11],
 n 0 37,
 c 37 38 [13],
 a 0 38 39 [14],
 L 4 39 40 [15],
 n 0 41,
 c 41 42 [17],
 a 4 42 43 [18],
 L 3 43 44 [19],
 n 0 45,
 c 45 46 [21],
 a 7 46 47 [22],
 L 3 47 48 [23],
 n 1 49,
 n 2 50,
 o (.call 52 [(t 40),(t 44),(t 48),(t 49),(t 50)]) 51 [16,20,24,25,26],
 o (.copy 4 (t 36) (t 51)) 52 [12,27,27]]
def aru:DC:=(j (y Wo) (Y afj))
def Nk:List dS:=[]
def arv [bM]:aB aj 31 53 aru Nk:=aB.of Tryz.f31 (by kernel_rfl)
def Wp:ai:=[
 l 1 5 [],
 c 5 6 [0],
 a 12 6 7 [1],
 l 7 8 [2],
 C .gtr 8 0 9 [3]]
def Wq:ai:=[
 l 1 10 [],
 c 10 11 [0],
 a 11 11 12 [1],
 l 12 13 [2],
 l 1 14 [],
 c 14 15 [4],
 a 11 15 16 [5],
 l 16 17 [6],
 l 1 18 [],
 c 18 19 [8],
 a 10 19 20 [9],
 l 20 21 [10],
 b .add 17 21 22 [7,11],
 m 13 3 [3,0,1,2,3],
 m 22 4 (k [12,13] 13)]
def Wr:ai:=[
 l 1 23 [],
 c 23 24 [0],
 a 12 24 25 [1],
 l 25 26 [2],
 C .sub 26 1 27 [3],
 c 23 28 (k [0] 4),
 a 12 28 29 (k [5] 4),
 S 1 29 27 (k [6,4] 4)]
def Ws:ai:=[
 l 1 30 [],
 c 30 31 [0],
 a 11 31 32 [1],
 l 32 33 [2],
 C .add 33 1 34 [3],
 c 30 35 (k [0] 4),
 a 11 35 36 (k [5] 4),
 S 1 36 34 (k [6,4] 4)]
def Wt:ai:=[
 l 1 37 [],
 c 37 38 [0],
 a 11 38 39 [1],
 l 39 40 [2],
 l 1 41 [],
 c 41 42 [4],
 a 10 42 43 [5],
 l 43 44 [6],
 b .add 40 44 45 [3,7],
 l 1 46 [],
 c 46 47 [9],
 a 4 47 48 [10],
 a 0 48 49 [11],
 l 49 50 [12],
 b .geq 45 50 51 [8,13]]
def Kv:ai:=[
 l 1 52 [],
 l 1 53 [],
 l 1 54 [],
 c 54 55 [2],
 a 10 55 56 [3],
 l 56 57 [4],
 C .add 57 1 58 [5],
 c 52 59 [0,0,2,3,4,5,6],
 a 10 59 60 [7,0,2,3,4,5,6],
 S 1 60 58 [8,6,0,2,3,4,5,6],
 c 53 61 (k [1] 9),
 a 11 61 62 (k [10] 9),
 s (.store 1 (t 62) (i 0)) (k [11,9] 9)]
def Wu:ai:=[
 n 0 63,
 n 3 64,
 n 4 65,
 o (.callv (t 63) [(t 64),(t 65)]) 66 [0,1,2],
 U 66 67 [3]]
def arw:DC:=(.block 0 (.loop (j (j (y Wp) (.cond (.tmp 9) .skip (.exit 0))) (.block 1 (j (Y Wq) (j (y Wr) (j (y Ws) (j (j (Y Wt) (.cond (.tmp 51) (.jQ Kv) .skip)) (j (y Wu) (.cond (.tmp 67) .ret .skip))))))))))
def acm:List dS:=[]
def arx [bM]:aB aj 51 68 arw acm:=aB.of Tryz.f51 (by kernel_rfl)
end cD
section
variable{α:Type}
abbrev ti(n:Int):T:=.int .i64 n
def dL:T->Int
 |.int _ n=>n
 |_=>0
structure cE where
 (f t term aI:Int)
 ops:List (Int×Int)
 deriving DecidableEq,Inhabited
structure aU where
 ba:Int
 bJ:List cE
 vF:bU
structure cP where
 kind:Int
 read:bU
 delete:Int
 deriving Inhabited
structure Input where
 aw:List cP
 insert:bU
 swap:Int
def iz(l:List (Int×Int)):List (aL):=l.map λo=>[ti o.1,ti o.2]
def cE.enc(a:cE):aL:=[ti a.f,ti a.t,ti a.term,ti a.aI,.sl (iz a.ops)]
def kL(l:List cE):List (aL):=l.map cE.enc
def aG(l:bU):List (aL):=l.map λx=>[ti x]
def aU.enc(l:aU):T:=.agg [ti l.ba,.sl (kL l.bJ),.sl (aG l.vF)]
def cP.enc(c:cP):aL:=[ti c.kind,.sl (aG c.read),ti c.delete]
def cz(l:List cP):List (aL):=l.map cP.enc
def Input.enc(x:Input):T:=.agg [.sl (cz x.aw),.sl (aG x.insert),ti x.swap]
def gK{β:Type}{f:α->β}{g:β->α}(h:∀a,g (f a)=a)(l:List α):(l.map f).map g=l:=by
 rw[Zdr];conv=>rhs;rw[<-List.map_id l]
 exact Zbz λa _=>h a
def lz(l:List (aL)):bU:=l.map λx=>dL (x.getD 0 (ti 0))
def By(l:List (aL)):List (Int×Int):=l.map λx=>(dL (x.getD 0 (ti 0)),dL (x.getD 1 (ti 0)))
def ye:aL->cE
 |[a,b,c,d,.sl o]=>⟨dL a,dL b,dL c,dL d,By o⟩
 |_=>default
def Kz(l:List (aL)):List cE:=l.map ye
def t6:aL->cP
 |[a,.sl b,c]=>⟨dL a,lz b,dL c⟩
 |_=>default
def zY(l:List (aL)):List cP:=l.map t6
def amB:T->aU
 |.agg [a,.sl b,.sl c]=>⟨dL a,Kz b,lz c⟩
 |_=>⟨0,[],[]⟩
@[simp] def NE(l:bU):lz (aG l)=l:=gK (λ_=>rfl) l
@[simp] def QS(l:List (Int×Int)):By (iz l)=l:=gK (λ_=>rfl) l
@[simp] def yf(a:cE):ye a.enc=a:=by simp[ye,cE.enc,dL]
@[simp] def akY(l:List cE):Kz (kL l)=l:=gK yf l
@[simp] def qg(a:cP):t6 a.enc=a:=by simp[t6,cP.enc,dL]
@[simp] def akZ(l:List cP):zY (cz l)=l:=gK qg l
@[simp] def aoB(a:Int)(l:List cE)(f:bU):amB (.agg [ti a,.sl (kL l),.sl (aG f)])=⟨a,l,f⟩:=by simp[amB,dL]
@[simp] def arS(n:aU):amB n.enc=n:=by simp[aU.enc]
def cM{l:bU}{y:Nat}(h:y<l.length):DM.rowAt (aG l) y=[ti (l.getD y default)]:=by simp[DM.rowAt,aG,h]
def yg{l:List cE}{y:Nat}(h:y<l.length):DM.rowAt (kL l) y=(l.getD y default).enc:=by simp[DM.rowAt,kL,h]
def kg{l:List cP}{y:Nat}(h:y<l.length):DM.rowAt (cz l) y=(l.getD y default).enc:=by simp[DM.rowAt,cz,h]
@[simp] def aoD(l:bU):(aG l).length=l.length:=by simp[aG]
@[simp] def arU(l:List (Int×Int)):(iz l).length=l.length:=by simp[iz]
@[simp] def aoE(l:List cE):(kL l).length=l.length:=by simp[kL]
@[simp] def aoF(l:List cP):(cz l).length=l.length:=by simp[cz]
abbrev nl:List Sh:=[.int .i64,.int .i64,.int .i64]
def keyOf(f t x:Int):T:=.agg [ti f,ti t,ti x]
def cE.key(a:cE):T:=keyOf a.f a.t a.term
def dz(al:List cE):List (Nat×T×DV):=al.zipIdx.map λp=>(p.2,p.1.key,.v (.agg p.1.enc))
def cV(al:List cE):Ob:=.map nl true al.length (dz al)
def dt(x:Input)(m:Nat):bG:=[.v (.sl (cz x.aw)),.v (.sl (aG x.insert)),.v (ti x.swap),.je m]
def bj(a b:cE):Bool:=decide (a.f=b.f/\a.t=b.t/\a.term=b.term)
def xE(al:List cE)(a:cE):List cE:=
 if a.aI<1099511627776 then
  match al.findIdx? (bj a)with
  |none=>al++[a]
  |some i=>if a.aI<(al.getD i default).aI then al.set i a else al
 else al
def KK:DV->Int
 |.v (.agg [_,_,_,.int _ c,_])=>c
 |_=>0
def yh(k:T)(c:Int)(es:List (Nat×T×DV)):Bool:=
 decide (c<1099511627776)&&match sj k es with|none=>true|some e=>decide (c<KK e.2.2)
def sL(k:T)(c:Int)(y:DV)(yi:Nat)(es:List (Nat×T×DV)):List (Nat×T×DV):=if yh k c es then I6 k y yi es else es
def yj(k:T)(c:Int)(yi:Nat)(es:List (Nat×T×DV)):Nat:=if yh k c es then pQ k yi es else yi
def amC(a b:cE):ib a.key b.key=bj a b:=by
 simp[cE.key,keyOf,ib,ut,bj]
def qY(a:cE)(al:List cE):((dz al).findIdx? λe=>ib a.key e.2.1)=al.findIdx? (bj a):=by
 have h:∀(l:List cE) (i:Nat),(((l.zipIdx i).map λp=>((p.2,p.1.key,DV.v (.agg p.1.enc)):Nat×T×DV)).findIdx? λe=>ib a.key e.2.1)=l.findIdx? (bj a):=by
  intro l;induction l with
  |nil=>intro i;rfl
  |cons b l ih=>intro i;simp only[Zc1,qD,Y7,amC,ih (i+1)]
 exact h al 0
def il(al:List cE)(i:Nat):(dz al)[i]? =(al[i]?).map λa=>(i,a.key,.v (.agg a.enc)):=by
 simp[dz,ZbG,List.getElem?_zipIdx,Function.comp_def]
def lY(al:List cE):(dz al).length=al.length:=by simp[dz]
def Yd(al:List cE):∀e∈dz al,∃a:cE,e.2.2=.v (.agg a.enc):=by
 intro e he;simp only[dz,lq]at he;obtain⟨p,_,rfl⟩:=he;exact⟨p.1,rfl⟩
def wD{p:α->Bool}{l:List α}{i:Nat}(h:l.findIdx? p=some i):i<l.length:=by
 rw[Zbv]at h;exact h.1
def GF(a:cE)(al:List cE):yh a.key a.aI (dz al)=(decide (a.aI<1099511627776)&&match al.findIdx? (bj a)with|none=>true|some i=>decide (a.aI<(al.getD i default).aI)):=by
 unfold yh;rw[zA,qY];cases h:al.findIdx? (bj a)with
 |none=>rfl
 |some i=>
  have hi:=wD h;simp[il,hi,KK,cE.enc];rfl
def KL(a:cE)(al:List cE):sL a.key a.aI (.v (.agg a.enc)) al.length (dz al)=dz (xE al a)/\yj a.key a.aI al.length (dz al)=(xE al a).length:=by
 unfold sL yj xE;rw[GF];by_cases hc:a.aI<1099511627776
 ·simp only[hc,decide_true,ZcY,jP];cases h:al.findIdx? (bj a)with
  |none=>
   simp only[jP,I6,pQ,qY,h];refine⟨?_,by simp⟩;apply ZbZ;intro j;rw[il,Zc5,Zc5,lY,il];split
   ·rfl
   ·rename_i hj;by_cases hj2:j=al.length
    ·subst hj2;simp
    ·rw[ZbB (by simp;omega),ZbB (by simp;omega)];rfl
  |some i=>
   have hi:=wD h;have P7:a.key=(al.getD i default).key:=by
    rw[Zbv]at h;obtain⟨_,h1,_⟩:=h;simp only[bj,oS]at h1;simp[cE.key,keyOf,List.getD,hi,h1]
   simp only;by_cases h2:a.aI<(al.getD i default).aI
   ·simp only[h2,decide_true,jP,I6,pQ,qY,h];refine⟨?_,by simp⟩;apply ZbZ;intro j;rw[il,List.getElem?_modify,il,ZbN];by_cases hj:i=j
    ·subst hj;simp[hi,P7,List.getD]
    ·simp[hj]
   ·simp only[h2,decide_false,Lp,OV];exact⟨trivial,trivial⟩
 ·simp[hc]
end
section
variable{f:bw}{low:Nat}
def cL:ay aj (bB []):=ay.nil
def bY{l:c7}{r:Nat}(hf:df f low)(h:low<=r)(hl:∀p∈l,p.1≠r):gone (aO l f) id r:=by
 intro r' gS e;simp only[id]at e;subst e;cases ho:aO l f r' with
 |none=>exact gS ho
 |some o=>
  rcases sD ho with h1|⟨_,h1⟩
  ·exact hl _ h1 rfl
  ·have:=(hf r' o h1).1;omega
def im:List cP->Int->Int
 |[],c=>c
 |x::l,c=>im l (min (c+x.delete) 1099511627776)
def gR(n:Nat):List (Int×Int):=List.replicate n (2,0)
def KM(l:List cP)(x:cP)(c:Int):im (l++[x]) c=min (im l c+x.delete) 1099511627776:=by
 induction l generalizing c with
 |nil=>rfl
 |cons y l ih=>simp[im,ih]
def xz{l:List cP}(h:∀c∈l,0<=c.delete):∀c,0<=c/\c<=1099511627776->0<=im l c/\im l c<=1099511627776:=by
 induction l with
 |nil=>intro c hc;exact hc
 |cons y l ih=>
  intro c hc;have:=h y (by simp);exact ih (λz hz=>h z (by simp[hz])) _ (by omega)
def QT(l:List cP)(n:Nat):(cz l).take n=cz (l.take n):=by simp[cz,Zcx]
def QU(l:List cP)(n:Nat):(cz l).drop n=cz (l.drop n):=by simp[cz,List.map_drop]
def uq(arV:List cP):Prop:=arV.length<=1000000/\∀c∈arV,0<=c.delete/\c.delete<=1099511627776
def t31{b m:Nat}{x:Input}{i j:Nat}{N:Nat}(hN:∀r,N<=r->f r=none)(hb:f b=some (.box (dt x m)))(hij:i<=j)(hj:j<=x.aw.length)(hd:uq x.aw):
  aQ aj 48 [.ptr b 0,.v (ti i),.v (ti j)] f ⟨True,.v (.eB [ti (im ((x.aw.take j).drop i) 0),.sl (iz (gR (j-i)))]),f⟩:=by
 have aC:=cL;refine c31.qE hN (by simp) λaV=>?_;have Wz:b<N:=(aV b _ hb).1;obtain⟨part,NF⟩:=be ((x.aw.take j).drop i);have Xf:part.length=j-i:=by rw[<-NF];simp;omega
 have hpd:∀c∈part,0<=c.delete/\c.delete<=1099511627776:=λc hc=>hd.2 c (by rw[<-NF]at hc;exact Es (Zca hc));have Xk:((cz x.aw).take j).drop i=cz part:=by rw[QT,QU,NF]
 have eQ:∀r∈cz x.aw,r.length=3:=by intro r hr;simp only[cz,lq]at hr;obtain⟨c,_,rfl⟩:=hr;rfl
 have dN:=hd.1;rw[NF];clear NF;simp;apply aa.ag aC fw [0,1,2,7];simp[ajT];apply aa.ag aC fw [0,1,2,8];simp[ajU];apply aa.ag aC fw [0,1,2,8,9];simp[ajV];apply aa.sq aC fw [8,9,19,20,21];simp[ajW,hb,dt,hij,hj,Xk];refine⟨eQ, ?_⟩;refine aa.le (Le.d6 (l1:=[]) (l:=[(8,.v (ti 0)),(9,.aX),(19,.v (.sl (cz part))),(20,.v (ti part.length)),(21,.v (ti 0))]) (aZ:=N+200) aV ?_ ?_ ?_ ?_ ?_) ?_
 ·omega
 ·simp
 ·simp[bT]
 ·simp[dT]
 ·simp
 refine aa.le (Le.wu (k:=9) 117 (sz:=2) (by omega) (by simp)) ?_;rw[kx];apply aa.block;refine aa.loop (λy:Nat=>⟨DM.look [(8,.v (ti (im (part.take y) 0))),(9,.bC (N+200) 0),(19,.v (.sl (cz part))),(20,.v (ti part.length)),(21,.v (ti y))],aO [(N+200,.bE 0 117 2 (iz (gR y)))] f,N+300,N,[]⟩)
  (λy=>y<=part.length) (λy=>part.length-y) 0 (Le.d6 aV ?_ ?_ ?_ ?_ ?_) (by simp) (λy hy=>?_)
 ·omega
 ·simp
 ·simp[bT]
 ·simp[dT,eK,gR,iz]
 ·simp[im]
 apply aa.ag aC fw [8,9,19,20,21,22];simp[ajX];apply aa.seq;have xV:=xz (l:=part.take y) (λc hc=>(hpd c (Es hc)).1) 0 (by omega);refine aa.cond rfl (λhc=>?_) (λhc=>?_)
 ·simp at hc;apply aa.skip;simp;apply aa.seq;apply aa.block;apply aa.ag aC fw [8,9,11,19,20,21];have jH:=kg hc;obtain⟨c,Do⟩:=be (part[y]);have ZL:c∈part:=by rw[<-Do];exact SL hc
  have SO:=hpd c ZL;have ZN:part.take (y+1)=part.take y++[c]:=by rw[Zb0,xb hc,Do];rfl
  simp[ajY,jH,Do,hc,cP.enc];apply aa.ag aC fw [8,9,11,19,20,21];simp[ajZ];rw[aF (by omega)];apply aa.fA aC fw [8,9,19,20,21];simp[aj0,dR,gn];refine⟨by
    have:(gR y).length=y:=by simp[gR]
    omega, ?_⟩
  apply aa.fA aC fw [8,9,19,20,21];simp[aj1];refine⟨y+1,Le.d6 aV ?_ ?_ ?_ ?_ ?_,by omega,by omega⟩
  ·omega
  ·simp
  ·simp[bT];omega
  ·simp[dT,eK,gR,iz,Zc7]
  ·simp[ZN,KM];rw[aF (by omega)]
 ·simp at hc;have AS:y=part.length:=by omega
  subst AS;apply aa.exit;simp;apply aa.ag aC fw [6,7];simp[aj2];refine aa.le (Le.d6 (l1:=[]) (l:=[(6,.v (ti (im part 0))),(7,.v (.sl (iz (gR part.length))))]) (aZ:=N+1000) aV ?_ ?_ ?_ ?_ ?_) ?_
  ·omega
  ·simp
  ·simp[bT]
  ·simp[dT]
  ·simp;exact bY aV (by omega) (by simp)
  apply aa.ret;simp[acL,Xf];rfl
def dm(x:Input)(m:Nat):Bool:=
 decide (m+1<x.aw.length/\0<x.swap/\0<=(x.aw.getD m default).kind/\0<=(x.aw.getD (m+1) default).kind)
def t50{b m:Nat}{x:Input}{i:Nat}{N:Nat}(hN:∀r,N<=r->f r=none)(hb:f b=some (.box (dt x m)))(hi:i<=1000000)(hl:x.aw.length<=1000000):
  aQ aj 77 [.ptr b 0,.v (ti i)] f ⟨True,.v (.bool (dm x i)),f⟩:=by
 have aC:=cL;refine c50.qE hN (by simp) λaV=>?_;simp;apply aa.ag aC fw [0,1,4];simp[akc];apply aa.ag aC fw [0,1,5];simp[akd,hb,dt];have hw:IntKind.i64.wrap ((i:Int)+1)=i+1:=aF (by omega);refine aa.cH aC fw [(4,.v (.bool (dm x i)))] ?_ ?_
 ·by_cases h1:i+1<x.aw.length
  ·have tw:=kg (l:=x.aw) (y:=i) (by omega);have y6:DM.rowAt (cz x.aw) ((i:Int)+1)=(x.aw.getD (i+1) default).enc:=kg (l:=x.aw) h1;obtain⟨c1,b8⟩:=be (x.aw.getD i default);obtain⟨c2,gZ⟩:=be (x.aw.getD (i+1) default);rw[b8]at tw;rw[gZ]at y6;have hd1:((i:Int)+1<x.aw.length)=True:=by simp;omega
   have hd2:((i:Int)<x.aw.length)=True:=by simp;omega
   have hd3:(0<=(i:Int)+1)=True:=by simp;omega
   have hd4:i<x.aw.length:=by omega
   have OW:dm x i=(decide (0<x.swap)&&(decide (0<=c1.kind)&&decide (0<=c2.kind))):=by
    unfold dm;rw[b8,gZ];simp[h1]
   by_cases s1:0<x.swap<;>by_cases s2:0<=c1.kind<;>by_cases s3:0<=c2.kind<;>simp[acS,hb,dt,hw,tw,y6,hd1,hd2,hd3,cP.enc,s1,s2,s3,OW]
  ·have hd1:((i:Int)+1<x.aw.length)=False:=by simp;omega
   simp[acS,hw,hd1];simp[dm]
   intros;omega
 apply aa.ret;simp[dj];rfl
def Le.Ye{tm:dn}{ob:bw}{aK:Nat}{td:List (aL)}{P:Program}{nt:Nat}{d:DC}{Q:Exit->ma->Prop}{k:Nat}(hk:tm k=.v (.sl []))
  (h:∀(p:Option Addr) (c:Nat),aa P nt d Q ⟨c5 tm (some k) (.v (.pO (.slice p 0 c))),ob,aK,low,td⟩):aa P nt d Q ⟨tm,ob,aK,low,td⟩:=by
 refine⟨λc hc n κ a w L g r=>?_⟩;obtain⟨W,base,M,w0,dK,h0⟩:=r.r.ex;have hx:=h0.tmps k;simp only[hk,aA,bm]at hx;have ng:∃(p:Option Addr) (cp:Nat),a.tmps.getD k Go.undef=.slice p 0 cp:=by
  rcases hx with⟨_,p,cp,hx⟩|⟨b,o,cp,sz,hx,_⟩
  ·exact⟨p,cp,hx⟩
  ·exact⟨_,cp,hx⟩
 obtain⟨p,cp,hx⟩:=ng;refine(h p cp).run c hc n κ a w L g ⟨⟨⟨W,base,M,w0,dK,h0.size,λt=>?_,h0.o⟩,r.r.fu,r.r.defers,r.r.bg,r.r.cj⟩,r.fresh,r.low,r.it⟩;simp only[c5];by_cases ht:t=k
 ·subst ht;simp only[jP,aA,bm];exact hx
 ·simp only[ht,OV];exact h0.tmps t
def t49(l:List (Int×Int))(hl:l.length<=1000000):pW aj 76 [.sl (iz l)] 117 2 (iz l):=by
 have aC:=cL;refine c49.okF (by simp) (aT ?_);simp;have eQ:∀r∈iz l,r.length=2:=by intro r hr;simp only[iz,lq]at hr;obtain⟨c,_,rfl⟩:=hr;rfl
 apply aa.ag aC fw [0,2];simp[aka];cases l with
 |nil=>
  refine Le.Ye (k:=0) (by simp[iz]) λp c=>?_;apply aa.sq aC fw [0,2,4];simp[acQ];refine aa.cond rfl (λh=>?_) (λh=>?_)
  ·apply aa.ag aC fw [2];simp[akb];apply aa.ret;exact .inl ⟨by simp,by simp[iz],by omega⟩
  ·apply aa.skip;simp;apply aa.ag aC fw [2];simp[acR,dR];apply aa.ret;exact .inr ⟨1026,0,by simp,by simp[iz]⟩
 |cons o l=>
  apply aa.sq aC fw [0,2,4];simp[acQ];refine⟨by simp[iz], ?_⟩;refine aa.cond rfl (λh=>by cases h) (λh=>?_);apply aa.skip;simp;apply aa.ag aC fw [2];simp[acR,dR];refine⟨⟨eQ,by simp at hl⊢;omega⟩, ?_⟩;apply aa.ret;exact .inr ⟨1026,0,by simp,by simp⟩
end
section
variable [bM]
def okE:ay aj (bB []):=ay.nil
def uI(a b:Int):Int:=if a<b then-1 else if b<a then 1 else 0
def WB(l:bU):Int:=(l.find? λx=>x !=0).getD 0
def fz(x y:aL):Int:=WB [uI (dL (x.getD 0 (ti 0))) (dL (y.getD 0 (ti 0))),uI (dL (x.getD 1 (ti 0))) (dL (y.getD 1 (ti 0))),uI (dL (x.getD 2 (ti 0))) (dL (y.getD 2 (ti 0)))]
def t71(a:Int):bu aj 118 [ti a] (.bool false):=by
 have aC:=okE;refine c71.ok (by simp) (aT ?_);simp;apply aa.ag aC fw [0];simp[akB];apply aa.ag aC fw [2];simp[akC];apply aa.ret;simp[dj]
abbrev amN:DM.Spec:=dh (λts=>∃a,ts=[ti a]) (λ_=>.bool false) true
def auJ:ay aj (bB [(118,amN)]):=by
 refine ay.cons ay.nil ?_;rintro ts ⟨a,rfl⟩;exact⟨t71 a,λ_=>rfl⟩
def t54(a b:Int):bu aj 81 [ti a,ti b] (ti (uI a b)):=by
 have aC:=auJ;refine c54.ok (by simp) (aT ?_);simp;apply aa.ag aC fw [0,1];simp[MO];apply aa.ag aC fw [0,1,5];simp[MP];apply aa.ag aC fw [0,1,5,6];simp[akx];apply aa.sq aC fw [0,1,6,11];simp[aky];refine aa.cond rfl (λh=>by cases h) (λh=>?_);apply aa.skip;simp;apply aa.sq aC fw [0,1,13];simp[akz];refine aa.cond rfl (λh=>by cases h) (λh=>?_);apply aa.skip;simp;apply aa.sq aC fw [0,1,16];simp[akA];refine aa.cond rfl (λh=>?_) (λh=>?_)
 ·simp at h;apply aa.ag aC fw [4];simp[acU];apply aa.ret;simp[dj,uI,h]
 ·simp at h;apply aa.skip;simp;apply aa.sq aC fw [0,1,19];simp[acV];refine aa.cond rfl (λh2=>?_) (λh2=>?_)
  ·simp at h2;apply aa.ag aC fw [4];simp[acW];apply aa.ret;simp[dj,uI,h2,show ¬a<b by omega]
  ·simp at h2;apply aa.skip;simp;apply aa.ag aC fw [4];simp[acX];apply aa.ret;simp[dj,uI,show ¬a<b by omega,show ¬b<a by omega]
def ac9{l:bU}{y:Nat}(hy:y<l.length)(h:l.getD y default=0):WB (l.drop y)=WB (l.drop (y+1)):=by
 rw[ZbR hy];have:l[y]=0:=by simpa [List.getD,hy]using h
 simp[WB,this]
def aft{l:bU}{y:Nat}(hy:y<l.length)(h:l.getD y default≠0):WB (l.drop y)=l.getD y default:=by
 rw[ZbR hy];have e:l.getD y default=l[y]:=by simp[List.getD,hy]
 rw[e]at h⊢;simp only[WB,LC,Su,(Zdm (a:=l[y]) (b:=(0:Int))).2 h]
def t53(l:bU)(hl:l.length<=1000000):bu aj 80 [.sl (aG l)] (ti (WB l)):=by
 have aC:=okE;refine c53.ok (by simp) (aT ?_);simp;apply aa.ag aC fw [0];simp[ako];apply aa.ag aC fw [0,3];simp[akp];apply aa.sq aC fw [3,6,7,8];simp[akq];apply aa.block;refine aa.loop (λy:Nat=>⟨DM.look [(3,.v (ti 0)),(6,.v (.sl (aG l))),(7,.v (ti l.length)),(8,.v (ti y))],cJ [],2000,1000,[]⟩)
  (λy=>y<=l.length/\WB (l.drop y)=WB l) (λy=>l.length-y) 0 (Le.bF (o:=[]) ?_ ?_ ?_ ?_) (by simp) (λy hy=>?_)
 iterate 4(·simp)
 obtain⟨mf,fW⟩:=hy;apply aa.ag aC fw [3,6,7,8,9];simp[akr];apply aa.seq;refine aa.cond rfl (λh=>?_) (λh=>?_)
 ·simp at h;apply aa.skip;simp;apply aa.seq;apply aa.block;have hr:=cM h;obtain⟨p,hp⟩:=be (l.getD y default);rw[hp]at hr;apply aa.ag aC fw [3,5,6,7,8];simp[aks,hr,h];apply aa.ag aC fw [3,5,6,7,8,14];simp[akt];refine aa.cond rfl (λh2=>?_) (λh2=>?_)
  ·simp at h2;apply aa.ag aC fw [2];simp[aku];apply aa.ret;rw[aft h (by rw[hp];exact h2),hp]at fW;simp[dj,fW]
  ·simp at h2;apply aa.skip;simp;apply aa.fA aC fw [3,6,7,8];simp[akv];rw[aF (by omega)];refine⟨y+1,Le.bF (o:=[]) ?_ ?_ ?_ ?_,⟨by omega, ?_⟩,by omega⟩;iterate 4(·simp)
   ·rw[<-fW,ac9 h (by rw[hp];exact h2)]
 ·simp at h;apply aa.exit;simp;apply aa.ag aC fw [2];simp[akw];apply aa.ret;have:l.drop y=[]:=ZbE (by omega);rw[this]at fW;simp only[dj];rw[<-fW];simp[WB]
abbrev amO:DM.Spec:=dh (λts=>∃a b,ts=[ti a,ti b]) (fun|[.int _ a,.int _ b]=>ti (uI a b)|_=>.bool false) true
abbrev amP:DM.Spec:=dh (λts=>∃l:bU,ts=[.sl (aG l)]/\l.length<=1000000) (fun|[.sl l]=>ti (WB (lz l))|_=>.bool false) true
def auK:ay aj (bB [(81,amO),(80,amP)]):=by
 refine ay.cons (ay.cons ay.nil ?_) ?_
 ·rintro ts ⟨l,rfl,h⟩;have:=t53 l h;rw[<-NE l]at this;exact⟨by simpa using t53 l h,λ_=>rfl⟩
 ·rintro ts ⟨a,b,rfl⟩;exact⟨t54 a b,λ_=>rfl⟩
def t33(a b c d e f:Int):bu aj 50 [.agg [ti a,ti b,ti c],.agg [ti d,ti e,ti f]] (ti (WB [uI a d,uI b e,uI c f])):=by
 have aC:=auK;refine c33.ok (by simp) (aT ?_);simp;apply aa.ag aC fw [2,3];simp[akm];apply aa.ag aC fw [4];simp[akn];refine⟨⟨[uI a d,uI b e,uI c f],rfl,by simp⟩, ?_⟩;apply aa.ret;simp[dj];rfl
end
def Ic(s aM:Int)(a:cE):Prop:=¬(a.f<0\/a.f>a.t\/a.t>=s\/a.term<0\/a.term>=aM\/a.aI<0\/a.aI>=1099511627776\/(a.f=a.t/\a.aI=0))
instance(s aM:Int)(a:cE):Decidable (Ic s aM a):=by unfold Ic;infer_instance
def cR(a b:cE):Prop:=a.f<b.f\/(a.f=b.f/\(a.t<b.t\/(a.t=b.t/\a.term<b.term)))
instance(a b:cE):Decidable (cR a b):=by unfold cR;infer_instance
def SS(f:bU)(i:Nat):Prop:=0<=f.getD i default/\f.getD i default<=1099511627776
def Rd(l:aU)(aM:Int)(i:Nat):Prop:=Ic l.ba aM (l.bJ.getD i default)/\(i=0\/cR (l.bJ.getD (i-1) default) (l.bJ.getD i default))
def Fp(l:aU)(aM:Int):Prop:=(1<=l.ba/\(l.vF.length:Int)=l.ba)/\(∀i,i<l.vF.length->SS l.vF i)/\∀i,i<l.bJ.length->Rd l aM i
instance(f:bU)(i:Nat):Decidable (SS f i):=by unfold SS;infer_instance
instance(l:aU)(aM:Int)(i:Nat):Decidable (Rd l aM i):=by unfold Rd;infer_instance
instance(l:aU)(aM:Int):Decidable (Fp l aM):=by unfold Fp;infer_instance
def BH{n:Int}(h:0<=n/\n<18446744073709551616):IntKind.u64.wrap n=n:=by
 unfold IntKind.wrap;simp[IntKind.bits,IntKind.signed];omega
def Ra{n:Nat}(h:n<4294967296):n % 2^IntKind.u64.bits&&&4294967295 % 2^IntKind.u64.bits=n:=by
 have e:IntKind.u64.bits=64:=rfl;rw[e,Zc0 (show n<2^64 by omega),show 4294967295 % 2^64=2^32-1 by decide,Nat.and_two_pow_sub_one_eq_mod,Zc0 (by omega)]
def t60(x y:Nat)(hx:x<4294967296)(hy:y<4294967296):bu aj 107 [.int .u64 x,.int .u64 y] (.eB [.int .u64 0,.int .u64 ((x*y:Nat):Int)]):=by
 have aC:=okE;refine c60.ok (by simp) (aT ?_);simp;apply aa.ag aC fw [0,1];simp[MQ];obtain⟨p,hp⟩:=be (x*y);have hpb:p<18446744073709551616:=by
  rw[<-hp]
  calc x*y<=4294967295*4294967295:=ZcV (by omega) (by omega)
   _<_:=by decide
 have hpi:(x:Int)*y=p:=by rw[<-hp];simp
 have e1:=BH (n:=x) (by omega);have e2:=BH (n:=y) (by omega);have e3:=BH (n:=p) (by omega);have b:IntKind.u64.bits=64:=rfl;have e0:IntKind.u64.wrap 0=0:=rfl;have d1:(x:Int)/4294967296=0:=by omega
 have d2:(y:Int)/4294967296=0:=by omega
 have d3:(p:Int)/4294967296<4294967296:=by omega
 obtain⟨q,hq⟩:∃q:Nat,(p:Int)/4294967296=q:=⟨p/4294967296,by omega⟩;have hqb:q<4294967296:=by omega
 have e4:=BH (n:=q) (by omega);have d4:(q:Int)/4294967296=0:=by omega
 rw[hpi];apply aa.ag aC fw [0,1,6];simp[CL,Ra hx,e1];apply aa.ag aC fw [0,1,6,7];simp[MR,b,d1];apply aa.ag aC fw [0,1,6,7,8];simp[MS,Ra hy,e2];apply aa.ag aC fw [0,1,6,7,8,9];simp[Tb,b,d2];apply aa.ag aC fw [0,1,6,7,8,9,10];simp[Tc,hpi,e3];apply aa.ag aC fw [0,1,6,7,8,9,10,11];simp[akG,e0,b,hq,e4];apply aa.ag aC fw [0,1,6,7,8,9,10,11,12];simp[akH,Ra hqb,e4];apply aa.ag aC fw [0,1,6,7,8,9,10,11,12,13];simp[akI,b,d4];apply aa.ag aC fw [0,1,6,7,8,9,10,11,12,13];simp[akJ,e0,e4];apply aa.ag aC fw [0,1,4];simp[acZ,e0,b,d4];apply aa.ag aC fw [4,5];simp[ac0,hpi,e3];apply aa.ret;simp[x9]
abbrev amQ:DM.Spec:=dh (λts=>∃x y:Nat,ts=[.int .u64 x,.int .u64 y]/\x<4294967296/\y<4294967296) (fun|[.int _ x,.int _ y]=>.eB [.int .u64 0,.int .u64 (x*y)]|_=>.bool false) false
def auL:ay aj (bB [(107,amQ)]):=by
 refine ay.cons ay.nil ?_;rintro ts ⟨x,y,rfl,h1,h2⟩;exact⟨by simpa using t60 x y h1 h2,λh=>by cases h⟩
def t46(x y:Nat)(hx:x<4294967296)(hy:y<4294967296):bu aj 73 [.int .u64 x,.int .u64 y] (.eB [.int .u64 0,.int .u64 ((x*y:Nat):Int)]):=by
 have aC:=auL;refine c46.ok (by simp) (aT ?_);simp;apply aa.ag aC fw [0,1];simp[akD];apply aa.seq;refine aa.cond rfl (λh=>by cases h) (λh=>?_);apply aa.skip;simp;apply aa.ag aC fw [8,9];simp[akE];refine⟨⟨x,y,⟨rfl,rfl⟩,hx,hy⟩, ?_⟩;apply aa.ag aC fw [4,5];simp[akF];apply aa.ret;simp[acY]
abbrev amR:DM.Spec:=dh (λts=>∃x y:Nat,ts=[.int .u64 x,.int .u64 y]/\x<4294967296/\y<4294967296) (fun|[.int _ x,.int _ y]=>.eB [.int .u64 0,.int .u64 (x*y)]|_=>.bool false) false
def auM:ay aj (bB [(73,amR)]):=by
 refine ay.cons ay.nil ?_;rintro ts ⟨x,y,rfl,h1,h2⟩;exact⟨by simpa using t46 x y h1 h2,λh=>by cases h⟩
def t29(v:Int)(n:Nat)(h1:1<=n)(hn:n<=10000000):pW aj 46 [.sl (aG [v]),ti n] 3 1 (aG (List.replicate n v)):=by
 have aC:=auM;refine c29.okF (by simp) (aT ?_);simp;apply aa.ag aC fw [0,1];simp[ake];apply aa.sq aC fw [0,1,10];simp[akf];refine aa.cond rfl (λh=>by simp at h;omega) (λh=>?_);apply aa.skip;simp;have e1:=BH (n:=1) (by omega);have e2:=BH (n:=n) (by omega);apply aa.ag aC fw [0,1,5,6];simp[akg,e1,e2];refine⟨⟨1,n,⟨rfl,rfl⟩,by omega,by omega⟩, ?_⟩;apply aa.sq aC fw [0,6,26];simp[akh];refine aa.cond rfl (λh=>by simp at h;omega) (λh=>?_);apply aa.skip;simp;apply aa.ag aC fw [0,7];have w1:IntKind.i64.wrap (n:Int)=n:=aF (by omega);simp[aki,w1];refine⟨by simp[dR];omega, ?_⟩;apply aa.ag aC fw [7,8];have hrp:∀(k:Nat),aG [v]=[[ti v]]:=λ_=>rfl;obtain⟨n',rfl⟩:∃n',n=n'+1:=⟨n-1,by omega⟩;simp[akj,aG,Xb];apply aa.seq;apply aa.block;refine aa.loop (λy:Nat=>⟨DM.look [(7,.bC 1227 0),(8,.v (ti (y+1:Nat)))],cJ [(1227,.bE 0 3 1 (List.replicate (y+1) [ti v]++List.replicate (n'-y) [ti 0]))],3000,1000,[]⟩)
  (λy=>y<=n') (λy=>n'-y) 0 (Le.bF ?_ ?_ ?_ ?_) (by simp) (λy hy=>?_)
 iterate 4(·simp)
 apply aa.sq aC fw [7,8,37];simp[akk];refine aa.cond rfl (λh=>?_) (λh=>?_)
 ·simp at h;apply aa.skip;simp;apply aa.block;apply aa.fA aC fw [7,8];have q1:((y:Int)+1<=(y:Int)+1+((n'-y:Nat):Int))=True:=by simp;omega
  simp[akl,q1];obtain⟨k,hk⟩:=be (min (n'-y) (y+1));have k1:min ((↑y+1+((n'-y:Nat):Int)).toNat-(y+1)) (y+1)=k:=by omega
  have k2:min (y+1) ((↑y+1+((n'-y:Nat):Int)).toNat-(y+1))=k:=by omega
  rw[k1,k2];have e:List.drop (y+1+k) (List.replicate (y+1) [ti v]++List.replicate (n'-y) [ti 0])=List.replicate (n'-(y+k)) [ti 0]:=by
   rw[List.drop_append];simp;omega
  rw[e];refine⟨by omega,y+k,Le.bF ?_ ?_ ?_ ?_,by omega,by omega⟩
  ·simp
  ·simp
  ·simp;omega
  ·simp;rw[aF (by omega)];omega
 ·simp at h;have:y=n':=by omega
  subst this;apply aa.exit;simp;apply aa.ag aC fw [4];simp[acT];apply aa.ret;exact .inr ⟨1227,0,by simp,by simp[Xb]⟩
def ak0(ts:aL):Prop:=∃(v:Int) (n:Nat),ts=[.sl (aG [v]),ti n]/\1<=n/\n<=10000000
def amJ:aL->List (aL)
 |[.sl [[v]],.int _ n]=>List.replicate n.toNat [v]
 |_=>[]
def AO(a b:Int):Int:=if 1099511627776<=a\/1099511627776<=b\/1099511627776<=a+b then 1099511627776 else a+b
def lw(c:cP)(t:Nat):Prop:=¬(((t:Int)=c.kind/\c.read.getD t default≠0)\/((t:Int)≠c.kind/\c.read.getD t default≠-1/\(c.read.getD t default<1\/c.read.getD t default>60000)))
def qL(c:cP)(aM:Int):Prop:=(¬(c.kind< -1\/c.kind>=aM\/(c.read.length:Int)≠aM\/c.delete<1\/(c.delete>60000/\c.delete≠1099511627776)))/\∀t,t<aM.toNat->lw c t
instance(c:cP)(t:Nat):Decidable (lw c t):=by unfold lw;infer_instance
instance(c:cP)(aM:Int):Decidable (qL c aM):=by unfold qL;infer_instance
def ll(l:List cP)(aM:Int):Prop:=∀i,i<l.length->qL (l.getD i default) aM
instance(l:List cP)(aM:Int):Decidable (ll l aM):=by unfold ll;infer_instance
def zH(l:bU)(t:Nat):Prop:=¬(l.getD t default<1\/l.getD t default>60000)
instance(l:bU)(t:Nat):Decidable (zH l t):=by unfold zH;infer_instance
def Qa(x:Input)(aM:Int):Prop:=(¬(aM<0\/(x.aw.length:Int)>60\/(x.insert.length:Int)≠aM\/x.swap<0\/x.swap>60000\/¬ll x.aw aM))/\∀t,t<aM.toNat->zH x.insert t
instance(x:Input)(aM:Int):Decidable (Qa x aM):=by unfold Qa;infer_instance
def t58(c:cP)(aM:Int)(h:aM<=1000000000000):bu aj 63 [.agg c.enc,ti aM] (.bool (decide (qL c aM))):=by
 have aC:=okE;obtain⟨v,hv⟩:=be (decide (qL c aM));rw[hv];have da:¬qL c aM->v=false:=λh=>by rw[<-hv];simp[h]
 have dd:qL c aM↔(¬(c.kind< -1\/c.kind>=aM\/(c.read.length:Int)≠aM\/c.delete<1\/(c.delete>60000/\c.delete≠1099511627776)))/\∀t,t<aM.toNat->lw c t:=Iff.rfl;refine c58.ok (by simp) (aT ?_);simp[cP.enc];apply aa.ag aC fw [1,2];simp[MU];refine aa.lk (o:=[]) (l:=[(1,.v (ti aM)),(2,.v (.box [ti c.kind,.sl (aG c.read),ti c.delete]))]) (aZ:=1200) (by simp) ?_;apply aa.seq;obtain⟨b,hb⟩:=be (decide (c.kind< -1\/c.kind>=aM\/(c.read.length:Int)≠aM\/c.delete<1\/(c.delete>60000/\c.delete≠1099511627776)):Bool);refine aa.cH aC fw [(1,.v (ti aM)),(2,.v (.box [ti c.kind,.sl (aG c.read),ti c.delete])),(37,.v (.bool b))] ?_ ?_
 ·by_cases q1:c.kind< -1
  ·have fJ:b=true:=by rw[<-hb];simp[q1]
   simp[xq,q1,fJ]
  ·by_cases q2:aM<=c.kind
   ·have fJ:b=true:=by rw[<-hb];simp[q2]
    simp[xq,q1,q2,fJ]
   ·by_cases q3:(c.read.length:Int)=aM
    ·by_cases q4:c.delete<1
     ·have fJ:b=true:=by rw[<-hb];simp[q4]
      simp[xq,q1,q2,q3,q4,fJ]
     ·by_cases q5:60000<c.delete
      ·by_cases q6:c.delete=1099511627776
       ·have fJ:b=false:=by rw[<-hb];simp only[Di];omega
        simp[xq,q1,q2,q3,q4,q5,q6,fJ]
       ·have fJ:b=true:=by rw[<-hb];simp[q5,q6]
        simp[xq,q1,q2,q3,q4,q5,q6,fJ]
      ·have fJ:b=false:=by rw[<-hb];simp only[Di];omega
       simp[xq,q1,q2,q3,q4,q5,fJ]
    ·have fJ:b=true:=by rw[<-hb];simp[q3]
     simp[xq,q1,q2,q3,fJ]
 refine aa.cond rfl (λh=>?_) (λh=>?_)
 ·rw[h]at hb;simp only[oS]at hb;apply aa.ag aC fw [4];simp[Td];apply aa.ret;rw[da λe=>(dd.1 e).1 hb];simp[dj]
 rw[h]at hb;simp only[Di]at hb;obtain⟨n,hn⟩:=be c.read.length;have hnt:aM=(n:Int):=by omega
 subst hnt;apply aa.skip;simp;apply aa.sq aC fw [1,2,5];simp[Id];apply aa.block;refine aa.loop (λy:Nat=>⟨DM.look [(1,.v (ti n)),(2,.v (.box [ti c.kind,.sl (aG c.read),ti c.delete])),(5,.v (ti y))],cJ [],2000,1000,[]⟩)
  (λy=>y<=n/\∀t,t<y->lw c t) (λy=>n-y) 0 (Le.bF (o:=[]) ?_ ?_ ?_ ?_) (by simp) (λy hy=>?_)
 iterate 4(·simp)
 obtain⟨mf,fW⟩:=hy;apply aa.sq aC fw [1,2,5,40];simp[akT];refine aa.cond rfl (λcU=>?_) (λcU=>?_)
 ·simp at cU;have Mb:y<c.read.length:=by omega
  have r1:=cM Mb;obtain⟨u,hu⟩:=be (c.read.getD y default);rw[hu]at r1;have kr:lw c y↔¬(((y:Int)=c.kind/\u≠0)\/((y:Int)≠c.kind/\u≠-1/\(u<1\/u>60000))):=by unfold lw;rw[hu]
  obtain⟨kd,hkd⟩:=be c.kind;rw[hkd]at kr⊢;apply aa.skip;simp;apply aa.seq;apply aa.block;apply aa.ag aC fw [1,2,5,6];simp[akU,r1,Mb];obtain⟨b2,gm⟩:=be (decide (((y:Int)=kd/\u≠0)\/((y:Int)≠kd/\u≠-1/\(u<1\/u>60000))):Bool);refine aa.cH aC fw [(1,.v (ti n)),(2,.v (.box [ti kd,.sl (aG c.read),ti c.delete])),(5,.v (ti y)),(73,.v (.bool b2))] ?_ ?_
  ·by_cases q1:(y:Int)=kd
   ·by_cases q2:u=0
    ·have fJ:b2=false:=by rw[<-gm];simp[q1,q2]
     simp[GD,q1,q2,fJ]
    ·have fJ:b2=true:=by rw[<-gm];simp[q1,q2]
     simp[GD,q1,q2,fJ]
   ·by_cases q2:u= -1
    ·have fJ:b2=false:=by rw[<-gm];simp[q1,q2]
     simp[GD,q1,q2,fJ]
    ·by_cases q3:u<1
     ·have fJ:b2=true:=by rw[<-gm];simp[q1,q2,q3]
      simp[GD,q1,q2,q3,fJ]
     ·by_cases q4:60000<u
      ·have fJ:b2=true:=by rw[<-gm];simp[q1,q2,q4]
       simp[GD,q1,q2,q3,q4,fJ]
      ·have fJ:b2=false:=by rw[<-gm];simp only[Di];omega
       simp[GD,q1,q2,q3,q4,fJ]
  refine aa.cond rfl (λh=>?_) (λh=>?_)
  ·rw[h]at gm;simp only[oS]at gm;apply aa.ag aC fw [4];simp[akV];apply aa.ret;rw[da λe=>kr.1 ((dd.1 e).2 y (by simpa using cU)) gm];simp[dj]
  ·rw[h]at gm;simp only[Di]at gm;apply aa.skip;simp;apply aa.fA aC fw [1,2,5];simp[akW];rw[aF (by omega)];refine⟨y+1,Le.bF (o:=[]) ?_ ?_ ?_ ?_,⟨by omega,λi hi=>?_⟩,by omega⟩;iterate 4(·simp)
   ·by_cases e:i=y
    ·subst e;exact kr.2 gm
    ·exact fW i (by omega)
 simp at cU;apply aa.exit;simp;apply aa.ag aC fw [4];simp[akX];apply aa.ret;have:v=true:=by
  rw[<-hv,oS];exact dd.2 ⟨by omega,λi hi=>fW i (by simp at hi;omega)⟩
 rw[this];simp[dj]
abbrev amU:DM.Spec:=dh (λts=>∃(c:cP) (t:Int),ts=[.agg c.enc,ti t]/\t<=1000000000000) (fun|[.agg c,.int _ t]=>.bool (decide (qL (t6 c) t))|_=>.bool false) true
def auO:ay aj (bB [(63,amU)]):=by
 refine ay.cons ay.nil ?_;rintro ts ⟨c,t,rfl,h⟩;exact⟨by simpa using t58 c t h,λ_=>rfl⟩
def t45(l:List cP)(aM:Int)(h1:l.length<=1000000000000)(h2:aM<=1000000000000):bu aj 37 [.sl (cz l),ti aM] (.bool (decide (ll l aM))):=by
 have aC:=auO;obtain⟨v,hv⟩:=be (decide (ll l aM));rw[hv];have da:¬ll l aM->v=false:=λh=>by rw[<-hv];simp[h]
 refine c45.ok (by simp) (aT ?_);simp;apply aa.ag aC fw [0,1];simp[MI];apply aa.sq aC fw [0,1,5];simp[Fq];apply aa.block;refine aa.loop (λj:Nat=>⟨DM.look [(0,.v (.sl (cz l))),(1,.v (ti aM)),(5,.v (ti j))],cJ [],2000,1000,[]⟩)
  (λj=>j<=l.length/\∀i,i<j->qL (l.getD i default) aM) (λj=>l.length-j) 0 (Le.bF (o:=[]) ?_ ?_ ?_ ?_) (by simp) (λj hj=>?_)
 iterate 4(·simp)
 obtain⟨mf,fW⟩:=hj;apply aa.sq aC fw [0,1,5,9];simp[MJ];refine aa.cond rfl (λcU=>?_) (λcU=>?_)
 ·simp at cU;have r1:=kg cU;apply aa.skip;simp;apply aa.seq;apply aa.block;obtain⟨u,hu⟩:=be (l.getD j default);rw[hu]at r1;apply aa.ag aC fw [0,1,5,18];obtain⟨a,b,c⟩:=u;simp[MK,cU,r1,cP.enc];rw[show t6 [ti a,T.sl (aG b),ti c]=⟨a,b,c⟩from qg ⟨a,b,c⟩];refine⟨⟨⟨a,b,c⟩,aM,⟨⟨rfl,rfl,rfl⟩,rfl⟩,h2⟩, ?_⟩;refine aa.cond rfl (λh=>?_) (λh=>?_)
  ·simp at h;apply aa.ag aC fw [4];simp[ML];apply aa.ret;rw[da λe=>h (by have:=e j cU;rw[hu]at this;exact this)];simp[dj]
  ·simp at h;apply aa.skip;simp;apply aa.fA aC fw [0,1,5];simp[akR];rw[aF (by omega)];refine⟨j+1,Le.bF (o:=[]) ?_ ?_ ?_ ?_,⟨by omega,λi hi=>?_⟩,by omega⟩;iterate 4(·simp)
   ·by_cases e:i=j
    ·subst e;show qL (l.getD i default) aM;rw[hu];exact h
    ·exact fW i (by omega)
 simp at cU;apply aa.exit;simp;apply aa.ag aC fw [4];simp[akS];apply aa.ret;have:v=true:=by
  rw[<-hv,oS];exact λi hi=>fW i (by omega)
 rw[this];simp[dj]
abbrev amV:DM.Spec:=dh (λts=>∃(l:List cP) (t:Int),ts=[.sl (cz l),ti t]/\l.length<=1000000000000/\t<=1000000000000) (fun|[.sl c,.int _ t]=>.bool (decide (ll (zY c) t))|_=>.bool false) true
def auP:ay aj (bB [(37,amV)]):=by
 refine ay.cons ay.nil ?_;rintro ts ⟨c,t,rfl,h1,h2⟩;exact⟨by simpa using t45 c t h1 h2,λ_=>rfl⟩
def t28(x:Input)(aM:Int)(ht:aM<=1000000000000):bu aj 23 [x.enc,ti aM] (.bool (decide (Qa x aM))):=by
 have aC:=auP;obtain⟨v,hv⟩:=be (decide (Qa x aM));rw[hv];have da:¬Qa x aM->v=false:=λh=>by rw[<-hv];simp[h]
 have dd:Qa x aM↔(¬(aM<0\/(x.aw.length:Int)>60\/(x.insert.length:Int)≠aM\/x.swap<0\/x.swap>60000\/¬ll x.aw aM))/\∀t,t<aM.toNat->zH x.insert t:=Iff.rfl;refine c28.ok (by simp) (aT ?_);simp[Input.enc];apply aa.ag aC fw [1,2];simp[akK];refine aa.lk (o:=[]) (l:=[(1,.v (ti aM)),(2,.v (.box [.sl (cz x.aw),.sl (aG x.insert),ti x.swap]))]) (aZ:=1200) (by simp) ?_;apply aa.seq;obtain⟨b,hb⟩:=be (decide (aM<0\/(x.aw.length:Int)>60\/(x.insert.length:Int)≠aM\/x.swap<0\/x.swap>60000\/¬ll x.aw aM):Bool);refine aa.cH aC fw [(1,.v (ti aM)),(2,.v (.box [.sl (cz x.aw),.sl (aG x.insert),ti x.swap])),(37,.v (.bool b))] ?_ ?_
 ·by_cases q1:aM<0
  ·have fJ:b=true:=by rw[<-hb];simp[q1]
   simp[CQ,q1,fJ]
  ·by_cases q2:60<(x.aw.length:Int)
   ·have fJ:b=true:=by rw[<-hb];simp[q2]
    simp[CQ,q1,q2,fJ]
   ·by_cases q3:(x.insert.length:Int)=aM
    ·by_cases q4:x.swap<0
     ·have fJ:b=true:=by rw[<-hb];simp[q4]
      simp[CQ,q1,q2,q3,q4,fJ]
     ·by_cases q5:60000<x.swap
      ·have fJ:b=true:=by rw[<-hb];simp[q5]
       simp[CQ,q1,q2,q3,q4,q5,fJ]
      ·by_cases q6:ll x.aw aM
       ·have fJ:b=false:=by rw[<-hb];simp only[Di];rintro(h|h|h|h|h|h)<;>first|omega|exact h q6
        simp[CQ,q1,q2,q3,q4,q5,q6,fJ];exact⟨x.aw,aM,⟨rfl,rfl⟩,by omega,ht⟩
       ·have fJ:b=true:=by rw[<-hb];simp[q6]
        simp[CQ,q1,q2,q3,q4,q5,q6,fJ];exact⟨x.aw,aM,⟨rfl,rfl⟩,by omega,ht⟩
    ·have fJ:b=true:=by rw[<-hb];simp[q3]
     simp[CQ,q1,q2,q3,fJ]
 refine aa.cond rfl (λh=>?_) (λh=>?_)
 ·rw[h]at hb;simp only[oS]at hb;apply aa.ag aC fw [4];simp[akL];apply aa.ret;rw[da λe=>(dd.1 e).1 hb];simp[dj]
 rw[h]at hb;simp only[Di]at hb;have Pr:(x.insert.length:Int)=aM:=by
  by_cases e:(x.insert.length:Int)=aM
  ·exact e
  ·exact eA (.inr (.inr (.inl e))) hb
 obtain⟨n,hn⟩:=be x.insert.length;rw[hn]at Pr;subst Pr;apply aa.skip;simp;apply aa.sq aC fw [1,2,5];simp[akM];apply aa.block;refine aa.loop (λy:Nat=>⟨DM.look [(1,.v (ti n)),(2,.v (.box [.sl (cz x.aw),.sl (aG x.insert),ti x.swap])),(5,.v (ti y))],cJ [],2000,1000,[]⟩)
  (λy=>y<=n/\∀t,t<y->zH x.insert t) (λy=>n-y) 0 (Le.bF (o:=[]) ?_ ?_ ?_ ?_) (by simp) (λy hy=>?_)
 iterate 4(·simp)
 obtain⟨mf,fW⟩:=hy;apply aa.sq aC fw [1,2,5,40];simp[akN];refine aa.cond rfl (λcU=>?_) (λcU=>?_)
 ·simp at cU;have Mb:y<x.insert.length:=by omega
  have r1:=cM Mb;obtain⟨u,hu⟩:=be (x.insert.getD y default);rw[hu]at r1;have kr:zH x.insert y↔¬(u<1\/u>60000):=by unfold zH;rw[hu]
  apply aa.skip;simp;apply aa.seq;apply aa.block;refine aa.cH aC fw [(1,.v (ti n)),(2,.v (.box [.sl (cz x.aw),.sl (aG x.insert),ti x.swap])),(5,.v (ti y)),(56,.v (.bool (decide (u<1\/60000<u))))] ?_ ?_
  ·by_cases q1:u<1
   ·simp[ac1,r1,Mb,q1]
   ·by_cases q2:60000<u<;>simp[ac1,r1,Mb,q1,q2]
  refine aa.cond rfl (λh=>?_) (λh=>?_)
  ·simp only[oS]at h;apply aa.ag aC fw [4];simp[akO];apply aa.ret;rw[da λe=>kr.1 ((dd.1 e).2 y (by simpa using cU)) h];simp[dj]
  ·simp only[Di]at h;apply aa.skip;simp;apply aa.fA aC fw [1,2,5];simp[akP];rw[aF (by omega)];refine⟨y+1,Le.bF (o:=[]) ?_ ?_ ?_ ?_,⟨by omega,λi hi=>?_⟩,by omega⟩;iterate 4(·simp)
   ·by_cases e:i=y
    ·subst e;exact kr.2 h
    ·exact fW i (by omega)
 simp at cU;apply aa.exit;simp;apply aa.ag aC fw [4];simp[akQ];apply aa.ret;have:v=true:=by
  rw[<-hv,oS];exact dd.2 ⟨hb,λi hi=>fW i (by simp at hi;omega)⟩
 rw[this];simp[dj]
def zI{a b:Int}(ha:0<=a)(hb:0<=b):0<=AO a b:=by unfold AO;split<;>omega
section
variable{yi:Nat}{es:List (Nat×T×DV)}
def NG(es:List (Nat×T×DV)):Prop:=∀e∈es,∃a:cE,e.2.2=.v (.agg a.enc)
def ac2{f:bw}{N n:Nat}{l0 l1:c7}(aV:df f N)(h0:∀p∈l0,N<=p.1)(h1:∀p∈l1,N<=p.1)(hn:f n≠none):sameAt (aO l0 f) (aO l1 f) n:=by
 obtain⟨o,ho⟩:=Zz.1 hn;have ef:=(aV n o ho).1;refine⟨o,o, ?_, ?_,bk o⟩
 ·rw[fF λo' h=>by have:=h0 _ h;simp only at this;omega];exact ho
 ·rw[fF λo' h=>by have:=h1 _ h;simp only at this;omega];exact ho
def ac3{k:T}{c:Int}{y:DV}{e:Nat×T×DV}(h:e∈sL k c y yi es):e.2.2=y\/∃e'∈es,e.2.2=e'.2.2:=by
 unfold sL at h;split at h
 ·rename_i hbt;clear hbt;unfold I6 at h;split at h
  ·rename_i i hi;clear hi;induction es generalizing i with
   |nil=>simp at h
   |cons e0 es ih=>
    cases i with
    |zero=>
     simp only[ZcE,fN]at h;rcases h with rfl|h
     ·exact .inl rfl
     ·exact .inr ⟨e,by simp[h],rfl⟩
    |succ i=>
     simp only[Zci,fN]at h;rcases h with rfl|h
     ·exact .inr ⟨e,by simp,rfl⟩
     ·rcases ih i h with h|⟨e',h1,h2⟩
      ·exact .inl h
      ·exact .inr ⟨e',by simp[h1],h2⟩
  ·rcases oi.1 h with h|h
   ·exact .inr ⟨e,h,rfl⟩
   ·simp only[oO]at h;subst h;exact .inl rfl
 ·exact .inr ⟨e,h,rfl⟩
def k48:bG->bw->fV
 |[.ptr b 0,.agg [.v (.int .i64 f),.v (.int .i64 t),.v (.int .i64 x),.v (.int .i64 c),d]],ab=>
  match ab b with
  |some (.box [_,_,_,.je m])=>match ab m with
   |some (.map cy agg yi es)=>⟨cy=nl/\agg=true/\NG es/\kY d/\∀n∈aP d,ab n≠none,.v (.eB []),
     eJ ab m (.map nl true (yj (keyOf f t x) c yi es) (sL (keyOf f t x) c (.agg [.v (ti f),.v (ti t),.v (ti x),.v (ti c),d]) yi es))⟩
   |_=>⟨False,.undef,ab⟩
  |_=>⟨False,.undef,ab⟩
 |_,ab=>⟨False,.undef,ab⟩
def t48{f0:bw}{b m:Nat}{c1 c2 c3:DV}{f t x c:Int}{d:DV}{N:Nat}(hN:∀r,N<=r->f0 r=none)(hb:f0 b=some (.box [c1,c2,c3,.je m]))(hm:f0 m=some (.map nl true yi es))(he:NG es)(hd:kY d)(Xt:∀n∈aP d,f0 n≠none):
  aQ aj 75 [.ptr b 0,.agg [.v (ti f),.v (ti t),.v (ti x),.v (ti c),d]] f0 ⟨True,.v (.eB []),eJ f0 m (.map nl true (yj (keyOf f t x) c yi es) (sL (keyOf f t x) c (.agg [.v (ti f),.v (ti t),.v (ti x),.v (ti c),d]) yi es))⟩:=by
 have aC:=cL;refine c48.qE hN (by simp) λaV=>?_;have Wz:b<N:=(aV b _ hb).1;have CR:m<N:=(aV m _ hm).1;have BC:b≠m:=λe=>by rw[e,hm]at hb;cases hb
 have nb:∀k,b≠N+k:=λk=>by omega
 have nm:∀k,m≠N+k:=λk=>by omega
 simp;apply aa.ag aC fw [0,3];simp[aj8];apply aa.ag aC fw [0,3,4];simp[aj9];obtain⟨k,hk⟩:=be (keyOf f t x);have xP:T.agg [ti f,ti t,ti x]=k:=hk;rw[hk];refine aa.le (Le.d6 (l1:=[(N+49,.box [.v (ti f),.v (ti t),.v (ti x)]),(N+4,.box [.v (ti f),.v (ti t),.v (ti x),.v (ti c),d])]) (l:=[(0,.ptr b 0),(3,.ptr (N+4) 0),(4,.ptr (N+49) 0)]) (aZ:=N+100) aV ?_ ?_ ?_ ?_ ?_) ?_
 ·omega
 ·simp
 ·simp[bT]
 ·refine⟨⟨.box [.v (ti f),.v (ti t),.v (ti x)],by simp[ed],.inl (by simp),by omega⟩,⟨.box [.v (ti f),.v (ti t),.v (ti x),.v (ti c),d],by simp[ed],.inr ⟨rfl,λn hn=>?_⟩,by omega⟩,trivial⟩;refine ac2 aV ?_ ?_ (Xt n (by simpa [bb,bQ,aP]using hn))
  ·simp;omega
  ·simp
 ·simp[hb,nb,ed]
 have hko:fa nl true k:=by rw[<-hk];simp[keyOf]
 have H:∀(q1 q2 q3 q5:DV) (oc:Int) (fnd:Bool),fnd=(sj k es).isSome->(∀e,sj k es=some e->oc=KK e.2.2)->
   aa aj 43 ((DC.region false acO).seq (DC.cond (bW.tmp 36) (DC.region true acP) DC.skip))
    (A9 QR ⟨True,.v (.eB []),eJ f0 m (.map nl true (yj k c yi es) (sL k c (.agg [.v (ti f),.v (ti t),.v (ti x),.v (ti c),d]) yi es))⟩)
    ⟨DM.look [(0,.ptr b 0),(3,.ptr (N+4) 0),(4,.ptr (N+49) 0),(5,.ptr (N+106) 0),(6,.v (.bool fnd))],
     aO [(N+106,.box [q1,q2,q3,.v (ti oc),q5]),(N+106,.box [.v (ti 0),.v (ti 0),.v (ti 0),.v (ti 0),.aX]),(N+49,.box [.v (ti f),.v (ti t),.v (ti x)]),(N+4,.box [.v (ti f),.v (ti t),.v (ti x),.v (ti c),d])] f0,N+144,N,[]⟩:=by
  intro q1 q2 q3 q5 oc fnd afq hoc;have auC:yh k c es=(decide (c<1099511627776)&&(!fnd||decide (c<oc))):=by
   unfold yh;cases hf:sj k es with
   |none=>simp[hf]at afq;simp[afq]
   |some e=>simp[hf]at afq;simp[afq,hoc e hf]
  obtain⟨y,hy⟩:=be (DV.agg [.v (ti f),.v (ti t),.v (ti x),.v (ti c),d]);have GB:∀n∈aP y,f0 n≠none:=by
   intro n hn;refine Xt n ?_;rw[<-hy]at hn;simpa [aP,bQ]using hn
  have qK:∀e∈es,aP e.2.2=[]:=λe he'=>by obtain⟨a,ha⟩:=he e he';rw[ha];rfl
  rw[hy];refine aa.to ⟨DM.look [],aO [(m,.map nl true (yj k c yi es) (sL k c y yi es))] f0,N+1000,N,[]⟩ ?_ (by simp[QR];rfl);refine aa.cH aC fw [(0,.ptr b 0),(3,.ptr (N+4) 0),(4,.ptr (N+49) 0),(36,.v (.bool (yh k c es)))] ?_ ?_
  ·by_cases s1:c<1099511627776<;>cases fnd<;>by_cases s2:c<oc<;>simp[acO,s1,s2,auC]
  refine aa.cond rfl (λh=>?_) (λh=>?_)
  ·apply aa.fA aC fw [];simp[-fa,acP,ed,nb,nm,hb,hm,xP,hko];refine Le.d6 (l:=[]) aV ?_ ?_ ?_ ?_ ?_
   ·omega
   ·simp;omega
   ·simp[bT];omega
   ·refine⟨⟨.map nl true (yj k c yi es) (sL k c y yi es),by simp[yj,sL,h,hy],.inr ⟨rfl,λn hn=>?_⟩,λ_=>bk _⟩,trivial⟩
    ·simp only[bb,Ll]at hn;obtain⟨e,he',hn⟩:=hn;rcases ac3 he' with h'|⟨e',h',h''⟩
     ·rw[h']at hn;obtain⟨o,ho⟩:=Zz.1 (GB n hn);have ef:=(aV n o ho).1;by_cases hnm:n=m
      ·subst hnm;exact⟨.map nl true (yj k c yi es) (sL k c y yi es),.map nl true (yj k c yi es) (sL k c y yi es),by simp[yj,sL,h,hy],by simp,bk _⟩
      ·refine⟨o,o, ?_, ?_,bk o⟩
       ·simp[hnm,show n≠N+106 by omega,show n≠N+49 by omega,show n≠N+4 by omega,ho]
       ·simp[hnm,ho]
     ·rw[h'',qK e' h']at hn;cases hn
   ·simp
  ·refine aa.skip ⟨rfl,Le.d6 (l:=[]) aV ?_ ?_ ?_ ?_ ?_⟩
   ·omega
   ·simp;omega
   ·simp[bT];omega
   ·refine⟨⟨.map nl true yi es,by simp[nm,hm],.inr ⟨by simp[yj,sL,h],λn hn=>?_⟩,λ_=>by simp[jR]⟩,trivial⟩
    ·simp only[bb,Ll]at hn;obtain⟨e,he',hn⟩:=hn;rw[qK e he']at hn;cases hn
   ·simp
 apply aa.ag aC fw [0,3,4,5,6];cases hf:sj k es with
 |none=>
  simp[-fa,acN,ed,nb,nm,hb,hm,xP,hko,hf];exact H _ _ _ _ 0 false (by simp[hf]) (by simp[hf])
 |some e=>
  obtain⟨a,ha⟩:=he e (Zcm hf);simp[-fa,acN,ed,nb,nm,hb,hm,xP,hko,hf,ha,cE.enc];exact H _ _ _ _ a.aI true (by simp[hf]) (by intro e' he';rw[hf]at he';cases he';simp[ha,cE.enc,KK])
end
section
variable{al:List cE}{f0:bw}
def NH(ts:aL):Prop:=∃l:List (Int×Int),ts=[.sl (iz l)]/\l.length<=1000000
def ac4:aL->List (aL)
 |[.sl av]=>av
 |_=>[]
abbrev Γ4:pk:=bB [(75,en k48),(76,zl NH ac4 117 2)]
def ok4:ay aj Γ4:=by
 refine ay.ij (ay.aaw ay.nil ?_) ?_
 ·rintro ts ⟨l,rfl,h⟩;exact t49 l h
 ·intro args ab h;unfold k48 at h⊢;split at h
  ·rename_i b f t x c d aJ;split at h
   ·rename_i c1 c2 c3 m hb;split at h
    ·rename_i cy agg yi es hm;obtain⟨rfl,rfl,he,hd,Xt⟩:=h;refine⟨λN hN=>?_,λr hr=>?_⟩
     ·exact aQ.of (t48 hN hb hm he hd Xt) (by simp[]) (by simp[])
     ·simp only[];exact wt hm hr
    ·exact h.elim
   ·exact h.elim
  ·exact h.elim
def QW{a b:bw}{k:T}{c:Int}{y y':DV}{yi:Nat}{es:List (Nat×T×DV)}(hy:iY a b id y y')(he:NG es):ka a b id (sL k c y yi es) (sL k c y' yi es):=by
 have self:∀{l:List (Nat×T×DV)},NG l->ka a b id l l:=λ{l} hl=>qd λe h=>by obtain⟨x,hx⟩:=hl e h;rw[hx];simp
 unfold sL;split
 ·rename_i hbt;clear hbt;unfold I6;split
  ·rename_i i hi;clear hi;induction es generalizing i with
   |nil=>simp[ka]
   |cons e es ih=>
    cases i with
    |zero=>simp only[ZcE,ka];exact⟨trivial,trivial,hy,self λe' h=>he e' (by simp[h])⟩
    |succ i=>
     simp only[Zci,ka];obtain⟨x,hx⟩:=he e (by simp);exact⟨trivial,trivial,by rw[hx];simp,ih (λe' h=>he e' (by simp[h])) i⟩
  ·rename_i hn;clear hn;induction es with
   |nil=>simp only[yP,ka];exact⟨trivial,trivial,hy,trivial⟩
   |cons e es ih=>
    simp only[C5,ka];obtain⟨x,hx⟩:=he e (by simp);exact⟨trivial,trivial,by rw[hx];simp,ih λe' h=>he e' (by simp[h])⟩
 ·exact self he
def gz(al:List cE):NG (dz al):=Yd al
def Is{a b:bw}{c:cE}{d:DV}(hd:iY a b id d (.v (.sl (iz c.ops)))):
  eK a b (.map nl true (yj c.key c.aI al.length (dz al)) (sL c.key c.aI (.agg [.v (ti c.f),.v (ti c.t),.v (ti c.term),.v (ti c.aI),d]) al.length (dz al))) (cV (xE al c)):=by
 obtain⟨h1,h2⟩:=KL c al;refine .inl ?_;unfold cV;rw[<-h1,<-h2];simp only[o8];refine⟨trivial,trivial,trivial,QW ?_ (gz al)⟩;simp[cE.enc,hd]
def BD(l:List (Int×Int))(a b:Int):iz l++[[ti a,ti b]]=iz (l++[(a,b)]):=by simp[iz]
def QX{N m r r2 aK aZ v:Nat}{tm:dn}{l:eO}{o2:Ob}(c:cE){av:List (aL)}(aV:df f0 N)(hm:m<N)(hr:N<=r)(y6:N<=r2)(hn:N<=aZ)(eQ:av=iz c.ops)
  (iW:fK (aO [(m,.map nl true (yj c.key c.aI al.length (dz al)) (sL c.key c.aI (.agg [.v (ti c.f),.v (ti c.t),.v (ti c.term),.v (ti c.aI),.bC r v]) al.length (dz al))),(r,.bE v 117 2 av),(r2,o2),(m,.map nl true al.length (dz al))] f0) (aO [(m,cV (xE al c))] f0) id tm l):
  Le ⟨tm,eJ (aO [(r,.bE v 117 2 av),(r2,o2),(m,.map nl true al.length (dz al))] f0) m (.map nl true (yj c.key c.aI al.length (dz al)) (sL c.key c.aI (.agg [.v (ti c.f),.v (ti c.t),.v (ti c.term),.v (ti c.aI),.bC r v]) al.length (dz al))),aK,N,[]⟩
   ⟨DM.look l,aO [(m,cV (xE al c))] f0,aZ,N,[]⟩:=by
 subst eQ;rw[kx];refine Le.d6 aV hn ?_ ?_ ?_ iW
 ·simp;omega
 ·simp[bT];omega
 ·refine⟨⟨_,by simp,Is (d:=.bC r v) ?_,λ_=>by simp[jR,cV]⟩,trivial⟩;simp[show r≠m by omega];exact bY aV hr (by simp;omega)
def Yf(al:List cE):bb (cV al)=[]:=by
 simp only[cV,bb,List.flatMap_eq_nil_iff];intro e he;obtain⟨a,ha⟩:=gz al e he;rw[ha];rfl
def sM{a b:bw}(al:List cE):eK a b (cV al) (cV al):=.inr ⟨rfl,λn hn=>by rw[Yf]at hn;cases hn⟩
def cS(al:List cE)(cs:List cE):List cE:=cs.foldl xE al
def iA(al cs ds:List cE):cS al (cs++ds)=cS (cS al cs) ds:=by simp[cS]
def m0(read:bU)(i m aI:Int)(ops:List (Int×Int))(n:Nat):List cE:=
 (List.range n).flatMap λt=>if 0<=read.getD t 0 then [⟨2*i,2*m+2,t,aI+read.getD t 0,ops++[(1,(t:Int))]⟩]else []
def QY(read:bU)(i m aI:Int)(ops:List (Int×Int))(n:Nat):m0 read i m aI ops (n+1)=m0 read i m aI ops n++(if 0<=read.getD n 0 then [⟨2*i,2*m+2,n,aI+read.getD n 0,ops++[(1,(n:Int))]⟩]else []):=by
 simp[m0,Hu]
def WA(c:cP):Prop:=c.read.length<=1000000/\∀p∈c.read,p<=1099511627776
def t47{b m:Nat}{x:Input}{i j:Nat}{aI:Int}{ops:List (Int×Int)}{N:Nat}(hN:∀r,N<=r->f0 r=none)(hb:f0 b=some (.box (dt x m)))(hm:f0 m=some (cV al))
  (hi:i<=1000000) (hj:j<x.aw.length) (hl:x.aw.length<=1000000) (hc:WA (x.aw.getD j default)) (vE:0<=aI/\aI<=1099511627776) (alI:ops.length<=1000000):
  aQ aj 74 [.ptr b 0,.v (ti i),.v (ti j),.v (ti aI),.v (.sl (iz ops))] f0 ⟨True,.v (.eB []),eJ f0 m (cV (cS al (m0 (x.aw.getD j default).read i j aI ops (x.aw.getD j default).read.length)))⟩:=by
 have aC:=ok4;refine c47.qE hN (by simp) λaV=>?_;have Wz:b<N:=(aV b _ hb).1;have CR:m<N:=(aV m _ hm).1;have BC:b≠m:=λe=>by rw[e,hm]at hb;cases hb
 have nb:∀k,b≠N+k:=λk=>by omega
 have nm:∀k,m≠N+k:=λk=>by omega
 have jH:=kg hj;obtain⟨col,alt⟩:=be (x.aw.getD j default);rw[alt]at jH hc⊢;obtain⟨kd,read,del⟩:=col;simp only at hc⊢;obtain⟨b8,gZ⟩:=hc;simp only at b8 gZ;have eQ:∀r∈iz ops,r.length=2:=by intro r hr;simp only[iz,lq]at hr;obtain⟨c,_,rfl⟩:=hr;rfl
 simp;apply aa.ag aC fw [0,1,2,3,4,20,21,22];simp[aj3,hb,dt,hj,jH,cP.enc];refine aa.to ⟨DM.look [],aO [(m,cV (cS al (m0 read i j aI ops read.length)))] f0,N+1000,N,[]⟩ ?_ (by simp[acM];rfl);apply aa.block;refine aa.loop (λy:Nat=>⟨DM.look [(0,.ptr b 0),(1,.v (ti i)),(2,.v (ti j)),(3,.v (ti aI)),(4,.v (.sl (iz ops))),(20,.v (.sl (aG read))),(21,.v (ti read.length)),(22,.v (ti y))],aO [(m,cV (cS al (m0 read i j aI ops y)))] f0,N+200,N,[]⟩)
  (λy=>y<=read.length) (λy=>read.length-y) 0 (Le.d6 aV ?_ ?_ ?_ ?_ ?_) (by simp) (λy hy=>?_)
 ·omega
 ·simp;omega
 ·simp[bT]
 ·exact⟨⟨cV al,by simp[hm],by simpa [m0,cS]using sM al,λ_=>trivial⟩,trivial⟩
 ·simp[hb,BC]
 apply aa.ag aC fw [0,1,2,3,4,20,21,22,23];simp[aj4];apply aa.seq;refine aa.cond rfl (λcU=>?_) (λcU=>?_)
 ·simp at cU;apply aa.skip;simp;apply aa.seq;apply aa.block;have y6:=cM cU;obtain⟨p,hp⟩:=be (read.getD y default);have hp0:read.getD y 0=p:=hp;have hpm:p<=1099511627776:=gZ p (by rw[<-hp];simp[List.getD,cU]);rw[hp]at y6;apply aa.ag aC fw [0,1,2,3,4,10,11,20,21,22];simp[aj5,y6,cU];apply aa.ag aC fw [0,1,2,3,4,10,11,20,21,22,28];simp[aj6];have o9:=QY read i j aI ops y;rw[hp0]at o9;obtain⟨aly,Yg⟩:=be (cS al (m0 read i j aI ops y));rw[Yg];refine aa.to ⟨DM.look [(0,.ptr b 0),(1,.v (ti i)),(2,.v (ti j)),(3,.v (ti aI)),(4,.v (.sl (iz ops))),(20,.v (.sl (aG read))),(21,.v (ti read.length)),(22,.v (ti y))],aO [(m,cV (cS al (m0 read i j aI ops (y+1))))] f0,N+1000,N,[]⟩ ?_ ?_
  ·refine aa.cond rfl (λhd=>?_) (λhd=>?_)
   ·simp at hd;refine aa.qa aC fw (rs:=QQ) (.inr ⟨_,rfl⟩) (by kernel_rfl) [0,1,2,3,4,20,21,22] ?_;have w1:IntKind.i64.wrap (2*(i:Int))=2*i:=aF (by omega);have w2:IntKind.i64.wrap (2*(j:Int))=2*j:=aF (by omega);have w3:IntKind.i64.wrap (2*(j:Int)+2)=2*j+2:=aF (by omega);have w4:IntKind.i64.wrap (aI+p)=aI+p:=aF (by omega);simp[QQ,w1,w2,w3,w4,ac4,NH,gn,dR,k48,hb,dt,BC,cV,gz,ed,nb,nm];refine⟨⟨ops,rfl,alI⟩,by omega,λn hn=>?_, ?_⟩
    ·simp only[aP,oO]at hn;subst hn;simp
    ·have e:cS al (m0 read i j aI ops (y+1))=xE aly ⟨2*i,2*j+2,y,aI+p,ops++[(1,(y:Int))]⟩:=by
      rw[o9,cF hd,iA,Yg];rfl
     rw[e];refine QX ⟨2*i,2*j+2,y,aI+p,ops++[(1,(y:Int))]⟩ aV CR ?_ ?_ ?_ (BD _ _ _) ?_
     ·omega
     ·omega
     ·omega
     ·simp[hb,BC]
   ·simp at hd;have e:cS al (m0 read i j aI ops (y+1))=aly:=by
     rw[o9,aY (by omega),wa,Yg]
    rw[e];refine aa.skip ⟨rfl,Le.d6 aV ?_ ?_ ?_ ?_ ?_⟩
    ·omega
    ·simp;omega
    ·simp[bT]
    ·exact⟨⟨cV aly,by simp[cV],sM _,λ_=>bk _⟩,trivial⟩
    ·simp[hb,BC]
  ·apply aa.fA aC fw [0,1,2,3,4,20,21,22];simp[aj7];rw[aF (by omega)];refine⟨y+1,Le.d6 aV ?_ ?_ ?_ ?_ ?_,by omega,by omega⟩
   ·omega
   ·simp;omega
   ·simp[bT]
   ·exact⟨⟨_,by simp,sM _,λ_=>bk _⟩,trivial⟩
   ·simp[hb,BC]
 ·simp at cU;have:y=read.length:=by omega
  subst this;apply aa.exit;refine⟨rfl, ?_⟩;refine Le.d6 (l:=[]) aV ?_ ?_ ?_ ?_ ?_
  ·omega
  ·simp;omega
  ·simp[bT]
  ·exact⟨⟨_,by simp,sM _,λ_=>bk _⟩,trivial⟩
  ·simp
end
section
variable{ab:bw}{al:List cE}
def gN(ab:bw)(b:Nat):Input×Nat:=
 match ab b with
 |some (.box [.v (.sl c),.v (.sl i),.v (.int .i64 s),.je m])=>(⟨zY c,lz i,s⟩,m)
 |_=>(⟨[],[],0⟩,0)
def DU{b m:Nat}{x:Input}(h:ab b=some (.box (dt x m))):gN ab b=(x,m):=by
 simp[gN,h,dt]
def BE(ab:bw)(m:Nat):List cE:=
 match ab m with
 |some (.map _ _ _ es)=>es.map λe=>match e.2.2 with|.v (.agg r)=>ye r|_=>default
 |_=>[]
def Iu{m:Nat}(h:ab m=some (cV al)):BE ab m=al:=by
 simp only[BE,h,cV,dz,Zdr];rw[show(List.map ((λe=>match e.2.2 with|DV.v (T.agg r)=>ye r|_=>default)∘λp=>(p.2,p.1.key,DV.v (T.agg p.1.enc))) al.zipIdx)=al.zipIdx.map Prod.fst from Zbz λp _=>by simp];simp
def k31:bG->bw->fV
 |[.ptr b 0,.v (.int .i64 i),.v (.int .i64 j)],ab=>⟨ab b=some (.box (dt (gN ab b).1 (gN ab b).2))/\0<=i/\i<=j/\j<=(gN ab b).1.aw.length/\uq (gN ab b).1.aw,
   .v (.eB [ti (im (((gN ab b).1.aw.take j.toNat).drop i.toNat) 0),.sl (iz (gR (j.toNat-i.toNat)))]),ab⟩
 |_,ab=>⟨False,.undef,ab⟩
def BF{b m:Nat}{x:Input}{i j:Nat}(h:ab b=some (.box (dt x m))):
  k31 [.ptr b 0,.v (ti i),.v (ti j)] ab=⟨i<=j/\j<=x.aw.length/\uq x.aw,.v (.eB [ti (im ((x.aw.take j).drop i) 0),.sl (iz (gR (j-i)))]),ab⟩:=by
 simp only[k31,DU h,h,iP,qI,Int.ofNat_le,ZcS];try omega
def k50:bG->bw->fV
 |[.ptr b 0,.v (.int .i64 i)],ab=>⟨ab b=some (.box (dt (gN ab b).1 (gN ab b).2))/\0<=i/\i<=1000000/\(gN ab b).1.aw.length<=1000000,.v (.bool (dm (gN ab b).1 i.toNat)),ab⟩
 |_,ab=>⟨False,.undef,ab⟩
def ac5{b m:Nat}{x:Input}{i:Nat}(h:ab b=some (.box (dt x m))):
  k50 [.ptr b 0,.v (ti i)] ab=⟨i<=1000000/\x.aw.length<=1000000,.v (.bool (dm x i)),ab⟩:=by
 simp only[k50,DU h,h,iP,fV.mk.injEq,and_self,D7,qI,eq_iff_iff,ZcS];try omega
def k47:bG->bw->fV
 |[.ptr b 0,.v (.int .i64 i),.v (.int .i64 j),.v (.int .i64 aI),.v (.sl ops)],ab=>
  ⟨ab b=some (.box (dt (gN ab b).1 (gN ab b).2))/\ab (gN ab b).2=some (cV (BE ab (gN ab b).2))/\ops=iz (By ops)/\0<=i/\i<=1000000/\0<=j/\j<(gN ab b).1.aw.length/\(gN ab b).1.aw.length<=1000000/\WA ((gN ab b).1.aw.getD j.toNat default)/\0<=aI/\aI<=1099511627776/\(By ops).length<=1000000,.v (.eB []),
   eJ ab (gN ab b).2 (cV (cS (BE ab (gN ab b).2) (m0 ((gN ab b).1.aw.getD j.toNat default).read i.toNat j.toNat aI (By ops) ((gN ab b).1.aw.getD j.toNat default).read.length)))⟩
 |_,ab=>⟨False,.undef,ab⟩
def amD{b m:Nat}{x:Input}{i j:Nat}{aI:Int}{ops:List (Int×Int)}(h:ab b=some (.box (dt x m)))(hm:ab m=some (cV al)):
  k47 [.ptr b 0,.v (ti i),.v (ti j),.v (ti aI),.v (.sl (iz ops))] ab=⟨i<=1000000/\j<x.aw.length/\x.aw.length<=1000000/\WA (x.aw.getD j default)/\0<=aI/\aI<=1099511627776/\ops.length<=1000000,.v (.eB []),
   eJ ab m (cV (cS al (m0 (x.aw.getD j default).read i j aI ops (x.aw.getD j default).read.length)))⟩:=by
 simp only[k47,DU h,h,Iu hm,hm,iP,QS,qI,Int.ofNat_lt,ZcS,show((i:Int)<=1000000)=(i<=1000000)from propext ⟨λh=>by omega,λh=>by omega⟩]
abbrev Γ5:pk:=bB [(75,en k48),(74,en k47),(48,en k31),(77,en k50),(76,zl NH ac4 117 2)]
def ok5:ay aj Γ5:=by
 refine ay.ij (ay.ij (ay.ij (ay.ij (ay.aaw ay.nil ?_) ?_) ?_) ?_) ?_
 ·rintro ts ⟨l,rfl,h⟩;exact t49 l h
 ·intro args ab h;unfold k50 at h⊢;split at h
  ·rename_i aJ b i;obtain⟨hb,h1,h2,h3⟩:=h;obtain⟨i,rfl⟩:=kK h1;refine⟨λN hN=>?_,λr hr=>hr⟩;exact aQ.of (t50 hN hb (by omega) h3) (by simp) (by simp)
  ·exact h.elim
 ·intro args ab h;unfold k31 at h⊢;split at h
  ·rename_i aJ b i j;obtain⟨hb,h1,h2,h3,h4⟩:=h;obtain⟨i,rfl⟩:=kK h1;obtain⟨j,rfl⟩:=kK (show 0<=j by omega);refine⟨λN hN=>?_,λr hr=>hr⟩;exact aQ.of (t31 hN hb (by omega) (by omega) h4) (by simp) (by simp)
  ·exact h.elim
 ·intro args ab h;unfold k47 at h⊢;split at h
  ·rename_i aJ b i j aI ops;obtain⟨hb,hm,ho,h1,h2,h3,h4,h5,h6,h7,h8,h9⟩:=h;obtain⟨i,rfl⟩:=kK h1;obtain⟨j,rfl⟩:=kK h3;refine⟨λN hN=>?_,λr hr=>wt hm hr⟩;rw[ho];exact aQ.of (t47 hN hb hm (by omega) (by omega) h5 h6 ⟨h7,h8⟩ h9) (by simp) (by simp)
  ·exact h.elim
 ·intro args ab h;exact(ok4 75 (en k48) rfl).st k48 rfl args ab h
end
section
variable{f0:bw}{al:List cE}
def pj(x:Input)(i m:Nat):Int:=im ((x.aw.take m).drop i) 0
def uZ(ci:bU)(i m aI:Int)(ops:List (Int×Int))(n:Nat):List cE:=
 (List.range n).map λ(t:Nat)=>⟨2*i,2*m,(t:Int),aI+ci.getD t 0,ops++[(3,(t:Int))]⟩
def Yh(ci:bU)(i m aI:Int)(ops:List (Int×Int))(n:Nat):uZ ci i m aI ops (n+1)=uZ ci i m aI ops n++[⟨2*i,2*m,n,aI+ci.getD n 0,ops++[(3,(n:Int))]⟩]:=by
 simp[uZ,Hu]
def Cd(x:Input)(i m:Nat):List cE:=m0 (x.aw.getD m default).read i m (pj x i m) (gR (m-i)) (x.aw.getD m default).read.length
def uo(x:Input)(i m:Nat):List cE:=
 (if i<m then Cd x i (m-1)else [])++(uZ x.insert i m (pj x i m) (gR (m-i)) x.insert.length++
  (if dm x m then [⟨2*i,2*m+1,(x.aw.getD (m+1) default).kind,pj x i m+x.swap,gR (m-i)++[(4,0)]⟩]else []))
def z8(x:Input)(i m:Nat):List cE:=(List.range (m-i)).flatMap λe=>uo x i (i+e)
def u0(x:Input)(i:Nat):List cE:=z8 x i (x.aw.length+1)++(if dm x i then [⟨2*i+1,2*i+4,(x.aw.getD i default).kind,0,[]⟩]else [])
def QZ(x:Input){i m:Nat}(h:i<=m):z8 x i (m+1)=z8 x i m++uo x i m:=by
 unfold z8;rw[show m+1-i=(m-i)+1 by omega,Hu,ZcM];simp[show i+(m-i)=m by omega]
def Qb(x:Input):Prop:=uq x.aw/\(∀c∈x.aw,WA c)/\x.insert.length<=1000000/\(∀p∈x.insert,0<=p/\p<=1099511627776)/\0<=x.swap/\x.swap<=1099511627776
def iu{x:Input}(h:uq x.aw)(i m:Nat):0<=pj x i m/\pj x i m<=1099511627776:=
 xz (λc hc=>(h.2 c (Es (Zca hc))).1) 0 (by omega)
def t7{N m aK aZ:Nat}{tm:dn}{l:eO}{L:c7}(aV:df f0 N)(hm:m<N)(hn:N<=aZ)(hL:∀p∈L,p.1=m\/N<=p.1)(ho:aO L f0 m=some (cV al))
  (iW:fK (aO L f0) (aO [(m,cV al)] f0) id tm l):
  Le ⟨tm,aO L f0,aK,N,[]⟩ ⟨DM.look l,aO [(m,cV al)] f0,aZ,N,[]⟩:=by
 refine Le.d6 aV hn ?_ ?_ ?_ iW
 ·simp;omega
 ·induction L with
  |nil=>trivial
  |cons p L ih=>
   have:∀(L:c7),(∀p∈L,p.1=m\/N<=p.1)->bT N [(m,cV al)] L:=by
    intro L;induction L with
    |nil=>intro _;trivial
    |cons q L ih=>
     intro h;refine⟨λhq=>?_,ih λp hp=>h p (by simp[hp])⟩;rcases h q (by simp)with h|h
     ·exact⟨cV al,by simp[h]⟩
     ·omega
   exact this _ hL
 ·exact⟨⟨cV al,ho,sM al,λ_=>bk _⟩,trivial⟩
def t30{b m:Nat}{x:Input}{i:Nat}{N:Nat}(hN:∀r,N<=r->f0 r=none)(hb:f0 b=some (.box (dt x m)))(hm:f0 m=some (cV al))
  (hi:i<=x.aw.length) (hx:Qb x):
  aQ aj 47 [.ptr b 0,.v (ti i)] f0 ⟨True,.v (.eB []),eJ f0 m (cV (cS al (u0 x i)))⟩:=by
 have aC:=ok5;refine c30.qE hN (by simp) λaV=>?_;have Wz:b<N:=(aV b _ hb).1;have CR:m<N:=(aV m _ hm).1;have BC:b≠m:=λe=>by rw[e,hm]at hb;cases hb
 have nb:∀k,b≠N+k:=λk=>by omega
 have nm:∀k,m≠N+k:=λk=>by omega
 obtain⟨hd,oT,auD,amE,arW,OW⟩:=hx;have hl:=hd.1;simp;apply aa.ag aC fw [0,1,4];simp[ajM,hb,dt];apply aa.sq aC fw [0,1,4,5];simp[ajN];refine aa.to ⟨DM.look [(0,.ptr b 0),(1,.v (ti i))],aO [(m,cV (cS al (z8 x i (x.aw.length+1))))] f0,N+1000,N,[]⟩ ?_ ?_
 ·apply aa.block;refine aa.loop (λy:Nat=>⟨DM.look [(0,.ptr b 0),(1,.v (ti i)),(4,.v (ti x.aw.length)),(5,.v (ti y))],aO [(m,cV (cS al (z8 x i y)))] f0,N+1000,N,[]⟩)
   (λy=>i<=y/\y<=x.aw.length+1) (λy=>x.aw.length+1-y) i (Le.d6 aV ?_ ?_ ?_ ?_ ?_) (by omega) (λy hy=>?_)
  ·omega
  ·simp;omega
  ·simp[bT]
  ·exact⟨⟨cV al,by simp[hm],by simpa [z8,cS]using sM al,λ_=>trivial⟩,trivial⟩
  ·simp[hb,BC]
  obtain⟨mf,fW⟩:=hy;apply aa.sq aC fw [0,1,4,5,21];simp[ajO];refine aa.cond rfl (λcU=>?_) (λcU=>?_)
  ·simp at cU;apply aa.skip;simp;obtain⟨aI,vE⟩:=be (pj x i y);have AJ:0<=aI/\aI<=1099511627776:=by rw[<-vE];exact iu hd i y
   have amF:im ((x.aw.take y).drop i) 0=aI:=vE;obtain⟨aly,Yg⟩:=be (cS al (z8 x i y));rw[Yg];apply aa.seq;refine aa.to ⟨DM.look [(0,.ptr b 0),(1,.v (ti i)),(4,.v (ti x.aw.length)),(5,.v (ti y))],aO [(m,cV (cS aly (uo x i y)))] f0,N+1000,N,[]⟩ ?_ ?_
   ·apply aa.block;apply aa.seq;refine aa.qa aC fw (rs:=QN) (.inr ⟨_,rfl⟩) (by kernel_rfl) [0,1,4,5,6,7] ?_;simp[QN,BF (x:=x) (m:=m),hb,BC,mf,cU,hd,amF];apply aa.seq;obtain⟨al1,amG⟩:=be (cS aly (if i<y then Cd x i (y-1)else []));refine aa.to ⟨DM.look [(0,.ptr b 0),(1,.v (ti i)),(4,.v (ti x.aw.length)),(5,.v (ti y)),(6,.v (ti aI)),(7,.v (.sl (iz (gR (y-i)))))],aO [(m,cV al1)] f0,N+1000,N,[]⟩ ?_ ?_
    ·apply aa.ag aC fw [0,1,4,5,6,7,33];simp[ajP];refine aa.cond rfl (λh=>?_) (λh=>?_)
     ·simp at h;obtain⟨q,hq⟩:∃q,y=q+1:=⟨y-1,by omega⟩;have hwq:IntKind.i64.wrap ((y:Int)-1)=(q:Int):=by rw[aF (by omega)];omega
      have hiq:i<=q:=by omega
      have hql:q<=x.aw.length:=by omega
      have amH:q<x.aw.length:=by omega
      obtain⟨c2,gZ⟩:=be (pj x i q);have arX:0<=c2/\c2<=1099511627776:=by rw[<-gZ];exact iu hd i q
      have auE:im ((x.aw.take q).drop i) 0=c2:=gZ;refine aa.seq (aa.qa aC fw (rs:=QO) (.inr ⟨_,rfl⟩) (by kernel_rfl) [0,1,4,5,6,7,8,9] ?_);simp[QO,BF (x:=x) (m:=m),hb,BC,hwq,hiq,hql,hd,auE];refine aa.qa aC fw (rs:=QP) (.inr ⟨_,rfl⟩) (by kernel_rfl) [0,1,4,5,6,7] ?_;simp[QP,amD (x:=x) (m:=m) (al:=aly),hb,BC,hwq];refine⟨⟨by omega,amH,hl, ?_,arX.1,arX.2,by simp[gR];omega⟩, ?_⟩
      ·rw[xb amH];exact oT _ (SL amH)
      ·rw[kx];have e:cS aly (m0 (x.aw[q]?.getD default).read i q c2 (gR (q-i)) (x.aw[q]?.getD default).read.length)=al1:=by
        rw[<-amG,cF h];simp[Cd,show y-1=q by omega,gZ]
       rw[e];exact t7 aV CR (by omega) (by simp) (by simp) (by simp[hb,BC])
     ·simp at h;have e:aly=al1:=by rw[<-amG,aY (by omega)];rfl
      rw[e];exact aa.skip ⟨rfl,t7 aV CR (by omega) (by simp) (by simp) (by simp[hb,BC])⟩
    apply aa.seq;obtain⟨al2,ac6⟩:=be (cS al1 (uZ x.insert i y aI (gR (y-i)) x.insert.length));refine aa.to ⟨DM.look [(0,.ptr b 0),(1,.v (ti i)),(4,.v (ti x.aw.length)),(5,.v (ti y)),(6,.v (ti aI)),(7,.v (.sl (iz (gR (y-i)))))],aO [(m,cV al2)] f0,N+1000,N,[]⟩ ?_ ?_
    ·apply aa.ag aC fw [0,1,4,5,6,7,53,54,55];simp[ajQ,hb,BC,dt];apply aa.block;refine aa.loop (λz:Nat=>⟨DM.look [(0,.ptr b 0),(1,.v (ti i)),(4,.v (ti x.aw.length)),(5,.v (ti y)),(6,.v (ti aI)),(7,.v (.sl (iz (gR (y-i))))),(53,.v (.sl (aG x.insert))),(54,.v (ti x.insert.length)),(55,.v (ti z))],aO [(m,cV (cS al1 (uZ x.insert i y aI (gR (y-i)) z)))] f0,N+1000,N,[]⟩)
      (λz=>z<=x.insert.length) (λz=>x.insert.length-z) 0 ?_ (by omega) (λz hz=>?_)
     ·exact t7 aV CR (by omega) (by simp) (by simp[uZ,cS]) (by simp[hb,BC])
     apply aa.ag aC fw [0,1,4,5,6,7,53,54,55,56];simp[ajR];apply aa.seq;refine aa.cond rfl (λh=>?_) (λh=>?_)
     ·simp at h;apply aa.skip;simp;apply aa.seq;apply aa.block;obtain⟨p,hp⟩:=be (x.insert.getD z default);have hr:=cM h;have hpb:=amE p (by rw[<-hp];simp[List.getD,h]);have hp0:x.insert.getD z 0=p:=hp;have o9:=Yh x.insert i y aI (gR (y-i)) z;rw[hp0]at o9;rw[hp]at hr;apply aa.ag aC fw [0,1,4,5,6,7,10,11,53,54,55];simp[ajS,hr,h];obtain⟨alz,arY⟩:=be (cS al1 (uZ x.insert i y aI (gR (y-i)) z));rw[arY];refine aa.to ⟨DM.look [(0,.ptr b 0),(1,.v (ti i)),(4,.v (ti x.aw.length)),(5,.v (ti y)),(6,.v (ti aI)),(7,.v (.sl (iz (gR (y-i))))),(53,.v (.sl (aG x.insert))),(54,.v (ti x.insert.length)),(55,.v (ti z))],aO [(m,cV (cS al1 (uZ x.insert i y aI (gR (y-i)) (z+1))))] f0,N+1000,N,[]⟩ ?_ ?_
      ·refine aa.qa aC fw (rs:=KE) (.inr ⟨_,rfl⟩) (by kernel_rfl) [0,1,4,5,6,7,53,54,55] ?_;have w1:IntKind.i64.wrap (2*(i:Int))=2*i:=aF (by omega);have w2:IntKind.i64.wrap (2*(y:Int))=2*y:=aF (by omega);have w4:IntKind.i64.wrap (aI+p)=aI+p:=aF (by omega);have fB:(gR (y-i)).length=y-i:=by simp[gR]
       simp[KE,w1,w2,w4,ac4,NH,gn,dR,k48,hb,dt,BC,cV,gz,ed,nb,nm];refine⟨⟨_,rfl,by omega⟩,by omega,λn hn=>?_, ?_⟩
       ·simp only[aP,oO]at hn;subst hn;simp
       ·have e:cS al1 (uZ x.insert i y aI (gR (y-i)) (z+1))=xE alz ⟨2*i,2*y,z,aI+p,gR (y-i)++[(3,(z:Int))]⟩:=by
         rw[o9,iA,arY];rfl
        rw[e];refine QX ⟨2*i,2*y,z,aI+p,gR (y-i)++[(3,(z:Int))]⟩ aV CR ?_ ?_ ?_ (BD _ _ _) ?_
        ·omega
        ·omega
        ·omega
        ·simp[hb,BC]
      ·apply aa.fA aC fw [0,1,4,5,6,7,53,54,55];simp[acI];rw[aF (by omega)];exact⟨z+1,t7 aV CR (by omega) (by simp) (by simp) (by simp[hb,BC]),by omega,by omega⟩
     ·simp at h;have:z=x.insert.length:=by omega
      subst this;refine aa.exit ⟨rfl, ?_⟩;rw[ac6];exact t7 aV CR (by omega) (by simp) (by simp) (by simp[hb,BC])
    refine aa.kv aC fw (rs:=KF) (.inr ⟨_,rfl⟩) (by kernel_rfl) [0,1,4,5,6,7,80] ?_;simp[KF,ac5 (x:=x) (m:=m),hb,BC];refine⟨⟨by omega,hl⟩, ?_⟩;have SO:cS aly (uo x i y)=cS al2 (if dm x y then [⟨2*i,2*y+1,(x.aw.getD (y+1) default).kind,aI+x.swap,gR (y-i)++[(4,0)]⟩]else []):=by
     rw[<-ac6,<-amG,<-iA,<-iA];simp[uo,vE]
    refine aa.cond rfl (λh=>?_) (λh=>?_)
    ·rw[SO,cF h];have afr:y+1<x.aw.length:=by simp[dm]at h;exact h.1
     have hr:DM.rowAt (cz x.aw) ((y:Int)+1)=_:=kg afr;obtain⟨c2,gZ⟩:=be (x.aw.getD (y+1) default);rw[gZ]at hr⊢;have w0:IntKind.i64.wrap ((y:Int)+1)=y+1:=aF (by omega);have w1:IntKind.i64.wrap (2*(i:Int))=2*i:=aF (by omega);have w2:IntKind.i64.wrap (2*(y:Int))=2*y:=aF (by omega);have w3:IntKind.i64.wrap (2*(y:Int)+1)=2*y+1:=aF (by omega);have w4:IntKind.i64.wrap (aI+x.swap)=aI+x.swap:=aF (by omega);have fB:(gR (y-i)).length=y-i:=by simp[gR]
     have auF:((y:Int)+1<x.aw.length)=True:=by simp;omega
     have auG:(0<=(y:Int)+1)=True:=by simp;omega
     refine aa.qa aC fw (rs:=db (MB b N) (fg KG [none,none,none,none,none,none,none,none,none,none,some [0],none,none,some [],none,some [],none,none,none,none,none,some [0],none,none,some [],none,none,some [1239]])) (.inl rfl) (by rw[d8 (XW Wz)];kernel_rfl) [0,1,4,5] ?_;simp[db,fG,fg,cX,bN,aP,bQ,MB,KG,w0,w1,w2,w3,w4,hr,auF,auG,cP.enc,ac4,NH,gn,dR,k48,hb,dt,BC,cV,gz,ed,nb,nm];refine⟨⟨_,rfl,by omega⟩,by omega, ?_⟩;refine QX ⟨2*i,2*y+1,c2.kind,aI+x.swap,gR (y-i)++[(4,0)]⟩ aV CR ?_ ?_ ?_ (BD _ _ _) ?_
     ·omega
     ·omega
     ·omega
     ·simp[hb,BC]
    ·rw[SO,aY (by simp[h])];exact aa.skip ⟨rfl,t7 aV CR (by omega) (by simp) (by simp[cS]) (by simp[hb,BC])⟩
   ·apply aa.fA aC fw [0,1,4,5];simp[acJ];rw[aF (by omega)];refine⟨y+1,t7 aV CR (by omega) (by simp) (by simp;rw[QZ x mf,iA,Yg]) (by simp[hb,BC]),⟨by omega,by omega⟩,by omega⟩
  ·simp at cU;have:y=x.aw.length+1:=by omega
   subst this;refine aa.exit ⟨rfl, ?_⟩;exact t7 aV CR (by omega) (by simp) (by simp) (by simp[hb,BC])
 ·obtain⟨al3,arZ⟩:=be (cS al (z8 x i (x.aw.length+1)));have SO:cS al (u0 x i)=cS al3 (if dm x i then [⟨2*i+1,2*i+4,(x.aw.getD i default).kind,0,[]⟩]else []):=by
   rw[<-arZ,<-iA];rfl
  rw[arZ];refine aa.kv aC fw (rs:=KH) (.inr ⟨_,rfl⟩) (by kernel_rfl) [0,1,113] ?_;simp[KH,ac5 (x:=x) (m:=m),hb,BC];refine⟨⟨by omega,hl⟩, ?_⟩;refine aa.to ⟨DM.look [],aO [(m,cV (cS al (u0 x i)))] f0,N+1000,N,[]⟩ ?_ (by simp[acK];rfl);refine aa.cond rfl (λh=>?_) (λh=>?_)
  ·rw[SO,cF h];have afr:i<x.aw.length:=by simp[dm]at h;omega
   have hr:=kg afr;obtain⟨c2,gZ⟩:=be (x.aw.getD i default);rw[gZ]at hr⊢;have w1:IntKind.i64.wrap (2*(i:Int))=2*i:=aF (by omega);have w2:IntKind.i64.wrap (2*(i:Int)+1)=2*i+1:=aF (by omega);have w3:IntKind.i64.wrap (2*(i:Int)+4)=2*i+4:=aF (by omega);refine aa.qa aC fw (rs:=KJ) (.inr ⟨_,rfl⟩) (by kernel_rfl) [] ?_;simp[KJ,w1,w2,w3,hr,afr,cP.enc,k48,hb,dt,BC,cV,gz,ed];refine⟨λn hn=>(by simp[aP]at hn), ?_⟩;rw[kx];refine Le.d6 (l:=[]) aV (by omega) (by simp;omega) (by simp[bT]) ⟨⟨_,by simp;exact⟨rfl,rfl⟩,Is (c:=⟨2*i+1,2*i+4,c2.kind,0,[]⟩) (d:=.aX) ?_,λ_=>by simp[jR]⟩,trivial⟩ (by simp);simp[iz]
  ·rw[SO,aY (by simp[h])];exact aa.skip ⟨rfl,t7 aV CR (by omega) (by simp) (by simp[cS]) (by simp)⟩
end
def gO(a:cE)(p:Bool×List cE)(b:cE):Bool×List cE:=
 if p.1=false/\bj b a=true then(true,p.2++[if a.aI<b.aI then a else b])
 else if p.1=false/\cR a b then(true,p.2++[a]++[b])
 else(p.1,p.2++[b])
def t8(a:cE)(l:List cE):Bool×List cE:=l.foldl (gO a) (false,[])
def yV(l:List cE)(a:cE):List cE:=
 if 1099511627776<=a.aI then l else if(t8 a l).1 then(t8 a l).2 else(t8 a l).2++[a]
section
variable{α:Type}
@[simp] def ak5(a b c d:Int)(o:List (Int×Int)):ye [ti a,ti b,ti c,ti d,.sl (iz o)]=⟨a,b,c,d,o⟩:=yf ⟨a,b,c,d,o⟩
@[simp] def ak6(a b c d:Int):ye [ti a,ti b,ti c,ti d,.sl []]=⟨a,b,c,d,[]⟩:=yf ⟨a,b,c,d,[]⟩
def ft{α:Type}(f:Nat->List α)(i m:Nat):List α:=(List.range (m-i)).flatMap λe=>f (i+e)
def aei(f:Nat->List α){i m:Nat}(h:i<=m):ft f i (m+1)=ft f i m++f m:=by
 unfold ft;rw[show m+1-i=(m-i)+1 by omega,Hu,ZcM];simp[show i+(m-i)=m by omega]
def alr(f:Nat->List α)(i:Nat):ft f i i=[]:=by simp[ft]
def Pm(x:Input)(m t:Nat):Int:=(x.aw.getD m default).read.getD t default
def rA(x:Input)(i m t:Nat):List cE:=if m<x.aw.length/\0<=Pm x m t then [⟨2*i,2*m+2,t,AO (pj x i m) (Pm x m t),gR (m-i)++[(1,(t:Int))]⟩]else []
def rS(x:Input)(i m:Nat):List cE:=if dm x m then [⟨2*i,2*m+1,(x.aw.getD (m+1) default).kind,AO (pj x i m) x.swap,gR (m-i)++[(4,0)]⟩]else []
def rM(x:Input)(i m:Nat):List cE:=ft (rA x i m) 0 x.insert.length++rS x i m
def rT(x:Input)(i:Nat):List cE:=if dm x i then [⟨2*i+1,2*i+4,(x.aw.getD i default).kind,0,[]⟩]else []
def rI(x:Input)(i:Nat):List cE:=ft (rM x i) i (x.aw.length+1)++rT x i
def iT(x:Input)(i m t:Nat):List cE:=[⟨2*i,2*m,t,AO (pj x i m) (x.insert.getD t default),gR (m-i)++[(3,(t:Int))]⟩]
def iM(x:Input)(i m:Nat):List cE:=ft (iT x i m) 0 x.insert.length
def iI(x:Input)(i:Nat):List cE:=ft (iM x i) i (x.aw.length+1)
def lE(l cs:List cE):List cE:=cs.foldl yV l
def wZ(l cs ds:List cE):lE l (cs++ds)=lE (lE l cs) ds:=by simp[lE]
def jM(x:Input):List cE:=lE (lE [] (ft (rI x) 0 (x.aw.length+1))) (ft (iI x) 0 (x.aw.length+1))
def AQ(x:Input)(k:Nat):bU:=(List.range (2*x.aw.length+1)).map λs=>if s<k then(if s % 2=0 then pj x (s/2) x.aw.length else 1099511627776)else 0
def bf(x:Input):aU:=⟨2*x.aw.length+1,jM x,AQ x (2*x.aw.length+1)⟩
def KR(a:cE)(p:Bool×List cE)(b:cE):(gO a p b).2.length+p.1.toNat<=p.2.length+1+(gO a p b).1.toNat:=by
 unfold gO;cases hp:p.1 with
 |true=>simp
 |false=>
  simp only[qI,Bool.toNat_false];split
  ·simp
  ·split<;>simp
def NM(a:cE)(l:List cE):(t8 a l).2.length<=l.length+(t8 a l).1.toNat:=by
 have key:∀(l:List cE) (p:Bool×List cE),(l.foldl (gO a) p).2.length+p.1.toNat<=p.2.length+l.length+(l.foldl (gO a) p).1.toNat:=by
  intro l;induction l with
  |nil=>intro p;simp
  |cons b l ih=>
   intro p;simp only[B6,w9];have h:=ih (gO a p b);have hs:=KR a p b;omega
 have h:=key l (false,[]);simpa [t8]using h
def adf(l:List cE)(a:cE):(yV l a).length<=l.length+1:=by
 have h:=NM a l;unfold yV;split
 ·omega
 ·split
  ·rename_i hd;rw[hd]at h;simpa using h
  ·rename_i hd;simp only[Zdq]at hd;rw[hd]at h;simp at h⊢;omega
def GG(cs:List cE):∀l:List cE,(lE l cs).length<=l.length+cs.length:=by
 induction cs with
 |nil=>intro l;simp[lE]
 |cons c cs ih=>
  intro l;have h1:=ih (yV l c);have h2:=adf l c;have e:lE l (c::cs)=lE (yV l c) cs:=rfl;rw[e];simp only[w9];omega
def amW(x:Input)(i m t:Nat):(rA x i m t).length<=1:=by unfold rA;split<;>simp
def amX(x:Input)(i m:Nat):(rS x i m).length<=1:=by unfold rS;split<;>simp
def amY(x:Input)(i:Nat):(rT x i).length<=1:=by unfold rT;split<;>simp
def BJ{f:Nat->List α}{B:Nat}(h:∀k,(f k).length<=B)(i m:Nat):(ft f i m).length<=(m-i)*B:=by
 unfold ft;have:∀k,((List.range k).flatMap λe=>f (i+e)).length<=k*B:=by
  intro k;induction k with
  |zero=>simp
  |succ k ih=>
   rw[Hu,ZcM,Eu,Nat.succ_mul];have:=h (i+k);simp only[Zy,List.flatMap_nil,wa];omega
 exact this _
def amZ(x:Input)(i m:Nat)(h:x.insert.length<=100):(rM x i m).length<=101:=by
 unfold rM;have h1:=BJ (amW x i m) 0 x.insert.length;have h2:=amX x i m;rw[Eu];omega
def am0(x:Input)(i:Nat)(h:x.insert.length<=100)(hn:x.aw.length<=60):(rI x i).length<=7000:=by
 unfold rI;have h1:=BJ (f:=rM x i) (B:=101) (λk=>amZ x i k h) i (x.aw.length+1);have h2:=amY x i;rw[Eu];omega
def am1(x:Input)(i m:Nat)(h:x.insert.length<=100):(iM x i m).length<=100:=by
 unfold iM;have h1:=BJ (f:=iT x i m) (B:=1) (λk=>by simp[iT]) 0 x.insert.length;omega
def am2(x:Input)(i:Nat)(h:x.insert.length<=100)(hn:x.aw.length<=60):(iI x i).length<=7000:=by
 unfold iI;have h1:=BJ (f:=iM x i) (B:=100) (λk=>am1 x i k h) i (x.aw.length+1);omega
end
open Go.DM Go.DM.W7
section
variable(amS:aL->Prop)(afu:aL->aL->Int)
abbrev AN(x y:aL):Bool:=decide (afu x y<0)
variable{amS afu}
end
def sE:Nat:=1000000000
section
variable{al:List cE}
def cW(a:cE):aL:=[ti a.f,ti a.t,ti a.term]
def uA(r:aL):Prop:=∃f t x:Int,r=[ti f,ti t,ti x]
def kX(r:aL):Int×Int×Int:=(dL (r.getD 0 (ti 0)),dL (r.getD 1 (ti 0)),dL (r.getD 2 (ti 0)))
def lt3(a b:Int×Int×Int):Prop:=a.1<b.1\/(a.1=b.1/\(a.2.1<b.2.1\/(a.2.1=b.2.1/\a.2.2<b.2.2)))
def or3(a b c d e f:Int):WB [uI a d,uI b e,uI c f]<0↔lt3 (a,b,c) (d,e,f):=by
 simp only[WB,uI,lt3];by_cases h1:a<d
 ·simp[h1]
 ·by_cases h2:d<a
  ·have:a≠d:=by omega
   simp[h1,h2,this]
  ·have:a=d:=by omega
   subst this;by_cases h3:b<e
   ·simp[h3]
   ·by_cases h4:e<b
    ·have:b≠e:=by omega
     simp[h3,h4,this]
    ·have:b=e:=by omega
     subst this;by_cases h5:c<f
     ·simp[h5]
     ·by_cases h6:f<c
      ·have:¬c<f:=by omega
       simp[h5,h6]
      ·simp[h5,h6]
def WC(x y:aL):AN fz x y=true↔lt3 (kX x) (kX y):=by
 simp only[AN,oS];exact or3 _ _ _ _ _ _
def Br(x y:aL):AN fz x y=false↔¬lt3 (kX x) (kX y):=by
 rw[<-WC];simp
def LH:SWO (AN fz):=by
 refine⟨λx=>?_,λx y z h1 h2=>?_,λx y z h1 h2=>?_⟩
 ·rw[Br];unfold lt3;omega
 ·rw[WC]at h1 h2⊢;unfold lt3 at h1 h2⊢;omega
 ·rw[Br]at h1 h2⊢;unfold lt3 at h1 h2⊢;omega
def afv{x y:aL}(h:sX (AN fz) x y=true):kX x=kX y:=by
 simp only[sX,mD,Xp,Br]at h;unfold lt3 at h;generalize kX x=p at h⊢;generalize kX y=q at h⊢;obtain⟨a1,a2,a3⟩:=p;obtain⟨b1,b2,b3⟩:=q;simp only[tD]at h⊢;omega
def BI{x y:aL}(hx:uA x)(hy:uA y)(h:kX x=kX y):x=y:=by
 obtain⟨a,b,c,rfl⟩:=hx;obtain⟨d,e,f,rfl⟩:=hy;simp[kX,dL]at h;simp[h]
def KQ{l:List (aL)}(hg:∀x∈l,uA x)(hn:l.Nodup)(z:aL):(l.filter (sX (AN fz) z)).length<=1:=by
 have Hs:(l.filter (sX (AN fz) z)).Nodup:=hn.filter _;have eF:∀x∈l.filter (sX (AN fz) z),uA x/\kX x=kX z:=by
  intro x hx;rw[Sv]at hx;exact⟨hg x hx.1,(afv hx.2).symm⟩
 match hl:l.filter (sX (AN fz) z),Hs,eF with
 |[],_,_=>simp
 |[a],_,_=>simp
 |a::b::l,Hs,eF=>
  exfalso;have h1:=eF a (by simp);have h2:=eF b (by simp);have:=BI h1.1 h2.1 (h1.2.trans h2.2.symm);subst this;simp at Hs
def Q0{l1 l2:List (aL)}(hp:l1.Perm l2)(hg:∀x∈l2,uA x)(hn:l2.Nodup):kV (AN fz) l1=kV (AN fz) l2:=by
 refine Mt LH (tf LH l2) λx=>?_;rw[zu LH];have h1:=hp.filter (sX (AN fz) x);have h2:=KQ hg hn x;cases h:l2.filter (sX (AN fz) x)with
 |nil=>rw[h]at h1;exact(List.Perm.eq_nil h1).symm
 |cons a t=>
  rw[h]at h1 h2;have:t=[]:=by cases t with
   |nil=>rfl
   |cons b t=>simp at h2
  subst this;exact(List.perm_singleton.1 h1).symm
def te{a b:cE}:cW a=cW b↔bj a b=true:=by simp[cW,bj]
def Rb(h:(al.map cW).Nodup)(a:cE):((xE al a).map cW).Nodup:=by
 unfold xE;split
 ·cases hf:al.findIdx? (bj a)with
  |none=>
   simp only;rw[Pv,Zcl];refine⟨h,by simp, ?_⟩;intro x hx y hy;simp only[qD,SK,oO]at hy;subst hy;obtain⟨b,hb,rfl⟩:=lq.1 hx;intro e;rw[Zco]at hf;have:=hf b hb;rw[te.1 e.symm]at this;cases this
  |some i=>
   simp only;split
   ·have hi:=wD hf;rw[Zbv]at hf;have hk:cW a=cW al[i]:=te.2 hf.2.1;rw[Zcs,hk];have:(al.map cW).set i (cW al[i])=al.map cW:=by
     apply Vt
     ·simp
     ·intro k h1 h2;rw[Zcf];split
      ·rename_i e;subst e;simp
      ·rfl
    rw[this];exact h
   ·exact h
 ·exact h
def yX(cs:List cE):∀{al:List cE},(al.map cW).Nodup->((cS al cs).map cW).Nodup:=by
 induction cs with
 |nil=>intro al h;exact h
 |cons c cs ih=>intro al h;exact ih (Rb h c)
def sg(al:List cE)(r:aL):cE:=(al.find? (bj ⟨(kX r).1,(kX r).2.1,(kX r).2.2,0,[]⟩)).getD default
def ada{α:Type}(p:α->Bool)(l:List α):l.find? p=(l.findIdx? p).bind λi=>l[i]? :=by
 induction l with
 |nil=>rfl
 |cons x l ih=>
  rw[LC,Y7];cases h:p x with
  |true=>simp
  |false=>simp[ih];cases l.findIdx? p<;>simp
def vY{a:cE}(h:a∈al):bj a (sg al (cW a))=true/\sg al (cW a)∈al/\∃i,sj a.key (dz al)=some (i,(sg al (cW a)).key,.v (.agg (sg al (cW a)).enc)):=by
 have e:bj ⟨(kX (cW a)).1,(kX (cW a)).2.1,(kX (cW a)).2.2,0,[]⟩=bj a:=by
  funext b;simp[bj,kX,cW,dL]
 unfold sg;rw[e,zA,qY,ada];cases hf:al.findIdx? (bj a)with
 |none=>
  rw[Zco]at hf;have:=hf a h;simp[bj]at this
 |some i=>
  have hi:=wD hf;rw[Zbv]at hf;simp only[ZcI,il,xb hi,O6,Su];exact⟨hf.2.1,SL hi,i,rfl⟩
def kW(al:List cE):List cE:=(kV (AN fz) (al.map cW)).map (sg al)
def Yl{sn:cQ}(h1:sn.Nodup)(h2:∀i∈sn,i<al.length)(h3:∀i,i<al.length->i∈sn):(sn.map λi=>cW (al.getD i default)).Perm (al.map cW):=by
 have hp:sn.Perm (List.range al.length):=(List.perm_ext_iff_of_nodup h1 List.nodup_range).2 λi=>by
  rw[Pi];exact⟨h2 i,h3 i⟩
 have:=hp.map λi=>cW (al.getD i default);refine this.trans (List.Perm.of_eq ?_);apply Vt
 ·simp
 ·intro k k1 k2;simp at k2;simp[k2]
end
open Go.Shelf
def NL:Go.Shelf.Ren:=⟨fun|6=>49|15=>79|14=>78|28=>116|29=>117|20=>108|21=>109|22=>110|23=>111|24=>112|25=>113|26=>114|27=>115|46=>135|47=>136|48=>137|49=>138|50=>139|57=>149|n=>n,fun|22=>102|24=>104|25=>106|3=>3|39=>129|0=>0|53=>175|55=>178|4=>4|46=>184|45=>183|50=>188|5=>5|9=>9|66=>212|70=>216|76=>222|77=>196|n=>n,fun|n=>n⟩
def afw:SlLaysF0.n6 aj NL where
 mixed:=by kernel_rfl
 f6:=⟨Tryz.f49.name,by decide+kernel,Tryz.func49.trans (congrArg some (by kernel_rfl))⟩
 f14:=⟨Tryz.f78.name,by decide+kernel,Tryz.func78.trans (congrArg some (by kernel_rfl))⟩
 f15:=Tryz.func79.trans (congrArg some (by kernel_rfl))
 f20:=⟨Tryz.f108.name,by decide+kernel,Tryz.func108.trans (congrArg some (by kernel_rfl))⟩
 f21:=⟨Tryz.f109.name,by decide+kernel,Tryz.func109.trans (congrArg some (by kernel_rfl))⟩
 f22:=⟨Tryz.f110.name,by decide+kernel,Tryz.func110.trans (congrArg some (by kernel_rfl))⟩
 f23:=⟨Tryz.f111.name,by decide+kernel,Tryz.func111.trans (congrArg some (by kernel_rfl))⟩
 f24:=⟨Tryz.f112.name,by decide+kernel,Tryz.func112.trans (congrArg some (by kernel_rfl))⟩
 f25:=⟨Tryz.f113.name,by decide+kernel,Tryz.func113.trans (congrArg some (by kernel_rfl))⟩
 f26:=⟨Tryz.f114.name,by decide+kernel,Tryz.func114.trans (congrArg some (by kernel_rfl))⟩
 f27:=⟨Tryz.f115.name,by decide+kernel,Tryz.func115.trans (congrArg some (by kernel_rfl))⟩
 f28:=Tryz.func116.trans (congrArg some (by kernel_rfl))
 f29:=Tryz.func117.trans (congrArg some (by kernel_rfl))
 f46:=⟨Tryz.f135.name,by decide+kernel,Tryz.func135.trans (congrArg some (by kernel_rfl))⟩
 f47:=Tryz.func136.trans (congrArg some (by kernel_rfl))
 f48:=Tryz.func137.trans (congrArg some (by kernel_rfl))
 f49:=⟨Tryz.f138.name,by decide+kernel,Tryz.func138.trans (congrArg some (by kernel_rfl))⟩
 f50:=⟨Tryz.f139.name,by decide+kernel,Tryz.func139.trans (congrArg some (by kernel_rfl))⟩
 f57:=⟨Tryz.f149.name,by decide+kernel,Tryz.func149.trans (congrArg some (by kernel_rfl))⟩
 t0:=Tryz.underlying0
 a0:=Tryz.isAgg0
 z0:=Tryz.sizeOf0
 v0:=Tryz.zeroValue0
 t3:=Tryz.underlying3
 a3:=Tryz.isAgg3
 z3:=Tryz.sizeOf3
 v3:=Tryz.zeroValue3
 t4:=Tryz.underlying4
 a4:=Tryz.isAgg4
 z4:=Tryz.sizeOf4
 v4:=Tryz.zeroValue4
 t5:=Tryz.underlying5
 a5:=Tryz.isAgg5
 z5:=Tryz.sizeOf5
 v5:=Tryz.zeroValue5
 t9:=Tryz.underlying9
 a9:=Tryz.isAgg9
 z9:=Tryz.sizeOf9
 v9:=Tryz.zeroValue9
 t22:=Tryz.underlying102
 a22:=Tryz.isAgg102
 z22:=Tryz.sizeOf102
 v22:=Tryz.zeroValue102
 t25:=Tryz.underlying106
 a25:=Tryz.isAgg106
 z25:=Tryz.sizeOf106
 v25:=Tryz.zeroValue106
 t39:=Tryz.underlying129
 a39:=Tryz.isAgg129
 z39:=Tryz.sizeOf129
 v39:=Tryz.zeroValue129
 t45:=Tryz.underlying183
 a45:=Tryz.isAgg183
 z45:=Tryz.sizeOf183
 v45:=Tryz.zeroValue183
 t46:=Tryz.underlying184
 a46:=Tryz.isAgg184
 z46:=Tryz.sizeOf184
 v46:=Tryz.zeroValue184
 t50:=Tryz.underlying188
 a50:=Tryz.isAgg188
 z50:=Tryz.sizeOf188
 v50:=Tryz.zeroValue188
 t53:=Tryz.underlying175
 a53:=Tryz.isAgg175
 z53:=Tryz.sizeOf175
 v53:=Tryz.zeroValue175
 t55:=Tryz.underlying178
 a55:=Tryz.isAgg178
 z55:=Tryz.sizeOf178
 v55:=Tryz.zeroValue178
 t66:=Tryz.underlying212
 a66:=Tryz.isAgg212
 z66:=Tryz.sizeOf212
 v66:=Tryz.zeroValue212
 t70:=Tryz.underlying216
 a70:=Tryz.isAgg216
 z70:=Tryz.sizeOf216
 v70:=Tryz.zeroValue216
 t76:=Tryz.underlying222
 a76:=Tryz.isAgg222
 z76:=Tryz.sizeOf222
 v76:=Tryz.zeroValue222
 t77:=Tryz.underlying196
 a77:=Tryz.isAgg196
 z77:=Tryz.sizeOf196
 v77:=Tryz.zeroValue196
end Go.Proofs
