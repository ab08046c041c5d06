/- Part. Conditions: none. -/
import Derived.Test.YtnhpkhblghgpdaaGreatDoorXab
import Derived.Shelf.SlSortCmp.NoneTotal
import Derived.ChangeArms
import Derived.ChangeStays
import Derived.ChangeSame
import Derived.RowKit
import Derived.OpenShut
import Derived.Test.YtnhpkhblghgpdaaGreatDoorProg
import Derived.KernelRfl
set_option linter.all false
set_option maxRecDepth 100000
set_option maxHeartbeats 8000000
namespace Go.DM
open Go.RowKit
section
variable{ab:bq}{r:Nat}{P:Program}
variable [bM] [dM]
abbrev tI(n:Int):T:=.int .i64 n
abbrev pw(k:Nat):Type:={l:bT//l.length=k}
instance(k:Nat):Inhabited (pw k):=⟨⟨List.replicate k 0,by simp⟩⟩
def rW{k:Nat}(x:pw k):List Value:=x.1.map (Value.int .i64)
def jn{k:Nat}(x:pw k):aL:=x.1.map tI
def XO{w w':World}(h:wL w.heap.size w w'):∃q os',w'=Go.Sort.grow (w.drewN q) os':=by
 refine⟨w'.drawn-w.drawn,w'.heap.extract w.heap.size w'.heap.size, ?_⟩;obtain⟨⟨h1,h2,h3,h4,h5⟩,h6⟩:=h;cases w with
 |mk heap tape drawn os output=>
  cases w' with
  |mk aaC avr atR os' atx=>
   simp only at h1 h2 h3 h4 h5 h6;subst h1 h2 h3;simp only[Go.Sort.grow,World.drewN,World.mk.injEq,OY,qI];refine⟨?_,by omega⟩;apply Array.ext_getElem?;intro k;rw[Array.getElem?_append];split
   ·rename_i hk;exact h5 k hk
   ·rename_i hk;rw[Array.getElem?_extract];split
    ·rw[show heap.size+(k-heap.size)=k by omega]
    ·rename_i h7;rw[Array.getElem?_eq_none (by omega)]
def wp{w:World}{W:fH}:∀l:bT,bl w W (l.map tI) (l.map (Value.int .i64))
 |[]=>by simp[bl]
 |n::l=>by
  simp only[qD,bl];exact⟨_,_,rfl,rfl,by simp[bm],wp l⟩
def zt{w:World}{W:fH}:∀{l:bT} {vs:List Value},bl w W (l.map tI) vs->vs=l.map (Value.int .i64)
 |[],vs,h=>by simpa [bl]using h
 |n::l,vs,h=>by
  simp only[qD,bl]at h;obtain⟨v,jN,rfl,_,h1,h2⟩:=h;simp only[bm]at h1;rw[h1,zt h2];rfl
def CD{α:Type}{sz:Nat}:∀{av:List (List α)} {j:Nat},(∀r∈av,r.length=sz)->av.flatten[j]? =(av[j/sz]?).bind λr=>r[j % sz]?
 |[],j,_=>by simp
 |r::av,j,h=>by
  have hr:=h r (by simp);by_cases hs:sz=0
  ·subst hs;have:∀x∈r::av,x=[]:=λx hx=>Zds.1 (h x hx);have h2:(r::av).flatten=[]:=by
    rw[List.flatten_eq_nil_iff];exact this
   rw[h2];simp[this r (by simp)]
  rw[ZJ,Zc6];split
  ·rename_i hj;rw[hr]at hj;rw[Nat.div_eq_of_lt hj,Zc0 hj];simp
  ·rename_i hj;rw[hr]at hj;rw[hr,CD λx hx=>h x (by simp[hx])];obtain⟨i,rfl⟩:∃i,j=i+sz:=⟨j-sz,by omega⟩;rw[ZcQ,Nat.add_div_right i (by omega),Nat.add_mod_right];rw[Zb]
def Ff{k:Nat}(D:List (pw k)):(Go.Sort.flatK rW k D.toArray).toList=((D.map (·.1)).flatten).map (Value.int .i64):=by
 have hl:∀r∈D.map (·.1),r.length=k:=by
  intro r hr;obtain⟨x,_,rfl⟩:=g9.1 hr;exact x.2
 have apl:(D.map (·.1)).flatten.length=D.length*k:=by
  clear hl;induction D with
  |nil=>simp
  |cons x D ih=>simp only[qD,ZJ,Ey,x.2,ih,Lr,C7];omega
 apply ZbZ;intro j;by_cases hj:j<D.length*k
 ·have Dh:0<k:=by
   cases k with
   |zero=>simp at hj
   |succ k=>omega
  have h1:j/k<D.length:=Nat.div_lt_of_lt_mul (by rwa [Nat.mul_comm]);have h2:j % k<k:=Nat.mod_lt _ Dh;have ji:j<(Go.Sort.flatK rW k D.toArray).size:=by simpa using hj
  rw[ZbG,CD hl,ZbG,w8 h1];simp only[O5,ZcI];have h3:=Go.Sort.get_flatK rW k D.toArray j (by simpa using hj);rw[Zb7,ZbP ji];rw[getElem!_pos _ j ji]at h3;rw[h3];have h4:D.toArray[j/k]! =D[j/k]:=by rw[getElem!_pos _ _ (by simpa using h1)];simp
  rw[h4];have h5:j % k<(D[j/k]).1.length:=by rw[(D[j/k]).2];exact h2
  unfold rW;rw[getElem!_pos _ _ (by simpa using h5)];simp[h5]
 ·rw[ZbB (by simpa using hj),ZbB (by rw[XP,apl];omega)]
def H7{k:Nat}(D:List (pw k)):(D.map jn).flatten=((D.map (·.1)).flatten).map tI:=by
 induction D with
 |nil=>rfl
 |cons x D ih=>simp only[qD,ZJ,ih,JI];rfl
def P1{o:Ob}(h:ab r=some o):eJ ab r o=ab:=by
 funext k;rw[P2];split
 ·rename_i e;rw[e,h]
 ·rfl
def aaD{g:FuncId}{k:Nat}{x y:pw k}{c:Int}(hg: @bw bM.none P g [.agg (jn x),.agg (jn y)] (tI c))(w:World):
  Calls P g (#[.agg (rW x).toArray,.agg (rW y).toArray]++ #[]) w λe w'=>e=.returned (.int .i64 c)/\∃q os',w'=Go.Sort.grow (w.drewN q) os':=by
 rw[ZbV];refine(@bw.agE bM.none Sf P g _ _ hg w #[.agg (rW x).toArray,.agg (rW y).toArray] (Hk.empty _ _) ?_).mono ?_
 ·show ga w (λ_=>False) [.agg (jn x),.agg (jn y)] [.agg (rW x).toArray,.agg (rW y).toArray];simp only[ga];exact⟨_,_,rfl,⟨_,rfl,wp x.1⟩,_,_,rfl,⟨_,rfl,wp y.1⟩,rfl⟩
 ·rintro e' w' ⟨v,rfl,hb,hv⟩;simp only[bm]at hv;subst hv;exact⟨rfl,XO hb⟩
def CE{k:Nat}(cf:pw k->pw k->Int)(D:List (pw k)):List (pw k):=D.mergeSort λx y=> !(Go.Proofs.ltOf cf) y x
open Go.Proofs Go.Sort in
def Mt{ρ:Go.Shelf.Ren}(Lay:SlLaysF0.n6 P ρ){k:Nat}(hk:0<k)(aE:∀w,(isAgg (ρ.t 24)).run P w=.ok true w)(zE:∀w,(Go.sizeOf (ρ.t 24)).run P w=.ok k w)
  {g:FuncId} {cf:pw k->pw k->Int} (hg:∀x y:pw k, @bw bM.none P g [.agg (jn x),.agg (jn y)] (tI (cf x y))) (hO:Go.Sort.SWO (ltOf cf)) (hT:∀x y,(ltOf cf) x y=false->(ltOf cf) y x=false->x=y)
  (D:List (pw k)) {bJ e:Nat} (gP:ab r=some (.bE bJ e k (D.map jn))) (dN:D.length<4611686018427387904):
  aQ P (ρ.f 6) [.bC r bJ,.v (.fn (.func g) [])] ab ⟨True,.v (.ew []),eJ ab r (.bE bJ e k ((CE cf D).map jn))⟩:=by
 have eg:∀args w,(callFunc g args).run P w=.ok (.enter g args) w:=by
  obtain⟨fn,h1,h2,h3⟩:= @bw.entry bM.none _ _ _ _ (hg default default);cases hb:fn.body with
  |none=>rw[hb]at h3;cases h3
  |some c=>exact enters_of h1 (by simpa using h2) hb
 refine⟨?_,λbase W M w0 w L cI hRO hr=>?_⟩
 ·obtain⟨nm,hn,hf⟩:=Lay.f6;exact⟨_,hf,by simpa using hn,rfl⟩
 obtain⟨tw,yY⟩:=hr;obtain⟨x,f,yP⟩:∃x f,cI.toList=[x,f]:=by
  match yP:cI.toList,tw with
  |[x,f],_=>exact⟨x,f,rfl⟩
 have apm:cI= #[x,f]:=Array.ext' (by simpa using yP);subst apm;have hx:=yY 0 _ x rfl rfl;have hf:=yY 1 _ f rfl rfl;simp only[aA,bm]at hf;obtain⟨cv,rfl,hcv⟩:=hf;have hcv:cv= #[]:=by
  simp only[bl]at hcv;exact Array.ext' (by simpa using hcv)
 subst hcv;simp only[aA]at hx;obtain⟨_,cw,e',jh,fc,apn,P3,DE⟩:=hx;rw[gP]at apn;cases apn;have DE:=DE rfl;subst DE;obtain⟨ji,eQ,hm,oQ⟩:=hRO.ob r _ gP;have wM:(CE cf D).length=D.length:=List.length_mergeSort ..;rcases oQ with⟨Mj,a,ha⟩|⟨g',cap,eH,hv,hp,hh,jW,tp,Jg,ig⟩
 ·rw[ha];refine(AnyF.slices_SortFunc_none Lay a 0 _ w).mono ?_;rintro e' w' ⟨rfl,rfl⟩;have hD:D=[]:=by simpa using Mj
  subst hD;have hs:CE cf []=[]:=by simp[CE]
  rw[hs,P1 gP];exact⟨_,L,rfl,hRO,ic.cZ (dv.refl _ _),by simp[aA,bm,ga]⟩
 ·rw[hv];have hgl:g'<w.heap.size:=(v8.1 hh).1;rw[H7]at ig;have nH:=zt ig;rw[<-Ff]at nH;have al4:∀j,w.cell? ⟨g',j,none⟩=eH[j]? :=by
   intro j;simp only[World.cell?,hh];rfl
  have hH:HoldsK rW k w g' 0 D.toArray:=by
   intro j hj;refine⟨?_, ?_⟩
   ·rw[Lo,al4];have h1:=congrArg (λl:List Value=>l[j]?) nH;have hj2:j<(D.map jn).length*k:=by simpa using hj
    rw[HR,cF hj2,Zb7,Zb7,ZbP hj]at h1;rw[h1,getElem!_pos _ j hj];rfl
   ·simp only[World.frozen?,hh];simp
  have apo:CmpLays P g #[] rW k cf g' 0 D.toArray.size w:=by
   intro m os dk hdk x y;obtain⟨w1,Zi⟩:=be (sortWorldK rW k w g' 0 m dk os);rw[Zi];exact aaD (hg x y) w1
  have tA:=AnyQ.slices_SortFunc_total Lay k aE zE rW (λx=>by simp[rW,x.2]) (λx v hv=>by
   simp only[rW,g9]at hv;obtain⟨n,_,rfl⟩:=hv;rfl) cf hO g #[] g' 0 cap D.toArray w eg apo hH hgl (by simpa using dN) hT
  rw[show(D.map jn).length=D.toArray.size by simp];refine tA.mono ?_;rintro e' w' ⟨rfl,n,os,rfl⟩;refine⟨_,L,rfl, ?_⟩;obtain⟨S,hS⟩:=be (CE cf D);have O6:(D.toArray.toList.mergeSort λx y=> !(ltOf cf) y x).toArray=S.toArray:=by rw[<-hS];rfl
  rw[O6];rw[hS]at wM⊢;obtain⟨F,hF⟩:=be (flatK rW k S.toArray);have hFs:F.size=D.length*k:=by rw[<-hF];simp[wM]
  have hFl:F.toList=((S.map (·.1)).flatten).map (Value.int .i64):=by rw[<-hF];exact Ff S
  have oT:(D.map jn).length*k<=eH.size:=by rw[Jg];exact Zbu k jW
  have avy:D.length*k<=eH.size:=by simpa using oT
  have aaE:∀b:Nat,b<w.heap.size->(sortWorldK rW k w g' 0 n S.toArray os).heap[b]? =if b=g' then some (.cells (Go.Sort.putCells id 0 F eH) e (0,0))else w.heap[b]? :=by
   intro b hb;have gm:b<(putRowK rW k (Go.Sort.ahead w n) g' 0 S.toArray).heap.size:=by
    simp[Go.Sort.putRowK,Go.Sort.putRow,Go.Sort.mapBlock,Go.Sort.ahead,hb]
   simp only[sortWorldK,Go.Sort.grow];rw[Zdl gm];simp only[putRowK,Go.Sort.putRow,Go.Sort.mapBlock,Go.Sort.ahead,hF,Array.getElem?_modify];by_cases e1:b=g'
   ·subst e1;rw[cF rfl,cF rfl,hh];rfl
   ·rw[aZ (λh=>e1 h.symm),aZ e1]
  have w9:w.heap.size<=(sortWorldK rW k w g' 0 n S.toArray os).heap.size:=by
   simp[sortWorldK,Go.Sort.grow,putRowK,Go.Sort.putRow,Go.Sort.mapBlock,Go.Sort.ahead]
  have iN:L.own r (.bE bJ e k (D.map jn))=some g':=by simp[Loc.own,hv,bi,Hm.1 hp]
  have pV:∀j,(Go.Sort.putCells id 0 F eH)[j]? =if j<F.size then F[j]? else eH[j]? :=by
   intro j;simp only[Go.Sort.putCells,Array.getElem?_mapIdx];by_cases hj:j<F.size
   ·rw[cF hj,ZbP (show j<eH.size by omega),ZbP hj];simp[hj]
   ·rw[aZ hj];cases eH[j]? with
    |none=>rfl
    |some v=>simp;intro h;omega
  have w6:Fr base M w0 (sortWorldK rW k w g' 0 n S.toArray os):=by
   refine hRO.fr.trans ⟨rfl,rfl,rfl,xI hRO.fr.jO hRO.fr.size,w9,λb hb Jj=>?_,by simp[sortWorldK,Go.Sort.grow,putRowK,Go.Sort.putRow,Go.Sort.mapBlock,Go.Sort.ahead]⟩;have hbw:b<w.heap.size:=ZbJ hb (xI hRO.fr.jO hRO.fr.size);rw[aaE b hbw,aZ];rintro rfl;rcases hm b (by simp[hv,bi,Hm.1 hp])with h|h
   ·omega
   ·exact Jj h
  have XM:=cC.put (r:=r) (o':=.bE bJ e k (S.map jn)) (L':=L) hRO w6 w9 (λ_ _=>⟨rfl,rfl⟩) rfl
   (λb hb b7=>by rw[aaE b hb,aZ];rintro rfl;exact b7 _ gP iN)
   (λb hb=>.inl ⟨_,gP,hb⟩) (λo' iW uW=>by rw[gP]at iW;cases iW;exact eB rfl uW)
   (λcw e' jh fc h=>by rw[gP]at h;cases h;exact⟨bJ,e,k,_,rfl,ed _,λ_=>⟨rfl,rfl,by simp[wM]⟩⟩)
   (λfu=>by
    refine⟨ji,λx hx=>?_,hm,.inr ⟨g',cap,Go.Sort.putCells id 0 F eH,by rw[hv];simp[wM],hp,by rw[aaE g' hgl,cF rfl],by simpa [wM]using jW,tp,by simpa [Go.Sort.putCells]using Jg, ?_⟩⟩
    ·obtain⟨y,_,rfl⟩:=g9.1 hx;simp[jn,y.2]
    ·rw[H7];have e1:(Go.Sort.putCells id 0 F eH).toList.take ((S.map jn).length*k)=((S.map (·.1)).flatten).map (Value.int .i64):=by
      rw[<-hFl];apply ZbZ;intro j;rw[HR,XP,wM,Zb7,Zb7,pV,hFs];by_cases hj:j<D.length*k
      ·simp[hj]
      ·rw[aZ hj,Array.getElem?_eq_none (by omega)]
     rw[e1];exact wp _)
  rw[show cN ab (some (r,.bE bJ e k (S.map jn)))=eJ ab r (.bE bJ e k (S.map jn))from rfl]at XM;exact⟨XM.1,XM.2,by simp[aA,bm,ga]⟩
end
end Go.DM
namespace Go.DM
open Go.RowKit
variable [bM] [dM]
section
variable{P:Program}{nt:Nat}{Γ:pk}{Q:Exit->ma->Prop}{tm:dj}{ob:bq}{aK low:Nat}{td:List (aL)}
def MG(P:Program)(Γ:pk)(aK:Nat)(r:RO)(s:RS)(K:RS->Prop):Prop:=
 (s.ab (nm aK r)=none/\cT Γ aK r s/\K (d7 Γ aK r s))\/
 (∃f args dst af N N' oW,r=⟨.call f args,dst,none,af,none⟩/\tP P f (args.map (·.ev s.tmps)) s.ab N N' oW/\∀val mG,oW val mG->K ⟨c5 s.tmps dst val,mG,s.todo⟩)
def MG.of{r:RO}{s:RS}{K:RS->Prop}(h:s.ab (nm aK r)=none)(e:fj Γ aK [r] s K):MG P Γ aK r s K:=
 .inl ⟨h,by obtain⟨h1,h2⟩:=jm _ _ _ e;exact⟨h1.1,h2⟩⟩
def wO(D:Nat->Bool)(i:Nat):Nat->Bool:=λj=>if j=i then true else D j
def aa.apF(aC:ay P Γ)(hm:P.follows .mixedOrders=true){iO:Bool}{rs:ai}{d:DC}(hd:d=.region iO (rs.map bare))(JC:rs.all (mi nt)=true)(ks:cQ)(N':Nat)(I:(Nat->Bool)->RS->Prop)
  (h0:(∀t,aK<=t->ob t=none)->I (λ_=>false) ⟨tm,ob,td⟩)
  (hs:∀D i r s,rs[i]? =some r->D i=false->(∀e∈r.after,D e=true)->(∀j y,rs[j]? =some y->D j=true->∀e∈y.after,D e=true)->I D s->MG P Γ aK r s (I (wO D i)))
  (he:∀D s,(∀i,i<rs.length->D i=true)->I D s->(∀t,N'<=t->s.ab t=none)/\Q .normal ⟨look (lU ks s.tmps),s.ab,N',low,s.todo⟩)
  (apG:iO=true):aa P nt d Q ⟨tm,ob,aK,low,td⟩:=by
 subst hd apG;refine⟨λc hc=>?_⟩;obtain⟨id,ops,rfl,oT,aN⟩:=nI hc;have al9:gb P ops=some (rs.map bare):=oT;obtain⟨dN,mF⟩:=j9 al9;simp only[eE,mD,ZcJ,Bool.false_or]at aN;obtain⟨⟨eF,Xv⟩,Lv⟩:=aN;obtain⟨ef,_⟩:=EZ Lv
 let g:Nat->RO:=λi=>(rs[i]?).getD ⟨.sh (.ia .undef),none,none,[],none⟩
 have gg:∀i,i<ops.size->rs[i]? =some (g i):=λi hi=>by
  have:i<rs.length:=by omega
  simp[g,this]
 have hgc:∀(i:Nat) (o:Oper),ops[i]? =some o->eC P ops o=some (bare (g i)):=λi o ho=>by
  obtain⟨r,h1,h2⟩:=mF i o ho;have hi:i<ops.size:=(v8.1 ho).1;rw[gg i hi]at h1;rw[Zb9 h1];exact h2
 have kr:∀i,i<ops.size->mi nt (g i)=true:=λi hi=>by
  exact Hy.1 JC _ (xL (gg i hi))
 have Bc:∀(i:Nat) (listed:Array Bool),i∈Region.ready .any ops listed↔listed.getD i true=false/\i<ops.size/\∀e∈(g i).after,listed.getD e false=true:=by
  intro i listed;rw[mem_ready];constructor
  ·rintro⟨h0,o,ho,h⟩;refine⟨h0,(v8.1 ho).1,λe he=>?_⟩;have h4:(g i).after=_:=(gh (hgc i o ho)).2.2.2;rw[h4]at he;simp only[g9,Su]at he;obtain⟨x,⟨hx,hb⟩,rfl⟩:=he;exact h x (by simpa using hx) hb
  ·rintro⟨h0,hi,h⟩;have ho:ops[i]? =some ops[i]:=by simp[hi]
   refine⟨h0,ops[i],ho,λe he hb=>h e.on ?_⟩;have h4:(g i).after=_:=(gh (hgc i _ ho)).2.2.2;rw[h4];exact g9.2 ⟨e,Su.2 ⟨by simpa using he,hb⟩,rfl⟩
 have aeU:∀i,i<ops.size->∀e∈(g i).after,e<i:=λi hi e he=>ef i (bare (g i)) (by rw[ZbG,gg i hi];rfl) e he;intro n κ XC w L xi r;have xY:∀t,aK<=t->ob t=none:=λt ht=>r.fresh t ht;have aeV:∀{l:Array Bool} {i j:Nat} {b:Bool},l.size=ops.size->i<ops.size->(l.setIfInBounds i true).getD j b=if j=i then true else l.getD j b:=λ{l i j b} hs hi=>by
  rw[O1,Zcd,O1];by_cases e:j=i
  ·subst e;simp[hs,hi]
  ·have:¬i=j:=λh=>e h.symm;simp[e,this]
 have HY:∀i (hi:i<ops.size),ops[i]? =some ops[i]:=λi hi=>by simp[hi]
 have main:∀(Bb:Nat) (l:Array Bool),l.size=ops.size->(rem ops.size l).length=Bb->(∀j,j<ops.size->l.getD j false=true->∀e∈(g j).after,l.getD e false=true)->∀(s:RS) (a:Act) (w:World) (L:Loc),I (λj=>l.getD j false) s->eW κ nt s a w L->
   wpAnyIn (iZ κ.ro) n P .any ops (λe a w=>∃dx L',Q e dx/\H3 κ nt dx a w L') Bb l a w:=by
  intro Bb;have cj:∀(l:Array Bool),l.size=ops.size->Region.ready .any ops l=[]->∀(s:RS) (a:Act) (w:World) (L:Loc),I (λj=>l.getD j false) s->eW κ nt s a w L->∃dx L',Q .normal dx/\H3 κ nt dx a w L':=by
   intro l hl hr s a w L hI hR;have eF:∀i,i<ops.size->l.getD i false=true:=by
    intro i;induction i using Nat.strongRecOn with
    |_ i ih=>
     intro hi;cases hv:l.getD i false with
     |true=>rfl
     |false=>
      have:i∈Region.ready .any ops l:=(Bc i l).2 ⟨by rw[<-aaP (by omega) false true];exact hv,hi,λe he=>ih e (aeU i hi e he) (by have:=aeU i hi e he;omega)⟩;rw[hr]at this;cases this
   obtain⟨w6,hQ⟩:=he _ s (λi hi=>eF i (by omega)) hI;obtain⟨L4,R4⟩:=Le.vy (st:=⟨s.tmps,s.ab,N',low,s.todo⟩) (lG s.tmps ks) κ nt a w L ⟨hR,w6,r.low,r.it⟩;exact⟨_,L4,hQ,R4⟩
  induction Bb with
  |zero=>
   intro l hl amd aV s a w L hI hR;have aaT:Region.ready .any ops l=[]:=by
    cases hr:Region.ready .any ops l with
    |nil=>rfl
    |cons i t=>
     have hi:i∈Region.ready .any ops l:=by rw[hr];simp
     obtain⟨h1,h2,_⟩:=(Bc i l).1 hi;have:i∈rem ops.size l:=by unfold rem;rw[Su];exact⟨I4.2 h2,by rw[h1];rfl⟩
     rw[Zds.1 amd]at this;cases this
   exact⟨aaT,cj l hl aaT s a w L hI hR⟩
  |succ Bb ih=>
   intro l hl amd aV s a w L hI hR;refine⟨λhr=>cj l hl hr s a w L hI hR,λi hi=>?_⟩;obtain⟨h1,h2,h3⟩:=(Bc i l).1 hi;have Ls:l.getD i false=false:=by rw[aaP (by omega) false true];exact h1
   have hl':(l.setIfInBounds i true).size=ops.size:=by simpa using hl
   have agN:(rem ops.size (l.setIfInBounds i true)).length=Bb:=by
    have key:∀m,m<=ops.size->((List.range m).filter λj=> !(l.setIfInBounds i true).getD j true).length+(if i<m then 1 else 0)=((List.range m).filter λj=> !l.getD j true).length:=by
     intro m;induction m with
     |zero=>intro _;simp
     |succ m ihm=>
      intro hm;have:=ihm (by omega);rw[Ho,Y9,Y9,Ey,Ey];by_cases e:i=m
      ·subst e;have c1:(l.setIfInBounds i true).getD i true=true:=by rw[aeV hl h2];simp
       rw[aZ (Nat.lt_irrefl i)]at this;rw[cF (Zcr i)];simp only[OU,List.filter_nil,c1,h1,ZcJ,Bool.not_false,OX,w7,jP,Zcz,Lr];omega
      ·have c1:(l.setIfInBounds i true).getD m true=l.getD m true:=by rw[aeV hl h2,aZ (λh=>e h.symm)]
       simp only[OU,List.filter_nil,c1];obtain⟨X,hX⟩:=be ((if(!l.getD m true)=true then [m]else []).length);rw[hX];by_cases h:i<m
       ·rw[cF h]at this;rw[cF (by omega)];omega
       ·rw[aZ h]at this;rw[aZ (by omega)];omega
    have:=key ops.size (ed _);rw[cF h2]at this;unfold rem at amd⊢;omega
   have hD:(λj=>(l.setIfInBounds i true).getD j false)=wO (λj=>l.getD j false) i:=by
    funext j;rw[aeV hl h2];rfl
   have apH:∀j,j<ops.size->(l.setIfInBounds i true).getD j false=true->∀e∈(g j).after,(l.setIfInBounds i true).getD e false=true:=by
    intro j hj hv e he;rw[aeV hl h2]at hv⊢;by_cases e1:j=i
    ·subst e1;split
     ·rfl
     ·exact h3 e he
    ·rw[aZ e1]at hv;split
     ·rfl
     ·exact aV j hj hv e he
   rcases hs (λj=>l.getD j false) i (g i) s (gg i h2) Ls h3 (λj y hj hv e he=>by
     have hjs:j<ops.size:=by have:=(Db.1 hj).1;omega
     have:y=g j:=by rw[gg j hjs]at hj;exact(Zb9 hj).symm
     rw[this]at he;exact aV j hjs hv e he) hI with⟨hf,aN,hK⟩|⟨f,args,dst,af,N,N2,oW,hr,aua,hK⟩
   ·refine ow aC xi (HY i h2) (hgc i _ (HY i h2)) (kr i h2) hR hf aN λa' w' L' SQ=>?_;exact ih _ hl' agN apH _ a' w' L' (by rw[hD];exact hK) SQ
   ·refine Fs xi (HY i h2) (by rw[hgc i _ (HY i h2),hr];rfl) (by rw[<-hr];exact kr i h2) hR aua λa' w' L' val mG hP SQ=>?_;exact ih _ hl' agN apH _ a' w' L' (by rw[hD];exact hK val mG hP) SQ
 have hh:eW κ nt ⟨tm,ob,td⟩ XC {w with drawn:=w.drawn+1} L:=by
  have hb:wL w.heap.size w {w with drawn:=w.drawn+1}:=⟨⟨rfl,rfl,rfl,ed _,λ_ _=>rfl⟩,Zdx _⟩;obtain⟨W,base,M,w0,dK,h0⟩:=r.r.ex;obtain⟨hO,hA⟩:=cC.grow h0.o hb;obtain⟨Ds,h1,h2,h3,h4⟩:=r.r.defers;exact⟨⟨W,base,M,w0,dK,h0.size,λt=>aA.fu hA _ _ (h0.tmps t),hO⟩,r.r.fu.comp hA (dK.Jy _) dK.sub.2,⟨Ds,h1,h2,λD hD=>⟨hA.dG.Za D (h3 D hD).1,(h3 D hD).2⟩,h4⟩,r.r.bg,r.r.cj⟩
 have xZ:∀i b,i<ops.size->(Array.replicate ops.size false).getD i b=false:=λi b hi=>by rw[O1];simp[hi]
 have hD0:(λj=>(Array.replicate ops.size false).getD j false)=λ_=>false:=by
  funext j;rw[O1];by_cases h:j<ops.size
  ·simp[h]
  ·simp[h]
 refine wpIn_region_any hm (main ops.size _ (by simp) ?_ (λj hj hv=>?_) _ _ _ _ (by rw[hD0];exact h0 xY) hh)
 ·have:rem ops.size (Array.replicate ops.size false)=List.range ops.size:=by
   unfold rem;rw[List.filter_eq_self];intro i hi;rw[xZ i true (I4.1 hi)];rfl
  rw[this,Zcj]
 ·rw[xZ j false hj]at hv;cases hv
end
end Go.DM
namespace Go.DM
open Go.RowKit
variable [bM]
section
def P7(k:bF->bq->fV):Prop:=∀args ab,(k args ab).ok->∀x,ab x=none->(k args ab).ab x=none
abbrev yk(l:Nat)(k:bF->bq->fV)(h:P7 k):dM:=⟨some (l,k),λl' k' e=>by cases e;exact h⟩
structure P8(P:Program)(f:FuncId)(args:bF)(ab:bq)(k:bF->bq->fV)(aJ:bq):Prop where
 entry:EK P f
 run:∀(l:Nat) (r s:Loop) (base:Nat) (W M:fH) (w0 w:World) (L:Loc) (cI:Array Value),Jx P l r s k base W M w0 ab L w->base<=l->w.heap[l]? =some (.loop r)->cC base W M w0 ab w L->j7 w W ab L args cI.toList->
  Calls P f (#[.func (.yield l) #[] #[]]++cI) w λe B=>(∃v,e=.returned v)/\∃L' r',(r'=r\/r'=s)/\cC base W M w0 aJ B L'/\ic W ab L (w.putObj l (.loop r')) aJ L' B
def aaQ(l:Nat)(args:bF)(ab:bq)(N:Nat):ma:=⟨λj=>match j with|0=>.v (.pO (.func (.yield l) #[] #[]))|j+1=>Dg args[j]?,ab,N,N,[[]]⟩
section
variable{P:Program}{nt:Nat}
def aB.okY{f:FuncId}{d:DC}(h:aB P f nt d []){args:bF}{ab aJ:bq}{k:bF->bq->fV}(hnm:P7 k){N:Nat}(hN:∀r,N<=r->ab r=none)(dN:args.length+1<=nt)
  (kk:∀l, @aa _ (yk l k hnm) P nt d (λe st=>(e=.normal\/e=.ret)/\st.ab=aJ) (aaQ l args ab N)):P8 P f args ab k aJ:=by
 have Be:=h.entry;obtain⟨fn,tz,rfl,h3,hr,_⟩:=h;obtain⟨c,hb,hc⟩:=iV.1 h3;refine⟨Be,λl rl sl base W M w0 w L cI hy PZ hlp hO Dd=>?_⟩
 letI:=yk l k hnm
 have kk:=kk l;have hl:=Dd.1;simp only[Si]at hl;have vx:H3 ⟨W,ab,L,w,base,M,w0,none,none,some (l,rl,sl)⟩ fn.ntmps (aaQ l args ab N) {tmps:=(#[.func (.yield l) #[] #[]]++cI)++Array.replicate (fn.ntmps-(#[Value.func (.yield l) #[] #[]]++cI).size) Go.undef,defers:=[]} w L:=by
  refine⟨⟨⟨W,base,M,w0,⟨(λh=>by cases h),rfl,rfl,rfl,rfl⟩,by simp;omega,λj=>?_,hO⟩,
   (by
    show ic W ab L (w.putObj l (.loop rl)) ab L w;rw[World.vo hlp];exact ic.cZ (dv.refl _ _)),⟨[],rfl,Zce,(λ_ h=>by cases h),λ_=>rfl⟩,λ_=>xI hO.fr.jO hO.fr.size,⟨N,hN⟩⟩,hN,hN,λh=>by cases h⟩
  simp only[aaQ];cases j with
  |zero=>simp only[aA,bm];exact p8 (by simp)
  |succ j=>
   simp only;cases hk:args[j]? with
   |some x=>
    have hv:∃v,cI.toList[j]? =some v:=by
     have:j<cI.size:=by rw[hl];exact(Db.1 hk).1
     exact⟨cI[j],by simp[this]⟩
    obtain⟨v,hv⟩:=hv;have ux:(#[Value.func (.yield l) #[] #[]]++cI).toList[j+1]? =some v:=by simpa using hv
    simp only[p8 ux,Dg];exact Dd.2 j x v hk hv
   |none=>
    have yO:(#[Value.func (.yield l) #[] #[]]++cI).size<=j+1:=by
     have:=ZbQ.1 hk;simp;omega
    simp only[Dg,aA,pF yO]
 refine callsIn_wide.1 (callsIn_of_wp_marks (n:=0) tz hb trivial ?_);refine wpIn_mono (kk.run c hc 0 _ _ _ _ ⟨λJ hJ=>(by cases hJ),λl' r' s' hY=>(by cases hY;exact⟨PZ,hlp,k,rfl,hy⟩),λl hl=>(by cases hl)⟩ vx) ?_;rintro e a' w' ⟨dx,L',⟨he,hq⟩,r'⟩;have done:LeavesInM Fence.wide 0 P fn a'.tmps (λe B=>(∃v,e=.returned v)/\∃L' r',(r'=rl\/r'=sl)/\cC base W M w0 aJ B L'/\ic W ab L (w.putObj l (.loop r')) aJ L' B) a'.defers .returning w':=by
  obtain⟨Ds,h1,h2,h3,_⟩:=r'.r.defers;rw[h1];refine leaves (κ:=⟨W,ab,L,w,base,M,w0,none,none,some (l,rl,sl)⟩) rfl ?_ Ds a' w' L' r'.r h1 h2 h3;intro a2 w2 L2 h4;obtain⟨W',Mn,M',w0',dK,h0⟩:=h4.ex;obtain⟨_,e1,e2,e3,e4⟩:=dK
  replace h0:R0 base W M w0 fn.ntmps dx.tmps dx.ab a2 w2 L2:=by rw[e1,e2,e3,e4]at h0;exact h0
  obtain⟨v,k1,_⟩:=vw (st:=dx) h0 (gu:=true) (W':=λ_=>False) (λ_ _ _ _ _ _ h=>h) (λ_ h=>h.elim) hr ⟨(trivial:kQ true dx []),rfl⟩;have O4:=h0.o;have uH:ic W ab L (w.putObj l (.loop (match dx.todo with|[]=>sl|_=>rl))) dx.ab L2 w2:=h4.fu;rw[hq]at O4 uH;refine⟨v,k1,⟨v,rfl⟩,L2,_, ?_,O4,uH⟩;cases dx.todo with
  |nil=>exact .inr rfl
  |cons _ _=>exact .inl rfl
 rcases he with rfl|rfl
 ·exact done
 ·exact done
def Ft(f:dj):cQ->bF->Nat->DV
 |p::ps,x::xs=>Ft (c5 f (some p) x) ps xs
 |_,_=>f
def Ie{A:World}{W:fH}{ab:bq}{L:Loc}:∀(ps:cQ) (x:bF) (cI:List Value) (f:dj) (tm:Array Value),(∀p∈ps,p<nt)->tm.size=nt->x.length=ps.length->j7 A W ab L x cI->
  (∀t,aA A W ab L (f t) (tm.getD t Go.undef))->
  ((ps.zip cI).foldl (λt (pv:Nat×Value)=>t.setIfInBounds pv.1 pv.2) tm).size=nt/\∀t,aA A W ab L (Ft f ps x t) (((ps.zip cI).foldl (λt (pv:Nat×Value)=>t.setIfInBounds pv.1 pv.2) tm).getD t Go.undef)
 |[],x,cI,f,tm,_,hs,hl,hr,hf=>by
  have:x=[]:=LS (by simpa using hl);subst this;exact⟨by simpa using hs,by simpa [Ft]using hf⟩
 |p::ps,[],cI,f,tm,_,_,hl,_,_=>by simp at hl
 |p::ps,y::x,[],f,tm,_,_,_,hr,_=>by have:=hr.1;simp at this
 |p::ps,y::x,v::jN,f,tm,hp,hs,hl,hr,hf=>by
  simp only[List.zip_cons_cons,Ca,Ft];refine Ie ps x jN _ _ (λq hq=>hp q (Zm _ hq)) (by simpa using hs) (by simpa using hl) ⟨by simpa using hr.1,λi d v' h1 h2=>hr.2 (i+1) d v' (by simpa using h1) (by simpa using h2)⟩ λt=>?_;rw[EM _ _ _ _ (by rw[hs];exact hp p (Zl ..))];simp only[c5];by_cases ht:t=p
  ·simp only[ht,jP];exact hr.2 0 y v rfl rfl
  ·simp only[ht,w7];exact hf t
def aa.aeT [dM]{Q:Exit->ma->Prop}{st:ma}{g:bW}{ps:cQ}{aS bS:DC}{f:FuncId}{ch:bF}{k:bF->bq->fV}{cj:bq}(id:Nat)(hit:P8 P f ch st.ab k cj)(A5:0<st.low)
  (hg:g.ev st.tmps=.oP (.func f) ch) (mh:∀r,st.aK<=r->cj r=none)
  (round:∀args ab N,0<N->(k args ab).ok->yIs (k args ab).val->(∀r,N<=r->ab r=none)->args.length=ps.length/\
   aa P nt aS (λe s1=>e=.normal/\aa P nt bS (λe s2=>((yGo (k args ab).val=true/\e=.normal)\/(yGo (k args ab).val=false/\e=.exit id))/\∃N',Le s2 ⟨λ_=>.undef,(k args ab).ab,N',N,[]⟩) s1) ⟨Ft st.tmps ps args,ab,N,N,[]⟩)
  (done:Q .normal ⟨st.tmps,cj,st.aK,st.low,st.todo⟩) (stop:Q (.exit id) ⟨st.tmps,cj,st.aK,st.low,st.todo⟩):aa P nt (.JJ g ps aS bS) Q st:=by
 refine⟨λc hc=>?_⟩;obtain⟨g',qs,y,z,rfl,hg',rfl,ef,hy,hz⟩:=PM hc;intro n κ a w L gd r;have hJ:κ.J=none:=by
  cases hj:κ.J with
  |none=>rfl
  |some J=>have:=r.it (by rw[hj];rfl);omega
 obtain⟨W,base,M,w0,dK,h0⟩:=r.r.ex;have EO:=dK;unfold pX.At at EO;simp only[hJ]at EO;obtain⟨htd,rfl,rfl,rfl,rfl⟩:=EO;have hgv:=bW.bX h0.o.gl h0.tmps hg';rw[hg]at hgv;simp only[aA]at hgv;obtain⟨vs,hgv,H1⟩:=hgv;have jW:κ.base<=w.heap.size:=xI h0.o.fr.jO h0.o.fr.size;refine wpIn_rangeFunc ?_;intro fn tz;obtain⟨l,Ds0,W1,rec,Be,xT,hlw,Zp,r1,r2,r3,r4,r5,r6,r7,zi,hDs⟩:=XQ (P:=P) (ro:=κ.ro) (w:=w) (fn:=fn) (tm:=a.tmps) (ps:=qs) (y:=y) (z:=z) (λl hl=>by
  obtain⟨rc,hrc⟩:=gd.rd l hl;obtain⟨rc',atZ⟩:=pX.Z2 st.todo hrc;exact⟨rc',r.r.fu.dG.ZG l rc' atZ⟩)
 obtain⟨fnE,at0,b7,Cw⟩:=hit.entry;have hDl:∀D∈Ds0,D≠l:=λD hD e=>by
  have:=(hDs D hD).1;rw[e,Zp]at this;cases this
 obtain⟨xn,hA1⟩:=cC.grow h0.o xT;have hlb:κ.base<=l:=xI jW hlw;obtain⟨SP,aaR⟩:=be (({rec with state:=.done,pending:=some (.exit id)}:Loop):Loop);have at2:({rec with state:=.ready,pending:=none}:Loop)=rec:=by cases rec;simp_all
 have ZK:∀x:Loop,¬Obj.plain (.loop x):=λx e=>e;have amb:Jx P l rec SP k κ.base κ.W κ.M κ.w0 st.ab L W1:=by
  refine⟨λA L' ab args cI aN hyi hfi h5 hAd hO hDA=>?_⟩;obtain⟨N,hN⟩:=hfi;have hN1:∀x,N+1<=x->ab x=none:=λx hx=>hN x (by omega);obtain⟨dN,hr⟩:=round args ab (N+1) (by omega) aN hyi hN1;have yP:cI.size=rec.params.size:=by
   have:=hDA.1;rw[r5];simpa [dN]using this
  have Md:=run_yield (P:=P) (args:=cI) h5 yP;rw[r3,r4,r5,r6,r7]at Md;refine⟨_,_,_,_,Md, ?_⟩;have apw:κ.base<=A.heap.size:=xI hO.fr.jO hO.fr.size;have hlA:=(v8.1 h5).1;have iX:∀t,aA A κ.W ab L' (st.tmps t) (a.tmps.getD t Go.undef):=λt=>aA.fu (hA1.comp hAd (λ_ h=>.inl h) (λ_ h=>h)) _ _ (h0.tmps t);have Xm:=Ie (nt:=nt) qs.toList args cI.toList st.tmps a.tmps ef h0.size dN hDA iX;rw[<-P4]at Xm
  let κ1:pX:=⟨κ.W,ab,L',A,κ.base,κ.M,κ.w0,none,some l,none⟩
  have apx:κ1.Good P:=⟨λJ hJ=>(by cases hJ),λl r s hY=>(by cases hY),λl' hl'=>by cases hl';exact⟨rec,h5⟩⟩;have at3:H3 κ1 nt ⟨Ft st.tmps qs.toList args,ab,N+1,N+1,[]⟩ {tmps:=(qs.zip cI).foldl (λt (p,v)=>t.setIfInBounds p v) a.tmps,defers:=[]} A L':=
   ⟨⟨⟨κ.W,κ.base,κ.M,κ.w0,⟨λ_=>rfl,rfl,rfl,rfl,rfl⟩,Xm.1,Xm.2,hO⟩,ic.cZ (dv.refl _ _),⟨[],rfl,Zce,(λ_ h=>by cases h),λ_=>rfl⟩,λ_=>apw,⟨N+1,hN1⟩⟩,hN1,hN1,λh=>by cases h⟩
  refine roundIn_of_wpIn trivial ?_;refine wpIn_mono (hr.run y hy 0 κ1 _ A L' apx at3) ?_;rintro e a' w' ⟨s1,L1,⟨rfl,apy⟩,X0⟩;have apz:ic κ.W ab L' A s1.ab L1 w':=X0.r.fu;have Cm:w'.heap[l]? =some (.loop rec):=apz.dG.ZG l rec h5;have avB:=(v8.1 Cm).1;refine⟨_,run_beginRound Cm r1, ?_⟩
  let busy:Loop:={rec with state:=.busy}
  let κ2:pX:=⟨κ.W,ab,L',A.putObj l (.loop busy),κ.base,κ.M,κ.w0,none,some l,none⟩
  have hsA:(A.putObj l (.loop busy)).heap.size=A.heap.size:=by simp[World.putObj]
  have OV:(w'.putObj l (.loop busy)).heap.size=w'.heap.size:=by simp[World.putObj]
  have gA:(A.putObj l (.loop busy)).heap[l]? =some (.loop busy):=World.putObj_heap_same hlA;have apA:κ2.Good P:=⟨λJ hJ=>(by cases hJ),λl r s hY=>(by cases hY),λl' hl'=>by cases hl';exact⟨busy,gA⟩⟩;have at4:ic κ.W ab L' (A.putObj l (.loop busy)) s1.ab L1 (w'.putObj l (.loop busy)):=ic.Dx (r:=rec) hlA (by rw[World.vo h5];exact apz);have at5:H3 κ2 nt s1 a' (w'.putObj l (.loop busy)) L1:=by
   obtain⟨W2,ao3,M2,w02,aap,h02⟩:=X0.r.ex;obtain⟨e0,e1,e2,e3,e4⟩:=aap
   replace h02:R0 κ.base κ.W κ.M κ.w0 nt s1.tmps s1.ab a' w' L1:=by rw[e1,e2,e3,e4]at h02;exact h02
   have Dc:KeepsC (WW κ.W s1.ab L1) w' (w'.putObj l (.loop busy)):=⟨by rw[OV];exact ed _,λb c e fr hb _=>pu Cm (ZK _) b _ trivial hb⟩;obtain⟨Ds,d1,d2,d3,d4⟩:=X0.r.defers;refine⟨⟨⟨κ.W,κ.base,κ.M,κ.w0,⟨e0,rfl,rfl,rfl,rfl⟩,h02.size,λt=>(pZ Dc (SizeOf.sizeOf (s1.tmps t)+1)).1 (s1.tmps t) _ (Zcr _) (h02.tmps t),vq h02.o Cm (ZK _) hlb⟩,at4,⟨Ds,d1,d2,λD hD=>?_,d4⟩,λ_=>by rw[hsA];exact apw,X0.r.cj⟩,X0.fresh,X0.low,λh=>by cases h⟩;have:=d3 D hD;refine⟨?_,by rw[hsA];exact this.2⟩;rw[World.putObj_heap_other (by rintro rfl;rw[Cm]at this;cases this.1)];exact this.1
  refine wpIn_mono (apy.run z hz 0 κ2 a' _ L1 apA at5) ?_;rintro e a3 w3 ⟨s3,L3,⟨apB,N',hLe⟩,at6⟩;obtain⟨L4,apC⟩:=hLe κ2 nt a3 w3 L3 at6;have apD:ic κ.W ab L' (A.putObj l (.loop busy)) (k args ab).ab L4 w3:=apC.r.fu;have hl3:w3.heap[l]? =some (.loop busy):=apD.dG.ZG l busy gA;obtain⟨W5,avs,M5,w05,at7,h05⟩:=apC.r.ex;obtain⟨_,e1,e2,e3,e4⟩:=at7
  replace h05:cC κ.base κ.W κ.M κ.w0 (k args ab).ab w3 L4:=by have:=h05.o;rw[e1,e2,e3,e4]at this;exact this
  have apE:∀rf:Loop,cC κ.base κ.W κ.M κ.w0 (k args ab).ab (w3.putObj l (.loop rf)) L4/\ic κ.W ab L' (A.putObj l (.loop rf)) (k args ab).ab L4 (w3.putObj l (.loop rf)):=
   λrf=>⟨vq h05 hl3 (ZK _) hlb,ic.Dx hlA apD⟩
  rcases apB with⟨Z4,rfl⟩|⟨Z4,rfl⟩
  ·have Bp:=run_endRound (P:=P) none hl3;simp only[Option.isNone_none,jP]at Bp;have hbr:({busy with state:=.ready,pending:=none}:Loop)=rec:=by rw[<-at2]
   rw[hbr]at Bp;refine⟨_,_,Bp,by rw[Z4],L4, ?_⟩;rw[Z4];exact apE rec
  ·have Bp:=run_endRound (P:=P) (some (.exit id)) hl3;simp only[Option.isNone_some,OX,w7]at Bp;have hbr:({busy with state:=.done,pending:=some (.exit id)}:Loop)=SP:=by rw[<-aaR]
   rw[hbr]at Bp;refine⟨_,_,Bp,by rw[Z4],L4, ?_⟩;rw[Z4];exact apE SP
 refine⟨l,Ds0.map mark,W1,{target:=.fn (.func f) vs,args:= #[.func (.yield l) #[] #[]]},W1,f, #[.func (.yield l) #[] #[]]++vs,W1,Be, ?_,λ_ _=>trivial, ?_,(λh=>by cases h), ?_⟩
 ·simp only[resolve,hgv,Deferred.ofValue];simp[Act.eval]
 ·simp[invoke,callFunc,at0,b7];intro ng;simp[ng]at Cw
 ·have amc:j7 W1 κ.W st.ab L ch vs.toList:=by
   have h:=Cv H1;exact⟨h.1,λi d v h1 h2=>aA.fu hA1 _ _ (h.2 i d v h1 h2)⟩
  refine fe ((hit.run l rec SP κ.base κ.W κ.M κ.w0 W1 L vs amb hlb Zp xn amc).mono ?_);rintro e B ⟨⟨v,rfl⟩,L',r',gS,hO',hA'⟩;have hlW:=(v8.1 Zp).1;have hlB:B.heap[l]? =some (.loop r'):=hA'.dG.ZG _ _ (World.putObj_heap_same hlW);have hnb:r'.state≠ .busy:=by
   rcases gS with rfl|rfl
   ·rw[r1];simp
   ·rw[<-aaR];simp
  have ME:=run_endLoop (P:=P) hlB hnb;obtain⟨off,Dj⟩:=be (({r' with state:=.exhausted}:Loop):Loop);rw[Dj]at ME;have Dc:KeepsC (WW κ.W cj L') B (B.putObj l (.loop off)):=⟨by simp[World.putObj],λb c e fr hb _=>pu hlB (ZK _) b _ trivial hb⟩;have agM:∀x:Loop,ic κ.W st.ab L w st.ab L (W1.putObj l (.loop x)):=λx=>by
   have hbx:wL w.heap.size w (W1.putObj l (.loop x)):=by
    refine⟨⟨xT.os,xT.tape,xT.output, ?_,λb hb=>?_⟩,xT.drawn⟩
    ·have:=xT.size;simpa [World.putObj]using this
    ·rw[World.putObj_heap_other (by omega)];exact xT.block b hb
   exact(cC.grow h0.o hbx).2
  have uH:ic κ.W st.ab L w cj L' (B.putObj l (.loop off)):=(agM off).comp (ic.Dx hlW hA') (λ_ h=>.inl h) (λ_ h=>h);have hA3:ic κ.W st.ab L w cj L' B:=(agM r').comp hA' (λ_ h=>.inl h) (λ_ h=>h);obtain⟨Ds,d1,d2,d3,d4⟩:=r.r.defers;have hgw:κ.gw.heap.size<=w.heap.size:=by have:=r.r.fu.dG.size;rw[pX.zh]at this;exact this
  have hR:H3 κ nt ⟨st.tmps,cj,st.aK,st.low,st.todo⟩ {a with defers:=Ds0.map mark++a.defers} (B.putObj l (.loop off)) L':=by
   refine⟨⟨⟨κ.W,κ.base,κ.M,κ.w0,dK,h0.size,λt=>aA.fu uH _ _ (h0.tmps t),vq hO' hlB (ZK _) hlb⟩,r.r.fu.comp uH (dK.Jy _) dK.sub.2,⟨Ds0++Ds,by rw[JI,<-d1], ?_,λD hD=>?_,λh=>by rw[hJ]at h;cases h⟩,r.r.bg,⟨st.aK,mh⟩⟩,mh,r.low,r.it⟩
   ·rw[Zcl];refine⟨zi,d2,λD hD D' hD' e=>?_⟩;subst e;have k1:=(hDs D hD).2;have k2:=(v8.1 (d3 D hD').1).1;omega
   ·rcases oi.1 hD with hD|hD
    ·refine⟨?_,xI hgw (hDs D hD).2⟩;rw[World.putObj_heap_other (hDl D hD)];exact hA'.dG.Za D (by rw[World.putObj_heap_other (hDl D hD)];exact(hDs D hD).1)
    ·exact⟨uH.dG.Za D (d3 D hD).1,(d3 D hD).2⟩
  rcases gS with rfl|rfl
  ·rw[r2]at ME;exact⟨none,_,ME,_,L',done,hR⟩
  ·have:r'.pending=some (.exit id):=by rw[<-aaR]
   rw[this]at ME;exact⟨some (.exit id),_,ME,wpIn_exit ⟨_,L',stop,hR⟩⟩
end
end
end Go.DM
namespace Go.DM
open Go.RowKit
section
variable{base nt:Nat}{W M:fH}{w0:World}{st:ma}{rs:List dS}
variable [bM] [dM]{P:Program}
def CM(st:ma)(rs:List dS):bF:=rs.map λr=>(r.oU st).val
def JX(st:ma)(rs:List dS):DV:=match CM st rs with
 |[x]=>x
 |ds=>.ew ds
def aaS{w:World}{a:Act}{L:Loc}(h:R0 base W M w0 nt st.tmps st.ab a w L){rv:ResultVar}{r:dS}(hr:o7 P rv=some r)(aN:(r.oU st).ok):
  ∃v,((match rv with|.tmp t=>pure (a.tmps.getD t Go.undef)|.cell b t=>do loadVar t (<-asAddr (a.tmps.getD b Go.undef))):Sem Value).run P w=.ok v w/\aA w W st.ab L (r.oU st).val v:=by
 cases rv with
 |tmp t=>
  simp only[o7,cu]at hr;subst hr;exact⟨_,rfl,h.tmps t⟩
 |cell b t=>
  simp only[o7]at hr;split at hr
  ·rename_i d i hd hi;simp only[cu]at hr;subst hr;simp only[dS.oU]at aN;obtain⟨hp,v,ce,hv⟩:=xK h.o hd hi (h.tmps b) aN;refine⟨v, ?_,hv⟩;have hpt:∃p,a.tmps.getD b Go.undef=.pointer (some p):=by
    have hx:=h.tmps b;have ho:=aN;cases hq:st.tmps b with
    |ptr r off=>rw[hq]at hx;simp only[aA]at hx;exact⟨_,hx.2⟩
    |mV av j off=>rw[hq]at hx;simp only[aA]at hx;obtain⟨_,_,_,hx,_⟩:=hx;exact⟨_,hx⟩
    |jd cs off=>rw[hq]at hx;simp only[aA]at hx;obtain⟨_,_,hx,_⟩:=hx;exact⟨_,hx⟩
    |kO r bJ j off=>rw[hq]at hx;simp only[aA]at hx;obtain⟨⟨_,_,hx⟩,_⟩:=hx;exact⟨_,hx⟩
    |v t'=>
     rw[hq]at hx ho;cases t' with
     |box cs=>simp only[aA,bm]at hx;obtain⟨_,_,hx,_⟩:=hx;exact⟨_,hx⟩
     |_=>exact ho.elim
    |_=>rw[hq]at ho;exact ho.elim
   obtain⟨p,hp⟩:=hpt;show Sem.run P (do loadVar t (<-asAddr (a.tmps.getD b Go.undef))) w=_;rw[hp]at ce⊢;simpa [Instr.loadAt,Instr.sureAddr,asAddr]using ce
  ·cases hr
def MF{base:Nat}{W M:fH}{w0 w:World}{nt:Nat}{st:ma}{a:Act}{L:Loc}(h:R0 base W M w0 nt st.tmps st.ab a w L):∀{rvs:List ResultVar} {rs:List dS},rvs.mapM (o7 P)=some rs->(∀r∈rs,(r.oU st).ok)->
  ∃vs,(rvs.mapM (λrv=>((match rv with|.tmp t=>pure (a.tmps.getD t Go.undef)|.cell b t=>do loadVar t (<-asAddr (a.tmps.getD b Go.undef))):Sem Value))).run P w=.ok vs w/\eP w W st.ab L (CM st rs) vs
 |[],rs,hr,_=>by simp at hr;subst hr;exact⟨[],by simp,by simp[CM,eP]⟩
 |rv::rvs,rs,hr,aN=>by
  simp only[Lp,mb,kP,jG,cu]at hr;obtain⟨r,tw,rs',nw,rfl⟩:=hr;obtain⟨v,h1,h2⟩:=aaS h tw (aN r (by simp));obtain⟨vs,h3,h4⟩:=MF h nw λx hx=>aN x (by simp[hx]);refine⟨v::vs, ?_, ?_⟩
  ·rw[Lp];simp only[Sem.run_bind,h1,Result.andThen_ok,h3,Sem.run_pure]
  ·simp only[CM,qD,eP];exact⟨v,vs,rfl,h2,h4⟩
def eP.length{w:World}{W:fH}{ab:bq}{L:Loc}:∀{ds:bF} {vs:List Value},eP w W ab L ds vs->vs.length=ds.length
 |[],vs,h=>by simp only[eP]at h;subst h;rfl
 |d::ds,vs,h=>by
  simp only[eP]at h;obtain⟨x,jN,rfl,_,h2⟩:=h;simp[eP.length h2]
def JY{w:World}{a:Act}{L:Loc}(h:R0 base W M w0 nt st.tmps st.ab a w L){fn:Func}(hr:fn.results.toList.mapM (o7 P)=some rs)(aN:∀r∈rs,(r.oU st).ok):
  ∃v,(results fn a.tmps).run P w=.ok v w/\aA w W st.ab L (JX st rs) v:=by
 obtain⟨vs,h2,h3⟩:=MF h hr aN;have hm:(fn.results.mapM (λrv=>((match rv with|.tmp t=>pure (a.tmps.getD t Go.undef)|.cell b t=>do loadVar t (<-asAddr (a.tmps.getD b Go.undef))):Sem Value))).run P w=.ok vs.toArray w:=by
  rw[ZcO];simp only[Sem.run_map,h2,Result.andThen_ok]
 have hl:vs.length=(CM st rs).length:=eP.length h3;refine⟨if h:vs.toArray.size=1 then vs.toArray[0]else .tuple vs.toArray, ?_, ?_⟩
 ·have AM:(results fn a.tmps)=(do
   let vs<-fn.results.mapM (λrv=>((match rv with|.tmp t=>pure (a.tmps.getD t Go.undef)|.cell b t=>do loadVar t (<-asAddr (a.tmps.getD b Go.undef))):Sem Value))
   pure (if h:vs.size=1 then vs[0]else .tuple vs)):=rfl
  rw[AM];simp only[Sem.run_bind,hm,Result.andThen_ok,Sem.run_pure]
 ·unfold JX;cases LX:CM st rs with
  |nil=>
   rw[LX]at hl h3;have:vs=[]:=LS (by simpa using hl);subst this;simp only[aA];exact⟨#[],by simp,by simp[eP]⟩
  |cons x ds=>
   rw[LX]at hl h3;cases ds with
   |nil=>
    simp only[eP]at h3;obtain⟨y,jN,rfl,h4,rfl⟩:=h3;simpa using h4
   |cons y ds=>
    have:vs.toArray.size≠1:=by simp at hl⊢;omega
    rw[Zdg this];simp only[aA];exact⟨vs.toArray,rfl,by simpa using h3⟩
def at8(rs:List dS)(r:fV):Exit->ma->Prop
 |.normal,st|.ret,st=>(∀x∈rs,(x.oU st).ok)/\Le ⟨look [(0,JX st rs)],st.ab,st.aK,st.low,st.todo⟩ ⟨look [(0,r.val)],r.ab,st.aK,st.low,st.todo⟩
 |_,_=>False
def aB.okD{f:FuncId}{d:DC}(h:aB P f nt d rs){args:bF}{ab:bq}{r:fV}{N:Nat}(hN:∀r,N<=r->ab r=none)(dN:args.length<=nt)(hnt:0<nt)
  (k:df ab N->aa P nt d (at8 rs r) ⟨look (args.zipIdx.map λp=>(p.2,p.1)),aO [] ab,N,N,[]⟩):aQ P f args ab r:=by
 have Be:=h.entry;obtain⟨fn,tz,rfl,h3,hr,_⟩:=h;obtain⟨c,hb,hc⟩:=iV.1 h3;refine⟨Be,λbase W M w0 w L cI hO Dd=>?_⟩;have k:=Bg (k (Bo hO hN));have hl:=Dd.1;simp only[Si]at hl;have vx:H3 ⟨W,ab,L,w,base,M,w0,none,none,none⟩ fn.ntmps (xk args ab N) {tmps:=cI++Array.replicate (fn.ntmps-cI.size) Go.undef,defers:=[]} w L:=by
  refine⟨⟨⟨W,base,M,w0,⟨λ_=>rfl,rfl,rfl,rfl,rfl⟩,by simp;omega,λk=>?_,hO⟩,
   ic.cZ (dv.refl _ _),⟨[],rfl,Zce,(λ_ h=>by cases h),λ_=>rfl⟩,λ_=>xI hO.fr.jO hO.fr.size,⟨N,hN⟩⟩,hN,hN,λh=>by cases h⟩
  simp only[xk];cases hk:args[k]? with
  |some x=>
   have hv:∃v,cI.toList[k]? =some v:=by
    have:k<cI.size:=by rw[hl];exact(Db.1 hk).1
    exact⟨cI[k],by simp[this]⟩
   obtain⟨v,hv⟩:=hv;simp only[p8 hv,Dg];exact Dd.2 k x v hk hv
  |none=>
   have yO:cI.size<=k:=by
    have:=ZbQ.1 hk;omega
   simp only[Dg,aA,pF yO]
 refine callsIn_wide.1 (callsIn_of_wp_marks (n:=0) tz hb trivial ?_);refine wpIn_mono (k.run c hc 0 _ _ _ _ ⟨λJ hJ=>(by cases hJ),λl r s hY=>(by cases hY),λl hl=>(by cases hl)⟩ vx) ?_;rintro e a' w' ⟨dx,L',q,r'⟩;have done:((∀x∈rs,(x.oU dx).ok)/\Le ⟨look [(0,JX dx rs)],dx.ab,dx.aK,dx.low,dx.todo⟩ ⟨look [(0,r.val)],r.ab,dx.aK,dx.low,dx.todo⟩)->LeavesInM Fence.wide 0 P fn a'.tmps (λe w'=>∃v L',e=.returned v/\cC base W M w0 r.ab w' L'/\ic W ab L w r.ab L' w'/\aA w' W r.ab L' r.val v) a'.defers .returning w':=by
  rintro⟨hq1,Zn⟩;obtain⟨Ds,h1,h2,h3,_⟩:=r'.r.defers;rw[h1];refine leaves (κ:=⟨W,ab,L,w,base,M,w0,none,none,none⟩) rfl ?_ Ds a' w' L' r'.r h1 h2 h3;intro a2 w2 L2 h4;obtain⟨W',Mn,M',w0',dK,h0⟩:=h4.ex;obtain⟨v,k1,k2⟩:=JY (st:=dx) h0 hr hq1;have h5:=eW.put h4 dK h0 (some 0) (λd hd=>by cases hd;exact hnt) h0.o (ic.cZ (dv.refl _ _)) k2 h4.cj;have h6:H3 ⟨W,ab,L,w,base,M,w0,none,none,none⟩ fn.ntmps ⟨c5 dx.tmps (some 0) (JX dx rs),dx.ab,dx.aK,dx.low,dx.todo⟩ (a2.put (some 0) v) w2 L2:=⟨h5,r'.fresh,r'.low,r'.it⟩;obtain⟨L3,h7⟩:=(Le.vy (st:=⟨c5 dx.tmps (some 0) (JX dx rs),dx.ab,dx.aK,dx.low,dx.todo⟩) (tm:=look [(0,JX dx rs)]) (λk=>by
   by_cases hk:k=0
   ·subst hk;right;rfl
   ·left;simp[look,hk])) _ _ _ _ _ h6
  obtain⟨L4,h8⟩:=Zn _ _ _ _ _ h7;obtain⟨W'',at9,M'',avC,aap,h9⟩:=h8.r.ex;obtain⟨_,e1,e2,e3,e4⟩:=aap;rw[e1,e2,e3,e4]at h9;have hv:=h9.tmps 0;have ji:0<a2.tmps.size:=by rw[h0.size];exact hnt
  refine⟨v,k1,v,L4,rfl,h9.o,h8.r.fu, ?_⟩;have:(a2.put (some 0) v).tmps.getD 0 Go.undef=v:=by simp[Act.put,ji]
  rw[this]at hv;simpa [look]using hv
 cases e with
 |normal=>exact done q
 |ret=>exact done q
 |_=>exact q.elim
end
section
variable{rs:ai}
variable [bM] [dM]
section
variable{P:Program}{nt:Nat}{Γ:pk}{Q:Exit->ma->Prop}{tm:dj}{ob:bq}{aK low:Nat}{td:List (aL)}
def x6(P:Program)(Γ:pk)(aK:Nat):ai->RS->(RS->Prop)->Prop
 |[],s,K=>K s
 |r::rs,s,K=>MG P Γ aK r s λs'=>x6 P Γ aK rs s' K
def ky{r:RO}{s:RS}{K:RS->Prop}(h:s.ab (nm aK r)=none)(e:fj Γ aK [r] s λs'=>x6 P Γ aK rs s' K):x6 P Γ aK (r::rs) s K:=MG.of h e
def MH{f:FuncId}{args:List bW}{dst:Option Nat}{af:cQ}{s:RS}{K:RS->Prop}{N N':Nat}{oW:DV->bq->Prop}(h:tP P f (args.map (·.ev s.tmps)) s.ab N N' oW)
  (e:∀val mG,oW val mG->x6 P Γ aK rs ⟨c5 s.tmps dst val,mG,s.todo⟩ K):x6 P Γ aK (⟨.call f args,dst,none,af,none⟩::rs) s K:=.inr ⟨_,_,_,_,_,_,_,rfl,h,e⟩
def aa.aub(aC:ay P Γ){d:DC}(hd:d=.region false (rs.map bare))(aN:rs.all (mi nt)=true)(ks:cQ)(N':Nat)
  (h:(∀t,aK<=t->ob t=none)->x6 P Γ aK rs ⟨tm,ob,td⟩ λs=>(∀t,N'<=t->s.ab t=none)/\Q .normal ⟨look (lU ks s.tmps),s.ab,N',low,s.todo⟩):aa P nt d Q ⟨tm,ob,aK,low,td⟩:=by
 subst hd;refine⟨λc hc=>?_⟩;obtain⟨id,ops,rfl,oT,_⟩:=nI hc;obtain⟨dN,mF⟩:=j9 oT;intro n κ XC w L xi r;refine wpIn_region ?_;have h:=h r.fresh;have main:∀(l:ai) (k:Nat),k+l.length=ops.size->(∀i,l[i]? =rs[k+i]?)->∀(s:RS) (a:Act) (w:World) (L:Loc),eW κ nt s a w L->
   x6 P Γ aK l s (λs=>(∀t,N'<=t->s.ab t=none)/\Q .normal ⟨look (lU ks s.tmps),s.ab,N',low,s.todo⟩)->
   wpOpsIn (iZ κ.ro) n P ops (λe a w=>∃dx L',Q e dx/\H3 κ nt dx a w L') (List.range' k l.length) a w:=by
  intro l;induction l with
  |nil=>
   intro k hk hl s a w L hR hs;obtain⟨w6,hQ⟩:=hs;obtain⟨L4,R4⟩:=Le.vy (st:=⟨s.tmps,s.ab,N',low,s.todo⟩) (lG s.tmps ks) κ nt a w L ⟨hR,w6,r.low,r.it⟩;exact⟨_,L4,hQ,R4⟩
  |cons x l ih=>
   intro k hk hl s a w L hR hs;simp only[Lr]at hk;have hks:k<ops.size:=by omega
   have HY:ops[k]? =some ops[k]:=by simp[hks]
   obtain⟨x',h1,h2⟩:=mF k _ HY;have h0:=hl 0;rw[ZA,h1]at h0;obtain rfl:x=x':=by simpa using h0
   have kr:mi nt x=true:=Hy.1 aN _ (xL h1);rw[Lr,Zc1,wpOpsIn_cons];have next:=λs' a' w' L' SQ hs'=>ih (k+1) (by omega) (λi=>by have:=hl (i+1);rw[Zb]at this;rw[this];congr 1;omega) s' a' w' L' SQ hs'
   rcases hs with⟨hf,auc,hK⟩|⟨f,args,dst,af,M,M',oW,hr,aV,hK⟩
   ·exact ow aC xi HY h2 kr hR hf auc λa' w' L' SQ=>next _ a' w' L' SQ hK
   ·exact Fs xi HY (by rw[h2,hr];rfl) (by rw[<-hr];exact kr) hR aV λa' w' L' val mG hP SQ=>next _ a' w' L' SQ (hK val mG hP)
 have:=main rs 0 (by omega) (λi=>by simp) _ _ _ _ r.r h
 rwa [dN,<-List.range_eq_range']at this
end
end
open Go.RowKit Go.ChangeShapes Go.WideShapes
section
variable{sp:Nat->Bool}{held:Bool}{base:Nat}
variable [bM]
def oC(P:Program)(L:List TypeId):Nat->List Field->Nat->Bool
 |o,[],n=>o==n
 |o,f::fs,n=>f.offset==o&&L.contains f.type&&oC P L (o+P.cellsOf f.type) fs n
def wl(P:Program)(L:List TypeId)(t:TypeId):Bool:=
 match P.underlying t with
 |some .bool|some (.int _)|some .string=>true
 |some (.slice e)=>L.contains e&&decide (0<P.cellsOf e)
 |some (.struct fs)=>oC P L 0 fs.toList (P.cellsOf t)
 |some (.array n e)=>L.contains e&&P.cellsOf t==n*P.cellsOf e
 |_=>false
def oD(P:Program)(L:List TypeId):Bool:=L.all (wl P L)
def qb(q:TypeId->aL->Prop):List TypeId->aL->Prop
 |[],ts=>ts=[]
 |t::wN,ts=>∃a b,ts=a++b/\q t a/\qb q wN b
def kJ(P:Program):Nat->TypeId->aL->Prop
 |0,_,_=>False
 |n+1,t,ts=>
  match P.underlying t with
  |some .bool=>∃b,ts=[.bool b]
  |some (.int k)=>∃x,ts=[.int k x]/\(Lit.int k x).wf=true
  |some .string=>∃s,ts=[.str s]/\s.size<=maxLen
  |some (.slice e)=>∃av,ts=[.sl av]/\av.length<=maxLen/\∀r∈av,kJ P n e r
  |some (.struct fs)=>qb (kJ P n) (fs.toList.map (·.type)) ts
  |some (.array k e)=>qb (kJ P n) (List.replicate k e) ts
  |_=>False
def rU(P:Program)(n:Nat)(t:TypeId)(x:T):Prop:=
 match P.underlying t with
 |some (.struct _)|some (.array _ _)=>∃ts,x=.agg ts/\kJ P n t ts
 |_=>kJ P n t [x]
def DB(P:Program):List TypeId->aL->Prop
 |[],xs=>xs=[]
 |t::ts,xs=>∃x mq,xs=x::mq/\(∃n,rU P n t x)/\DB P ts mq
section
variable{P:Program}{L:List TypeId}
def wm(h:oD P L=true){t:TypeId}(ht:t∈L):wl P L t=true:=Hy.1 h t ht
def xl:∀(fs:List Field) (o n:Nat),oC P L o fs n=true->(∀f∈fs,f.type∈L)/\n=o+(fs.map λf=>P.cellsOf f.type).sum/\∀(j:Nat) f,fs[j]? =some f->f.offset=o+((fs.take j).map λf=>P.cellsOf f.type).sum
 |[],o,n,h=>by
  simp only[oC,Zcn]at h;exact⟨λ_ h=>(by cases h),by simp[h],λj f h=>by simp at h⟩
 |f::fs,o,n,h=>by
  simp only[oC,mD,Zcn,Zb8]at h;obtain⟨⟨h1,h2⟩,h3⟩:=h;obtain⟨k1,k2,k3⟩:=xl fs _ n h3;refine⟨λg hg=>?_, ?_,λj g hg=>?_⟩
  ·rcases fN.1 hg with rfl|hg
   ·exact h2
   ·exact k1 g hg
  ·rw[k2];simp;omega
  ·cases j with
   |zero=>simp at hg;subst hg;simp[h1]
   |succ j=>
    have:=k3 j g (by simpa using hg);rw[this];simp;omega
def PX(h:oD P L=true):Kids P (·∈L):=by
 refine⟨λ{t e} ht hu=>?_,λ{t e} ht hu=>?_,λ{t e n} ht hu=>?_,λ{t fs} ht hu=>?_,λ{t k e} ht hu=>?_⟩;all_goals
  have:=wm h ht;simp only[wl,hu]at this
 ·cases this
 ·simp only[mD,Zb8]at this;exact this.1
 ·simp only[mD,Zb8,Zcn]at this;exact this
 ·obtain⟨k1,k2,k3⟩:=xl _ _ _ this;exact⟨k1,by simpa using k2,λj f hf=>by simpa using k3 j f hf⟩
 ·cases this
def E8{H:Type}{enc:TypeId×Value->H}{w:World}{n:Nat}{sp:Nat->Bool}{held:Bool}{cs:List Value}
  (ih:∀t cs x,t∈L->DataW.trod enc P w 0 sp held n t cs=some x->∃ts,bl w (λ_=>False) ts cs/\kJ P n t ts):
  ∀(fs:List Field) (o N:Nat),oC P L o fs N=true->(∀f∈fs,∃x,DataW.trod enc P w 0 sp held n f.type ((cs.drop f.offset).take (P.cellsOf f.type))=some x)->cs.length=N->
   ∃ts,bl w (λ_=>False) ts (cs.drop o)/\qb (kJ P n) (fs.map (·.type)) ts
 |[],o,N,h,_,hl=>by
  simp only[oC,Zcn]at h;exact⟨[],by simp only[bl];rw[ZbE (by omega)],rfl⟩
 |f::fs,o,N,h,hx,hl=>by
  simp only[oC,mD,Zcn,Zb8]at h;obtain⟨⟨h1,h2⟩,h3⟩:=h;obtain⟨x,PY⟩:=hx f (Zl ..);obtain⟨a,ha,hta⟩:=ih _ _ _ h2 PY;obtain⟨b,hb,htb⟩:=E8 ih fs _ N h3 (λg hg=>hx g (Zm _ hg)) hl;refine⟨a++b, ?_,a,b,rfl,hta,htb⟩;have:=bl.append ha hb;rw[h1,<-List.drop_drop,ZbA]at this;exact this
def Sz{H:Type}{enc:TypeId×Value->H}{w:World}{n:Nat}{sp:Nat->Bool}{held:Bool}{cs:List Value}{e:TypeId}(he:e∈L)
  (ih:∀t cs x,t∈L->DataW.trod enc P w 0 sp held n t cs=some x->∃ts,bl w (λ_=>False) ts cs/\kJ P n t ts):
  ∀(k i:Nat),(∀j,i<=j->j<i+k->∃x,DataW.trod enc P w 0 sp held n e ((cs.drop (j*P.cellsOf e)).take (P.cellsOf e))=some x)->cs.length=(i+k)*P.cellsOf e->
   ∃ts,bl w (λ_=>False) ts (cs.drop (i*P.cellsOf e))/\qb (kJ P n) (List.replicate k e) ts
 |0,i,_,hl=>by
  exact⟨[],by simp only[bl];rw[ZbE (by rw[hl];simp)],rfl⟩
 |k+1,i,hx,hl=>by
  obtain⟨x,PY⟩:=hx i (ed _) (by omega);obtain⟨a,ha,hta⟩:=ih _ _ _ he PY;obtain⟨b,hb,htb⟩:=Sz he ih k (i+1) (λj h1 h2=>hx j (by omega) (by omega)) (by rw[hl];congr 1;omega);refine⟨a++b, ?_,a,b,rfl,hta,htb⟩;have:=bl.append ha hb;rw[show(i+1)*P.cellsOf e=i*P.cellsOf e+P.cellsOf e by rw[C7];omega,<-List.drop_drop,ZbA]at this;exact this
def CA{α:Type}{q:Nat->α->Prop}:∀(n:Nat),(∀i,i<n->∃x,q i x)->∃l:List α,l.length=n/\∀i x,l[i]? =some x->q i x
 |0,_=>⟨[],rfl,λi x h=>by simp at h⟩
 |n+1,h=>by
  obtain⟨l,hl,hq⟩:=CA n λi hi=>h i (by omega);obtain⟨x,hx⟩:=h n (by omega);refine⟨l++[x],by simp[hl],λi y hy=>?_⟩;by_cases hi:i<l.length
  ·rw[Zbl hi]at hy;exact hq i y hy
  ·rw[Zbj (by omega)]at hy;have:i=n:=by
    have:=(Db.1 hy).1;simp at this;omega
   subst this;simp[hl]at hy;subst hy;exact hx
def wn{w:World}{a:Addr}{n:Nat}{cs:List Value}(h:w.cells? 0 a n=some cs):cs.length=n/\∀j v,cs[j]? =some v->w.cell? (a.add j)=some v:=by
 simp only[World.cells?,Sj,jP]at h;refine⟨by simpa using mapM_some_length h,λj v hj=>?_⟩;have ef:j<n:=by
  have:=(Db.1 hj).1;have h2:=mapM_some_length h;simp at h2;omega
 have:=mapM_some_get h j j (by simp[ef]);rw[hj]at this;simpa using this.symm
where
 mapM_some_length {α β:Type} {f:α->Option β} {l:List α} {r:List β} (h:l.mapM f=some r):r.length=l.length:=by
  induction l generalizing r with
  |nil=>simp at h;simp[h]
  |cons x l ih=>
   simp only[Lp,mb,kP,jG,cu]at h;obtain⟨y,_,ys,qG,rfl⟩:=h;simp[ih qG]
 mapM_some_get {α β:Type} {f:α->Option β} {l:List α} {r:List β} (h:l.mapM f=some r) (i:Nat) (x:α) (hx:l[i]? =some x):r[i]? =f x:=by
  induction l generalizing r i with
  |nil=>simp at hx
  |cons y l ih=>
   simp only[Lp,mb,kP,jG,cu]at h;obtain⟨z,hz,ys,qG,rfl⟩:=h;cases i with
   |zero=>simp at hx;subst hx;simp[hz]
   |succ i=>simpa using ih qG i (by simpa using hx)
def SA{w:World}{a:Addr}{v:Value}(h:w.cell? a=some v):a.block<w.heap.size/\a.spot=none:=by
 unfold World.cell? at h;split at h
 ·rename_i c e f hb;split at h
  ·cases h
  ·rename_i hs;exact⟨(v8.1 hb).1,by simpa using hs⟩
 ·cases h
def add_zero(a:Addr):a.add 0=a:=by simp[Addr.add]
def Mo(b o k:Nat):(⟨b,o,none⟩:Addr).add k=⟨b,o+k,none⟩:=by
 unfold Addr.add;by_cases h:k=0<;>simp[h]
def aay{H:Type}{enc:TypeId×Value->H}{w:World}(hL:oD P L=true):∀(n:Nat) (t:TypeId) (cs:List Value) (x:DataW H×List MemPlace),t∈L->
  DataW.trod enc P w 0 sp held n t cs=some x->∃ts,bl w (λ_=>False) ts cs/\kJ P n t ts:=by
 intro n;induction n with
 |zero=>intro t cs x _ h;simp[DataW.trod]at h
 |succ n ih=>
  intro t cs x ht h;have hp:=wm hL ht;have one:∀{y:T} {v:Value},v.oneCell'=true->bm w (λ_=>False) y v->bl w (λ_=>False) [y] [v]:=λh1 h2=>by simp only[bl];exact⟨_,_,rfl,h1,h2,rfl⟩
  unfold wl at hp;split at hp
  ·rename_i hu;obtain⟨b,rfl,rfl⟩:∃b,cs=[.bool b]/\x=(.lit (.bool b),[]):=by
    unfold DataW.trod at h;rw[hu]at h;split at h<;>simp_all
   exact⟨[.bool b],one rfl (by simp[bm]),by simp[kJ,hu]⟩
  ·rename_i k hu;obtain⟨m,rfl,rfl,hw⟩:=DataW.trod_int hu h;exact⟨[.int k m],one rfl (by simp[bm]),by simp[kJ,hu,hw]⟩
  ·rename_i hu;obtain⟨s,rfl,rfl,hs⟩:=DataW.trod_string hu h;exact⟨[.str s],one rfl (by simp[bm]),by simp[kJ,hu,hs]⟩
  ·rename_i e hu;simp only[mD,Zb8,tD]at hp;obtain⟨he,Ht⟩:=hp;rcases DataW.trod_slice hu h with⟨rfl,rfl⟩|⟨a,len,cap,agF,rest,m,hm,rfl,rfl,_,hlc,tp,hel,mF,_,_⟩
   ·exact⟨[.sl []],one rfl (by simp[bm]),by simp[kJ,hu]⟩
   ·obtain rfl:n=m:=by omega
    have jH:∀i,i<len->∃r:aL,(∃wZ,w.cells? 0 (a.add (i*P.cellsOf e)) (P.cellsOf e)=some wZ/\bl w (λ_=>False) r wZ)/\kJ P n e r:=by
     intro i hi;have h1:=mF i hi;have h2:∃y,agF[i]? =some y:=⟨agF[i],w8 (by omega)⟩;obtain⟨y,hy⟩:=h2;rw[hy]at h1;obtain⟨wZ,h3,h4⟩:=jG.1 h1;obtain⟨ts,h5,h6⟩:=ih e wZ y he h4;exact⟨ts,⟨wZ,h3,h5⟩,h6⟩
    obtain⟨av,dN,hq⟩:=CA len jH;refine⟨[.sl av], ?_, ?_⟩
    ·simp only[bl];refine⟨_,[],rfl,rfl, ?_,rfl⟩;simp only[bm];cases av with
     |nil=>
      simp at dN;subst dN;exact .inl ⟨rfl,_,_,rfl⟩
     |cons r0 av=>
      right;obtain⟨⟨cs0,h3,h4⟩,_⟩:=hq 0 r0 rfl;obtain⟨h5,h6⟩:=wn h3;have Ze:∃v,cs0[0]? =some v:=⟨cs0[0],w8 (by omega)⟩;obtain⟨v0,hv0⟩:=Ze;have h60:=h6 0 v0 hv0;simp only[Zc4,add_zero]at h60;obtain⟨hb,hs⟩:=SA h60;obtain⟨b,o,sp'⟩:=a;simp only at hb hs;subst hs;have dK:∀i r,(r0::av)[i]? =some r->r.length=P.cellsOf e/\eD w (λ_=>False) b (o+i*P.cellsOf e) r:=by
       intro i r hr;obtain⟨⟨wZ,h3,h4⟩,_⟩:=hq i r hr;obtain⟨h5,h6⟩:=wn h3;refine⟨by rw[<-bl.length h4,h5],eD.tl h4 λj v hj=>?_⟩;have h7:=h6 j v hj;rw[Mo,Mo]at h7;exact h7
      exact⟨b,o,cap,P.cellsOf e,by rw[dN],hb,λh=>h,by omega,bD.Dr _ _ dK⟩
    ·simp only[kJ,hu];refine⟨av,rfl,by omega,λr hr=>?_⟩;obtain⟨i,hi⟩:=Zcc hr;exact(hq i r hi).2
  ·rename_i fs hu;obtain⟨xs,m,hm,rfl,hl,Hs,hf⟩:=DataW.trod_struct hu h;obtain rfl:n=m:=by omega
   obtain⟨ts,h1,h2⟩:=E8 (cs:=cs) ih fs.toList 0 _ hp (λf hfm=>by
    obtain⟨i,hi⟩:=Zcc hfm;have qO:fs[i]? =some f:=by simpa using hi
    have:=hf i f qO;have ef:i<xs.length:=by rw[Hs];exact(v8.1 qO).1
    rw[w8 ef]at this;exact⟨_,this⟩) hl
   exact⟨ts,by simpa using h1,by simpa [kJ,hu]using h2⟩
  ·rename_i k e hu;simp only[mD,Zb8,Zcn]at hp;have key:cs.length=P.cellsOf t/\∀i,i<k->∃y,DataW.trod enc P w 0 sp held n e ((cs.drop (i*P.cellsOf e)).take (P.cellsOf e))=some y:=by
    unfold DataW.trod at h;rw[hu]at h;split at h<;>simp_all
    obtain⟨hl,xs,A0,_⟩:=h;intro i hi;have:=wn.mapM_some_get A0 i i (by simp[hi]);have ef:i<xs.length:=by rw[wn.mapM_some_length A0];simp[hi]
    rw[w8 ef]at this;exact⟨_,_,this.symm⟩
   obtain⟨ts,h1,h2⟩:=Sz (cs:=cs) hp.1 ih k 0 (λj _ hj=>key.2 j (by omega)) (by rw[key.1,hp.2];simp);exact⟨ts,by simpa using h1,by simpa [kJ,hu]using h2⟩
  ·cases hp
def aeL{H:Type}{enc:TypeId×Value->H}{w:World}(hL:oD P L=true){t:TypeId}(ht:t∈L){v:Value}(hv:Value.okWide P w .any base t v){d:DataW H}{ps:List MemPlace}
  (h:DataW.Trod enc P w 0 sp held t v d ps):∃x,bm w (λ_=>False) x v/\∃n,rU P n t x:=by
 obtain⟨n,h⟩:=h;obtain⟨ts,h1,h2⟩:=aay hL n t _ _ ht h;have hp:=wm hL ht;have JK:(∀cs,v≠ .agg cs)->∃x,ts=[x]/\bm w (λ_=>False) x v:=by
  intro b7;have hc:v.cells.toList=[v]:=by cases v<;>first|rfl|exact eB rfl (b7 _)
  rw[hc]at h1;cases ts with
  |nil=>simp only[bl]at h1;cases h1
  |cons x xs=>
   simp only[bl]at h1;obtain⟨_,_,e,_,hr,nw⟩:=h1;simp only[LW]at e;obtain⟨rfl,rfl⟩:=e;have:=bl.length nw;simp at this;have e:xs=[]:=LS this.symm;exact⟨x,by rw[e],hr⟩
 have agg:(∃cs,v=.agg cs)->∃x,x=T.agg ts/\bm w (λ_=>False) x v:=by
  rintro⟨cs,rfl⟩;exact⟨_,rfl,by simp only[bm];exact⟨cs,rfl,by simpa [Value.cells]using h1⟩⟩
 unfold wl at hp;split at hp
 ·rename_i hu;obtain⟨b,rfl⟩:=okWide_bool hu hv;obtain⟨x,rfl,hr⟩:=JK (λ_ h=>by cases h);exact⟨x,hr,n,by simp only[rU,hu];exact h2⟩
 ·rename_i k hu;obtain⟨b,rfl⟩:=okWide_int hu hv;obtain⟨x,rfl,hr⟩:=JK (λ_ h=>by cases h);exact⟨x,hr,n,by simp only[rU,hu];exact h2⟩
 ·rename_i hu;obtain⟨b,rfl⟩:=okWide_string hu hv;obtain⟨x,rfl,hr⟩:=JK (λ_ h=>by cases h);exact⟨x,hr,n,by simp only[rU,hu];exact h2⟩
 ·rename_i e hu;obtain⟨a,l,c,rfl⟩:=okWide_slice hu hv;obtain⟨x,rfl,hr⟩:=JK (λ_ h=>by cases h);exact⟨x,hr,n,by simp only[rU,hu];exact h2⟩
 ·rename_i fs hu;obtain⟨cs,rfl,_⟩:=okWide_struct hu hv;obtain⟨x,rfl,hr⟩:=agg ⟨_,rfl⟩;exact⟨_,hr,n,by simp only[rU,hu];exact⟨_,rfl,h2⟩⟩
 ·rename_i k e hu;have:∃cs,v=.agg cs:=by
   simp only[Value.okWide,hu]at hv;cases v<;>simp_all
  obtain⟨cs,rfl⟩:=this;obtain⟨x,rfl,hr⟩:=agg ⟨_,rfl⟩;exact⟨_,hr,n,by simp only[rU,hu];exact⟨_,rfl,h2⟩⟩
 ·cases hp
def Mp{H:Type}{enc:TypeId×Value->H}{w:World}{sp:Nat->Bool}{held:Bool}(hL:oD P L=true){base:Nat}:∀{wN:List TypeId} {vs:List Value} {ds:List (DataW H)} {ps:List MemPlace},(∀t∈wN,t∈L)->
  (∀(j:Nat) t v,wN[j]? =some t->vs[j]? =some v->Value.okWide P w .any base t v)->DataW.TrodAll enc P w 0 sp held wN vs ds ps->∃xs,ga w (λ_=>False) xs vs/\DB P wN xs
 |[],vs,ds,ps,_,_,h=>by
  obtain⟨rfl,rfl,rfl⟩:=trodAll_nil h;exact⟨[],by simp[ga],rfl⟩
 |t::wN,vs,ds,ps,ht,hv,h=>by
  obtain⟨v,vs1,d,ds1,a,b,rfl,rfl,rfl,h1,h2⟩:=trodAll_cons h;obtain⟨x,k1,k2⟩:=aeL hL (ht t (Zl ..)) (hv 0 t v rfl rfl) h1;obtain⟨xs,k3,k4⟩:=Mp hL (λu hu=>ht u (Zm _ hu)) (λj u y h1 h2=>hv (j+1) u y (by simpa using h1) (by simpa using h2)) h2;exact⟨x::xs,by simp only[ga];exact⟨v,vs1,rfl,k1,k3⟩,x,xs,rfl,k2,k4⟩
def E9{H:Type}{enc:TypeId×Value->H}{w w':World}{sp':Nat->Bool}{held:Bool}(hL:oD P L=true)(agG:held=true):∀{wN:List TypeId} {vs:List Value} {ds:List (DataW H)} {ps:List MemPlace},(∀t∈wN,t∈L)->
  DataW.TrodAll enc P w 0 (λ_=>true) held wN vs ds ps->(∀p∈ps,w.sameAt w' p)->(∀p∈ps,sp' p.block=true)->DataW.TrodAll enc P w' 0 sp' held wN vs ds ps
 |[],vs,ds,ps,_,h,_,_=>by
  obtain⟨rfl,rfl,rfl⟩:=trodAll_nil h;exact trodAll_mk0
 |t::wN,vs,ds,ps,ht,h,h1,h2=>by
  obtain⟨v,vs1,d,ds1,a,b,rfl,rfl,rfl,⟨n,k1⟩,k2⟩:=trodAll_cons h;refine trodAll_cons_mk ⟨n,DataW.trod_stays (PX hL) (λ{t e} ht hu=>?_) (λh=>by rw[agG]at h;cases h) (ht t (Zl ..)) k1 (λp hp=>h1 p (List.mem_append_left _ hp)) (λp hp=>h2 p (List.mem_append_left _ hp))⟩
   (E9 hL agG (λu hu=>ht u (Zm _ hu)) k2 (λp hp=>h1 p (Zch _ hp)) (λp hp=>h2 p (Zch _ hp)))
  have:=wm hL ht;simp only[wl,hu,mD,tD]at this;exact this.2
def Mq{H:Type}{enc:TypeId×Value->H}{w:World}{b:Nat}{sp:Nat->Bool}{held:Bool}:∀{wN:List TypeId} {vs:List Value} {ds:List (DataW H)} {ps:List MemPlace},DataW.TrodAll enc P w b sp held wN vs ds ps->ds.length=wN.length
 |[],vs,ds,ps,h=>by
  obtain⟨rfl,rfl,rfl⟩:=trodAll_nil h;rfl
 |t::wN,vs,ds,ps,h=>by
  obtain⟨v,vs1,d,ds1,a,b,rfl,rfl,rfl,h1,h2⟩:=trodAll_cons h;simp[Mq h2]
def JL{H:Type}{enc:TypeId×Value->H}{W:World}{args:Array Value}{ds gs:List (DataW H)}{cR:List MemPlace}{f:FuncId}{fn:Func}{s:ChangeSpec}{tb:TypeId}{apart fresh handsOn again:Bool}
  (hL:oD P L=true) (zo:∀t∈fn.params.toList,t∈L) (XM:fn.resultTypes= #[tb]) (hb:P.underlying tb=some .bool) (agH:s.vars=[]) (tz:∀ds:List (DataW H),ds.length=fn.params.size->s.fn H ds={results:=[.lit (.bool true)],args:=ds})
  (tA:∀xs,DB P fn.params.toList xs->bw P f xs (.bool true))
  (dd:∀(j:Nat) t v,fn.params[j]? =some t->args[j]? =some v->Value.okWide P W .any base t v)
  (hW:DataW.Whole enc P fn.params.toList s.vars apart W args.toList ds gs cR) (hg:Hk W λ_=>False):
  Calls P f args W λe W'=>∃v,e=.returned v/\s.post enc P fn apart fresh handsOn again W args v W':=by
 have hW':=hW;obtain⟨p,q,hA,hV,rfl,hfz,zi⟩:=hW;rw[agH]at hV;obtain⟨rfl,rfl⟩:=trodVars_none hV;obtain⟨xs,hr,hx⟩:=Mp hL zo (λj t v h1 h2=>dd j t v (by simpa using h1) (by simpa using h2)) hA;have dN:ds.length=fn.params.size:=by
  have:=Mq hA;simpa using this
 refine((tA xs hx).agE hg hr).mono ?_;rintro e w' ⟨v,rfl,PZ,hv⟩;simp only[bm]at hv;subst hv;have ef:=hW'.lt;have zg:∀sp:Nat->Bool,(∀x∈p,sp x.block=true)->DataW.TrodAll enc P w' 0 sp true fn.params.toList args.toList ds p:=λsp ou=>
  E9 hL rfl zo hA (λx hx=>PZ.same (ef x (by simpa using hx))) ou
 have nw:∀(b:Nat) (sp:Nat->Bool) (hd:Bool),DataW.TrodAll enc P w' b sp hd fn.resultTypes.toList ((Value.bool true).resultList fn.resultTypes.size) [.lit (.bool true)] []:=λb sp hd=>by
  rw[XM];exact trodAll_cons_mk (shut_bool hb _) trodAll_mk0
 have he:s.fn H (ds++[])={results:=[.lit (.bool true)],args:=ds}:=by rw[vZ];exact tz ds dN
 have hv0:∀sp:Nat->Bool,DataW.TrodVars enc P w' sp s.vars [] []:=λsp=>by rw[agH];rfl
 have hev:(s.fn H (ds++[])).vars=[]:=by rw[he]
 refine⟨_,rfl,ds,[],p++[],[],p,[],hW',by rw[he];exact nw _ _ _,by rw[he];exact zg _ (λx hx=>by simpa using ef x (by simpa using hx)),by rw[hev];exact hv0 _,PZ.frame _,λ_=>?_⟩;refine⟨ok_one XM rfl (okWide_bool_mk hb _),_,_,([]++p)++[],⟨[]++p,[],trodAll_append (zg _ (λ_ _=>rfl)) (nw _ _ _),hv0 _,rfl, ?_, ?_⟩, ?_⟩
 ·intro b off hp;rw[PZ.frozen (ef _ (by simpa using hp))];exact hfz b off (by simpa using hp)
 ·intro ha;simpa using zi ha
 ·intro x hx _;simpa using hx
end
inductive Ty where
 |bool|int (k:IntKind)|str
 |slice (e:Ty)
 |seq (fs:List Ty)
mutual
def Ty.qJ:Ty->aL->Prop
 |.bool,ts=>∃b,ts=[.bool b]
 |.int k,ts=>∃x,ts=[.int k x]/\(Lit.int k x).wf=true
 |.str,ts=>∃s,ts=[.str s]/\s.size<=maxLen
 |.slice e,ts=>∃av,ts=[.sl av]/\av.length<=maxLen/\∀r∈av,e.qJ r
 |.seq fs,ts=>Ty.lH fs ts
def Ty.lH:List Ty->aL->Prop
 |[],ts=>ts=[]
 |t::wN,ts=>∃a b,ts=a++b/\t.qJ a/\Ty.lH wN b
end
def Ty.arg:Ty->T->Prop
 |.seq fs,x=>∃ts,x=.agg ts/\Ty.lH fs ts
 |ty,x=>ty.qJ [x]
def Ty.args:List Ty->aL->Prop
 |[],xs=>xs=[]
 |t::wN,xs=>∃x mq,xs=x::mq/\t.arg x/\Ty.args wN mq
def tG(P:Program):Nat->TypeId->Option Ty
 |0,_=>none
 |n+1,t=>
  match P.underlying t with
  |some .bool=>some .bool
  |some (.int k)=>some (.int k)
  |some .string=>some .str
  |some (.slice e)=>(tG P n e).map .slice
  |some (.struct fs)=>(zp (tG P n) (fs.toList.map (·.type))).map .seq
  |some (.array k e)=>(tG P n e).map λx=>.seq (List.replicate k x)
  |_=>none
where
 zp (q:TypeId->Option Ty):List TypeId->Option (List Ty)
 |[]=>some []
 |t::ts=>match q t,zp q ts with
  |some x,some xs=>some (x::xs)
  |_,_=>none
section
variable{P:Program}
def Bf:∀(m n:Nat) (t:TypeId) (ty:Ty) (ts:aL),tG P m t=some ty->kJ P n t ts->ty.qJ ts:=by
 intro m;induction m with
 |zero=>intro n t ty ts h;simp[tG]at h
 |succ m ih=>
  intro n t ty ts h hs;cases n with
  |zero=>exact hs.elim
  |succ n=>
   unfold tG at h;unfold kJ at hs;split at h
   ·rename_i hu;rw[hu]at hs;cases h;simpa [Ty.qJ]using hs
   ·rename_i hu;rw[hu]at hs;cases h;simpa [Ty.qJ]using hs
   ·rename_i hu;rw[hu]at hs;cases h;simpa [Ty.qJ]using hs
   ·rename_i e hu;rw[hu]at hs;obtain⟨x,hx,rfl⟩:=iV.1 h;obtain⟨av,rfl,h1,h2⟩:=hs;simp only[Ty.qJ];exact⟨av,rfl,h1,λr hr=>ih n e x r hx (h2 r hr)⟩
   ·rename_i fs hu;rw[hu]at hs;obtain⟨x,hx,rfl⟩:=iV.1 h;simp only[Ty.qJ];have key:∀(wN:List TypeId) (xs:List Ty) (ts:aL),tG.zp (tG P m) wN=some xs->qb (kJ P n) wN ts->Ty.lH xs ts:=by
     intro wN;induction wN with
     |nil=>intro xs ts h hs;simp only[tG.zp,cu]at h;subst h;simpa [Ty.lH,qb]using hs
     |cons u wN ih2=>
      intro xs ts h hs;simp only[tG.zp]at h;split at h
      ·rename_i y ys hy qG;cases h;simp only[qb]at hs;obtain⟨a,b,rfl,h1,h2⟩:=hs;simp only[Ty.lH];exact⟨a,b,rfl,ih n u y a hy h1,ih2 ys b qG h2⟩
      ·cases h
    exact key _ _ _ hx hs
   ·rename_i k e hu;rw[hu]at hs;obtain⟨x,hx,rfl⟩:=iV.1 h;simp only[Ty.qJ];have key:∀(k:Nat) (ts:aL),qb (kJ P n) (List.replicate k e) ts->Ty.lH (List.replicate k x) ts:=by
     intro k;induction k with
     |zero=>intro ts hs;simpa [Ty.lH,qb]using hs
     |succ k ih2=>
      intro ts hs;simp only[Pu,qb]at hs;obtain⟨a,b,rfl,h1,h2⟩:=hs;simp only[Pu,Ty.lH];exact⟨a,b,rfl,ih n e x a hx h1,ih2 b h2⟩
    exact key k ts hs
   ·cases h
def alZ{m n:Nat}{t:TypeId}{ty:Ty}{x:T}(h:tG P m t=some ty)(hs:rU P n t x):ty.arg x:=by
 cases m with
 |zero=>simp[tG]at h
 |succ m=>
  have h0:=h;unfold tG at h;unfold rU at hs;split at h
  ·rename_i hu;rw[hu]at hs;cases h;exact Bf _ _ _ _ _ h0 hs
  ·rename_i hu;rw[hu]at hs;cases h;exact Bf _ _ _ _ _ h0 hs
  ·rename_i hu;rw[hu]at hs;cases h;exact Bf _ _ _ _ _ h0 hs
  ·rename_i e hu;rw[hu]at hs;obtain⟨y,hy,rfl⟩:=iV.1 h;exact Bf _ _ _ _ _ h0 hs
  ·rename_i fs hu;rw[hu]at hs;obtain⟨y,hy,rfl⟩:=iV.1 h;obtain⟨ts,rfl,h2⟩:=hs;have:=Bf _ _ _ _ _ h0 h2;simp only[Ty.qJ]at this;exact⟨ts,rfl,this⟩
  ·rename_i k e hu;rw[hu]at hs;obtain⟨y,hy,rfl⟩:=iV.1 h;obtain⟨ts,rfl,h2⟩:=hs;have:=Bf _ _ _ _ _ h0 h2;simp only[Ty.qJ]at this;exact⟨ts,rfl,this⟩
  ·cases h
def SB{m:Nat}:∀{wN:List TypeId} {l:List Ty} {xs:aL},tG.zp (tG P m) wN=some l->DB P wN xs->Ty.args l xs
 |[],l,xs,h,hs=>by simp only[tG.zp,cu]at h;subst h;exact hs
 |t::wN,l,xs,h,hs=>by
  simp only[tG.zp]at h;split at h
  ·rename_i y ys hy qG;cases h;obtain⟨x,mq,rfl,⟨n,h1⟩,h2⟩:=hs;exact⟨x,mq,rfl,alZ hy h1,SB qG h2⟩
  ·cases h
end
end
end Go.DM
namespace Go.Proofs
open Go.DM
noncomputable abbrev aj:=Tryz.prog
instance arC:bM:=⟨[(0,[.int .i64 (1099511627776),.int .i64 (0),.int .i64 (-1),.int .i64 (0)])]⟩
def ajJ:ai:=[
 B 0 1,
 o (.alloc [V 0,.aX,.aX]) 2 []]
def ajK:ai:=[
 L 3 1 11 [],
 o (.mkMap [(.int .i64),(.int .i64),(.int .i64)] true) 12 [],
 o (.build [.aX,.aX,V 0,(.v (.pO (Go.Value.map Option.none)))] [(0,3,(t 11)),(3,1,(t 12))]) 13 [0,1],
 o (.box (t 13)) 14 [2],
 m 14 3 [3,0,1,2,3]]
def ajL:ai:=[
 a 0 1 15 [],
 l 15 16 [0],
 N 16 17 [1],
 m 17 4 [2,0,1,2]]
def QK:ai:=[
 n 4 18,
 o (.bin .mul (i 2) (t 18)) 19 [0],
 C .add 19 1 20 [1],
 o (.bslice 1 1 [V 0] [(0,1,(i 1099511627776))]) 21 [],
 n 4 22,
 o (.bin .mul (i 2) (t 22)) 23 [4],
 C .add 23 1 24 [5],
 o (.callF 46 [(t 21),(t 24)]) 25 [3,6],
 o (.build [V 0,.aX,.aX] [(0,1,(t 20)),(2,1,(t 25))]) 26 [2,7],
 o (.alloc [V 0,.aX,.aX]) 5 [],
 S 3 5 26 (k [9,8,7] 9)]
def arD:ai:=QK.map bare
def ajM:ai:=[
 n 4 27,
 C .add 27 1 28 [0],
 I 0 29]
def ajN:ai:=[
 b .lss 29 28 30 []]
def ajO:ai:=[
 n 29 31,
 m 31 6 [0,0]]
def QL:ai:=[
 n 3 32,
 n 6 33,
 o (.callS 47 [(t 32),(t 33)]) 34 [0,1]]
def arE:ai:=QL.map bare
def arF:ai:=[
 a 2 5 36 [],
 l 36 37 [0],
 n 6 38,
 o (.bin .mul (i 2) (t 38)) 39 [2],
 n 3 40,
 n 6 41,
 n 4 42,
 o (.call 48 [(t 40),(t 41),(t 42)]) 43 [4,5,6],
 m 43 35 [7],
 e 0 35 44 [8],
 e 1 35 45 [8],
 x 1 37 39 46 (k [1,3] 9),
 S 1 46 44 (k [11,9,7] 9)]
def ajP:ai:=[
 C .add 29 1 47 [],
 m 47 29 [0]]
def acz:ai:=[
 Z 7]
def acA:ai:=[
 n 3 48,
 c 48 49 [0],
 a 3 49 50 [1],
 l 50 51 [2],
 o (.rangeM (t 51)) 52 [3]]
def acB:ai:=[
 o (.entryM (t 52)) 55 [],
 e 0 55 56 [0],
 o (.alloc [V 0,V 0,V 0]) 8 [],
 S 3 8 56 [2,1,0,1,2]]
def acC:ai:=[
 n 7 57,
 L 3 8 58 [],
 o (.bslice 1 3 [V 0,V 0,V 0] [(0,3,(t 58))]) 59 [1],
 o (.append 104 3 24 (t 57) (t 59)) 60 [0,2],
 m 60 7 [3,3,0,1,2,3]]
def KF:ai:=[
 n 7 61,
 o (.callS 49 [(t 61),(.ia (.v (.fn (.func 50) [])))]) 62 [0]]
def amy:ai:=KF.map bare
def acD:ai:=[
 n 7 63,
 N 63 64 [0],
 I 0 65]
def acE:ai:=[
 b .lss 65 64 66 []]
def acF:ai:=[
 x 3 63 65 67 [],
 L 3 67 68 [0],
 o (.alloc [V 0,V 0,V 0]) 10 [],
 S 3 10 68 [2,1,0,1,2]]
def acG:ai:=[
 a 1 5 69 [],
 l 69 70 [0],
 n 3 71,
 c 71 72 [2],
 a 3 72 73 [3],
 l 73 74 [4],
 L 3 10 75 [],
 o (.lookup [(.int .i64),(.int .i64),(.int .i64)] true (.agg [(.v (.int .i64 0)),(.v (.int .i64 0)),(.v (.int .i64 0)),(.v (.int .i64 0)),.aX]) false (t 74) (t 75)) 76 [5,6],
 o (.bslice 1 5 [V 0,V 0,V 0,V 0,.aX] [(0,5,(t 76))]) 77 [7],
 o (.append 108 5 56 (t 70) (t 77)) 78 [1,8],
 a 1 5 79 (k [] 9),
 S 1 79 78 (k [10,9,9] 9)]
def acH:ai:=[
 C .add 65 1 80 [],
 m 80 65 [0]]
def acI:ai:=[
 L 3 5 81 [],
 S 3 2 81 [0,0]]
def d12:DC:=(j (y ajJ) (j (y ajK) (j (y ajL) (j (y arD) (j (j (y ajM) (.block 0 (.loop (j (y ajN) (j (.cond (.tmp 30) .skip (.exit 0)) (j (.block 1 (j (y ajO) (j (y arE) (Y arF)))) (y ajP))))))) (j (y acz) (j (j (y acA) (.block 2 (.loop (j (.Sw (.tmp 52) 53 54) (j (.cond (.tmp 54) .skip (.exit 2)) (.block 3 (j (y acB) (y acC)))))))) (j (y amy) (j (j (y acD) (.block 4 (.loop (j (y acE) (j (.cond (.tmp 66) .skip (.exit 4)) (j (.block 5 (j (y acF) (Y acG))) (y acH))))))) (j (y acI) .ret))))))))))
def acJ:List dS:=[.cell 2 3 true]
def c12 [bM]:aB aj 29 82 d12 acJ:=aB.of Tryz.f29 (by kernel_rfl)
def ajQ:ai:=[
 n 0 12,
 c 12 13 [0],
 a 0 13 14 [1],
 a 0 14 15 [2],
 l 15 16 [3],
 N 16 17 [4],
 m 17 4 (k [5] 5)]
def ajR:ai:=[
 n 1 18,
 m 18 5 [0,0]]
def ajS:ai:=[
 n 5 19,
 n 4 20,
 b .leq 19 20 21 [0,1]]
def QM:ai:=[
 n 0 25,
 n 1 26,
 n 5 27,
 o (.callS 48 [(t 25),(t 26),(t 27)]) 28 [0,1,2],
 m 28 24 [3],
 e 0 24 29 [4],
 e 1 24 30 [4],
 m 29 6 (k [5,3] 5),
 m 30 7 (k [6,7] 7)]
def arG:ai:=QM.map bare
def ajT:ai:=[
 n 5 31,
 n 1 32,
 b .gtr 31 32 33 [0,1]]
def QN:ai:=[
 n 0 35,
 n 1 36,
 n 5 37,
 C .sub 37 1 38 [2],
 o (.callS 48 [(t 35),(t 36),(t 38)]) 39 [0,1,3],
 m 39 34 [4],
 e 0 34 40 [5],
 e 1 34 41 [5],
 m 40 8 (k [6,4] 6),
 m 41 9 (k [7,8] 8)]
def arH:ai:=QN.map bare
def QO:ai:=[
 n 0 42,
 n 1 43,
 n 5 44,
 C .sub 44 1 45 [2],
 n 8 46,
 n 9 47,
 o (.callS 74 [(t 42),(t 43),(t 45),(t 46),(t 47)]) 48 [0,1,3,4,5]]
def arI:ai:=QO.map bare
def ajU:ai:=[
 n 0 49,
 c 49 50 [0],
 a 0 50 51 [1],
 a 1 51 52 [2],
 l 52 53 [3],
 N 53 54 [4],
 I 0 55]
def ajV:ai:=[
 b .lss 55 54 56 []]
def ajW:ai:=[
 n 55 57,
 x 1 53 55 58 [],
 l 58 59 [1],
 m 57 10 [0,0,1,2],
 m 59 11 [2,3,0,1,2,3]]
def KG:ai:=[
 n 0 60,
 n 1 61,
 o (.bin .mul (i 2) (t 61)) 62 [1],
 n 5 63,
 o (.bin .mul (i 2) (t 63)) 64 [3],
 n 10 65,
 n 6 66,
 n 11 67,
 b .add 66 67 68 [6,7],
 n 7 69,
 o (.callF 76 [(t 69)]) 70 [9],
 n 10 71,
 o (.build [V 0,V 0] [(0,1,(i 3)),(1,1,(t 71))]) 72 [11],
 o (.bslice 1 2 [V 0,V 0] [(0,2,(t 72))]) 73 [12],
 o (.append 117 2 16 (t 70) (t 73)) 74 [10,13,10],
 o (.build [V 0,V 0,V 0,V 0,.aX] [(0,1,(t 62)),(1,1,(t 64)),(2,1,(t 65)),(3,1,(t 68)),(4,1,(t 74))]) 75 [2,4,5,8,14],
 o (.callS 75 [(t 60),(t 75)]) 76 [0,15,14]]
def amz:ai:=KG.map bare
def acK:ai:=[
 C .add 55 1 77 [],
 m 77 55 [0]]
def KH:ai:=[
 n 0 78,
 n 5 79,
 o (.callS 77 [(t 78),(t 79)]) 80 [0,1]]
def amA:ai:=KH.map bare
def KJ:ai:=[
 n 0 81,
 n 1 82,
 o (.bin .mul (i 2) (t 82)) 83 [1],
 n 5 84,
 o (.bin .mul (i 2) (t 84)) 85 [3],
 C .add 85 1 86 [4],
 n 0 87,
 c 87 88 [6],
 a 0 88 89 [7],
 a 0 89 90 [8],
 l 90 91 [9],
 n 5 92,
 C .add 92 1 93 [11],
 x 3 91 93 94 [10,12],
 a 0 94 95 [13],
 l 95 96 [14],
 n 6 97,
 n 0 98,
 c 98 99 [17],
 a 0 99 100 [18],
 a 2 100 101 [19],
 l 101 102 [20],
 b .add 97 102 103 [16,21],
 n 7 104,
 o (.callF 76 [(t 104)]) 105 [23],
 o (.build [V 0,V 0] [(0,1,(i 4))]) 106 [],
 o (.bslice 1 2 [V 0,V 0] [(0,2,(t 106))]) 107 [25],
 o (.append 117 2 16 (t 105) (t 107)) 108 [24,26,24],
 o (.build [V 0,V 0,V 0,V 0,.aX] [(0,1,(t 83)),(1,1,(t 86)),(2,1,(t 96)),(3,1,(t 103)),(4,1,(t 108))]) 109 [2,5,15,22,27],
 o (.callS 75 [(t 81),(t 109)]) 110 [0,28,27]]
def amB:ai:=KJ.map bare
def acL:ai:=[
 n 5 22,
 C .add 22 1 23 [0],
 m 23 5 [1,0,1]]
def KK:ai:=[
 n 0 111,
 n 1 112,
 o (.callS 77 [(t 111),(t 112)]) 113 [0,1]]
def amC:ai:=KK.map bare
def KL:ai:=[
 n 0 114,
 n 1 115,
 o (.bin .mul (i 2) (t 115)) 116 [1],
 C .add 116 1 117 [2],
 n 1 118,
 o (.bin .mul (i 2) (t 118)) 119 [4],
 C .add 119 4 120 [5],
 n 0 121,
 c 121 122 [7],
 a 0 122 123 [8],
 a 0 123 124 [9],
 l 124 125 [10],
 n 1 126,
 x 3 125 126 127 [11,12],
 a 0 127 128 [13],
 l 128 129 [14],
 o (.build [V 0,V 0,V 0,V 0,.aX] [(0,1,(t 117)),(1,1,(t 120)),(2,1,(t 129))]) 130 [3,6,15],
 o (.callS 75 [(t 114),(t 130)]) 131 [0,16]]
def amD:ai:=KL.map bare
def d30:DC:=(j (y ajQ) (j (j (y ajR) (.block 0 (.loop (j (j (y ajS) (.cond (.tmp 21) .skip (.exit 0))) (j (.block 1 (j (y arG) (j (j (y ajT) (.cond (.tmp 33) (j (y arH) (y arI)) .skip)) (j (j (y ajU) (.block 2 (.loop (j (y ajV) (j (.cond (.tmp 56) .skip (.exit 2)) (j (.block 3 (j (y ajW) (y amz))) (y acK))))))) (j (y amA) (.cond (.tmp 80) (.jQ amB) .skip)))))) (y acL)))))) (j (y amC) (.cond (.tmp 113) (y amD) .skip))))
def acM:List dS:=[]
def c30 [bM]:aB aj 47 132 d30 acM:=aB.of Tryz.f47 (by kernel_rfl)
def ajX:ai:=[
 I 0 6,
 o (.sh (.ia .aX)) 7 [0]]
def ajY:ai:=[
 I 0 8]
def ajZ:ai:=[
 Z 9]
def aj0:ai:=[
 n 0 12,
 c 12 13 [0],
 a 0 13 14 [1],
 a 0 14 15 [2],
 l 15 16 [3],
 n 1 17,
 n 2 18,
 o (.slice 3 (t 16) (some (t 17)) (some (t 18))) 19 [4,5,6],
 N 19 20 [7],
 I 0 21]
def aj1:ai:=[
 b .lss 21 20 22 []]
def aj2:ai:=[
 x 3 19 21 23 [],
 L 3 23 24 [0],
 o (.alloc [V 0,.aX,V 0]) 11 [],
 S 3 11 24 [2,1,0,1,2]]
def aj3:ai:=[
 n 8 25,
 a 2 11 26 [],
 l 26 27 [1],
 b .add 25 27 28 [0,2],
 o (.minmax false (t 28) (i 1099511627776)) 29 [3],
 m 29 8 (k [4] 4)]
def aj4:ai:=[
 n 9 30,
 o (.build [V 0,V 0] [(0,1,(i 2))]) 31 [],
 o (.bslice 1 2 [V 0,V 0] [(0,2,(t 31))]) 32 [1],
 o (.append 117 2 16 (t 30) (t 32)) 33 [0,2],
 m 33 9 [3,3,0,1,2,3]]
def aj5:ai:=[
 C .add 21 1 34 [],
 m 34 21 [0]]
def aj6:ai:=[
 n 8 35,
 n 9 36,
 m 35 6 [0,0],
 m 36 7 [1,2,0,1,2]]
def d31:DC:=(j (y ajX) (j (y ajY) (j (y ajZ) (j (j (y aj0) (.block 0 (.loop (j (y aj1) (j (.cond (.tmp 22) .skip (.exit 0)) (j (.block 1 (j (y aj2) (j (y aj3) (y aj4)))) (y aj5))))))) (j (y aj6) .ret)))))
def acN:List dS:=[.oz 6,.oz 7]
def c31 [bM]:aB aj 48 37 d31 acN:=aB.of Tryz.f48 (by kernel_rfl)
def aj7:ai:=[
 n 0 12,
 c 12 13 [0],
 a 0 13 14 [1],
 a 0 14 15 [2],
 l 15 16 [3],
 n 2 17,
 x 3 16 17 18 [4,5],
 a 1 18 19 [6],
 l 19 20 [7],
 N 20 21 [8],
 I 0 22]
def aj8:ai:=[
 b .lss 22 21 23 []]
def aj9:ai:=[
 n 22 24,
 x 1 20 22 25 [],
 l 25 26 [1],
 m 24 10 [0,0,1,2],
 m 26 11 [2,3,0,1,2,3]]
def aka:ai:=[
 n 11 27,
 C .geq 27 0 28 [0]]
def QP:ai:=[
 n 0 29,
 n 1 30,
 o (.bin .mul (i 2) (t 30)) 31 [1],
 n 2 32,
 o (.bin .mul (i 2) (t 32)) 33 [3],
 C .add 33 2 34 [4],
 n 10 35,
 n 3 36,
 n 11 37,
 b .add 36 37 38 [7,8],
 n 4 39,
 o (.callF 76 [(t 39)]) 40 [10],
 n 10 41,
 o (.build [V 0,V 0] [(0,1,(i 1)),(1,1,(t 41))]) 42 [12],
 o (.bslice 1 2 [V 0,V 0] [(0,2,(t 42))]) 43 [13],
 o (.append 117 2 16 (t 40) (t 43)) 44 [11,14,11],
 o (.build [V 0,V 0,V 0,V 0,.aX] [(0,1,(t 31)),(1,1,(t 34)),(2,1,(t 35)),(3,1,(t 38)),(4,1,(t 44))]) 45 [2,5,6,9,15],
 o (.callS 75 [(t 29),(t 45)]) 46 [0,16,15]]
def arJ:ai:=QP.map bare
def akb:ai:=[
 C .add 22 1 47 [],
 m 47 22 [0]]
def d47:DC:=(j (y aj7) (.block 0 (.loop (j (y aj8) (j (.cond (.tmp 23) .skip (.exit 0)) (j (.block 1 (j (y aj9) (j (y aka) (.cond (.tmp 28) (y arJ) .skip)))) (y akb)))))))
def acO:List dS:=[]
def c47 [bM]:aB aj 74 48 d47 acO:=aB.of Tryz.f74 (by kernel_rfl)
def akc:ai:=[
 B 1 3]
def akd:ai:=[
 a 0 3 7 [],
 l 7 8 [0],
 a 1 3 9 [],
 l 9 10 [2],
 a 2 3 11 [],
 l 11 12 [4],
 o (.build [V 0,V 0,V 0] [(0,1,(t 8)),(1,1,(t 10)),(2,1,(t 12))]) 13 [1,3,5],
 o (.alloc [V 0,V 0,V 0]) 4 [],
 S 3 4 13 (k [7,6] 7)]
def acP:ai:=[
 n 0 15,
 c 15 16 [0],
 a 3 16 17 [1],
 l 17 18 [2],
 L 3 4 19 [],
 o (.lookup [(.int .i64),(.int .i64),(.int .i64)] true (.agg [(.v (.int .i64 0)),(.v (.int .i64 0)),(.v (.int .i64 0)),(.v (.int .i64 0)),.aX]) true (t 18) (t 19)) 20 [3,4],
 m 20 14 [5],
 e 0 14 21 [6],
 e 1 14 22 [6],
 o (.alloc [V 0,V 0,V 0,V 0,.aX]) 5 [],
 S 5 5 21 [9,7,0,1,2,3,4,5,6,7,9],
 m 22 6 (k [8,10] 10)]
def acQ:ai:=[
 a 3 3 23 [],
 l 23 24 [0],
 C .lss 24 1099511627776 25 [1],
 m 25 26 [2],
 w 6 27 26 true [3],
 K 27 28 26 true [4,3],
 w 28 29 26 true [5,3,3],
 u 3 3 30 29 false [6],
 v 30 31 29 false [7,6],
 u 3 5 32 29 false [6],
 v 32 33 29 false [9,6],
 D .lss 31 33 34 29 false [8,10,6],
 g (.pick (t 29) (.ia (.v (.bool true))) (t 34)) 35 26 true [6,11,3],
 q 26 35 36 [3,12]]
def acR:ai:=[
 n 0 37,
 c 37 38 [0],
 a 3 38 39 [1],
 l 39 40 [2],
 L 3 4 41 [],
 L 5 3 42 [],
 s (.mapUpd [(.int .i64),(.int .i64),(.int .i64)] true (t 40) (t 41) (t 42)) (k [3,4,5] 5)]
def d48:DC:=(j (y akc) (j (y akd) (j (Y acP) (j (y acQ) (.cond (.tmp 36) (Y acR) .skip)))))
def QQ:List dS:=[]
def c48 [bM]:aB aj 75 43 d48 QQ:=aB.of Tryz.f75 (by kernel_rfl)
def ake:ai:=[
 Z 2]
def acS:ai:=[
 n 0 3,
 o (.isNil 0 false (t 3)) 4 [0]]
def akf:ai:=[
 Z 2]
def acT:ai:=[
 o (.bslice 0 2 [] []) 5 [],
 n 0 6,
 o (.append 117 2 16 (t 5) (t 6)) 7 [0,1],
 m 7 2 [2,2,0,1,2]]
def d49:DC:=(j (y ake) (j (j (y acS) (.cond (.tmp 4) (j (y akf) .ret) .skip)) (j (y acT) .ret)))
def c49 [bM]:aB aj 76 8 d49 (dm 2):=aB.of Tryz.f76 (by kernel_rfl)
def akg:ai:=[
 F 4]
def akh:ai:=[
 n 0 6,
 c 6 7 [0],
 a 0 7 8 [1],
 a 0 8 9 [2],
 l 9 10 [3],
 m 10 5 (k [4] 4)]
def acU:ai:=[
 n 1 11,
 C .add 11 1 12 [0],
 n 5 13,
 N 13 14 [2],
 b .lss 12 14 15 [1,3],
 m 15 16 [4],
 w 0 17 16 true [5],
 g (.nilCheck (t 17)) 18 16 true [6,5],
 u 0 18 19 16 true [7,5],
 u 2 19 20 16 true [8,5],
 v 20 21 16 true [9,5],
 E .gtr 21 0 22 16 true [10,5],
 q 16 22 23 [5,11],
 m 23 24 [12,5],
 w 5 25 24 true [13],
 w 1 26 24 true [13],
 g (.idxAddr 3 (t 25) (t 26)) 27 24 true [14,15,13],
 u 0 27 28 24 true [16,13],
 v 28 29 24 true [17,13],
 E .geq 29 0 30 24 true [18,13],
 q 24 30 31 [13,19],
 m 31 32 [20,13],
 w 5 33 32 true [21],
 w 1 34 32 true [21],
 E .add 34 1 35 32 true [23,21],
 g (.idxAddr 3 (t 33) (t 35)) 36 32 true [22,24,21],
 u 0 36 37 32 true [25,21],
 v 37 38 32 true [26,21],
 E .geq 38 0 39 32 true [27,21],
 q 32 39 40 [21,28],
 m 40 4 (k [29,21] 29)]
def d50:DC:=(j (y akg) (j (y akh) (j (y acU) .ret)))
def c50 [bM]:aB aj 77 41 d50 (dm 4):=aB.of Tryz.f77 (by kernel_rfl)
def aki:ai:=[
 Z 4]
def akj:ai:=[
 n 1 9,
 C .lss 9 0 10 [0]]
def arK:ai:=[
 o (.fail) 11 [],
 s (.fail) [0]]
def akk:ai:=[
 n 0 13,
 N 13 14 [0],
 o (.conv .u64 (t 14)) 15 [1],
 n 1 16,
 o (.conv .u64 (t 16)) 17 [3],
 o (.call 73 [(t 15),(t 17)]) 18 [2,4],
 m 18 12 [5],
 e 0 12 19 [6],
 e 1 12 20 [6],
 m 19 5 (k [7,5] 7),
 m 20 6 (k [8,9] 9)]
def akl:ai:=[
 n 5 21,
 o (.bin .gtr (t 21) (.ia (.v (.int .u64 0)))) 22 [0],
 m 22 23 [1],
 w 6 24 23 false [2],
 g (.bin .gtr (t 24) (.ia (.v (.int .u64 9223372036854775807)))) 25 23 false [3,2],
 p 23 25 26 [2,4]]
def arL:ai:=[
 o (.fail) 27 [],
 s (.fail) [0]]
def akm:ai:=[
 n 6 28,
 o (.conv .i64 (t 28)) 29 [0],
 o (.mkSlice 3 1 8 [(.int .i64 0)] (t 29)) 30 [1,1],
 m 30 7 [2,0,1,2]]
def akn:ai:=[
 n 7 31,
 n 0 32,
 o (.copy 1 (t 31) (t 32)) 33 [0,1],
 m 33 8 [2,2,0,1,2]]
def ako:ai:=[
 n 8 34,
 n 7 35,
 N 35 36 [1],
 b .lss 34 36 37 [0,2]]
def akp:ai:=[
 n 8 38,
 n 7 39,
 n 8 40,
 o (.slice 1 (t 39) (some (t 40)) none) 41 [1,2],
 n 7 42,
 n 8 43,
 o (.slice 1 (t 42) none (some (t 43))) 44 [4,5],
 o (.copy 1 (t 41) (t 44)) 45 [3,6],
 b .add 38 45 46 [0,7],
 m 46 8 (k [8,7] 8)]
def acV:ai:=[
 n 7 47,
 m 47 4 [0,0]]
def d29:DC:=(j (y aki) (j (j (y akj) (.cond (.tmp 10) (y arK) .skip)) (j (y akk) (j (j (y akl) (.cond (.tmp 26) (y arL) .skip)) (j (y akm) (j (y akn) (j (.block 0 (.loop (j (j (y ako) (.cond (.tmp 37) .skip (.exit 0))) (.block 1 (Y akp))))) (j (y acV) .ret))))))))
def c29 [bM]:aB aj 46 48 d29 (dm 4):=aB.of Tryz.f46 (by kernel_rfl)
def akq:ai:=[
 B 0 2,
 B 1 3,
 I 0 4]
def akr:ai:=[
 a 0 2 5 [],
 l 5 6 [0],
 a 0 3 7 [],
 l 7 8 [2],
 o (.call 81 [(t 6),(t 8)]) 9 [1,3],
 a 1 2 10 [],
 l 10 11 [5],
 a 1 3 12 [],
 l 12 13 [7],
 o (.call 81 [(t 11),(t 13)]) 14 [6,8,4],
 a 2 2 15 [],
 l 15 16 [10],
 a 2 3 17 [],
 l 17 18 [12],
 o (.call 81 [(t 16),(t 18)]) 19 [11,13,9],
 o (.bslice 3 1 [V 0,V 0,V 0] [(0,1,(t 9)),(1,1,(t 14)),(2,1,(t 19))]) 20 [4,9,14],
 o (.call 80 [(t 20)]) 21 [15,14],
 m 21 4 (k [16,16] 16)]
def d33:DC:=(j (y akq) (j (Y akr) .ret))
def c33 [bM]:aB aj 50 22 d33 (dm 4):=aB.of Tryz.f50 (by kernel_rfl)
def aks:ai:=[
 I 0 2]
def akt:ai:=[
 I 0 3]
def aku:ai:=[
 n 0 6,
 N 6 7 [0],
 I 0 8]
def akv:ai:=[
 b .lss 8 7 9 []]
def akw:ai:=[
 x 1 6 8 10 [],
 l 10 11 [0],
 m 11 5 [1,0,1]]
def akx:ai:=[
 n 5 12,
 n 3 13,
 b .neq 12 13 14 [0,1]]
def aky:ai:=[
 n 5 15,
 m 15 2 [0,0]]
def akz:ai:=[
 C .add 8 1 16 [],
 m 16 8 [0]]
def akA:ai:=[
 n 3 17,
 m 17 2 [0,0]]
def d53:DC:=(j (y aks) (j (y akt) (j (j (y aku) (.block 0 (.loop (j (y akv) (j (.cond (.tmp 9) .skip (.exit 0)) (j (.block 1 (j (y akw) (j (y akx) (.cond (.tmp 14) (j (y aky) .ret) .skip)))) (y akz))))))) (j (y akA) .ret))))
def c53 [bM]:aB aj 80 18 d53 (dm 2):=aB.of Tryz.f80 (by kernel_rfl)
def MP:ai:=[
 I 0 4]
def MQ:ai:=[
 n 0 7,
 o (.call 118 [(t 7)]) 8 [0],
 m 8 5 [1,1,0,1]]
def akB:ai:=[
 n 1 9,
 o (.call 118 [(t 9)]) 10 [0],
 m 10 6 [1,1,0,1]]
def akC:ai:=[
 n 5 11]
def arM:ai:=[
 n 6 12]
def arN:ai:=[
 I 0 4]
def arO:ai:=[
 I (-1) 4]
def akD:ai:=[
 n 6 13]
def arP:ai:=[
 I 1 4]
def akE:ai:=[
 n 0 14,
 n 1 15,
 b .lss 14 15 16 [0,1]]
def acW:ai:=[
 I (-1) 4]
def acX:ai:=[
 n 0 17,
 n 1 18,
 b .gtr 17 18 19 [0,1]]
def acY:ai:=[
 I 1 4]
def acZ:ai:=[
 I 0 4]
def d54:DC:=(j (y MP) (j (y MQ) (j (y akB) (j (j (y akC) (.cond (.tmp 11) (j (j (y arM) (.cond (.tmp 12) (j (y arN) .ret) .skip)) (j (y arO) .ret)) .skip)) (j (j (y akD) (.cond (.tmp 13) (j (y arP) .ret) .skip)) (j (j (y akE) (.cond (.tmp 16) (j (y acW) .ret) .skip)) (j (j (y acX) (.cond (.tmp 19) (j (y acY) .ret) .skip)) (j (y acZ) .ret))))))))
def c54 [bM]:aB aj 81 20 d54 (dm 4):=aB.of Tryz.f81 (by kernel_rfl)
def akF:ai:=[
 F 2]
def akG:ai:=[
 n 0 3,
 n 0 4,
 b .neq 3 4 5 [0,1],
 m 5 2 [2,0,1,2]]
def d71:DC:=(j (y akF) (j (y akG) .ret))
def c71 [bM]:aB aj 118 6 d71 (dm 2):=aB.of Tryz.f118 (by kernel_rfl)
def akH:ai:=[
 o (.sh (.ia (.v (.int .u64 0)))) 4 [],
 o (.sh (.ia (.v (.int .u64 0)))) 5 [0]]
def arQ:ai:=[
 n 0 11,
 o (.conv .u32 (t 11)) 12 [0],
 n 1 13,
 o (.conv .u32 (t 13)) 14 [2],
 o (.call 106 [(t 12),(t 14)]) 15 [1,3],
 m 15 10 [4],
 e 0 10 16 [5],
 e 1 10 17 [5],
 m 16 6 (k [6,4] 6),
 m 17 7 (k [7,8] 8)]
def arR:ai:=[
 n 6 18,
 o (.conv .u64 (t 18)) 19 [0],
 n 7 20,
 o (.conv .u64 (t 20)) 21 [2],
 m 19 4 [1,0,1],
 m 21 5 (k [3,4] 4)]
def akI:ai:=[
 n 0 23,
 n 1 24,
 o (.call 107 [(t 23),(t 24)]) 25 [0,1],
 m 25 22 [2],
 e 0 22 26 [3],
 e 1 22 27 [3],
 m 26 8 (k [4,2] 4),
 m 27 9 (k [5,6] 6)]
def akJ:ai:=[
 n 8 28,
 n 9 29,
 m 28 4 [0,0],
 m 29 5 [1,2,0,1,2]]
def d46:DC:=(j (y akH) (j (.cond (.ia (.v (.bool false))) (j (y arQ) (j (y arR) .ret)) .skip) (j (y akI) (j (y akJ) .ret))))
def ac0:List dS:=[.oz 4,.oz 5]
def c46 [bM]:aB aj 73 30 d46 ac0:=aB.of Tryz.f73 (by kernel_rfl)
def MR:ai:=[
 o (.sh (.ia (.v (.int .u64 0)))) 4 [],
 o (.sh (.ia (.v (.int .u64 0)))) 5 [0]]
def CP:ai:=[
 n 0 14,
 o (.bin .and (t 14) (.ia (.v (.int .u64 4294967295)))) 15 [0],
 m 15 6 [1,0,1]]
def MS:ai:=[
 n 0 16,
 o (.bin .shr (t 16) (.ia (.v (.int .u64 32)))) 17 [0],
 m 17 7 [1,0,1]]
def MT:ai:=[
 n 1 18,
 o (.bin .and (t 18) (.ia (.v (.int .u64 4294967295)))) 19 [0],
 m 19 8 [1,0,1]]
def Ta:ai:=[
 n 1 20,
 o (.bin .shr (t 20) (.ia (.v (.int .u64 32)))) 21 [0],
 m 21 9 [1,0,1]]
def Tb:ai:=[
 n 6 22,
 n 8 23,
 b .mul 22 23 24 [0,1],
 m 24 10 [2,0,1,2]]
def akK:ai:=[
 n 7 25,
 n 8 26,
 b .mul 25 26 27 [0,1],
 n 10 28,
 o (.bin .shr (t 28) (.ia (.v (.int .u64 32)))) 29 [3],
 b .add 27 29 30 [2,4],
 m 30 11 (k [5] 5)]
def akL:ai:=[
 n 11 31,
 o (.bin .and (t 31) (.ia (.v (.int .u64 4294967295)))) 32 [0],
 m 32 12 [1,0,1]]
def akM:ai:=[
 n 11 33,
 o (.bin .shr (t 33) (.ia (.v (.int .u64 32)))) 34 [0],
 m 34 13 [1,0,1]]
def akN:ai:=[
 n 12 35,
 n 6 36,
 n 9 37,
 b .mul 36 37 38 [1,2],
 b .add 35 38 39 [0,3],
 m 39 12 (k [4] 4)]
def ac1:ai:=[
 n 7 40,
 n 9 41,
 b .mul 40 41 42 [0,1],
 n 13 43,
 b .add 42 43 44 [2,3],
 n 12 45,
 o (.bin .shr (t 45) (.ia (.v (.int .u64 32)))) 46 [5],
 b .add 44 46 47 [4,6],
 m 47 4 (k [7] 7)]
def ac2:ai:=[
 n 0 48,
 n 1 49,
 b .mul 48 49 50 [0,1],
 m 50 5 [2,0,1,2]]
def d60:DC:=(j (y MR) (j (y CP) (j (y MS) (j (y MT) (j (y Ta) (j (y Tb) (j (y akK) (j (y akL) (j (y akM) (j (y akN) (j (y ac1) (j (y ac2) .ret))))))))))))
def x7:List dS:=[.oz 4,.oz 5]
def c60 [bM]:aB aj 107 51 d60 x7:=aB.of Tryz.f107 (by kernel_rfl)
def follows:aj.follows .mixedOrders=true:=by kernel_rfl
abbrev fw:=follows
namespace cD
def agO:ai:=[
 B 0 2,
 B 1 3,
 F 4]
def MI:ai:=[
 a 0 2 5 [],
 l 5 6 [0],
 a 0 3 7 [],
 l 7 8 [2],
 b .lss 6 8 9 [1,3],
 m 9 10 [4],
 u 0 2 11 10 false [5],
 v 11 12 10 false [6,5],
 u 0 3 13 10 false [5],
 v 13 14 10 false [8,5],
 D .eql 12 14 15 10 false [7,9,5],
 w 15 16 10 false [10,5,5],
 u 1 2 17 16 true [11],
 v 17 18 16 true [12,11],
 u 1 3 19 16 true [11],
 v 19 20 16 true [14,11],
 D .lss 18 20 21 16 true [13,15,11],
 g (.pick (t 16) (t 21) (.ia (.v (.bool false)))) 22 10 false [11,16,5],
 p 10 22 23 [5,17],
 m 23 4 (k [18,11] 18)]
def d92:DC:=(j (y agO) (j (y MI) .ret))
def c92 [bM]:aB aj 97 24 d92 (dm 4):=aB.of Tryz.f97 (by kernel_rfl)
def agP:ai:=[
 o (.alloc [V 0,V 0]) 4 []]
def agQ:ai:=[
 n 0 8,
 m 8 5 [0,0],
 o (.sh (i 1)) 6 [1,0,1]]
def agR:ai:=[
 I 0 7]
def agS:ai:=[
 n 7 9,
 n 1 10,
 N 10 11 [1],
 b .lss 9 11 12 [0,2]]
def agT:ai:=[
 n 5 15,
 n 1 16,
 n 7 17,
 x 2 16 17 18 [1,2],
 a 0 18 19 [3],
 l 19 20 [4],
 b .add 15 20 21 [0,5],
 o (.minmax false (t 21) (i 1099511627776)) 22 [6],
 n 6 23,
 n 1 24,
 n 7 25,
 x 2 24 25 26 [9,10],
 a 1 26 27 [11],
 l 27 28 [12],
 b .add 23 28 29 [8,13],
 o (.minmax false (t 29) (i 1099511627776)) 30 [14],
 m 22 5 (k [7] 7),
 m 30 6 (k [15,16] 16)]
def agU:ai:=[
 n 7 13,
 C .add 13 1 14 [0],
 m 14 7 [1,0,1]]
def agV:ai:=[
 n 5 31,
 C .geq 31 1099511627776 32 [0]]
def agW:ai:=[
 o (.build [V 0,V 0] [(0,1,(i 1099511627776))]) 33 [],
 S 2 4 33 [0,0]]
def agX:ai:=[
 n 5 34,
 n 6 35,
 o (.build [V 0,V 0] [(0,1,(t 34)),(1,1,(t 35))]) 36 [0,1],
 S 2 4 36 [2,0,1,2]]
def d69:DC:=(j (y agP) (j (y agQ) (j (j (y agR) (.block 0 (.loop (j (j (y agS) (.cond (.tmp 12) .skip (.exit 0))) (j (.block 1 (Y agT)) (y agU)))))) (j (j (y agV) (.cond (.tmp 32) (j (y agW) .ret) .skip)) (j (y agX) .ret)))))
def Qc:List dS:=[.cell 4 2 true]
def c69 [bM]:aB aj 95 37 d69 Qc:=aB.of Tryz.f95 (by kernel_rfl)
def agY:ai:=[
 B 0 2,
 Z 4]
def agZ:ai:=[
 Z 5]
def ag0:ai:=[
 I 0 6]
def ag1:ai:=[
 n 6 7,
 a 1 2 8 [],
 l 8 9 [1],
 N 9 10 [2],
 b .lss 7 10 11 [0,3]]
def ag2:ai:=[
 n 5 14,
 n 1 15,
 a 1 2 16 [],
 l 16 17 [2],
 n 6 18,
 x 1 17 18 19 [3,4],
 l 19 20 [5],
 x 2 15 20 21 [1,6],
 L 2 21 22 [7],
 o (.bslice 1 2 [V 0,V 0] [(0,2,(t 22))]) 23 [8],
 o (.append 63 2 16 (t 14) (t 23)) 24 [0,9],
 m 24 5 (k [10,10] 10)]
def ag3:ai:=[
 n 6 12,
 C .add 12 1 13 [0],
 m 13 6 [1,0,1]]
def ag4:ai:=[
 n 5 25,
 m 25 4 [0,0]]
def d91:DC:=(j (y agY) (j (y agZ) (j (j (y ag0) (.block 0 (.loop (j (j (y ag1) (.cond (.tmp 11) .skip (.exit 0))) (j (.block 1 (y ag2)) (y ag3)))))) (j (y ag4) .ret))))
def c91 [bM]:aB aj 96 26 d91 (dm 4):=aB.of Tryz.f96 (by kernel_rfl)
def ag5:ai:=[
 B 0 1,
 Z 2,
 o (.sh (.ia .aX)) 3 [1]]
def ag6:ai:=[
 a 0 1 14 [],
 l 14 15 [0],
 o (.mkSlice 63 2 16 [(.int .i64 0),(.int .i64 0)] (t 15)) 16 [1,1],
 m 16 4 [2,0,1,2]]
def ag7:ai:=[
 a 0 1 17 [],
 l 17 18 [0],
 o (.mkSlice 3 1 8 [(.int .i64 0)] (t 18)) 19 [1,1],
 m 19 5 [2,0,1,2]]
def ag8:ai:=[
 I 0 6]
def ag9:ai:=[
 n 6 20,
 a 0 1 21 [],
 l 21 22 [1],
 b .lss 20 22 23 [0,2]]
def aha:ai:=[
 n 4 26,
 n 6 27,
 n 5 28,
 n 6 29,
 o (.build [V 0,V 0] [(0,1,(i 1099511627776))]) 30 [],
 x 2 26 27 31 [0,1,0,1,4],
 S 2 31 30 [5,4,0,1,4],
 x 1 28 29 32 (k [2,3] 6),
 s (.store 1 (t 32) (i (-1))) (k [7,6] 6)]
def ahb:ai:=[
 n 6 24,
 C .add 24 1 25 [0],
 m 25 6 [1,0,1]]
def ahc:ai:=[
 R 7]
def ahd:ai:=[
 n 7 33]
def ahe:ai:=[
 F 7]
def aaZ:ai:=[
 I 0 8]
def aa0:ai:=[
 n 8 34,
 a 1 1 35 [],
 l 35 36 [1],
 N 36 37 [2],
 b .lss 34 37 38 [0,3]]
def aa1:ai:=[
 a 1 1 41 [],
 l 41 42 [0],
 n 8 43,
 x 5 42 43 44 [1,2],
 L 5 44 45 [3],
 o (.alloc [V 0,.aX,V 0,V 0,V 0]) 9 [],
 S 5 9 45 (k [5,4] 5)]
def JZ:ai:=[
 a 2 9 46 [],
 l 46 47 [0],
 L 5 9 48 [],
 n 4 49,
 o (.callF 96 [(t 48),(t 49)]) 50 [2,3],
 o (.call 95 [(t 47),(t 50)]) 51 [1,4,4],
 o (.alloc [V 0,V 0]) 10 [],
 S 2 10 51 (k [6,5,5] 6)]
def ame:ai:=JZ.map bare
def aa2:ai:=[
 L 2 10 52 [],
 n 4 53,
 a 0 9 54 [],
 l 54 55 [2],
 x 2 53 55 56 [1,3],
 L 2 56 57 [4],
 o (.call 97 [(t 52),(t 57)]) 58 [0,5]]
def aa3:ai:=[
 n 4 59,
 a 0 9 60 [],
 l 60 61 [1],
 L 2 10 62 [],
 x 2 59 61 63 [0,2,0,1,2,3],
 S 2 63 62 [4,3,0,1,2,3]]
def aa4:ai:=[
 R 7]
def Qd:ai:=[
 n 8 39,
 C .add 39 1 40 [0],
 m 40 8 [1,0,1]]
def aa5:ai:=[
 a 1 1 64 [],
 l 64 65 [0],
 N 65 66 [1],
 C .sub 66 1 67 [2],
 m 67 11 [3,0,1,2,3]]
def aa6:ai:=[
 n 11 68,
 C .geq 68 0 69 [0]]
def aa7:ai:=[
 a 1 1 72 [],
 l 72 73 [0],
 n 11 74,
 x 5 73 74 75 [1,2],
 L 5 75 76 [3],
 o (.alloc [V 0,.aX,V 0,V 0,V 0]) 12 [],
 S 5 12 76 (k [5,4] 5)]
def aa8:ai:=[
 n 4 77,
 a 0 12 78 [],
 l 78 79 [1],
 x 2 77 79 80 [0,2],
 L 2 80 81 [3],
 o (.alloc [V 0,V 0]) 13 [],
 S 2 13 81 (k [5,4] 5)]
def zL:ai:=[
 a 0 13 82 [],
 l 82 83 [0],
 C .lss 83 1099511627776 84 [1],
 m 84 85 [2],
 u 2 12 86 85 true [3],
 v 86 87 85 true [4,3],
 g (.load 5 true (t 12)) 88 85 true [3],
 w 4 89 85 true [3],
 g (.callF 96 [(t 88),(t 89)]) 90 85 true [6,7,3,3],
 g (.call 95 [(t 87),(t 90)]) 91 85 true [5,8,8,3],
 g (.load 2 true (t 13)) 92 85 true [3],
 g (.eqT false true [(.int .i64),(.int .i64)] (t 91) (t 92)) 93 85 true [9,10,3],
 q 85 93 94 [3,11]]
def amf:ai:=zL.map bare
def aa9:ai:=[
 n 5 95,
 a 0 12 96 [],
 l 96 97 [1],
 n 11 98,
 x 1 95 97 99 [0,2,0,1,2,3],
 S 1 99 98 [4,3,0,1,2,3]]
def Qe:ai:=[
 n 11 70,
 C .sub 70 1 71 [0],
 m 71 11 [1,0,1]]
def aba:ai:=[
 n 4 100,
 n 5 101,
 m 100 2 [0,0],
 m 101 3 [1,2,0,1,2]]
def d66:DC:=(j (y ag5) (j (y ag6) (j (y ag7) (j (j (y ag8) (.block 0 (.loop (j (j (y ag9) (.cond (.tmp 23) .skip (.exit 0))) (j (.block 1 (y aha)) (y ahb)))))) (j (j (y ahc) (.block 2 (.loop (j (j (y ahd) (.cond (.tmp 33) .skip (.exit 2))) (.block 3 (j (y ahe) (j (y aaZ) (.block 4 (.loop (j (j (y aa0) (.cond (.tmp 38) .skip (.exit 4))) (j (.block 5 (j (y aa1) (j (Y ame) (j (Y aa2) (.cond (.tmp 58) (j (y aa3) (y aa4)) .skip))))) (y Qd)))))))))))) (j (j (y aa5) (.block 6 (.loop (j (j (y aa6) (.cond (.tmp 69) .skip (.exit 6))) (j (.block 7 (j (y aa7) (j (y aa8) (j (Y amf) (.cond (.tmp 94) (y aa9) .skip))))) (y Qe)))))) (j (y aba) .ret)))))))
def abb:List dS:=[.oz 2,.oz 3]
def c66 [bM]:aB aj 61 102 d66 abb:=aB.of Tryz.f61 (by kernel_rfl)
def ahf:ai:=[
 B 0 1,
 Z 2]
def ahg:ai:=[
 a 0 1 3 [],
 l 3 4 [0]]
def ahh:ai:=[
 C .eql 4 3 6 [],
 m 6 5 [0]]
def ahi:ai:=[
 a 2 1 7 [],
 l 7 8 [0],
 o (.bslice 1 1 [V 0] [(0,1,(t 8))]) 9 [1],
 m 9 2 [2,0,1,2]]
def ahj:ai:=[
 C .eql 4 4 11 [],
 m 11 10 [0]]
def ahk:ai:=[
 a 2 1 12 [],
 l 12 13 [0],
 a 3 1 14 [],
 l 14 15 [2],
 o (.bslice 2 1 [V 0,V 0] [(0,1,(t 13)),(1,1,(t 15))]) 16 [1,3],
 m 16 2 (k [4] 4)]
def ahl:ai:=[
 Z 2]
def d93:DC:=(j (y ahf) (j (j (y ahg) (.block 0 (j (y ahh) (.cond (.tmp 5) (j (y ahi) .ret) (j (y ahj) (.cond (.tmp 10) (j (y ahk) .ret) .skip)))))) (j (y ahl) .ret)))
def c93 [bM]:aB aj 98 17 d93 (dm 2):=aB.of Tryz.f98 (by kernel_rfl)
def ahm:ai:=[
 B 0 2,
 o (.alloc [V 0,.aX]) 4 []]
def ahn:ai:=[
 Z 5]
def aho:ai:=[
 I 0 6]
def ahp:ai:=[
 n 6 9,
 a 3 2 10 [],
 l 10 11 [1],
 N 11 12 [2],
 b .lss 9 12 13 [0,3]]
def ahq:ai:=[
 a 3 2 16 [],
 l 16 17 [0],
 n 6 18,
 x 6 17 18 19 [1,2],
 L 6 19 20 [3],
 o (.alloc [V 0,V 0,V 0,V 0,V 0,V 0]) 7 [],
 S 6 7 20 (k [5,4] 5)]
def ahr:ai:=[
 a 4 7 21 [],
 l 21 22 [0],
 m 22 8 [1,0,1]]
def ahs:ai:=[
 a 0 7 23 [],
 l 23 24 [0],
 C .eql 24 2 25 [1]]
def aht:ai:=[
 n 8 26,
 n 1 27,
 a 2 7 28 [],
 l 28 29 [2],
 x 1 27 29 30 [1,3],
 l 30 31 [4],
 b .add 26 31 32 [0,5],
 m 32 8 (k [6] 6)]
def abc:ai:=[
 n 5 33,
 a 1 7 34 [],
 l 34 35 [1],
 L 6 7 36 [],
 o (.call 98 [(t 36)]) 37 [3],
 n 8 38,
 o (.build [V 0,.aX,V 0,V 0,V 0] [(0,1,(t 35)),(1,1,(t 37)),(2,1,(t 38))]) 39 [2,4,5],
 o (.bslice 1 5 [V 0,.aX,V 0,V 0,V 0] [(0,5,(t 39))]) 40 [6],
 o (.append 157 5 56 (t 33) (t 40)) 41 [0,7,4],
 m 41 5 (k [8,8] 8)]
def abd:ai:=[
 n 6 14,
 C .add 14 1 15 [0],
 m 15 6 [1,0,1]]
def abe:ai:=[
 a 1 2 42 [],
 l 42 43 [0],
 n 5 44,
 o (.build [V 0,.aX] [(0,1,(t 43)),(1,1,(t 44))]) 45 [1,2],
 S 2 4 45 [3,0,1,2,3]]
def d67:DC:=(j (y ahm) (j (y ahn) (j (j (y aho) (.block 0 (.loop (j (j (y ahp) (.cond (.tmp 13) .skip (.exit 0))) (j (.block 1 (j (y ahq) (j (y ahr) (j (j (y ahs) (.cond (.tmp 25) (y aht) .skip)) (Y abc))))) (y abd)))))) (j (y abe) .ret))))
def abf:List dS:=[.cell 4 2 true]
def c67 [bM]:aB aj 62 46 d67 abf:=aB.of Tryz.f62 (by kernel_rfl)
def ahu:ai:=[
 B 0 2,
 F 4]
def ahv:ai:=[
 n 1 6,
 N 6 7 [0],
 a 0 2 8 [],
 l 8 9 [2],
 b .neq 7 9 10 [1,3]]
def ahw:ai:=[
 F 4]
def ahx:ai:=[
 I 0 5]
def ahy:ai:=[
 n 5 11,
 n 1 12,
 N 12 13 [1],
 b .lss 11 13 14 [0,2]]
def SS:ai:=[
 n 1 17,
 n 5 18,
 x 1 17 18 19 [0,1],
 l 19 20 [2],
 C .lss 20 1 21 [3],
 m 21 22 [4],
 w 1 23 22 false [5],
 w 5 24 22 false [5],
 g (.idxAddr 1 (t 23) (t 24)) 25 22 false [6,7,5],
 v 25 26 22 false [8,5],
 E .gtr 26 60000 27 22 false [9,5],
 p 22 27 28 [5,10]]
def ahz:ai:=[
 F 4]
def ahA:ai:=[
 n 5 15,
 C .add 15 1 16 [0],
 m 16 5 [1,0,1]]
def ahB:ai:=[
 R 4]
def d44:DC:=(j (y ahu) (j (j (y ahv) (.cond (.tmp 10) (j (y ahw) .ret) .skip)) (j (j (y ahx) (.block 0 (.loop (j (j (y ahy) (.cond (.tmp 14) .skip (.exit 0))) (j (.block 1 (j (y SS) (.cond (.tmp 28) (j (y ahz) .ret) .skip))) (y ahA)))))) (j (y ahB) .ret))))
def c44 [bM]:aB aj 35 29 d44 (dm 4):=aB.of Tryz.f35 (by kernel_rfl)
def MJ:ai:=[
 B 0 2,
 Z 4]
def Fv:ai:=[
 L 4 2 7 [],
 o (.call 34 [(t 7)]) 8 [0],
 U 8 9 [1],
 m 9 10 [2,1],
 g (.load 4 true (t 2)) 11 10 false [3],
 w 1 12 10 false [3],
 g (.call 35 [(t 11),(t 12)]) 13 10 false [4,5,3,3],
 K 13 14 10 false [6,3],
 p 10 14 15 [3,7]]
def MK:ai:=[
 Z 4]
def ML:ai:=[
 L 4 2 17 [],
 n 1 18,
 o (.call 62 [(t 17),(t 18)]) 19 [0,1],
 o (.call 61 [(t 19)]) 20 [2,2],
 m 20 16 [3],
 e 0 16 21 [4],
 e 1 16 22 [4],
 m 21 5 (k [5,3] 5),
 m 22 6 (k [6,7] 7)]
def MM:ai:=[
 n 5 23,
 m 23 4 [0,0]]
def d45:DC:=(j (y MJ) (j (j (y Fv) (.cond (.tmp 15) (j (y MK) .ret) .skip)) (j (y ML) (j (y MM) .ret))))
def c45 [bM]:aB aj 36 24 d45 (dm 4):=aB.of Tryz.f36 (by kernel_rfl)
def ahC:ai:=[
 B 0 2,
 F 4]
def ST:ai:=[
 L 4 2 7 [],
 o (.call 34 [(t 7)]) 8 [0],
 U 8 9 [1],
 m 9 10 [2,1],
 g (.load 4 true (t 2)) 11 10 false [3],
 w 1 12 10 false [3],
 g (.call 35 [(t 11),(t 12)]) 13 10 false [4,5,3,3],
 K 13 14 10 false [6,3],
 p 10 14 15 [3,7]]
def ahD:ai:=[
 F 4]
def ahE:ai:=[
 L 4 2 16 [],
 n 1 17,
 o (.call 36 [(t 16),(t 17)]) 18 [0,1],
 m 18 5 [2,2,0,1,2]]
def ahF:ai:=[
 I 0 6]
def ahG:ai:=[
 n 6 19,
 n 5 20,
 N 20 21 [1],
 b .lss 19 21 22 [0,2]]
def ahH:ai:=[
 n 5 25,
 n 6 26,
 x 2 25 26 27 [0,1],
 a 1 27 28 [2],
 l 28 29 [3],
 C .gtr 29 1000 30 [4]]
def ahI:ai:=[
 F 4]
def ahJ:ai:=[
 n 6 23,
 C .add 23 1 24 [0],
 m 24 6 [1,0,1]]
def ahK:ai:=[
 R 4]
def d22:DC:=(j (y ahC) (j (j (y ST) (.cond (.tmp 15) (j (y ahD) .ret) .skip)) (j (y ahE) (j (j (y ahF) (.block 0 (.loop (j (j (y ahG) (.cond (.tmp 22) .skip (.exit 0))) (j (.block 1 (j (y ahH) (.cond (.tmp 30) (j (y ahI) .ret) .skip))) (y ahJ)))))) (j (y ahK) .ret)))))
def c22 [bM]:aB aj 22 31 d22 (dm 4):=aB.of Tryz.f22 (by kernel_rfl)
def ahL:ai:=[
 B 0 1,
 F 2]
def zM:ai:=[
 a 0 1 6 [],
 l 6 7 [0],
 C .lss 7 0 8 [1],
 m 8 9 [2],
 u 0 1 10 9 false [3],
 v 10 11 9 false [4,3],
 E .gtr 11 120 12 9 false [5,3],
 p 9 12 13 [3,6],
 m 13 14 [7,3],
 u 1 1 15 14 false [8],
 v 15 16 14 false [9,8],
 E .lss 16 1 17 14 false [10,8],
 p 14 17 18 [8,11],
 m 18 19 [12,8],
 u 1 1 20 19 false [13],
 v 20 21 19 false [14,13],
 E .gtr 21 1000 22 19 false [15,13],
 p 19 22 23 [13,16],
 m 23 24 [17,13],
 u 2 1 25 24 false [18],
 v 25 26 24 false [19,18],
 E .lss 26 0 27 24 false [20,18],
 p 24 27 28 [18,21],
 m 28 29 [22,18],
 u 2 1 30 29 false [23],
 v 30 31 29 false [24,23],
 u 1 1 32 29 false [23],
 v 32 33 29 false [26,23],
 D .geq 31 33 34 29 false [25,27,23],
 p 29 34 35 [23,28],
 m 35 36 [29,23],
 u 3 1 37 36 false [30],
 v 37 38 36 false [31,30],
 H 38 39 36 false [32,30],
 E .gtr 39 600 40 36 false [33,30],
 p 36 40 41 [30,34]]
def ahM:ai:=[
 F 2]
def ahN:ai:=[
 I 0 3]
def ahO:ai:=[
 n 3 42,
 a 3 1 43 [],
 l 43 44 [1],
 N 44 45 [2],
 b .lss 42 45 46 [0,3]]
def ahP:ai:=[
 a 3 1 49 [],
 l 49 50 [0],
 n 3 51,
 x 6 50 51 52 [1,2],
 L 6 52 53 [3],
 o (.alloc [V 0,V 0,V 0,V 0,V 0,V 0]) 4 [],
 S 6 4 53 (k [5,4] 5)]
def Fw:ai:=[
 a 1 4 54 [],
 l 54 55 [0],
 C .lss 55 0 56 [1],
 m 56 57 [2],
 u 1 4 58 57 false [3],
 v 58 59 57 false [4,3],
 u 1 1 60 57 false [3],
 v 60 61 57 false [6,3],
 D .geq 59 61 62 57 false [5,7,3],
 p 57 62 63 [3,8],
 m 63 64 [9,3],
 u 4 4 65 64 false [10],
 v 65 66 64 false [11,10],
 E .lss 66 0 67 64 false [12,10],
 p 64 67 68 [10,13],
 m 68 69 [14,10],
 u 4 4 70 69 false [15],
 v 70 71 69 false [16,15],
 E .gtr 71 1000 72 69 false [17,15],
 p 69 72 73 [15,18],
 m 73 74 [19,15],
 u 5 4 75 74 false [20],
 v 75 76 74 false [21,20],
 E .lss 76 (-1) 77 74 false [22,20],
 p 74 77 78 [20,23]]
def ahQ:ai:=[
 F 2]
def ahR:ai:=[
 F 5]
def ahS:ai:=[
 a 0 4 79 [],
 l 79 80 [0]]
def abg:ai:=[
 C .eql 80 1 82 [],
 m 82 81 [0]]
def J1:ai:=[
 a 2 4 83 [],
 l 83 84 [0],
 C .eql 84 0 85 [1],
 m 85 86 [2],
 u 3 4 87 86 true [3],
 v 87 88 86 true [4,3],
 E .eql 88 0 89 86 true [5,3],
 q 86 89 90 [3,6],
 m 90 5 (k [7,3] 7)]
def abh:ai:=[
 C .eql 80 2 92 [],
 m 92 91 [0]]
def Fx:ai:=[
 a 2 4 93 [],
 l 93 94 [0],
 C .geq 94 0 95 [1],
 m 95 96 [2],
 u 2 4 97 96 true [3],
 v 97 98 96 true [4,3],
 u 0 1 99 96 true [3],
 v 99 100 96 true [6,3],
 D .lss 98 100 101 96 true [5,7,3],
 q 96 101 102 [3,8],
 m 102 103 [9,3],
 u 3 4 104 103 true [10],
 v 104 105 103 true [11,10],
 E .eql 105 0 106 103 true [12,10],
 q 103 106 107 [10,13],
 m 107 5 (k [14,10] 14)]
def abi:ai:=[
 C .eql 80 3 109 [],
 m 109 108 [0]]
def Fy:ai:=[
 a 2 4 110 [],
 l 110 111 [0],
 C .geq 111 0 112 [1],
 m 112 113 [2],
 u 2 4 114 113 true [3],
 v 114 115 113 true [4,3],
 u 1 1 116 113 true [3],
 v 116 117 113 true [6,3],
 D .lss 115 117 118 113 true [5,7,3],
 q 113 118 119 [3,8],
 m 119 120 [9,3],
 u 3 4 121 120 true [10],
 v 121 122 120 true [11,10],
 E .eql 122 0 123 120 true [12,10],
 q 120 123 124 [10,13],
 m 124 5 (k [14,10] 14)]
def abj:ai:=[
 C .eql 80 4 126 [],
 m 126 125 [0]]
def Br:ai:=[
 a 2 4 127 [],
 l 127 128 [0],
 C .geq 128 0 129 [1],
 m 129 130 [2],
 u 2 4 131 130 true [3],
 v 131 132 130 true [4,3],
 u 1 1 133 130 true [3],
 v 133 134 130 true [6,3],
 D .lss 132 134 135 130 true [5,7,3],
 q 130 135 136 [3,8],
 m 136 137 [9,3],
 u 3 4 138 137 true [10],
 v 138 139 137 true [11,10],
 E .geq 139 0 140 137 true [12,10],
 q 137 140 141 [10,13],
 m 141 142 [14,10],
 u 3 4 143 142 true [15],
 v 143 144 142 true [16,15],
 u 1 1 145 142 true [15],
 v 145 146 142 true [18,15],
 D .lss 144 146 147 142 true [17,19,15],
 q 142 147 148 [15,20],
 m 148 5 (k [21,15] 21)]
def Bs:ai:=[
 n 5 149,
 U 149 150 [0]]
def Bt:ai:=[
 F 2]
def Bu:ai:=[
 n 3 47,
 C .add 47 1 48 [0],
 m 48 3 [1,0,1]]
def abk:ai:=[
 R 2]
def d20:DC:=(j (y ahL) (j (j (y zM) (.cond (.tmp 41) (j (y ahM) .ret) .skip)) (j (j (y ahN) (.block 0 (.loop (j (j (y ahO) (.cond (.tmp 46) .skip (.exit 0))) (j (.block 1 (j (y ahP) (j (j (y Fw) (.cond (.tmp 78) (j (y ahQ) .ret) .skip)) (j (y ahR) (j (j (y ahS) (.block 2 (j (y abg) (.cond (.tmp 81) (y J1) (j (y abh) (.cond (.tmp 91) (y Fx) (j (y abi) (.cond (.tmp 108) (y Fy) (j (y abj) (.cond (.tmp 125) (y Br) .skip)))))))))) (j (y Bs) (.cond (.tmp 150) (j (y Bt) .ret) .skip))))))) (y Bu)))))) (j (y abk) .ret))))
def c20 [bM]:aB aj 34 151 d20 (dm 2):=aB.of Tryz.f34 (by kernel_rfl)
def ahT:ai:=[
 B 0 3,
 I 0 6]
def ahU:ai:=[
 n 1 8,
 a 1 3 9 [],
 l 9 10 [1],
 b .mul 8 10 11 [0,2],
 n 1 12,
 n 1 13,
 C .sub 13 1 14 [5],
 b .mul 12 14 15 [4,6],
 C .quo 15 2 16 [7],
 b .sub 11 16 17 [3,8],
 m 17 7 (k [9] 9)]
def ahV:ai:=[
 n 7 18,
 n 2 19,
 b .add 18 19 20 [0,1],
 n 1 21,
 b .sub 20 21 22 [2,3],
 a 0 3 23 [],
 l 23 24 [5],
 b .mul 22 24 25 [4,6],
 m 25 6 (k [7] 7)]
def d64:DC:=(j (y ahT) (j (y ahU) (j (y ahV) .ret)))
def c64 [bM]:aB aj 151 26 d64 (dm 6):=aB.of Tryz.f151 (by kernel_rfl)
def ahW:ai:=[
 B 0 2,
 B 1 3,
 o (.alloc [V 0,V 0,V 0,V 0]) 4 []]
def Fz:ai:=[
 a 0 3 7 [],
 l 7 8 [0],
 C .lss 8 0 9 [1],
 m 9 10 [2],
 u 0 3 11 10 false [3],
 v 11 12 10 false [4,3],
 u 0 2 13 10 false [3],
 v 13 14 10 false [6,3],
 D .geq 12 14 15 10 false [5,7,3],
 p 10 15 16 [3,8],
 m 16 17 [9,3],
 u 1 3 18 17 false [10],
 v 18 19 17 false [11,10],
 E .lss 19 0 20 17 false [12,10],
 p 17 20 21 [10,13],
 m 21 22 [14,10],
 u 1 3 23 22 false [15],
 v 23 24 22 false [16,15],
 u 2 3 25 22 false [15],
 v 25 26 22 false [18,15],
 D .gtr 24 26 27 22 false [17,19,15],
 p 22 27 28 [15,20],
 m 28 29 [21,15],
 u 2 3 30 29 false [22],
 v 30 31 29 false [23,22],
 u 1 2 32 29 false [22],
 v 32 33 29 false [25,22],
 D .geq 31 33 34 29 false [24,26,22],
 p 29 34 35 [22,27]]
def ahX:ai:=[
 o (.load 4 true (.ia (.jd [(.int .i64 1099511627776),(.int .i64 0),(.int .i64 (-1)),(.int .i64 0)] 0))) 36 [],
 S 4 4 36 [0,0]]
def ahY:ai:=[
 a 2 2 37 [],
 l 37 38 [0],
 N 38 39 [1],
 m 39 5 [2,0,1,2]]
def MN:ai:=[
 a 2 3 40 [],
 l 40 41 [0],
 n 5 42,
 b .gtr 41 42 43 [1,2],
 m 43 44 [3],
 u 1 3 45 44 false [4],
 v 45 46 44 false [5,4],
 E .gtr 46 0 47 44 false [6,4],
 w 47 48 44 false [7,4,4],
 u 1 2 49 48 true [8],
 v 49 50 48 true [9,8],
 w 5 51 48 true [8],
 D .gtr 50 51 52 48 true [10,11,8],
 g (.pick (t 48) (t 52) (.ia (.v (.bool false)))) 53 44 false [8,12,4],
 p 44 53 54 [4,13],
 m 54 55 [14,8],
 u 2 3 56 55 false [15],
 v 56 57 55 false [16,15],
 E .gtr 57 0 58 55 false [17,15],
 w 58 59 55 false [18,15,15],
 u 0 2 60 59 true [19],
 v 60 61 59 true [20,19],
 w 5 62 59 true [19],
 D .gtr 61 62 63 59 true [21,22,19],
 g (.pick (t 59) (t 63) (.ia (.v (.bool false)))) 64 55 false [19,23,15],
 p 55 64 65 [15,24],
 m 65 66 [25,19],
 u 0 3 67 66 false [26],
 v 67 68 66 false [27,26],
 w 5 69 66 false [26],
 D .geq 68 69 70 66 false [28,29,26],
 p 66 70 71 [26,30]]
def apI:ai:=[
 o (.load 4 true (.ia (.jd [(.int .i64 1099511627776),(.int .i64 0),(.int .i64 (-1)),(.int .i64 0)] 0))) 72 [],
 S 4 4 72 [0,0]]
def ahZ:ai:=[
 L 3 2 73 [],
 a 1 3 74 [],
 l 74 75 [1],
 a 2 3 76 [],
 l 76 77 [3],
 o (.call 151 [(t 73),(t 75),(t 77)]) 78 [0,2,4],
 a 0 3 79 [],
 l 79 80 [6],
 b .add 78 80 81 [5,7],
 m 81 6 (k [8,5] 8)]
def ah0:ai:=[
 n 6 82,
 n 5 83,
 b .geq 82 83 84 [0,1]]
def apJ:ai:=[
 o (.load 4 true (.ia (.jd [(.int .i64 1099511627776),(.int .i64 0),(.int .i64 (-1)),(.int .i64 0)] 0))) 85 [],
 S 4 4 85 [0,0]]
def ah1:ai:=[
 a 2 2 86 [],
 l 86 87 [0],
 n 6 88,
 x 4 87 88 89 [1,2],
 L 4 89 90 [3],
 S 4 4 90 (k [4] 4)]
def d37:DC:=(j (y ahW) (j (j (y Fz) (.cond (.tmp 35) (j (y ahX) .ret) .skip)) (j (y ahY) (j (j (y MN) (.cond (.tmp 71) (j (y apI) .ret) .skip)) (j (Y ahZ) (j (j (y ah0) (.cond (.tmp 84) (j (y apJ) .ret) .skip)) (j (y ah1) .ret)))))))
def Qf:List dS:=[.cell 4 4 true]
def c37:aB aj 144 91 d37 Qf:=aB.of Tryz.f144 (by kernel_rfl)
def ah2:ai:=[
 B 0 2,
 B 1 3,
 F 4]
def MO:ai:=[
 a 0 2 5 [],
 l 5 6 [0],
 a 0 3 7 [],
 l 7 8 [2],
 b .lss 6 8 9 [1,3],
 m 9 10 [4],
 u 0 2 11 10 false [5],
 v 11 12 10 false [6,5],
 u 0 3 13 10 false [5],
 v 13 14 10 false [8,5],
 D .eql 12 14 15 10 false [7,9,5],
 w 15 16 10 false [10,5,5],
 u 1 2 17 16 true [11],
 v 17 18 16 true [12,11],
 u 1 3 19 16 true [11],
 v 19 20 16 true [14,11],
 D .lss 18 20 21 16 true [13,15,11],
 g (.pick (t 16) (t 21) (.ia (.v (.bool false)))) 22 10 false [11,16,5],
 p 10 22 23 [5,17],
 m 23 4 (k [18,11] 18)]
def d56:DC:=(j (y ah2) (j (y MO) .ret))
def c56 [bM]:aB aj 84 24 d56 (dm 4):=aB.of Tryz.f84 (by kernel_rfl)
def ah3:ai:=[
 o (.alloc [V 0,V 0]) 4 []]
def ah4:ai:=[
 n 0 8,
 o (.minmax false (t 8) (i 1099511627776)) 9 [0],
 o (.build [V 0,V 0] [(0,1,(t 9)),(1,1,(i 1))]) 10 [1],
 o (.alloc [V 0,V 0]) 5 [],
 S 2 5 10 [3,2,0,1,2,3]]
def ah5:ai:=[
 n 1 11,
 N 11 12 [0],
 I 0 13]
def ah6:ai:=[
 b .lss 13 12 14 []]
def ah7:ai:=[
 x 2 11 13 15 [],
 L 2 15 16 [0],
 o (.alloc [V 0,V 0]) 7 [],
 S 2 7 16 [2,1,0,1,2]]
def ah8:ai:=[
 a 0 5 17 [],
 l 17 18 [0],
 a 0 7 19 [],
 l 19 20 [2],
 b .add 18 20 21 [1,3],
 o (.minmax false (t 21) (i 1099511627776)) 22 [4],
 a 0 5 23 (k [] 5),
 S 1 23 22 (k [6,5] 5)]
def ah9:ai:=[
 a 1 5 24 [],
 l 24 25 [0],
 a 1 7 26 [],
 l 26 27 [2],
 b .add 25 27 28 [1,3],
 o (.minmax false (t 28) (i 1099511627776)) 29 [4],
 a 1 5 30 (k [] 5),
 S 1 30 29 (k [6,5] 5)]
def aia:ai:=[
 C .add 13 1 31 [],
 m 31 13 [0]]
def aib:ai:=[
 a 0 5 32 [],
 l 32 33 [0],
 C .eql 33 1099511627776 34 [1]]
def aic:ai:=[
 o (.build [V 0,V 0] [(0,1,(i 1099511627776))]) 35 [],
 S 2 4 35 [0,0]]
def abl:ai:=[
 L 2 5 36 [],
 S 2 4 36 [0,0]]
def d84:DC:=(j (y ah3) (j (y ah4) (j (j (y ah5) (.block 0 (.loop (j (y ah6) (j (.cond (.tmp 14) .skip (.exit 0)) (j (.block 1 (j (y ah7) (j (y ah8) (y ah9)))) (y aia))))))) (j (j (y aib) (.cond (.tmp 34) (j (y aic) .ret) .skip)) (j (y abl) .ret)))))
def Qg:List dS:=[.cell 4 2 true]
def c84 [bM]:aB aj 123 37 d84 Qg:=aB.of Tryz.f123 (by kernel_rfl)
def aid:ai:=[
 B 0 2,
 F 4]
def FA:ai:=[
 a 0 2 5 [],
 l 5 6 [0],
 C .eql 6 3 7 [1],
 m 7 8 [2],
 u 2 2 9 8 true [3],
 v 9 10 8 true [4,3],
 w 1 11 8 true [3],
 D .eql 10 11 12 8 true [5,6,3],
 q 8 12 13 [3,7],
 m 13 14 [8,3],
 u 0 2 15 14 false [9],
 v 15 16 14 false [10,9],
 E .eql 16 4 17 14 false [11,9],
 w 17 18 14 false [12,9,9],
 u 2 2 19 18 true [13],
 v 19 20 18 true [14,13],
 w 1 21 18 true [13],
 D .eql 20 21 22 18 true [15,16,13],
 w 22 23 18 true [17,13,13],
 u 3 2 24 23 false [18],
 v 24 25 23 false [19,18],
 w 1 26 23 false [18],
 D .eql 25 26 27 23 false [20,21,18],
 g (.pick (t 23) (.ia (.v (.bool true))) (t 27)) 28 18 true [18,22,13],
 g (.pick (t 18) (t 28) (.ia (.v (.bool false)))) 29 14 false [13,23,9],
 p 14 29 30 [9,24],
 m 30 4 (k [25,18] 25)]
def d86:DC:=(j (y aid) (j (y FA) .ret))
def c86 [bM]:aB aj 125 31 d86 (dm 4):=aB.of Tryz.f125 (by kernel_rfl)
def aie:ai:=[
 o (.alloc [V 0,V 0]) 8 []]
def SU:ai:=[
 n 2 9,
 n 0 10,
 c 10 11 [1],
 a 10 11 12 [2],
 l 12 13 [3],
 b .eql 9 13 14 [0,4],
 m 14 15 [5],
 w 3 16 15 true [6],
 w 0 17 15 true [6],
 g (.nilCheck (t 17)) 18 15 true [8,6],
 u 11 18 19 15 true [9,6],
 v 19 20 15 true [10,6],
 D .eql 16 20 21 15 true [7,11,6],
 q 15 21 22 [6,12]]
def aif:ai:=[
 n 0 23,
 c 23 24 [0],
 a 12 24 25 [1],
 l 25 26 [2],
 n 1 27,
 x 2 26 27 28 [3,4],
 L 2 28 29 [5],
 S 2 8 29 (k [6] 6)]
def aig:ai:=[
 n 0 30,
 c 30 31 [0],
 a 7 31 32 [1],
 L 3 32 33 [2],
 n 1 34,
 n 2 35,
 n 3 36,
 o (.build [V 0,V 0,V 0] [(0,1,(t 34)),(1,1,(t 35)),(2,1,(t 36))]) 37 [4,5,6],
 o (.call 144 [(t 33),(t 37)]) 38 [3,7],
 o (.field 0 2 true (t 38)) 39 [8],
 S 2 8 39 (k [9,8] 9)]
def d83:DC:=(j (y aie) (j (j (y SU) (.cond (.tmp 22) (j (y aif) .ret) .skip)) (j (y aig) .ret)))
def Qh:List dS:=[.cell 8 2 true]
def c83 [bM]:aB aj 122 40 d83 Qh:=aB.of Tryz.f122 (by kernel_rfl)
def abm:ai:=[
 F 4]
def abn:ai:=[
 n 1 7,
 N 7 8 [0],
 I 0 9]
def abo:ai:=[
 b .lss 9 8 10 []]
def aih:ai:=[
 x 3 7 9 11 [],
 L 3 11 12 [0],
 o (.alloc [V 0,V 0,V 0]) 6 [],
 S 3 6 12 [2,1,0,1,2]]
def SW:ai:=[
 a 1 6 13 [],
 l 13 14 [0],
 n 0 15,
 c 15 16 [2],
 a 10 16 17 [3],
 l 17 18 [4],
 b .eql 14 18 19 [1,5],
 m 19 20 [6],
 u 2 6 21 20 true [7],
 v 21 22 20 true [8,7],
 w 0 23 20 true [7],
 g (.nilCheck (t 23)) 24 20 true [10,7],
 u 11 24 25 20 true [11,7],
 v 25 26 20 true [12,7],
 D .eql 22 26 27 20 true [9,13,7],
 q 20 27 28 [7,14]]
def aii:ai:=[
 R 4]
def aij:ai:=[
 C .add 9 1 29 [],
 m 29 9 [0]]
def abp:ai:=[
 F 4]
def d59:DC:=(j (y abm) (j (j (y abn) (.block 0 (.loop (j (y abo) (j (.cond (.tmp 10) .skip (.exit 0)) (j (.block 1 (j (y aih) (j (Y SW) (.cond (.tmp 28) (j (y aii) .ret) .skip)))) (y aij))))))) (j (y abp) .ret)))
def c59 [bM]:aB aj 87 30 d59 (dm 4):=aB.of Tryz.f87 (by kernel_rfl)
def abq:ai:=[
 o (.alloc [V 0,V 0]) 6 []]
def abr:ai:=[
 Z 7]
def abs:ai:=[
 n 2 10,
 N 10 11 [0],
 I 0 12]
def abt:ai:=[
 b .lss 12 11 13 []]
def aik:ai:=[
 x 3 10 12 14 [],
 L 3 14 15 [0],
 o (.alloc [V 0,V 0,V 0]) 9 [],
 S 3 9 15 [2,1,0,1,2]]
def Qi:ai:=[
 n 7 16,
 n 0 17,
 a 0 9 18 [],
 l 18 19 [2],
 a 1 9 20 [],
 l 20 21 [4],
 a 2 9 22 [],
 l 22 23 [6],
 o (.callS 122 [(t 17),(t 19),(t 21),(t 23)]) 24 [1,3,5,7],
 o (.bslice 1 2 [V 0,V 0] [(0,2,(t 24))]) 25 [8],
 o (.append 63 2 16 (t 16) (t 25)) 26 [0,9,8],
 m 26 7 (k [10,10] 10)]
def apK:ai:=Qi.map bare
def ail:ai:=[
 C .add 12 1 27 [],
 m 27 12 [0]]
def abu:ai:=[
 n 1 28,
 n 7 29,
 o (.call 123 [(t 28),(t 29)]) 30 [0,1],
 S 2 6 30 [2,2,0,1,2]]
def d61:DC:=(j (y abq) (j (y abr) (j (j (y abs) (.block 0 (.loop (j (y abt) (j (.cond (.tmp 13) .skip (.exit 0)) (j (.block 1 (j (y aik) (y apK))) (y ail))))))) (j (y abu) .ret))))
def Qj:List dS:=[.cell 6 2 true]
def c61 [bM]:aB aj 89 31 d61 Qj:=aB.of Tryz.f89 (by kernel_rfl)
def aim:ai:=[
 F 4]
def ain:ai:=[
 n 1 7,
 N 7 8 [0],
 I 0 9]
def aio:ai:=[
 b .lss 9 8 10 []]
def aip:ai:=[
 x 3 7 9 11 [],
 L 3 11 12 [0],
 o (.alloc [V 0,V 0,V 0]) 6 [],
 S 3 6 12 [2,1,0,1,2]]
def SX:ai:=[
 a 1 6 13 [],
 l 13 14 [0],
 n 0 15,
 c 15 16 [2],
 a 10 16 17 [3],
 l 17 18 [4],
 b .eql 14 18 19 [1,5],
 m 19 20 [6],
 u 2 6 21 20 true [7],
 v 21 22 20 true [8,7],
 w 0 23 20 true [7],
 g (.nilCheck (t 23)) 24 20 true [10,7],
 u 11 24 25 20 true [11,7],
 v 25 26 20 true [12,7],
 D .eql 22 26 27 20 true [9,13,7],
 q 20 27 28 [7,14],
 m 28 29 [15,7],
 w 0 30 29 true [16],
 g (.nilCheck (t 30)) 31 29 true [17,16],
 u 13 31 32 29 true [18,16],
 v 32 33 29 true [19,16],
 u 0 6 34 29 true [16],
 v 34 35 29 true [21,16],
 g (.idxAddr 1 (t 33) (t 35)) 36 29 true [20,22,16],
 v 36 37 29 true [23,16],
 K 37 38 29 true [24,16],
 q 29 38 39 [16,25]]
def aiq:ai:=[
 F 4]
def air:ai:=[
 C .add 9 1 40 [],
 m 40 9 [0]]
def ais:ai:=[
 R 4]
def d89:DC:=(j (y aim) (j (j (y ain) (.block 0 (.loop (j (y aio) (j (.cond (.tmp 10) .skip (.exit 0)) (j (.block 1 (j (y aip) (j (Y SX) (.cond (.tmp 39) (j (y aiq) .ret) .skip)))) (y air))))))) (j (y ais) .ret)))
def c89 [bM]:aB aj 128 41 d89 (dm 4):=aB.of Tryz.f128 (by kernel_rfl)
def MP:ai:=[
 o (.sh (.ia (.v (.pO (Go.Value.pointer Option.none))))) 2 []]
def MQ:ai:=[
 n 0 3,
 o (.mkMap [(.int .i64)] false) 4 [],
 o (.build [(.v (.pO (Go.Value.nilFunc))),.aX,(.v (.pO (Go.Value.map Option.none))),V 0,V 0] [(0,1,(t 3)),(2,1,(t 4))]) 5 [0,1],
 o (.box (t 5)) 6 [2],
 m 6 2 [3,0,1,2,3]]
def d54:DC:=(j (y MP) (j (y MQ) .ret))
def c54 [bM]:aB aj 82 7 d54 (dm 2):=aB.of Tryz.f82 (by kernel_rfl)
def abv:ai:=[
 F 6]
def Qk:ai:=[
 n 0 9,
 c 9 10 [0],
 a 1 10 11 [1],
 l 11 12 [2],
 n 1 13,
 x 3 12 13 14 [3,4],
 L 3 14 15 [5],
 n 0 16,
 c 16 17 [7],
 a 1 17 18 [8],
 l 18 19 [9],
 n 2 20,
 x 3 19 20 21 [10,11],
 L 3 21 22 [12],
 o (.alloc [V 0,V 0,V 0]) 7 [],
 o (.alloc [V 0,V 0,V 0]) 8 [],
 S 3 7 15 [14,6,0,1,2,3,4,5,6,14,15],
 S 3 8 22 (k [15,13,16] 16)]
def abw:ai:=[
 n 0 23,
 c 23 24 [0],
 a 0 24 25 [1],
 l 25 26 [2],
 a 0 7 27 [],
 l 27 28 [4],
 a 0 8 29 [],
 l 29 30 [6],
 o (.callv (t 26) [(t 28),(t 30)]) 31 [3,5,7]]
def abx:ai:=[
 R 6]
def Ql:ai:=[
 n 0 32,
 c 32 33 [0],
 a 0 33 34 [1],
 l 34 35 [2],
 a 0 8 36 [],
 l 36 37 [4],
 a 0 7 38 [],
 l 38 39 [6],
 o (.callv (t 35) [(t 37),(t 39)]) 40 [3,5,7],
 U 40 41 [8],
 m 41 42 [9,8],
 u 2 7 43 42 true [10],
 v 43 44 42 true [11,10],
 u 2 8 45 42 true [10],
 v 45 46 42 true [13,10],
 D .lss 44 46 47 42 true [12,14,10],
 q 42 47 48 [10,15],
 m 48 6 (k [16,10] 16)]
def aud:DC:=(j (y abv) (j (.jQ Qk) (j (j (Y abw) (.cond (.tmp 31) (j (y abx) .ret) .skip)) (j (Y Ql) .ret))))
def aue [bM]:aB aj 150 49 aud (dm 6):=aB.of Tryz.f150 (by kernel_rfl)
def aby:ai:=[
 n 0 6,
 c 6 7 [0],
 a 1 7 8 [1],
 l 8 9 [2],
 n 1 10,
 n 0 11,
 c 11 12 [5],
 a 1 12 13 [6],
 l 13 14 [7],
 n 2 15,
 n 0 16,
 c 16 17 [10],
 a 1 17 18 [11],
 l 18 19 [12],
 n 2 20,
 x 3 19 20 21 [13,14],
 L 3 21 22 [15],
 n 0 23,
 c 23 24 [17],
 a 1 24 25 [18],
 l 25 26 [19],
 n 1 27,
 x 3 26 27 28 [20,21],
 L 3 28 29 [22],
 x 3 9 10 30 [3,4,0,1,2,3,4,8,10,11,12,13,14,15,16,20,23],
 S 3 30 22 [24,16,0,1,2,3,4,8,10,11,12,13,14,15,16,20,23],
 x 3 14 15 31 (k [8,9] 25),
 S 3 31 29 (k [26,23,25] 25)]
def abz:ai:=[
 n 0 32,
 c 32 33 [0],
 a 2 33 34 [1],
 l 34 35 [2],
 n 0 36,
 c 36 37 [4],
 a 1 37 38 [5],
 l 38 39 [6],
 n 1 40,
 x 3 39 40 41 [7,8],
 a 1 41 42 [9],
 l 42 43 [10],
 n 0 44,
 c 44 45 [12],
 a 2 45 46 [13],
 l 46 47 [14],
 n 0 48,
 c 48 49 [16],
 a 1 49 50 [17],
 l 50 51 [18],
 n 2 52,
 x 3 51 52 53 [19,20],
 a 1 53 54 [21],
 l 54 55 [22],
 n 1 56,
 n 2 57,
 o (.mapEnt [(.int .i64)] false (.v (.int .i64 0)) (t 35) (t 43)) 58 [3,11,15,19,23],
 e 1 58 59 [26],
 s (.entSt (t 35) (t 59) (t 56)) [3,27,24,26,0,1,2,3,4,5,6,7,8,9,10,11,15,19,23,24,26],
 o (.mapEnt [(.int .i64)] false (.v (.int .i64 0)) (t 47) (t 55)) 60 [15,23,28,0,1,2,3,4,5,6,7,8,9,10,11,15,19,23,24,26,27,28],
 e 1 60 61 [29],
 s (.entSt (t 47) (t 61) (t 57)) (k [15,30,25,29] 29)]
def auf:DC:=(j (Y aby) (Y abz))
def SY:List dS:=[]
def aug [bM]:aB aj 145 62 auf SY:=aB.of Tryz.f145 (by kernel_rfl)
def zN:ai:=[
 n 1 4,
 C .gtr 4 0 5 [0],
 m 5 6 [1],
 w 0 7 6 true [2],
 w 1 8 6 true [2],
 w 1 9 6 true [2],
 E .sub 9 1 10 6 true [5,2],
 E .quo 10 2 11 6 true [6,2],
 g (.callS 150 [(t 7),(t 8),(t 11)]) 12 6 true [3,4,7,2,2],
 q 6 12 13 [2,8]]
def amg:ai:=zN.map bare
def J2:ai:=[
 n 0 14,
 n 1 15,
 n 1 16,
 C .sub 16 1 17 [2],
 C .quo 17 2 18 [3],
 o (.callS 145 [(t 14),(t 15),(t 18)]) 19 [0,1,4]]
def amh:ai:=J2.map bare
def abA:ai:=[
 n 1 20,
 C .sub 20 1 21 [0],
 C .quo 21 2 22 [1],
 m 22 1 [2,0,1,2]]
def auh:DC:=(.block 0 (.loop (j (j (y amg) (.cond (.tmp 13) .skip (.exit 0))) (.block 1 (j (y amh) (y abA))))))
def J3:List dS:=[]
def aui [bM]:aB aj 142 23 auh J3:=aB.of Tryz.f142 (by kernel_rfl)
def abB:ai:=[
 n 1 6,
 m 6 4 [0,0]]
def abC:ai:=[
 n 1 7,
 o (.bin .mul (i 2) (t 7)) 8 [0],
 C .add 8 1 9 [1],
 m 9 5 [2,0,1,2]]
def J4:ai:=[
 n 5 10,
 n 1 11,
 o (.bin .mul (i 2) (t 11)) 12 [1],
 C .add 12 2 13 [2],
 b .leq 10 13 14 [0,3],
 m 14 15 [4],
 w 5 16 15 true [5],
 w 0 17 15 true [5],
 g (.nilCheck (t 17)) 18 15 true [7,5],
 u 1 18 19 15 true [8,5],
 v 19 20 15 true [9,5],
 H 20 21 15 true [10,5],
 D .lss 16 21 22 15 true [6,11,5],
 q 15 22 23 [5,12]]
def J5:ai:=[
 n 0 26,
 n 5 27,
 n 4 28,
 o (.callS 150 [(t 26),(t 27),(t 28)]) 29 [0,1,2]]
def ami:ai:=J5.map bare
def abD:ai:=[
 n 5 30,
 m 30 4 [0,0]]
def abE:ai:=[
 n 5 24,
 C .add 24 1 25 [0],
 m 25 5 [1,0,1]]
def abF:ai:=[
 n 4 31,
 n 1 32,
 b .eql 31 32 33 [0,1]]
def J6:ai:=[
 n 0 34,
 n 1 35,
 n 4 36,
 o (.callS 145 [(t 34),(t 35),(t 36)]) 37 [0,1,2]]
def amj:ai:=J6.map bare
def abG:ai:=[
 n 4 38,
 m 38 1 [0,0]]
def auj:DC:=(.block 0 (.loop (.block 1 (j (y abB) (j (j (y abC) (.block 2 (.loop (j (j (y J4) (.cond (.tmp 23) .skip (.exit 2))) (j (.block 3 (j (y ami) (.cond (.tmp 29) (y abD) .skip))) (y abE)))))) (j (j (y abF) (.cond (.tmp 33) .ret .skip)) (j (y amj) (y abG))))))))
def SZ:List dS:=[]
def auk [bM]:aB aj 143 39 auj SZ:=aB.of Tryz.f143 (by kernel_rfl)
def ait:ai:=[
 I 0 4]
def aiu:ai:=[
 n 0 7,
 c 7 8 [0],
 a 3 8 9 [1],
 l 9 10 [2],
 n 0 11,
 c 11 12 [4],
 a 1 12 13 [5],
 l 13 14 [6],
 N 14 15 [7],
 m 10 5 [3,0,1,2,3],
 m 15 6 (k [8,9] 9)]
def aiv:ai:=[
 n 0 16,
 n 0 17,
 c 17 18 [1],
 a 1 18 19 [2],
 l 19 20 [3],
 n 1 21,
 n 5 22,
 n 0 23,
 c 23 24 [7],
 a 4 24 25 [8],
 l 25 26 [9],
 o (.build [V 0,V 0,V 0] [(0,1,(t 21)),(1,1,(t 22)),(2,1,(t 26))]) 27 [5,6,10],
 o (.bslice 1 3 [V 0,V 0,V 0] [(0,3,(t 27))]) 28 [11],
 o (.append 220 3 24 (t 20) (t 28)) 29 [4,12],
 c 16 30 (k [0] 13),
 a 1 30 31 (k [14] 13),
 S 1 31 29 (k [15,13,13] 13)]
def aiw:ai:=[
 n 0 32,
 c 32 33 [0],
 a 2 33 34 [1],
 l 34 35 [2],
 n 5 36,
 n 6 37,
 s (.mapUpd [(.int .i64)] false (t 35) (t 36) (t 37)) (k [3,4,5] 5)]
def aix:ai:=[
 n 0 38,
 n 0 39,
 n 0 40,
 c 40 41 [2],
 a 3 41 42 [3],
 l 42 43 [4],
 C .add 43 1 44 [5],
 n 0 45,
 c 45 46 [7],
 a 4 46 47 [8],
 l 47 48 [9],
 C .add 48 1 49 [10],
 c 38 50 [0,0,2,3,4,5,6,10],
 a 3 50 51 [12,0,2,3,4,5,6,10],
 S 1 51 44 [13,6,0,2,3,4,5,6,10],
 c 39 52 (k [1] 14),
 a 4 52 53 (k [15] 14),
 S 1 53 49 (k [16,11,14] 14)]
def Qm:ai:=[
 n 0 54,
 n 6 55,
 o (.callS 142 [(t 54),(t 55)]) 56 [0,1]]
def apL:ai:=Qm.map bare
def aiy:ai:=[
 n 5 57,
 m 57 4 [0,0]]
def d82:DC:=(j (y ait) (j (Y aiu) (j (Y aiv) (j (y aiw) (j (Y aix) (j (y apL) (j (y aiy) .ret)))))))
def c82 [bM]:aB aj 121 58 d82 (dm 4):=aB.of Tryz.f121 (by kernel_rfl)
def aiz:ai:=[
 I 0 2,
 o (.sh (.ia (.v (.bool false)))) 3 [0]]
def aiA:ai:=[
 n 0 6,
 c 6 7 [0],
 a 1 7 8 [1],
 l 8 9 [2],
 N 9 10 [3],
 C .eql 10 0 11 [4]]
def aiB:ai:=[
 o (.alloc [V 0]) 12 [],
 c 12 13 [0],
 l 13 14 [1],
 m 14 2 [2,0,1,2],
 o (.sh (.ia (.v (.bool false)))) 3 [3,0,1,2,3]]
def abH:ai:=[
 n 0 15,
 c 15 16 [0],
 a 1 16 17 [1],
 l 17 18 [2],
 o (.idxAddr 3 (t 18) (i 0)) 19 [3],
 L 3 19 20 [4],
 n 0 21,
 c 21 22 [6],
 a 1 22 23 [7],
 l 23 24 [8],
 N 24 25 [9],
 C .sub 25 1 26 [10],
 o (.alloc [V 0,V 0,V 0]) 4 [],
 S 3 4 20 [12,5,0,1,2,3,4,5,12],
 m 26 5 (k [11,13] 13)]
def Qn:ai:=[
 n 0 27,
 n 5 28,
 o (.callS 145 [(t 27),(i 0),(t 28)]) 29 [0,1]]
def apM:ai:=Qn.map bare
def aiC:ai:=[
 n 0 30,
 n 0 31,
 c 31 32 [1],
 a 1 32 33 [2],
 l 33 34 [3],
 n 5 35,
 o (.slice 3 (t 34) none (some (t 35))) 36 [4,5],
 c 30 37 (k [0] 6),
 a 1 37 38 (k [7] 6),
 S 1 38 36 (k [8,6] 6)]
def aiD:ai:=[
 n 0 39,
 c 39 40 [0],
 a 2 40 41 [1],
 l 41 42 [2],
 a 1 4 43 [],
 l 43 44 [4],
 s (.mapDel [(.int .i64)] false (t 42) (t 44)) [3,5]]
def Qo:ai:=[
 n 0 45,
 o (.callS 143 [(t 45),(i 0)]) 46 [0]]
def apN:ai:=Qo.map bare
def aiE:ai:=[
 a 0 4 47 [],
 l 47 48 [0],
 m 48 2 [1,0,1],
 o (.sh (.ia (.v (.bool true)))) 3 [2,0,1,2]]
def d85:DC:=(j (y aiz) (j (j (y aiA) (.cond (.tmp 11) (j (y aiB) .ret) .skip)) (j (.jQ abH) (j (y apM) (j (y aiC) (j (Y aiD) (j (y apN) (j (y aiE) .ret))))))))
def Qp:List dS:=[.oz 2,.oz 3]
def c85 [bM]:aB aj 124 49 d85 Qp:=aB.of Tryz.f124 (by kernel_rfl)
def aiF:ai:=[
 F 6]
def aiG:ai:=[
 n 0 10,
 c 10 11 [0],
 a 2 11 12 [1],
 l 12 13 [2],
 n 1 14,
 o (.lookup [(.int .i64)] false (.v (.int .i64 0)) true (t 13) (t 14)) 15 [3,4],
 m 15 9 [5],
 e 0 9 16 [6],
 e 1 9 17 [6],
 m 16 7 (k [7] 7),
 m 17 8 (k [8,9] 9)]
def aiH:ai:=[
 n 8 18,
 U 18 19 [0]]
def apO:ai:=[
 F 6]
def aiI:ai:=[
 n 0 20,
 c 20 21 [0],
 a 1 21 22 [1],
 l 22 23 [2],
 n 7 24,
 n 0 25,
 c 25 26 [5],
 a 1 26 27 [6],
 l 27 28 [7],
 n 7 29,
 n 2 30,
 n 0 31,
 c 31 32 [11],
 a 4 32 33 [12],
 l 33 34 [13],
 x 3 23 24 35 [3,4,0,1,2,3,4,8,10,14],
 a 0 35 36 [15,0,1,2,3,4,8,10,14],
 S 1 36 30 [16,10,0,1,2,3,4,8,10,14],
 x 3 28 29 37 (k [8,9] 17),
 a 2 37 38 (k [18] 17),
 S 1 38 34 (k [19,14,17] 17)]
def aiJ:ai:=[
 n 0 39,
 c 39 40 [0],
 a 4 40 41 [1],
 l 41 42 [2],
 C .add 42 1 43 [3],
 c 39 44 (k [0] 4),
 a 4 44 45 (k [5] 4),
 S 1 45 43 (k [6,4] 4)]
def Qq:ai:=[
 n 0 46,
 n 7 47,
 o (.callS 142 [(t 46),(t 47)]) 48 [0,1]]
def apP:ai:=Qq.map bare
def Qr:ai:=[
 n 0 49,
 n 0 50,
 c 50 51 [1],
 a 2 51 52 [2],
 l 52 53 [3],
 n 1 54,
 o (.lookup [(.int .i64)] false (.v (.int .i64 0)) false (t 53) (t 54)) 55 [4,5],
 o (.callS 143 [(t 49),(t 55)]) 56 [0,6]]
def apQ:ai:=Qr.map bare
def aiK:ai:=[
 R 6]
def d81:DC:=(j (y aiF) (j (y aiG) (j (j (y aiH) (.cond (.tmp 19) (j (y apO) .ret) .skip)) (j (Y aiI) (j (y aiJ) (j (y apP) (j (y apQ) (j (y aiK) .ret))))))))
def c81 [bM]:aB aj 120 57 d81 (dm 6):=aB.of Tryz.f120 (by kernel_rfl)
def MR:ai:=[
 B 2 5]
def CP:ai:=[
 n 0 6,
 c 6 7 [0],
 a 13 7 8 [1],
 l 8 9 [2],
 n 1 10,
 x 1 9 10 11 [3,4],
 l 11 12 [5],
 m 12 13 [6],
 u 0 5 14 13 false [7],
 v 14 15 13 false [8,7],
 E .geq 15 1099511627776 16 13 false [9,7],
 p 13 16 17 [7,10],
 m 17 18 [11,7],
 g (.load 2 true (t 5)) 19 18 false [12],
 w 0 20 18 false [12],
 g (.nilCheck (t 20)) 21 18 false [14,12],
 u 12 21 22 18 false [15,12],
 v 22 23 18 false [16,12],
 w 1 24 18 false [12],
 g (.idxAddr 2 (t 23) (t 24)) 25 18 false [17,18,12],
 g (.load 2 true (t 25)) 26 18 false [19,12],
 g (.call 84 [(t 19),(t 26)]) 27 18 false [13,20,12,12],
 K 27 28 18 false [21,12],
 p 18 28 29 [12,22]]
def MS:ai:=[
 n 0 30,
 c 30 31 [0],
 a 12 31 32 [1],
 l 32 33 [2],
 n 1 34,
 L 2 5 35 [],
 x 2 33 34 36 (k [3,4] 5),
 S 2 36 35 (k [6,5] 5)]
def MT:ai:=[
 n 0 37,
 c 37 38 [0],
 a 14 38 39 [1],
 l 39 40 [2],
 n 1 41,
 x 1 40 41 42 [3,4],
 l 42 43 [5],
 C .geq 43 0 44 [6]]
def Ta:ai:=[
 n 0 45,
 c 45 46 [0],
 a 15 46 47 [1],
 l 47 48 [2],
 n 0 49,
 c 49 50 [4],
 a 14 50 51 [5],
 l 51 52 [6],
 n 1 53,
 x 1 52 53 54 [7,8],
 l 54 55 [9],
 n 1 56,
 o (.call 120 [(t 48),(t 55),(t 56)]) 57 [3,10,11]]
def abI:ai:=[
 n 0 45,
 c 45 46 [0],
 a 15 46 47 [1],
 l 47 48 [2],
 n 0 49,
 c 49 50 [4],
 a 14 50 51 [5],
 l 51 52 [6],
 n 1 53,
 x 1 52 53 54 [7,8],
 l 54 55 [9],
 n 1 56,
 o (.callS 120 [(t 48),(t 55),(t 56)]) 57 [3,10,11]]
def Tb:ai:=[
 n 0 58,
 c 58 59 [0],
 a 14 59 60 [1],
 l 60 61 [2],
 n 1 62,
 n 0 63,
 c 63 64 [5],
 a 15 64 65 [6],
 l 65 66 [7],
 n 1 67,
 o (.call 121 [(t 66),(t 67)]) 68 [8,9],
 x 1 61 62 69 (k [3,4] 10),
 S 1 69 68 (k [11,10,10] 10)]
def abJ:ai:=[
 n 0 58,
 c 58 59 [0],
 a 14 59 60 [1],
 l 60 61 [2],
 n 1 62,
 n 0 63,
 c 63 64 [5],
 a 15 64 65 [6],
 l 65 66 [7],
 n 1 67,
 o (.callS 121 [(t 66),(t 67)]) 68 [8,9],
 x 1 61 62 69 (k [3,4] 10),
 S 1 69 68 (k [11,10,10] 10)]
def d60:DC:=(j (y MR) (j (j (Y CP) (.cond (.tmp 29) .ret .skip)) (j (Y MS) (j (y MT) (.cond (.tmp 44) (Y Ta) (Y Tb))))))
def x7:List dS:=[]
def c60 [bM]:aB aj 88 70 d60 x7:=aB.of Tryz.f88 (by kernel_rfl)
def abK:ai:=[
 I 0 4]
def abL:ai:=[
 n 0 8,
 I 0 5,
 m 8 6 [0,1,0,1]]
def abM:ai:=[
 n 5 9,
 n 6 10,
 b .lss 9 10 11 [0,1]]
def abN:ai:=[
 n 5 12,
 n 6 13,
 b .add 12 13 14 [0,1],
 o (.conv .u64 (t 14)) 15 [2],
 o (.bin .shr (t 15) (.ia (.v (.int .u64 1)))) 16 [3],
 o (.conv .i64 (t 16)) 17 [4],
 m 17 7 (k [5] 5)]
def abO:ai:=[
 n 1 18,
 n 7 19,
 o (.callv (t 18) [(t 19)]) 20 [0,1],
 U 20 21 [2]]
def abP:ai:=[
 n 7 22,
 C .add 22 1 23 [0],
 m 23 5 [1,0,1]]
def abQ:ai:=[
 n 7 24,
 m 24 6 [0,0]]
def abR:ai:=[
 n 5 25,
 m 25 4 [0,0]]
def aul:DC:=(j (y abK) (j (y abL) (j (.block 0 (.loop (j (j (y abM) (.cond (.tmp 11) .skip (.exit 0))) (.block 1 (j (y abN) (j (y abO) (.cond (.tmp 21) (y abP) (y abQ)))))))) (j (y abR) .ret))))
def aum [bM]:aB aj 140 26 aul (dm 4):=aB.of Tryz.f140 (by kernel_rfl)
def abS:ai:=[
 F 3]
def abT:ai:=[
 l 1 5 [],
 c 5 6 [0],
 a 4 6 7 [1],
 a 1 7 8 [2],
 l 8 9 [3],
 n 0 10,
 x 5 9 10 11 [4,5],
 L 5 11 12 [6],
 o (.alloc [V 0,V 0,V 0,V 0,.aX]) 4 [],
 S 5 4 12 (k [8,7] 8)]
def FB:ai:=[
 a 0 4 13 [],
 l 13 14 [0],
 l 1 15 [],
 c 15 16 [2],
 a 10 16 17 [3],
 l 17 18 [4],
 b .gtr 14 18 19 [1,5],
 m 19 20 [6],
 u 0 4 21 20 false [7],
 v 21 22 20 false [8,7],
 v 1 23 20 false [7],
 g (.nilCheck (t 23)) 24 20 false [10,7],
 u 10 24 25 20 false [11,7],
 v 25 26 20 false [12,7],
 D .eql 22 26 27 20 false [9,13,7],
 w 27 28 20 false [14,7,7],
 u 1 4 29 28 true [15],
 v 29 30 28 true [16,15],
 v 1 31 28 true [15],
 g (.nilCheck (t 31)) 32 28 true [18,15],
 u 11 32 33 28 true [19,15],
 v 33 34 28 true [20,15],
 D .geq 30 34 35 28 true [17,21,15],
 g (.pick (t 28) (t 35) (.ia (.v (.bool false)))) 36 20 false [15,22,7],
 p 20 36 37 [7,23],
 m 37 3 (k [24,15] 24)]
def aun:DC:=(j (y abS) (j (y abT) (j (Y FB) .ret)))
def auo [bM]:aB aj 141 38 aun (dm 3):=aB.of Tryz.f141 (by kernel_rfl)
def aiL:ai:=[
 B 0 1,
 I 0 2,
 o (.sh (i 0)) 3 [1]]
def Qt:ai:=[
 l 1 6 [],
 c 6 7 [0],
 a 4 7 8 [1],
 a 1 8 9 [2],
 l 9 10 [3],
 N 10 11 [4],
 o (.mkFn (.func 141) [(t 1)]) 12 [],
 o (.callS 140 [(t 11),(t 12)]) 13 [5,6],
 m 13 4 (k [7,7] 7)]
def apR:ai:=Qt.map bare
def aiM:ai:=[
 n 4 14,
 m 14 5 [0,0]]
def MU:ai:=[
 n 5 15,
 l 1 16 [],
 c 16 17 [1],
 a 4 17 18 [2],
 a 1 18 19 [3],
 l 19 20 [4],
 N 20 21 [5],
 b .lss 15 21 22 [0,6],
 m 22 23 [7],
 v 1 24 23 true [8],
 g (.nilCheck (t 24)) 25 23 true [9,8],
 u 4 25 26 23 true [10,8],
 u 1 26 27 23 true [11,8],
 v 27 28 23 true [12,8],
 w 5 29 23 true [8],
 g (.idxAddr 5 (t 28) (t 29)) 30 23 true [13,14,8],
 u 0 30 31 23 true [15,8],
 v 31 32 23 true [16,8],
 v 1 33 23 true [8],
 g (.nilCheck (t 33)) 34 23 true [18,8],
 u 10 34 35 23 true [19,8],
 v 35 36 23 true [20,8],
 D .eql 32 36 37 23 true [17,21,8],
 q 23 37 38 [8,22],
 m 38 39 [23,8],
 v 1 40 39 true [24],
 g (.nilCheck (t 40)) 41 39 true [25,24],
 u 4 41 42 39 true [26,24],
 u 1 42 43 39 true [27,24],
 v 43 44 39 true [28,24],
 w 5 45 39 true [24],
 g (.idxAddr 5 (t 44) (t 45)) 46 39 true [29,30,24],
 u 1 46 47 39 true [31,24],
 v 47 48 39 true [32,24],
 v 1 49 39 true [24],
 g (.nilCheck (t 49)) 50 39 true [34,24],
 u 11 50 51 39 true [35,24],
 v 51 52 39 true [36,24],
 D .eql 48 52 53 39 true [33,37,24],
 q 39 53 54 [24,38]]
def aiN:ai:=[
 n 5 55,
 C .add 55 1 56 [0],
 m 56 5 [1,0,1]]
def aiO:ai:=[
 n 4 57,
 n 5 58,
 m 57 2 [0,0],
 m 58 3 [1,2,0,1,2]]
def d80:DC:=(j (y aiL) (j (y apR) (j (y aiM) (j (.block 0 (.loop (j (j (Y MU) (.cond (.tmp 54) .skip (.exit 0))) (.block 1 (y aiN))))) (j (y aiO) .ret)))))
def abU:List dS:=[.oz 2,.oz 3]
def c80 [bM]:aB aj 119 59 d80 abU:=aB.of Tryz.f119 (by kernel_rfl)
def aiP:ai:=[
 B 1 4]
def aiQ:ai:=[
 a 0 4 10 [],
 l 10 11 [0]]
def aiR:ai:=[
 C .eql 11 1 13 [],
 m 13 12 [0]]
def aiS:ai:=[
 n 0 14,
 c 14 15 [0],
 a 10 15 16 [1],
 l 16 17 [2],
 n 0 18,
 c 18 19 [4],
 a 11 19 20 [5],
 l 20 21 [6],
 b .eql 17 21 22 [3,7]]
def aiT:ai:=[
 n 2 23,
 n 0 24,
 c 24 25 [1],
 a 10 25 26 [2],
 l 26 27 [3],
 a 4 4 28 [],
 l 28 29 [5],
 o (.callv (t 23) [(t 27),(t 29),(.ia .aX)]) 30 [0,4,6]]
def aiU:ai:=[
 C .eql 11 2 32 [],
 m 32 31 [0]]
def Qu:ai:=[
 n 0 34,
 o (.callS 119 [(t 34)]) 35 [0],
 m 35 33 [1],
 e 0 33 36 [2],
 e 1 33 37 [2],
 m 36 6 [3,1,0,1,2,3],
 m 37 7 (k [4,5] 5)]
def apS:ai:=Qu.map bare
def aiV:ai:=[
 n 6 38,
 m 38 8 [0,0]]
def aiW:ai:=[
 n 8 39,
 n 7 40,
 b .lss 39 40 41 [0,1]]
def abV:ai:=[
 n 0 44,
 c 44 45 [0],
 a 4 45 46 [1],
 a 1 46 47 [2],
 l 47 48 [3],
 n 8 49,
 x 5 48 49 50 [4,5],
 a 2 50 51 [6],
 l 51 52 [7],
 a 2 4 53 [],
 l 53 54 [9],
 b .eql 52 54 55 [8,10],
 m 55 56 [11],
 w 2 57 56 true [12],
 w 8 58 56 true [12],
 u 4 4 59 56 true [12],
 v 59 60 56 true [15,12],
 w 0 61 56 true [12],
 g (.nilCheck (t 61)) 62 56 true [17,12],
 u 4 62 63 56 true [18,12],
 u 1 63 64 56 true [19,12],
 v 64 65 56 true [20,12],
 w 8 66 56 true [12],
 g (.idxAddr 5 (t 65) (t 66)) 67 56 true [21,22,12],
 u 3 67 68 56 true [23,12],
 v 68 69 56 true [24,12],
 D .add 60 69 70 56 true [16,25,12],
 g (.callv (t 57) [(t 58),(t 70),(.ia .aX)]) 71 56 true [13,14,26,12,12],
 K 71 72 56 true [27,12],
 q 56 72 73 [12,28]]
def Qv:ai:=[
 n 8 42,
 C .add 42 1 43 [0],
 m 43 8 [1,0,1]]
def abW:ai:=[
 C .eql 11 3 75 [],
 m 75 74 [0]]
def abX:ai:=[
 n 2 76,
 n 0 77,
 c 77 78 [1],
 a 10 78 79 [2],
 l 79 80 [3],
 a 4 4 81 [],
 l 81 82 [5],
 a 2 4 83 [],
 l 83 84 [7],
 n 0 85,
 c 85 86 [9],
 a 10 86 87 [10],
 l 87 88 [11],
 n 0 89,
 c 89 90 [13],
 a 11 90 91 [14],
 l 91 92 [15],
 o (.build [V 0,V 0,V 0] [(0,1,(t 84)),(1,1,(t 88)),(2,1,(t 92))]) 93 [8,12,16],
 o (.bslice 1 3 [V 0,V 0,V 0] [(0,3,(t 93))]) 94 [17],
 o (.callv (t 76) [(t 80),(t 82),(t 94)]) 95 [0,4,6,18]]
def abY:ai:=[
 C .eql 11 4 97 [],
 m 97 96 [0]]
def abZ:ai:=[
 n 0 98,
 c 98 99 [0],
 a 10 99 100 [1],
 l 100 101 [2],
 m 101 9 [3,0,1,2,3]]
def ab0:ai:=[
 n 9 102,
 n 0 103,
 c 103 104 [1],
 a 11 104 105 [2],
 l 105 106 [3],
 b .leq 102 106 107 [0,4]]
def ab1:ai:=[
 n 2 110,
 n 9 111,
 a 4 4 112 [],
 l 112 113 [2],
 a 2 4 114 [],
 l 114 115 [4],
 n 0 116,
 c 116 117 [6],
 a 10 117 118 [7],
 l 118 119 [8],
 n 9 120,
 o (.build [V 0,V 0,V 0] [(0,1,(t 115)),(1,1,(t 119)),(2,1,(t 120))]) 121 [5,9,10],
 a 3 4 122 [],
 l 122 123 [12],
 n 9 124,
 n 0 125,
 c 125 126 [15],
 a 11 126 127 [16],
 l 127 128 [17],
 o (.build [V 0,V 0,V 0] [(0,1,(t 123)),(1,1,(t 124)),(2,1,(t 128))]) 129 [13,14,18],
 o (.bslice 2 3 [V 0,V 0,V 0,V 0,V 0,V 0] [(0,3,(t 121)),(3,3,(t 129))]) 130 [11,19],
 o (.callv (t 110) [(t 111),(t 113),(t 130)]) 131 [0,1,3,20],
 U 131 132 [21]]
def ab2:ai:=[
 n 9 108,
 C .add 108 1 109 [0],
 m 109 9 [1,0,1]]
def d57:DC:=(j (y aiP) (j (y aiQ) (.block 0 (j (y aiR) (.cond (.tmp 12) (j (Y aiS) (.cond (.tmp 22) (Y aiT) .skip)) (j (y aiU) (.cond (.tmp 31) (j (y apS) (j (y aiV) (.block 1 (.loop (j (j (y aiW) (.cond (.tmp 41) .skip (.exit 1))) (j (.block 2 (j (Y abV) (.cond (.tmp 73) .ret .skip))) (y Qv))))))) (j (y abW) (.cond (.tmp 74) (Y abX) (j (y abY) (.cond (.tmp 96) (j (y abZ) (.block 3 (.loop (j (j (y ab0) (.cond (.tmp 107) .skip (.exit 3))) (j (.block 4 (j (Y ab1) (.cond (.tmp 132) .ret .skip))) (y ab2)))))) .skip)))))))))))
def tQ:List dS:=[]
def c57 [bM]:aB aj 85 133 d57 tQ:=aB.of Tryz.f85 (by kernel_rfl)
def aiX:ai:=[
 B 1 4]
def aiY:ai:=[
 a 0 4 8 [],
 l 8 9 [0],
 C .neq 9 4 10 [1]]
def Qw:ai:=[
 n 0 11,
 L 6 4 12 [],
 n 2 13,
 o (.callS 85 [(t 11),(t 12),(t 13)]) 14 [0,1,2]]
def apT:ai:=Qw.map bare
def aiZ:ai:=[
 n 0 15,
 c 15 16 [0],
 a 10 16 17 [1],
 l 17 18 [2],
 n 0 19,
 c 19 20 [4],
 a 11 20 21 [5],
 l 21 22 [6],
 o (.bslice 2 1 [V 0,V 0] [(0,1,(t 18)),(1,1,(t 22))]) 23 [3,7],
 N 23 24 [8],
 I 0 25]
def ai0:ai:=[
 b .lss 25 24 26 []]
def ai1:ai:=[
 x 1 23 25 27 [],
 l 27 28 [0],
 m 28 7 [1,0,1]]
def ai2:ai:=[
 n 2 29,
 n 7 30,
 a 4 4 31 [],
 l 31 32 [2],
 a 2 4 33 [],
 l 33 34 [4],
 n 0 35,
 c 35 36 [6],
 a 10 36 37 [7],
 l 37 38 [8],
 n 7 39,
 o (.build [V 0,V 0,V 0] [(0,1,(t 34)),(1,1,(t 38)),(2,1,(t 39))]) 40 [5,9,10],
 a 3 4 41 [],
 l 41 42 [12],
 n 7 43,
 n 0 44,
 c 44 45 [15],
 a 11 45 46 [16],
 l 46 47 [17],
 o (.build [V 0,V 0,V 0] [(0,1,(t 42)),(1,1,(t 43)),(2,1,(t 47))]) 48 [13,14,18],
 o (.bslice 2 3 [V 0,V 0,V 0,V 0,V 0,V 0] [(0,3,(t 40)),(3,3,(t 48))]) 49 [11,19],
 o (.callv (t 29) [(t 30),(t 32),(t 49)]) 50 [0,1,3,20]]
def ai3:ai:=[
 C .add 25 1 51 [],
 m 51 25 [0]]
def d87:DC:=(j (y aiX) (j (j (y aiY) (.cond (.tmp 10) (j (y apT) .ret) .skip)) (j (Y aiZ) (.block 0 (.loop (j (y ai0) (j (.cond (.tmp 26) .skip (.exit 0)) (j (.block 1 (j (y ai1) (Y ai2))) (y ai3)))))))))
def Qx:List dS:=[]
def c87 [bM]:aB aj 126 52 d87 Qx:=aB.of Tryz.f126 (by kernel_rfl)
def MV:ai:=[
 F 8]
def xo:ai:=[
 l 3 9 [],
 n 2 10,
 o (.call 87 [(t 9),(t 10)]) 11 [0,1],
 U 11 12 [2]]
def ab3:ai:=[
 l 3 9 [],
 n 2 10,
 o (.callS 87 [(t 9),(t 10)]) 11 [0,1],
 U 11 12 [2]]
def Tc:ai:=[
 l 3 13 [],
 a 1 4 14 [],
 l 14 15 [1],
 l 3 16 [],
 n 1 17,
 n 2 18,
 o (.call 89 [(t 16),(t 17),(t 18)]) 19 [3,4,5],
 o (.call 88 [(t 13),(t 15),(t 19)]) 20 [0,2,6,6]]
def ab4:ai:=[
 l 3 13 [],
 a 1 4 14 [],
 l 14 15 [1],
 l 3 16 [],
 n 1 17,
 n 2 18,
 o (.callS 89 [(t 16),(t 17),(t 18)]) 19 [3,4,5],
 o (.callS 88 [(t 13),(t 15),(t 19)]) 20 [0,2,6,6]]
def Ih:ai:=[
 R 8]
def d58:DC:=(j (y MV) (j (j (y xo) (.cond (.tmp 12) (Y Tc) .skip)) (j (y Ih) .ret)))
def c58 [bM]:aB aj 86 21 d58 (dm 8):=aB.of Tryz.f86 (by kernel_rfl)
def ai4:ai:=[
 F 8]
def FC:ai:=[
 l 3 9 [],
 n 2 10,
 o (.callS 87 [(t 9),(t 10)]) 11 [0,1],
 m 11 12 [2,2],
 v 3 13 12 true [3],
 w 2 14 12 true [3],
 g (.callS 128 [(t 13),(t 14)]) 15 12 true [4,5,3,3],
 q 12 15 16 [3,6]]
def apU:ai:=FC.map bare
def Qy:ai:=[
 l 3 17 [],
 a 1 4 18 [],
 l 18 19 [1],
 l 3 20 [],
 n 1 21,
 n 2 22,
 o (.callS 89 [(t 20),(t 21),(t 22)]) 23 [3,4,5],
 o (.callS 88 [(t 17),(t 19),(t 23)]) 24 [0,2,6,6]]
def apV:ai:=Qy.map bare
def Td:ai:=[
 R 8]
def d88:DC:=(j (y ai4) (j (j (y apU) (.cond (.tmp 16) (Y apV) .skip)) (j (y Td) .ret)))
def c88 [bM]:aB aj 127 25 d88 (dm 8):=aB.of Tryz.f127 (by kernel_rfl)
def ai5:ai:=[
 B 0 1]
def FD:ai:=[
 l 1 7 [],
 c 7 8 [0],
 a 15 8 9 [1],
 l 9 10 [2],
 o (.callS 124 [(t 10)]) 11 [3],
 m 11 6 [4],
 e 0 6 12 [5],
 e 1 6 13 [5],
 m 12 2 (k [6,4] 6),
 m 13 3 (k [7,8] 8)]
def apW:ai:=FD.map bare
def ab5:ai:=[
 n 3 14,
 U 14 15 [0]]
def ai6:ai:=[
 l 1 16 [],
 c 16 17 [0],
 a 13 17 18 [1],
 l 18 19 [2],
 n 2 20,
 x 1 19 20 21 (k [3,4] 4),
 s (.store 1 (t 21) (.ia (.v (.bool true)))) (k [5] 4)]
def ai7:ai:=[
 l 1 22 [],
 c 22 23 [0],
 a 0 23 24 [1],
 a 3 24 25 [2],
 l 25 26 [3],
 N 26 27 [4],
 I 0 28]
def ai8:ai:=[
 b .lss 28 27 29 []]
def ai9:ai:=[
 x 6 26 28 30 [],
 L 6 30 31 [0],
 o (.alloc [V 0,V 0,V 0,V 0,V 0,V 0]) 5 [],
 S 6 5 31 [2,1,0,1,2]]
def aja:ai:=[
 L 6 5 32 [],
 n 2 33,
 o (.call 125 [(t 32),(t 33)]) 34 [0,1],
 U 34 35 [2]]
def Qz:ai:=[
 l 1 36 [],
 L 6 5 37 [],
 o (.mkFn (.func 127) [(t 1),(t 5)]) 38 [],
 o (.callS 126 [(t 36),(t 37),(t 38)]) 39 [0,1,2]]
def apX:ai:=Qz.map bare
def ab6:ai:=[
 C .add 28 1 40 [],
 m 40 28 [0]]
def d62:DC:=(j (y ai5) (.block 0 (.loop (.block 1 (j (y apW) (j (j (y ab5) (.cond (.tmp 15) .ret .skip)) (j (y ai6) (j (y ai7) (.block 2 (.loop (j (y ai8) (j (.cond (.tmp 29) .skip (.exit 2)) (j (.block 3 (j (y ai9) (j (j (y aja) (.cond (.tmp 35) (.exit 3) .skip)) (y apX)))) (y ab6))))))))))))))
def ab7:List dS:=[]
def c62 [bM]:aB aj 90 41 d62 ab7:=aB.of Tryz.f90 (by kernel_rfl)
def ajb:ai:=[
 F 10]
def QA:ai:=[
 l 3 11 [],
 n 1 12,
 n 2 13,
 o (.callS 89 [(t 11),(t 12),(t 13)]) 14 [0,1,2],
 L 2 4 15 [],
 o (.eqT true true [(.int .i64),(.int .i64)] (t 14) (t 15)) 16 [3,4]]
def apY:ai:=QA.map bare
def ajc:ai:=[
 R 10]
def ajd:ai:=[
 L 2 4 17 [],
 l 5 18 [],
 n 0 19,
 o (.build [V 0,V 0,V 0,V 0] [(0,2,(t 17)),(2,1,(t 18)),(3,1,(t 19))]) 20 [0,1,2],
 S 4 6 20 [3,0,1,2,3]]
def aje:ai:=[
 F 10]
def d90:DC:=(j (y ajb) (j (j (Y apY) (.cond (.tmp 16) (j (y ajc) .ret) .skip)) (j (y ajd) (j (y aje) .ret))))
def c90 [bM]:aB aj 129 21 d90 (dm 10):=aB.of Tryz.f129 (by kernel_rfl)
def ajf:ai:=[
 B 0 2,
 o (.alloc [V 0,V 0,V 0,V 0]) 4 []]
def ajg:ai:=[
 l 2 9 [],
 c 9 10 [0],
 a 12 10 11 [1],
 l 11 12 [2],
 n 1 13,
 x 2 12 13 14 [3,4],
 L 2 14 15 [5],
 o (.alloc [V 0,V 0]) 5 [],
 S 2 5 15 (k [7,6] 7)]
def ajh:ai:=[
 o (.load 4 true (.ia (.jd [(.int .i64 1099511627776),(.int .i64 0),(.int .i64 (-1)),(.int .i64 0)] 0))) 16 [],
 o (.alloc [V 0,V 0,V 0,V 0]) 6 [],
 S 4 6 16 [1,0,0,1]]
def aji:ai:=[
 l 2 17 [],
 c 17 18 [0],
 a 0 18 19 [1],
 a 3 19 20 [2],
 l 20 21 [3],
 N 21 22 [4],
 I 0 23]
def ajj:ai:=[
 b .lss 23 22 24 []]
def ajk:ai:=[
 n 23 25,
 x 6 21 23 26 [],
 L 6 26 27 [1],
 o (.alloc [V 0]) 7 [],
 o (.alloc [V 0,V 0,V 0,V 0,V 0,V 0]) 8 [],
 S 1 7 25 (k [3,0] 4),
 S 6 8 27 (k [4,2,5] 5)]
def MW:ai:=[
 a 1 8 28 [],
 l 28 29 [0],
 n 1 30,
 b .neq 29 30 31 [1,2],
 m 31 32 [3],
 u 0 5 33 32 false [4],
 v 33 34 32 false [5,4],
 E .geq 34 1099511627776 35 32 false [6,4],
 p 32 35 36 [4,7],
 m 36 37 [8,4],
 u 2 6 38 37 false [9],
 v 38 39 37 false [10,9],
 E .geq 39 0 40 37 false [11,9],
 p 37 40 41 [9,12]]
def QB:ai:=[
 l 2 42 [],
 L 6 8 43 [],
 o (.mkFn (.func 129) [(t 2),(t 5),(t 7),(t 6)]) 44 [],
 o (.callS 85 [(t 42),(t 43),(t 44)]) 45 [0,1,2]]
def apZ:ai:=QB.map bare
def ab8:ai:=[
 C .add 23 1 46 [],
 m 46 23 [0]]
def ajl:ai:=[
 L 4 6 47 [],
 S 4 4 47 [0,0]]
def d63:DC:=(j (y ajf) (j (y ajg) (j (y ajh) (j (j (y aji) (.block 0 (.loop (j (y ajj) (j (.cond (.tmp 24) .skip (.exit 0)) (j (.block 1 (j (y ajk) (j (j (y MW) (.cond (.tmp 41) (.exit 1) .skip)) (y apZ)))) (y ab8))))))) (j (y ajl) .ret)))))
def ab9:List dS:=[.cell 4 4 true]
def c63:aB aj 91 48 d63 ab9:=aB.of Tryz.f91 (by kernel_rfl)
def ajm:ai:=[
 F 5]
def ajn:ai:=[
 l 2 6 [],
 c 6 7 [0],
 a 12 7 8 [1],
 l 8 9 [2],
 n 0 10,
 x 2 9 10 11 [3,4],
 L 2 11 12 [5],
 l 2 13 [],
 c 13 14 [7],
 a 12 14 15 [8],
 l 15 16 [9],
 n 1 17,
 x 2 16 17 18 [10,11],
 L 2 18 19 [12],
 o (.call 84 [(t 12),(t 19)]) 20 [6,13],
 m 20 5 (k [14,14] 14)]
def d55:DC:=(j (y ajm) (j (Y ajn) .ret))
def c55 [bM]:aB aj 83 21 d55 (dm 5):=aB.of Tryz.f83 (by kernel_rfl)
def ajo:ai:=[
 B 0 5,
 B 1 6,
 B 2 7,
 Z 10]
def ajp:ai:=[
 L 4 5 17 [],
 L 3 6 18 [],
 L 3 7 19 [],
 n 3 20,
 n 4 21,
 a 1 5 22 [],
 l 22 23 [5],
 o (.mkSlice 63 2 16 [(.int .i64 0),(.int .i64 0)] (t 23)) 24 [6,6],
 a 1 5 25 [],
 l 25 26 [8],
 o (.mkSlice 4 1 1 [(.bool false)] (t 26)) 27 [9,9],
 a 1 5 28 [],
 l 28 29 [11],
 o (.mkSlice 3 1 8 [(.int .i64 0)] (t 29)) 30 [12,12],
 o (.build [V 0,V 0,V 0,.aX,V 0,.aX,.aX,V 0,V 0,.aX,V 0,V 0,.aX,.aX,.aX,(.v (.pO (Go.Value.pointer Option.none)))] [(0,4,(t 17)),(4,3,(t 18)),(7,3,(t 19)),(10,1,(t 20)),(11,1,(t 21)),(12,1,(t 24)),(13,1,(t 27)),(14,1,(t 30))]) 31 [0,1,2,3,4,7,10,13],
 o (.box (t 31)) 32 [14],
 o (.alloc [(.v (.pO (Go.Value.pointer Option.none)))]) 11 [],
 S 1 11 32 (k [16,15] 16)]
def Te:ai:=[
 l 11 33 [],
 o (.mkFn (.func 83) [(t 11)]) 34 [],
 o (.call 82 [(t 34)]) 35 [1],
 c 33 36 [0,0,1,2],
 a 15 36 37 [3,0,1,2],
 S 1 37 35 [4,2,2,0,1,2]]
def ajq:ai:=[
 l 11 38 [],
 c 38 39 [0],
 a 12 39 40 [1],
 l 40 41 [2],
 N 41 42 [3],
 I 0 43]
def ajr:ai:=[
 b .lss 43 42 44 []]
def ajs:ai:=[
 n 43 45,
 m 45 12 [0,0]]
def ajt:ai:=[
 l 11 46 [],
 c 46 47 [0],
 a 12 47 48 [1],
 l 48 49 [2],
 n 12 50,
 o (.addOff 0 (.ia (.jd [(.int .i64 1099511627776),(.int .i64 0),(.int .i64 (-1)),(.int .i64 0)] 0))) 51 [],
 L 2 51 52 [5],
 x 2 49 50 53 (k [3,4] 6),
 S 2 53 52 (k [7,6] 6)]
def aju:ai:=[
 l 11 54 [],
 c 54 55 [0],
 a 14 55 56 [1],
 l 56 57 [2],
 n 12 58,
 x 1 57 58 59 (k [3,4] 4),
 s (.store 1 (t 59) (i (-1))) (k [5] 4)]
def ajv:ai:=[
 C .add 43 1 60 [],
 m 60 43 [0]]
def ajw:ai:=[
 a 3 5 61 [],
 l 61 62 [0],
 N 62 63 [1],
 I 0 64]
def aca:ai:=[
 b .lss 64 63 65 []]
def acb:ai:=[
 x 6 62 64 66 [],
 L 6 66 67 [0],
 o (.alloc [V 0,V 0,V 0,V 0,V 0,V 0]) 14 [],
 S 6 14 67 [2,1,0,1,2]]
def J7:ai:=[
 l 11 68 [],
 L 6 14 69 [],
 o (.mkFn (.func 86) [(t 11),(t 14)]) 70 [],
 o (.callS 85 [(t 68),(t 69),(t 70)]) 71 [0,1,2]]
def amk:ai:=J7.map bare
def acd:ai:=[
 C .add 64 1 72 [],
 m 72 64 [0]]
def J8:ai:=[
 l 11 73 [],
 o (.callS 90 [(t 73)]) 74 [0]]
def aml:ai:=J8.map bare
def ace:ai:=[
 Z 15]
def acf:ai:=[
 a 1 5 75 [],
 l 75 76 [0],
 I 0 77]
def acg:ai:=[
 b .lss 77 76 78 []]
def ach:ai:=[
 n 77 79,
 m 79 16 [0,0]]
def J9:ai:=[
 n 15 80,
 l 11 81 [],
 n 16 82,
 o (.callS 91 [(t 81),(t 82)]) 83 [1,2],
 o (.bslice 1 4 [V 0,V 0,V 0,V 0] [(0,4,(t 83))]) 84 [3],
 o (.append 65 4 32 (t 80) (t 84)) 85 [0,4,3],
 m 85 15 (k [5,5] 5)]
def amm:ai:=J9.map bare
def aci:ai:=[
 C .add 77 1 86 [],
 m 86 77 [0]]
def acj:ai:=[
 n 15 87,
 m 87 10 [0,0]]
def d35:DC:=(j (y ajo) (j (Y ajp) (j (Y Te) (j (j (y ajq) (.block 0 (.loop (j (y ajr) (j (.cond (.tmp 44) .skip (.exit 0)) (j (.block 1 (j (y ajs) (j (Y ajt) (y aju)))) (y ajv))))))) (j (j (y ajw) (.block 2 (.loop (j (y aca) (j (.cond (.tmp 65) .skip (.exit 2)) (j (.block 3 (j (y acb) (y amk))) (y acd))))))) (j (y aml) (j (y ace) (j (j (y acf) (.block 4 (.loop (j (y acg) (j (.cond (.tmp 78) .skip (.exit 4)) (j (.block 5 (j (y ach) (y amm))) (y aci))))))) (j (y acj) .ret)))))))))
def c35:aB aj 52 88 d35 (dm 10):=aB.of Tryz.f52 (by kernel_rfl)
end cD
end Go.Proofs
namespace Go.Proofs
open Go.DM
def akO:ai:=[
 B 0 2,
 F 4]
def CU:ai:=[
 n 1 6,
 C .lss 6 0 7 [0],
 m 7 8 [1],
 u 0 2 9 8 false [2],
 v 9 10 8 false [3,2],
 H 10 11 8 false [4,2],
 E .gtr 11 60 12 8 false [5,2],
 p 8 12 13 [2,6],
 m 13 14 [7,2],
 u 1 2 15 14 false [8],
 v 15 16 14 false [9,8],
 H 16 17 14 false [10,8],
 w 1 18 14 false [8],
 D .neq 17 18 19 14 false [11,12,8],
 p 14 19 20 [8,13],
 m 20 21 [14,8],
 u 2 2 22 21 false [15],
 v 22 23 21 false [16,15],
 E .lss 23 0 24 21 false [17,15],
 p 21 24 25 [15,18],
 m 25 26 [19,15],
 u 2 2 27 26 false [20],
 v 27 28 26 false [21,20],
 E .gtr 28 60000 29 26 false [22,20],
 p 26 29 30 [20,23],
 m 30 31 [24,20],
 u 0 2 32 31 false [25],
 v 32 33 31 false [26,25],
 w 1 34 31 false [25],
 g (.call 37 [(t 33),(t 34)]) 35 31 false [27,28,25,25],
 K 35 36 31 false [29,25],
 p 31 36 37 [25,30]]
def akP:ai:=[
 F 4]
def akQ:ai:=[
 I 0 5]
def akR:ai:=[
 n 5 38,
 n 1 39,
 b .lss 38 39 40 [0,1]]
def ac3:ai:=[
 a 1 2 43 [],
 l 43 44 [0],
 n 5 45,
 x 1 44 45 46 [1,2],
 l 46 47 [3],
 C .lss 47 1 48 [4],
 m 48 49 [5],
 u 1 2 50 49 false [6],
 v 50 51 49 false [7,6],
 w 5 52 49 false [6],
 g (.idxAddr 1 (t 51) (t 52)) 53 49 false [8,9,6],
 v 53 54 49 false [10,6],
 E .gtr 54 60000 55 49 false [11,6],
 p 49 55 56 [6,12]]
def akS:ai:=[
 F 4]
def akT:ai:=[
 n 5 41,
 C .add 41 1 42 [0],
 m 42 5 [1,0,1]]
def akU:ai:=[
 R 4]
def d28:DC:=(j (y akO) (j (j (y CU) (.cond (.tmp 37) (j (y akP) .ret) .skip)) (j (j (y akQ) (.block 0 (.loop (j (j (y akR) (.cond (.tmp 40) .skip (.exit 0))) (j (.block 1 (j (y ac3) (.cond (.tmp 56) (j (y akS) .ret) .skip))) (y akT)))))) (j (y akU) .ret))))
def c28 [bM]:aB aj 23 57 d28 (dm 4):=aB.of Tryz.f23 (by kernel_rfl)
def MJ:ai:=[
 F 4]
def Fv:ai:=[
 I 0 5]
def MK:ai:=[
 n 5 6,
 n 0 7,
 N 7 8 [1],
 b .lss 6 8 9 [0,2]]
def ML:ai:=[
 n 0 12,
 n 5 13,
 x 3 12 13 14 [0,1],
 L 3 14 15 [2],
 n 1 16,
 o (.call 63 [(t 15),(t 16)]) 17 [3,4],
 U 17 18 [5]]
def MM:ai:=[
 F 4]
def akV:ai:=[
 n 5 10,
 C .add 10 1 11 [0],
 m 11 5 [1,0,1]]
def akW:ai:=[
 R 4]
def d45:DC:=(j (y MJ) (j (j (y Fv) (.block 0 (.loop (j (j (y MK) (.cond (.tmp 9) .skip (.exit 0))) (j (.block 1 (j (y ML) (.cond (.tmp 18) (j (y MM) .ret) .skip))) (y akV)))))) (j (y akW) .ret)))
def c45 [bM]:aB aj 37 19 d45 (dm 4):=aB.of Tryz.f37 (by kernel_rfl)
def MV:ai:=[
 B 0 2,
 F 4]
def xo:ai:=[
 a 0 2 7 [],
 l 7 8 [0],
 C .lss 8 (-1) 9 [1],
 m 9 10 [2],
 u 0 2 11 10 false [3],
 v 11 12 10 false [4,3],
 w 1 13 10 false [3],
 D .geq 12 13 14 10 false [5,6,3],
 p 10 14 15 [3,7],
 m 15 16 [8,3],
 u 1 2 17 16 false [9],
 v 17 18 16 false [10,9],
 H 18 19 16 false [11,9],
 w 1 20 16 false [9],
 D .neq 19 20 21 16 false [12,13,9],
 p 16 21 22 [9,14],
 m 22 23 [15,9],
 u 2 2 24 23 false [16],
 v 24 25 23 false [17,16],
 E .lss 25 1 26 23 false [18,16],
 p 23 26 27 [16,19],
 m 27 28 [20,16],
 u 2 2 29 28 false [21],
 v 29 30 28 false [22,21],
 E .gtr 30 60000 31 28 false [23,21],
 w 31 32 28 false [24,21,21],
 u 2 2 33 32 true [25],
 v 33 34 32 true [26,25],
 E .neq 34 1099511627776 35 32 true [27,25],
 g (.pick (t 32) (t 35) (.ia (.v (.bool false)))) 36 28 false [25,28,21],
 p 28 36 37 [21,29]]
def Tc:ai:=[
 F 4]
def Ih:ai:=[
 I 0 5]
def akX:ai:=[
 n 5 38,
 n 1 39,
 b .lss 38 39 40 [0,1]]
def akY:ai:=[
 a 1 2 43 [],
 l 43 44 [0],
 n 5 45,
 x 1 44 45 46 [1,2],
 l 46 47 [3],
 m 47 6 (k [4] 4)]
def GI:ai:=[
 n 5 48,
 a 0 2 49 [],
 l 49 50 [1],
 b .eql 48 50 51 [0,2],
 m 51 52 [3],
 w 6 53 52 true [4],
 E .neq 53 0 54 52 true [5,4],
 q 52 54 55 [4,6],
 m 55 56 [7,4],
 w 5 57 56 false [8],
 u 0 2 58 56 false [8],
 v 58 59 56 false [10,8],
 D .neq 57 59 60 56 false [9,11,8],
 w 60 61 56 false [12,8,8],
 w 6 62 61 true [13],
 E .neq 62 (-1) 63 61 true [14,13],
 g (.pick (t 61) (t 63) (.ia (.v (.bool false)))) 64 56 false [13,15,8],
 w 64 65 56 false [16,13,8],
 w 6 66 65 true [17],
 E .lss 66 1 67 65 true [18,17],
 w 67 68 65 true [19,17,17],
 w 6 69 68 false [20],
 E .gtr 69 60000 70 68 false [21,20],
 g (.pick (t 68) (.ia (.v (.bool true))) (t 70)) 71 65 true [20,22,17],
 g (.pick (t 65) (t 71) (.ia (.v (.bool false)))) 72 56 false [17,23,8],
 p 56 72 73 [8,24]]
def akZ:ai:=[
 F 4]
def ak0:ai:=[
 n 5 41,
 C .add 41 1 42 [0],
 m 42 5 [1,0,1]]
def ak1:ai:=[
 R 4]
def d58:DC:=(j (y MV) (j (j (y xo) (.cond (.tmp 37) (j (y Tc) .ret) .skip)) (j (j (y Ih) (.block 0 (.loop (j (j (y akX) (.cond (.tmp 40) .skip (.exit 0))) (j (.block 1 (j (y akY) (j (y GI) (.cond (.tmp 73) (j (y akZ) .ret) .skip)))) (y ak0)))))) (j (y ak1) .ret))))
def c58 [bM]:aB aj 63 74 d58 (dm 4):=aB.of Tryz.f63 (by kernel_rfl)
namespace cD
def Tf:ai:=[
 B 0 1,
 Z 2,
 o (.sh (.ia .aX)) 3 [1]]
def aeX:ai:=[
 L 2 1 17 [],
 a 0 1 18 [],
 l 18 19 [1],
 o (.mkSlice 63 2 16 [(.int .i64 0),(.int .i64 0)] (t 19)) 20 [2,2],
 a 0 1 21 [],
 l 21 22 [4],
 o (.mkSlice 4 1 1 [(.bool false)] (t 22)) 23 [5,5],
 a 1 1 24 [],
 l 24 25 [7],
 N 25 26 [8],
 o (.mkSlice 3 1 8 [(.int .i64 0)] (t 26)) 27 [9,9],
 a 0 1 28 [],
 l 28 29 [11],
 o (.mkSlice 26 1 24 [(.sl [])] (t 29)) 30 [12,12],
 o (.build [V 0,.aX,.aX,.aX,.aX,.aX,(.v (.pO (Go.Value.pointer Option.none)))] [(0,2,(t 17)),(2,1,(t 20)),(3,1,(t 23)),(4,1,(t 27)),(5,1,(t 30))]) 31 [0,3,6,10,13],
 o (.box (t 31)) 32 [14],
 m 32 4 (k [15] 15)]
def MX:ai:=[
 L 2 1 17 [],
 a 0 1 18 [],
 l 18 19 [1],
 o (.mkSlice 63 2 16 [(.int .i64 0),(.int .i64 0)] (t 19)) 20 [2,2],
 a 0 1 21 [],
 l 21 22 [4],
 o (.mkSlice 4 1 1 [(.bool false)] (t 22)) 23 [5,5],
 a 1 1 24 [],
 l 24 25 [7],
 N 25 26 [8],
 o (.mkSlice 3 1 8 [(.int .i64 0)] (t 26)) 27 [9,9],
 a 0 1 28 [],
 l 28 29 [11],
 o (.mkSliceB 26 1 24 [(.sl [])] (t 29)) 30 [12,12],
 o (.build [V 0,.aX,.aX,.aX,.aX,.aX,(.v (.pO (Go.Value.pointer Option.none)))] [(0,2,(t 17)),(2,1,(t 20)),(3,1,(t 23)),(4,1,(t 27)),(5,1,(t 30))]) 31 [0,3,6,10,13],
 o (.box (t 31)) 32 [14],
 m 32 4 (k [15] 15)]
def Tg:ai:=[
 n 4 33,
 o (.call 100 [(.ia (.v (.fn (.func 101) [])))]) 34 [],
 c 33 35 [0,0,1],
 a 6 35 36 [2,0,1],
 S 1 36 34 [3,1,1,0,1]]
def Th:ai:=[
 a 0 1 37 [],
 l 37 38 [0],
 o (.mkSlice 3 1 8 [(.int .i64 0)] (t 38)) 39 [1,1],
 m 39 5 [2,0,1,2]]
def Ti:ai:=[
 n 4 40,
 c 40 41 [0],
 a 2 41 42 [1],
 l 42 43 [2],
 N 43 44 [3],
 I 0 45]
def Tj:ai:=[
 b .lss 45 44 46 []]
def Tk:ai:=[
 n 45 47,
 m 47 6 [0,0]]
def Tl:ai:=[
 n 4 48,
 c 48 49 [0],
 a 2 49 50 [1],
 l 50 51 [2],
 n 6 52,
 o (.build [V 0,V 0] [(0,1,(i 1099511627776))]) 53 [],
 x 2 51 52 54 (k [3,4] 5),
 S 2 54 53 (k [6,5] 5)]
def Tm:ai:=[
 n 5 55,
 n 6 56,
 x 1 55 56 57 [0,1,0,1],
 s (.store 1 (t 57) (i (-1))) [2,0,1]]
def Tn:ai:=[
 C .add 45 1 58 [],
 m 58 45 [0]]
def FE:ai:=[
 a 1 1 59 [],
 l 59 60 [0],
 N 60 61 [1],
 I 0 62]
def FF:ai:=[
 b .lss 62 61 63 []]
def FG:ai:=[
 n 62 64,
 x 5 60 62 65 [],
 L 5 65 66 [1],
 o (.alloc [V 0,.aX,V 0,V 0,V 0]) 8 [],
 m 64 7 [0,0,1,2,3],
 S 5 8 66 (k [3,2,4] 4)]
def FH:ai:=[
 n 4 67,
 c 67 68 [0],
 a 4 68 69 [1],
 l 69 70 [2],
 n 7 71,
 a 1 8 72 [],
 l 72 73 [5],
 N 73 74 [6],
 x 1 70 71 75 (k [3,4] 7),
 S 1 75 74 (k [8,7] 7)]
def FI:ai:=[
 a 1 8 76 [],
 l 76 77 [0],
 N 77 78 [1],
 I 0 79]
def FJ:ai:=[
 b .lss 79 78 80 []]
def FK:ai:=[
 x 1 77 79 81 [],
 l 81 82 [0],
 m 82 10 [1,0,1]]
def sF:ai:=[
 n 4 83,
 c 83 84 [0],
 a 5 84 85 [1],
 l 85 86 [2],
 n 10 87,
 n 4 88,
 c 88 89 [5],
 a 5 89 90 [6],
 l 90 91 [7],
 n 10 92,
 x 1 91 92 93 [8,9],
 l 93 94 [10],
 n 7 95,
 o (.bslice 1 1 [V 0] [(0,1,(t 95))]) 96 [12],
 o (.append 3 1 8 (t 94) (t 96)) 97 [11,13],
 x 1 86 87 98 (k [3,4] 14),
 S 1 98 97 (k [15,14,14] 14)]
def zO:ai:=[
 C .add 79 1 99 [],
 m 99 79 [0]]
def FL:ai:=[
 C .add 62 1 100 [],
 m 100 62 [0]]
def FM:ai:=[
 n 4 101,
 c 101 102 [0],
 a 4 102 103 [1],
 l 103 104 [2],
 N 104 105 [3],
 I 0 106]
def FN:ai:=[
 b .lss 106 105 107 []]
def FO:ai:=[
 n 106 108,
 x 1 104 106 109 [],
 l 109 110 [1],
 m 108 11 [0,0,1,2],
 m 110 12 [2,3,0,1,2,3]]
def zP:ai:=[
 n 12 111,
 C .eql 111 0 112 [0],
 m 112 113 [1],
 u 1 1 114 113 true [2],
 v 114 115 113 true [3,2],
 w 11 116 113 true [2],
 g (.idxAddr 5 (t 115) (t 116)) 117 113 true [4,5,2],
 u 1 117 118 113 true [6,2],
 v 118 119 113 true [7,2],
 H 119 120 113 true [8,2],
 E .eql 120 0 121 113 true [9,2],
 q 113 121 122 [2,10]]
def MY:ai:=[
 n 4 123,
 n 11 124,
 o (.call 102 [(t 123),(t 124)]) 125 [0,1]]
def Ii:ai:=[
 n 4 123,
 n 11 124,
 o (.callS 102 [(t 123),(t 124)]) 125 [0,1]]
def zQ:ai:=[
 C .add 106 1 126 [],
 m 126 106 [0]]
def MZ:ai:=[
 n 4 128,
 c 128 129 [0],
 a 6 129 130 [1],
 l 130 131 [2],
 o (.call 103 [(t 131)]) 132 [3],
 m 132 127 [4],
 e 0 127 133 [5],
 e 1 127 134 [5],
 o (.alloc [V 0,V 0,V 0]) 13 [],
 S 3 13 133 [8,6,4,0,1,2,3,4,5,6,8],
 m 134 14 (k [7,9] 9)]
def wu:ai:=[
 n 4 128,
 c 128 129 [0],
 a 6 129 130 [1],
 l 130 131 [2],
 o (.callS 103 [(t 131)]) 132 [3],
 m 132 127 [4],
 e 0 127 133 [5],
 e 1 127 134 [5],
 o (.alloc [V 0,V 0,V 0]) 13 [],
 S 3 13 133 [8,6,4,0,1,2,3,4,5,6,8],
 m 134 14 (k [7,9] 9)]
def zR:ai:=[
 n 14 135,
 U 135 136 [0]]
def FP:ai:=[
 n 4 137,
 c 137 138 [0],
 a 3 138 139 [1],
 l 139 140 [2],
 a 0 13 141 [],
 l 141 142 [4],
 x 1 140 142 143 [3,5],
 l 143 144 [6],
 U 144 145 [7]]
def M0:ai:=[
 n 4 146,
 L 3 13 147 [],
 o (.call 104 [(t 146),(t 147)]) 148 [0,1]]
def Ij:ai:=[
 n 4 146,
 L 3 13 147 [],
 o (.callS 104 [(t 146),(t 147)]) 148 [0,1]]
def FQ:ai:=[
 a 1 1 149 [],
 l 149 150 [0],
 N 150 151 [1],
 I 0 152]
def FR:ai:=[
 b .lss 152 151 153 []]
def FT:ai:=[
 n 152 154,
 x 5 150 152 155 [],
 L 5 155 156 [1],
 o (.alloc [V 0,.aX,V 0,V 0,V 0]) 16 [],
 m 154 15 [0,0,1,2,3],
 S 5 16 156 (k [3,2,4] 4)]
def M1:ai:=[
 n 5 157,
 a 0 16 158 [],
 l 158 159 [1],
 x 1 157 159 160 [0,2],
 l 160 161 [3],
 C .lss 161 0 162 [4],
 m 162 163 [5],
 w 4 164 163 true [6],
 g (.nilCheck (t 164)) 165 163 true [7,6],
 u 3 165 166 163 true [8,6],
 v 166 167 163 true [9,6],
 u 0 16 168 163 true [6],
 v 168 169 163 true [11,6],
 g (.idxAddr 1 (t 167) (t 169)) 170 163 true [10,12,6],
 v 170 171 163 true [13,6],
 q 163 171 172 [6,14],
 m 172 173 [15,6],
 w 4 174 173 true [16],
 g (.load 5 true (t 16)) 175 173 true [16],
 g (.call 105 [(t 174),(t 175)]) 176 173 true [17,18,16,16],
 w 4 177 173 true [16],
 g (.nilCheck (t 177)) 178 173 true [20,16],
 u 2 178 179 173 true [21,16],
 v 179 180 173 true [22,16],
 u 0 16 181 173 true [16],
 v 181 182 173 true [24,16],
 g (.idxAddr 2 (t 180) (t 182)) 183 173 true [23,25,16],
 g (.load 2 true (t 183)) 184 173 true [26,16],
 g (.eqT false true [(.int .i64),(.int .i64)] (t 176) (t 184)) 185 173 true [19,27,16],
 q 173 185 186 [16,28]]
def FU:ai:=[
 n 5 187,
 a 0 16 188 [],
 l 188 189 [1],
 n 15 190,
 x 1 187 189 191 [0,2,0,1,2,3],
 S 1 191 190 [4,3,0,1,2,3]]
def zS:ai:=[
 C .add 152 1 192 [],
 m 192 152 [0]]
def FV:ai:=[
 n 4 193,
 c 193 194 [0],
 a 2 194 195 [1],
 l 195 196 [2],
 n 5 197,
 m 196 2 [3,0,1,2,3],
 m 197 3 (k [4,5] 5)]
def ap0:DC:=(j (y Tf) (j (Y aeX) (j (y Tg) (j (y Th) (j (j (y Ti) (.block 0 (.loop (j (y Tj) (j (.cond (.tmp 46) .skip (.exit 0)) (j (.block 1 (j (y Tk) (j (y Tl) (y Tm)))) (y Tn))))))) (j (j (y FE) (.block 2 (.loop (j (y FF) (j (.cond (.tmp 63) .skip (.exit 2)) (j (.block 3 (j (y FG) (j (Y FH) (j (y FI) (.block 4 (.loop (j (y FJ) (j (.cond (.tmp 80) .skip (.exit 4)) (j (.block 5 (j (y FK) (.jQ sF))) (y zO)))))))))) (y FL))))))) (j (j (y FM) (.block 6 (.loop (j (y FN) (j (.cond (.tmp 107) .skip (.exit 6)) (j (.block 7 (j (y FO) (j (y zP) (.cond (.tmp 122) (y MY) .skip)))) (y zQ))))))) (j (.block 8 (.loop (.block 9 (j (y MZ) (j (j (y zR) (.cond (.tmp 136) (.exit 8) .skip)) (j (Y FP) (.cond (.tmp 145) (y M0) .skip))))))) (j (j (y FQ) (.block 10 (.loop (j (y FR) (j (.cond (.tmp 153) .skip (.exit 10)) (j (.block 11 (j (y FT) (j (Y M1) (.cond (.tmp 186) (y FU) .skip)))) (y zS))))))) (j (y FV) .ret))))))))))
def sG:List dS:=[.oz 2,.oz 3]
def ap1 [bM]:aB aj 71 198 ap0 sG:=aB.of Tryz.f71 (by kernel_rfl)
def To:ai:=[
 o (.sh (.ia (.v (.pO (Go.Value.pointer Option.none))))) 2 []]
def Tp:ai:=[
 n 0 3,
 o (.mkMap [(.int .i64)] false) 4 [],
 o (.build [(.v (.pO (Go.Value.nilFunc))),.aX,(.v (.pO (Go.Value.map Option.none))),V 0,V 0] [(0,1,(t 3)),(2,1,(t 4))]) 5 [0,1],
 o (.box (t 5)) 6 [2],
 m 6 2 [3,0,1,2,3]]
def ap2:DC:=(j (y To) (j (y Tp) .ret))
def ap3 [bM]:aB aj 100 7 ap2 (dm 2):=aB.of Tryz.f100 (by kernel_rfl)
def Tq:ai:=[
 B 0 2,
 B 1 3,
 F 4]
def Tr:ai:=[
 a 1 2 5 [],
 L 2 5 6 [0],
 a 1 3 7 [],
 L 2 7 8 [2],
 o (.call 84 [(t 6),(t 8)]) 9 [1,3],
 m 9 4 (k [4,4] 4)]
def ap4:DC:=(j (y Tq) (j (y Tr) .ret))
def ap5 [bM]:aB aj 101 10 ap4 (dm 4):=aB.of Tryz.f101 (by kernel_rfl)
def Ts:ai:=[
 n 0 6,
 c 6 7 [0],
 a 0 7 8 [1],
 a 1 8 9 [2],
 l 9 10 [3],
 n 1 11,
 x 5 10 11 12 [4,5],
 L 5 12 13 [6],
 o (.alloc [V 0,.aX,V 0,V 0,V 0]) 4 [],
 S 5 4 13 (k [8,7] 8)]
def FW:ai:=[
 n 0 14,
 L 5 4 15 [],
 o (.callS 105 [(t 14),(t 15)]) 16 [0,1],
 o (.alloc [V 0,V 0]) 5 [],
 S 2 5 16 [3,2,2,0,1,2,3]]
def aeY:ai:=FW.map bare
def DK:ai:=[
 a 0 5 17 [],
 l 17 18 [0],
 C .lss 18 1099511627776 19 [1],
 m 19 20 [2],
 w 0 21 20 true [3],
 g (.nilCheck (t 21)) 22 20 true [4,3],
 u 3 22 23 20 true [5,3],
 v 23 24 20 true [6,3],
 u 0 4 25 20 true [3],
 v 25 26 20 true [8,3],
 g (.idxAddr 1 (t 24) (t 26)) 27 20 true [7,9,3],
 v 27 28 20 true [10,3],
 K 28 29 20 true [11,3],
 q 20 29 30 [3,12]]
def FX:ai:=[
 n 0 31,
 c 31 32 [0],
 a 6 32 33 [1],
 l 33 34 [2],
 a 0 4 35 [],
 l 35 36 [4],
 L 2 5 37 [],
 o (.build [V 0,V 0,V 0] [(0,1,(t 36)),(1,2,(t 37))]) 38 [5,6],
 o (.callS 132 [(t 34),(t 38)]) 39 [3,7]]
def aeZ:ai:=FX.map bare
def ap6:DC:=(j (y Ts) (j (y aeY) (j (Y DK) (.cond (.tmp 30) (Y aeZ) .skip))))
def FY:List dS:=[]
def ap7 [bM]:aB aj 102 40 ap6 FY:=aB.of Tryz.f102 (by kernel_rfl)
def Tu:ai:=[
 o (.alloc [V 0,V 0,V 0]) 2 [],
 F 3]
def Tv:ai:=[
 n 0 6,
 c 6 7 [0],
 a 1 7 8 [1],
 l 8 9 [2],
 N 9 10 [3],
 C .eql 10 0 11 [4]]
def Tw:ai:=[
 o (.alloc [V 0,V 0,V 0]) 12 [],
 c 12 13 [0],
 L 3 13 14 [1],
 S 3 2 14 [2,0,1,2],
 o (.sh (.ia (.v (.bool false)))) 3 [3,0,1,2,3]]
def Ka:ai:=[
 n 0 15,
 c 15 16 [0],
 a 1 16 17 [1],
 l 17 18 [2],
 o (.idxAddr 5 (t 18) (i 0)) 19 [3],
 L 5 19 20 [4],
 n 0 21,
 c 21 22 [6],
 a 1 22 23 [7],
 l 23 24 [8],
 N 24 25 [9],
 C .sub 25 1 26 [10],
 o (.alloc [V 0,V 0,V 0,V 0,V 0]) 4 [],
 S 5 4 20 [12,5,0,1,2,3,4,5,12],
 m 26 5 (k [11,13] 13)]
def FZ:ai:=[
 n 0 27,
 n 5 28,
 o (.callS 133 [(t 27),(i 0),(t 28)]) 29 [0,1]]
def ae0:ai:=FZ.map bare
def Tx:ai:=[
 n 0 30,
 n 0 31,
 c 31 32 [1],
 a 1 32 33 [2],
 l 33 34 [3],
 n 5 35,
 o (.slice 5 (t 34) none (some (t 35))) 36 [4,5],
 c 30 37 (k [0] 6),
 a 1 37 38 (k [7] 6),
 S 1 38 36 (k [8,6] 6)]
def Tz:ai:=[
 n 0 39,
 c 39 40 [0],
 a 2 40 41 [1],
 l 41 42 [2],
 a 3 4 43 [],
 l 43 44 [4],
 s (.mapDel [(.int .i64)] false (t 42) (t 44)) [3,5]]
def F0:ai:=[
 n 0 45,
 o (.callS 134 [(t 45),(i 0)]) 46 [0]]
def ae1:ai:=F0.map bare
def TA:ai:=[
 a 0 4 47 [],
 L 3 47 48 [0],
 S 3 2 48 [1,0,1],
 o (.sh (.ia (.v (.bool true)))) 3 [2,0,1,2]]
def ap8:DC:=(j (y Tu) (j (j (y Tv) (.cond (.tmp 11) (j (y Tw) .ret) .skip)) (j (.jQ Ka) (j (y ae0) (j (y Tx) (j (Y Tz) (j (y ae1) (j (y TA) .ret))))))))
def F1:List dS:=[.cell 2 3 true,.oz 3]
def ap9 [bM]:aB aj 103 49 ap8 F1:=aB.of Tryz.f103 (by kernel_rfl)
def TB:ai:=[
 B 1 3]
def Kb:ai:=[
 n 0 6,
 c 6 7 [0],
 a 3 7 8 [1],
 l 8 9 [2],
 a 0 3 10 [],
 l 10 11 [4],
 n 0 12,
 c 12 13 [6],
 a 2 13 14 [7],
 l 14 15 [8],
 a 0 3 16 [],
 l 16 17 [10],
 a 1 3 18 [],
 L 2 18 19 [12],
 x 1 9 11 20 [3,5,0,1,2,3,4,5,9],
 s (.store 1 (t 20) (.ia (.v (.bool true)))) [14,0,1,2,3,4,5,9],
 x 2 15 17 21 (k [9,11] 15),
 S 2 21 19 (k [16,13,15] 15)]
def TC:ai:=[
 n 0 22,
 c 22 23 [0],
 a 5 23 24 [1],
 l 24 25 [2],
 a 0 3 26 [],
 l 26 27 [4],
 x 1 25 27 28 [3,5],
 l 28 29 [6],
 N 29 30 [7],
 I 0 31]
def TD:ai:=[
 b .lss 31 30 32 []]
def TE:ai:=[
 x 1 29 31 33 [],
 l 33 34 [0],
 m 34 5 [1,0,1]]
def TF:ai:=[
 n 0 35,
 c 35 36 [0],
 a 4 36 37 [1],
 l 37 38 [2],
 n 5 39,
 x 1 38 39 40 [3,4],
 l 40 41 [5],
 C .sub 41 1 42 [6],
 x 1 38 39 43 (k [3,4] 7),
 S 1 43 42 (k [8,7] 7)]
def TG:ai:=[
 n 0 44,
 c 44 45 [0],
 a 4 45 46 [1],
 l 46 47 [2],
 n 5 48,
 x 1 47 48 49 [3,4],
 l 49 50 [5],
 C .eql 50 0 51 [6]]
def F2:ai:=[
 n 0 52,
 n 5 53,
 o (.callS 102 [(t 52),(t 53)]) 54 [0,1]]
def ae2:ai:=F2.map bare
def Kc:ai:=[
 C .add 31 1 55 [],
 m 55 31 [0]]
def aqa:DC:=(j (y TB) (j (.jQ Kb) (j (Y TC) (.block 0 (.loop (j (y TD) (j (.cond (.tmp 32) .skip (.exit 0)) (j (.block 1 (j (y TE) (j (y TF) (j (y TG) (.cond (.tmp 51) (y ae2) .skip))))) (y Kc)))))))))
def M3:List dS:=[]
def aqb [bM]:aB aj 104 56 aqa M3:=aB.of Tryz.f104 (by kernel_rfl)
def Kd:ai:=[
 B 1 3,
 o (.alloc [V 0,V 0]) 4 []]
def Ke:ai:=[
 a 1 3 8 [],
 l 8 9 [0],
 N 9 10 [1],
 o (.mkSlice 63 2 16 [(.int .i64 0),(.int .i64 0)] (t 10)) 11 [2,2],
 m 11 5 [3,0,1,2,3]]
def Kf:ai:=[
 a 1 3 12 [],
 l 12 13 [0],
 N 13 14 [1],
 I 0 15]
def Kg:ai:=[
 b .lss 15 14 16 []]
def Kh:ai:=[
 n 15 17,
 x 1 13 15 18 [],
 l 18 19 [1],
 m 17 6 [0,0,1,2],
 m 19 7 [2,3,0,1,2,3]]
def Ki:ai:=[
 n 5 20,
 n 6 21,
 n 0 22,
 c 22 23 [2],
 a 2 23 24 [3],
 l 24 25 [4],
 n 7 26,
 x 2 25 26 27 [5,6],
 L 2 27 28 [7],
 x 2 20 21 29 (k [0,1] 8),
 S 2 29 28 (k [9,8] 8)]
def Kj:ai:=[
 C .add 15 1 30 [],
 m 30 15 [0]]
def Kk:ai:=[
 a 2 3 31 [],
 l 31 32 [0],
 n 5 33,
 o (.call 123 [(t 32),(t 33)]) 34 [1,2],
 S 2 4 34 [3,3,0,1,2,3]]
def aqc:DC:=(j (y Kd) (j (y Ke) (j (j (y Kf) (.block 0 (.loop (j (y Kg) (j (.cond (.tmp 16) .skip (.exit 0)) (j (.block 1 (j (y Kh) (y Ki))) (y Kj))))))) (j (y Kk) .ret))))
def F3:List dS:=[.cell 4 2 true]
def ajx [bM]:aB aj 105 35 aqc F3:=aB.of Tryz.f105 (by kernel_rfl)
def TH:ai:=[
 B 1 3,
 I 0 4]
def TI:ai:=[
 n 0 7,
 c 7 8 [0],
 a 3 8 9 [1],
 l 9 10 [2],
 n 0 11,
 c 11 12 [4],
 a 1 12 13 [5],
 l 13 14 [6],
 N 14 15 [7],
 m 10 5 [3,0,1,2,3],
 m 15 6 (k [8,9] 9)]
def TJ:ai:=[
 n 0 16,
 n 0 17,
 c 17 18 [1],
 a 1 18 19 [2],
 l 19 20 [3],
 L 3 3 21 [],
 n 5 22,
 n 0 23,
 c 23 24 [7],
 a 4 24 25 [8],
 l 25 26 [9],
 o (.build [V 0,V 0,V 0,V 0,V 0] [(0,3,(t 21)),(3,1,(t 22)),(4,1,(t 26))]) 27 [5,6,10],
 o (.bslice 1 5 [V 0,V 0,V 0,V 0,V 0] [(0,5,(t 27))]) 28 [11],
 o (.append 211 5 40 (t 20) (t 28)) 29 [4,12],
 c 16 30 (k [0] 13),
 a 1 30 31 (k [14] 13),
 S 1 31 29 (k [15,13,13] 13)]
def TK:ai:=[
 n 0 32,
 c 32 33 [0],
 a 2 33 34 [1],
 l 34 35 [2],
 n 5 36,
 n 6 37,
 s (.mapUpd [(.int .i64)] false (t 35) (t 36) (t 37)) (k [3,4,5] 5)]
def TL:ai:=[
 n 0 38,
 n 0 39,
 n 0 40,
 c 40 41 [2],
 a 3 41 42 [3],
 l 42 43 [4],
 C .add 43 1 44 [5],
 n 0 45,
 c 45 46 [7],
 a 4 46 47 [8],
 l 47 48 [9],
 C .add 48 1 49 [10],
 c 38 50 [0,0,2,3,4,5,6,10],
 a 3 50 51 [12,0,2,3,4,5,6,10],
 S 1 51 44 [13,6,0,2,3,4,5,6,10],
 c 39 52 (k [1] 14),
 a 4 52 53 (k [15] 14),
 S 1 53 49 (k [16,11,14] 14)]
def F4:ai:=[
 n 0 54,
 n 6 55,
 o (.callS 147 [(t 54),(t 55)]) 56 [0,1]]
def ae3:ai:=F4.map bare
def TM:ai:=[
 n 5 57,
 m 57 4 [0,0]]
def aqd:DC:=(j (y TH) (j (Y TI) (j (Y TJ) (j (y TK) (j (Y TL) (j (y ae3) (j (y TM) .ret)))))))
def aqe [bM]:aB aj 132 58 aqd (dm 4):=aB.of Tryz.f132 (by kernel_rfl)
def TN:ai:=[
 n 0 6,
 c 6 7 [0],
 a 1 7 8 [1],
 l 8 9 [2],
 n 1 10,
 n 0 11,
 c 11 12 [5],
 a 1 12 13 [6],
 l 13 14 [7],
 n 2 15,
 n 0 16,
 c 16 17 [10],
 a 1 17 18 [11],
 l 18 19 [12],
 n 2 20,
 x 5 19 20 21 [13,14],
 L 5 21 22 [15],
 n 0 23,
 c 23 24 [17],
 a 1 24 25 [18],
 l 25 26 [19],
 n 1 27,
 x 5 26 27 28 [20,21],
 L 5 28 29 [22],
 x 5 9 10 30 [3,4,0,1,2,3,4,8,10,11,12,13,14,15,16,20,23],
 S 5 30 22 [24,16,0,1,2,3,4,8,10,11,12,13,14,15,16,20,23],
 x 5 14 15 31 (k [8,9] 25),
 S 5 31 29 (k [26,23,25] 25)]
def TO:ai:=[
 n 0 32,
 c 32 33 [0],
 a 2 33 34 [1],
 l 34 35 [2],
 n 0 36,
 c 36 37 [4],
 a 1 37 38 [5],
 l 38 39 [6],
 n 1 40,
 x 5 39 40 41 [7,8],
 a 3 41 42 [9],
 l 42 43 [10],
 n 0 44,
 c 44 45 [12],
 a 2 45 46 [13],
 l 46 47 [14],
 n 0 48,
 c 48 49 [16],
 a 1 49 50 [17],
 l 50 51 [18],
 n 2 52,
 x 5 51 52 53 [19,20],
 a 3 53 54 [21],
 l 54 55 [22],
 n 1 56,
 n 2 57,
 o (.mapEnt [(.int .i64)] false (.v (.int .i64 0)) (t 35) (t 43)) 58 [3,11,15,19,23],
 e 1 58 59 [26],
 s (.entSt (t 35) (t 59) (t 56)) [3,27,24,26,0,1,2,3,4,5,6,7,8,9,10,11,15,19,23,24,26],
 o (.mapEnt [(.int .i64)] false (.v (.int .i64 0)) (t 47) (t 55)) 60 [15,23,28,0,1,2,3,4,5,6,7,8,9,10,11,15,19,23,24,26,27,28],
 e 1 60 61 [29],
 s (.entSt (t 47) (t 61) (t 57)) (k [15,30,25,29] 29)]
def aqf:DC:=(j (Y TN) (Y TO))
def M4:List dS:=[]
def aqg [bM]:aB aj 133 62 aqf M4:=aB.of Tryz.f133 (by kernel_rfl)
def TP:ai:=[
 n 1 6,
 m 6 4 [0,0]]
def TQ:ai:=[
 n 1 7,
 o (.bin .mul (i 2) (t 7)) 8 [0],
 C .add 8 1 9 [1],
 m 9 5 [2,0,1,2]]
def DL:ai:=[
 n 5 10,
 n 1 11,
 o (.bin .mul (i 2) (t 11)) 12 [1],
 C .add 12 2 13 [2],
 b .leq 10 13 14 [0,3],
 m 14 15 [4],
 w 5 16 15 true [5],
 w 0 17 15 true [5],
 g (.nilCheck (t 17)) 18 15 true [7,5],
 u 1 18 19 15 true [8,5],
 v 19 20 15 true [9,5],
 H 20 21 15 true [10,5],
 D .lss 16 21 22 15 true [6,11,5],
 q 15 22 23 [5,12]]
def F5:ai:=[
 n 0 26,
 n 5 27,
 n 4 28,
 o (.callS 148 [(t 26),(t 27),(t 28)]) 29 [0,1,2]]
def ae4:ai:=F5.map bare
def TR:ai:=[
 n 5 30,
 m 30 4 [0,0]]
def TS:ai:=[
 n 5 24,
 C .add 24 1 25 [0],
 m 25 5 [1,0,1]]
def TT:ai:=[
 n 4 31,
 n 1 32,
 b .eql 31 32 33 [0,1]]
def F7:ai:=[
 n 0 34,
 n 1 35,
 n 4 36,
 o (.callS 133 [(t 34),(t 35),(t 36)]) 37 [0,1,2]]
def ae5:ai:=F7.map bare
def TU:ai:=[
 n 4 38,
 m 38 1 [0,0]]
def aqh:DC:=(.block 0 (.loop (.block 1 (j (y TP) (j (j (y TQ) (.block 2 (.loop (j (j (y DL) (.cond (.tmp 23) .skip (.exit 2))) (j (.block 3 (j (y ae4) (.cond (.tmp 29) (y TR) .skip))) (y TS)))))) (j (j (y TT) (.cond (.tmp 33) .ret .skip)) (j (y ae5) (y TU))))))))
def M6:List dS:=[]
def aqi [bM]:aB aj 134 39 aqh M6:=aB.of Tryz.f134 (by kernel_rfl)
def vF:ai:=[
 n 1 4,
 C .gtr 4 0 5 [0],
 m 5 6 [1],
 w 0 7 6 true [2],
 w 1 8 6 true [2],
 w 1 9 6 true [2],
 E .sub 9 1 10 6 true [5,2],
 E .quo 10 2 11 6 true [6,2],
 g (.callS 148 [(t 7),(t 8),(t 11)]) 12 6 true [3,4,7,2,2],
 q 6 12 13 [2,8]]
def ae6:ai:=vF.map bare
def F8:ai:=[
 n 0 14,
 n 1 15,
 n 1 16,
 C .sub 16 1 17 [2],
 C .quo 17 2 18 [3],
 o (.callS 133 [(t 14),(t 15),(t 18)]) 19 [0,1,4]]
def ae7:ai:=F8.map bare
def TV:ai:=[
 n 1 20,
 C .sub 20 1 21 [0],
 C .quo 21 2 22 [1],
 m 22 1 [2,0,1,2]]
def aqj:DC:=(.block 0 (.loop (j (j (y ae6) (.cond (.tmp 13) .skip (.exit 0))) (.block 1 (j (y ae7) (y TV))))))
def F9:List dS:=[]
def aqk [bM]:aB aj 147 23 aqj F9:=aB.of Tryz.f147 (by kernel_rfl)
def TW:ai:=[
 F 6]
def Kl:ai:=[
 n 0 9,
 c 9 10 [0],
 a 1 10 11 [1],
 l 11 12 [2],
 n 1 13,
 x 5 12 13 14 [3,4],
 L 5 14 15 [5],
 n 0 16,
 c 16 17 [7],
 a 1 17 18 [8],
 l 18 19 [9],
 n 2 20,
 x 5 19 20 21 [10,11],
 L 5 21 22 [12],
 o (.alloc [V 0,V 0,V 0,V 0,V 0]) 7 [],
 o (.alloc [V 0,V 0,V 0,V 0,V 0]) 8 [],
 S 5 7 15 [14,6,0,1,2,3,4,5,6,14,15],
 S 5 8 22 (k [15,13,16] 16)]
def TX:ai:=[
 n 0 23,
 c 23 24 [0],
 a 0 24 25 [1],
 l 25 26 [2],
 a 0 7 27 [],
 L 3 27 28 [4],
 a 0 8 29 [],
 L 3 29 30 [6],
 o (.callv (t 26) [(t 28),(t 30)]) 31 [3,5,7]]
def TY:ai:=[
 R 6]
def Km:ai:=[
 n 0 32,
 c 32 33 [0],
 a 0 33 34 [1],
 l 34 35 [2],
 a 0 8 36 [],
 L 3 36 37 [4],
 a 0 7 38 [],
 L 3 38 39 [6],
 o (.callv (t 35) [(t 37),(t 39)]) 40 [3,5,7],
 U 40 41 [8],
 m 41 42 [9,8],
 u 4 7 43 42 true [10],
 v 43 44 42 true [11,10],
 u 4 8 45 42 true [10],
 v 45 46 42 true [13,10],
 D .lss 44 46 47 42 true [12,14,10],
 q 42 47 48 [10,15],
 m 48 6 (k [16,10] 16)]
def aql:DC:=(j (y TW) (j (.jQ Kl) (j (j (Y TX) (.cond (.tmp 31) (j (y TY) .ret) .skip)) (j (Y Km) .ret))))
def aqm [bM]:aB aj 148 49 aql (dm 6):=aB.of Tryz.f148 (by kernel_rfl)
def TZ:ai:=[
 B 0 1,
 F 2]
def px:ai:=[
 a 0 1 3 [],
 l 3 4 [0],
 C .lss 4 0 5 [1],
 m 5 6 [2],
 u 0 1 7 6 false [3],
 v 7 8 6 false [4,3],
 E .gtr 8 120 9 6 false [5,3],
 p 6 9 10 [3,6],
 m 10 11 [7,3],
 u 1 1 12 11 false [8],
 v 12 13 11 false [9,8],
 E .lss 13 1 14 11 false [10,8],
 p 11 14 15 [8,11],
 m 15 16 [12,8],
 u 1 1 17 16 false [13],
 v 17 18 16 false [14,13],
 E .gtr 18 1000 19 16 false [15,13],
 p 16 19 20 [13,16],
 m 20 21 [17,13],
 u 2 1 22 21 false [18],
 v 22 23 21 false [19,18],
 E .lss 23 0 24 21 false [20,18],
 p 21 24 25 [18,21],
 m 25 26 [22,18],
 u 2 1 27 26 false [23],
 v 27 28 26 false [24,23],
 u 1 1 29 26 false [23],
 v 29 30 26 false [26,23],
 D .geq 28 30 31 26 false [25,27,23],
 p 26 31 32 [23,28],
 m 32 33 [29,23],
 u 3 1 34 33 false [30],
 v 34 35 33 false [31,30],
 H 35 36 33 false [32,30],
 E .gtr 36 600 37 33 false [33,30],
 p 33 37 38 [30,34]]
def T0:ai:=[
 F 2]
def T1:ai:=[
 a 3 1 39 [],
 l 39 40 [0],
 o (.mkFn (.func 39) [(t 1)]) 41 [],
 o (.call 38 [(t 40),(t 41)]) 42 [1,2],
 U 42 43 [3],
 m 43 2 (k [4,3] 4)]
def aqn:DC:=(j (y TZ) (j (j (y px) (.cond (.tmp 38) (j (y T0) .ret) .skip)) (j (y T1) .ret)))
def aqo [bM]:aB aj 26 44 aqn (dm 2):=aB.of Tryz.f26 (by kernel_rfl)
def T2:ai:=[
 B 0 2,
 F 4]
def tR:ai:=[
 n 1 5,
 C .lss 5 0 6 [0],
 m 6 7 [1],
 u 0 2 8 7 false [2],
 v 8 9 7 false [3,2],
 H 9 10 7 false [4,2],
 E .gtr 10 60 11 7 false [5,2],
 p 7 11 12 [2,6],
 m 12 13 [7,2],
 u 1 2 14 13 false [8],
 v 14 15 13 false [9,8],
 H 15 16 13 false [10,8],
 w 1 17 13 false [8],
 D .neq 16 17 18 13 false [11,12,8],
 p 13 18 19 [8,13],
 m 19 20 [14,8],
 u 2 2 21 20 false [15],
 v 21 22 20 false [16,15],
 E .neq 22 0 23 20 false [17,15],
 w 23 24 20 false [18,15,15],
 u 2 2 25 24 true [19],
 v 25 26 24 true [20,19],
 g (.call 41 [(t 26)]) 27 24 true [21,19,19],
 K 27 28 24 true [22,19],
 g (.pick (t 24) (t 28) (.ia (.v (.bool false)))) 29 20 false [19,23,15],
 p 20 29 30 [15,24]]
def T3:ai:=[
 F 4]
def Ko:ai:=[
 a 1 2 31 [],
 l 31 32 [0],
 o (.call 42 [(t 32),(.ia (.v (.fn (.func 43) [])))]) 33 [1],
 U 33 34 [2],
 m 34 35 [3,2],
 u 0 2 36 35 true [4],
 v 36 37 35 true [5,4],
 w 1 38 35 true [4],
 g (.call 44 [(t 37),(t 38)]) 39 35 true [6,7,4,4],
 q 35 39 40 [4,8],
 m 40 4 (k [9,8] 9)]
def aqp:DC:=(j (y T2) (j (j (y tR) (.cond (.tmp 30) (j (y T3) .ret) .skip)) (j (y Ko) .ret)))
def aqq [bM]:aB aj 27 41 aqp (dm 4):=aB.of Tryz.f27 (by kernel_rfl)
def T4:ai:=[
 B 0 2,
 F 4]
def DN:ai:=[
 L 4 2 7 [],
 o (.call 26 [(t 7)]) 8 [0],
 U 8 9 [1],
 m 9 10 [2,1],
 w 1 11 10 false [3],
 H 11 12 10 false [4,3],
 u 0 2 13 10 false [3],
 v 13 14 10 false [6,3],
 D .neq 12 14 15 10 false [5,7,3],
 p 10 15 16 [3,8]]
def T5:ai:=[
 F 4]
def T6:ai:=[
 L 4 2 17 [],
 n 1 18,
 o (.call 45 [(t 17),(t 18)]) 19 [0,1],
 N 19 20 [2],
 I 0 21]
def T7:ai:=[
 b .lss 21 20 22 []]
def T8:ai:=[
 x 2 19 21 23 [],
 L 2 23 24 [0],
 o (.alloc [V 0,V 0]) 6 [],
 S 2 6 24 [2,1,0,1,2]]
def DO:ai:=[
 a 0 6 25 [],
 l 25 26 [0],
 C .lss 26 1099511627776 27 [1],
 m 27 28 [2],
 u 1 6 29 28 true [3],
 v 29 30 28 true [4,3],
 E .gtr 30 1000 31 28 true [5,3],
 q 28 31 32 [3,6]]
def T9:ai:=[
 F 4]
def Ua:ai:=[
 C .add 21 1 33 [],
 m 33 21 [0]]
def Ub:ai:=[
 R 4]
def aqr:DC:=(j (y T4) (j (j (y DN) (.cond (.tmp 16) (j (y T5) .ret) .skip)) (j (j (y T6) (.block 0 (.loop (j (y T7) (j (.cond (.tmp 22) .skip (.exit 0)) (j (.block 1 (j (y T8) (j (y DO) (.cond (.tmp 32) (j (y T9) .ret) .skip)))) (y Ua))))))) (j (y Ub) .ret))))
def aqs [bM]:aB aj 28 34 aqr (dm 4):=aB.of Tryz.f28 (by kernel_rfl)
def Uc:ai:=[
 F 4]
def Ud:ai:=[
 n 0 5,
 n 1 6,
 o (.call 64 [(t 5),(t 6)]) 7 [0,1],
 C .geq 7 0 8 [2],
 m 8 4 [3,2,0,1,2,3]]
def aqt:DC:=(j (y Uc) (j (y Ud) .ret))
def aqu [bM]:aB aj 38 9 aqt (dm 4):=aB.of Tryz.f38 (by kernel_rfl)
def Ue:ai:=[
 B 0 2,
 F 3]
def Uf:ai:=[
 L 4 1 4 [],
 L 6 2 5 [],
 o (.call 40 [(t 4),(t 5)]) 6 [0,1],
 U 6 7 [2],
 m 7 3 [3,2,0,1,2,3]]
def aqv:DC:=(j (y Ue) (j (y Uf) .ret))
def aqw [bM]:aB aj 39 8 aqv (dm 3):=aB.of Tryz.f39 (by kernel_rfl)
def Ug:ai:=[
 B 0 2,
 B 1 3,
 F 4]
def Uh:ai:=[
 o (.mkFn (.func 65) [(t 2)]) 6 [],
 m 6 5 [0,0]]
def wv:ai:=[
 n 5 7,
 a 1 3 8 [],
 l 8 9 [1],
 o (.callv (t 7) [(t 9)]) 10 [0,2],
 U 10 11 [3],
 m 11 12 [4,3],
 u 4 3 13 12 false [5],
 v 13 14 12 false [6,5],
 E .lss 14 0 15 12 false [7,5],
 p 12 15 16 [5,8],
 m 16 17 [9,5],
 u 4 3 18 17 false [10],
 v 18 19 17 false [11,10],
 E .gtr 19 1000 20 17 false [12,10],
 p 17 20 21 [10,13],
 m 21 22 [14,10],
 u 5 3 23 22 false [15],
 v 23 24 22 false [16,15],
 E .lss 24 (-1) 25 22 false [17,15],
 p 22 25 26 [15,18]]
def Ui:ai:=[
 F 4]
def Uj:ai:=[
 a 0 3 27 [],
 l 27 28 [0]]
def Uk:ai:=[
 C .eql 28 1 30 [],
 m 30 29 [0]]
def DP:ai:=[
 a 2 3 31 [],
 l 31 32 [0],
 C .eql 32 0 33 [1],
 m 33 34 [2],
 u 3 3 35 34 true [3],
 v 35 36 34 true [4,3],
 E .eql 36 0 37 34 true [5,3],
 q 34 37 38 [3,6],
 m 38 4 (k [7,3] 7)]
def Ul:ai:=[
 C .eql 28 2 40 [],
 m 40 39 [0]]
def zT:ai:=[
 a 2 3 41 [],
 l 41 42 [0],
 C .geq 42 0 43 [1],
 m 43 44 [2],
 u 2 3 45 44 true [3],
 v 45 46 44 true [4,3],
 u 0 2 47 44 true [3],
 v 47 48 44 true [6,3],
 D .lss 46 48 49 44 true [5,7,3],
 q 44 49 50 [3,8],
 m 50 51 [9,3],
 u 3 3 52 51 true [10],
 v 52 53 51 true [11,10],
 E .eql 53 0 54 51 true [12,10],
 q 51 54 55 [10,13],
 m 55 4 (k [14,10] 14)]
def Um:ai:=[
 C .eql 28 3 57 [],
 m 57 56 [0]]
def zU:ai:=[
 n 5 58,
 a 2 3 59 [],
 l 59 60 [1],
 o (.callv (t 58) [(t 60)]) 61 [0,2],
 m 61 62 [3,3],
 u 3 3 63 62 true [4],
 v 63 64 62 true [5,4],
 E .eql 64 0 65 62 true [6,4],
 q 62 65 66 [4,7],
 m 66 4 (k [8,4] 8)]
def M7:ai:=[
 C .eql 28 4 68 [],
 m 68 67 [0]]
def zV:ai:=[
 n 5 69,
 a 2 3 70 [],
 l 70 71 [1],
 o (.callv (t 69) [(t 71)]) 72 [0,2],
 m 72 73 [3,3],
 w 5 74 73 true [4],
 u 3 3 75 73 true [4],
 v 75 76 73 true [6,4],
 g (.callv (t 74) [(t 76)]) 77 73 true [5,7,4,4],
 q 73 77 78 [4,8],
 m 78 4 (k [9,8] 9)]
def M8:ai:=[
 F 4]
def aqx:DC:=(j (y Ug) (j (y Uh) (j (j (y wv) (.cond (.tmp 26) (j (y Ui) .ret) .skip)) (j (j (y Uj) (.block 0 (j (y Uk) (.cond (.tmp 29) (j (y DP) .ret) (j (y Ul) (.cond (.tmp 39) (j (y zT) .ret) (j (y Um) (.cond (.tmp 56) (j (y zU) .ret) (j (y M7) (.cond (.tmp 67) (j (y zV) .ret) .skip)))))))))) (j (y M8) .ret)))))
def aqy [bM]:aB aj 40 79 aqx (dm 4):=aB.of Tryz.f40 (by kernel_rfl)
def Un:ai:=[
 F 2]
def DQ:ai:=[
 n 0 3,
 C .geq 3 1 4 [0],
 m 4 5 [1],
 w 0 6 5 true [2],
 E .leq 6 60000 7 5 true [3,2],
 q 5 7 8 [2,4],
 m 8 2 (k [5,2] 5)]
def aqz:DC:=(j (y Un) (j (y DQ) .ret))
def aqA [bM]:aB aj 41 9 aqz (dm 2):=aB.of Tryz.f41 (by kernel_rfl)
def Uo:ai:=[
 F 4]
def Up:ai:=[
 n 0 5,
 n 1 6,
 o (.call 66 [(t 5),(t 6)]) 7 [0,1],
 C .geq 7 0 8 [2],
 m 8 4 [3,2,0,1,2,3]]
def aqB:DC:=(j (y Uo) (j (y Up) .ret))
def aqC [bM]:aB aj 42 9 aqB (dm 4):=aB.of Tryz.f42 (by kernel_rfl)
def Uq:ai:=[
 F 2]
def Ur:ai:=[
 n 0 3,
 o (.call 41 [(t 3)]) 4 [0],
 U 4 5 [1],
 m 5 2 [2,1,0,1,2]]
def aqD:DC:=(j (y Uq) (j (y Ur) .ret))
def aqE [bM]:aB aj 43 6 aqD (dm 2):=aB.of Tryz.f43 (by kernel_rfl)
def Us:ai:=[
 B 1 3,
 F 4]
def Ut:ai:=[
 n 0 5,
 o (.mkFn (.func 68) [(t 3)]) 6 [],
 o (.call 67 [(t 5),(t 6)]) 7 [0,1],
 U 7 8 [2],
 m 8 4 [3,2,0,1,2,3]]
def aqF:DC:=(j (y Us) (j (y Ut) .ret))
def aqG [bM]:aB aj 44 9 aqF (dm 4):=aB.of Tryz.f44 (by kernel_rfl)
def Kp:ai:=[
 B 0 2,
 Z 4]
def Kq:ai:=[
 L 4 2 7 [],
 n 1 8,
 o (.call 70 [(t 7),(t 8)]) 9 [0,1],
 U 9 10 [2]]
def Uu:ai:=[
 Z 4]
def Uv:ai:=[
 L 4 2 12 [],
 n 1 13,
 o (.call 72 [(t 12),(t 13)]) 14 [0,1],
 o (.call 71 [(t 14)]) 15 [2,2],
 m 15 11 [3],
 e 0 11 16 [4],
 e 1 11 17 [4],
 m 16 5 (k [5,3] 5),
 m 17 6 (k [6,7] 7)]
def Uw:ai:=[
 n 5 18,
 m 18 4 [0,0]]
def aqH:DC:=(j (y Kp) (j (j (y Kq) (.cond (.tmp 10) (j (y Uu) .ret) .skip)) (j (y Uv) (j (y Uw) .ret))))
def ajy [bM]:aB aj 45 19 aqH (dm 4):=aB.of Tryz.f45 (by kernel_rfl)
def Ux:ai:=[
 I 0 4]
def Uy:ai:=[
 n 0 6,
 N 6 7 [0],
 I 0 8]
def Uz:ai:=[
 b .lss 8 7 9 []]
def UA:ai:=[
 n 8 10,
 m 10 5 [0,0]]
def UB:ai:=[
 n 1 11,
 n 0 12,
 n 5 13,
 x 6 12 13 14 [1,2],
 L 6 14 15 [3],
 o (.callv (t 11) [(t 15)]) 16 [0,4]]
def UC:ai:=[
 n 5 17,
 m 17 4 [0,0]]
def UD:ai:=[
 C .add 8 1 18 [],
 m 18 8 [0]]
def UE:ai:=[
 I (-1) 4]
def aqI:DC:=(j (y Ux) (j (j (y Uy) (.block 0 (.loop (j (y Uz) (j (.cond (.tmp 9) .skip (.exit 0)) (j (.block 1 (j (y UA) (j (y UB) (.cond (.tmp 16) (j (y UC) .ret) .skip)))) (y UD))))))) (j (y UE) .ret)))
def aqJ [bM]:aB aj 64 19 aqI (dm 4):=aB.of Tryz.f64 (by kernel_rfl)
def UF:ai:=[
 F 3]
def DR:ai:=[
 n 0 4,
 C .geq 4 0 5 [0],
 m 5 6 [1],
 w 0 7 6 true [2],
 u 1 1 8 6 true [2],
 v 8 9 6 true [4,2],
 D .lss 7 9 10 6 true [3,5,2],
 q 6 10 11 [2,6],
 m 11 3 (k [7,2] 7)]
def aqK:DC:=(j (y UF) (j (y DR) .ret))
def aqL [bM]:aB aj 65 12 aqK (dm 3):=aB.of Tryz.f65 (by kernel_rfl)
def UG:ai:=[
 I 0 4]
def UH:ai:=[
 n 0 6,
 N 6 7 [0],
 I 0 8]
def UI:ai:=[
 b .lss 8 7 9 []]
def UJ:ai:=[
 n 8 10,
 m 10 5 [0,0]]
def UK:ai:=[
 n 1 11,
 n 0 12,
 n 5 13,
 x 1 12 13 14 [1,2],
 l 14 15 [3],
 o (.callv (t 11) [(t 15)]) 16 [0,4]]
def UL:ai:=[
 n 5 17,
 m 17 4 [0,0]]
def UM:ai:=[
 C .add 8 1 18 [],
 m 18 8 [0]]
def UN:ai:=[
 I (-1) 4]
def aqM:DC:=(j (y UG) (j (j (y UH) (.block 0 (.loop (j (y UI) (j (.cond (.tmp 9) .skip (.exit 0)) (j (.block 1 (j (y UJ) (j (y UK) (.cond (.tmp 16) (j (y UL) .ret) .skip)))) (y UM))))))) (j (y UN) .ret)))
def aqN [bM]:aB aj 66 19 aqM (dm 4):=aB.of Tryz.f66 (by kernel_rfl)
def UO:ai:=[
 F 4]
def UP:ai:=[
 n 0 5,
 n 1 6,
 o (.call 99 [(t 5),(t 6)]) 7 [0,1],
 C .geq 7 0 8 [2],
 m 8 4 [3,2,0,1,2,3]]
def aqO:DC:=(j (y UO) (j (y UP) .ret))
def aqP [bM]:aB aj 67 9 aqO (dm 4):=aB.of Tryz.f67 (by kernel_rfl)
def UQ:ai:=[
 B 0 2,
 F 3]
def UR:ai:=[
 L 3 2 4 [],
 l 1 5 [],
 o (.call 69 [(t 4),(t 5)]) 6 [0,1],
 U 6 7 [2],
 m 7 3 [3,2,0,1,2,3]]
def aqQ:DC:=(j (y UQ) (j (y UR) .ret))
def aqR [bM]:aB aj 68 8 aqQ (dm 3):=aB.of Tryz.f68 (by kernel_rfl)
def US:ai:=[
 B 0 2,
 F 4]
def tS:ai:=[
 a 0 2 7 [],
 l 7 8 [0],
 C .lss 8 (-1) 9 [1],
 m 9 10 [2],
 u 0 2 11 10 false [3],
 v 11 12 10 false [4,3],
 w 1 13 10 false [3],
 D .geq 12 13 14 10 false [5,6,3],
 p 10 14 15 [3,7],
 m 15 16 [8,3],
 u 1 2 17 16 false [9],
 v 17 18 16 false [10,9],
 H 18 19 16 false [11,9],
 w 1 20 16 false [9],
 D .neq 19 20 21 16 false [12,13,9],
 p 16 21 22 [9,14],
 m 22 23 [15,9],
 u 2 2 24 23 false [16],
 v 24 25 23 false [17,16],
 g (.call 41 [(t 25)]) 26 23 false [18,16,16],
 K 26 27 23 false [19,16],
 w 27 28 23 false [20,19,16],
 u 2 2 29 28 true [21],
 v 29 30 28 true [22,21],
 E .neq 30 1099511627776 31 28 true [23,21],
 g (.pick (t 28) (t 31) (.ia (.v (.bool false)))) 32 23 false [21,24,16],
 p 23 32 33 [16,25]]
def UT:ai:=[
 F 4]
def UU:ai:=[
 a 1 2 34 [],
 l 34 35 [0],
 N 35 36 [1],
 I 0 37]
def UV:ai:=[
 b .lss 37 36 38 []]
def UW:ai:=[
 n 37 39,
 x 1 35 37 40 [],
 l 40 41 [1],
 m 39 5 [0,0,1,2],
 m 41 6 [2,3,0,1,2,3]]
def ww:ai:=[
 n 5 42,
 a 0 2 43 [],
 l 43 44 [1],
 b .eql 42 44 45 [0,2],
 m 45 46 [3],
 w 6 47 46 true [4],
 E .neq 47 0 48 46 true [5,4],
 q 46 48 49 [4,6],
 m 49 50 [7,4],
 w 5 51 50 false [8],
 u 0 2 52 50 false [8],
 v 52 53 50 false [10,8],
 D .neq 51 53 54 50 false [9,11,8],
 w 54 55 50 false [12,8,8],
 w 6 56 55 true [13],
 E .neq 56 (-1) 57 55 true [14,13],
 g (.pick (t 55) (t 57) (.ia (.v (.bool false)))) 58 50 false [13,15,8],
 w 58 59 50 false [16,13,8],
 w 6 60 59 true [17],
 g (.call 41 [(t 60)]) 61 59 true [18,17,17],
 K 61 62 59 true [19,17],
 g (.pick (t 59) (t 62) (.ia (.v (.bool false)))) 63 50 false [17,20,8],
 p 50 63 64 [8,21]]
def UX:ai:=[
 F 4]
def UY:ai:=[
 C .add 37 1 65 [],
 m 65 37 [0]]
def UZ:ai:=[
 R 4]
def aqS:DC:=(j (y US) (j (j (y tS) (.cond (.tmp 33) (j (y UT) .ret) .skip)) (j (j (y UU) (.block 0 (.loop (j (y UV) (j (.cond (.tmp 38) .skip (.exit 0)) (j (.block 1 (j (y UW) (j (y ww) (.cond (.tmp 64) (j (y UX) .ret) .skip)))) (y UY))))))) (j (y UZ) .ret))))
def aqT [bM]:aB aj 69 66 aqS (dm 4):=aB.of Tryz.f69 (by kernel_rfl)
def U0:ai:=[
 B 0 2,
 F 4]
def DS:ai:=[
 L 4 2 7 [],
 o (.call 26 [(t 7)]) 8 [0],
 U 8 9 [1],
 m 9 10 [2,1],
 w 1 11 10 false [3],
 H 11 12 10 false [4,3],
 u 0 2 13 10 false [3],
 v 13 14 10 false [6,3],
 D .neq 12 14 15 10 false [5,7,3],
 p 10 15 16 [3,8]]
def U1:ai:=[
 F 4]
def U2:ai:=[
 n 1 17,
 N 17 18 [0],
 I 0 19]
def U3:ai:=[
 b .lss 19 18 20 []]
def U4:ai:=[
 x 1 17 19 21 [],
 l 21 22 [0],
 m 22 6 [1,0,1]]
def DT:ai:=[
 n 6 23,
 C .lss 23 1 24 [0],
 m 24 25 [1],
 w 6 26 25 false [2],
 E .gtr 26 60000 27 25 false [3,2],
 p 25 27 28 [2,4]]
def U5:ai:=[
 F 4]
def U6:ai:=[
 C .add 19 1 29 [],
 m 29 19 [0]]
def U7:ai:=[
 R 4]
def aqU:DC:=(j (y U0) (j (j (y DS) (.cond (.tmp 16) (j (y U1) .ret) .skip)) (j (j (y U2) (.block 0 (.loop (j (y U3) (j (.cond (.tmp 20) .skip (.exit 0)) (j (.block 1 (j (y U4) (j (y DT) (.cond (.tmp 28) (j (y U5) .ret) .skip)))) (y U6))))))) (j (y U7) .ret))))
def aqV [bM]:aB aj 70 30 aqU (dm 4):=aB.of Tryz.f70 (by kernel_rfl)
def U8:ai:=[
 B 0 2,
 o (.alloc [V 0,.aX]) 4 []]
def U9:ai:=[
 a 1 2 9 [],
 l 9 10 [0],
 o (.build [V 0,.aX] [(0,1,(t 10))]) 11 [1],
 o (.alloc [V 0,.aX]) 5 [],
 S 2 5 11 [3,2,0,1,2,3]]
def Va:ai:=[
 a 3 2 12 [],
 l 12 13 [0],
 N 13 14 [1],
 I 0 15]
def Vb:ai:=[
 b .lss 15 14 16 []]
def Vc:ai:=[
 x 6 13 15 17 [],
 L 6 17 18 [0],
 o (.alloc [V 0,V 0,V 0,V 0,V 0,V 0]) 7 [],
 S 6 7 18 [2,1,0,1,2]]
def Vd:ai:=[
 a 1 7 19 [],
 l 19 20 [0],
 a 4 7 21 [],
 l 21 22 [2],
 o (.build [V 0,.aX,V 0,V 0,V 0] [(0,1,(t 20)),(2,1,(t 22))]) 23 [1,3],
 o (.alloc [V 0,.aX,V 0,V 0,V 0]) 8 [],
 S 5 8 23 (k [5,4] 5)]
def Ve:ai:=[
 a 0 7 24 [],
 l 24 25 [0]]
def Vf:ai:=[
 C .eql 25 2 27 [],
 m 27 26 [0]]
def Vg:ai:=[
 a 2 8 28 [],
 l 28 29 [0],
 n 1 30,
 a 2 7 31 [],
 l 31 32 [3],
 x 1 30 32 33 [2,4],
 l 33 34 [5],
 b .add 29 34 35 [1,6],
 a 2 8 36 (k [] 7),
 S 1 36 35 (k [8,7] 7)]
def Vh:ai:=[
 C .eql 25 3 38 [],
 m 38 37 [0]]
def M9:ai:=[
 a 2 7 39 [],
 l 39 40 [0],
 o (.bslice 1 1 [V 0] [(0,1,(t 40))]) 41 [1],
 a 1 8 42 [0,1,2],
 S 1 42 41 [3,2,0,1,2]]
def Na:ai:=[
 C .eql 25 4 44 [],
 m 44 43 [0]]
def Nb:ai:=[
 a 2 7 45 [],
 l 45 46 [0],
 a 3 7 47 [],
 l 47 48 [2],
 o (.bslice 2 1 [V 0,V 0] [(0,1,(t 46)),(1,1,(t 48))]) 49 [1,3],
 a 1 8 50 (k [] 4),
 S 1 50 49 (k [5,4] 4)]
def Nc:ai:=[
 a 1 5 51 [],
 l 51 52 [0],
 L 5 8 53 [],
 o (.bslice 1 5 [V 0,.aX,V 0,V 0,V 0] [(0,5,(t 53))]) 54 [2],
 o (.append 157 5 56 (t 52) (t 54)) 55 [1,3],
 a 1 5 56 (k [] 4),
 S 1 56 55 (k [5,4,4] 4)]
def Nd:ai:=[
 C .add 15 1 57 [],
 m 57 15 [0]]
def Nf:ai:=[
 L 2 5 58 [],
 S 2 4 58 [0,0]]
def aqW:DC:=(j (y U8) (j (y U9) (j (j (y Va) (.block 0 (.loop (j (y Vb) (j (.cond (.tmp 16) .skip (.exit 0)) (j (.block 1 (j (y Vc) (j (y Vd) (j (j (y Ve) (.block 2 (j (y Vf) (.cond (.tmp 26) (Y Vg) (j (y Vh) (.cond (.tmp 37) (y M9) (j (y Na) (.cond (.tmp 43) (y Nb) .skip)))))))) (y Nc))))) (y Nd))))))) (j (y Nf) .ret))))
def Ng:List dS:=[.cell 4 2 true]
def aqX [bM]:aB aj 72 59 aqW Ng:=aB.of Tryz.f72 (by kernel_rfl)
def Vi:ai:=[
 I 0 4]
def Vj:ai:=[
 n 0 6,
 N 6 7 [0],
 I 0 8]
def Vk:ai:=[
 b .lss 8 7 9 []]
def Vl:ai:=[
 n 8 10,
 m 10 5 [0,0]]
def Vm:ai:=[
 n 1 11,
 n 0 12,
 n 5 13,
 x 3 12 13 14 [1,2],
 L 3 14 15 [3],
 o (.callv (t 11) [(t 15)]) 16 [0,4]]
def Vn:ai:=[
 n 5 17,
 m 17 4 [0,0]]
def Vo:ai:=[
 C .add 8 1 18 [],
 m 18 8 [0]]
def Vp:ai:=[
 I (-1) 4]
def aqY:DC:=(j (y Vi) (j (j (y Vj) (.block 0 (.loop (j (y Vk) (j (.cond (.tmp 9) .skip (.exit 0)) (j (.block 1 (j (y Vl) (j (y Vm) (.cond (.tmp 16) (j (y Vn) .ret) .skip)))) (y Vo))))))) (j (y Vp) .ret)))
def aqZ [bM]:aB aj 99 19 aqY (dm 4):=aB.of Tryz.f99 (by kernel_rfl)
def Vq:ai:=[
 B 0 3,
 B 1 4,
 B 2 5,
 F 6]
def Vr:ai:=[
 o (.call 8 []) 18 [],
 U 18 19 [0]]
def ae8:ai:=[
 F 6]
def Vt:ai:=[
 L 4 3 21 [],
 L 3 4 22 [],
 o (.call 9 [(t 21),(t 22)]) 23 [0,1],
 m 23 20 [2],
 e 0 20 24 [3],
 e 1 20 25 [3],
 o (.alloc [V 0,V 0,V 0,.aX,.aX,.aX,V 0,V 0,V 0,(.v (.bool false))]) 7 [],
 S 10 7 24 [6,4,2,0,1,2,3,4,6],
 m 25 8 (k [5,7] 7)]
def Vu:ai:=[
 L 4 3 27 [],
 L 3 5 28 [],
 o (.call 9 [(t 27),(t 28)]) 29 [0,1],
 m 29 26 [2],
 e 0 26 30 [3],
 e 1 26 31 [3],
 o (.alloc [V 0,V 0,V 0,.aX,.aX,.aX,V 0,V 0,V 0,(.v (.bool false))]) 9 [],
 S 10 9 30 [6,4,2,0,1,2,3,4,6],
 m 31 10 (k [5,7] 7)]
def DU:ai:=[
 n 8 32,
 U 32 33 [0],
 m 33 34 [1],
 w 10 35 34 false [2],
 K 35 36 34 false [3,2],
 p 34 36 37 [2,4],
 m 37 38 [5,2],
 g (.load 4 true (t 3)) 39 38 false [6],
 g (.load 3 true (t 4)) 40 38 false [6],
 g (.call 10 [(t 39),(t 40)]) 41 38 false [7,8,6,6],
 K 41 42 38 false [9,6],
 p 38 42 43 [6,10],
 m 43 44 [11,9],
 g (.load 4 true (t 3)) 45 44 false [12],
 g (.load 3 true (t 5)) 46 44 false [12],
 g (.call 10 [(t 45),(t 46)]) 47 44 false [13,14,12,12],
 K 47 48 44 false [15,12],
 p 44 48 49 [12,16]]
def Vv:ai:=[
 R 6]
def Vw:ai:=[
 L 4 3 51 [],
 L 3 4 52 [],
 o (.call 12 [(t 51),(t 52)]) 53 [0,1],
 o (.call 11 [(t 53),(i 3)]) 54 [2,2],
 m 54 50 [3],
 e 0 50 55 [4],
 e 1 50 56 [4],
 o (.alloc [V 0,V 0,.aX]) 11 [],
 S 3 11 55 [7,5,3,0,1,2,3,4,5,7],
 m 56 12 (k [6,8] 8)]
def tT:ai:=[
 L 4 3 57 [],
 L 3 4 58 [],
 o (.call 12 [(t 57),(t 58)]) 59 [0,1],
 L 4 3 60 [],
 L 3 5 61 [],
 o (.call 12 [(t 60),(t 61)]) 62 [3,4,2],
 m 59 13 [2,5,0,1,2],
 m 62 14 (k [5,6] 6)]
def Vx:ai:=[
 I 0 15]
def Bv:ai:=[
 n 15 63,
 C .lss 63 2000 64 [0],
 m 64 65 [1],
 w 13 66 65 true [2],
 g (.callS 17 [(t 66),(i 1)]) 67 65 true [3,2,2],
 E .gtr 67 0 68 65 true [4,2],
 q 65 68 69 [2,5]]
def ack:ai:=Bv.map bare
def Bw:ai:=[
 n 14 72,
 o (.callS 17 [(t 72),(i 2)]) 73 [0]]
def acl:ai:=Bw.map bare
def Nh:ai:=[
 n 15 74,
 C .eql 74 7 75 [0]]
def Bx:ai:=[
 n 14 76,
 o (.callS 14 [(t 76)]) 77 [0]]
def acm:ai:=Bx.map bare
def Ga:ai:=[
 n 15 70,
 C .add 70 1 71 [0],
 m 71 15 [1,0,1]]
def By:ai:=[
 n 13 79,
 o (.callS 19 [(t 79)]) 80 [0],
 m 80 78 [1],
 e 0 78 81 [2],
 e 1 78 82 [2],
 o (.alloc [V 0,V 0,.aX]) 16 [],
 S 3 16 81 [5,3,1,0,1,2,3,5],
 m 82 17 (k [4,6] 6)]
def acn:ai:=By.map bare
def Ni:ai:=[
 n 12 83,
 C .eql 83 0 84 [0],
 m 84 85 [1],
 w 17 86 85 true [2],
 E .eql 86 0 87 85 true [3,2],
 q 85 87 88 [2,4],
 m 88 89 [5,2],
 g (.load 3 true (t 16)) 90 89 true [6],
 g (.load 3 true (t 11)) 91 89 true [6],
 g (.call 13 [(t 90),(t 91)]) 92 89 true [7,8,6,6],
 q 89 92 93 [6,9],
 m 93 6 (k [10,9] 10)]
def aq0:DC:=(j (y Vq) (j (j (y Vr) (.cond (.tmp 19) (j (y ae8) .ret) .skip)) (j (y Vt) (j (y Vu) (j (j (y DU) (.cond (.tmp 49) (j (y Vv) .ret) .skip)) (j (y Vw) (j (Y tT) (j (j (y Vx) (.block 0 (.loop (j (j (y ack) (.cond (.tmp 69) .skip (.exit 0))) (j (.block 1 (j (y acl) (j (y Nh) (.cond (.tmp 75) (y acm) .skip)))) (y Ga)))))) (j (y acn) (j (y Ni) .ret))))))))))
def aq1 [bM]:aB aj 5 94 aq0 (dm 6):=aB.of Tryz.f5 (by kernel_rfl)
def Vy:ai:=[
 F 0]
def Vz:ai:=[
 o (.call 21 []) 12 [],
 m 12 11 [0],
 e 0 11 13 [1],
 e 1 11 14 [1],
 o (.alloc [V 0,V 0,V 0,.aX]) 1 [],
 o (.alloc [.aX,.aX,V 0]) 2 [],
 S 4 1 13 [4,2,0,0,1,2,4,5],
 S 3 2 14 (k [5,3,6] 6)]
def VA:ai:=[
 L 4 1 15 [],
 L 3 2 16 [],
 o (.call 12 [(t 15),(t 16)]) 17 [0,1],
 m 17 3 [2,2,0,1,2]]
def VB:ai:=[
 n 3 18,
 o (.isNil 1 false (t 18)) 19 [0]]
def ae9:ai:=[
 F 0]
def Gb:ai:=[
 n 3 20,
 o (.callS 17 [(t 20),(i 4)]) 21 [0],
 m 21 4 [1,1,0,1]]
def afa:ai:=Gb.map bare
def Gc:ai:=[
 n 3 23,
 o (.callS 19 [(t 23)]) 24 [0],
 m 24 22 [1],
 e 0 22 25 [2],
 e 1 22 26 [2],
 o (.alloc [V 0,V 0,.aX]) 5 [],
 S 3 5 25 [5,3,1,0,1,2,3,5],
 m 26 6 (k [4,6] 6)]
def afb:ai:=Gc.map bare
def Gd:ai:=[
 n 3 27,
 o (.callS 18 [(t 27)]) 28 [0],
 m 28 7 [1,1,0,1]]
def afc:ai:=Gd.map bare
def Ge:ai:=[
 n 3 29,
 o (.callS 17 [(t 29),(i 9)]) 30 [0],
 m 30 8 [1,1,0,1]]
def afd:ai:=Ge.map bare
def Gf:ai:=[
 n 3 32,
 o (.callS 19 [(t 32)]) 33 [0],
 m 33 31 [1],
 e 0 31 34 [2],
 e 1 31 35 [2],
 o (.alloc [V 0,V 0,.aX]) 9 [],
 S 3 9 34 [5,3,1,0,1,2,3,5],
 m 35 10 (k [4,6] 6)]
def afe:ai:=Gf.map bare
def Nj:ai:=[
 n 4 36,
 C .eql 36 4 37 [0],
 m 37 38 [1],
 w 6 39 38 true [2],
 E .eql 39 15 40 38 true [3,2],
 q 38 40 41 [2,4],
 m 41 42 [5,2],
 w 7 43 42 true [6],
 E .eql 43 2 44 42 true [7,6],
 q 42 44 45 [6,8],
 m 45 46 [9,6],
 w 8 47 46 true [10],
 E .eql 47 2 48 46 true [11,10],
 q 46 48 49 [10,12],
 m 49 50 [13,10],
 w 10 51 50 true [14],
 E .eql 51 0 52 50 true [15,14],
 q 50 52 53 [14,16],
 m 53 54 [17,14],
 u 1 9 55 54 true [18],
 v 55 56 54 true [19,18],
 E .eql 56 3 57 54 true [20,18],
 q 54 57 58 [18,21],
 m 58 59 [22,18],
 u 2 9 60 59 true [23],
 v 60 61 59 true [24,23],
 H 61 62 59 true [25,23],
 E .eql 62 6 63 59 true [26,23],
 q 59 63 64 [23,27],
 m 64 65 [28,23],
 u 2 9 66 65 true [29],
 v 66 67 65 true [30,29],
 g (.idxAddr 4 (t 67) (i 2)) 68 65 true [31,29],
 u 0 68 69 65 true [32,29],
 g (.load 2 true (t 69)) 70 65 true [33,29],
 g (.build [V 0,V 0] [(0,1,(i 2)),(1,1,(i 1))]) 71 65 true [29],
 g (.eqT false true [(.int .i64),(.int .i64)] (t 70) (t 71)) 72 65 true [34,35,29],
 q 65 72 73 [29,36],
 m 73 0 (k [37,29] 37)]
def aq2:DC:=(j (y Vy) (j (y Vz) (j (y VA) (j (j (y VB) (.cond (.tmp 19) (j (y ae9) .ret) .skip)) (j (y afa) (j (y afb) (j (y afc) (j (y afd) (j (y afe) (j (y Nj) .ret))))))))))
def aq3 [bM]:aB aj 8 74 aq2 (dm 0):=aB.of Tryz.f8 (by kernel_rfl)
def VC:ai:=[
 B 0 2,
 B 1 3,
 o (.alloc [V 0,V 0,V 0,.aX,.aX,.aX,V 0,V 0,V 0,(.v (.bool false))]) 4 [],
 F 5]
def Kr:ai:=[
 L 4 2 7 [],
 a 1 3 8 [],
 l 8 9 [1],
 o (.call 22 [(t 7),(t 9)]) 10 [0,2],
 U 10 11 [3],
 m 11 12 [4,3],
 g (.load 3 true (t 3)) 13 12 false [5],
 u 0 2 14 12 false [5],
 v 14 15 12 false [7,5],
 g (.call 23 [(t 13),(t 15)]) 16 12 false [6,8,5,5],
 K 16 17 12 false [9,5],
 p 12 17 18 [5,10]]
def VD:ai:=[
 o (.build [V 0,V 0,V 0,.aX,.aX,.aX,V 0,V 0,V 0,(.v (.bool false))] []) 19 [],
 S 10 4 19 [0,0],
 o (.sh (.ia (.v (.bool false)))) 5 [1,0,1]]
def VE:ai:=[
 a 0 3 20 [],
 l 20 21 [0],
 N 21 22 [1],
 o (.bin .mul (i 2) (t 22)) 23 [2],
 C .add 23 1 24 [3],
 m 24 6 (k [4] 4)]
def VF:ai:=[
 L 4 2 25 [],
 L 3 3 26 [],
 n 6 27,
 n 6 28,
 C .add 28 1 29 [3],
 b .mul 27 29 30 [2,4],
 C .quo 30 2 31 [5],
 o (.build [V 0,V 0,V 0,.aX,.aX,.aX,V 0,V 0,V 0,(.v (.bool false))] [(0,4,(t 25)),(4,3,(t 26)),(7,1,(t 31))]) 32 [0,1,6],
 S 10 4 32 (k [7] 7),
 o (.sh (.ia (.v (.bool true)))) 5 (k [8] 8)]
def aq4:DC:=(j (y VC) (j (j (y Kr) (.cond (.tmp 18) (j (y VD) .ret) .skip)) (j (y VE) (j (y VF) .ret))))
def Gg:List dS:=[.cell 4 10 true,.oz 5]
def aq5 [bM]:aB aj 9 33 aq4 Gg:=aB.of Tryz.f9 (by kernel_rfl)
def VG:ai:=[
 B 0 2,
 B 1 3,
 F 4]
def wx:ai:=[
 L 4 2 5 [],
 a 1 3 6 [],
 l 6 7 [1],
 o (.call 24 [(t 5),(t 7)]) 8 [0,2],
 m 8 9 [3,3],
 u 1 2 10 9 true [4],
 v 10 11 9 true [5,4],
 E .leq 11 12 12 9 true [6,4],
 q 9 12 13 [4,7],
 m 13 14 [8,4],
 u 3 2 15 14 true [9],
 v 15 16 14 true [10,9],
 H 16 17 14 true [11,9],
 E .leq 17 20 18 14 true [12,9],
 q 14 18 19 [9,13],
 m 19 20 [14,9],
 g (.load 3 true (t 3)) 21 20 true [15],
 g (.call 25 [(t 21),(i 4),(i 6)]) 22 20 true [16,15,15],
 q 20 22 23 [15,17],
 m 23 4 (k [18,17] 18)]
def aq6:DC:=(j (y VG) (j (y wx) .ret))
def aq7 [bM]:aB aj 10 24 aq6 (dm 4):=aB.of Tryz.f10 (by kernel_rfl)
def VH:ai:=[
 o (.alloc [V 0,V 0,.aX]) 4 [],
 I 0 5]
def VI:ai:=[
 I 0 6]
def Gh:ai:=[
 n 6 7,
 C .lss 7 2000 8 [0],
 m 8 9 [1],
 w 0 10 9 true [2],
 w 1 11 9 true [2],
 g (.callS 17 [(t 10),(t 11)]) 12 9 true [3,4,2,2],
 E .gtr 12 0 13 9 true [5,2],
 q 9 13 14 [2,6]]
def aff:ai:=Gh.map bare
def VJ:ai:=[
 n 6 15,
 C .add 15 1 16 [0],
 m 16 6 [1,0,1]]
def Gi:ai:=[
 n 0 17,
 o (.callS 19 [(t 17)]) 18 [0],
 e 0 18 19 [1],
 e 1 18 20 [1],
 S 3 4 19 [2,1,0,1,2,3],
 m 20 5 (k [3,4] 4)]
def afg:ai:=Gi.map bare
def aq8:DC:=(j (y VH) (j (j (y VI) (.block 0 (.loop (j (j (y aff) (.cond (.tmp 14) .skip (.exit 0))) (j (.block 1 .skip) (y VJ)))))) (j (y afg) .ret)))
def Gj:List dS:=[.cell 4 3 true,.oz 5]
def aq9 [bM]:aB aj 11 21 aq8 Gj:=aB.of Tryz.f11 (by kernel_rfl)
def VK:ai:=[
 B 0 2,
 B 1 3,
 o (.sh (.ia (.v (.pO (Go.Value.pointer Option.none))))) 4 []]
def VL:ai:=[
 L 4 2 7 [],
 o (.call 26 [(t 7)]) 8 [0],
 U 8 9 [1],
 m 9 10 [2,1],
 g (.load 3 true (t 3)) 11 10 false [3],
 u 0 2 12 10 false [3],
 v 12 13 10 false [5,3],
 g (.call 27 [(t 11),(t 13)]) 14 10 false [4,6,3,3],
 K 14 15 10 false [7,3],
 p 10 15 16 [3,8],
 m 16 17 [9,7],
 g (.load 4 true (t 2)) 18 17 false [10],
 u 1 3 19 17 false [10],
 v 19 20 17 false [12,10],
 g (.call 28 [(t 18),(t 20)]) 21 17 false [11,13,10,10],
 K 21 22 17 false [14,10],
 p 17 22 23 [10,15]]
def afh:ai:=[
 o (.sh (.ia (.v (.pO (Go.Value.pointer Option.none))))) 4 []]
def VN:ai:=[
 L 3 3 24 [],
 o (.call 29 [(t 24)]) 25 [0],
 o (.alloc [V 0,.aX,.aX]) 5 [],
 S 3 5 25 [2,1,1,0,1,2]]
def VO:ai:=[
 a 0 5 26 [],
 l 26 27 [0],
 a 0 5 28 [],
 l 28 29 [2],
 C .add 29 1 30 [3],
 b .mul 27 30 31 [1,4],
 C .quo 31 2 32 [5],
 m 32 6 (k [6] 6)]
def VP:ai:=[
 L 4 2 33 [],
 L 3 5 34 [],
 a 1 2 35 [],
 l 35 36 [2],
 a 0 5 37 [],
 l 37 38 [4],
 a 1 2 39 [],
 l 39 40 [6],
 n 6 41,
 b .mul 40 41 42 [7,8],
 o (.mkSlice 65 4 32 [(.int .i64 0),(.int .i64 0),(.int .i64 0),(.int .i64 0)] (t 42)) 43 [9,9],
 o (.build [V 0,V 0,.aX] [(0,1,(t 36)),(1,1,(t 38)),(2,1,(t 43))]) 44 [3,5,10],
 n 6 45,
 o (.build [V 0,V 0,V 0,.aX,V 0,.aX,.aX,V 0,V 0,.aX,V 0,V 0,V 0,(.v (.bool false))] [(0,4,(t 33)),(4,3,(t 34)),(7,3,(t 44)),(12,1,(t 45))]) 46 [0,1,11,12],
 o (.box (t 46)) 47 [13],
 m 47 4 (k [14] 14)]
def ara:DC:=(j (y VK) (j (j (y VL) (.cond (.tmp 23) (j (y afh) .ret) .skip)) (j (y VN) (j (y VO) (j (Y VP) .ret)))))
def arb [bM]:aB aj 12 48 ara (dm 4):=aB.of Tryz.f12 (by kernel_rfl)
def VQ:ai:=[
 B 0 2,
 B 1 3,
 F 4]
def VR:ai:=[
 a 0 2 6 [],
 l 6 7 [0],
 a 0 3 8 [],
 l 8 9 [2],
 b .neq 7 9 10 [1,3],
 m 10 11 [4],
 u 1 2 12 11 false [5],
 v 12 13 11 false [6,5],
 u 1 3 14 11 false [5],
 v 14 15 11 false [8,5],
 D .neq 13 15 16 11 false [7,9,5],
 p 11 16 17 [5,10],
 m 17 18 [11,5],
 u 2 2 19 18 false [12],
 v 19 20 18 false [13,12],
 H 20 21 18 false [14,12],
 u 2 3 22 18 false [12],
 v 22 23 18 false [16,12],
 H 23 24 18 false [17,12],
 D .neq 21 24 25 18 false [15,18,12],
 p 18 25 26 [12,19]]
def afi:ai:=[
 F 4]
def VS:ai:=[
 I 0 5]
def VT:ai:=[
 n 5 27,
 a 2 2 28 [],
 l 28 29 [1],
 N 29 30 [2],
 b .lss 27 30 31 [0,3]]
def VU:ai:=[
 a 2 2 34 [],
 l 34 35 [0],
 n 5 36,
 x 4 35 36 37 [1,2],
 L 4 37 38 [3],
 a 2 3 39 [],
 l 39 40 [5],
 n 5 41,
 x 4 40 41 42 [6,7],
 L 4 42 43 [8],
 o (.eqT true true [(.int .i64),(.int .i64),(.int .i64),(.int .i64)] (t 38) (t 43)) 44 [4,9]]
def afj:ai:=[
 F 4]
def VV:ai:=[
 n 5 32,
 C .add 32 1 33 [0],
 m 33 5 [1,0,1]]
def VW:ai:=[
 R 4]
def arc:DC:=(j (y VQ) (j (j (y VR) (.cond (.tmp 26) (j (y afi) .ret) .skip)) (j (j (y VS) (.block 0 (.loop (j (j (y VT) (.cond (.tmp 31) .skip (.exit 0))) (j (.block 1 (j (Y VU) (.cond (.tmp 44) (j (y afj) .ret) .skip))) (y VV)))))) (j (y VW) .ret))))
def ard [bM]:aB aj 13 45 arc (dm 4):=aB.of Tryz.f13 (by kernel_rfl)
def VX:ai:=[
 n 0 2,
 o (.isNil 1 true (t 2)) 3 [0],
 m 3 4 [1],
 w 0 5 4 true [2],
 g (.nilCheck (t 5)) 6 4 true [3,2],
 u 12 6 7 4 true [4,2],
 v 7 8 4 true [5,2],
 E .gtr 8 0 9 4 true [6,2],
 q 4 9 10 [2,7]]
def VY:ai:=[
 n 0 11,
 c 11 12 [0,0],
 a 13 12 13 [1,0],
 s (.store 1 (t 13) (.ia (.v (.bool true)))) [2,0]]
def are:DC:=(j (y VX) (.cond (.tmp 10) (y VY) .skip))
def Gk:List dS:=[]
def arf [bM]:aB aj 14 14 are Gk:=aB.of Tryz.f14 (by kernel_rfl)
def Ks:ai:=[
 B 0 2,
 B 1 3,
 I 0 4]
def DW:ai:=[
 l 2 8 [],
 o (.isNil 1 false (t 8)) 9 [0],
 m 9 10 [1],
 v 2 11 10 false [2],
 g (.nilCheck (t 11)) 12 10 false [3,2],
 u 13 12 13 10 false [4,2],
 v 13 14 10 false [5,2],
 p 10 14 15 [2,6],
 m 15 16 [7,2],
 v 3 17 16 false [8],
 E .leq 17 0 18 16 false [9,8],
 p 16 18 19 [8,10]]
def VZ:ai:=[
 I 0 4]
def V0:ai:=[
 o (.alloc [V 0]) 5 [],
 s (.store 1 (t 5) (i 0)) [0,0]]
def V1:ai:=[
 l 2 20 [],
 o (.call 30 [(t 20)]) 21 [0]]
def V2:ai:=[
 n 22 6]
def V3:ai:=[
 n 23 7]
def Gl:ai:=[
 l 2 24 [],
 n 6 25,
 n 7 26,
 o (.callS 31 [(t 24),(t 25),(t 26)]) 27 [0,1,2]]
def afk:ai:=Gl.map bare
def V4:ai:=[
 l 5 28 [],
 C .add 28 1 29 [0],
 S 1 5 29 [1,0,1]]
def V5:ai:=[
 l 5 30 [],
 l 3 31 [],
 b .eql 30 31 32 [0,1]]
def Gm:ai:=[
 l 5 33 [],
 m 33 4 [0,0]]
def arh:DC:=(j (y Ks) (j (j (y DW) (.cond (.tmp 19) (j (y VZ) .ret) .skip)) (j (y V0) (j (j (y V1) (.block 0 (.JJ (.tmp 21) [22,23] (j (y V2) (y V3)) (.block 1 (j (y afk) (j (y V4) (j (y V5) (.cond (.tmp 32) (.exit 0) .skip)))))))) (j (y Gm) .ret)))))
def ajz [bM]:aB aj 17 34 arh (dm 4):=aB.of Tryz.f17 (by kernel_rfl)
def V6:ai:=[
 I 0 2]
def V7:ai:=[
 n 0 3,
 o (.isNil 1 false (t 3)) 4 [0]]
def afl:ai:=[
 I 0 2]
def V8:ai:=[
 n 0 5,
 c 5 6 [0],
 a 12 6 7 [1],
 l 7 8 [2],
 m 8 2 [3,0,1,2,3]]
def ari:DC:=(j (y V6) (j (j (y V7) (.cond (.tmp 4) (j (y afl) .ret) .skip)) (j (y V8) .ret)))
def arj [bM]:aB aj 18 9 ari (dm 2):=aB.of Tryz.f18 (by kernel_rfl)
def Kt:ai:=[
 o (.alloc [V 0,V 0,.aX]) 2 [],
 I 0 3]
def Ku:ai:=[
 n 0 5,
 o (.isNil 1 false (t 5)) 6 [0],
 m 6 4 [1]]
def afm:ai:=[
 o (.build [V 0,V 0,.aX] []) 7 [],
 S 3 2 7 [0,0],
 o (.sh (i 15)) 3 [1,0,1]]
def Kv:ai:=[
 n 0 9,
 c 9 10 [0],
 a 13 10 11 [1],
 l 11 12 [2],
 m 12 8 [3]]
def V9:ai:=[
 o (.build [V 0,V 0,.aX] []) 13 [],
 S 3 2 13 [0,0],
 o (.sh (i 12)) 3 [1,0,1]]
def Kw:ai:=[
 n 0 15,
 c 15 16 [0],
 a 12 16 17 [1],
 l 17 18 [2],
 C .gtr 18 0 19 [3],
 m 19 14 [4]]
def Wa:ai:=[
 o (.build [V 0,V 0,.aX] []) 20 [],
 S 3 2 20 [0,0],
 o (.sh (i 15)) 3 [1,0,1]]
def Wb:ai:=[
 n 0 21,
 c 21 22 [0],
 a 7 22 23 [1],
 L 3 23 24 [2],
 S 3 2 24 [3,0,1,2,3],
 o (.sh (i 0)) 3 (k [4] 4)]
def ark:DC:=(j (y Kt) (j (.block 0 (j (y Ku) (.cond (.tmp 4) (j (y afm) .ret) (j (y Kv) (.cond (.tmp 8) (j (y V9) .ret) (j (y Kw) (.cond (.tmp 14) (j (y Wa) .ret) .skip))))))) (j (y Wb) .ret)))
def vG:List dS:=[.cell 2 3 true,.oz 3]
def ajA [bM]:aB aj 19 25 ark vG:=aB.of Tryz.f19 (by kernel_rfl)
def Wc:ai:=[
 o (.alloc [V 0,V 0,V 0,.aX]) 0 [],
 o (.alloc [.aX,.aX,V 0]) 1 []]
def Wd:ai:=[
 o (.build [V 0,V 0,V 0,V 0,V 0,V 0] [(0,1,(i 2)),(4,1,(i 2))]) 2 [],
 o (.bslice 1 6 [V 0,V 0,V 0,V 0,V 0,V 0] [(0,6,(t 2))]) 3 [0],
 o (.build [V 0,V 0,V 0,.aX] [(0,1,(i 1)),(1,1,(i 1)),(3,1,(t 3))]) 4 [1],
 o (.bslice 1 1 [V 0] [(0,1,(i 0))]) 5 [],
 o (.build [V 0,.aX,V 0] [(1,1,(t 5)),(2,1,(i 3))]) 6 [3],
 o (.bslice 1 3 [V 0,.aX,V 0] [(0,3,(t 6))]) 7 [4],
 o (.bslice 1 1 [V 0] [(0,1,(i 4))]) 8 [],
 o (.build [.aX,.aX,V 0] [(0,1,(t 7)),(1,1,(t 8))]) 9 [5,6],
 S 4 0 4 [2,0,1,2],
 S 3 1 9 (k [7,8] 8)]
def arl:DC:=(j (y Wc) (j (y Wd) .ret))
def Nk:List dS:=[.cell 0 4 true,.cell 1 3 true]
def arm [bM]:aB aj 21 10 arl Nk:=aB.of Tryz.f21 (by kernel_rfl)
def We:ai:=[
 B 0 2,
 F 4]
def zW:ai:=[
 a 3 2 5 [],
 l 5 6 [0],
 N 6 7 [1],
 C .leq 7 60 8 [2],
 m 8 9 [3],
 u 1 2 10 9 true [4],
 v 10 11 9 true [5,4],
 E .leq 11 60 12 9 true [6,4],
 q 9 12 13 [4,7],
 m 13 14 [8,4],
 w 1 15 14 true [9],
 H 15 16 14 true [10,9],
 E .leq 16 30 17 14 true [11,9],
 q 14 17 18 [9,12],
 m 18 4 (k [13,9] 13)]
def arn:DC:=(j (y We) (j (y zW) .ret))
def aro [bM]:aB aj 24 19 arn (dm 4):=aB.of Tryz.f24 (by kernel_rfl)
def Wf:ai:=[
 B 0 3,
 F 6]
def DX:ai:=[
 a 0 3 8 [],
 l 8 9 [0],
 N 9 10 [1],
 n 1 11,
 b .gtr 10 11 12 [2,3],
 m 12 13 [4],
 u 1 3 14 13 false [5],
 v 14 15 13 false [6,5],
 H 15 16 13 false [7,5],
 w 2 17 13 false [5],
 D .gtr 16 17 18 13 false [8,9,5],
 p 13 18 19 [5,10]]
def Wg:ai:=[
 F 6]
def Wh:ai:=[
 I 0 7]
def Wi:ai:=[
 n 7 20,
 a 0 3 21 [],
 l 21 22 [1],
 N 22 23 [2],
 b .lss 20 23 24 [0,3]]
def Wj:ai:=[
 a 0 3 27 [],
 l 27 28 [0],
 n 7 29,
 x 3 28 29 30 [1,2],
 a 1 30 31 [3],
 l 31 32 [4],
 N 32 33 [5],
 n 2 34,
 b .gtr 33 34 35 [6,7]]
def Wk:ai:=[
 F 6]
def Wl:ai:=[
 n 7 25,
 C .add 25 1 26 [0],
 m 26 7 [1,0,1]]
def Wm:ai:=[
 R 6]
def arp:DC:=(j (y Wf) (j (j (y DX) (.cond (.tmp 19) (j (y Wg) .ret) .skip)) (j (j (y Wh) (.block 0 (.loop (j (j (y Wi) (.cond (.tmp 24) .skip (.exit 0))) (j (.block 1 (j (y Wj) (.cond (.tmp 35) (j (y Wk) .ret) .skip))) (y Wl)))))) (j (y Wm) .ret))))
def arq [bM]:aB aj 25 36 arp (dm 6):=aB.of Tryz.f25 (by kernel_rfl)
def Wn:ai:=[
 B 0 1,
 o (.sh (.ia (.v (.pO (Go.Value.nilFunc))))) 2 []]
def Wo:ai:=[
 o (.mkFn (.func 51) [(t 1)]) 3 [],
 m 3 2 [0,0]]
def ars:DC:=(j (y Wn) (j (y Wo) .ret))
def art [bM]:aB aj 30 4 ars (dm 2):=aB.of Tryz.f30 (by kernel_rfl)
def Wp:ai:=[
 n 1 7,
 n 0 8,
 c 8 9 [1],
 a 4 9 10 [2],
 a 0 10 11 [3],
 l 11 12 [4],
 b .mul 7 12 13 [0,5],
 n 1 14,
 n 1 15,
 C .sub 15 1 16 [8],
 b .mul 14 16 17 [7,9],
 C .quo 17 2 18 [10],
 b .sub 13 18 19 [6,11],
 n 2 20,
 b .add 19 20 21 [12,13],
 n 1 22,
 b .sub 21 22 23 [14,15],
 m 23 6 (k [16] 16)]
def afn:ai:=[
 n 0 24,
 c 24 25 [0],
 a 7 25 26 [1],
 a 2 26 27 [2],
 l 27 28 [3],
 n 6 29,
 n 0 30,
 c 30 31 [6],
 a 0 31 32 [7],
 a 1 32 33 [8],
 l 33 34 [9],
 b .mul 29 34 35 [5,10],
 o (.slice 4 (t 28) (some (t 35)) none) 36 [4,11],
 n 0 37,
 c 37 38 [13],
 a 0 38 39 [14],
 L 4 39 40 [15],
 n 0 41,
 c 41 42 [17],
 a 4 42 43 [18],
 L 3 43 44 [19],
 n 0 45,
 c 45 46 [21],
 a 7 46 47 [22],
 L 3 47 48 [23],
 n 1 49,
 n 2 50,
 o (.call 52 [(t 40),(t 44),(t 48),(t 49),(t 50)]) 51 [16,20,24,25,26],
 o (.copy 4 (t 36) (t 51)) 52 [12,27,27]]
def aru:DC:=(j (y Wp) (Y afn))
def Nl:List dS:=[]
def arv [bM]:aB aj 31 53 aru Nl:=aB.of Tryz.f31 (by kernel_rfl)
def Wq:ai:=[
 l 1 5 [],
 c 5 6 [0],
 a 12 6 7 [1],
 l 7 8 [2],
 C .gtr 8 0 9 [3]]
def Wr:ai:=[
 l 1 10 [],
 c 10 11 [0],
 a 11 11 12 [1],
 l 12 13 [2],
 l 1 14 [],
 c 14 15 [4],
 a 11 15 16 [5],
 l 16 17 [6],
 l 1 18 [],
 c 18 19 [8],
 a 10 19 20 [9],
 l 20 21 [10],
 b .add 17 21 22 [7,11],
 m 13 3 [3,0,1,2,3],
 m 22 4 (k [12,13] 13)]
def Ws:ai:=[
 l 1 23 [],
 c 23 24 [0],
 a 12 24 25 [1],
 l 25 26 [2],
 C .sub 26 1 27 [3],
 c 23 28 (k [0] 4),
 a 12 28 29 (k [5] 4),
 S 1 29 27 (k [6,4] 4)]
def Wt:ai:=[
 l 1 30 [],
 c 30 31 [0],
 a 11 31 32 [1],
 l 32 33 [2],
 C .add 33 1 34 [3],
 c 30 35 (k [0] 4),
 a 11 35 36 (k [5] 4),
 S 1 36 34 (k [6,4] 4)]
def Wu:ai:=[
 l 1 37 [],
 c 37 38 [0],
 a 11 38 39 [1],
 l 39 40 [2],
 l 1 41 [],
 c 41 42 [4],
 a 10 42 43 [5],
 l 43 44 [6],
 b .add 40 44 45 [3,7],
 l 1 46 [],
 c 46 47 [9],
 a 4 47 48 [10],
 a 0 48 49 [11],
 l 49 50 [12],
 b .geq 45 50 51 [8,13]]
def Ky:ai:=[
 l 1 52 [],
 l 1 53 [],
 l 1 54 [],
 c 54 55 [2],
 a 10 55 56 [3],
 l 56 57 [4],
 C .add 57 1 58 [5],
 c 52 59 [0,0,2,3,4,5,6],
 a 10 59 60 [7,0,2,3,4,5,6],
 S 1 60 58 [8,6,0,2,3,4,5,6],
 c 53 61 (k [1] 9),
 a 11 61 62 (k [10] 9),
 s (.store 1 (t 62) (i 0)) (k [11,9] 9)]
def Wv:ai:=[
 n 0 63,
 n 3 64,
 n 4 65,
 o (.callv (t 63) [(t 64),(t 65)]) 66 [0,1,2],
 U 66 67 [3]]
def arw:DC:=(.block 0 (.loop (j (j (y Wq) (.cond (.tmp 9) .skip (.exit 0))) (.block 1 (j (Y Wr) (j (y Ws) (j (y Wt) (j (j (Y Wu) (.cond (.tmp 51) (.jQ Ky) .skip)) (j (y Wv) (.cond (.tmp 67) .ret .skip))))))))))
def aco:List dS:=[]
def arx [bM]:aB aj 51 68 arw aco:=aB.of Tryz.f51 (by kernel_rfl)
end cD
abbrev ti(n:Int):T:=.int .i64 n
def dL:T->Int
 |.int _ n=>n
 |_=>0
structure cE where
 (f t term aI:Int)
 ops:List (Int×Int)
 deriving DecidableEq,Inhabited
structure aU where
 ba:Int
 bK:List cE
 vE:bT
structure cP where
 kind:Int
 read:bT
 delete:Int
 deriving Inhabited
structure Input where
 aw:List cP
 insert:bT
 swap:Int
def iz(l:List (Int×Int)):List (aL):=l.map λo=>[ti o.1,ti o.2]
def cE.enc(a:cE):aL:=[ti a.f,ti a.t,ti a.term,ti a.aI,.sl (iz a.ops)]
def kL(l:List cE):List (aL):=l.map cE.enc
def aG(l:bT):List (aL):=l.map λx=>[ti x]
def aU.enc(l:aU):T:=.agg [ti l.ba,.sl (kL l.bK),.sl (aG l.vE)]
def cP.enc(c:cP):aL:=[ti c.kind,.sl (aG c.read),ti c.delete]
def cz(l:List cP):List (aL):=l.map cP.enc
def Input.enc(x:Input):T:=.agg [.sl (cz x.aw),.sl (aG x.insert),ti x.swap]
def gK{α β:Type}{f:α->β}{g:β->α}(h:∀a,g (f a)=a)(l:List α):(l.map f).map g=l:=by
 rw[Zdq];conv=>rhs;rw[<-List.map_id l]
 exact Zbz λa _=>h a
def lz(l:List (aL)):bT:=l.map λx=>dL (x.getD 0 (ti 0))
def BC(l:List (aL)):List (Int×Int):=l.map λx=>(dL (x.getD 0 (ti 0)),dL (x.getD 1 (ti 0)))
def yb:aL->cE
 |[a,b,c,d,.sl o]=>⟨dL a,dL b,dL c,dL d,BC o⟩
 |_=>default
def KB(l:List (aL)):List cE:=l.map yb
def t6:aL->cP
 |[a,.sl b,c]=>⟨dL a,lz b,dL c⟩
 |_=>default
def Aa(l:List (aL)):List cP:=l.map t6
def amE:T->aU
 |.agg [a,.sl b,.sl c]=>⟨dL a,KB b,lz c⟩
 |_=>⟨0,[],[]⟩
def aft:T->Input
 |.agg [.sl a,.sl b,c]=>⟨Aa a,lz b,dL c⟩
 |_=>⟨[],[],0⟩
@[simp] def NF(l:bT):lz (aG l)=l:=gK (λ_=>rfl) l
@[simp] def QR(l:List (Int×Int)):BC (iz l)=l:=gK (λ_=>rfl) l
@[simp] def yd(a:cE):yb a.enc=a:=by simp[yb,cE.enc,dL]
@[simp] def ak2(l:List cE):KB (kL l)=l:=gK yd l
@[simp] def qg(a:cP):t6 a.enc=a:=by simp[t6,cP.enc,dL]
@[simp] def ak3(l:List cP):Aa (cz l)=l:=gK qg l
@[simp] def aoE(a:Int)(l:List cE)(f:bT):amE (.agg [ti a,.sl (kL l),.sl (aG f)])=⟨a,l,f⟩:=by simp[amE,dL]
@[simp] def arS(n:aU):amE n.enc=n:=by simp[aU.enc]
@[simp] def aoF(a:List cP)(b:bT)(c:Int):aft (.agg [.sl (cz a),.sl (aG b),ti c])=⟨a,b,c⟩:=by simp[aft,dL]
@[simp] def arT(x:Input):aft x.enc=x:=by simp[Input.enc]
def cM{l:bT}{y:Nat}(h:y<l.length):DM.rowAt (aG l) y=[ti (l.getD y default)]:=by simp[DM.rowAt,aG,h]
def ye{l:List cE}{y:Nat}(h:y<l.length):DM.rowAt (kL l) y=(l.getD y default).enc:=by simp[DM.rowAt,kL,h]
def kg{l:List cP}{y:Nat}(h:y<l.length):DM.rowAt (cz l) y=(l.getD y default).enc:=by simp[DM.rowAt,cz,h]
@[simp] def aoG(l:bT):(aG l).length=l.length:=by simp[aG]
@[simp] def arU(l:List (Int×Int)):(iz l).length=l.length:=by simp[iz]
@[simp] def aoH(l:List cE):(kL l).length=l.length:=by simp[kL]
@[simp] def aoI(l:List cP):(cz l).length=l.length:=by simp[cz]
abbrev nj:List Sh:=[.int .i64,.int .i64,.int .i64]
def keyOf(f t x:Int):T:=.agg [ti f,ti t,ti x]
def cE.key(a:cE):T:=keyOf a.f a.t a.term
def dz(al:List cE):List (Nat×T×DV):=al.zipIdx.map λp=>(p.2,p.1.key,.v (.agg p.1.enc))
def cV(al:List cE):Ob:=.map nj true al.length (dz al)
def du(x:Input)(m:Nat):bF:=[.v (.sl (cz x.aw)),.v (.sl (aG x.insert)),.v (ti x.swap),.je m]
def bj(a b:cE):Bool:=decide (a.f=b.f/\a.t=b.t/\a.term=b.term)
def xC(al:List cE)(a:cE):List cE:=
 if a.aI<1099511627776 then
  match al.findIdx? (bj a)with
  |none=>al++[a]
  |some i=>if a.aI<(al.getD i default).aI then al.set i a else al
 else al
def KM:DV->Int
 |.v (.agg [_,_,_,.int _ c,_])=>c
 |_=>0
def yf(k:T)(c:Int)(es:List (Nat×T×DV)):Bool:=
 decide (c<1099511627776)&&match sj k es with|none=>true|some e=>decide (c<KM e.2.2)
def sL(k:T)(c:Int)(y:DV)(yg:Nat)(es:List (Nat×T×DV)):List (Nat×T×DV):=if yf k c es then Jd k y yg es else es
def yh(k:T)(c:Int)(yg:Nat)(es:List (Nat×T×DV)):Nat:=if yf k c es then pQ k yg es else yg
def amF(a b:cE):ib a.key b.key=bj a b:=by
 simp[cE.key,keyOf,ib,uu,bj]
def qY(a:cE)(al:List cE):((dz al).findIdx? λe=>ib a.key e.2.1)=al.findIdx? (bj a):=by
 have h:∀(l:List cE) (i:Nat),(((l.zipIdx i).map λp=>((p.2,p.1.key,DV.v (.agg p.1.enc)):Nat×T×DV)).findIdx? λe=>ib a.key e.2.1)=l.findIdx? (bj a):=by
  intro l;induction l with
  |nil=>intro i;rfl
  |cons b l ih=>intro i;simp only[Zc2,qD,Y8,amF,ih (i+1)]
 exact h al 0
def il(al:List cE)(i:Nat):(dz al)[i]? =(al[i]?).map λa=>(i,a.key,.v (.agg a.enc)):=by
 simp[dz,ZbG,List.getElem?_zipIdx,Function.comp_def]
def lY(al:List cE):(dz al).length=al.length:=by simp[dz]
def Yf(al:List cE):∀e∈dz al,∃a:cE,e.2.2=.v (.agg a.enc):=by
 intro e he;simp only[dz,g9]at he;obtain⟨p,_,rfl⟩:=he;exact⟨p.1,rfl⟩
def wB{α:Type}{p:α->Bool}{l:List α}{i:Nat}(h:l.findIdx? p=some i):i<l.length:=by
 rw[Zbv]at h;exact h.1
def GJ(a:cE)(al:List cE):yf a.key a.aI (dz al)=(decide (a.aI<1099511627776)&&match al.findIdx? (bj a)with|none=>true|some i=>decide (a.aI<(al.getD i default).aI)):=by
 unfold yf;rw[zC,qY];cases h:al.findIdx? (bj a)with
 |none=>rfl
 |some i=>
  have hi:=wB h;simp[il,hi,KM,cE.enc];rfl
def KO(a:cE)(al:List cE):sL a.key a.aI (.v (.agg a.enc)) al.length (dz al)=dz (xC al a)/\yh a.key a.aI al.length (dz al)=(xC al a).length:=by
 unfold sL yh xC;rw[GJ];by_cases hc:a.aI<1099511627776
 ·simp only[hc,decide_true,ZcY,jP];cases h:al.findIdx? (bj a)with
  |none=>
   simp only[jP,Jd,pQ,qY,h];refine⟨?_,by simp⟩;apply ZbZ;intro j;rw[il,Zc6,Zc6,lY,il];split
   ·rfl
   ·rename_i hj;by_cases hj2:j=al.length
    ·subst hj2;simp
    ·rw[ZbB (by simp;omega),ZbB (by simp;omega)];rfl
  |some i=>
   have hi:=wB h;have P6:a.key=(al.getD i default).key:=by
    rw[Zbv]at h;obtain⟨_,h1,_⟩:=h;simp only[bj,tD]at h1;simp[cE.key,keyOf,List.getD,hi,h1]
   simp only;by_cases h2:a.aI<(al.getD i default).aI
   ·simp only[h2,decide_true,jP,Jd,pQ,qY,h];refine⟨?_,by simp⟩;apply ZbZ;intro j;rw[il,List.getElem?_modify,il,ZbN];by_cases hj:i=j
    ·subst hj;simp[hi,P6,List.getD]
    ·simp[hj]
   ·simp only[h2,decide_false,OX,w7];exact⟨trivial,trivial⟩
 ·simp[hc]
section
variable{f:bq}{low:Nat}
def cL:ay aj (bB []):=ay.nil
def bZ{l:c7}{r:Nat}(hf:df f low)(h:low<=r)(hl:∀p∈l,p.1≠r):gone (aO l f) id r:=by
 intro r' gS e;simp only[id]at e;subst e;cases ho:aO l f r' with
 |none=>exact gS ho
 |some o=>
  rcases sD ho with h1|⟨_,h1⟩
  ·exact hl _ h1 rfl
  ·have:=(hf r' o h1).1;omega
def im:List cP->Int->Int
 |[],c=>c
 |x::l,c=>im l (min (c+x.delete) 1099511627776)
def gR(n:Nat):List (Int×Int):=List.replicate n (2,0)
def KP(l:List cP)(x:cP)(c:Int):im (l++[x]) c=min (im l c+x.delete) 1099511627776:=by
 induction l generalizing c with
 |nil=>rfl
 |cons y l ih=>simp[im,ih]
def xx{l:List cP}(h:∀c∈l,0<=c.delete):∀c,0<=c/\c<=1099511627776->0<=im l c/\im l c<=1099511627776:=by
 induction l with
 |nil=>intro c hc;exact hc
 |cons y l ih=>
  intro c hc;have:=h y (by simp);exact ih (λz hz=>h z (by simp[hz])) _ (by omega)
def QS(l:List cP)(n:Nat):(cz l).take n=cz (l.take n):=by simp[cz,Zcx]
def QT(l:List cP)(n:Nat):(cz l).drop n=cz (l.drop n):=by simp[cz,List.map_drop]
def ur(arV:List cP):Prop:=arV.length<=1000000/\∀c∈arV,0<=c.delete/\c.delete<=1099511627776
def t31{b m:Nat}{x:Input}{i j:Nat}{N:Nat}(hN:∀r,N<=r->f r=none)(hb:f b=some (.box (du x m)))(hij:i<=j)(hj:j<=x.aw.length)(hd:ur x.aw):
  aQ aj 48 [.ptr b 0,.v (ti i),.v (ti j)] f ⟨True,.v (.ew [ti (im ((x.aw.take j).drop i) 0),.sl (iz (gR (j-i)))]),f⟩:=by
 have aC:=cL;refine c31.qE hN (by simp) λaV=>?_;have WA:b<N:=(aV b _ hb).1;obtain⟨part,NG⟩:=be ((x.aw.take j).drop i);have Xh:part.length=j-i:=by rw[<-NG];simp;omega
 have hpd:∀c∈part,0<=c.delete/\c.delete<=1099511627776:=λc hc=>hd.2 c (by rw[<-NG]at hc;exact Ew (Zca hc));have Xm:((cz x.aw).take j).drop i=cz part:=by rw[QS,QT,NG]
 have eQ:∀r∈cz x.aw,r.length=3:=by intro r hr;simp only[cz,g9]at hr;obtain⟨c,_,rfl⟩:=hr;rfl
 have dN:=hd.1;rw[NG];clear NG;simp;apply aa.ag aC fw [0,1,2,7];simp[ajX];apply aa.ag aC fw [0,1,2,8];simp[ajY];apply aa.ag aC fw [0,1,2,8,9];simp[ajZ];apply aa.sq aC fw [8,9,19,20,21];simp[aj0,hb,du,hij,hj,Xm];refine⟨eQ, ?_⟩;refine aa.le (Le.d6 (l1:=[]) (l:=[(8,.v (ti 0)),(9,.aX),(19,.v (.sl (cz part))),(20,.v (ti part.length)),(21,.v (ti 0))]) (aY:=N+200) aV ?_ ?_ ?_ ?_ ?_) ?_
 ·omega
 ·simp
 ·simp[bU]
 ·simp[dT]
 ·simp
 refine aa.le (Le.wr (k:=9) 117 (sz:=2) (by omega) (by simp)) ?_;rw[kx];apply aa.block;refine aa.loop (λy:Nat=>⟨DM.look [(8,.v (ti (im (part.take y) 0))),(9,.bC (N+200) 0),(19,.v (.sl (cz part))),(20,.v (ti part.length)),(21,.v (ti y))],aO [(N+200,.bE 0 117 2 (iz (gR y)))] f,N+300,N,[]⟩)
  (λy=>y<=part.length) (λy=>part.length-y) 0 (Le.d6 aV ?_ ?_ ?_ ?_ ?_) (by simp) (λy hy=>?_)
 ·omega
 ·simp
 ·simp[bU]
 ·simp[dT,eK,gR,iz]
 ·simp[im]
 apply aa.ag aC fw [8,9,19,20,21,22];simp[aj1];apply aa.seq;have xT:=xx (l:=part.take y) (λc hc=>(hpd c (Ew hc)).1) 0 (by omega);refine aa.cond rfl (λhc=>?_) (λhc=>?_)
 ·simp at hc;apply aa.skip;simp;apply aa.seq;apply aa.block;apply aa.ag aC fw [8,9,11,19,20,21];have jH:=kg hc;obtain⟨c,Dt⟩:=be (part[y]);have ZM:c∈part:=by rw[<-Dt];exact SK hc
  have SN:=hpd c ZM;have ZO:part.take (y+1)=part.take y++[c]:=by rw[Zb0,w8 hc,Dt];rfl
  simp[aj2,jH,Dt,hc,cP.enc];apply aa.ag aC fw [8,9,11,19,20,21];simp[aj3];rw[aF (by omega)];apply aa.fJ aC fw [8,9,19,20,21];simp[aj4,dR,gn];refine⟨by
    have:(gR y).length=y:=by simp[gR]
    omega, ?_⟩
  apply aa.fJ aC fw [8,9,19,20,21];simp[aj5];refine⟨y+1,Le.d6 aV ?_ ?_ ?_ ?_ ?_,by omega,by omega⟩
  ·omega
  ·simp
  ·simp[bU];omega
  ·simp[dT,eK,gR,iz,Zc8]
  ·simp[ZO,KP];rw[aF (by omega)]
 ·simp at hc;have AW:y=part.length:=by omega
  subst AW;apply aa.exit;simp;apply aa.ag aC fw [6,7];simp[aj6];refine aa.le (Le.d6 (l1:=[]) (l:=[(6,.v (ti (im part 0))),(7,.v (.sl (iz (gR part.length))))]) (aY:=N+1000) aV ?_ ?_ ?_ ?_ ?_) ?_
  ·omega
  ·simp
  ·simp[bU]
  ·simp[dT]
  ·simp;exact bZ aV (by omega) (by simp)
  apply aa.ret;simp[acN,Xh];rfl
def dn(x:Input)(m:Nat):Bool:=
 decide (m+1<x.aw.length/\0<x.swap/\0<=(x.aw.getD m default).kind/\0<=(x.aw.getD (m+1) default).kind)
def t50{b m:Nat}{x:Input}{i:Nat}{N:Nat}(hN:∀r,N<=r->f r=none)(hb:f b=some (.box (du x m)))(hi:i<=1000000)(hl:x.aw.length<=1000000):
  aQ aj 77 [.ptr b 0,.v (ti i)] f ⟨True,.v (.bool (dn x i)),f⟩:=by
 have aC:=cL;refine c50.qE hN (by simp) λaV=>?_;simp;apply aa.ag aC fw [0,1,4];simp[akg];apply aa.ag aC fw [0,1,5];simp[akh,hb,du];have hw:IntKind.i64.wrap ((i:Int)+1)=i+1:=aF (by omega);refine aa.cH aC fw [(4,.v (.bool (dn x i)))] ?_ ?_
 ·by_cases h1:i+1<x.aw.length
  ·have tw:=kg (l:=x.aw) (y:=i) (by omega);have yY:DM.rowAt (cz x.aw) ((i:Int)+1)=(x.aw.getD (i+1) default).enc:=kg (l:=x.aw) h1;obtain⟨c1,b8⟩:=be (x.aw.getD i default);obtain⟨c2,gZ⟩:=be (x.aw.getD (i+1) default);rw[b8]at tw;rw[gZ]at yY;have hd1:((i:Int)+1<x.aw.length)=True:=by simp;omega
   have hd2:((i:Int)<x.aw.length)=True:=by simp;omega
   have hd3:(0<=(i:Int)+1)=True:=by simp;omega
   have hd4:i<x.aw.length:=by omega
   have OV:dn x i=(decide (0<x.swap)&&(decide (0<=c1.kind)&&decide (0<=c2.kind))):=by
    unfold dn;rw[b8,gZ];simp[h1]
   by_cases s1:0<x.swap<;>by_cases s2:0<=c1.kind<;>by_cases s3:0<=c2.kind<;>simp[acU,hb,du,hw,tw,yY,hd1,hd2,hd3,cP.enc,s1,s2,s3,OV]
  ·have hd1:((i:Int)+1<x.aw.length)=False:=by simp;omega
   simp[acU,hw,hd1];simp[dn]
   intros;omega
 apply aa.ret;simp[dm];rfl
def Le.Yg{tm:dj}{ob:bq}{aK:Nat}{td:List (aL)}{P:Program}{nt:Nat}{d:DC}{Q:Exit->ma->Prop}{k:Nat}(hk:tm k=.v (.sl []))
  (h:∀(p:Option Addr) (c:Nat),aa P nt d Q ⟨c5 tm (some k) (.v (.pO (.slice p 0 c))),ob,aK,low,td⟩):aa P nt d Q ⟨tm,ob,aK,low,td⟩:=by
 refine⟨λc hc n κ a w L g r=>?_⟩;obtain⟨W,base,M,w0,dK,h0⟩:=r.r.ex;have hx:=h0.tmps k;simp only[hk,aA,bm]at hx;have m0:∃(p:Option Addr) (cp:Nat),a.tmps.getD k Go.undef=.slice p 0 cp:=by
  rcases hx with⟨_,p,cp,hx⟩|⟨b,o,cp,sz,hx,_⟩
  ·exact⟨p,cp,hx⟩
  ·exact⟨_,cp,hx⟩
 obtain⟨p,cp,hx⟩:=m0;refine(h p cp).run c hc n κ a w L g ⟨⟨⟨W,base,M,w0,dK,h0.size,λt=>?_,h0.o⟩,r.r.fu,r.r.defers,r.r.bg,r.r.cj⟩,r.fresh,r.low,r.it⟩;simp only[c5];by_cases ht:t=k
 ·subst ht;simp only[jP,aA,bm];exact hx
 ·simp only[ht,w7];exact h0.tmps t
def t49(l:List (Int×Int))(hl:l.length<=1000000):pW aj 76 [.sl (iz l)] 117 2 (iz l):=by
 have aC:=cL;refine c49.okF (by simp) (aT ?_);simp;have eQ:∀r∈iz l,r.length=2:=by intro r hr;simp only[iz,g9]at hr;obtain⟨c,_,rfl⟩:=hr;rfl
 apply aa.ag aC fw [0,2];simp[ake];cases l with
 |nil=>
  refine Le.Yg (k:=0) (by simp[iz]) λp c=>?_;apply aa.sq aC fw [0,2,4];simp[acS];refine aa.cond rfl (λh=>?_) (λh=>?_)
  ·apply aa.ag aC fw [2];simp[akf];apply aa.ret;exact .inl ⟨by simp,by simp[iz],by omega⟩
  ·apply aa.skip;simp;apply aa.ag aC fw [2];simp[acT,dR];apply aa.ret;exact .inr ⟨1026,0,by simp,by simp[iz]⟩
 |cons o l=>
  apply aa.sq aC fw [0,2,4];simp[acS];refine⟨by simp[iz], ?_⟩;refine aa.cond rfl (λh=>by cases h) (λh=>?_);apply aa.skip;simp;apply aa.ag aC fw [2];simp[acT,dR];refine⟨⟨eQ,by simp at hl⊢;omega⟩, ?_⟩;apply aa.ret;exact .inr ⟨1026,0,by simp,by simp⟩
end
section
variable [bM]
def okE:ay aj (bB []):=ay.nil
def uJ(a b:Int):Int:=if a<b then-1 else if b<a then 1 else 0
def WC(l:bT):Int:=(l.find? λx=>x !=0).getD 0
def fz(x y:aL):Int:=WC [uJ (dL (x.getD 0 (ti 0))) (dL (y.getD 0 (ti 0))),uJ (dL (x.getD 1 (ti 0))) (dL (y.getD 1 (ti 0))),uJ (dL (x.getD 2 (ti 0))) (dL (y.getD 2 (ti 0)))]
def t71(a:Int):bw aj 118 [ti a] (.bool false):=by
 have aC:=okE;refine c71.ok (by simp) (aT ?_);simp;apply aa.ag aC fw [0];simp[akF];apply aa.ag aC fw [2];simp[akG];apply aa.ret;simp[dm]
abbrev amQ:DM.Spec:=dh (λts=>∃a,ts=[ti a]) (λ_=>.bool false) true
def auE:ay aj (bB [(118,amQ)]):=by
 refine ay.cons ay.nil ?_;rintro ts ⟨a,rfl⟩;exact⟨t71 a,λ_=>rfl⟩
def t54(a b:Int):bw aj 81 [ti a,ti b] (ti (uJ a b)):=by
 have aC:=auE;refine c54.ok (by simp) (aT ?_);simp;apply aa.ag aC fw [0,1];simp[MP];apply aa.ag aC fw [0,1,5];simp[MQ];apply aa.ag aC fw [0,1,5,6];simp[akB];apply aa.sq aC fw [0,1,6,11];simp[akC];refine aa.cond rfl (λh=>by cases h) (λh=>?_);apply aa.skip;simp;apply aa.sq aC fw [0,1,13];simp[akD];refine aa.cond rfl (λh=>by cases h) (λh=>?_);apply aa.skip;simp;apply aa.sq aC fw [0,1,16];simp[akE];refine aa.cond rfl (λh=>?_) (λh=>?_)
 ·simp at h;apply aa.ag aC fw [4];simp[acW];apply aa.ret;simp[dm,uJ,h]
 ·simp at h;apply aa.skip;simp;apply aa.sq aC fw [0,1,19];simp[acX];refine aa.cond rfl (λh2=>?_) (λh2=>?_)
  ·simp at h2;apply aa.ag aC fw [4];simp[acY];apply aa.ret;simp[dm,uJ,h2,show ¬a<b by omega]
  ·simp at h2;apply aa.skip;simp;apply aa.ag aC fw [4];simp[acZ];apply aa.ret;simp[dm,uJ,show ¬a<b by omega,show ¬b<a by omega]
def adb{l:bT}{y:Nat}(hy:y<l.length)(h:l.getD y default=0):WC (l.drop y)=WC (l.drop (y+1)):=by
 rw[ZbR hy];have:l[y]=0:=by simpa [List.getD,hy]using h
 simp[WC,this]
def afx{l:bT}{y:Nat}(hy:y<l.length)(h:l.getD y default≠0):WC (l.drop y)=l.getD y default:=by
 rw[ZbR hy];have e:l.getD y default=l[y]:=by simp[List.getD,hy]
 rw[e]at h⊢;simp only[WC,LF,St,(Zdm (a:=l[y]) (b:=(0:Int))).2 h]
def t53(l:bT)(hl:l.length<=1000000):bw aj 80 [.sl (aG l)] (ti (WC l)):=by
 have aC:=okE;refine c53.ok (by simp) (aT ?_);simp;apply aa.ag aC fw [0];simp[aks];apply aa.ag aC fw [0,3];simp[akt];apply aa.sq aC fw [3,6,7,8];simp[aku];apply aa.block;refine aa.loop (λy:Nat=>⟨DM.look [(3,.v (ti 0)),(6,.v (.sl (aG l))),(7,.v (ti l.length)),(8,.v (ti y))],cJ [],2000,1000,[]⟩)
  (λy=>y<=l.length/\WC (l.drop y)=WC l) (λy=>l.length-y) 0 (Le.bH (o:=[]) ?_ ?_ ?_ ?_) (by simp) (λy hy=>?_)
 iterate 4(·simp)
 obtain⟨mf,fW⟩:=hy;apply aa.ag aC fw [3,6,7,8,9];simp[akv];apply aa.seq;refine aa.cond rfl (λh=>?_) (λh=>?_)
 ·simp at h;apply aa.skip;simp;apply aa.seq;apply aa.block;have hr:=cM h;obtain⟨p,hp⟩:=be (l.getD y default);rw[hp]at hr;apply aa.ag aC fw [3,5,6,7,8];simp[akw,hr,h];apply aa.ag aC fw [3,5,6,7,8,14];simp[akx];refine aa.cond rfl (λh2=>?_) (λh2=>?_)
  ·simp at h2;apply aa.ag aC fw [2];simp[aky];apply aa.ret;rw[afx h (by rw[hp];exact h2),hp]at fW;simp[dm,fW]
  ·simp at h2;apply aa.skip;simp;apply aa.fJ aC fw [3,6,7,8];simp[akz];rw[aF (by omega)];refine⟨y+1,Le.bH (o:=[]) ?_ ?_ ?_ ?_,⟨by omega, ?_⟩,by omega⟩;iterate 4(·simp)
   ·rw[<-fW,adb h (by rw[hp];exact h2)]
 ·simp at h;apply aa.exit;simp;apply aa.ag aC fw [2];simp[akA];apply aa.ret;have:l.drop y=[]:=ZbE (by omega);rw[this]at fW;simp only[dm];rw[<-fW];simp[WC]
abbrev amR:DM.Spec:=dh (λts=>∃a b,ts=[ti a,ti b]) (fun|[.int _ a,.int _ b]=>ti (uJ a b)|_=>.bool false) true
abbrev amS:DM.Spec:=dh (λts=>∃l:bT,ts=[.sl (aG l)]/\l.length<=1000000) (fun|[.sl l]=>ti (WC (lz l))|_=>.bool false) true
def auF:ay aj (bB [(81,amR),(80,amS)]):=by
 refine ay.cons (ay.cons ay.nil ?_) ?_
 ·rintro ts ⟨l,rfl,h⟩;have:=t53 l h;rw[<-NF l]at this;exact⟨by simpa using t53 l h,λ_=>rfl⟩
 ·rintro ts ⟨a,b,rfl⟩;exact⟨t54 a b,λ_=>rfl⟩
def t33(a b c d e f:Int):bw aj 50 [.agg [ti a,ti b,ti c],.agg [ti d,ti e,ti f]] (ti (WC [uJ a d,uJ b e,uJ c f])):=by
 have aC:=auF;refine c33.ok (by simp) (aT ?_);simp;apply aa.ag aC fw [2,3];simp[akq];apply aa.ag aC fw [4];simp[akr];refine⟨⟨[uJ a d,uJ b e,uJ c f],rfl,by simp⟩, ?_⟩;apply aa.ret;simp[dm];rfl
end
def Ig(s aM:Int)(a:cE):Prop:=¬(a.f<0\/a.f>a.t\/a.t>=s\/a.term<0\/a.term>=aM\/a.aI<0\/a.aI>=1099511627776\/(a.f=a.t/\a.aI=0))
instance(s aM:Int)(a:cE):Decidable (Ig s aM a):=by unfold Ig;infer_instance
def cR(a b:cE):Prop:=a.f<b.f\/(a.f=b.f/\(a.t<b.t\/(a.t=b.t/\a.term<b.term)))
instance(a b:cE):Decidable (cR a b):=by unfold cR;infer_instance
def SR(f:bT)(i:Nat):Prop:=0<=f.getD i default/\f.getD i default<=1099511627776
def Rc(l:aU)(aM:Int)(i:Nat):Prop:=Ig l.ba aM (l.bK.getD i default)/\(i=0\/cR (l.bK.getD (i-1) default) (l.bK.getD i default))
def Fu(l:aU)(aM:Int):Prop:=(1<=l.ba/\(l.vE.length:Int)=l.ba)/\(∀i,i<l.vE.length->SR l.vE i)/\∀i,i<l.bK.length->Rc l aM i
instance(f:bT)(i:Nat):Decidable (SR f i):=by unfold SR;infer_instance
instance(l:aU)(aM:Int)(i:Nat):Decidable (Rc l aM i):=by unfold Rc;infer_instance
instance(l:aU)(aM:Int):Decidable (Fu l aM):=by unfold Fu;infer_instance
def BL{n:Int}(h:0<=n/\n<18446744073709551616):IntKind.u64.wrap n=n:=by
 unfold IntKind.wrap;simp[IntKind.bits,IntKind.signed];omega
def Q0{n:Nat}(h:n<4294967296):n % 2^IntKind.u64.bits&&&4294967295 % 2^IntKind.u64.bits=n:=by
 have e:IntKind.u64.bits=64:=rfl;rw[e,Zc0 (show n<2^64 by omega),show 4294967295 % 2^64=2^32-1 by decide,Nat.and_two_pow_sub_one_eq_mod,Zc0 (by omega)]
def t60(x y:Nat)(hx:x<4294967296)(hy:y<4294967296):bw aj 107 [.int .u64 x,.int .u64 y] (.ew [.int .u64 0,.int .u64 ((x*y:Nat):Int)]):=by
 have aC:=okE;refine c60.ok (by simp) (aT ?_);simp;apply aa.ag aC fw [0,1];simp[MR];obtain⟨p,hp⟩:=be (x*y);have hpb:p<18446744073709551616:=by
  rw[<-hp]
  calc x*y<=4294967295*4294967295:=ZcV (by omega) (by omega)
   _<_:=by decide
 have hpi:(x:Int)*y=p:=by rw[<-hp];simp
 have e1:=BL (n:=x) (by omega);have e2:=BL (n:=y) (by omega);have e3:=BL (n:=p) (by omega);have b:IntKind.u64.bits=64:=rfl;have e0:IntKind.u64.wrap 0=0:=rfl;have d1:(x:Int)/4294967296=0:=by omega
 have d2:(y:Int)/4294967296=0:=by omega
 have d3:(p:Int)/4294967296<4294967296:=by omega
 obtain⟨q,hq⟩:∃q:Nat,(p:Int)/4294967296=q:=⟨p/4294967296,by omega⟩;have hqb:q<4294967296:=by omega
 have e4:=BL (n:=q) (by omega);have d4:(q:Int)/4294967296=0:=by omega
 rw[hpi];apply aa.ag aC fw [0,1,6];simp[CP,Q0 hx,e1];apply aa.ag aC fw [0,1,6,7];simp[MS,b,d1];apply aa.ag aC fw [0,1,6,7,8];simp[MT,Q0 hy,e2];apply aa.ag aC fw [0,1,6,7,8,9];simp[Ta,b,d2];apply aa.ag aC fw [0,1,6,7,8,9,10];simp[Tb,hpi,e3];apply aa.ag aC fw [0,1,6,7,8,9,10,11];simp[akK,e0,b,hq,e4];apply aa.ag aC fw [0,1,6,7,8,9,10,11,12];simp[akL,Q0 hqb,e4];apply aa.ag aC fw [0,1,6,7,8,9,10,11,12,13];simp[akM,b,d4];apply aa.ag aC fw [0,1,6,7,8,9,10,11,12,13];simp[akN,e0,e4];apply aa.ag aC fw [0,1,4];simp[ac1,e0,b,d4];apply aa.ag aC fw [4,5];simp[ac2,hpi,e3];apply aa.ret;simp[x7]
abbrev amT:DM.Spec:=dh (λts=>∃x y:Nat,ts=[.int .u64 x,.int .u64 y]/\x<4294967296/\y<4294967296) (fun|[.int _ x,.int _ y]=>.ew [.int .u64 0,.int .u64 (x*y)]|_=>.bool false) false
def auG:ay aj (bB [(107,amT)]):=by
 refine ay.cons ay.nil ?_;rintro ts ⟨x,y,rfl,h1,h2⟩;exact⟨by simpa using t60 x y h1 h2,λh=>by cases h⟩
def t46(x y:Nat)(hx:x<4294967296)(hy:y<4294967296):bw aj 73 [.int .u64 x,.int .u64 y] (.ew [.int .u64 0,.int .u64 ((x*y:Nat):Int)]):=by
 have aC:=auG;refine c46.ok (by simp) (aT ?_);simp;apply aa.ag aC fw [0,1];simp[akH];apply aa.seq;refine aa.cond rfl (λh=>by cases h) (λh=>?_);apply aa.skip;simp;apply aa.ag aC fw [8,9];simp[akI];refine⟨⟨x,y,⟨rfl,rfl⟩,hx,hy⟩, ?_⟩;apply aa.ag aC fw [4,5];simp[akJ];apply aa.ret;simp[ac0]
abbrev amU:DM.Spec:=dh (λts=>∃x y:Nat,ts=[.int .u64 x,.int .u64 y]/\x<4294967296/\y<4294967296) (fun|[.int _ x,.int _ y]=>.ew [.int .u64 0,.int .u64 (x*y)]|_=>.bool false) false
def auH:ay aj (bB [(73,amU)]):=by
 refine ay.cons ay.nil ?_;rintro ts ⟨x,y,rfl,h1,h2⟩;exact⟨by simpa using t46 x y h1 h2,λh=>by cases h⟩
def t29(v:Int)(n:Nat)(h1:1<=n)(hn:n<=10000000):pW aj 46 [.sl (aG [v]),ti n] 3 1 (aG (List.replicate n v)):=by
 have aC:=auH;refine c29.okF (by simp) (aT ?_);simp;apply aa.ag aC fw [0,1];simp[aki];apply aa.sq aC fw [0,1,10];simp[akj];refine aa.cond rfl (λh=>by simp at h;omega) (λh=>?_);apply aa.skip;simp;have e1:=BL (n:=1) (by omega);have e2:=BL (n:=n) (by omega);apply aa.ag aC fw [0,1,5,6];simp[akk,e1,e2];refine⟨⟨1,n,⟨rfl,rfl⟩,by omega,by omega⟩, ?_⟩;apply aa.sq aC fw [0,6,26];simp[akl];refine aa.cond rfl (λh=>by simp at h;omega) (λh=>?_);apply aa.skip;simp;apply aa.ag aC fw [0,7];have w1:IntKind.i64.wrap (n:Int)=n:=aF (by omega);simp[akm,w1];refine⟨by simp[dR];omega, ?_⟩;apply aa.ag aC fw [7,8];have hrp:∀(k:Nat),aG [v]=[[ti v]]:=λ_=>rfl;obtain⟨n',rfl⟩:∃n',n=n'+1:=⟨n-1,by omega⟩;simp[akn,aG,Pu];apply aa.seq;apply aa.block;refine aa.loop (λy:Nat=>⟨DM.look [(7,.bC 1227 0),(8,.v (ti (y+1:Nat)))],cJ [(1227,.bE 0 3 1 (List.replicate (y+1) [ti v]++List.replicate (n'-y) [ti 0]))],3000,1000,[]⟩)
  (λy=>y<=n') (λy=>n'-y) 0 (Le.bH ?_ ?_ ?_ ?_) (by simp) (λy hy=>?_)
 iterate 4(·simp)
 apply aa.sq aC fw [7,8,37];simp[ako];refine aa.cond rfl (λh=>?_) (λh=>?_)
 ·simp at h;apply aa.skip;simp;apply aa.block;apply aa.fJ aC fw [7,8];have q1:((y:Int)+1<=(y:Int)+1+((n'-y:Nat):Int))=True:=by simp;omega
  simp[akp,q1];obtain⟨k,hk⟩:=be (min (n'-y) (y+1));have k1:min ((↑y+1+((n'-y:Nat):Int)).toNat-(y+1)) (y+1)=k:=by omega
  have k2:min (y+1) ((↑y+1+((n'-y:Nat):Int)).toNat-(y+1))=k:=by omega
  rw[k1,k2];have e:List.drop (y+1+k) (List.replicate (y+1) [ti v]++List.replicate (n'-y) [ti 0])=List.replicate (n'-(y+k)) [ti 0]:=by
   rw[List.drop_append];simp;omega
  rw[e];refine⟨by omega,y+k,Le.bH ?_ ?_ ?_ ?_,by omega,by omega⟩
  ·simp
  ·simp
  ·simp;omega
  ·simp;rw[aF (by omega)];omega
 ·simp at h;have:y=n':=by omega
  subst this;apply aa.exit;simp;apply aa.ag aC fw [4];simp[acV];apply aa.ret;exact .inr ⟨1227,0,by simp,by simp[Pu]⟩
def ak4(ts:aL):Prop:=∃(v:Int) (n:Nat),ts=[.sl (aG [v]),ti n]/\1<=n/\n<=10000000
def amM:aL->List (aL)
 |[.sl [[v]],.int _ n]=>List.replicate n.toNat [v]
 |_=>[]
def AS(a b:Int):Int:=if 1099511627776<=a\/1099511627776<=b\/1099511627776<=a+b then 1099511627776 else a+b
def lw(c:cP)(t:Nat):Prop:=¬(((t:Int)=c.kind/\c.read.getD t default≠0)\/((t:Int)≠c.kind/\c.read.getD t default≠-1/\(c.read.getD t default<1\/c.read.getD t default>60000)))
def qL(c:cP)(aM:Int):Prop:=(¬(c.kind< -1\/c.kind>=aM\/(c.read.length:Int)≠aM\/c.delete<1\/(c.delete>60000/\c.delete≠1099511627776)))/\∀t,t<aM.toNat->lw c t
instance(c:cP)(t:Nat):Decidable (lw c t):=by unfold lw;infer_instance
instance(c:cP)(aM:Int):Decidable (qL c aM):=by unfold qL;infer_instance
def ll(l:List cP)(aM:Int):Prop:=∀i,i<l.length->qL (l.getD i default) aM
instance(l:List cP)(aM:Int):Decidable (ll l aM):=by unfold ll;infer_instance
def zJ(l:bT)(t:Nat):Prop:=¬(l.getD t default<1\/l.getD t default>60000)
instance(l:bT)(t:Nat):Decidable (zJ l t):=by unfold zJ;infer_instance
def P9(x:Input)(aM:Int):Prop:=(¬(aM<0\/(x.aw.length:Int)>60\/(x.insert.length:Int)≠aM\/x.swap<0\/x.swap>60000\/¬ll x.aw aM))/\∀t,t<aM.toNat->zJ x.insert t
instance(x:Input)(aM:Int):Decidable (P9 x aM):=by unfold P9;infer_instance
def t58(c:cP)(aM:Int)(h:aM<=1000000000000):bw aj 63 [.agg c.enc,ti aM] (.bool (decide (qL c aM))):=by
 have aC:=okE;obtain⟨v,hv⟩:=be (decide (qL c aM));rw[hv];have da:¬qL c aM->v=false:=λh=>by rw[<-hv];simp[h]
 have dd:qL c aM↔(¬(c.kind< -1\/c.kind>=aM\/(c.read.length:Int)≠aM\/c.delete<1\/(c.delete>60000/\c.delete≠1099511627776)))/\∀t,t<aM.toNat->lw c t:=Iff.rfl;refine c58.ok (by simp) (aT ?_);simp[cP.enc];apply aa.ag aC fw [1,2];simp[MV];refine aa.lk (o:=[]) (l:=[(1,.v (ti aM)),(2,.v (.box [ti c.kind,.sl (aG c.read),ti c.delete]))]) (aY:=1200) (by simp) ?_;apply aa.seq;obtain⟨b,hb⟩:=be (decide (c.kind< -1\/c.kind>=aM\/(c.read.length:Int)≠aM\/c.delete<1\/(c.delete>60000/\c.delete≠1099511627776)):Bool);refine aa.cH aC fw [(1,.v (ti aM)),(2,.v (.box [ti c.kind,.sl (aG c.read),ti c.delete])),(37,.v (.bool b))] ?_ ?_
 ·by_cases q1:c.kind< -1
  ·have fI:b=true:=by rw[<-hb];simp[q1]
   simp[xo,q1,fI]
  ·by_cases q2:aM<=c.kind
   ·have fI:b=true:=by rw[<-hb];simp[q2]
    simp[xo,q1,q2,fI]
   ·by_cases q3:(c.read.length:Int)=aM
    ·by_cases q4:c.delete<1
     ·have fI:b=true:=by rw[<-hb];simp[q4]
      simp[xo,q1,q2,q3,q4,fI]
     ·by_cases q5:60000<c.delete
      ·by_cases q6:c.delete=1099511627776
       ·have fI:b=false:=by rw[<-hb];simp only[Dm];omega
        simp[xo,q1,q2,q3,q4,q5,q6,fI]
       ·have fI:b=true:=by rw[<-hb];simp[q5,q6]
        simp[xo,q1,q2,q3,q4,q5,q6,fI]
      ·have fI:b=false:=by rw[<-hb];simp only[Dm];omega
       simp[xo,q1,q2,q3,q4,q5,fI]
    ·have fI:b=true:=by rw[<-hb];simp[q3]
     simp[xo,q1,q2,q3,fI]
 refine aa.cond rfl (λh=>?_) (λh=>?_)
 ·rw[h]at hb;simp only[tD]at hb;apply aa.ag aC fw [4];simp[Tc];apply aa.ret;rw[da λe=>(dd.1 e).1 hb];simp[dm]
 rw[h]at hb;simp only[Dm]at hb;obtain⟨n,hn⟩:=be c.read.length;have hnt:aM=(n:Int):=by omega
 subst hnt;apply aa.skip;simp;apply aa.sq aC fw [1,2,5];simp[Ih];apply aa.block;refine aa.loop (λy:Nat=>⟨DM.look [(1,.v (ti n)),(2,.v (.box [ti c.kind,.sl (aG c.read),ti c.delete])),(5,.v (ti y))],cJ [],2000,1000,[]⟩)
  (λy=>y<=n/\∀t,t<y->lw c t) (λy=>n-y) 0 (Le.bH (o:=[]) ?_ ?_ ?_ ?_) (by simp) (λy hy=>?_)
 iterate 4(·simp)
 obtain⟨mf,fW⟩:=hy;apply aa.sq aC fw [1,2,5,40];simp[akX];refine aa.cond rfl (λcU=>?_) (λcU=>?_)
 ·simp at cU;have Md:y<c.read.length:=by omega
  have r1:=cM Md;obtain⟨u,hu⟩:=be (c.read.getD y default);rw[hu]at r1;have kr:lw c y↔¬(((y:Int)=c.kind/\u≠0)\/((y:Int)≠c.kind/\u≠-1/\(u<1\/u>60000))):=by unfold lw;rw[hu]
  obtain⟨kd,hkd⟩:=be c.kind;rw[hkd]at kr⊢;apply aa.skip;simp;apply aa.seq;apply aa.block;apply aa.ag aC fw [1,2,5,6];simp[akY,r1,Md];obtain⟨b2,gm⟩:=be (decide (((y:Int)=kd/\u≠0)\/((y:Int)≠kd/\u≠-1/\(u<1\/u>60000))):Bool);refine aa.cH aC fw [(1,.v (ti n)),(2,.v (.box [ti kd,.sl (aG c.read),ti c.delete])),(5,.v (ti y)),(73,.v (.bool b2))] ?_ ?_
  ·by_cases q1:(y:Int)=kd
   ·by_cases q2:u=0
    ·have fI:b2=false:=by rw[<-gm];simp[q1,q2]
     simp[GI,q1,q2,fI]
    ·have fI:b2=true:=by rw[<-gm];simp[q1,q2]
     simp[GI,q1,q2,fI]
   ·by_cases q2:u= -1
    ·have fI:b2=false:=by rw[<-gm];simp[q1,q2]
     simp[GI,q1,q2,fI]
    ·by_cases q3:u<1
     ·have fI:b2=true:=by rw[<-gm];simp[q1,q2,q3]
      simp[GI,q1,q2,q3,fI]
     ·by_cases q4:60000<u
      ·have fI:b2=true:=by rw[<-gm];simp[q1,q2,q4]
       simp[GI,q1,q2,q3,q4,fI]
      ·have fI:b2=false:=by rw[<-gm];simp only[Dm];omega
       simp[GI,q1,q2,q3,q4,fI]
  refine aa.cond rfl (λh=>?_) (λh=>?_)
  ·rw[h]at gm;simp only[tD]at gm;apply aa.ag aC fw [4];simp[akZ];apply aa.ret;rw[da λe=>kr.1 ((dd.1 e).2 y (by simpa using cU)) gm];simp[dm]
  ·rw[h]at gm;simp only[Dm]at gm;apply aa.skip;simp;apply aa.fJ aC fw [1,2,5];simp[ak0];rw[aF (by omega)];refine⟨y+1,Le.bH (o:=[]) ?_ ?_ ?_ ?_,⟨by omega,λi hi=>?_⟩,by omega⟩;iterate 4(·simp)
   ·by_cases e:i=y
    ·subst e;exact kr.2 gm
    ·exact fW i (by omega)
 simp at cU;apply aa.exit;simp;apply aa.ag aC fw [4];simp[ak1];apply aa.ret;have:v=true:=by
  rw[<-hv,tD];exact dd.2 ⟨by omega,λi hi=>fW i (by simp at hi;omega)⟩
 rw[this];simp[dm]
abbrev amX:DM.Spec:=dh (λts=>∃(c:cP) (t:Int),ts=[.agg c.enc,ti t]/\t<=1000000000000) (fun|[.agg c,.int _ t]=>.bool (decide (qL (t6 c) t))|_=>.bool false) true
def auJ:ay aj (bB [(63,amX)]):=by
 refine ay.cons ay.nil ?_;rintro ts ⟨c,t,rfl,h⟩;exact⟨by simpa using t58 c t h,λ_=>rfl⟩
def t45(l:List cP)(aM:Int)(h1:l.length<=1000000000000)(h2:aM<=1000000000000):bw aj 37 [.sl (cz l),ti aM] (.bool (decide (ll l aM))):=by
 have aC:=auJ;obtain⟨v,hv⟩:=be (decide (ll l aM));rw[hv];have da:¬ll l aM->v=false:=λh=>by rw[<-hv];simp[h]
 refine c45.ok (by simp) (aT ?_);simp;apply aa.ag aC fw [0,1];simp[MJ];apply aa.sq aC fw [0,1,5];simp[Fv];apply aa.block;refine aa.loop (λj:Nat=>⟨DM.look [(0,.v (.sl (cz l))),(1,.v (ti aM)),(5,.v (ti j))],cJ [],2000,1000,[]⟩)
  (λj=>j<=l.length/\∀i,i<j->qL (l.getD i default) aM) (λj=>l.length-j) 0 (Le.bH (o:=[]) ?_ ?_ ?_ ?_) (by simp) (λj hj=>?_)
 iterate 4(·simp)
 obtain⟨mf,fW⟩:=hj;apply aa.sq aC fw [0,1,5,9];simp[MK];refine aa.cond rfl (λcU=>?_) (λcU=>?_)
 ·simp at cU;have r1:=kg cU;apply aa.skip;simp;apply aa.seq;apply aa.block;obtain⟨u,hu⟩:=be (l.getD j default);rw[hu]at r1;apply aa.ag aC fw [0,1,5,18];obtain⟨a,b,c⟩:=u;simp[ML,cU,r1,cP.enc];rw[show t6 [ti a,T.sl (aG b),ti c]=⟨a,b,c⟩from qg ⟨a,b,c⟩];refine⟨⟨⟨a,b,c⟩,aM,⟨⟨rfl,rfl,rfl⟩,rfl⟩,h2⟩, ?_⟩;refine aa.cond rfl (λh=>?_) (λh=>?_)
  ·simp at h;apply aa.ag aC fw [4];simp[MM];apply aa.ret;rw[da λe=>h (by have:=e j cU;rw[hu]at this;exact this)];simp[dm]
  ·simp at h;apply aa.skip;simp;apply aa.fJ aC fw [0,1,5];simp[akV];rw[aF (by omega)];refine⟨j+1,Le.bH (o:=[]) ?_ ?_ ?_ ?_,⟨by omega,λi hi=>?_⟩,by omega⟩;iterate 4(·simp)
   ·by_cases e:i=j
    ·subst e;show qL (l.getD i default) aM;rw[hu];exact h
    ·exact fW i (by omega)
 simp at cU;apply aa.exit;simp;apply aa.ag aC fw [4];simp[akW];apply aa.ret;have:v=true:=by
  rw[<-hv,tD];exact λi hi=>fW i (by omega)
 rw[this];simp[dm]
abbrev amY:DM.Spec:=dh (λts=>∃(l:List cP) (t:Int),ts=[.sl (cz l),ti t]/\l.length<=1000000000000/\t<=1000000000000) (fun|[.sl c,.int _ t]=>.bool (decide (ll (Aa c) t))|_=>.bool false) true
def auK:ay aj (bB [(37,amY)]):=by
 refine ay.cons ay.nil ?_;rintro ts ⟨c,t,rfl,h1,h2⟩;exact⟨by simpa using t45 c t h1 h2,λ_=>rfl⟩
def t28(x:Input)(aM:Int)(ht:aM<=1000000000000):bw aj 23 [x.enc,ti aM] (.bool (decide (P9 x aM))):=by
 have aC:=auK;obtain⟨v,hv⟩:=be (decide (P9 x aM));rw[hv];have da:¬P9 x aM->v=false:=λh=>by rw[<-hv];simp[h]
 have dd:P9 x aM↔(¬(aM<0\/(x.aw.length:Int)>60\/(x.insert.length:Int)≠aM\/x.swap<0\/x.swap>60000\/¬ll x.aw aM))/\∀t,t<aM.toNat->zJ x.insert t:=Iff.rfl;refine c28.ok (by simp) (aT ?_);simp[Input.enc];apply aa.ag aC fw [1,2];simp[akO];refine aa.lk (o:=[]) (l:=[(1,.v (ti aM)),(2,.v (.box [.sl (cz x.aw),.sl (aG x.insert),ti x.swap]))]) (aY:=1200) (by simp) ?_;apply aa.seq;obtain⟨b,hb⟩:=be (decide (aM<0\/(x.aw.length:Int)>60\/(x.insert.length:Int)≠aM\/x.swap<0\/x.swap>60000\/¬ll x.aw aM):Bool);refine aa.cH aC fw [(1,.v (ti aM)),(2,.v (.box [.sl (cz x.aw),.sl (aG x.insert),ti x.swap])),(37,.v (.bool b))] ?_ ?_
 ·by_cases q1:aM<0
  ·have fI:b=true:=by rw[<-hb];simp[q1]
   simp[CU,q1,fI]
  ·by_cases q2:60<(x.aw.length:Int)
   ·have fI:b=true:=by rw[<-hb];simp[q2]
    simp[CU,q1,q2,fI]
   ·by_cases q3:(x.insert.length:Int)=aM
    ·by_cases q4:x.swap<0
     ·have fI:b=true:=by rw[<-hb];simp[q4]
      simp[CU,q1,q2,q3,q4,fI]
     ·by_cases q5:60000<x.swap
      ·have fI:b=true:=by rw[<-hb];simp[q5]
       simp[CU,q1,q2,q3,q4,q5,fI]
      ·by_cases q6:ll x.aw aM
       ·have fI:b=false:=by rw[<-hb];simp only[Dm];rintro(h|h|h|h|h|h)<;>first|omega|exact h q6
        simp[CU,q1,q2,q3,q4,q5,q6,fI];exact⟨x.aw,aM,⟨rfl,rfl⟩,by omega,ht⟩
       ·have fI:b=true:=by rw[<-hb];simp[q6]
        simp[CU,q1,q2,q3,q4,q5,q6,fI];exact⟨x.aw,aM,⟨rfl,rfl⟩,by omega,ht⟩
    ·have fI:b=true:=by rw[<-hb];simp[q3]
     simp[CU,q1,q2,q3,fI]
 refine aa.cond rfl (λh=>?_) (λh=>?_)
 ·rw[h]at hb;simp only[tD]at hb;apply aa.ag aC fw [4];simp[akP];apply aa.ret;rw[da λe=>(dd.1 e).1 hb];simp[dm]
 rw[h]at hb;simp only[Dm]at hb;have Pq:(x.insert.length:Int)=aM:=by
  by_cases e:(x.insert.length:Int)=aM
  ·exact e
  ·exact eB (.inr (.inr (.inl e))) hb
 obtain⟨n,hn⟩:=be x.insert.length;rw[hn]at Pq;subst Pq;apply aa.skip;simp;apply aa.sq aC fw [1,2,5];simp[akQ];apply aa.block;refine aa.loop (λy:Nat=>⟨DM.look [(1,.v (ti n)),(2,.v (.box [.sl (cz x.aw),.sl (aG x.insert),ti x.swap])),(5,.v (ti y))],cJ [],2000,1000,[]⟩)
  (λy=>y<=n/\∀t,t<y->zJ x.insert t) (λy=>n-y) 0 (Le.bH (o:=[]) ?_ ?_ ?_ ?_) (by simp) (λy hy=>?_)
 iterate 4(·simp)
 obtain⟨mf,fW⟩:=hy;apply aa.sq aC fw [1,2,5,40];simp[akR];refine aa.cond rfl (λcU=>?_) (λcU=>?_)
 ·simp at cU;have Md:y<x.insert.length:=by omega
  have r1:=cM Md;obtain⟨u,hu⟩:=be (x.insert.getD y default);rw[hu]at r1;have kr:zJ x.insert y↔¬(u<1\/u>60000):=by unfold zJ;rw[hu]
  apply aa.skip;simp;apply aa.seq;apply aa.block;refine aa.cH aC fw [(1,.v (ti n)),(2,.v (.box [.sl (cz x.aw),.sl (aG x.insert),ti x.swap])),(5,.v (ti y)),(56,.v (.bool (decide (u<1\/60000<u))))] ?_ ?_
  ·by_cases q1:u<1
   ·simp[ac3,r1,Md,q1]
   ·by_cases q2:60000<u<;>simp[ac3,r1,Md,q1,q2]
  refine aa.cond rfl (λh=>?_) (λh=>?_)
  ·simp only[tD]at h;apply aa.ag aC fw [4];simp[akS];apply aa.ret;rw[da λe=>kr.1 ((dd.1 e).2 y (by simpa using cU)) h];simp[dm]
  ·simp only[Dm]at h;apply aa.skip;simp;apply aa.fJ aC fw [1,2,5];simp[akT];rw[aF (by omega)];refine⟨y+1,Le.bH (o:=[]) ?_ ?_ ?_ ?_,⟨by omega,λi hi=>?_⟩,by omega⟩;iterate 4(·simp)
   ·by_cases e:i=y
    ·subst e;exact kr.2 h
    ·exact fW i (by omega)
 simp at cU;apply aa.exit;simp;apply aa.ag aC fw [4];simp[akU];apply aa.ret;have:v=true:=by
  rw[<-hv,tD];exact dd.2 ⟨hb,λi hi=>fW i (by simp at hi;omega)⟩
 rw[this];simp[dm]
def zK{a b:Int}(ha:0<=a)(hb:0<=b):0<=AS a b:=by unfold AS;split<;>omega
section
variable{yg:Nat}{es:List (Nat×T×DV)}
def NH(es:List (Nat×T×DV)):Prop:=∀e∈es,∃a:cE,e.2.2=.v (.agg a.enc)
def ac4{f:bq}{N n:Nat}{l0 l1:c7}(aV:df f N)(h0:∀p∈l0,N<=p.1)(h1:∀p∈l1,N<=p.1)(hn:f n≠none):sameAt (aO l0 f) (aO l1 f) n:=by
 obtain⟨o,ho⟩:=Zb2.1 hn;have ef:=(aV n o ho).1;refine⟨o,o, ?_, ?_,bk o⟩
 ·rw[fE λo' h=>by have:=h0 _ h;simp only at this;omega];exact ho
 ·rw[fE λo' h=>by have:=h1 _ h;simp only at this;omega];exact ho
def ac5{k:T}{c:Int}{y:DV}{e:Nat×T×DV}(h:e∈sL k c y yg es):e.2.2=y\/∃e'∈es,e.2.2=e'.2.2:=by
 unfold sL at h;split at h
 ·rename_i hbt;clear hbt;unfold Jd at h;split at h
  ·rename_i i hi;clear hi;induction es generalizing i with
   |nil=>simp at h
   |cons e0 es ih=>
    cases i with
    |zero=>
     simp only[ZcE,fN]at h;rcases h with rfl|h
     ·exact .inl rfl
     ·exact .inr ⟨e,by simp[h],rfl⟩
    |succ i=>
     simp only[Zci,fN]at h;rcases h with rfl|h
     ·exact .inr ⟨e,by simp,rfl⟩
     ·rcases ih i h with h|⟨e',h1,h2⟩
      ·exact .inl h
      ·exact .inr ⟨e',by simp[h1],h2⟩
  ·rcases oi.1 h with h|h
   ·exact .inr ⟨e,h,rfl⟩
   ·simp only[oO]at h;subst h;exact .inl rfl
 ·exact .inr ⟨e,h,rfl⟩
def k48:bF->bq->fV
 |[.ptr b 0,.agg [.v (.int .i64 f),.v (.int .i64 t),.v (.int .i64 x),.v (.int .i64 c),d]],ab=>
  match ab b with
  |some (.box [_,_,_,.je m])=>match ab m with
   |some (.map cy agg yg es)=>⟨cy=nj/\agg=true/\NH es/\kY d/\∀n∈aP d,ab n≠none,.v (.ew []),
     eJ ab m (.map nj true (yh (keyOf f t x) c yg es) (sL (keyOf f t x) c (.agg [.v (ti f),.v (ti t),.v (ti x),.v (ti c),d]) yg es))⟩
   |_=>⟨False,.undef,ab⟩
  |_=>⟨False,.undef,ab⟩
 |_,ab=>⟨False,.undef,ab⟩
def t48{f0:bq}{b m:Nat}{c1 c2 c3:DV}{f t x c:Int}{d:DV}{N:Nat}(hN:∀r,N<=r->f0 r=none)(hb:f0 b=some (.box [c1,c2,c3,.je m]))(hm:f0 m=some (.map nj true yg es))(he:NH es)(hd:kY d)(Xv:∀n∈aP d,f0 n≠none):
  aQ aj 75 [.ptr b 0,.agg [.v (ti f),.v (ti t),.v (ti x),.v (ti c),d]] f0 ⟨True,.v (.ew []),eJ f0 m (.map nj true (yh (keyOf f t x) c yg es) (sL (keyOf f t x) c (.agg [.v (ti f),.v (ti t),.v (ti x),.v (ti c),d]) yg es))⟩:=by
 have aC:=cL;refine c48.qE hN (by simp) λaV=>?_;have WA:b<N:=(aV b _ hb).1;have CV:m<N:=(aV m _ hm).1;have BG:b≠m:=λe=>by rw[e,hm]at hb;cases hb
 have nb:∀k,b≠N+k:=λk=>by omega
 have nm:∀k,m≠N+k:=λk=>by omega
 simp;apply aa.ag aC fw [0,3];simp[akc];apply aa.ag aC fw [0,3,4];simp[akd];obtain⟨k,hk⟩:=be (keyOf f t x);have xN:T.agg [ti f,ti t,ti x]=k:=hk;rw[hk];refine aa.le (Le.d6 (l1:=[(N+49,.box [.v (ti f),.v (ti t),.v (ti x)]),(N+4,.box [.v (ti f),.v (ti t),.v (ti x),.v (ti c),d])]) (l:=[(0,.ptr b 0),(3,.ptr (N+4) 0),(4,.ptr (N+49) 0)]) (aY:=N+100) aV ?_ ?_ ?_ ?_ ?_) ?_
 ·omega
 ·simp
 ·simp[bU]
 ·refine⟨⟨.box [.v (ti f),.v (ti t),.v (ti x)],by simp[fq],.inl (by simp),by omega⟩,⟨.box [.v (ti f),.v (ti t),.v (ti x),.v (ti c),d],by simp[fq],.inr ⟨rfl,λn hn=>?_⟩,by omega⟩,trivial⟩;refine ac4 aV ?_ ?_ (Xv n (by simpa [bb,bQ,aP]using hn))
  ·simp;omega
  ·simp
 ·simp[hb,nb,fq]
 have hko:fa nj true k:=by rw[<-hk];simp[keyOf]
 have H:∀(q1 q2 q3 q5:DV) (oc:Int) (fnd:Bool),fnd=(sj k es).isSome->(∀e,sj k es=some e->oc=KM e.2.2)->
   aa aj 43 ((DC.region false acQ).seq (DC.cond (bW.tmp 36) (DC.region true acR) DC.skip))
    (Bd QQ ⟨True,.v (.ew []),eJ f0 m (.map nj true (yh k c yg es) (sL k c (.agg [.v (ti f),.v (ti t),.v (ti x),.v (ti c),d]) yg es))⟩)
    ⟨DM.look [(0,.ptr b 0),(3,.ptr (N+4) 0),(4,.ptr (N+49) 0),(5,.ptr (N+106) 0),(6,.v (.bool fnd))],
     aO [(N+106,.box [q1,q2,q3,.v (ti oc),q5]),(N+106,.box [.v (ti 0),.v (ti 0),.v (ti 0),.v (ti 0),.aX]),(N+49,.box [.v (ti f),.v (ti t),.v (ti x)]),(N+4,.box [.v (ti f),.v (ti t),.v (ti x),.v (ti c),d])] f0,N+144,N,[]⟩:=by
  intro q1 q2 q3 q5 oc fnd afu hoc;have aux:yf k c es=(decide (c<1099511627776)&&(!fnd||decide (c<oc))):=by
   unfold yf;cases hf:sj k es with
   |none=>simp[hf]at afu;simp[afu]
   |some e=>simp[hf]at afu;simp[afu,hoc e hf]
  obtain⟨y,hy⟩:=be (DV.agg [.v (ti f),.v (ti t),.v (ti x),.v (ti c),d]);have GG:∀n∈aP y,f0 n≠none:=by
   intro n hn;refine Xv n ?_;rw[<-hy]at hn;simpa [aP,bQ]using hn
  have qK:∀e∈es,aP e.2.2=[]:=λe he'=>by obtain⟨a,ha⟩:=he e he';rw[ha];rfl
  rw[hy];refine aa.to ⟨DM.look [],aO [(m,.map nj true (yh k c yg es) (sL k c y yg es))] f0,N+1000,N,[]⟩ ?_ (by simp[QQ];rfl);refine aa.cH aC fw [(0,.ptr b 0),(3,.ptr (N+4) 0),(4,.ptr (N+49) 0),(36,.v (.bool (yf k c es)))] ?_ ?_
  ·by_cases s1:c<1099511627776<;>cases fnd<;>by_cases s2:c<oc<;>simp[acQ,s1,s2,aux]
  refine aa.cond rfl (λh=>?_) (λh=>?_)
  ·apply aa.fJ aC fw [];simp[-fa,acR,fq,nb,nm,hb,hm,xN,hko];refine Le.d6 (l:=[]) aV ?_ ?_ ?_ ?_ ?_
   ·omega
   ·simp;omega
   ·simp[bU];omega
   ·refine⟨⟨.map nj true (yh k c yg es) (sL k c y yg es),by simp[yh,sL,h,hy],.inr ⟨rfl,λn hn=>?_⟩,λ_=>bk _⟩,trivial⟩
    ·simp only[bb,Ln]at hn;obtain⟨e,he',hn⟩:=hn;rcases ac5 he' with h'|⟨e',h',h''⟩
     ·rw[h']at hn;obtain⟨o,ho⟩:=Zb2.1 (GG n hn);have ef:=(aV n o ho).1;by_cases hnm:n=m
      ·subst hnm;exact⟨.map nj true (yh k c yg es) (sL k c y yg es),.map nj true (yh k c yg es) (sL k c y yg es),by simp[yh,sL,h,hy],by simp,bk _⟩
      ·refine⟨o,o, ?_, ?_,bk o⟩
       ·simp[hnm,show n≠N+106 by omega,show n≠N+49 by omega,show n≠N+4 by omega,ho]
       ·simp[hnm,ho]
     ·rw[h'',qK e' h']at hn;cases hn
   ·simp
  ·refine aa.skip ⟨rfl,Le.d6 (l:=[]) aV ?_ ?_ ?_ ?_ ?_⟩
   ·omega
   ·simp;omega
   ·simp[bU];omega
   ·refine⟨⟨.map nj true yg es,by simp[nm,hm],.inr ⟨by simp[yh,sL,h],λn hn=>?_⟩,λ_=>by simp[jR]⟩,trivial⟩
    ·simp only[bb,Ln]at hn;obtain⟨e,he',hn⟩:=hn;rw[qK e he']at hn;cases hn
   ·simp
 apply aa.ag aC fw [0,3,4,5,6];cases hf:sj k es with
 |none=>
  simp[-fa,acP,fq,nb,nm,hb,hm,xN,hko,hf];exact H _ _ _ _ 0 false (by simp[hf]) (by simp[hf])
 |some e=>
  obtain⟨a,ha⟩:=he e (Zcm hf);simp[-fa,acP,fq,nb,nm,hb,hm,xN,hko,hf,ha,cE.enc];exact H _ _ _ _ a.aI true (by simp[hf]) (by intro e' he';rw[hf]at he';cases he';simp[ha,cE.enc,KM])
end
section
variable{al:List cE}{f0:bq}
def NI(ts:aL):Prop:=∃l:List (Int×Int),ts=[.sl (iz l)]/\l.length<=1000000
def ac6:aL->List (aL)
 |[.sl av]=>av
 |_=>[]
abbrev Γ4:pk:=bB [(75,en k48),(76,zn NI ac6 117 2)]
def ok4:ay aj Γ4:=by
 refine ay.ij (ay.aax ay.nil ?_) ?_
 ·rintro ts ⟨l,rfl,h⟩;exact t49 l h
 ·intro args ab h;unfold k48 at h⊢;split at h
  ·rename_i b f t x c d aJ;split at h
   ·rename_i c1 c2 c3 m hb;split at h
    ·rename_i cy agg yg es hm;obtain⟨rfl,rfl,he,hd,Xv⟩:=h;refine⟨λN hN=>?_,λr hr=>?_⟩
     ·exact aQ.of (t48 hN hb hm he hd Xv) (by simp[]) (by simp[])
     ·simp only[];exact wq hm hr
    ·exact h.elim
   ·exact h.elim
  ·exact h.elim
def QU{a b:bq}{k:T}{c:Int}{y y':DV}{yg:Nat}{es:List (Nat×T×DV)}(hy:iY a b id y y')(he:NH es):ka a b id (sL k c y yg es) (sL k c y' yg es):=by
 have self:∀{l:List (Nat×T×DV)},NH l->ka a b id l l:=λ{l} hl=>qd λe h=>by obtain⟨x,hx⟩:=hl e h;rw[hx];simp
 unfold sL;split
 ·rename_i hbt;clear hbt;unfold Jd;split
  ·rename_i i hi;clear hi;induction es generalizing i with
   |nil=>simp[ka]
   |cons e es ih=>
    cases i with
    |zero=>simp only[ZcE,ka];exact⟨trivial,trivial,hy,self λe' h=>he e' (by simp[h])⟩
    |succ i=>
     simp only[Zci,ka];obtain⟨x,hx⟩:=he e (by simp);exact⟨trivial,trivial,by rw[hx];simp,ih (λe' h=>he e' (by simp[h])) i⟩
  ·rename_i hn;clear hn;induction es with
   |nil=>simp only[yN,ka];exact⟨trivial,trivial,hy,trivial⟩
   |cons e es ih=>
    simp only[C9,ka];obtain⟨x,hx⟩:=he e (by simp);exact⟨trivial,trivial,by rw[hx];simp,ih λe' h=>he e' (by simp[h])⟩
 ·exact self he
def gz(al:List cE):NH (dz al):=Yf al
def Ix{a b:bq}{c:cE}{d:DV}(hd:iY a b id d (.v (.sl (iz c.ops)))):
  eK a b (.map nj true (yh c.key c.aI al.length (dz al)) (sL c.key c.aI (.agg [.v (ti c.f),.v (ti c.t),.v (ti c.term),.v (ti c.aI),d]) al.length (dz al))) (cV (xC al c)):=by
 obtain⟨h1,h2⟩:=KO c al;refine .inl ?_;unfold cV;rw[<-h1,<-h2];simp only[o8];refine⟨trivial,trivial,trivial,QU ?_ (gz al)⟩;simp[cE.enc,hd]
def BH(l:List (Int×Int))(a b:Int):iz l++[[ti a,ti b]]=iz (l++[(a,b)]):=by simp[iz]
def QW{N m r r2 aK aY v:Nat}{tm:dj}{l:eO}{o2:Ob}(c:cE){av:List (aL)}(aV:df f0 N)(hm:m<N)(hr:N<=r)(yY:N<=r2)(hn:N<=aY)(eQ:av=iz c.ops)
  (iX:fK (aO [(m,.map nj true (yh c.key c.aI al.length (dz al)) (sL c.key c.aI (.agg [.v (ti c.f),.v (ti c.t),.v (ti c.term),.v (ti c.aI),.bC r v]) al.length (dz al))),(r,.bE v 117 2 av),(r2,o2),(m,.map nj true al.length (dz al))] f0) (aO [(m,cV (xC al c))] f0) id tm l):
  Le ⟨tm,eJ (aO [(r,.bE v 117 2 av),(r2,o2),(m,.map nj true al.length (dz al))] f0) m (.map nj true (yh c.key c.aI al.length (dz al)) (sL c.key c.aI (.agg [.v (ti c.f),.v (ti c.t),.v (ti c.term),.v (ti c.aI),.bC r v]) al.length (dz al))),aK,N,[]⟩
   ⟨DM.look l,aO [(m,cV (xC al c))] f0,aY,N,[]⟩:=by
 subst eQ;rw[kx];refine Le.d6 aV hn ?_ ?_ ?_ iX
 ·simp;omega
 ·simp[bU];omega
 ·refine⟨⟨_,by simp,Ix (d:=.bC r v) ?_,λ_=>by simp[jR,cV]⟩,trivial⟩;simp[show r≠m by omega];exact bZ aV hr (by simp;omega)
def Yh(al:List cE):bb (cV al)=[]:=by
 simp only[cV,bb,List.flatMap_eq_nil_iff];intro e he;obtain⟨a,ha⟩:=gz al e he;rw[ha];rfl
def sM{a b:bq}(al:List cE):eK a b (cV al) (cV al):=.inr ⟨rfl,λn hn=>by rw[Yh]at hn;cases hn⟩
def cS(al:List cE)(cs:List cE):List cE:=cs.foldl xC al
def iA(al cs ds:List cE):cS al (cs++ds)=cS (cS al cs) ds:=by simp[cS]
def mZ(read:bT)(i m aI:Int)(ops:List (Int×Int))(n:Nat):List cE:=
 (List.range n).flatMap λt=>if 0<=read.getD t 0 then [⟨2*i,2*m+2,t,aI+read.getD t 0,ops++[(1,(t:Int))]⟩]else []
def QX(read:bT)(i m aI:Int)(ops:List (Int×Int))(n:Nat):mZ read i m aI ops (n+1)=mZ read i m aI ops n++(if 0<=read.getD n 0 then [⟨2*i,2*m+2,n,aI+read.getD n 0,ops++[(1,(n:Int))]⟩]else []):=by
 simp[mZ,Ho]
def WB(c:cP):Prop:=c.read.length<=1000000/\∀p∈c.read,p<=1099511627776
def t47{b m:Nat}{x:Input}{i j:Nat}{aI:Int}{ops:List (Int×Int)}{N:Nat}(hN:∀r,N<=r->f0 r=none)(hb:f0 b=some (.box (du x m)))(hm:f0 m=some (cV al))
  (hi:i<=1000000) (hj:j<x.aw.length) (hl:x.aw.length<=1000000) (hc:WB (x.aw.getD j default)) (vD:0<=aI/\aI<=1099511627776) (alL:ops.length<=1000000):
  aQ aj 74 [.ptr b 0,.v (ti i),.v (ti j),.v (ti aI),.v (.sl (iz ops))] f0 ⟨True,.v (.ew []),eJ f0 m (cV (cS al (mZ (x.aw.getD j default).read i j aI ops (x.aw.getD j default).read.length)))⟩:=by
 have aC:=ok4;refine c47.qE hN (by simp) λaV=>?_;have WA:b<N:=(aV b _ hb).1;have CV:m<N:=(aV m _ hm).1;have BG:b≠m:=λe=>by rw[e,hm]at hb;cases hb
 have nb:∀k,b≠N+k:=λk=>by omega
 have nm:∀k,m≠N+k:=λk=>by omega
 have jH:=kg hj;obtain⟨col,alw⟩:=be (x.aw.getD j default);rw[alw]at jH hc⊢;obtain⟨kd,read,del⟩:=col;simp only at hc⊢;obtain⟨b8,gZ⟩:=hc;simp only at b8 gZ;have eQ:∀r∈iz ops,r.length=2:=by intro r hr;simp only[iz,g9]at hr;obtain⟨c,_,rfl⟩:=hr;rfl
 simp;apply aa.ag aC fw [0,1,2,3,4,20,21,22];simp[aj7,hb,du,hj,jH,cP.enc];refine aa.to ⟨DM.look [],aO [(m,cV (cS al (mZ read i j aI ops read.length)))] f0,N+1000,N,[]⟩ ?_ (by simp[acO];rfl);apply aa.block;refine aa.loop (λy:Nat=>⟨DM.look [(0,.ptr b 0),(1,.v (ti i)),(2,.v (ti j)),(3,.v (ti aI)),(4,.v (.sl (iz ops))),(20,.v (.sl (aG read))),(21,.v (ti read.length)),(22,.v (ti y))],aO [(m,cV (cS al (mZ read i j aI ops y)))] f0,N+200,N,[]⟩)
  (λy=>y<=read.length) (λy=>read.length-y) 0 (Le.d6 aV ?_ ?_ ?_ ?_ ?_) (by simp) (λy hy=>?_)
 ·omega
 ·simp;omega
 ·simp[bU]
 ·exact⟨⟨cV al,by simp[hm],by simpa [mZ,cS]using sM al,λ_=>trivial⟩,trivial⟩
 ·simp[hb,BG]
 apply aa.ag aC fw [0,1,2,3,4,20,21,22,23];simp[aj8];apply aa.seq;refine aa.cond rfl (λcU=>?_) (λcU=>?_)
 ·simp at cU;apply aa.skip;simp;apply aa.seq;apply aa.block;have yY:=cM cU;obtain⟨p,hp⟩:=be (read.getD y default);have hp0:read.getD y 0=p:=hp;have hpm:p<=1099511627776:=gZ p (by rw[<-hp];simp[List.getD,cU]);rw[hp]at yY;apply aa.ag aC fw [0,1,2,3,4,10,11,20,21,22];simp[aj9,yY,cU];apply aa.ag aC fw [0,1,2,3,4,10,11,20,21,22,28];simp[aka];have o9:=QX read i j aI ops y;rw[hp0]at o9;obtain⟨aly,Yi⟩:=be (cS al (mZ read i j aI ops y));rw[Yi];refine aa.to ⟨DM.look [(0,.ptr b 0),(1,.v (ti i)),(2,.v (ti j)),(3,.v (ti aI)),(4,.v (.sl (iz ops))),(20,.v (.sl (aG read))),(21,.v (ti read.length)),(22,.v (ti y))],aO [(m,cV (cS al (mZ read i j aI ops (y+1))))] f0,N+1000,N,[]⟩ ?_ ?_
  ·refine aa.cond rfl (λhd=>?_) (λhd=>?_)
   ·simp at hd;refine aa.qa aC fw (rs:=QP) (.inr ⟨_,rfl⟩) (by kernel_rfl) [0,1,2,3,4,20,21,22] ?_;have w1:IntKind.i64.wrap (2*(i:Int))=2*i:=aF (by omega);have w2:IntKind.i64.wrap (2*(j:Int))=2*j:=aF (by omega);have w3:IntKind.i64.wrap (2*(j:Int)+2)=2*j+2:=aF (by omega);have w4:IntKind.i64.wrap (aI+p)=aI+p:=aF (by omega);simp[QP,w1,w2,w3,w4,ac6,NI,gn,dR,k48,hb,du,BG,cV,gz,fq,nb,nm];refine⟨⟨ops,rfl,alL⟩,by omega,λn hn=>?_, ?_⟩
    ·simp only[aP,oO]at hn;subst hn;simp
    ·have e:cS al (mZ read i j aI ops (y+1))=xC aly ⟨2*i,2*j+2,y,aI+p,ops++[(1,(y:Int))]⟩:=by
      rw[o9,cF hd,iA,Yi];rfl
     rw[e];refine QW ⟨2*i,2*j+2,y,aI+p,ops++[(1,(y:Int))]⟩ aV CV ?_ ?_ ?_ (BH _ _ _) ?_
     ·omega
     ·omega
     ·omega
     ·simp[hb,BG]
   ·simp at hd;have e:cS al (mZ read i j aI ops (y+1))=aly:=by
     rw[o9,aZ (by omega),vZ,Yi]
    rw[e];refine aa.skip ⟨rfl,Le.d6 aV ?_ ?_ ?_ ?_ ?_⟩
    ·omega
    ·simp;omega
    ·simp[bU]
    ·exact⟨⟨cV aly,by simp[cV],sM _,λ_=>bk _⟩,trivial⟩
    ·simp[hb,BG]
  ·apply aa.fJ aC fw [0,1,2,3,4,20,21,22];simp[akb];rw[aF (by omega)];refine⟨y+1,Le.d6 aV ?_ ?_ ?_ ?_ ?_,by omega,by omega⟩
   ·omega
   ·simp;omega
   ·simp[bU]
   ·exact⟨⟨_,by simp,sM _,λ_=>bk _⟩,trivial⟩
   ·simp[hb,BG]
 ·simp at cU;have:y=read.length:=by omega
  subst this;apply aa.exit;refine⟨rfl, ?_⟩;refine Le.d6 (l:=[]) aV ?_ ?_ ?_ ?_ ?_
  ·omega
  ·simp;omega
  ·simp[bU]
  ·exact⟨⟨_,by simp,sM _,λ_=>bk _⟩,trivial⟩
  ·simp
end
section
variable{ab:bq}{al:List cE}
def gN(ab:bq)(b:Nat):Input×Nat:=
 match ab b with
 |some (.box [.v (.sl c),.v (.sl i),.v (.int .i64 s),.je m])=>(⟨Aa c,lz i,s⟩,m)
 |_=>(⟨[],[],0⟩,0)
def DZ{b m:Nat}{x:Input}(h:ab b=some (.box (du x m))):gN ab b=(x,m):=by
 simp[gN,h,du]
def BI(ab:bq)(m:Nat):List cE:=
 match ab m with
 |some (.map _ _ _ es)=>es.map λe=>match e.2.2 with|.v (.agg r)=>yb r|_=>default
 |_=>[]
def Iy{m:Nat}(h:ab m=some (cV al)):BI ab m=al:=by
 simp only[BI,h,cV,dz,Zdq];rw[show(List.map ((λe=>match e.2.2 with|DV.v (T.agg r)=>yb r|_=>default)∘λp=>(p.2,p.1.key,DV.v (T.agg p.1.enc))) al.zipIdx)=al.zipIdx.map Prod.fst from Zbz λp _=>by simp];simp
def k31:bF->bq->fV
 |[.ptr b 0,.v (.int .i64 i),.v (.int .i64 j)],ab=>⟨ab b=some (.box (du (gN ab b).1 (gN ab b).2))/\0<=i/\i<=j/\j<=(gN ab b).1.aw.length/\ur (gN ab b).1.aw,
   .v (.ew [ti (im (((gN ab b).1.aw.take j.toNat).drop i.toNat) 0),.sl (iz (gR (j.toNat-i.toNat)))]),ab⟩
 |_,ab=>⟨False,.undef,ab⟩
def BJ{b m:Nat}{x:Input}{i j:Nat}(h:ab b=some (.box (du x m))):
  k31 [.ptr b 0,.v (ti i),.v (ti j)] ab=⟨i<=j/\j<=x.aw.length/\ur x.aw,.v (.ew [ti (im ((x.aw.take j).drop i) 0),.sl (iz (gR (j-i)))]),ab⟩:=by
 simp only[k31,DZ h,h,iQ,qI,Int.ofNat_le,ZcS];try omega
def k50:bF->bq->fV
 |[.ptr b 0,.v (.int .i64 i)],ab=>⟨ab b=some (.box (du (gN ab b).1 (gN ab b).2))/\0<=i/\i<=1000000/\(gN ab b).1.aw.length<=1000000,.v (.bool (dn (gN ab b).1 i.toNat)),ab⟩
 |_,ab=>⟨False,.undef,ab⟩
def ac7{b m:Nat}{x:Input}{i:Nat}(h:ab b=some (.box (du x m))):
  k50 [.ptr b 0,.v (ti i)] ab=⟨i<=1000000/\x.aw.length<=1000000,.v (.bool (dn x i)),ab⟩:=by
 simp only[k50,DZ h,h,iQ,fV.mk.injEq,and_self,OY,qI,eq_iff_iff,ZcS];try omega
def k47:bF->bq->fV
 |[.ptr b 0,.v (.int .i64 i),.v (.int .i64 j),.v (.int .i64 aI),.v (.sl ops)],ab=>
  ⟨ab b=some (.box (du (gN ab b).1 (gN ab b).2))/\ab (gN ab b).2=some (cV (BI ab (gN ab b).2))/\ops=iz (BC ops)/\0<=i/\i<=1000000/\0<=j/\j<(gN ab b).1.aw.length/\(gN ab b).1.aw.length<=1000000/\WB ((gN ab b).1.aw.getD j.toNat default)/\0<=aI/\aI<=1099511627776/\(BC ops).length<=1000000,.v (.ew []),
   eJ ab (gN ab b).2 (cV (cS (BI ab (gN ab b).2) (mZ ((gN ab b).1.aw.getD j.toNat default).read i.toNat j.toNat aI (BC ops) ((gN ab b).1.aw.getD j.toNat default).read.length)))⟩
 |_,ab=>⟨False,.undef,ab⟩
def amG{b m:Nat}{x:Input}{i j:Nat}{aI:Int}{ops:List (Int×Int)}(h:ab b=some (.box (du x m)))(hm:ab m=some (cV al)):
  k47 [.ptr b 0,.v (ti i),.v (ti j),.v (ti aI),.v (.sl (iz ops))] ab=⟨i<=1000000/\j<x.aw.length/\x.aw.length<=1000000/\WB (x.aw.getD j default)/\0<=aI/\aI<=1099511627776/\ops.length<=1000000,.v (.ew []),
   eJ ab m (cV (cS al (mZ (x.aw.getD j default).read i j aI ops (x.aw.getD j default).read.length)))⟩:=by
 simp only[k47,DZ h,h,Iy hm,hm,iQ,QR,qI,Int.ofNat_lt,ZcS,show((i:Int)<=1000000)=(i<=1000000)from propext ⟨λh=>by omega,λh=>by omega⟩]
abbrev Γ5:pk:=bB [(75,en k48),(74,en k47),(48,en k31),(77,en k50),(76,zn NI ac6 117 2)]
def ok5:ay aj Γ5:=by
 refine ay.ij (ay.ij (ay.ij (ay.ij (ay.aax ay.nil ?_) ?_) ?_) ?_) ?_
 ·rintro ts ⟨l,rfl,h⟩;exact t49 l h
 ·intro args ab h;unfold k50 at h⊢;split at h
  ·rename_i aJ b i;obtain⟨hb,h1,h2,h3⟩:=h;obtain⟨i,rfl⟩:=kK h1;refine⟨λN hN=>?_,λr hr=>hr⟩;exact aQ.of (t50 hN hb (by omega) h3) (by simp) (by simp)
  ·exact h.elim
 ·intro args ab h;unfold k31 at h⊢;split at h
  ·rename_i aJ b i j;obtain⟨hb,h1,h2,h3,h4⟩:=h;obtain⟨i,rfl⟩:=kK h1;obtain⟨j,rfl⟩:=kK (show 0<=j by omega);refine⟨λN hN=>?_,λr hr=>hr⟩;exact aQ.of (t31 hN hb (by omega) (by omega) h4) (by simp) (by simp)
  ·exact h.elim
 ·intro args ab h;unfold k47 at h⊢;split at h
  ·rename_i aJ b i j aI ops;obtain⟨hb,hm,ho,h1,h2,h3,h4,h5,h6,h7,h8,h9⟩:=h;obtain⟨i,rfl⟩:=kK h1;obtain⟨j,rfl⟩:=kK h3;refine⟨λN hN=>?_,λr hr=>wq hm hr⟩;rw[ho];exact aQ.of (t47 hN hb hm (by omega) (by omega) h5 h6 ⟨h7,h8⟩ h9) (by simp) (by simp)
  ·exact h.elim
 ·intro args ab h;exact(ok4 75 (en k48) rfl).st k48 rfl args ab h
end
section
variable{f0:bq}{al:List cE}
def pj(x:Input)(i m:Nat):Int:=im ((x.aw.take m).drop i) 0
def u0(ci:bT)(i m aI:Int)(ops:List (Int×Int))(n:Nat):List cE:=
 (List.range n).map λ(t:Nat)=>⟨2*i,2*m,(t:Int),aI+ci.getD t 0,ops++[(3,(t:Int))]⟩
def Yj(ci:bT)(i m aI:Int)(ops:List (Int×Int))(n:Nat):u0 ci i m aI ops (n+1)=u0 ci i m aI ops n++[⟨2*i,2*m,n,aI+ci.getD n 0,ops++[(3,(n:Int))]⟩]:=by
 simp[u0,Ho]
def Ch(x:Input)(i m:Nat):List cE:=mZ (x.aw.getD m default).read i m (pj x i m) (gR (m-i)) (x.aw.getD m default).read.length
def uq(x:Input)(i m:Nat):List cE:=
 (if i<m then Ch x i (m-1)else [])++(u0 x.insert i m (pj x i m) (gR (m-i)) x.insert.length++
  (if dn x m then [⟨2*i,2*m+1,(x.aw.getD (m+1) default).kind,pj x i m+x.swap,gR (m-i)++[(4,0)]⟩]else []))
def Ad(x:Input)(i m:Nat):List cE:=(List.range (m-i)).flatMap λe=>uq x i (i+e)
def u4(x:Input)(i:Nat):List cE:=Ad x i (x.aw.length+1)++(if dn x i then [⟨2*i+1,2*i+4,(x.aw.getD i default).kind,0,[]⟩]else [])
def QY(x:Input){i m:Nat}(h:i<=m):Ad x i (m+1)=Ad x i m++uq x i m:=by
 unfold Ad;rw[show m+1-i=(m-i)+1 by omega,Ho,ZcM];simp[show i+(m-i)=m by omega]
def Qa(x:Input):Prop:=ur x.aw/\(∀c∈x.aw,WB c)/\x.insert.length<=1000000/\(∀p∈x.insert,0<=p/\p<=1099511627776)/\0<=x.swap/\x.swap<=1099511627776
def iu{x:Input}(h:ur x.aw)(i m:Nat):0<=pj x i m/\pj x i m<=1099511627776:=
 xx (λc hc=>(h.2 c (Ew (Zca hc))).1) 0 (by omega)
def t7{N m aK aY:Nat}{tm:dj}{l:eO}{L:c7}(aV:df f0 N)(hm:m<N)(hn:N<=aY)(hL:∀p∈L,p.1=m\/N<=p.1)(ho:aO L f0 m=some (cV al))
  (iX:fK (aO L f0) (aO [(m,cV al)] f0) id tm l):
  Le ⟨tm,aO L f0,aK,N,[]⟩ ⟨DM.look l,aO [(m,cV al)] f0,aY,N,[]⟩:=by
 refine Le.d6 aV hn ?_ ?_ ?_ iX
 ·simp;omega
 ·induction L with
  |nil=>trivial
  |cons p L ih=>
   have:∀(L:c7),(∀p∈L,p.1=m\/N<=p.1)->bU N [(m,cV al)] L:=by
    intro L;induction L with
    |nil=>intro _;trivial
    |cons q L ih=>
     intro h;refine⟨λhq=>?_,ih λp hp=>h p (by simp[hp])⟩;rcases h q (by simp)with h|h
     ·exact⟨cV al,by simp[h]⟩
     ·omega
   exact this _ hL
 ·exact⟨⟨cV al,ho,sM al,λ_=>bk _⟩,trivial⟩
def t30{b m:Nat}{x:Input}{i:Nat}{N:Nat}(hN:∀r,N<=r->f0 r=none)(hb:f0 b=some (.box (du x m)))(hm:f0 m=some (cV al))
  (hi:i<=x.aw.length) (hx:Qa x):
  aQ aj 47 [.ptr b 0,.v (ti i)] f0 ⟨True,.v (.ew []),eJ f0 m (cV (cS al (u4 x i)))⟩:=by
 have aC:=ok5;refine c30.qE hN (by simp) λaV=>?_;have WA:b<N:=(aV b _ hb).1;have CV:m<N:=(aV m _ hm).1;have BG:b≠m:=λe=>by rw[e,hm]at hb;cases hb
 have nb:∀k,b≠N+k:=λk=>by omega
 have nm:∀k,m≠N+k:=λk=>by omega
 obtain⟨hd,oT,auy,amH,arW,OV⟩:=hx;have hl:=hd.1;simp;apply aa.ag aC fw [0,1,4];simp[ajQ,hb,du];apply aa.sq aC fw [0,1,4,5];simp[ajR];refine aa.to ⟨DM.look [(0,.ptr b 0),(1,.v (ti i))],aO [(m,cV (cS al (Ad x i (x.aw.length+1))))] f0,N+1000,N,[]⟩ ?_ ?_
 ·apply aa.block;refine aa.loop (λy:Nat=>⟨DM.look [(0,.ptr b 0),(1,.v (ti i)),(4,.v (ti x.aw.length)),(5,.v (ti y))],aO [(m,cV (cS al (Ad x i y)))] f0,N+1000,N,[]⟩)
   (λy=>i<=y/\y<=x.aw.length+1) (λy=>x.aw.length+1-y) i (Le.d6 aV ?_ ?_ ?_ ?_ ?_) (by omega) (λy hy=>?_)
  ·omega
  ·simp;omega
  ·simp[bU]
  ·exact⟨⟨cV al,by simp[hm],by simpa [Ad,cS]using sM al,λ_=>trivial⟩,trivial⟩
  ·simp[hb,BG]
  obtain⟨mf,fW⟩:=hy;apply aa.sq aC fw [0,1,4,5,21];simp[ajS];refine aa.cond rfl (λcU=>?_) (λcU=>?_)
  ·simp at cU;apply aa.skip;simp;obtain⟨aI,vD⟩:=be (pj x i y);have AN:0<=aI/\aI<=1099511627776:=by rw[<-vD];exact iu hd i y
   have amI:im ((x.aw.take y).drop i) 0=aI:=vD;obtain⟨aly,Yi⟩:=be (cS al (Ad x i y));rw[Yi];apply aa.seq;refine aa.to ⟨DM.look [(0,.ptr b 0),(1,.v (ti i)),(4,.v (ti x.aw.length)),(5,.v (ti y))],aO [(m,cV (cS aly (uq x i y)))] f0,N+1000,N,[]⟩ ?_ ?_
   ·apply aa.block;apply aa.seq;refine aa.qa aC fw (rs:=QM) (.inr ⟨_,rfl⟩) (by kernel_rfl) [0,1,4,5,6,7] ?_;simp[QM,BJ (x:=x) (m:=m),hb,BG,mf,cU,hd,amI];apply aa.seq;obtain⟨al1,amJ⟩:=be (cS aly (if i<y then Ch x i (y-1)else []));refine aa.to ⟨DM.look [(0,.ptr b 0),(1,.v (ti i)),(4,.v (ti x.aw.length)),(5,.v (ti y)),(6,.v (ti aI)),(7,.v (.sl (iz (gR (y-i)))))],aO [(m,cV al1)] f0,N+1000,N,[]⟩ ?_ ?_
    ·apply aa.ag aC fw [0,1,4,5,6,7,33];simp[ajT];refine aa.cond rfl (λh=>?_) (λh=>?_)
     ·simp at h;obtain⟨q,hq⟩:∃q,y=q+1:=⟨y-1,by omega⟩;have hwq:IntKind.i64.wrap ((y:Int)-1)=(q:Int):=by rw[aF (by omega)];omega
      have hiq:i<=q:=by omega
      have hql:q<=x.aw.length:=by omega
      have amK:q<x.aw.length:=by omega
      obtain⟨c2,gZ⟩:=be (pj x i q);have arX:0<=c2/\c2<=1099511627776:=by rw[<-gZ];exact iu hd i q
      have auz:im ((x.aw.take q).drop i) 0=c2:=gZ;refine aa.seq (aa.qa aC fw (rs:=QN) (.inr ⟨_,rfl⟩) (by kernel_rfl) [0,1,4,5,6,7,8,9] ?_);simp[QN,BJ (x:=x) (m:=m),hb,BG,hwq,hiq,hql,hd,auz];refine aa.qa aC fw (rs:=QO) (.inr ⟨_,rfl⟩) (by kernel_rfl) [0,1,4,5,6,7] ?_;simp[QO,amG (x:=x) (m:=m) (al:=aly),hb,BG,hwq];refine⟨⟨by omega,amK,hl, ?_,arX.1,arX.2,by simp[gR];omega⟩, ?_⟩
      ·rw[w8 amK];exact oT _ (SK amK)
      ·rw[kx];have e:cS aly (mZ (x.aw[q]?.getD default).read i q c2 (gR (q-i)) (x.aw[q]?.getD default).read.length)=al1:=by
        rw[<-amJ,cF h];simp[Ch,show y-1=q by omega,gZ]
       rw[e];exact t7 aV CV (by omega) (by simp) (by simp) (by simp[hb,BG])
     ·simp at h;have e:aly=al1:=by rw[<-amJ,aZ (by omega)];rfl
      rw[e];exact aa.skip ⟨rfl,t7 aV CV (by omega) (by simp) (by simp) (by simp[hb,BG])⟩
    apply aa.seq;obtain⟨al2,ac8⟩:=be (cS al1 (u0 x.insert i y aI (gR (y-i)) x.insert.length));refine aa.to ⟨DM.look [(0,.ptr b 0),(1,.v (ti i)),(4,.v (ti x.aw.length)),(5,.v (ti y)),(6,.v (ti aI)),(7,.v (.sl (iz (gR (y-i)))))],aO [(m,cV al2)] f0,N+1000,N,[]⟩ ?_ ?_
    ·apply aa.ag aC fw [0,1,4,5,6,7,53,54,55];simp[ajU,hb,BG,du];apply aa.block;refine aa.loop (λz:Nat=>⟨DM.look [(0,.ptr b 0),(1,.v (ti i)),(4,.v (ti x.aw.length)),(5,.v (ti y)),(6,.v (ti aI)),(7,.v (.sl (iz (gR (y-i))))),(53,.v (.sl (aG x.insert))),(54,.v (ti x.insert.length)),(55,.v (ti z))],aO [(m,cV (cS al1 (u0 x.insert i y aI (gR (y-i)) z)))] f0,N+1000,N,[]⟩)
      (λz=>z<=x.insert.length) (λz=>x.insert.length-z) 0 ?_ (by omega) (λz hz=>?_)
     ·exact t7 aV CV (by omega) (by simp) (by simp[u0,cS]) (by simp[hb,BG])
     apply aa.ag aC fw [0,1,4,5,6,7,53,54,55,56];simp[ajV];apply aa.seq;refine aa.cond rfl (λh=>?_) (λh=>?_)
     ·simp at h;apply aa.skip;simp;apply aa.seq;apply aa.block;obtain⟨p,hp⟩:=be (x.insert.getD z default);have hr:=cM h;have hpb:=amH p (by rw[<-hp];simp[List.getD,h]);have hp0:x.insert.getD z 0=p:=hp;have o9:=Yj x.insert i y aI (gR (y-i)) z;rw[hp0]at o9;rw[hp]at hr;apply aa.ag aC fw [0,1,4,5,6,7,10,11,53,54,55];simp[ajW,hr,h];obtain⟨alz,arY⟩:=be (cS al1 (u0 x.insert i y aI (gR (y-i)) z));rw[arY];refine aa.to ⟨DM.look [(0,.ptr b 0),(1,.v (ti i)),(4,.v (ti x.aw.length)),(5,.v (ti y)),(6,.v (ti aI)),(7,.v (.sl (iz (gR (y-i))))),(53,.v (.sl (aG x.insert))),(54,.v (ti x.insert.length)),(55,.v (ti z))],aO [(m,cV (cS al1 (u0 x.insert i y aI (gR (y-i)) (z+1))))] f0,N+1000,N,[]⟩ ?_ ?_
      ·refine aa.qa aC fw (rs:=KG) (.inr ⟨_,rfl⟩) (by kernel_rfl) [0,1,4,5,6,7,53,54,55] ?_;have w1:IntKind.i64.wrap (2*(i:Int))=2*i:=aF (by omega);have w2:IntKind.i64.wrap (2*(y:Int))=2*y:=aF (by omega);have w4:IntKind.i64.wrap (aI+p)=aI+p:=aF (by omega);have fA:(gR (y-i)).length=y-i:=by simp[gR]
       simp[KG,w1,w2,w4,ac6,NI,gn,dR,k48,hb,du,BG,cV,gz,fq,nb,nm];refine⟨⟨_,rfl,by omega⟩,by omega,λn hn=>?_, ?_⟩
       ·simp only[aP,oO]at hn;subst hn;simp
       ·have e:cS al1 (u0 x.insert i y aI (gR (y-i)) (z+1))=xC alz ⟨2*i,2*y,z,aI+p,gR (y-i)++[(3,(z:Int))]⟩:=by
         rw[o9,iA,arY];rfl
        rw[e];refine QW ⟨2*i,2*y,z,aI+p,gR (y-i)++[(3,(z:Int))]⟩ aV CV ?_ ?_ ?_ (BH _ _ _) ?_
        ·omega
        ·omega
        ·omega
        ·simp[hb,BG]
      ·apply aa.fJ aC fw [0,1,4,5,6,7,53,54,55];simp[acK];rw[aF (by omega)];exact⟨z+1,t7 aV CV (by omega) (by simp) (by simp) (by simp[hb,BG]),by omega,by omega⟩
     ·simp at h;have:z=x.insert.length:=by omega
      subst this;refine aa.exit ⟨rfl, ?_⟩;rw[ac8];exact t7 aV CV (by omega) (by simp) (by simp) (by simp[hb,BG])
    refine aa.kv aC fw (rs:=KH) (.inr ⟨_,rfl⟩) (by kernel_rfl) [0,1,4,5,6,7,80] ?_;simp[KH,ac7 (x:=x) (m:=m),hb,BG];refine⟨⟨by omega,hl⟩, ?_⟩;have SN:cS aly (uq x i y)=cS al2 (if dn x y then [⟨2*i,2*y+1,(x.aw.getD (y+1) default).kind,aI+x.swap,gR (y-i)++[(4,0)]⟩]else []):=by
     rw[<-ac8,<-amJ,<-iA,<-iA];simp[uq,vD]
    refine aa.cond rfl (λh=>?_) (λh=>?_)
    ·rw[SN,cF h];have afv:y+1<x.aw.length:=by simp[dn]at h;exact h.1
     have hr:DM.rowAt (cz x.aw) ((y:Int)+1)=_:=kg afv;obtain⟨c2,gZ⟩:=be (x.aw.getD (y+1) default);rw[gZ]at hr⊢;have w0:IntKind.i64.wrap ((y:Int)+1)=y+1:=aF (by omega);have w1:IntKind.i64.wrap (2*(i:Int))=2*i:=aF (by omega);have w2:IntKind.i64.wrap (2*(y:Int))=2*y:=aF (by omega);have w3:IntKind.i64.wrap (2*(y:Int)+1)=2*y+1:=aF (by omega);have w4:IntKind.i64.wrap (aI+x.swap)=aI+x.swap:=aF (by omega);have fA:(gR (y-i)).length=y-i:=by simp[gR]
     have auA:((y:Int)+1<x.aw.length)=True:=by simp;omega
     have auB:(0<=(y:Int)+1)=True:=by simp;omega
     refine aa.qa aC fw (rs:=db (MC b N) (fg KJ [none,none,none,none,none,none,none,none,none,none,some [0],none,none,some [],none,some [],none,none,none,none,none,some [0],none,none,some [],none,none,some [1239]])) (.inl rfl) (by rw[d8 (XY WA)];kernel_rfl) [0,1,4,5] ?_;simp[db,fF,fg,cX,bN,aP,bQ,MC,KJ,w0,w1,w2,w3,w4,hr,auA,auB,cP.enc,ac6,NI,gn,dR,k48,hb,du,BG,cV,gz,fq,nb,nm];refine⟨⟨_,rfl,by omega⟩,by omega, ?_⟩;refine QW ⟨2*i,2*y+1,c2.kind,aI+x.swap,gR (y-i)++[(4,0)]⟩ aV CV ?_ ?_ ?_ (BH _ _ _) ?_
     ·omega
     ·omega
     ·omega
     ·simp[hb,BG]
    ·rw[SN,aZ (by simp[h])];exact aa.skip ⟨rfl,t7 aV CV (by omega) (by simp) (by simp[cS]) (by simp[hb,BG])⟩
   ·apply aa.fJ aC fw [0,1,4,5];simp[acL];rw[aF (by omega)];refine⟨y+1,t7 aV CV (by omega) (by simp) (by simp;rw[QY x mf,iA,Yi]) (by simp[hb,BG]),⟨by omega,by omega⟩,by omega⟩
  ·simp at cU;have:y=x.aw.length+1:=by omega
   subst this;refine aa.exit ⟨rfl, ?_⟩;exact t7 aV CV (by omega) (by simp) (by simp) (by simp[hb,BG])
 ·obtain⟨al3,arZ⟩:=be (cS al (Ad x i (x.aw.length+1)));have SN:cS al (u4 x i)=cS al3 (if dn x i then [⟨2*i+1,2*i+4,(x.aw.getD i default).kind,0,[]⟩]else []):=by
   rw[<-arZ,<-iA];rfl
  rw[arZ];refine aa.kv aC fw (rs:=KK) (.inr ⟨_,rfl⟩) (by kernel_rfl) [0,1,113] ?_;simp[KK,ac7 (x:=x) (m:=m),hb,BG];refine⟨⟨by omega,hl⟩, ?_⟩;refine aa.to ⟨DM.look [],aO [(m,cV (cS al (u4 x i)))] f0,N+1000,N,[]⟩ ?_ (by simp[acM];rfl);refine aa.cond rfl (λh=>?_) (λh=>?_)
  ·rw[SN,cF h];have afv:i<x.aw.length:=by simp[dn]at h;omega
   have hr:=kg afv;obtain⟨c2,gZ⟩:=be (x.aw.getD i default);rw[gZ]at hr⊢;have w1:IntKind.i64.wrap (2*(i:Int))=2*i:=aF (by omega);have w2:IntKind.i64.wrap (2*(i:Int)+1)=2*i+1:=aF (by omega);have w3:IntKind.i64.wrap (2*(i:Int)+4)=2*i+4:=aF (by omega);refine aa.qa aC fw (rs:=KL) (.inr ⟨_,rfl⟩) (by kernel_rfl) [] ?_;simp[KL,w1,w2,w3,hr,afv,cP.enc,k48,hb,du,BG,cV,gz,fq];refine⟨λn hn=>(by simp[aP]at hn), ?_⟩;rw[kx];refine Le.d6 (l:=[]) aV (by omega) (by simp;omega) (by simp[bU]) ⟨⟨_,by simp;exact⟨rfl,rfl⟩,Ix (c:=⟨2*i+1,2*i+4,c2.kind,0,[]⟩) (d:=.aX) ?_,λ_=>by simp[jR]⟩,trivial⟩ (by simp);simp[iz]
  ·rw[SN,aZ (by simp[h])];exact aa.skip ⟨rfl,t7 aV CV (by omega) (by simp) (by simp[cS]) (by simp)⟩
end
def gO(a:cE)(p:Bool×List cE)(b:cE):Bool×List cE:=
 if p.1=false/\bj b a=true then(true,p.2++[if a.aI<b.aI then a else b])
 else if p.1=false/\cR a b then(true,p.2++[a]++[b])
 else(p.1,p.2++[b])
def t8(a:cE)(l:List cE):Bool×List cE:=l.foldl (gO a) (false,[])
def yT(l:List cE)(a:cE):List cE:=
 if 1099511627776<=a.aI then l else if(t8 a l).1 then(t8 a l).2 else(t8 a l).2++[a]
@[simp] def ak9(a b c d:Int)(o:List (Int×Int)):yb [ti a,ti b,ti c,ti d,.sl (iz o)]=⟨a,b,c,d,o⟩:=yd ⟨a,b,c,d,o⟩
@[simp] def ala(a b c d:Int):yb [ti a,ti b,ti c,ti d,.sl []]=⟨a,b,c,d,[]⟩:=yd ⟨a,b,c,d,[]⟩
def ft{α:Type}(f:Nat->List α)(i m:Nat):List α:=(List.range (m-i)).flatMap λe=>f (i+e)
def aem{α:Type}(f:Nat->List α){i m:Nat}(h:i<=m):ft f i (m+1)=ft f i m++f m:=by
 unfold ft;rw[show m+1-i=(m-i)+1 by omega,Ho,ZcM];simp[show i+(m-i)=m by omega]
def alu{α:Type}(f:Nat->List α)(i:Nat):ft f i i=[]:=by simp[ft]
def Pk(x:Input)(m t:Nat):Int:=(x.aw.getD m default).read.getD t default
def rA(x:Input)(i m t:Nat):List cE:=if m<x.aw.length/\0<=Pk x m t then [⟨2*i,2*m+2,t,AS (pj x i m) (Pk x m t),gR (m-i)++[(1,(t:Int))]⟩]else []
def rS(x:Input)(i m:Nat):List cE:=if dn x m then [⟨2*i,2*m+1,(x.aw.getD (m+1) default).kind,AS (pj x i m) x.swap,gR (m-i)++[(4,0)]⟩]else []
def rM(x:Input)(i m:Nat):List cE:=ft (rA x i m) 0 x.insert.length++rS x i m
def rT(x:Input)(i:Nat):List cE:=if dn x i then [⟨2*i+1,2*i+4,(x.aw.getD i default).kind,0,[]⟩]else []
def rI(x:Input)(i:Nat):List cE:=ft (rM x i) i (x.aw.length+1)++rT x i
def iT(x:Input)(i m t:Nat):List cE:=[⟨2*i,2*m,t,AS (pj x i m) (x.insert.getD t default),gR (m-i)++[(3,(t:Int))]⟩]
def iM(x:Input)(i m:Nat):List cE:=ft (iT x i m) 0 x.insert.length
def iI(x:Input)(i:Nat):List cE:=ft (iM x i) i (x.aw.length+1)
def lE(l cs:List cE):List cE:=cs.foldl yT l
def wX(l cs ds:List cE):lE l (cs++ds)=lE (lE l cs) ds:=by simp[lE]
def jM(x:Input):List cE:=lE (lE [] (ft (rI x) 0 (x.aw.length+1))) (ft (iI x) 0 (x.aw.length+1))
def AU(x:Input)(k:Nat):bT:=(List.range (2*x.aw.length+1)).map λs=>if s<k then(if s % 2=0 then pj x (s/2) x.aw.length else 1099511627776)else 0
def bf(x:Input):aU:=⟨2*x.aw.length+1,jM x,AU x (2*x.aw.length+1)⟩
def KT(a:cE)(p:Bool×List cE)(b:cE):(gO a p b).2.length+p.1.toNat<=p.2.length+1+(gO a p b).1.toNat:=by
 unfold gO;cases hp:p.1 with
 |true=>simp
 |false=>
  simp only[qI,Bool.toNat_false];split
  ·simp
  ·split<;>simp
def NN(a:cE)(l:List cE):(t8 a l).2.length<=l.length+(t8 a l).1.toNat:=by
 have key:∀(l:List cE) (p:Bool×List cE),(l.foldl (gO a) p).2.length+p.1.toNat<=p.2.length+l.length+(l.foldl (gO a) p).1.toNat:=by
  intro l;induction l with
  |nil=>intro p;simp
  |cons b l ih=>
   intro p;simp only[Ca,Lr];have h:=ih (gO a p b);have hs:=KT a p b;omega
 have h:=key l (false,[]);simpa [t8]using h
def adh(l:List cE)(a:cE):(yT l a).length<=l.length+1:=by
 have h:=NN a l;unfold yT;split
 ·omega
 ·split
  ·rename_i hd;rw[hd]at h;simpa using h
  ·rename_i hd;simp only[Zdp]at hd;rw[hd]at h;simp at h⊢;omega
def GK(cs:List cE):∀l:List cE,(lE l cs).length<=l.length+cs.length:=by
 induction cs with
 |nil=>intro l;simp[lE]
 |cons c cs ih=>
  intro l;have h1:=ih (yT l c);have h2:=adh l c;have e:lE l (c::cs)=lE (yT l c) cs:=rfl;rw[e];simp only[Lr];omega
def amZ(x:Input)(i m t:Nat):(rA x i m t).length<=1:=by unfold rA;split<;>simp
def am0(x:Input)(i m:Nat):(rS x i m).length<=1:=by unfold rS;split<;>simp
def am1(x:Input)(i:Nat):(rT x i).length<=1:=by unfold rT;split<;>simp
def BN{α:Type}{f:Nat->List α}{B:Nat}(h:∀k,(f k).length<=B)(i m:Nat):(ft f i m).length<=(m-i)*B:=by
 unfold ft;have:∀k,((List.range k).flatMap λe=>f (i+e)).length<=k*B:=by
  intro k;induction k with
  |zero=>simp
  |succ k ih=>
   rw[Ho,ZcM,Ey,Nat.succ_mul];have:=h (i+k);simp only[Zz,List.flatMap_nil,vZ];omega
 exact this _
def am2(x:Input)(i m:Nat)(h:x.insert.length<=100):(rM x i m).length<=101:=by
 unfold rM;have h1:=BN (amZ x i m) 0 x.insert.length;have h2:=am0 x i m;rw[Ey];omega
def am3(x:Input)(i:Nat)(h:x.insert.length<=100)(hn:x.aw.length<=60):(rI x i).length<=7000:=by
 unfold rI;have h1:=BN (f:=rM x i) (B:=101) (λk=>am2 x i k h) i (x.aw.length+1);have h2:=am1 x i;rw[Ey];omega
def am4(x:Input)(i m:Nat)(h:x.insert.length<=100):(iM x i m).length<=100:=by
 unfold iM;have h1:=BN (f:=iT x i m) (B:=1) (λk=>by simp[iT]) 0 x.insert.length;omega
def am5(x:Input)(i:Nat)(h:x.insert.length<=100)(hn:x.aw.length<=60):(iI x i).length<=7000:=by
 unfold iI;have h1:=BN (f:=iM x i) (B:=100) (λk=>am4 x i k h) i (x.aw.length+1);omega
open Go.DM Go.DM.W9
section
variable(amV:aL->Prop)(afy:aL->aL->Int)
abbrev AR(x y:aL):Bool:=decide (afy x y<0)
variable{amV afy}
end
def sE:Nat:=1000000000
section
variable{al:List cE}
def cW(a:cE):aL:=[ti a.f,ti a.t,ti a.term]
def uB(r:aL):Prop:=∃f t x:Int,r=[ti f,ti t,ti x]
def kX(r:aL):Int×Int×Int:=(dL (r.getD 0 (ti 0)),dL (r.getD 1 (ti 0)),dL (r.getD 2 (ti 0)))
def lt3(a b:Int×Int×Int):Prop:=a.1<b.1\/(a.1=b.1/\(a.2.1<b.2.1\/(a.2.1=b.2.1/\a.2.2<b.2.2)))
def or3(a b c d e f:Int):WC [uJ a d,uJ b e,uJ c f]<0↔lt3 (a,b,c) (d,e,f):=by
 simp only[WC,uJ,lt3];by_cases h1:a<d
 ·simp[h1]
 ·by_cases h2:d<a
  ·have:a≠d:=by omega
   simp[h1,h2,this]
  ·have:a=d:=by omega
   subst this;by_cases h3:b<e
   ·simp[h3]
   ·by_cases h4:e<b
    ·have:b≠e:=by omega
     simp[h3,h4,this]
    ·have:b=e:=by omega
     subst this;by_cases h5:c<f
     ·simp[h5]
     ·by_cases h6:f<c
      ·have:¬c<f:=by omega
       simp[h5,h6]
      ·simp[h5,h6]
def WD(x y:aL):AR fz x y=true↔lt3 (kX x) (kX y):=by
 simp only[AR,tD];exact or3 _ _ _ _ _ _
def vY(x y:aL):AR fz x y=false↔¬lt3 (kX x) (kX y):=by
 rw[<-WD];simp
def LJ:SWO (AR fz):=by
 refine⟨λx=>?_,λx y z h1 h2=>?_,λx y z h1 h2=>?_⟩
 ·rw[vY];unfold lt3;omega
 ·rw[WD]at h1 h2⊢;unfold lt3 at h1 h2⊢;omega
 ·rw[vY]at h1 h2⊢;unfold lt3 at h1 h2⊢;omega
def afz{x y:aL}(h:sX (AR fz) x y=true):kX x=kX y:=by
 simp only[sX,mD,Xr,vY]at h;unfold lt3 at h;generalize kX x=p at h⊢;generalize kX y=q at h⊢;obtain⟨a1,a2,a3⟩:=p;obtain⟨b1,b2,b3⟩:=q;simp only[oS]at h⊢;omega
def BM{x y:aL}(hx:uB x)(hy:uB y)(h:kX x=kX y):x=y:=by
 obtain⟨a,b,c,rfl⟩:=hx;obtain⟨d,e,f,rfl⟩:=hy;simp[kX,dL]at h;simp[h]
def KS{l:List (aL)}(hg:∀x∈l,uB x)(hn:l.Nodup)(z:aL):(l.filter (sX (AR fz) z)).length<=1:=by
 have Hw:(l.filter (sX (AR fz) z)).Nodup:=hn.filter _;have eF:∀x∈l.filter (sX (AR fz) z),uB x/\kX x=kX z:=by
  intro x hx;rw[Su]at hx;exact⟨hg x hx.1,(afz hx.2).symm⟩
 match hl:l.filter (sX (AR fz) z),Hw,eF with
 |[],_,_=>simp
 |[a],_,_=>simp
 |a::b::l,Hw,eF=>
  exfalso;have h1:=eF a (by simp);have h2:=eF b (by simp);have:=BM h1.1 h2.1 (h1.2.trans h2.2.symm);subst this;simp at Hw
def QZ{l1 l2:List (aL)}(hp:l1.Perm l2)(hg:∀x∈l2,uB x)(hn:l2.Nodup):kV (AR fz) l1=kV (AR fz) l2:=by
 refine Mu LJ (tf LJ l2) λx=>?_;rw[zx LJ];have h1:=hp.filter (sX (AR fz) x);have h2:=KS hg hn x;cases h:l2.filter (sX (AR fz) x)with
 |nil=>rw[h]at h1;exact(List.Perm.eq_nil h1).symm
 |cons a t=>
  rw[h]at h1 h2;have:t=[]:=by cases t with
   |nil=>rfl
   |cons b t=>simp at h2
  subst this;exact(List.perm_singleton.1 h1).symm
def te{a b:cE}:cW a=cW b↔bj a b=true:=by simp[cW,bj]
def Ra(h:(al.map cW).Nodup)(a:cE):((xC al a).map cW).Nodup:=by
 unfold xC;split
 ·cases hf:al.findIdx? (bj a)with
  |none=>
   simp only;rw[JI,Zcl];refine⟨h,by simp, ?_⟩;intro x hx y hy;simp only[qD,SJ,oO]at hy;subst hy;obtain⟨b,hb,rfl⟩:=g9.1 hx;intro e;rw[Zco]at hf;have:=hf b hb;rw[te.1 e.symm]at this;cases this
  |some i=>
   simp only;split
   ·have hi:=wB hf;rw[Zbv]at hf;have hk:cW a=cW al[i]:=te.2 hf.2.1;rw[Zcs,hk];have:(al.map cW).set i (cW al[i])=al.map cW:=by
     apply ZbF
     ·simp
     ·intro k h1 h2;rw[Zcf];split
      ·rename_i e;subst e;simp
      ·rfl
    rw[this];exact h
   ·exact h
 ·exact h
def yV(cs:List cE):∀{al:List cE},(al.map cW).Nodup->((cS al cs).map cW).Nodup:=by
 induction cs with
 |nil=>intro al h;exact h
 |cons c cs ih=>intro al h;exact ih (Ra h c)
def sg(al:List cE)(r:aL):cE:=(al.find? (bj ⟨(kX r).1,(kX r).2.1,(kX r).2.2,0,[]⟩)).getD default
def adc{α:Type}(p:α->Bool)(l:List α):l.find? p=(l.findIdx? p).bind λi=>l[i]? :=by
 induction l with
 |nil=>rfl
 |cons x l ih=>
  rw[LF,Y8];cases h:p x with
  |true=>simp
  |false=>simp[ih];cases l.findIdx? p<;>simp
def vW{a:cE}(h:a∈al):bj a (sg al (cW a))=true/\sg al (cW a)∈al/\∃i,sj a.key (dz al)=some (i,(sg al (cW a)).key,.v (.agg (sg al (cW a)).enc)):=by
 have e:bj ⟨(kX (cW a)).1,(kX (cW a)).2.1,(kX (cW a)).2.2,0,[]⟩=bj a:=by
  funext b;simp[bj,kX,cW,dL]
 unfold sg;rw[e,zC,qY,adc];cases hf:al.findIdx? (bj a)with
 |none=>
  rw[Zco]at hf;have:=hf a h;simp[bj]at this
 |some i=>
  have hi:=wB hf;rw[Zbv]at hf;simp only[ZcI,il,w8 hi,O5,St];exact⟨hf.2.1,SK hi,i,rfl⟩
def kW(al:List cE):List cE:=(kV (AR fz) (al.map cW)).map (sg al)
def Yn{sn:cQ}(h1:sn.Nodup)(h2:∀i∈sn,i<al.length)(h3:∀i,i<al.length->i∈sn):(sn.map λi=>cW (al.getD i default)).Perm (al.map cW):=by
 have hp:sn.Perm (List.range al.length):=(List.perm_ext_iff_of_nodup h1 List.nodup_range).2 λi=>by
  rw[I4];exact⟨h2 i,h3 i⟩
 have:=hp.map λi=>cW (al.getD i default);refine this.trans (List.Perm.of_eq ?_);apply ZbF
 ·simp
 ·intro k k1 k2;simp at k2;simp[k2]
end
end Go.Proofs
