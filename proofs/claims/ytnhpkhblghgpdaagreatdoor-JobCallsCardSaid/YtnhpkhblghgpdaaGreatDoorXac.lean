/- Part. Conditions: none. -/
import Derived.Test.YtnhpkhblghgpdaaGreatDoorXab
import Derived.Shelf.SlSortCmp.NoneTotal
import Derived.ChangeArms
import Derived.ChangeStays
import Derived.ChangeSame
import Derived.RowKit
import Derived.OpenShut
import Derived.Test.YtnhpkhblghgpdaaGreatDoorProg
set_option linter.all false
set_option maxRecDepth 100000
set_option maxHeartbeats 16000000
namespace Go.DM
open Go.RowKit
section
variable{ab:bF}{r:Nat}{P:Program}
variable [bK] [d8]
abbrev tI(n:Int):T:=.int .i64 n
abbrev pP(k:Nat):Type:={l:bY//l.length=k}
instance(k:Nat):Inhabited (pP k):=⟨⟨List.replicate k 0,by simp⟩⟩
def sR{k:Nat}(x:pP k):List Value:=x.1.map (Value.int .i64)
def jN{k:Nat}(x:pP k):aK:=x.1.map tI
def Ud{w w':World}(h:xQ w.heap.size w w'):∃q os',w'=Go.Sort.grow (w.drewN q) os':=by
 refine⟨w'.drawn-w.drawn,w'.heap.extract w.heap.size w'.heap.size, ?_⟩;obtain⟨⟨h1,h2,h3,h4,h5⟩,h6⟩:=h;cases w with
 |mk heap tape drawn os output=>
  cases w' with
  |mk W8 ax2 awj os' av0=>
   simp only at h1 h2 h3 h4 h5 h6;subst h1 h2 h3;simp only[Go.Sort.grow,World.drewN,World.mk.injEq,Lt,rO];refine⟨?_,by omega⟩;apply Array.ext_getElem?;intro k;rw[Array.getElem?_append];split
   ·rename_i hk;exact h5 k hk
   ·rename_i hk;rw[Array.getElem?_extract];split
    ·rw[show heap.size+(k-heap.size)=k by omega]
    ·rename_i h7;rw[Array.getElem?_eq_none (by omega)]
def xx{w:World}{W:f9}:∀l:bY,bu w W (l.map tI) (l.map (Value.int .i64))
 |[]=>by simp[bu]
 |n::l=>by
  simp only[rW,bu];exact⟨_,_,rfl,rfl,by simp[bw],xx l⟩
def Ar{w:World}{W:f9}:∀{l:bY} {vs:List Value},bu w W (l.map tI) vs->vs=l.map (Value.int .i64)
 |[],vs,h=>by simpa [bu]using h
 |n::l,vs,h=>by
  simp only[rW,bu]at h;obtain⟨v,kj,rfl,_,h1,h2⟩:=h;simp only[bw]at h1;rw[h1,Ar h2];rfl
def C4{α:Type}{sz:Nat}:∀{aw:List (List α)} {j:Nat},(∀r∈aw,r.length=sz)->aw.flatten[j]? =(aw[j/sz]?).bind λr=>r[j % sz]?
 |[],j,_=>by simp
 |r::aw,j,h=>by
  have hr:=h r (by simp);by_cases hs:sz=0
  ·subst hs;have:∀x∈r::aw,x=[]:=λx hx=>Zds.1 (h x hx);have h2:(r::aw).flatten=[]:=by
    rw[List.flatten_eq_nil_iff];exact this
   rw[h2];simp[this r (by simp)]
  rw[V9,Zc5];split
  ·rename_i hj;rw[hr]at hj;rw[Nat.div_eq_of_lt hj,Zc0 hj];simp
  ·rename_i hj;rw[hr]at hj;rw[hr,C4 λx hx=>h x (by simp[hx])];obtain⟨i,rfl⟩:∃i,j=i+sz:=⟨j-sz,by omega⟩;rw[ZcR,Nat.add_div_right i (by omega),Nat.add_mod_right];rw[Zbl]
def Fu{k:Nat}(D:List (pP k)):(Go.Sort.flatK sR k D.toArray).toList=((D.map (·.1)).flatten).map (Value.int .i64):=by
 have hl:∀r∈D.map (·.1),r.length=k:=by
  intro r hr;obtain⟨x,_,rfl⟩:=iF.1 hr;exact x.2
 have amZ:(D.map (·.1)).flatten.length=D.length*k:=by
  clear hl;induction D with
  |nil=>simp
  |cons x D ih=>simp only[rW,V9,EN,x.2,ih,Oq,Dw];omega
 apply Zb3;intro j;by_cases hj:j<D.length*k
 ·have DJ:0<k:=by
   cases k with
   |zero=>simp at hj
   |succ k=>omega
  have h1:j/k<D.length:=Nat.div_lt_of_lt_mul (by rwa [Nat.mul_comm]);have h2:j % k<k:=Nat.mod_lt _ DJ;have jJ:j<(Go.Sort.flatK sR k D.toArray).size:=by simpa using hj
  rw[ZbH,C4 hl,ZbH,xi h1];simp only[OA,ZcJ];have h3:=Go.Sort.get_flatK sR k D.toArray j (by simpa using hj);rw[Zb8,ZbR jJ];rw[getElem!_pos _ j jJ]at h3;rw[h3];have h4:D.toArray[j/k]! =D[j/k]:=by rw[getElem!_pos _ _ (by simpa using h1)];simp
  rw[h4];have h5:j % k<(D[j/k]).1.length:=by rw[(D[j/k]).2];exact h2
  unfold sR;rw[getElem!_pos _ _ (by simpa using h5)];simp[h5]
 ·rw[Zbt (by simpa using hj),Zbt (by rw[RB,amZ];omega)]
def HL{k:Nat}(D:List (pP k)):(D.map jN).flatten=((D.map (·.1)).flatten).map tI:=by
 induction D with
 |nil=>rfl
 |cons x D ih=>simp only[rW,V9,ih,Jv];rfl
def Pn{o:Ob}(h:ab r=some o):eY ab r o=ab:=by
 funext k;rw[Po];split
 ·rename_i e;rw[e,h]
 ·rfl
def W9{g:FuncId}{k:Nat}{x y:pP k}{c:Int}(hg: @bb bK.none P g [.agg (jN x),.agg (jN y)] (tI c))(w:World):
  Calls P g (#[.agg (sR x).toArray,.agg (sR y).toArray]++ #[]) w λe w'=>e=.returned (.int .i64 c)/\∃q os',w'=Go.Sort.grow (w.drewN q) os':=by
 rw[ZbW];refine(@bb.ago bK.none Re P g _ _ hg w #[.agg (sR x).toArray,.agg (sR y).toArray] (GW.empty _ _) ?_).mono ?_
 ·show gH w (λ_=>False) [.agg (jN x),.agg (jN y)] [.agg (sR x).toArray,.agg (sR y).toArray];simp only[gH];exact⟨_,_,rfl,⟨_,rfl,xx x.1⟩,_,_,rfl,⟨_,rfl,xx y.1⟩,rfl⟩
 ·rintro e' w' ⟨v,rfl,hb,hv⟩;simp only[bw]at hv;subst hv;exact⟨rfl,Ud hb⟩
def C5{k:Nat}(cf:pP k->pP k->Int)(D:List (pP k)):List (pP k):=D.mergeSort λx y=> !(Go.Proofs.ltOf cf) y x
open Go.Proofs Go.Sort in
def LU{ρ:Go.Shelf.Ren}(Lay:SlLaysF0.n6 P ρ){k:Nat}(hk:0<k)(aE:∀w,(isAgg (ρ.t 24)).run P w=.ok true w)(zE:∀w,(Go.sizeOf (ρ.t 24)).run P w=.ok k w)
  {g:FuncId} {cf:pP k->pP k->Int} (hg:∀x y:pP k, @bb bK.none P g [.agg (jN x),.agg (jN y)] (tI (cf x y))) (hO:Go.Sort.SWO (ltOf cf)) (hT:∀x y,(ltOf cf) x y=false->(ltOf cf) y x=false->x=y)
  (D:List (pP k)) {bP e:Nat} (iy:ab r=some (.bJ bP e k (D.map jN))) (dQ:D.length<4611686018427387904):
  aY P (ρ.f 6) [.bE r bP,.v (.fn (.func g) [])] ab ⟨True,.v (.eE []),eY ab r (.bJ bP e k ((C5 cf D).map jN))⟩:=by
 have eg:∀args w,(callFunc g args).run P w=.ok (.enter g args) w:=by
  obtain⟨fn,h1,h2,h3⟩:= @bb.entry bK.none _ _ _ _ (hg default default);cases hb:fn.body with
  |none=>rw[hb]at h3;cases h3
  |some c=>exact enters_of h1 (by simpa using h2) hb
 refine⟨?_,λbase W M w0 w L cT hRO hr=>?_⟩
 ·obtain⟨nm,hn,hf⟩:=Lay.f6;exact⟨_,hf,by simpa using hn,rfl⟩
 obtain⟨tg,yd⟩:=hr;obtain⟨x,f,zI⟩:∃x f,cT.toList=[x,f]:=by
  match zI:cT.toList,tg with
  |[x,f],_=>exact⟨x,f,rfl⟩
 have am0:cT= #[x,f]:=Array.ext' (by simpa using zI);subst am0;have hx:=yd 0 _ x rfl rfl;have hf:=yd 1 _ f rfl rfl;simp only[aC,bw]at hf;obtain⟨cv,rfl,hcv⟩:=hf;have hcv:cv= #[]:=by
  simp only[bu]at hcv;exact Array.ext' (by simpa using hcv)
 subst hcv;simp only[aC]at hx;obtain⟨_,cJ,e',jI,fz,am1,Pp,Bv⟩:=hx;rw[iy]at am1;cases am1;have Bv:=Bv rfl;subst Bv;obtain⟨jJ,ew,hm,mN⟩:=hRO.ob r _ iy;have xS:(C5 cf D).length=D.length:=List.length_mergeSort ..;rcases mN with⟨LJ,a,ha⟩|⟨g',cap,eV,hv,hp,hh,kw,um,I0,iJ⟩
 ·rw[ha];refine(AnyF.slices_SortFunc_none Lay a 0 _ w).mono ?_;rintro e' w' ⟨rfl,rfl⟩;have hD:D=[]:=by simpa using LJ
  subst hD;have hs:C5 cf []=[]:=by simp[C5]
  rw[hs,Pn iy];exact⟨_,L,rfl,hRO,iH.dc (dJ.refl _ _),by simp[aC,bw,gH]⟩
 ·rw[hv];have hgl:g'<w.heap.size:=(w7.1 hh).1;rw[HL]at iJ;have nY:=Ar iJ;rw[<-Fu]at nY;have ah3:∀j,w.cell? ⟨g',j,none⟩=eV[j]? :=by
   intro j;simp only[World.cell?,hh];rfl
  have hH:HoldsK sR k w g' 0 D.toArray:=by
   intro j hj;refine⟨?_, ?_⟩
   ·rw[KR,ah3];have h1:=congrArg (λl:List Value=>l[j]?) nY;have LW:j<(D.map jN).length*k:=by simpa using hj
    rw[Hv,cG LW,Zb8,Zb8,ZbR hj]at h1;rw[h1,getElem!_pos _ j hj];rfl
   ·simp only[World.frozen?,hh];simp
  have am2:CmpLays P g #[] sR k cf g' 0 D.toArray.size w:=by
   intro m os dk hdk x y;obtain⟨w1,VI⟩:=aW (sortWorldK sR k w g' 0 m dk os);rw[VI];exact W9 (hg x y) w1
  have uu:=AnyQ.slices_SortFunc_total Lay k aE zE sR (λx=>by simp[sR,x.2]) (λx v hv=>by
   simp only[sR,iF]at hv;obtain⟨n,_,rfl⟩:=hv;rfl) cf hO g #[] g' 0 cap D.toArray w eg am2 hH hgl (by simpa using dQ) hT
  rw[show(D.map jN).length=D.toArray.size by simp];refine uu.mono ?_;rintro e' w' ⟨rfl,n,os,rfl⟩;refine⟨_,L,rfl, ?_⟩;obtain⟨S,hS⟩:=aW (C5 cf D);have Ha:(D.toArray.toList.mergeSort λx y=> !(ltOf cf) y x).toArray=S.toArray:=by rw[<-hS];rfl
  rw[Ha];rw[hS]at xS⊢;obtain⟨F,hF⟩:=aW (flatK sR k S.toArray);have hFs:F.size=D.length*k:=by rw[<-hF];simp[xS]
  have hFl:F.toList=((S.map (·.1)).flatten).map (Value.int .i64):=by rw[<-hF];exact Fu S
  have pi:(D.map jN).length*k<=eV.size:=by rw[I0];exact Zbx k kw
  have aya:D.length*k<=eV.size:=by simpa using pi
  have Xa:∀b:Nat,b<w.heap.size->(sortWorldK sR k w g' 0 n S.toArray os).heap[b]? =if b=g' then some (.cells (Go.Sort.putCells id 0 F eV) e (0,0))else w.heap[b]? :=by
   intro b hb;have gn:b<(putRowK sR k (Go.Sort.ahead w n) g' 0 S.toArray).heap.size:=by
    simp[Go.Sort.putRowK,Go.Sort.putRow,Go.Sort.mapBlock,Go.Sort.ahead,hb]
   simp only[sortWorldK,Go.Sort.grow];rw[Zdk gn];simp only[putRowK,Go.Sort.putRow,Go.Sort.mapBlock,Go.Sort.ahead,hF,Array.getElem?_modify];by_cases e1:b=g'
   ·subst e1;rw[cG rfl,cG rfl,hh];rfl
   ·rw[bj (λh=>e1 h.symm),bj e1]
  have ye:w.heap.size<=(sortWorldK sR k w g' 0 n S.toArray os).heap.size:=by
   simp[sortWorldK,Go.Sort.grow,putRowK,Go.Sort.putRow,Go.Sort.mapBlock,Go.Sort.ahead]
  have ip:L.own r (.bJ bP e k (D.map jN))=some g':=by simp[Loc.own,hv,bm,GY.1 hp]
  have qA:∀j,(Go.Sort.putCells id 0 F eV)[j]? =if j<F.size then F[j]? else eV[j]? :=by
   intro j;simp only[Go.Sort.putCells,Array.getElem?_mapIdx];by_cases hj:j<F.size
   ·rw[cG hj,ZbR (show j<eV.size by omega),ZbR hj];simp[hj]
   ·rw[bj hj];cases eV[j]? with
    |none=>rfl
    |some v=>simp;intro h;omega
  have zG:Fr base M w0 (sortWorldK sR k w g' 0 n S.toArray os):=by
   refine hRO.fr.trans ⟨rfl,rfl,rfl,yI hRO.fr.kl hRO.fr.size,ye,λb hb I3=>?_,by simp[sortWorldK,Go.Sort.grow,putRowK,Go.Sort.putRow,Go.Sort.mapBlock,Go.Sort.ahead]⟩;have hbw:b<w.heap.size:=ZbK hb (yI hRO.fr.kl hRO.fr.size);rw[Xa b hbw,bj];rintro rfl;rcases hm b (by simp[hv,bm,GY.1 hp])with h|h
   ·omega
   ·exact I3 h
  have Ub:=cO.put (r:=r) (o':=.bJ bP e k (S.map jN)) (L':=L) hRO zG ye (λ_ _=>⟨rfl,rfl⟩) rfl
   (λb hb cj=>by rw[Xa b hb,bj];rintro rfl;exact cj _ iy ip)
   (λb hb=>.inl ⟨_,iy,hb⟩) (λo' jA vQ=>by rw[iy]at jA;cases jA;exact eK rfl vQ)
   (λcJ e' jI fz h=>by rw[iy]at h;cases h;exact⟨bP,e,k,_,rfl,eF _,λ_=>⟨rfl,rfl,by simp[xS]⟩⟩)
   (λfP=>by
    refine⟨jJ,λx hx=>?_,hm,.inr ⟨g',cap,Go.Sort.putCells id 0 F eV,by rw[hv];simp[xS],hp,by rw[Xa g' hgl,cG rfl],by simpa [xS]using kw,um,by simpa [Go.Sort.putCells]using I0, ?_⟩⟩
    ·obtain⟨y,_,rfl⟩:=iF.1 hx;simp[jN,y.2]
    ·rw[HL];have e1:(Go.Sort.putCells id 0 F eV).toList.take ((S.map jN).length*k)=((S.map (·.1)).flatten).map (Value.int .i64):=by
      rw[<-hFl];apply Zb3;intro j;rw[Hv,RB,xS,Zb8,Zb8,qA,hFs];by_cases hj:j<D.length*k
      ·simp[hj]
      ·rw[bj hj,Array.getElem?_eq_none (by omega)]
     rw[e1];exact xx _)
  rw[show cV ab (some (r,.bJ bP e k (S.map jN)))=eY ab r (.bJ bP e k (S.map jN))from rfl]at Ub;exact⟨Ub.1,Ub.2,by simp[aC,bw,gH]⟩
end
end Go.DM
namespace Go.DM
open Go.RowKit
variable [bK] [d8]
section
variable{P:Program}{nt:Nat}{Γ:pW}{Q:Exit->mK->Prop}{tm:dG}{ob:bF}{aJ low:Nat}{td:List (aK)}
def Xu(P:Program)(Γ:pW)(aJ:Nat)(r:RO)(s:RS)(K:RS->Prop):Prop:=
 (s.ab (nm aJ r)=none/\c8 Γ aJ r s/\K (eB Γ aJ r s))\/
 (∃f args dst af N N' sU,r=⟨.call f args,dst,none,af,none⟩/\uI P f (args.map (·.ev s.tmps)) s.ab N N' sU/\∀val oB,sU val oB->K ⟨dg s.tmps dst val,oB,s.todo⟩)
def Xu.of{r:RO}{s:RS}{K:RS->Prop}(h:s.ab (nm aJ r)=none)(e:fO Γ aJ [r] s K):Xu P Γ aJ r s K:=
 .inl ⟨h,by obtain⟨h1,h2⟩:=jM _ _ _ e;exact⟨h1.1,h2⟩⟩
def Mi(D:Nat->Bool)(i:Nat):Nat->Bool:=λj=>if j=i then true else D j
def aa.awB(aB:ay P Γ)(hm:P.follows .mixedOrders=true){iV:Bool}{rs:cu}{d:DC}(hd:d=.region iV (rs.map bare))(Jp:rs.all (nA nt)=true)(ks:cY)(N':Nat)(I:(Nat->Bool)->RS->Prop)
  (h0:(∀t,aJ<=t->ob t=none)->I (λ_=>false) ⟨tm,ob,td⟩)
  (hs:∀D i r s,rs[i]? =some r->D i=false->(∀e∈r.after,D e=true)->(∀j y,rs[j]? =some y->D j=true->∀e∈y.after,D e=true)->I D s->Xu P Γ aJ r s (I (Mi D i)))
  (he:∀D s,(∀i,i<rs.length->D i=true)->I D s->(∀t,N'<=t->s.ab t=none)/\Q .normal ⟨look (oT ks s.tmps),s.ab,N',low,s.todo⟩)
  (ank:iV=true):aa P nt d Q ⟨tm,ob,aJ,low,td⟩:=by
 subst hd ank;refine⟨λc hc=>?_⟩;obtain⟨id,ops,rfl,pi,aO⟩:=qH hc;have ah7:ga P ops=some (rs.map bare):=pi;obtain⟨dQ,nZ⟩:=mY ah7;simp only[eR,mX,ZcK,Bool.false_or]at aO;obtain⟨⟨eI,LH⟩,Xv⟩:=aO;obtain⟨eG,_⟩:=Fg Xv
 let g:Nat->RO:=λi=>(rs[i]?).getD ⟨.Hr (.yF .undef),none,none,[],none⟩
 have gg:∀i,i<ops.size->rs[i]? =some (g i):=λi hi=>by
  have:i<rs.length:=by omega
  simp[g,this]
 have hgc:∀(i:Nat) (o:Oper),ops[i]? =some o->eP P ops o=some (bare (g i)):=λi o ho=>by
  obtain⟨r,h1,h2⟩:=nZ i o ho;have hi:i<ops.size:=(w7.1 ho).1;rw[gg i hi]at h1;rw[Zca h1];exact h2
 have kO:∀i,i<ops.size->nA nt (g i)=true:=λi hi=>by
  exact HH.1 Jp _ (zK (gg i hi))
 have BP:∀(i:Nat) (listed:Array Bool),i∈Region.ready .any ops listed↔listed.getD i true=false/\i<ops.size/\∀e∈(g i).after,listed.getD e false=true:=by
  intro i listed;rw[mem_ready];constructor
  ·rintro⟨h0,o,ho,h⟩;refine⟨h0,(w7.1 ho).1,λe he=>?_⟩;have h4:(g i).after=_:=(gJ (hgc i o ho)).2.2.2;rw[h4]at he;simp only[iF,Rt]at he;obtain⟨x,⟨hx,hb⟩,rfl⟩:=he;exact h x (by simpa using hx) hb
  ·rintro⟨h0,hi,h⟩;have ho:ops[i]? =some ops[i]:=by simp[hi]
   refine⟨h0,ops[i],ho,λe he hb=>h e.on ?_⟩;have h4:(g i).after=_:=(gJ (hgc i _ ho)).2.2.2;rw[h4];exact iF.2 ⟨e,Rt.2 ⟨by simpa using he,hb⟩,rfl⟩
 have abA:∀i,i<ops.size->∀e∈(g i).after,e<i:=λi hi e he=>eG i (bare (g i)) (by rw[ZbH,gg i hi];rfl) e he;intro n κ VL w L Ae r;have yV:∀t,aJ<=t->ob t=none:=λt ht=>r.fresh t ht;have abB:∀{l:Array Bool} {i j:Nat} {b:Bool},l.size=ops.size->i<ops.size->(l.setIfInBounds i true).getD j b=if j=i then true else l.getD j b:=λ{l i j b} hs hi=>by
  rw[Oy,Zcf,Oy];by_cases e:j=i
  ·subst e;simp[hs,hi]
  ·have:¬i=j:=λh=>e h.symm;simp[e,this]
 have Ov:∀i (hi:i<ops.size),ops[i]? =some ops[i]:=λi hi=>by simp[hi]
 have main:∀(BO:Nat) (l:Array Bool),l.size=ops.size->(rem ops.size l).length=BO->(∀j,j<ops.size->l.getD j false=true->∀e∈(g j).after,l.getD e false=true)->∀(s:RS) (a:Act) (w:World) (L:Loc),I (λj=>l.getD j false) s->fB κ nt s a w L->
   wpAnyIn (jU κ.ro) n P .any ops (λe a w=>∃dL L',Q e dL/\Jw κ nt dL a w L') BO l a w:=by
  intro BO;have bU:∀(l:Array Bool),l.size=ops.size->Region.ready .any ops l=[]->∀(s:RS) (a:Act) (w:World) (L:Loc),I (λj=>l.getD j false) s->fB κ nt s a w L->∃dL L',Q .normal dL/\Jw κ nt dL a w L':=by
   intro l hl hr s a w L hI hR;have eI:∀i,i<ops.size->l.getD i false=true:=by
    intro i;induction i using Nat.strongRecOn with
    |_ i ih=>
     intro hi;cases hv:l.getD i false with
     |true=>rfl
     |false=>
      have:i∈Region.ready .any ops l:=(BP i l).2 ⟨by rw[<-Xp (by omega) false true];exact hv,hi,λe he=>ih e (abA i hi e he) (by have:=abA i hi e he;omega)⟩;rw[hr]at this;cases this
   obtain⟨zG,hQ⟩:=he _ s (λi hi=>eI i (by omega)) hI;obtain⟨L4,R4⟩:=Le.yj (st:=⟨s.tmps,s.ab,N',low,s.todo⟩) (od s.tmps ks) κ nt a w L ⟨hR,zG,r.low,r.it⟩;exact⟨_,L4,hQ,R4⟩
  induction BO with
  |zero=>
   intro l hl aib ba s a w L hI hR;have Xw:Region.ready .any ops l=[]:=by
    cases hr:Region.ready .any ops l with
    |nil=>rfl
    |cons i t=>
     have hi:i∈Region.ready .any ops l:=by rw[hr];simp
     obtain⟨h1,h2,_⟩:=(BP i l).1 hi;have:i∈rem ops.size l:=by unfold rem;rw[Rt];exact⟨IM.2 h2,by rw[h1];rfl⟩
     rw[Zds.1 aib]at this;cases this
   exact⟨Xw,bU l hl Xw s a w L hI hR⟩
  |succ BO ih=>
   intro l hl aib ba s a w L hI hR;refine⟨λhr=>bU l hl hr s a w L hI hR,λi hi=>?_⟩;obtain⟨h1,h2,h3⟩:=(BP i l).1 hi;have Ot:l.getD i false=false:=by rw[Xp (by omega) false true];exact h1
   have hl':(l.setIfInBounds i true).size=ops.size:=by simpa using hl
   have agx:(rem ops.size (l.setIfInBounds i true)).length=BO:=by
    have key:∀m,m<=ops.size->((List.range m).filter λj=> !(l.setIfInBounds i true).getD j true).length+(if i<m then 1 else 0)=((List.range m).filter λj=> !l.getD j true).length:=by
     intro m;induction m with
     |zero=>intro _;simp
     |succ m ihm=>
      intro hm;have:=ihm (by omega);rw[B3,VD,VD,EN,EN];by_cases e:i=m
      ·subst e;have c1:(l.setIfInBounds i true).getD i true=true:=by rw[abB hl h2];simp
       rw[bj (Nat.lt_irrefl i)]at this;rw[cG (Zcg i)];simp only[On,List.filter_nil,c1,h1,ZcK,Bool.not_false,Ou,xd,km,ZcA,Oq];omega
      ·have c1:(l.setIfInBounds i true).getD m true=l.getD m true:=by rw[abB hl h2,bj (λh=>e h.symm)]
       simp only[On,List.filter_nil,c1];obtain⟨X,hX⟩:=aW ((if(!l.getD m true)=true then [m]else []).length);rw[hX];by_cases h:i<m
       ·rw[cG h]at this;rw[cG (by omega)];omega
       ·rw[bj h]at this;rw[bj (by omega)];omega
    have:=key ops.size (eF _);rw[cG h2]at this;unfold rem at aib⊢;omega
   have hD:(λj=>(l.setIfInBounds i true).getD j false)=Mi (λj=>l.getD j false) i:=by
    funext j;rw[abB hl h2];rfl
   have anl:∀j,j<ops.size->(l.setIfInBounds i true).getD j false=true->∀e∈(g j).after,(l.setIfInBounds i true).getD e false=true:=by
    intro j hj hv e he;rw[abB hl h2]at hv⊢;by_cases e1:j=i
    ·subst e1;split
     ·rfl
     ·exact h3 e he
    ·rw[bj e1]at hv;split
     ·rfl
     ·exact ba j hj hv e he
   rcases hs (λj=>l.getD j false) i (g i) s (gg i h2) Ot h3 (λj y hj hv e he=>by
     have hjs:j<ops.size:=by have:=(DA.1 hj).1;omega
     have:y=g j:=by rw[gg j hjs]at hj;exact(Zca hj).symm
     rw[this]at he;exact ba j hjs hv e he) hI with⟨hf,aO,hK⟩|⟨f,args,dst,af,N,N2,sU,hr,abC,hK⟩
   ·refine r9 aB Ae (Ov i h2) (hgc i _ (Ov i h2)) (kO i h2) hR hf aO λa' w' L' hR'=>?_;exact ih _ hl' agx anl _ a' w' L' (by rw[hD];exact hK) hR'
   ·refine Pu Ae (Ov i h2) (by rw[hgc i _ (Ov i h2),hr];rfl) (by rw[<-hr];exact kO i h2) hR abC λa' w' L' val oB hP hR'=>?_;exact ih _ hl' agx anl _ a' w' L' (by rw[hD];exact hK val oB hP) hR'
 have hh:fB κ nt ⟨tm,ob,td⟩ VL {w with drawn:=w.drawn+1} L:=by
  have hb:xQ w.heap.size w {w with drawn:=w.drawn+1}:=⟨⟨rfl,rfl,rfl,eF _,λ_ _=>rfl⟩,Zdy _⟩;obtain⟨W,base,M,w0,dW,h0⟩:=r.r.ex;obtain⟨hO,hA⟩:=cO.grow h0.o hb;obtain⟨Ds,h1,h2,h3,h4⟩:=r.r.defers;exact⟨⟨W,base,M,w0,dW,h0.size,λt=>aC.fP hA _ _ (h0.tmps t),hO⟩,r.r.fP.comp hA (dW.Jl _) dW.sub.2,⟨Ds,h1,h2,λD hD=>⟨hA.dP.VE D (h3 D hD).1,(h3 D hD).2⟩,h4⟩,r.r.bg,r.r.bU⟩
 have zL:∀i b,i<ops.size->(Array.replicate ops.size false).getD i b=false:=λi b hi=>by rw[Oy];simp[hi]
 have hD0:(λj=>(Array.replicate ops.size false).getD j false)=λ_=>false:=by
  funext j;rw[Oy];by_cases h:j<ops.size
  ·simp[h]
  ·simp[h]
 refine wpIn_region_any hm (main ops.size _ (by simp) ?_ (λj hj hv=>?_) _ _ _ _ (by rw[hD0];exact h0 yV) hh)
 ·have:rem ops.size (Array.replicate ops.size false)=List.range ops.size:=by
   unfold rem;rw[List.filter_eq_self];intro i hi;rw[zL i true (IM.1 hi)];rfl
  rw[this,Zcm]
 ·rw[zL j false hj]at hv;cases hv
end
end Go.DM
namespace Go.DM
open Go.RowKit
variable [bK]
section
def Pv(k:bM->bF->gC):Prop:=∀args ab,(k args ab).ok->∀x,ab x=none->(k args ab).ab x=none
abbrev yk(l:Nat)(k:bM->bF->gC)(h:Pv k):d8:=⟨some (l,k),λl' k' e=>by cases e;exact h⟩
structure Pw(P:Program)(f:FuncId)(args:bM)(ab:bF)(k:bM->bF->gC)(aI:bF):Prop where
 entry:E0 P f
 run:∀(l:Nat) (r s:Loop) (base:Nat) (W M:f9) (w0 w:World) (L:Loc) (cT:Array Value),Jk P l r s k base W M w0 ab L w->base<=l->w.heap[l]? =some (.loop r)->cO base W M w0 ab w L->kC w W ab L args cT.toList->
  Calls P f (#[.func (.yield l) #[] #[]]++cT) w λe B=>(∃v,e=.returned v)/\∃L' r',(r'=r\/r'=s)/\cO base W M w0 aI B L'/\iH W ab L (w.putObj l (.loop r')) aI L' B
def Xq(l:Nat)(args:bM)(ab:bF)(N:Nat):mK:=⟨λj=>match j with|0=>.v (.w6 (.func (.yield l) #[] #[]))|j+1=>DI args[j]?,ab,N,N,[[]]⟩
section
variable{P:Program}{nt:Nat}
def aP.okY{f:FuncId}{d:DC}(h:aP P f nt d []){args:bM}{ab aI:bF}{k:bM->bF->gC}(hnm:Pv k){N:Nat}(hN:∀r,N<=r->ab r=none)(dQ:args.length+1<=nt)
  (kk:∀l, @aa _ (yk l k hnm) P nt d (λe st=>(e=.normal\/e=.ret)/\st.ab=aI) (Xq l args ab N)):Pw P f args ab k aI:=by
 have BR:=h.entry;obtain⟨fn,ut,rfl,h3,hr,_⟩:=h;obtain⟨c,hb,hc⟩:=jr.1 h3;refine⟨BR,λl rl sl base W M w0 w L cT hy KX hlp hO DG=>?_⟩
 letI:=yk l k hnm
 have kk:=kk l;have hl:=DG.1;simp only[Rg]at hl;have wx:Jw ⟨W,ab,L,w,base,M,w0,none,none,some (l,rl,sl)⟩ fn.ntmps (Xq l args ab N) {tmps:=(#[.func (.yield l) #[] #[]]++cT)++Array.replicate (fn.ntmps-(#[Value.func (.yield l) #[] #[]]++cT).size) Go.undef,defers:=[]} w L:=by
  refine⟨⟨⟨W,base,M,w0,⟨(λh=>by cases h),rfl,rfl,rfl,rfl⟩,by simp;omega,λj=>?_,hO⟩,
   (by
    show iH W ab L (w.putObj l (.loop rl)) ab L w;rw[World.wn hlp];exact iH.dc (dJ.refl _ _)),⟨[],rfl,Zch,(λ_ h=>by cases h),λ_=>rfl⟩,λ_=>yI hO.fr.kl hO.fr.size,⟨N,hN⟩⟩,hN,hN,λh=>by cases h⟩
  simp only[Xq];cases j with
  |zero=>simp only[aC,bw];exact qJ (by simp)
  |succ j=>
   simp only;cases hk:args[j]? with
   |some x=>
    have hv:∃v,cT.toList[j]? =some v:=by
     have:j<cT.size:=by rw[hl];exact(DA.1 hk).1
     exact⟨cT[j],by simp[this]⟩
    obtain⟨v,hv⟩:=hv;have vm:(#[Value.func (.yield l) #[] #[]]++cT).toList[j+1]? =some v:=by simpa using hv
    simp only[qJ vm,DI];exact DG.2 j x v hk hv
   |none=>
    have zH:(#[Value.func (.yield l) #[] #[]]++cT).size<=j+1:=by
     have:=ZbS.1 hk;simp;omega
    simp only[DI,aC,p6 zH]
 refine callsIn_wide.1 (callsIn_of_wp_marks (n:=0) ut hb trivial ?_);refine wpIn_mono (kk.run c hc 0 _ _ _ _ ⟨λJ hJ=>(by cases hJ),λl' r' s' hY=>(by cases hY;exact⟨KX,hlp,k,rfl,hy⟩),λl hl=>(by cases hl)⟩ wx) ?_;rintro e a' w' ⟨dL,L',⟨he,hq⟩,r'⟩;have done:LeavesInM Fence.wide 0 P fn a'.tmps (λe B=>(∃v,e=.returned v)/\∃L' r',(r'=rl\/r'=sl)/\cO base W M w0 aI B L'/\iH W ab L (w.putObj l (.loop r')) aI L' B) a'.defers .returning w':=by
  obtain⟨Ds,h1,h2,h3,_⟩:=r'.r.defers;rw[h1];refine leaves (κ:=⟨W,ab,L,w,base,M,w0,none,none,some (l,rl,sl)⟩) rfl ?_ Ds a' w' L' r'.r h1 h2 h3;intro a2 w2 L2 h4;obtain⟨W',LN,M',w0',dW,h0⟩:=h4.ex;obtain⟨_,e1,e2,e3,e4⟩:=dW
  replace h0:R0 base W M w0 fn.ntmps dL.tmps dL.ab a2 w2 L2:=by rw[e1,e2,e3,e4]at h0;exact h0
  obtain⟨v,k1,_⟩:=wv (st:=dL) h0 (gQ:=true) (W':=λ_=>False) (λ_ _ _ _ _ _ h=>h) (λ_ h=>h.elim) hr ⟨(trivial:lq true dL []),rfl⟩;have Jz:=h0.o;have vx:iH W ab L (w.putObj l (.loop (match dL.todo with|[]=>sl|_=>rl))) dL.ab L2 w2:=h4.fP;rw[hq]at Jz vx;refine⟨v,k1,⟨v,rfl⟩,L2,_, ?_,Jz,vx⟩;cases dL.todo with
  |nil=>exact .inr rfl
  |cons _ _=>exact .inl rfl
 rcases he with rfl|rfl
 ·exact done
 ·exact done
def FG(f:dG):cY->bM->Nat->DV
 |p::ps,x::xs=>FG (dg f (some p) x) ps xs
 |_,_=>f
def HR{A:World}{W:f9}{ab:bF}{L:Loc}:∀(ps:cY) (x:bM) (cT:List Value) (f:dG) (tm:Array Value),(∀p∈ps,p<nt)->tm.size=nt->x.length=ps.length->kC A W ab L x cT->
  (∀t,aC A W ab L (f t) (tm.getD t Go.undef))->
  ((ps.zip cT).foldl (λt (pv:Nat×Value)=>t.setIfInBounds pv.1 pv.2) tm).size=nt/\∀t,aC A W ab L (FG f ps x t) (((ps.zip cT).foldl (λt (pv:Nat×Value)=>t.setIfInBounds pv.1 pv.2) tm).getD t Go.undef)
 |[],x,cT,f,tm,_,hs,hl,hr,hf=>by
  have:x=[]:=Ln (by simpa using hl);subst this;exact⟨by simpa using hs,by simpa [FG]using hf⟩
 |p::ps,[],cT,f,tm,_,_,hl,_,_=>by simp at hl
 |p::ps,y::x,[],f,tm,_,_,_,hr,_=>by have:=hr.1;simp at this
 |p::ps,y::x,v::kj,f,tm,hp,hs,hl,hr,hf=>by
  simp only[List.zip_cons_cons,CD,FG];refine HR ps x kj _ _ (λq hq=>hp q (VO _ hq)) (by simpa using hs) (by simpa using hl) ⟨by simpa using hr.1,λi d v' h1 h2=>hr.2 (i+1) d v' (by simpa using h1) (by simpa using h2)⟩ λt=>?_;rw[E4 _ _ _ _ (by rw[hs];exact hp p (VN ..))];simp only[dg];by_cases ht:t=p
  ·simp only[ht,km];exact hr.2 0 y v rfl rfl
  ·simp only[ht,xd];exact hf t
def aa.abz [d8]{Q:Exit->mK->Prop}{st:mK}{g:cg}{ps:cY}{aS bS:DC}{f:FuncId}{cA:bM}{k:bM->bF->gC}{bU:bF}(id:Nat)(hit:Pw P f cA st.ab k bU)(BI:0<st.low)
  (hg:g.ev st.tmps=.pf (.func f) cA) (lN:∀r,st.aJ<=r->bU r=none)
  (round:∀args ab N,0<N->(k args ab).ok->yIs (k args ab).val->(∀r,N<=r->ab r=none)->args.length=ps.length/\
   aa P nt aS (λe s1=>e=.normal/\aa P nt bS (λe s2=>((yGo (k args ab).val=true/\e=.normal)\/(yGo (k args ab).val=false/\e=.exit id))/\∃N',Le s2 ⟨λ_=>.undef,(k args ab).ab,N',N,[]⟩) s1) ⟨FG st.tmps ps args,ab,N,N,[]⟩)
  (done:Q .normal ⟨st.tmps,bU,st.aJ,st.low,st.todo⟩) (stop:Q (.exit id) ⟨st.tmps,bU,st.aJ,st.low,st.todo⟩):aa P nt (.IT g ps aS bS) Q st:=by
 refine⟨λc hc=>?_⟩;obtain⟨g',qs,y,z,rfl,hg',rfl,eG,hy,hz⟩:=Pb hc;intro n κ a w L gd r;have hJ:κ.J=none:=by
  cases hj:κ.J with
  |none=>rfl
  |some J=>have:=r.it (by rw[hj];rfl);omega
 obtain⟨W,base,M,w0,dW,h0⟩:=r.r.ex;have E6:=dW;unfold qC.At at E6;simp only[hJ]at E6;obtain⟨htd,rfl,rfl,rfl,rfl⟩:=E6;have hgv:=cg.ch h0.o.gl h0.tmps hg';rw[hg]at hgv;simp only[aC]at hgv;obtain⟨vs,hgv,HF⟩:=hgv;have kw:κ.base<=w.heap.size:=yI h0.o.fr.kl h0.o.fr.size;refine wpIn_rangeFunc ?_;intro fn ut;obtain⟨l,Ds0,W1,rec,BR,vR,hlw,Uo,r1,r2,r3,r4,r5,r6,r7,Af,hDs⟩:=Ue (P:=P) (ro:=κ.ro) (w:=w) (fn:=fn) (tm:=a.tmps) (ps:=qs) (y:=y) (z:=z) (λl hl=>by
  obtain⟨rc,Me⟩:=gd.rd l hl;obtain⟨rc',awr⟩:=qC.Wq st.todo Me;exact⟨rc',r.r.fP.dP.V6 l rc' awr⟩)
 obtain⟨fnE,aws,cj,CX⟩:=hit.entry;have hDl:∀D∈Ds0,D≠l:=λD hD e=>by
  have:=(hDs D hD).1;rw[e,Uo]at this;cases this
 obtain⟨vq,hA1⟩:=cO.grow h0.o vR;have hlb:κ.base<=l:=yI kw hlw;obtain⟨RL,Xr⟩:=aW (({rec with state:=.done,pending:=some (.exit id)}:Loop):Loop);have awt:({rec with state:=.ready,pending:=none}:Loop)=rec:=by cases rec;simp_all
 have Wa:∀x:Loop,¬Obj.plain (.loop x):=λx e=>e;have ah9:Jk P l rec RL k κ.base κ.W κ.M κ.w0 st.ab L W1:=by
  refine⟨λA L' ab args cT aO hyi hfi h5 hAd hO hDA=>?_⟩;obtain⟨N,hN⟩:=hfi;have hN1:∀x,N+1<=x->ab x=none:=λx hx=>hN x (by omega);obtain⟨dQ,hr⟩:=round args ab (N+1) (by omega) aO hyi hN1;have zI:cT.size=rec.params.size:=by
   have:=hDA.1;rw[r5];simpa [dQ]using this
  have LC:=run_yield (P:=P) (args:=cT) h5 zI;rw[r3,r4,r5,r6,r7]at LC;refine⟨_,_,_,_,LC, ?_⟩;have ana:κ.base<=A.heap.size:=yI hO.fr.kl hO.fr.size;have hlA:=(w7.1 h5).1;have g8:∀t,aC A κ.W ab L' (st.tmps t) (a.tmps.getD t Go.undef):=λt=>aC.fP (hA1.comp hAd (λ_ h=>.inl h) (λ_ h=>h)) _ _ (h0.tmps t);have TN:=HR (nt:=nt) qs.toList args cT.toList st.tmps a.tmps eG h0.size dQ hDA g8;rw[<-Pq]at TN
  let κ1:qC:=⟨κ.W,ab,L',A,κ.base,κ.M,κ.w0,none,some l,none⟩
  have anb:κ1.Good P:=⟨λJ hJ=>(by cases hJ),λl r s hY=>(by cases hY),λl' hl'=>by cases hl';exact⟨rec,h5⟩⟩;have awu:Jw κ1 nt ⟨FG st.tmps qs.toList args,ab,N+1,N+1,[]⟩ {tmps:=(qs.zip cT).foldl (λt (p,v)=>t.setIfInBounds p v) a.tmps,defers:=[]} A L':=
   ⟨⟨⟨κ.W,κ.base,κ.M,κ.w0,⟨λ_=>rfl,rfl,rfl,rfl,rfl⟩,TN.1,TN.2,hO⟩,iH.dc (dJ.refl _ _),⟨[],rfl,Zch,(λ_ h=>by cases h),λ_=>rfl⟩,λ_=>ana,⟨N+1,hN1⟩⟩,hN1,hN1,λh=>by cases h⟩
  refine roundIn_of_wpIn trivial ?_;refine wpIn_mono (hr.run y hy 0 κ1 _ A L' anb awu) ?_;rintro e a' w' ⟨s1,L1,⟨rfl,anc⟩,Up⟩;have ane:iH κ.W ab L' A s1.ab L1 w':=Up.r.fP;have yb:w'.heap[l]? =some (.loop rec):=ane.dP.V6 l rec h5;have ayd:=(w7.1 yb).1;refine⟨_,run_beginRound yb r1, ?_⟩
  let busy:Loop:={rec with state:=.busy}
  let κ2:qC:=⟨κ.W,ab,L',A.putObj l (.loop busy),κ.base,κ.M,κ.w0,none,some l,none⟩
  have hsA:(A.putObj l (.loop busy)).heap.size=A.heap.size:=by simp[World.putObj]
  have DT:(w'.putObj l (.loop busy)).heap.size=w'.heap.size:=by simp[World.putObj]
  have gA:(A.putObj l (.loop busy)).heap[l]? =some (.loop busy):=World.putObj_heap_same hlA;have anf:κ2.Good P:=⟨λJ hJ=>(by cases hJ),λl r s hY=>(by cases hY),λl' hl'=>by cases hl';exact⟨busy,gA⟩⟩;have awv:iH κ.W ab L' (A.putObj l (.loop busy)) s1.ab L1 (w'.putObj l (.loop busy)):=iH.D0 (r:=rec) hlA (by rw[World.wn h5];exact ane);have aww:Jw κ2 nt s1 a' (w'.putObj l (.loop busy)) L1:=by
   obtain⟨W2,amG,M2,w02,WQ,h02⟩:=Up.r.ex;obtain⟨e0,e1,e2,e3,e4⟩:=WQ
   replace h02:R0 κ.base κ.W κ.M κ.w0 nt s1.tmps s1.ab a' w' L1:=by rw[e1,e2,e3,e4]at h02;exact h02
   have DF:KeepsC (WW κ.W s1.ab L1) w' (w'.putObj l (.loop busy)):=⟨by rw[DT];exact eF _,λb c e fr hb _=>pN yb (Wa _) b _ trivial hb⟩;obtain⟨Ds,d1,d2,d3,d4⟩:=Up.r.defers;refine⟨⟨⟨κ.W,κ.base,κ.M,κ.w0,⟨e0,rfl,rfl,rfl,rfl⟩,h02.size,λt=>(qE DF (SizeOf.sizeOf (s1.tmps t)+1)).1 (s1.tmps t) _ (Zcg _) (h02.tmps t),wp h02.o yb (Wa _) hlb⟩,awv,⟨Ds,d1,d2,λD hD=>?_,d4⟩,λ_=>by rw[hsA];exact ana,Up.r.bU⟩,Up.fresh,Up.low,λh=>by cases h⟩;have:=d3 D hD;refine⟨?_,by rw[hsA];exact this.2⟩;rw[World.putObj_heap_other (by rintro rfl;rw[yb]at this;cases this.1)];exact this.1
  refine wpIn_mono (anc.run z hz 0 κ2 a' _ L1 anf aww) ?_;rintro e a3 w3 ⟨s3,L3,⟨ang,N',hLe⟩,awx⟩;obtain⟨L4,anh⟩:=hLe κ2 nt a3 w3 L3 awx;have ani:iH κ.W ab L' (A.putObj l (.loop busy)) (k args ab).ab L4 w3:=anh.r.fP;have hl3:w3.heap[l]? =some (.loop busy):=ani.dP.V6 l busy gA;obtain⟨W5,ax3,M5,w05,awy,h05⟩:=anh.r.ex;obtain⟨_,e1,e2,e3,e4⟩:=awy
  replace h05:cO κ.base κ.W κ.M κ.w0 (k args ab).ab w3 L4:=by have:=h05.o;rw[e1,e2,e3,e4]at this;exact this
  have anj:∀rf:Loop,cO κ.base κ.W κ.M κ.w0 (k args ab).ab (w3.putObj l (.loop rf)) L4/\iH κ.W ab L' (A.putObj l (.loop rf)) (k args ab).ab L4 (w3.putObj l (.loop rf)):=
   λrf=>⟨wp h05 hl3 (Wa _) hlb,iH.D0 hlA ani⟩
  rcases ang with⟨Ws,rfl⟩|⟨Ws,rfl⟩
  ·have B2:=run_endRound (P:=P) none hl3;simp only[Option.isNone_none,km]at B2;have Xs:({busy with state:=.ready,pending:=none}:Loop)=rec:=by rw[<-awt]
   rw[Xs]at B2;refine⟨_,_,B2,by rw[Ws],L4, ?_⟩;rw[Ws];exact anj rec
  ·have B2:=run_endRound (P:=P) (some (.exit id)) hl3;simp only[Option.isNone_some,Ou,xd]at B2;have Xs:({busy with state:=.done,pending:=some (.exit id)}:Loop)=RL:=by rw[<-Xr]
   rw[Xs]at B2;refine⟨_,_,B2,by rw[Ws],L4, ?_⟩;rw[Ws];exact anj RL
 refine⟨l,Ds0.map mark,W1,{target:=.fn (.func f) vs,args:= #[.func (.yield l) #[] #[]]},W1,f, #[.func (.yield l) #[] #[]]++vs,W1,BR, ?_,λ_ _=>trivial, ?_,(λh=>by cases h), ?_⟩
 ·simp only[resolve,hgv,Deferred.ofValue];simp[Act.eval]
 ·simp[invoke,callFunc,aws,cj];intro nL;simp[nL]at CX
 ·have aia:kC W1 κ.W st.ab L cA vs.toList:=by
   have h:=CW HF;exact⟨h.1,λi d v h1 h2=>aC.fP hA1 _ _ (h.2 i d v h1 h2)⟩
  refine fD ((hit.run l rec RL κ.base κ.W κ.M κ.w0 W1 L vs ah9 hlb Uo vq aia).mono ?_);rintro e B ⟨⟨v,rfl⟩,L',r',g0,hO',hA'⟩;have hlW:=(w7.1 Uo).1;have hlB:B.heap[l]? =some (.loop r'):=hA'.dP.V6 _ _ (World.putObj_heap_same hlW);have hnb:r'.state≠ .busy:=by
   rcases g0 with rfl|rfl
   ·rw[r1];simp
   ·rw[<-Xr];simp
  have Mf:=run_endLoop (P:=P) hlB hnb;obtain⟨off,DK⟩:=aW (({r' with state:=.exhausted}:Loop):Loop);rw[DK]at Mf;have DF:KeepsC (WW κ.W bU L') B (B.putObj l (.loop off)):=⟨by simp[World.putObj],λb c e fr hb _=>pN hlB (Wa _) b _ trivial hb⟩;have agw:∀x:Loop,iH κ.W st.ab L w st.ab L (W1.putObj l (.loop x)):=λx=>by
   have hbx:xQ w.heap.size w (W1.putObj l (.loop x)):=by
    refine⟨⟨vR.os,vR.tape,vR.output, ?_,λb hb=>?_⟩,vR.drawn⟩
    ·have:=vR.size;simpa [World.putObj]using this
    ·rw[World.putObj_heap_other (by omega)];exact vR.block b hb
   exact(cO.grow h0.o hbx).2
  have vx:iH κ.W st.ab L w bU L' (B.putObj l (.loop off)):=(agw off).comp (iH.D0 hlW hA') (λ_ h=>.inl h) (λ_ h=>h);have hA3:iH κ.W st.ab L w bU L' B:=(agw r').comp hA' (λ_ h=>.inl h) (λ_ h=>h);obtain⟨Ds,d1,d2,d3,d4⟩:=r.r.defers;have hgw:κ.gw.heap.size<=w.heap.size:=by have:=r.r.fP.dP.size;rw[qC.Ad]at this;exact this
  have hR:Jw κ nt ⟨st.tmps,bU,st.aJ,st.low,st.todo⟩ {a with defers:=Ds0.map mark++a.defers} (B.putObj l (.loop off)) L':=by
   refine⟨⟨⟨κ.W,κ.base,κ.M,κ.w0,dW,h0.size,λt=>aC.fP vx _ _ (h0.tmps t),wp hO' hlB (Wa _) hlb⟩,r.r.fP.comp vx (dW.Jl _) dW.sub.2,⟨Ds0++Ds,by rw[Jv,<-d1], ?_,λD hD=>?_,λh=>by rw[hJ]at h;cases h⟩,r.r.bg,⟨st.aJ,lN⟩⟩,lN,r.low,r.it⟩
   ·rw[Zco];refine⟨Af,d2,λD hD D' hD' e=>?_⟩;subst e;have k1:=(hDs D hD).2;have k2:=(w7.1 (d3 D hD').1).1;omega
   ·rcases oJ.1 hD with hD|hD
    ·refine⟨?_,yI hgw (hDs D hD).2⟩;rw[World.putObj_heap_other (hDl D hD)];exact hA'.dP.VE D (by rw[World.putObj_heap_other (hDl D hD)];exact(hDs D hD).1)
    ·exact⟨vx.dP.VE D (d3 D hD).1,(d3 D hD).2⟩
  rcases g0 with rfl|rfl
  ·rw[r2]at Mf;exact⟨none,_,Mf,_,L',done,hR⟩
  ·have:r'.pending=some (.exit id):=by rw[<-Xr]
   rw[this]at Mf;exact⟨some (.exit id),_,Mf,wpIn_exit ⟨_,L',stop,hR⟩⟩
end
end
end Go.DM
namespace Go.DM
open Go.RowKit
section
variable{base nt:Nat}{W M:f9}{w0:World}{st:mK}{rs:List dF}
variable [bK] [d8]{P:Program}
def FH(st:mK)(rs:List dF):bM:=rs.map λr=>(r.pM st).val
def Mg(st:mK)(rs:List dF):DV:=match FH st rs with
 |[x]=>x
 |ds=>.eE ds
def Xt{w:World}{a:Act}{L:Loc}(h:R0 base W M w0 nt st.tmps st.ab a w L){rv:ResultVar}{r:dF}(hr:oK P rv=some r)(aO:(r.pM st).ok):
  ∃v,((match rv with|.tmp t=>pure (a.tmps.getD t Go.undef)|.cell b t=>do loadVar t (<-asAddr (a.tmps.getD b Go.undef))):Sem Value).run P w=.ok v w/\aC w W st.ab L (r.pM st).val v:=by
 cases rv with
 |tmp t=>
  simp only[oK,cI]at hr;subst hr;exact⟨_,rfl,h.tmps t⟩
 |cell b t=>
  simp only[oK]at hr;split at hr
  ·rename_i d i hd hi;simp only[cI]at hr;subst hr;simp only[dF.pM]at aO;obtain⟨hp,v,cw,hv⟩:=yK h.o hd hi (h.tmps b) aO;refine⟨v, ?_,hv⟩;have hpt:∃p,a.tmps.getD b Go.undef=.pointer (some p):=by
    have hx:=h.tmps b;have ho:=aO;cases hq:st.tmps b with
    |ptr r off=>rw[hq]at hx;simp only[aC]at hx;exact⟨_,hx.2⟩
    |nz aw j off=>rw[hq]at hx;simp only[aC]at hx;obtain⟨_,_,_,hx,_⟩:=hx;exact⟨_,hx⟩
    |kP cs off=>rw[hq]at hx;simp only[aC]at hx;obtain⟨_,_,hx,_⟩:=hx;exact⟨_,hx⟩
    |ln r bP j off=>rw[hq]at hx;simp only[aC]at hx;obtain⟨⟨_,_,hx⟩,_⟩:=hx;exact⟨_,hx⟩
    |v t'=>
     rw[hq]at hx ho;cases t' with
     |box cs=>simp only[aC,bw]at hx;obtain⟨_,_,hx,_⟩:=hx;exact⟨_,hx⟩
     |_=>exact ho.elim
    |_=>rw[hq]at ho;exact ho.elim
   obtain⟨p,hp⟩:=hpt;show Sem.run P (do loadVar t (<-asAddr (a.tmps.getD b Go.undef))) w=_;rw[hp]at cw⊢;simpa [Instr.loadAt,Instr.sureAddr,asAddr]using cw
  ·cases hr
def Mh{base:Nat}{W M:f9}{w0 w:World}{nt:Nat}{st:mK}{a:Act}{L:Loc}(h:R0 base W M w0 nt st.tmps st.ab a w L):∀{rvs:List ResultVar} {rs:List dF},rvs.mapM (oK P)=some rs->(∀r∈rs,(r.pM st).ok)->
  ∃vs,(rvs.mapM (λrv=>((match rv with|.tmp t=>pure (a.tmps.getD t Go.undef)|.cell b t=>do loadVar t (<-asAddr (a.tmps.getD b Go.undef))):Sem Value))).run P w=.ok vs w/\fj w W st.ab L (FH st rs) vs
 |[],rs,hr,_=>by simp at hr;subst hr;exact⟨[],by simp,by simp[FH,fj]⟩
 |rv::rvs,rs,hr,aO=>by
  simp only[KS,mF,lp,kb,cI]at hr;obtain⟨r,tg,rs',nR,rfl⟩:=hr;obtain⟨v,h1,h2⟩:=Xt h tg (aO r (by simp));obtain⟨vs,h3,h4⟩:=Mh h nR λx hx=>aO x (by simp[hx]);refine⟨v::vs, ?_, ?_⟩
  ·rw[KS];simp only[Sem.run_bind,h1,Result.andThen_ok,h3,Sem.run_pure]
  ·simp only[FH,rW,fj];exact⟨v,vs,rfl,h2,h4⟩
def fj.length{w:World}{W:f9}{ab:bF}{L:Loc}:∀{ds:bM} {vs:List Value},fj w W ab L ds vs->vs.length=ds.length
 |[],vs,h=>by simp only[fj]at h;subst h;rfl
 |d::ds,vs,h=>by
  simp only[fj]at h;obtain⟨x,kj,rfl,_,h2⟩:=h;simp[fj.length h2]
def JN{w:World}{a:Act}{L:Loc}(h:R0 base W M w0 nt st.tmps st.ab a w L){fn:Func}(hr:fn.results.toList.mapM (oK P)=some rs)(aO:∀r∈rs,(r.pM st).ok):
  ∃v,(results fn a.tmps).run P w=.ok v w/\aC w W st.ab L (Mg st rs) v:=by
 obtain⟨vs,h2,h3⟩:=Mh h hr aO;have hm:(fn.results.mapM (λrv=>((match rv with|.tmp t=>pure (a.tmps.getD t Go.undef)|.cell b t=>do loadVar t (<-asAddr (a.tmps.getD b Go.undef))):Sem Value))).run P w=.ok vs.toArray w:=by
  rw[ZcP];simp only[Sem.run_map,h2,Result.andThen_ok]
 have hl:vs.length=(FH st rs).length:=fj.length h3;refine⟨if h:vs.toArray.size=1 then vs.toArray[0]else .tuple vs.toArray, ?_, ?_⟩
 ·have xR:(results fn a.tmps)=(do
   let vs<-fn.results.mapM (λrv=>((match rv with|.tmp t=>pure (a.tmps.getD t Go.undef)|.cell b t=>do loadVar t (<-asAddr (a.tmps.getD b Go.undef))):Sem Value))
   pure (if h:vs.size=1 then vs[0]else .tuple vs)):=rfl
  rw[xR];simp only[Sem.run_bind,hm,Result.andThen_ok,Sem.run_pure]
 ·unfold Mg;cases Lp:FH st rs with
  |nil=>
   rw[Lp]at hl h3;have:vs=[]:=Ln (by simpa using hl);subst this;simp only[aC];exact⟨#[],by simp,by simp[fj]⟩
  |cons x ds=>
   rw[Lp]at hl h3;cases ds with
   |nil=>
    simp only[fj]at h3;obtain⟨y,kj,rfl,h4,rfl⟩:=h3;simpa using h4
   |cons y ds=>
    have:vs.toArray.size≠1:=by simp at hl⊢;omega
    rw[Zde this];simp only[aC];exact⟨vs.toArray,rfl,by simpa using h3⟩
def awz(rs:List dF)(r:gC):Exit->mK->Prop
 |.normal,st|.ret,st=>(∀x∈rs,(x.pM st).ok)/\Le ⟨look [(0,Mg st rs)],st.ab,st.aJ,st.low,st.todo⟩ ⟨look [(0,r.val)],r.ab,st.aJ,st.low,st.todo⟩
 |_,_=>False
def aP.okD{f:FuncId}{d:DC}(h:aP P f nt d rs){args:bM}{ab:bF}{r:gC}{N:Nat}(hN:∀r,N<=r->ab r=none)(dQ:args.length<=nt)(hnt:0<nt)
  (k:dy ab N->aa P nt d (awz rs r) ⟨look (args.zipIdx.map λp=>(p.2,p.1)),aR [] ab,N,N,[]⟩):aY P f args ab r:=by
 have BR:=h.entry;obtain⟨fn,ut,rfl,h3,hr,_⟩:=h;obtain⟨c,hb,hc⟩:=jr.1 h3;refine⟨BR,λbase W M w0 w L cT hO DG=>?_⟩;have k:=BT (k (B1 hO hN));have hl:=DG.1;simp only[Rg]at hl;have wx:Jw ⟨W,ab,L,w,base,M,w0,none,none,none⟩ fn.ntmps (yi args ab N) {tmps:=cT++Array.replicate (fn.ntmps-cT.size) Go.undef,defers:=[]} w L:=by
  refine⟨⟨⟨W,base,M,w0,⟨λ_=>rfl,rfl,rfl,rfl,rfl⟩,by simp;omega,λk=>?_,hO⟩,
   iH.dc (dJ.refl _ _),⟨[],rfl,Zch,(λ_ h=>by cases h),λ_=>rfl⟩,λ_=>yI hO.fr.kl hO.fr.size,⟨N,hN⟩⟩,hN,hN,λh=>by cases h⟩
  simp only[yi];cases hk:args[k]? with
  |some x=>
   have hv:∃v,cT.toList[k]? =some v:=by
    have:k<cT.size:=by rw[hl];exact(DA.1 hk).1
    exact⟨cT[k],by simp[this]⟩
   obtain⟨v,hv⟩:=hv;simp only[qJ hv,DI];exact DG.2 k x v hk hv
  |none=>
   have zH:cT.size<=k:=by
    have:=ZbS.1 hk;omega
   simp only[DI,aC,p6 zH]
 refine callsIn_wide.1 (callsIn_of_wp_marks (n:=0) ut hb trivial ?_);refine wpIn_mono (k.run c hc 0 _ _ _ _ ⟨λJ hJ=>(by cases hJ),λl r s hY=>(by cases hY),λl hl=>(by cases hl)⟩ wx) ?_;rintro e a' w' ⟨dL,L',q,r'⟩;have done:((∀x∈rs,(x.pM dL).ok)/\Le ⟨look [(0,Mg dL rs)],dL.ab,dL.aJ,dL.low,dL.todo⟩ ⟨look [(0,r.val)],r.ab,dL.aJ,dL.low,dL.todo⟩)->LeavesInM Fence.wide 0 P fn a'.tmps (λe w'=>∃v L',e=.returned v/\cO base W M w0 r.ab w' L'/\iH W ab L w r.ab L' w'/\aC w' W r.ab L' r.val v) a'.defers .returning w':=by
  rintro⟨hq1,Jy⟩;obtain⟨Ds,h1,h2,h3,_⟩:=r'.r.defers;rw[h1];refine leaves (κ:=⟨W,ab,L,w,base,M,w0,none,none,none⟩) rfl ?_ Ds a' w' L' r'.r h1 h2 h3;intro a2 w2 L2 h4;obtain⟨W',LN,M',w0',dW,h0⟩:=h4.ex;obtain⟨v,k1,k2⟩:=JN (st:=dL) h0 hr hq1;have h5:=fB.put h4 dW h0 (some 0) (λd hd=>by cases hd;exact hnt) h0.o (iH.dc (dJ.refl _ _)) k2 h4.bU;have h6:Jw ⟨W,ab,L,w,base,M,w0,none,none,none⟩ fn.ntmps ⟨dg dL.tmps (some 0) (Mg dL rs),dL.ab,dL.aJ,dL.low,dL.todo⟩ (a2.put (some 0) v) w2 L2:=⟨h5,r'.fresh,r'.low,r'.it⟩;obtain⟨L3,h7⟩:=(Le.yj (st:=⟨dg dL.tmps (some 0) (Mg dL rs),dL.ab,dL.aJ,dL.low,dL.todo⟩) (tm:=look [(0,Mg dL rs)]) (λk=>by
   by_cases hk:k=0
   ·subst hk;right;rfl
   ·left;simp[look,hk])) _ _ _ _ _ h6
  obtain⟨L4,h8⟩:=Jy _ _ _ _ _ h7;obtain⟨W'',awA,M'',aye,WQ,h9⟩:=h8.r.ex;obtain⟨_,e1,e2,e3,e4⟩:=WQ;rw[e1,e2,e3,e4]at h9;have hv:=h9.tmps 0;have jJ:0<a2.tmps.size:=by rw[h0.size];exact hnt
  refine⟨v,k1,v,L4,rfl,h9.o,h8.r.fP, ?_⟩;have:(a2.put (some 0) v).tmps.getD 0 Go.undef=v:=by simp[Act.put,jJ]
  rw[this]at hv;simpa [look]using hv
 cases e with
 |normal=>exact done q
 |ret=>exact done q
 |_=>exact q.elim
end
open Go.RowKit Go.ChangeShapes Go.WideShapes
section
variable{sp:Nat->Bool}{held:Bool}{base:Nat}
variable [bK]
def oU(P:Program)(L:List TypeId):Nat->List Field->Nat->Bool
 |o,[],n=>o==n
 |o,f::fs,n=>f.offset==o&&L.contains f.type&&oU P L (o+P.cellsOf f.type) fs n
def xp(P:Program)(L:List TypeId)(t:TypeId):Bool:=
 match P.underlying t with
 |some .bool|some (.int _)|some .string=>true
 |some (.slice e)=>L.contains e&&decide (0<P.cellsOf e)
 |some (.struct fs)=>oU P L 0 fs.toList (P.cellsOf t)
 |some (.array n e)=>L.contains e&&P.cellsOf t==n*P.cellsOf e
 |_=>false
def oV(P:Program)(L:List TypeId):Bool:=L.all (xp P L)
def qL(q:TypeId->aK->Prop):List TypeId->aK->Prop
 |[],ts=>ts=[]
 |t::xT,ts=>∃a b,ts=a++b/\q t a/\qL q xT b
def lg(P:Program):Nat->TypeId->aK->Prop
 |0,_,_=>False
 |n+1,t,ts=>
  match P.underlying t with
  |some .bool=>∃b,ts=[.bool b]
  |some (.int k)=>∃x,ts=[.int k x]/\(Lit.int k x).wf=true
  |some .string=>∃s,ts=[.str s]/\s.size<=maxLen
  |some (.slice e)=>∃aw,ts=[.sl aw]/\aw.length<=maxLen/\∀r∈aw,lg P n e r
  |some (.struct fs)=>qL (lg P n) (fs.toList.map (·.type)) ts
  |some (.array k e)=>qL (lg P n) (List.replicate k e) ts
  |_=>False
def sQ(P:Program)(n:Nat)(t:TypeId)(x:T):Prop:=
 match P.underlying t with
 |some (.struct _)|some (.array _ _)=>∃ts,x=.agg ts/\lg P n t ts
 |_=>lg P n t [x]
def D4(P:Program):List TypeId->aK->Prop
 |[],xs=>xs=[]
 |t::ts,xs=>∃x mL,xs=x::mL/\(∃n,sQ P n t x)/\D4 P ts mL
section
variable{P:Program}{L:List TypeId}
def xq(h:oV P L=true){t:TypeId}(ht:t∈L):xp P L t=true:=HH.1 h t ht
def ym:∀(fs:List Field) (o n:Nat),oU P L o fs n=true->(∀f∈fs,f.type∈L)/\n=o+(fs.map λf=>P.cellsOf f.type).sum/\∀(j:Nat) f,fs[j]? =some f->f.offset=o+((fs.take j).map λf=>P.cellsOf f.type).sum
 |[],o,n,h=>by
  simp only[oU,Zcq]at h;exact⟨λ_ h=>(by cases h),by simp[h],λj f h=>by simp at h⟩
 |f::fs,o,n,h=>by
  simp only[oU,mX,Zcq,Zb9]at h;obtain⟨⟨h1,h2⟩,h3⟩:=h;obtain⟨k1,k2,k3⟩:=ym fs _ n h3;refine⟨λg hg=>?_, ?_,λj g hg=>?_⟩
  ·rcases gm.1 hg with rfl|hg
   ·exact h2
   ·exact k1 g hg
  ·rw[k2];simp;omega
  ·cases j with
   |zero=>simp at hg;subst hg;simp[h1]
   |succ j=>
    have:=k3 j g (by simpa using hg);rw[this];simp;omega
def Pj(h:oV P L=true):Kids P (·∈L):=by
 refine⟨λ{t e} ht hu=>?_,λ{t e} ht hu=>?_,λ{t e n} ht hu=>?_,λ{t fs} ht hu=>?_,λ{t k e} ht hu=>?_⟩;all_goals
  have:=xq h ht;simp only[xp,hu]at this
 ·cases this
 ·simp only[mX,Zb9]at this;exact this.1
 ·simp only[mX,Zb9,Zcq]at this;exact this
 ·obtain⟨k1,k2,k3⟩:=ym _ _ _ this;exact⟨k1,by simpa using k2,λj f hf=>by simpa using k3 j f hf⟩
 ·cases this
def Fl{H:Type}{enc:TypeId×Value->H}{w:World}{n:Nat}{sp:Nat->Bool}{held:Bool}{cs:List Value}
  (ih:∀t cs x,t∈L->DataW.trod enc P w 0 sp held n t cs=some x->∃ts,bu w (λ_=>False) ts cs/\lg P n t ts):
  ∀(fs:List Field) (o N:Nat),oU P L o fs N=true->(∀f∈fs,∃x,DataW.trod enc P w 0 sp held n f.type ((cs.drop f.offset).take (P.cellsOf f.type))=some x)->cs.length=N->
   ∃ts,bu w (λ_=>False) ts (cs.drop o)/\qL (lg P n) (fs.map (·.type)) ts
 |[],o,N,h,_,hl=>by
  simp only[oU,Zcq]at h;exact⟨[],by simp only[bu];rw[ZbG (by omega)],rfl⟩
 |f::fs,o,N,h,hx,hl=>by
  simp only[oU,mX,Zcq,Zb9]at h;obtain⟨⟨h1,h2⟩,h3⟩:=h;obtain⟨x,Pk⟩:=hx f (VN ..);obtain⟨a,ha,hta⟩:=ih _ _ _ h2 Pk;obtain⟨b,hb,htb⟩:=Fl ih fs _ N h3 (λg hg=>hx g (VO _ hg)) hl;refine⟨a++b, ?_,a,b,rfl,hta,htb⟩;have:=bu.append ha hb;rw[h1,<-List.drop_drop,ZbD]at this;exact this
def Rx{H:Type}{enc:TypeId×Value->H}{w:World}{n:Nat}{sp:Nat->Bool}{held:Bool}{cs:List Value}{e:TypeId}(he:e∈L)
  (ih:∀t cs x,t∈L->DataW.trod enc P w 0 sp held n t cs=some x->∃ts,bu w (λ_=>False) ts cs/\lg P n t ts):
  ∀(k i:Nat),(∀j,i<=j->j<i+k->∃x,DataW.trod enc P w 0 sp held n e ((cs.drop (j*P.cellsOf e)).take (P.cellsOf e))=some x)->cs.length=(i+k)*P.cellsOf e->
   ∃ts,bu w (λ_=>False) ts (cs.drop (i*P.cellsOf e))/\qL (lg P n) (List.replicate k e) ts
 |0,i,_,hl=>by
  exact⟨[],by simp only[bu];rw[ZbG (by rw[hl];simp)],rfl⟩
 |k+1,i,hx,hl=>by
  obtain⟨x,Pk⟩:=hx i (eF _) (by omega);obtain⟨a,ha,hta⟩:=ih _ _ _ he Pk;obtain⟨b,hb,htb⟩:=Rx he ih k (i+1) (λj h1 h2=>hx j (by omega) (by omega)) (by rw[hl];congr 1;omega);refine⟨a++b, ?_,a,b,rfl,hta,htb⟩;have:=bu.append ha hb;rw[show(i+1)*P.cellsOf e=i*P.cellsOf e+P.cellsOf e by rw[Dw];omega,<-List.drop_drop,ZbD]at this;exact this
def C2{α:Type}{q:Nat->α->Prop}:∀(n:Nat),(∀i,i<n->∃x,q i x)->∃l:List α,l.length=n/\∀i x,l[i]? =some x->q i x
 |0,_=>⟨[],rfl,λi x h=>by simp at h⟩
 |n+1,h=>by
  obtain⟨l,hl,hq⟩:=C2 n λi hi=>h i (by omega);obtain⟨x,hx⟩:=h n (by omega);refine⟨l++[x],by simp[hl],λi y hy=>?_⟩;by_cases hi:i<l.length
  ·rw[Zbm hi]at hy;exact hq i y hy
  ·rw[Zbk (by omega)]at hy;have:i=n:=by
    have:=(DA.1 hy).1;simp at this;omega
   subst this;simp[hl]at hy;subst hy;exact hx
def xu{w:World}{a:Addr}{n:Nat}{cs:List Value}(h:w.cells? 0 a n=some cs):cs.length=n/\∀j v,cs[j]? =some v->w.cell? (a.add j)=some v:=by
 simp only[World.cells?,KT,km]at h;refine⟨by simpa using mapM_some_length h,λj v hj=>?_⟩;have eG:j<n:=by
  have:=(DA.1 hj).1;have h2:=mapM_some_length h;simp at h2;omega
 have:=mapM_some_get h j j (by simp[eG]);rw[hj]at this;simpa using this.symm
where
 mapM_some_length {α β:Type} {f:α->Option β} {l:List α} {r:List β} (h:l.mapM f=some r):r.length=l.length:=by
  induction l generalizing r with
  |nil=>simp at h;simp[h]
  |cons x l ih=>
   simp only[KS,mF,lp,kb,cI]at h;obtain⟨y,_,ys,rL,rfl⟩:=h;simp[ih rL]
 mapM_some_get {α β:Type} {f:α->Option β} {l:List α} {r:List β} (h:l.mapM f=some r) (i:Nat) (x:α) (hx:l[i]? =some x):r[i]? =f x:=by
  induction l generalizing r i with
  |nil=>simp at hx
  |cons y l ih=>
   simp only[KS,mF,lp,kb,cI]at h;obtain⟨z,hz,ys,rL,rfl⟩:=h;cases i with
   |zero=>simp at hx;subst hx;simp[hz]
   |succ i=>simpa using ih rL i (by simpa using hx)
def Ry{w:World}{a:Addr}{v:Value}(h:w.cell? a=some v):a.block<w.heap.size/\a.spot=none:=by
 unfold World.cell? at h;split at h
 ·rename_i c e f hb;split at h
  ·cases h
  ·rename_i hs;exact⟨(w7.1 hb).1,by simpa using hs⟩
 ·cases h
def add_zero(a:Addr):a.add 0=a:=by simp[Addr.add]
def LO(b o k:Nat):(⟨b,o,none⟩:Addr).add k=⟨b,o+k,none⟩:=by
 unfold Addr.add;by_cases h:k=0<;>simp[h]
def W3{H:Type}{enc:TypeId×Value->H}{w:World}(hL:oV P L=true):∀(n:Nat) (t:TypeId) (cs:List Value) (x:DataW H×List MemPlace),t∈L->
  DataW.trod enc P w 0 sp held n t cs=some x->∃ts,bu w (λ_=>False) ts cs/\lg P n t ts:=by
 intro n;induction n with
 |zero=>intro t cs x _ h;simp[DataW.trod]at h
 |succ n ih=>
  intro t cs x ht h;have hp:=xq hL ht;have one:∀{y:T} {v:Value},v.oneCell'=true->bw w (λ_=>False) y v->bu w (λ_=>False) [y] [v]:=λh1 h2=>by simp only[bu];exact⟨_,_,rfl,h1,h2,rfl⟩
  unfold xp at hp;split at hp
  ·rename_i hu;obtain⟨b,rfl,rfl⟩:∃b,cs=[.bool b]/\x=(.lit (.bool b),[]):=by
    unfold DataW.trod at h;rw[hu]at h;split at h<;>simp_all
   exact⟨[.bool b],one rfl (by simp[bw]),by simp[lg,hu]⟩
  ·rename_i k hu;obtain⟨m,rfl,rfl,hw⟩:=DataW.trod_int hu h;exact⟨[.int k m],one rfl (by simp[bw]),by simp[lg,hu,hw]⟩
  ·rename_i hu;obtain⟨s,rfl,rfl,hs⟩:=DataW.trod_string hu h;exact⟨[.str s],one rfl (by simp[bw]),by simp[lg,hu,hs]⟩
  ·rename_i e hu;simp only[mX,Zb9,sa]at hp;obtain⟨he,G4⟩:=hp;rcases DataW.trod_slice hu h with⟨rfl,rfl⟩|⟨a,len,cap,agp,rest,m,hm,rfl,rfl,_,hlc,um,hel,nZ,_,_⟩
   ·exact⟨[.sl []],one rfl (by simp[bw]),by simp[lg,hu]⟩
   ·obtain rfl:n=m:=by omega
    have iq:∀i,i<len->∃r:aK,(∃x9,w.cells? 0 (a.add (i*P.cellsOf e)) (P.cellsOf e)=some x9/\bu w (λ_=>False) r x9)/\lg P n e r:=by
     intro i hi;have h1:=nZ i hi;have h2:∃y,agp[i]? =some y:=⟨agp[i],xi (by omega)⟩;obtain⟨y,hy⟩:=h2;rw[hy]at h1;obtain⟨x9,h3,h4⟩:=kb.1 h1;obtain⟨ts,h5,h6⟩:=ih e x9 y he h4;exact⟨ts,⟨x9,h3,h5⟩,h6⟩
    obtain⟨aw,dQ,hq⟩:=C2 len iq;refine⟨[.sl aw], ?_, ?_⟩
    ·simp only[bu];refine⟨_,[],rfl,rfl, ?_,rfl⟩;simp only[bw];cases aw with
     |nil=>
      simp at dQ;subst dQ;exact .inl ⟨rfl,_,_,rfl⟩
     |cons r0 aw=>
      right;obtain⟨⟨cs0,h3,h4⟩,_⟩:=hq 0 r0 rfl;obtain⟨h5,h6⟩:=xu h3;have VG:∃v,cs0[0]? =some v:=⟨cs0[0],xi (by omega)⟩;obtain⟨v0,hv0⟩:=VG;have h60:=h6 0 v0 hv0;simp only[Zc3,add_zero]at h60;obtain⟨hb,hs⟩:=Ry h60;obtain⟨b,o,sp'⟩:=a;simp only at hb hs;subst hs;have dW:∀i r,(r0::aw)[i]? =some r->r.length=P.cellsOf e/\eQ w (λ_=>False) b (o+i*P.cellsOf e) r:=by
       intro i r hr;obtain⟨⟨x9,h3,h4⟩,_⟩:=hq i r hr;obtain⟨h5,h6⟩:=xu h3;refine⟨by rw[<-bu.length h4,h5],eQ.uk h4 λj v hj=>?_⟩;have h7:=h6 j v hj;rw[LO,LO]at h7;exact h7
      exact⟨b,o,cap,P.cellsOf e,by rw[dQ],hb,λh=>h,by omega,bL.DU _ _ dW⟩
    ·simp only[lg,hu];refine⟨aw,rfl,by omega,λr hr=>?_⟩;obtain⟨i,hi⟩:=Zcd hr;exact(hq i r hi).2
  ·rename_i fs hu;obtain⟨xs,m,hm,rfl,hl,DE,hf⟩:=DataW.trod_struct hu h;obtain rfl:n=m:=by omega
   obtain⟨ts,h1,h2⟩:=Fl (cs:=cs) ih fs.toList 0 _ hp (λf hfm=>by
    obtain⟨i,hi⟩:=Zcd hfm;have rY:fs[i]? =some f:=by simpa using hi
    have:=hf i f rY;have eG:i<xs.length:=by rw[DE];exact(w7.1 rY).1
    rw[xi eG]at this;exact⟨_,this⟩) hl
   exact⟨ts,by simpa using h1,by simpa [lg,hu]using h2⟩
  ·rename_i k e hu;simp only[mX,Zb9,Zcq]at hp;have key:cs.length=P.cellsOf t/\∀i,i<k->∃y,DataW.trod enc P w 0 sp held n e ((cs.drop (i*P.cellsOf e)).take (P.cellsOf e))=some y:=by
    unfold DataW.trod at h;rw[hu]at h;split at h<;>simp_all
    obtain⟨hl,xs,BE,_⟩:=h;intro i hi;have:=xu.mapM_some_get BE i i (by simp[hi]);have eG:i<xs.length:=by rw[xu.mapM_some_length BE];simp[hi]
    rw[xi eG]at this;exact⟨_,_,this.symm⟩
   obtain⟨ts,h1,h2⟩:=Rx (cs:=cs) hp.1 ih k 0 (λj _ hj=>key.2 j (by omega)) (by rw[key.1,hp.2];simp);exact⟨ts,by simpa using h1,by simpa [lg,hu]using h2⟩
  ·cases hp
def abs{H:Type}{enc:TypeId×Value->H}{w:World}(hL:oV P L=true){t:TypeId}(ht:t∈L){v:Value}(hv:Value.okWide P w .any base t v){d:DataW H}{ps:List MemPlace}
  (h:DataW.Trod enc P w 0 sp held t v d ps):∃x,bw w (λ_=>False) x v/\∃n,sQ P n t x:=by
 obtain⟨n,h⟩:=h;obtain⟨ts,h1,h2⟩:=W3 hL n t _ _ ht h;have hp:=xq hL ht;have JA:(∀cs,v≠ .agg cs)->∃x,ts=[x]/\bw w (λ_=>False) x v:=by
  intro cj;have hc:v.cells.toList=[v]:=by cases v<;>first|rfl|exact eK rfl (cj _)
  rw[hc]at h1;cases ts with
  |nil=>simp only[bu]at h1;cases h1
  |cons x xs=>
   simp only[bu]at h1;obtain⟨_,_,e,_,hr,nR⟩:=h1;simp only[KU]at e;obtain⟨rfl,rfl⟩:=e;have:=bu.length nR;simp at this;have e:xs=[]:=Ln this.symm;exact⟨x,by rw[e],hr⟩
 have agg:(∃cs,v=.agg cs)->∃x,x=T.agg ts/\bw w (λ_=>False) x v:=by
  rintro⟨cs,rfl⟩;exact⟨_,rfl,by simp only[bw];exact⟨cs,rfl,by simpa [Value.cells]using h1⟩⟩
 unfold xp at hp;split at hp
 ·rename_i hu;obtain⟨b,rfl⟩:=okWide_bool hu hv;obtain⟨x,rfl,hr⟩:=JA (λ_ h=>by cases h);exact⟨x,hr,n,by simp only[sQ,hu];exact h2⟩
 ·rename_i k hu;obtain⟨b,rfl⟩:=okWide_int hu hv;obtain⟨x,rfl,hr⟩:=JA (λ_ h=>by cases h);exact⟨x,hr,n,by simp only[sQ,hu];exact h2⟩
 ·rename_i hu;obtain⟨b,rfl⟩:=okWide_string hu hv;obtain⟨x,rfl,hr⟩:=JA (λ_ h=>by cases h);exact⟨x,hr,n,by simp only[sQ,hu];exact h2⟩
 ·rename_i e hu;obtain⟨a,l,c,rfl⟩:=okWide_slice hu hv;obtain⟨x,rfl,hr⟩:=JA (λ_ h=>by cases h);exact⟨x,hr,n,by simp only[sQ,hu];exact h2⟩
 ·rename_i fs hu;obtain⟨cs,rfl,_⟩:=okWide_struct hu hv;obtain⟨x,rfl,hr⟩:=agg ⟨_,rfl⟩;exact⟨_,hr,n,by simp only[sQ,hu];exact⟨_,rfl,h2⟩⟩
 ·rename_i k e hu;have:∃cs,v=.agg cs:=by
   simp only[Value.okWide,hu]at hv;cases v<;>simp_all
  obtain⟨cs,rfl⟩:=this;obtain⟨x,rfl,hr⟩:=agg ⟨_,rfl⟩;exact⟨_,hr,n,by simp only[sQ,hu];exact⟨_,rfl,h2⟩⟩
 ·cases hp
def LP{H:Type}{enc:TypeId×Value->H}{w:World}{sp:Nat->Bool}{held:Bool}(hL:oV P L=true){base:Nat}:∀{xT:List TypeId} {vs:List Value} {ds:List (DataW H)} {ps:List MemPlace},(∀t∈xT,t∈L)->
  (∀(j:Nat) t v,xT[j]? =some t->vs[j]? =some v->Value.okWide P w .any base t v)->DataW.TrodAll enc P w 0 sp held xT vs ds ps->∃xs,gH w (λ_=>False) xs vs/\D4 P xT xs
 |[],vs,ds,ps,_,_,h=>by
  obtain⟨rfl,rfl,rfl⟩:=trodAll_nil h;exact⟨[],by simp[gH],rfl⟩
 |t::xT,vs,ds,ps,ht,hv,h=>by
  obtain⟨v,vs1,d,ds1,a,b,rfl,rfl,rfl,h1,h2⟩:=trodAll_cons h;obtain⟨x,k1,k2⟩:=abs hL (ht t (VN ..)) (hv 0 t v rfl rfl) h1;obtain⟨xs,k3,k4⟩:=LP hL (λu hu=>ht u (VO _ hu)) (λj u y h1 h2=>hv (j+1) u y (by simpa using h1) (by simpa using h2)) h2;exact⟨x::xs,by simp only[gH];exact⟨v,vs1,rfl,k1,k3⟩,x,xs,rfl,k2,k4⟩
def Fm{H:Type}{enc:TypeId×Value->H}{w w':World}{sp':Nat->Bool}{held:Bool}(hL:oV P L=true)(agq:held=true):∀{xT:List TypeId} {vs:List Value} {ds:List (DataW H)} {ps:List MemPlace},(∀t∈xT,t∈L)->
  DataW.TrodAll enc P w 0 (λ_=>true) held xT vs ds ps->(∀p∈ps,w.sameAt w' p)->(∀p∈ps,sp' p.block=true)->DataW.TrodAll enc P w' 0 sp' held xT vs ds ps
 |[],vs,ds,ps,_,h,_,_=>by
  obtain⟨rfl,rfl,rfl⟩:=trodAll_nil h;exact trodAll_mk0
 |t::xT,vs,ds,ps,ht,h,h1,h2=>by
  obtain⟨v,vs1,d,ds1,a,b,rfl,rfl,rfl,⟨n,k1⟩,k2⟩:=trodAll_cons h;refine trodAll_cons_mk ⟨n,DataW.trod_stays (Pj hL) (λ{t e} ht hu=>?_) (λh=>by rw[agq]at h;cases h) (ht t (VN ..)) k1 (λp hp=>h1 p (List.mem_append_left _ hp)) (λp hp=>h2 p (List.mem_append_left _ hp))⟩
   (Fm hL agq (λu hu=>ht u (VO _ hu)) k2 (λp hp=>h1 p (Zck _ hp)) (λp hp=>h2 p (Zck _ hp)))
  have:=xq hL ht;simp only[xp,hu,mX,sa]at this;exact this.2
def LQ{H:Type}{enc:TypeId×Value->H}{w:World}{b:Nat}{sp:Nat->Bool}{held:Bool}:∀{xT:List TypeId} {vs:List Value} {ds:List (DataW H)} {ps:List MemPlace},DataW.TrodAll enc P w b sp held xT vs ds ps->ds.length=xT.length
 |[],vs,ds,ps,h=>by
  obtain⟨rfl,rfl,rfl⟩:=trodAll_nil h;rfl
 |t::xT,vs,ds,ps,h=>by
  obtain⟨v,vs1,d,ds1,a,b,rfl,rfl,rfl,h1,h2⟩:=trodAll_cons h;simp[LQ h2]
def JB{H:Type}{enc:TypeId×Value->H}{W:World}{args:Array Value}{ds gs:List (DataW H)}{cN:List MemPlace}{f:FuncId}{fn:Func}{s:ChangeSpec}{tb:TypeId}{apart fresh handsOn again:Bool}
  (hL:oV P L=true) (An:∀t∈fn.params.toList,t∈L) (Ub:fn.resultTypes= #[tb]) (hb:P.underlying tb=some .bool) (agr:s.vars=[]) (ut:∀ds:List (DataW H),ds.length=fn.params.size->s.fn H ds={results:=[.lit (.bool true)],args:=ds})
  (uu:∀xs,D4 P fn.params.toList xs->bb P f xs (.bool true))
  (dv:∀(j:Nat) t v,fn.params[j]? =some t->args[j]? =some v->Value.okWide P W .any base t v)
  (hW:DataW.Whole enc P fn.params.toList s.vars apart W args.toList ds gs cN) (hg:GW W λ_=>False):
  Calls P f args W λe W'=>∃v,e=.returned v/\s.post enc P fn apart fresh handsOn again W args v W':=by
 have hW':=hW;obtain⟨p,q,hA,hV,rfl,hfz,Af⟩:=hW;rw[agr]at hV;obtain⟨rfl,rfl⟩:=trodVars_none hV;obtain⟨xs,hr,hx⟩:=LP hL An (λj t v h1 h2=>dv j t v (by simpa using h1) (by simpa using h2)) hA;have dQ:ds.length=fn.params.size:=by
  have:=LQ hA;simpa using this
 refine((uu xs hx).ago hg hr).mono ?_;rintro e w' ⟨v,rfl,KX,hv⟩;simp only[bw]at hv;subst hv;have eG:=hW'.lt;have Ac:∀sp:Nat->Bool,(∀x∈p,sp x.block=true)->DataW.TrodAll enc P w' 0 sp true fn.params.toList args.toList ds p:=λsp oz=>
  Fm hL rfl An hA (λx hx=>KX.same (eG x (by simpa using hx))) oz
 have nR:∀(b:Nat) (sp:Nat->Bool) (hd:Bool),DataW.TrodAll enc P w' b sp hd fn.resultTypes.toList ((Value.bool true).resultList fn.resultTypes.size) [.lit (.bool true)] []:=λb sp hd=>by
  rw[Ub];exact trodAll_cons_mk (shut_bool hb _) trodAll_mk0
 have he:s.fn H (ds++[])={results:=[.lit (.bool true)],args:=ds}:=by rw[xP];exact ut ds dQ
 have hv0:∀sp:Nat->Bool,DataW.TrodVars enc P w' sp s.vars [] []:=λsp=>by rw[agr];rfl
 have hev:(s.fn H (ds++[])).vars=[]:=by rw[he]
 refine⟨_,rfl,ds,[],p++[],[],p,[],hW',by rw[he];exact nR _ _ _,by rw[he];exact Ac _ (λx hx=>by simpa using eG x (by simpa using hx)),by rw[hev];exact hv0 _,KX.frame _,λ_=>?_⟩;refine⟨ok_one Ub rfl (okWide_bool_mk hb _),_,_,([]++p)++[],⟨[]++p,[],trodAll_append (Ac _ (λ_ _=>rfl)) (nR _ _ _),hv0 _,rfl, ?_, ?_⟩, ?_⟩
 ·intro b off hp;rw[KX.frozen (eG _ (by simpa using hp))];exact hfz b off (by simpa using hp)
 ·intro ha;simpa using Af ha
 ·intro x hx _;simpa using hx
end
inductive Ty where
 |bool|int (k:IntKind)|str
 |slice (e:Ty)
 |seq (fs:List Ty)
mutual
def Ty.qM:Ty->aK->Prop
 |.bool,ts=>∃b,ts=[.bool b]
 |.int k,ts=>∃x,ts=[.int k x]/\(Lit.int k x).wf=true
 |.str,ts=>∃s,ts=[.str s]/\s.size<=maxLen
 |.slice e,ts=>∃aw,ts=[.sl aw]/\aw.length<=maxLen/\∀r∈aw,e.qM r
 |.seq fs,ts=>Ty.l7 fs ts
def Ty.l7:List Ty->aK->Prop
 |[],ts=>ts=[]
 |t::xT,ts=>∃a b,ts=a++b/\t.qM a/\Ty.l7 xT b
end
def Ty.arg:Ty->T->Prop
 |.seq fs,x=>∃ts,x=.agg ts/\Ty.l7 fs ts
 |ty,x=>ty.qM [x]
def Ty.args:List Ty->aK->Prop
 |[],xs=>xs=[]
 |t::xT,xs=>∃x mL,xs=x::mL/\t.arg x/\Ty.args xT mL
def uB(P:Program):Nat->TypeId->Option Ty
 |0,_=>none
 |n+1,t=>
  match P.underlying t with
  |some .bool=>some .bool
  |some (.int k)=>some (.int k)
  |some .string=>some .str
  |some (.slice e)=>(uB P n e).map .slice
  |some (.struct fs)=>(Ao (uB P n) (fs.toList.map (·.type))).map .seq
  |some (.array k e)=>(uB P n e).map λx=>.seq (List.replicate k x)
  |_=>none
where
 Ao (q:TypeId->Option Ty):List TypeId->Option (List Ty)
 |[]=>some []
 |t::ts=>match q t,Ao q ts with
  |some x,some xs=>some (x::xs)
  |_,_=>none
section
variable{P:Program}
def BS:∀(m n:Nat) (t:TypeId) (ty:Ty) (ts:aK),uB P m t=some ty->lg P n t ts->ty.qM ts:=by
 intro m;induction m with
 |zero=>intro n t ty ts h;simp[uB]at h
 |succ m ih=>
  intro n t ty ts h hs;cases n with
  |zero=>exact hs.elim
  |succ n=>
   unfold uB at h;unfold lg at hs;split at h
   ·rename_i hu;rw[hu]at hs;cases h;simpa [Ty.qM]using hs
   ·rename_i hu;rw[hu]at hs;cases h;simpa [Ty.qM]using hs
   ·rename_i hu;rw[hu]at hs;cases h;simpa [Ty.qM]using hs
   ·rename_i e hu;rw[hu]at hs;obtain⟨x,hx,rfl⟩:=jr.1 h;obtain⟨aw,rfl,h1,h2⟩:=hs;simp only[Ty.qM];exact⟨aw,rfl,h1,λr hr=>ih n e x r hx (h2 r hr)⟩
   ·rename_i fs hu;rw[hu]at hs;obtain⟨x,hx,rfl⟩:=jr.1 h;simp only[Ty.qM];have key:∀(xT:List TypeId) (xs:List Ty) (ts:aK),uB.Ao (uB P m) xT=some xs->qL (lg P n) xT ts->Ty.l7 xs ts:=by
     intro xT;induction xT with
     |nil=>intro xs ts h hs;simp only[uB.Ao,cI]at h;subst h;simpa [Ty.l7,qL]using hs
     |cons u xT ih2=>
      intro xs ts h hs;simp only[uB.Ao]at h;split at h
      ·rename_i y ys hy rL;cases h;simp only[qL]at hs;obtain⟨a,b,rfl,h1,h2⟩:=hs;simp only[Ty.l7];exact⟨a,b,rfl,ih n u y a hy h1,ih2 ys b rL h2⟩
      ·cases h
    exact key _ _ _ hx hs
   ·rename_i k e hu;rw[hu]at hs;obtain⟨x,hx,rfl⟩:=jr.1 h;simp only[Ty.qM];have key:∀(k:Nat) (ts:aK),qL (lg P n) (List.replicate k e) ts->Ty.l7 (List.replicate k x) ts:=by
     intro k;induction k with
     |zero=>intro ts hs;simpa [Ty.l7,qL]using hs
     |succ k ih2=>
      intro ts hs;simp only[OV,qL]at hs;obtain⟨a,b,rfl,h1,h2⟩:=hs;simp only[OV,Ty.l7];exact⟨a,b,rfl,ih n e x a hx h1,ih2 b h2⟩
    exact key k ts hs
   ·cases h
def ah1{m n:Nat}{t:TypeId}{ty:Ty}{x:T}(h:uB P m t=some ty)(hs:sQ P n t x):ty.arg x:=by
 cases m with
 |zero=>simp[uB]at h
 |succ m=>
  have h0:=h;unfold uB at h;unfold sQ at hs;split at h
  ·rename_i hu;rw[hu]at hs;cases h;exact BS _ _ _ _ _ h0 hs
  ·rename_i hu;rw[hu]at hs;cases h;exact BS _ _ _ _ _ h0 hs
  ·rename_i hu;rw[hu]at hs;cases h;exact BS _ _ _ _ _ h0 hs
  ·rename_i e hu;rw[hu]at hs;obtain⟨y,hy,rfl⟩:=jr.1 h;exact BS _ _ _ _ _ h0 hs
  ·rename_i fs hu;rw[hu]at hs;obtain⟨y,hy,rfl⟩:=jr.1 h;obtain⟨ts,rfl,h2⟩:=hs;have:=BS _ _ _ _ _ h0 h2;simp only[Ty.qM]at this;exact⟨ts,rfl,this⟩
  ·rename_i k e hu;rw[hu]at hs;obtain⟨y,hy,rfl⟩:=jr.1 h;obtain⟨ts,rfl,h2⟩:=hs;have:=BS _ _ _ _ _ h0 h2;simp only[Ty.qM]at this;exact⟨ts,rfl,this⟩
  ·cases h
def Rz{m:Nat}:∀{xT:List TypeId} {l:List Ty} {xs:aK},uB.Ao (uB P m) xT=some l->D4 P xT xs->Ty.args l xs
 |[],l,xs,h,hs=>by simp only[uB.Ao,cI]at h;subst h;exact hs
 |t::xT,l,xs,h,hs=>by
  simp only[uB.Ao]at h;split at h
  ·rename_i y ys hy rL;cases h;obtain⟨x,mL,rfl,⟨n,h1⟩,h2⟩:=hs;exact⟨x,mL,rfl,ah1 hy h1,Rz rL h2⟩
  ·cases h
end
end
end Go.DM
namespace Go.Proofs
open Go.DM
noncomputable abbrev aj:=Tryz.prog
instance ass:bK:=⟨[(0,[.int .i64 (1099511627776),.int .i64 (0),.int .i64 (-1),.int .i64 (0)])]⟩
@[irreducible] noncomputable def dX(f k:Nat):cu:=rg1 aj f k
def rgE{f k:Nat}{l:cu}(h:rg1 aj f k=l):dX f k=l:=by unfold dX;exact h
noncomputable abbrev fR{l:DC}(f:Nat)(h:sk1 (dX f) aj f=l:=by conv=>lhs;reduce):DC:=l
def aF{l:cu}(f k:Nat)(h:rg1 aj f k=l:=by conv=>lhs;reduce;dsimp only[Int.ofNat_eq_natCast,Int.cast_ofNat_Int,Int.reduceNegSucc]):dX f k=l:=rgE h
@[simp] noncomputable abbrev l9{l:cu}(sf:cY)(f k:Nat)(h:av3 sf (rg1 aj f k)=l:=by conv=>lhs;reduce;dsimp only[Int.ofNat_eq_natCast,Int.cast_ofNat_Int,Int.reduceNegSucc]):cu:=l
def ast:=aF 29 0
def asu:=aF 29 1
def asv:=aF 29 2
noncomputable def Zo:cu:=l9 [100046] 29 3
def asw:=aF 29 4
def asx:=aF 29 5
def asy:=aF 29 6
noncomputable def Zp:cu:=l9 [47] 29 7
def asA:=aF 29 9
def aju:=aF 29 10
def ajv:=aF 29 11
def ajw:=aF 29 13
def ajx:=aF 29 14
noncomputable def SK:cu:=l9 [49] 29 15
def ajy:=aF 29 16
def ajz:=aF 29 17
def ajA:=aF 29 18
def ajB:=aF 29 19
def ajC:=aF 29 20
def ajD:=aF 29 21
noncomputable def d12:DC:=fR 29
def Zq:List dF:=[.cell 2 3 true]
def c12 [bK]:aP aj 29 82 d12 Zq:=.at
def asB:=aF 47 0
def asC:=aF 47 1
def asD:=aF 47 2
noncomputable def Zr:cu:=l9 [48] 47 3
def asE:=aF 47 4
noncomputable def Zs:cu:=l9 [48] 47 5
noncomputable def Zt:cu:=l9 [74] 47 6
def asF:=aF 47 7
def asG:=aF 47 8
def asH:=aF 47 9
noncomputable def SL:cu:=l9 [100076,75] 47 10
def ajE:=aF 47 11
noncomputable def SN:cu:=l9 [77] 47 12
noncomputable def SO:cu:=l9 [100076,75] 47 13
def ajF:=aF 47 14
noncomputable def SP:cu:=l9 [77] 47 15
noncomputable def SQ:cu:=l9 [75] 47 16
noncomputable def d30:DC:=(.seq (.region false (dX 47 0))
 (.seq (.seq (.region false (dX 47 1))
 (.block 0 (.loop (.seq (.seq (.region false (dX 47 2))
 (.cond (.tmp 21) .skip
 (.exit 0)))
 (.seq (.block 1 (.seq (.region false (dX 47 3))
 (.seq (.seq (.region false (dX 47 4))
 (.cond (.tmp 33) (.seq (.region false (dX 47 5))
 (.region false (dX 47 6)))
 .skip))
 (.seq (.seq (.region false (dX 47 7))
 (.block 2 (.loop (.seq (.region false (dX 47 8))
 (.seq (.cond (.tmp 56) .skip
 (.exit 2))
 (.seq (.block 3 (.seq (.region false (dX 47 9))
 (.region false (dX 47 10))))
 (.region false (dX 47 11))))))))
 (.seq (.region false (dX 47 12))
 (.cond (.tmp 80) (.fG (dX 47 13))
 .skip))))))
 (.region false (dX 47 14)))))))
 (.seq (.region false (dX 47 15))
 (.cond (.tmp 113) (.region false (dX 47 16))
 .skip))))
def Zu:List dF:=[]
def c30 [bK]:aP aj 47 132 d30 Zu:=.at
def asI:=aF 48 0
def asJ:=aF 48 1
def asK:=aF 48 2
def asL:=aF 48 3
def asM:=aF 48 4
def asN:=aF 48 5
def asO:=aF 48 6
def asP:=aF 48 7
def asQ:=aF 48 8
def asR:=aF 48 9
noncomputable def d31:DC:=fR 48
def Zv:List dF:=[.kT 6,.kT 7]
def c31 [bK]:aP aj 48 37 d31 Zv:=.at
def asS:=aF 74 0
def asT:=aF 74 1
def asU:=aF 74 2
def asV:=aF 74 3
noncomputable def Zw:cu:=l9 [100076,75] 74 4
def asW:=aF 74 5
noncomputable def d47:DC:=fR 74
def Zx:List dF:=[]
def c47 [bK]:aP aj 74 48 d47 Zx:=.at
def asX:=aF 75 0
def asY:=aF 75 1
def agZ:=aF 75 2
def asZ:=aF 75 3
def as0:=aF 75 4
noncomputable def d48:DC:=fR 75
def PW:List dF:=[]
def c48 [bK]:aP aj 75 43 d48 PW:=.at
def as1:=aF 76 0
def ag0:=aF 76 1
def as2:=aF 76 2
def ag1:=aF 76 3
noncomputable def d49:DC:=fR 76
def c49 [bK]:aP aj 76 8 d49 (dw 2):=.at
def as3:=aF 77 0
def as4:=aF 77 1
def ag2:=aF 77 2
noncomputable def d50:DC:=fR 77
def c50 [bK]:aP aj 77 41 d50 (dw 4):=.at
def as5:=aF 46 0
def as6:=aF 46 1
def as7:=aF 46 3
def as8:=aF 46 4
def as9:=aF 46 6
def ata:=aF 46 7
def atb:=aF 46 8
def atc:=aF 46 9
def ajG:=aF 46 10
noncomputable def d29:DC:=fR 46
def c29 [bK]:aP aj 46 48 d29 (dw 4):=.at
def atd:=aF 50 0
def ate:=aF 50 1
noncomputable def d33:DC:=fR 50
def c33 [bK]:aP aj 50 22 d33 (dw 4):=.at
def atf:=aF 80 0
def atg:=aF 80 1
def ath:=aF 80 2
def ati:=aF 80 3
def atj:=aF 80 4
def atk:=aF 80 5
def atl:=aF 80 6
def atm:=aF 80 7
def atn:=aF 80 8
noncomputable def d53:DC:=fR 80
def c53 [bK]:aP aj 80 18 d53 (dw 2):=.at
def X3:=aF 81 0
def X4:=aF 81 1
def ato:=aF 81 2
def atp:=aF 81 3
def atq:=aF 81 7
def atr:=aF 81 9
def ajH:=aF 81 10
def ajI:=aF 81 11
def ajJ:=aF 81 12
def ajK:=aF 81 13
noncomputable def d54:DC:=fR 81
def B5:List dF:=[.kT 4]
def c54 [bK]:aP aj 81 20 d54 B5:=.at
def ats:=aF 118 0
def atu:=aF 118 1
noncomputable def d71:DC:=fR 118
def c71 [bK]:aP aj 118 6 d71 (dw 2):=.at
def XO:=aF 73 0
def XP:=aF 73 3
def XQ:=aF 73 4
noncomputable def d46:DC:=fR 73
def uJ:List dF:=[.kT 4,.kT 5]
def c46 [bK]:aP aj 73 30 d46 uJ:=.at
def Yb:=aF 107 0
def HY:=aF 107 1
def Yc:=aF 107 2
def Yd:=aF 107 3
def atv:=aF 107 4
def atw:=aF 107 5
def atx:=aF 107 6
def aty:=aF 107 7
def atz:=aF 107 8
def atA:=aF 107 9
def ajL:=aF 107 10
def ajM:=aF 107 11
noncomputable def d60:DC:=fR 107
def yX:List dF:=[.kT 4,.kT 5]
def c60 [bK]:aP aj 107 51 d60 yX:=.at
def follows:aj.follows .mixedOrders=true:=by kernel_rfl
abbrev fw:=follows
namespace cP
def anm:=aF 97 0
def RN:=aF 97 1
noncomputable def d92:DC:=fR 97
def c92 [bK]:aP aj 97 24 d92 (dw 4):=.at
def ann:=aF 95 0
def ano:=aF 95 1
def anp:=aF 95 2
def anq:=aF 95 3
def anr:=aF 95 4
def ans:=aF 95 5
def ant:=aF 95 6
def anu:=aF 95 7
def anv:=aF 95 8
noncomputable def d69:DC:=fR 95
def Py:List dF:=[.cell 4 2 true]
def c69 [bK]:aP aj 95 37 d69 Py:=.at
def anw:=aF 96 0
def anx:=aF 96 1
def anz:=aF 96 2
def anA:=aF 96 3
def anB:=aF 96 4
def anC:=aF 96 5
def anD:=aF 96 6
noncomputable def d91:DC:=fR 96
def c91 [bK]:aP aj 96 26 d91 (dw 4):=.at
def anE:=aF 61 0
def anF:=aF 61 1
def anG:=aF 61 2
def anH:=aF 61 3
def anI:=aF 61 4
def anJ:=aF 61 5
def anK:=aF 61 6
def anL:=aF 61 7
def anM:=aF 61 8
def anN:=aF 61 9
def aic:=aF 61 10
def aid:=aF 61 11
def aie:=aF 61 12
noncomputable def RP:cu:=l9 [100096] 61 13
def aif:=aF 61 14
def aig:=aF 61 15
def aih:=aF 61 16
def XC:=aF 61 17
def aii:=aF 61 18
def aij:=aF 61 19
def aik:=aF 61 20
def ail:=aF 61 21
def Ea:cu:=[
 a 0 13 82 [],
 l 82 83 [0],
 C .lss 83 1099511627776 84 [1],
 m 84 85 [2],
 u 2 12 86 85 true [3],
 v 86 87 85 true [4,3],
 g (.load 5 true (t 12)) 88 85 true [3],
 w 4 89 85 true [3],
 g (.callF 96 [(t 88),(t 89)]) 90 85 true [6,7,3,3],
 g (.call 95 [(t 87),(t 90)]) 91 85 true [5,8,8,3],
 g (.load 2 true (t 13)) 92 85 true [3],
 g (.eqT false true [(.int .i64),(.int .i64)] (t 91) (t 92)) 93 85 true [9,10,3],
 q 85 93 94 [3,11]]
def aim:=aF 61 23
def XD:=aF 61 24
def ain:=aF 61 25
noncomputable def d66:DC:=fR 61
def XE:List dF:=[.kT 2,.kT 3]
def c66 [bK]:aP aj 61 102 d66 XE:=.at
def anO:=aF 98 0
def anP:=aF 98 1
def anQ:=aF 98 2
def anR:=aF 98 3
def anS:=aF 98 4
def anT:=aF 98 5
def anU:=aF 98 6
noncomputable def d93:DC:=fR 98
def c93 [bK]:aP aj 98 17 d93 (dw 2):=.at
def anV:=aF 62 0
def anW:=aF 62 1
def anX:=aF 62 2
def anY:=aF 62 3
def anZ:=aF 62 4
def an0:=aF 62 5
def an1:=aF 62 6
def an2:=aF 62 7
def agy:=aF 62 8
def agz:=aF 62 9
def aio:=aF 62 10
noncomputable def d67:DC:=fR 62
def XF:List dF:=[.cell 4 2 true]
def c67 [bK]:aP aj 62 46 d67 XF:=.at
def an3:=aF 35 0
def an4:=aF 35 1
def an5:=aF 35 2
def an6:=aF 35 3
def an7:=aF 35 4
def XG:=aF 35 5
def an8:=aF 35 6
def an9:=aF 35 7
def aoa:=aF 35 8
noncomputable def d44:DC:=fR 35
def c44 [bK]:aP aj 35 29 d44 (dw 4):=.at
def XH:=aF 36 0
def Mk:=aF 36 1
def XI:=aF 36 2
def XJ:=aF 36 3
def XK:=aF 36 4
noncomputable def d45:DC:=fR 36
def c45 [bK]:aP aj 36 24 d45 (dw 4):=.at
def aob:=aF 22 0
def XL:=aF 22 1
def aoc:=aF 22 2
def aod:=aF 22 3
def aoe:=aF 22 4
def aof:=aF 22 5
def aog:=aF 22 6
def aoh:=aF 22 7
def aoi:=aF 22 8
def aoj:=aF 22 9
noncomputable def d22:DC:=fR 22
def c22 [bK]:aP aj 22 31 d22 (dw 4):=.at
def aok:=aF 34 0
def Df:=aF 34 1
def aol:=aF 34 2
def aom:=aF 34 3
def aon:=aF 34 4
def aoo:=aF 34 5
def HU:=aF 34 6
def aop:=aF 34 7
def aoq:=aF 34 8
def aor:=aF 34 9
def aip:=aF 34 10
def Pz:=aF 34 11
def aiq:=aF 34 12
def JO:=aF 34 13
def air:=aF 34 14
def JP:=aF 34 15
def ais:=aF 34 16
def FJ:=aF 34 17
def FK:=aF 34 18
def FL:=aF 34 19
def FM:=aF 34 20
def ait:=aF 34 21
noncomputable def d20:DC:=fR 34
def c20 [bK]:aP aj 34 151 d20 (dw 2):=.at
def aos:=aF 92 0
def aot:=aF 92 1
noncomputable def d42:DC:=fR 92
def XM:List dF:=[.cell 0 4 true]
def c42 [bK]:aP aj 92 3 d42 XM:=.at
def aou:=aF 53 0
def aov:=aF 53 1
noncomputable def d23:DC:=fR 53
def c23 [bK]:aP aj 53 12 d23 (dw 4):=.at
def aow:=aF 55 0
def aox:=aF 55 1
def aoy:=aF 55 2
def aoz:=aF 55 3
def aoA:=aF 55 4
def aoB:=aF 55 5
def aoC:=aF 55 6
noncomputable def d25:DC:=fR 55
def c25 [bK]:aP aj 55 28 d25 (dw 8):=.at
def aoD:=aF 130 0
def aoE:=aF 130 1
def aoF:=aF 130 2
def aoG:=aF 130 3
def Ml:dX 130 4=[
 L 2 5 19 [],
 a 0 4 20 [],
 L 2 20 21 [1],
 o (.eqT false true [(.int .i64),(.int .i64)] (t 19) (t 21)) 22 [0,2],
 m 22 23 [3],
 w 2 24 23 true [4],
 u 2 4 25 23 true [4],
 v 25 26 23 true [6,4],
 D .lss 24 26 27 23 true [5,7,4],
 w 27 28 23 true [8,4,4],
 w 2 29 28 false [9],
 u 2 4 30 28 false [9],
 v 30 31 28 false [11,9],
 D .eql 29 31 32 28 false [10,12,9],
 w 32 33 28 false [13,9,9],
 w 3 34 33 true [14],
 u 3 4 35 33 true [14],
 v 35 36 33 true [16,14],
 D .lss 34 36 37 33 true [15,17,14],
 g (.pick (t 33) (t 37) (.yF (.v (.bool false)))) 38 28 false [14,18,9],
 g (.pick (t 28) (.yF (.v (.bool true))) (t 38)) 39 23 true [9,19,4],
 q 23 39 40 [4,20],
 ⟨.Hr (.tmp 40),(some 10),none,[21,14,0,1,2,3,4,5,6,7,8,9,10,11,12,13,14,15,16,17,18,19,20,21],none⟩]:=rgE (by kernel_rfl)
def aoH:=aF 130 5
def aoI:=aF 130 6
def aoJ:=aF 130 7
noncomputable def d68:DC:=fR 130
def JQ:List dF:=[.cell 8 4 true]
def c68 [bK]:aP aj 130 50 d68 JQ:=.at
def aoK:=aF 146 0
def HV:=aF 146 1
def aoL:=aF 146 2
def aoM:=aF 146 3
def aoN:=aF 146 4
def aoO:=aF 146 5
def aoP:=aF 146 6
noncomputable def d19:DC:=fR 146
def JR:List dF:=[.cell 4 4 true]
def c19 [bK]:aP aj 146 59 d19 JR:=.at
def aoQ:=aF 131 0
def XN:=aF 131 1
def aoR:=aF 131 2
def aoS:=aF 131 3
noncomputable def d70:DC:=fR 131
def PA:List dF:=[.cell 10 2 true]
def c70 [bK]:aP aj 131 31 d70 PA:=.at
def XO:=aF 93 0
def aoT:=aF 93 1
def aoU:=aF 93 2
def XP:=aF 93 3
def XQ:=aF 93 4
def aoV:=aF 93 5
def aoW:=aF 93 6
def aoX:=aF 93 7
def aoY:=aF 93 8
def aoZ:=aF 93 9
def JT:=aF 93 10
def aiu:=aF 93 11
def XR:=aF 93 12
def aiv:=aF 93 13
def aiw:=aF 93 14
def aix:=aF 93 15
def aiy:=aF 93 16
def aiz:=aF 93 17
def aiA:=aF 93 18
def aiB:=aF 93 19
def aiC:=aF 93 20
def aiD:=aF 93 21
def FN:=aF 93 22
noncomputable def d46:DC:=fR 93
def uJ:List dF:=[.cell 14 4 true]
def c46 [bK]:aP aj 93 156 d46 uJ:=.at
def ao0:=aF 54 0
def ao1:=aF 54 1
def ao2:=aF 54 2
def ao3:=aF 54 3
def ao4:=aF 54 4
def ao5:=aF 54 5
def ao6:=aF 54 6
def ao7:=aF 54 7
def ao8:=aF 54 8
def ao9:=aF 54 9
def aiE:=aF 54 10
def aiF:=aF 54 11
def aiG:dX 54 12=[
 L 4 15 42 [],
 n 11 43,
 a 3 5 44 [],
 l 44 45 [2],
 n 14 46,
 x 6 45 46 47 [3,4],
 a 1 47 48 [5],
 l 48 49 [6],
 x 4 43 49 50 [1,7],
 L 4 50 51 [8],
 ⟨.eqT true true [(.int .i64),(.int .i64),(.int .i64),(.int .i64)] (.tmp 42) (.tmp 51),(some 52),none,[0,9],none⟩]:=rgE (by kernel_rfl)
def aiH:=aF 54 13
def XS:=aF 54 14
def aiI:=aF 54 15
noncomputable def d24:DC:=fR 54
def c24 [bK]:aP aj 54 63 d24 (dw 10):=.at
def apa:=aF 32 0
def apb:=aF 32 1
def apc:=aF 32 2
def apd:=aF 32 3
def ape:=aF 32 4
def apf:=aF 32 5
noncomputable def XT:cu:=l9 [100054] 32 6
def apg:=aF 32 7
def aph:=aF 32 8
def api:=aF 32 9
def aiJ:=aF 32 10
def aiK:=aF 32 11
def aiL:=aF 32 12
def aiM:=aF 32 13
def aiN:=aF 32 14
noncomputable def d11:DC:=fR 32
def XU:List dF:=[.cell 4 3 true]
def c11 [bK]:aP aj 32 70 d11 XU:=.at
def apj:=aF 151 0
def apk:=aF 151 1
def apl:=aF 151 2
noncomputable def d64:DC:=fR 151
def c64 [bK]:aP aj 151 26 d64 (dw 6):=.at
def XV:=aF 144 0
def Dg:=aF 144 1
def XW:=aF 144 2
def XX:=aF 144 3
def HW:=aF 144 4
def XY:=aF 144 6
def apm:=aF 144 7
def apn:=aF 144 9
noncomputable def d37:DC:=fR 144
def B4:List dF:=[.cell 4 4 true]
def c37:aP aj 144 91 d37 B4:=.at
def apo:=aF 84 0
def RQ:=aF 84 1
noncomputable def d56:DC:=fR 84
def c56 [bK]:aP aj 84 24 d56 (dw 4):=.at
def app:=aF 123 0
def apq:=aF 123 1
def apr:=aF 123 2
def aps:=aF 123 3
def apt:=aF 123 4
def apu:=aF 123 5
def apv:=aF 123 6
def apw:=aF 123 7
def apx:=aF 123 8
def apy:=aF 123 9
def aiO:=aF 123 10
noncomputable def d84:DC:=fR 123
def PB:List dF:=[.cell 4 2 true]
def c84 [bK]:aP aj 123 37 d84 PB:=.at
def apz:=aF 125 0
def HX:=aF 125 1
noncomputable def d86:DC:=fR 125
def c86 [bK]:aP aj 125 31 d86 (dw 4):=.at
def apA:=aF 122 0
def XZ:=aF 122 1
def apB:=aF 122 2
def apC:=aF 122 3
noncomputable def d83:DC:=fR 122
def PC:List dF:=[.cell 8 2 true]
def c83 [bK]:aP aj 122 40 d83 PC:=.at
def agA:=aF 87 0
def agB:=aF 87 1
def agC:=aF 87 2
def apD:=aF 87 3
def X0:=aF 87 4
def apE:=aF 87 5
def apF:=aF 87 6
def agD:=aF 87 7
noncomputable def d59:DC:=fR 87
def c59 [bK]:aP aj 87 30 d59 (dw 4):=.at
def agE:=aF 89 0
def agF:=aF 89 1
def agG:=aF 89 2
def agH:=aF 89 3
def apG:=aF 89 4
noncomputable def X1:cu:=l9 [122] 89 5
def apH:=aF 89 6
def agI:=aF 89 7
noncomputable def d61:DC:=fR 89
def PD:List dF:=[.cell 6 2 true]
def c61 [bK]:aP aj 89 31 d61 PD:=.at
def apI:=aF 128 0
def apJ:=aF 128 1
def apK:=aF 128 2
def apL:=aF 128 3
def X2:=aF 128 4
def apM:=aF 128 5
def apN:=aF 128 6
def apO:=aF 128 7
noncomputable def d89:DC:=fR 128
def c89 [bK]:aP aj 128 41 d89 (dw 4):=.at
def X3:=aF 82 0
def X4:=aF 82 1
noncomputable def d54:DC:=fR 82
def B5:List dF:=[.kT 2]
def c54 [bK]:aP aj 82 7 d54 B5:=.at
def aiP:=aF 150 0
def aiQ:=aF 150 1
def aiR:=aF 150 2
def aiS:=aF 150 3
def X5:=aF 150 4
noncomputable def awC:DC:=(.seq (.region false (dX 150 0))
 (.seq (.fG (dX 150 1))
 (.seq (.seq (.region true (dX 150 2))
 (.cond (.tmp 31) (.seq (.region false (dX 150 3))
 .ret)
 .skip))
 (.seq (.region true (dX 150 4))
 .ret))))
def awD [bK]:aP aj 150 49 awC (dw 6):=.at
def aiT:=aF 145 0
def aiU:=aF 145 1
noncomputable def awE:DC:=fR 145
def RU:List dF:=[]
def awF [bK]:aP aj 145 62 awE RU:=.at
noncomputable def Eb:cu:=l9 [150] 142 0
noncomputable def RW:cu:=l9 [145] 142 1
def aiV:=aF 142 2
noncomputable def awG:DC:=fR 142
def JU:List dF:=[]
def awH [bK]:aP aj 142 23 awG JU:=.at
def aiW:=aF 143 0
def aiX:=aF 143 1
def PE:=aF 143 2
noncomputable def RX:cu:=l9 [150] 143 3
def aiY:=aF 143 4
def aiZ:=aF 143 5
def ai0:=aF 143 6
noncomputable def RY:cu:=l9 [145] 143 7
def ai1:=aF 143 8
noncomputable def awI:DC:=fR 143
def RZ:List dF:=[]
def awJ [bK]:aP aj 143 39 awI RZ:=.at
def apP:=aF 121 0
def apQ:=aF 121 1
def apR:=aF 121 2
def apS:=aF 121 3
def apT:=aF 121 4
noncomputable def X6:cu:=l9 [142] 121 5
def apU:=aF 121 6
noncomputable def d82:DC:=fR 121
def c82 [bK]:aP aj 121 58 d82 (dw 4):=.at
def apV:=aF 124 0
def apW:=aF 124 1
def apX:=aF 124 2
def apY:=aF 124 3
noncomputable def X7:cu:=l9 [145] 124 4
def apZ:=aF 124 5
def ap0:=aF 124 6
noncomputable def X8:cu:=l9 [143] 124 7
def ap1:=aF 124 8
noncomputable def d85:DC:=(.seq (.region false (dX 124 0))
 (.seq (.seq (.region false (dX 124 1))
 (.cond (.tmp 11) (.seq (.region false (dX 124 2))
 .ret)
 .skip))
 (.seq (.fG (dX 124 3))
 (.seq (.region false (dX 124 4))
 (.seq (.region false (dX 124 5))
 (.seq (.region true (dX 124 6))
 (.seq (.region false (dX 124 7))
 (.seq (.region false (dX 124 8))
 .ret))))))))
def PF:List dF:=[.kT 2,.kT 3]
def c85 [bK]:aP aj 124 49 d85 PF:=.at
def ap2:=aF 120 0
def ap3:=aF 120 1
def ap4:=aF 120 2
def ap5:=aF 120 4
def ap6:=aF 120 5
noncomputable def X9:cu:=l9 [142] 120 6
noncomputable def Ya:cu:=l9 [143] 120 7
def ap7:=aF 120 8
noncomputable def d81:DC:=fR 120
def c81 [bK]:aP aj 120 57 d81 (dw 6):=.at
def Yb:=aF 88 0
def HY:=aF 88 1
def Yc:=aF 88 2
def Yd:=aF 88 3
noncomputable def Ye:cu:=l9 [120] 88 4
noncomputable def Yf:cu:=l9 [121] 88 5
noncomputable def d60:DC:=fR 88
def yX:List dF:=[]
def c60 [bK]:aP aj 88 70 d60 yX:=.at
def ai2:=aF 140 0
def ai3:=aF 140 1
def ai4:=aF 140 2
def ai5:=aF 140 3
def ai6:=aF 140 4
def ai7:=aF 140 5
def ai8:=aF 140 6
def ai9:=aF 140 7
noncomputable def awK:DC:=fR 140
def awL [bK]:aP aj 140 26 awK (dw 4):=.at
def aja:=aF 141 0
def ajb:=aF 141 1
def JV:=aF 141 2
noncomputable def awM:DC:=fR 141
def awN [bK]:aP aj 141 38 awM (dw 3):=.at
def ap8:=aF 119 0
noncomputable def Yg:cu:=l9 [140] 119 1
def ap9:=aF 119 2
def R5:=aF 119 3
def aqa:=aF 119 4
def aqb:=aF 119 5
noncomputable def d80:DC:=fR 119
def Yh:List dF:=[.kT 2,.kT 3]
def c80 [bK]:aP aj 119 59 d80 Yh:=.at
def aqc:=aF 85 0
def aqd:=aF 85 1
def aqe:=aF 85 2
def aqf:=aF 85 3
def aqg:=aF 85 4
def aqh:=aF 85 5
noncomputable def Yi:cu:=l9 [119] 85 6
def aqi:=aF 85 7
def aqj:=aF 85 8
def agJ:=aF 85 9
def Yj:=aF 85 10
def ajc:=aF 85 11
def ajd:=aF 85 12
def aje:=aF 85 13
def ajf:=aF 85 14
def ajg:=aF 85 15
def ajh:=aF 85 16
def aji:=aF 85 17
noncomputable def d57:DC:=fR 85
def uK:List dF:=[]
def c57 [bK]:aP aj 85 133 d57 uK:=.at
def aqk:=aF 126 0
def aql:=aF 126 1
noncomputable def Yk:cu:=l9 [85] 126 2
def aqm:=aF 126 3
def aqn:=aF 126 4
def aqo:=aF 126 5
def aqp:=aF 126 6
def aqq:=aF 126 7
noncomputable def d87:DC:=fR 126
def PG:List dF:=[]
def c87 [bK]:aP aj 126 52 d87 PG:=.at
def Yl:=aF 86 0
noncomputable def Ym:cu:=l9 [87] 86 1
noncomputable def Yn:cu:=l9 [89,88] 86 2
def R6:=aF 86 3
noncomputable def d58:DC:=fR 86
def wD:List dF:=[.kT 8]
def c58 [bK]:aP aj 86 21 d58 wD:=.at
def aqr:=aF 127 0
noncomputable def JW:cu:=l9 [87,128] 127 1
noncomputable def Yo:cu:=l9 [89,88] 127 2
def Yp:=aF 127 3
noncomputable def d88:DC:=fR 127
def c88 [bK]:aP aj 127 25 d88 (dw 8):=.at
def aqs:=aF 90 0
noncomputable def JX:cu:=l9 [124] 90 1
def agK:=aF 90 2
def aqt:=aF 90 3
def aqu:=aF 90 4
def aqv:=aF 90 5
def aqw:=aF 90 6
def aqx:=aF 90 7
noncomputable def Yq:cu:=l9 [126] 90 8
def agL:=aF 90 9
noncomputable def d62:DC:=fR 90
def Yr:List dF:=[]
def c62 [bK]:aP aj 90 41 d62 Yr:=.at
def aqy:=aF 129 0
def Ys:cu:=[
 l 3 11 [],
 n 1 12,
 n 2 13,
 o (.callS 89 [(t 11),(t 12),(t 13)]) 14 [0,1,2],
 L 2 4 15 [],
 o (.eqT true true [(.int .i64),(.int .i64)] (t 14) (t 15)) 16 [3,4]]
def aqz:=aF 129 2
def aqA:=aF 129 3
def aqB:=aF 129 4
noncomputable def d90:DC:=fR 129
def c90 [bK]:aP aj 129 21 d90 (dw 10):=.at
def aqC:=aF 91 0
def aqD:=aF 91 1
def aqE:=aF 91 2
def aqF:=aF 91 3
def aqG:=aF 91 4
def aqH:=aF 91 5
def R7:=aF 91 6
noncomputable def Yt:cu:=l9 [85] 91 7
def agM:=aF 91 8
def aqI:=aF 91 9
noncomputable def d63:DC:=fR 91
def Yu:List dF:=[.cell 4 4 true]
def c63:aP aj 91 48 d63 Yu:=.at
def aqJ:=aF 83 0
def aqK:=aF 83 1
noncomputable def d55:DC:=fR 83
def c55 [bK]:aP aj 83 21 d55 (dw 5):=.at
def Yv:=aF 52 0
def Yw:=aF 52 1
def R8:=aF 52 2
def Yx:=aF 52 3
def Yy:=aF 52 4
def Yz:=aF 52 5
def YA:=aF 52 6
def FO:=aF 52 7
def YB:=aF 52 8
def YC:=aF 52 9
def PH:=aF 52 10
def FP:=aF 52 11
noncomputable def R9:cu:=l9 [85] 52 12
def PJ:=aF 52 13
noncomputable def Sa:cu:=l9 [90] 52 14
def PK:=aF 52 15
def PL:=aF 52 16
def PM:=aF 52 17
def PN:=aF 52 18
noncomputable def Sb:cu:=l9 [91] 52 19
def ajj:=aF 52 20
def ajk:=aF 52 21
noncomputable def d35:DC:=fR 52
def FQ:List dF:=[.kT 10]
def c35:aP aj 52 88 d35 FQ:=.at
end cP
end Go.Proofs
namespace Go.Proofs
open Go.DM
def atB:=aF 23 0
def Gj:=aF 23 1
def atC:=aF 23 2
def atD:=aF 23 3
def atE:=aF 23 4
def ag3:=aF 23 5
def atF:=aF 23 6
def atG:=aF 23 7
def atH:=aF 23 8
noncomputable def d28:DC:=fR 23
def c28 [bK]:aP aj 23 57 d28 (dw 4):=.at
def XH:=aF 37 0
def Mk:=aF 37 1
def XI:=aF 37 2
def XJ:=aF 37 3
def XK:=aF 37 4
def atJ:=aF 37 5
def atK:=aF 37 6
noncomputable def d45:DC:=fR 37
def c45 [bK]:aP aj 37 19 d45 (dw 4):=.at
def Yl:=aF 63 0
def Gk:=aF 63 1
def atL:=aF 63 2
def R6:=aF 63 3
def atM:=aF 63 4
def atN:=aF 63 5
def Id:=aF 63 6
def atO:=aF 63 7
def atQ:=aF 63 8
def atR:=aF 63 9
noncomputable def d58:DC:=fR 63
def wD:List dF:=[.kT 4]
def c58 [bK]:aP aj 63 74 d58 wD:=.at
def atS:=aF 94 0
def atT:=aF 94 1
def atU:=aF 94 2
def atV:=aF 94 3
def atW:=aF 94 4
def atX:=aF 94 5
noncomputable def d39:DC:=fR 94
def c39 [bK]:aP aj 94 30 d39 (dw 4):=.at
def atY:=aF 58 0
def SR:=aF 58 1
def atZ:=aF 58 2
def at0:=aF 58 3
noncomputable def d36:DC:=fR 58
def c36 [bK]:aP aj 58 20 d36 (dw 4):=.at
def at2:=aF 33 0
def at3:=aF 33 1
def at4:=aF 33 2
def at5:=aF 33 3
def at6:=aF 33 4
def at7:=aF 33 5
def at8:=aF 33 6
def at9:=aF 33 7
def aua:=aF 33 8
def aub:=aF 33 9
def PX:=aF 33 10
def ajN:=aF 33 11
def ajO:=aF 33 12
def ajP:=aF 33 13
def ajQ:=aF 33 14
def ajR:=aF 33 15
def ajS:=aF 33 16
def ajT:=aF 33 17
def ajU:=aF 33 18
def ajV:=aF 33 19
def ajW:=aF 33 20
def ajX:=aF 33 21
def ajY:=aF 33 22
def ajZ:=aF 33 23
def aj0:=aF 33 24
def aj1:=aF 33 25
def aj2:=aF 33 26
def aj3:=aF 33 27
def aj4:=aF 33 28
def aj5:=aF 33 29
def aj6:=aF 33 30
def aj7:=aF 33 31
def aj8:=aF 33 32
def aj9:=aF 33 33
def aka:=aF 33 34
def akb:=aF 33 35
def akc:=aF 33 36
def akd:=aF 33 37
def ake:=aF 33 38
noncomputable def d14:DC:=fR 33
def Zy:List dF:=[.cell 2 3 true]
def c14 [bK]:aP aj 33 200 d14 Zy:=.at
def auc:=aF 56 0
def aud:=aF 56 1
def aue:=aF 56 2
def auf:=aF 56 3
def aug:=aF 56 4
def auh:=aF 56 5
def aui:=aF 56 6
noncomputable def d34:DC:=fR 56
def c34 [bK]:aP aj 56 24 d34 (dw 6):=.at
def Yv:=aF 57 0
def Yw:=aF 57 1
def R8:=aF 57 2
def Yx:=aF 57 3
def Yy:=aF 57 4
def Yz:=aF 57 5
def YA:=aF 57 6
def FO:=aF 57 7
def YB:=aF 57 8
def YC:=aF 57 9
def PH:=aF 57 10
def FP:=aF 57 11
def akf:=aF 57 12
def PJ:=aF 57 13
def akg:=aF 57 14
def PK:=aF 57 15
def PL:=aF 57 16
def PM:=aF 57 17
def PN:=aF 57 18
noncomputable def d35:DC:=fR 57
def FQ:List dF:=[.kT 4]
def c35 [bK]:aP aj 57 90 d35 FQ:=.at
def XV:=aF 59 0
def Dg:=aF 59 1
def XW:=aF 59 2
def XX:=aF 59 3
def HW:=aF 59 4
def auj:=aF 59 5
def XY:=aF 59 6
noncomputable def d37:DC:=fR 59
def B4:List dF:=[.kT 4]
def c37 [bK]:aP aj 59 20 d37 B4:=.at
def auk:=aF 60 0
def ag4:=aF 60 1
noncomputable def d38:DC:=fR 60
def c38 [bK]:aP aj 60 35 d38 (dw 4):=.at
namespace cP
def abE:=aF 71 0
noncomputable def Mm:cu:=l9 [300026] 71 1
def abF:=aF 71 2
def abG:=aF 71 3
def abH:=aF 71 4
def abI:=aF 71 5
def abJ:=aF 71 6
def abK:=aF 71 7
def abL:=aF 71 8
def abM:=aF 71 9
def YD:=aF 71 10
def YE:=aF 71 11
def YF:=aF 71 12
def YG:=aF 71 13
def YH:=aF 71 14
def YI:=aF 71 15
def YJ:=aF 71 16
def Mn:=aF 71 17
def Mo:=aF 71 18
def YK:=aF 71 19
def YL:=aF 71 20
def YM:=aF 71 21
def YN:=aF 71 22
def Mp:=aF 71 23
noncomputable def HZ:cu:=l9 [102] 71 24
def Mq:=aF 71 25
noncomputable def xA:cu:=l9 [103] 71 26
def Mr:=aF 71 27
def YO:=aF 71 28
noncomputable def H0:cu:=l9 [104] 71 29
def YP:=aF 71 30
def YQ:=aF 71 31
def YR:=aF 71 32
def YS:=aF 71 34
def Ms:=aF 71 35
def YT:=aF 71 36
noncomputable def aqL:DC:=(.seq (.region false (dX 71 0))
 (.seq (.region true (dX 71 1))
 (.seq (.region false (dX 71 2))
 (.seq (.region false (dX 71 3))
 (.seq (.seq (.region false (dX 71 4))
 (.block 0 (.loop (.seq (.region false (dX 71 5))
 (.seq (.cond (.tmp 46) .skip
 (.exit 0))
 (.seq (.block 1 (.seq (.region false (dX 71 6))
 (.seq (.region false (dX 71 7))
 (.region false (dX 71 8)))))
 (.region false (dX 71 9))))))))
 (.seq (.seq (.region false (dX 71 10))
 (.block 2 (.loop (.seq (.region false (dX 71 11))
 (.seq (.cond (.tmp 63) .skip
 (.exit 2))
 (.seq (.block 3 (.seq (.region false (dX 71 12))
 (.seq (.region true (dX 71 13))
 (.seq (.region false (dX 71 14))
 (.block 4 (.loop (.seq (.region false (dX 71 15))
 (.seq (.cond (.tmp 80) .skip
 (.exit 4))
 (.seq (.block 5 (.seq (.region false (dX 71 16))
 (.fG (dX 71 17))))
 (.region false (dX 71 18)))))))))))
 (.region false (dX 71 19))))))))
 (.seq (.seq (.region false (dX 71 20))
 (.block 6 (.loop (.seq (.region false (dX 71 21))
 (.seq (.cond (.tmp 107) .skip
 (.exit 6))
 (.seq (.block 7 (.seq (.region false (dX 71 22))
 (.seq (.region false (dX 71 23))
 (.cond (.tmp 122) (.region false (dX 71 24))
 .skip))))
 (.region false (dX 71 25))))))))
 (.seq (.block 8 (.loop (.block 9 (.seq (.region false (dX 71 26))
 (.seq (.seq (.region false (dX 71 27))
 (.cond (.tmp 136) (.exit 8)
 .skip))
 (.seq (.region true (dX 71 28))
 (.cond (.tmp 145) (.region false (dX 71 29))
 .skip)))))))
 (.seq (.seq (.region false (dX 71 30))
 (.block 10 (.loop (.seq (.region false (dX 71 31))
 (.seq (.cond (.tmp 153) .skip
 (.exit 10))
 (.seq (.block 11 (.seq (.region false (dX 71 32))
 (.seq (.region true (dX 71 33))
 (.cond (.tmp 186) (.region false (dX 71 34))
 .skip))))
 (.region false (dX 71 35))))))))
 (.seq (.region false (dX 71 36))
 .ret))))))))))
def tJ:List dF:=[.kT 2,.kT 3]
def aqM [bK]:aP aj 71 198 aqL tJ:=.at
def abN:=aF 100 0
def abO:=aF 100 1
noncomputable def aqN:DC:=fR 100
def aqO [bK]:aP aj 100 7 aqN (dw 2):=.at
def abP:=aF 101 0
def abQ:=aF 101 1
noncomputable def aqP:DC:=fR 101
def aqQ [bK]:aP aj 101 10 aqP (dw 4):=.at
def abR:=aF 102 0
noncomputable def Mt:cu:=l9 [105] 102 1
def JY:=aF 102 2
noncomputable def Mu:cu:=l9 [132] 102 3
noncomputable def aqR:DC:=fR 102
def FR:List dF:=[]
def aqS [bK]:aP aj 102 40 aqR FR:=.at
def abS:=aF 103 0
def abT:=aF 103 1
def abU:=aF 103 2
def abV:=aF 103 3
noncomputable def Mv:cu:=l9 [133] 103 4
def abW:=aF 103 5
def abX:=aF 103 6
noncomputable def Mw:cu:=l9 [134] 103 7
def abY:=aF 103 8
noncomputable def aqT:DC:=(.seq (.region false (dX 103 0))
 (.seq (.seq (.region false (dX 103 1))
 (.cond (.tmp 11) (.seq (.region false (dX 103 2))
 .ret)
 .skip))
 (.seq (.fG (dX 103 3))
 (.seq (.region false (dX 103 4))
 (.seq (.region false (dX 103 5))
 (.seq (.region true (dX 103 6))
 (.seq (.region false (dX 103 7))
 (.seq (.region false (dX 103 8))
 .ret))))))))
def FT:List dF:=[.cell 2 3 true,.kT 3]
def aqU [bK]:aP aj 103 49 aqT FT:=.at
def abZ:=aF 104 0
def ab0:=aF 104 1
def ab1:=aF 104 2
def ab2:=aF 104 3
def ab3:=aF 104 4
def ab4:=aF 104 5
def ab5:=aF 104 6
noncomputable def Mx:cu:=l9 [102] 104 7
def Sc:=aF 104 8
noncomputable def aqV:DC:=(.seq (.region false (dX 104 0))
 (.seq (.fG (dX 104 1))
 (.seq (.region true (dX 104 2))
 (.block 0 (.loop (.seq (.region false (dX 104 3))
 (.seq (.cond (.tmp 32) .skip
 (.exit 0))
 (.seq (.block 1 (.seq (.region false (dX 104 4))
 (.seq (.region false (dX 104 5))
 (.seq (.region false (dX 104 6))
 (.cond (.tmp 51) (.region false (dX 104 7))
 .skip)))))
 (.region false (dX 104 8))))))))))
def My:List dF:=[]
def aqW [bK]:aP aj 104 56 aqV My:=.at
def Sd:=aF 105 0
def Se:=aF 105 1
def Sf:=aF 105 2
def Sg:=aF 105 3
def Si:=aF 105 4
def Sj:=aF 105 5
def Sk:=aF 105 6
def Sl:=aF 105 7
noncomputable def aqX:DC:=fR 105
def FU:List dF:=[.cell 4 2 true]
def agN [bK]:aP aj 105 35 aqX FU:=.at
def ab6:=aF 132 0
def ab7:=aF 132 1
def ab8:=aF 132 2
def ab9:=aF 132 3
def aca:=aF 132 4
noncomputable def Mz:cu:=l9 [147] 132 5
def acb:=aF 132 6
noncomputable def aqY:DC:=fR 132
def aqZ [bK]:aP aj 132 58 aqY (dw 4):=.at
def acd:=aF 133 0
def ace:=aF 133 1
noncomputable def aq0:DC:=fR 133
def MA:List dF:=[]
def aq1 [bK]:aP aj 133 62 aq0 MA:=.at
def acf:=aF 134 0
def acg:=aF 134 1
def JZ:=aF 134 2
noncomputable def MB:cu:=l9 [148] 134 3
def ach:=aF 134 4
def aci:=aF 134 5
def acj:=aF 134 6
noncomputable def MC:cu:=l9 [133] 134 7
def ack:=aF 134 8
noncomputable def aq2:DC:=fR 134
def MD:List dF:=[]
def aq3 [bK]:aP aj 134 39 aq2 MD:=.at
noncomputable def AI:cu:=l9 [148] 147 0
noncomputable def ME:cu:=l9 [133] 147 1
def acl:=aF 147 2
noncomputable def aq4:DC:=fR 147
def FV:List dF:=[]
def aq5 [bK]:aP aj 147 23 aq4 FV:=.at
def acm:=aF 148 0
def acn:=aF 148 1
def aco:=aF 148 2
def acp:=aF 148 3
def Sm:=aF 148 4
noncomputable def aq6:DC:=(.seq (.region false (dX 148 0))
 (.seq (.fG (dX 148 1))
 (.seq (.seq (.region true (dX 148 2))
 (.cond (.tmp 31) (.seq (.region false (dX 148 3))
 .ret)
 .skip))
 (.seq (.region true (dX 148 4))
 .ret))))
def aq7 [bK]:aP aj 148 49 aq6 (dw 6):=.at
def acq:=aF 26 0
def se:=aF 26 1
def acr:=aF 26 2
def acs:=aF 26 3
noncomputable def aq8:DC:=fR 26
def aq9 [bK]:aP aj 26 44 aq8 (dw 2):=.at
def acu:=aF 27 0
def xB:=aF 27 1
def acv:=aF 27 2
def Sn:=aF 27 3
noncomputable def ara:DC:=fR 27
def arb [bK]:aP aj 27 41 ara (dw 4):=.at
def acw:=aF 28 0
def J1:=aF 28 1
def acx:=aF 28 2
def acy:=aF 28 3
def acz:=aF 28 4
def acA:=aF 28 5
def J2:=aF 28 6
def acB:=aF 28 7
def acC:=aF 28 8
def acD:=aF 28 9
noncomputable def arc:DC:=fR 28
def ard [bK]:aP aj 28 34 arc (dw 4):=.at
def acE:=aF 38 0
def acF:=aF 38 1
noncomputable def are:DC:=fR 38
def arf [bK]:aP aj 38 9 are (dw 4):=.at
def acG:=aF 39 0
def acH:=aF 39 1
noncomputable def arh:DC:=fR 39
def ari [bK]:aP aj 39 8 arh (dw 3):=.at
def acI:=aF 40 0
def acJ:=aF 40 1
def AJ:=aF 40 2
def acK:=aF 40 3
def acL:=aF 40 4
def acM:=aF 40 5
def J3:=aF 40 6
def acN:=aF 40 7
def Ec:=aF 40 8
def acO:=aF 40 9
def FW:=aF 40 10
def YU:=aF 40 11
def FX:=aF 40 12
def YV:=aF 40 13
noncomputable def arj:DC:=fR 40
def ark [bK]:aP aj 40 79 arj (dw 4):=.at
def acP:=aF 41 0
def J4:=aF 41 1
noncomputable def arl:DC:=fR 41
def arm [bK]:aP aj 41 9 arl (dw 2):=.at
def acQ:=aF 42 0
def acR:=aF 42 1
noncomputable def arn:DC:=fR 42
def aro [bK]:aP aj 42 9 arn (dw 4):=.at
def acS:=aF 43 0
def acT:=aF 43 1
noncomputable def arp:DC:=fR 43
def arq [bK]:aP aj 43 6 arp (dw 2):=.at
def acU:=aF 44 0
def acV:=aF 44 1
noncomputable def ars:DC:=fR 44
def art [bK]:aP aj 44 9 ars (dw 4):=.at
def So:=aF 45 0
def Sp:=aF 45 1
def acW:=aF 45 2
def acX:=aF 45 3
def acY:=aF 45 4
noncomputable def aru:DC:=fR 45
def agO [bK]:aP aj 45 19 aru (dw 4):=.at
def acZ:=aF 64 0
def ac0:=aF 64 1
def ac1:=aF 64 2
def ac2:=aF 64 3
def ac3:=aF 64 4
def ac4:=aF 64 5
def ac5:=aF 64 6
def ac6:=aF 64 7
noncomputable def arv:DC:=fR 64
def arw [bK]:aP aj 64 19 arv (dw 4):=.at
def ac7:=aF 65 0
def J5:=aF 65 1
noncomputable def arx:DC:=fR 65
def ary [bK]:aP aj 65 12 arx (dw 3):=.at
def ac8:=aF 66 0
def ac9:=aF 66 1
def ada:=aF 66 2
def adb:=aF 66 3
def adc:=aF 66 4
def ade:=aF 66 5
def adf:=aF 66 6
def adg:=aF 66 7
noncomputable def arz:DC:=fR 66
def arA [bK]:aP aj 66 19 arz (dw 4):=.at
def adh:=aF 67 0
def adi:=aF 67 1
noncomputable def arB:DC:=fR 67
def arC [bK]:aP aj 67 9 arB (dw 4):=.at
def adj:=aF 68 0
def adk:=aF 68 1
noncomputable def arD:DC:=fR 68
def arE [bK]:aP aj 68 8 arD (dw 3):=.at
def adl:=aF 69 0
def xC:=aF 69 1
def adm:=aF 69 2
def adn:=aF 69 3
def ado:=aF 69 4
def adp:=aF 69 5
def AK:=aF 69 6
def adq:=aF 69 7
def adr:=aF 69 8
def ads:=aF 69 9
noncomputable def arF:DC:=fR 69
def arG [bK]:aP aj 69 66 arF (dw 4):=.at
def adt:=aF 70 0
def J6:=aF 70 1
def adu:=aF 70 2
def adw:=aF 70 3
def adx:=aF 70 4
def ady:=aF 70 5
def J7:=aF 70 6
def adz:=aF 70 7
def adA:=aF 70 8
def adB:=aF 70 9
noncomputable def arH:DC:=fR 70
def arI [bK]:aP aj 70 30 arH (dw 4):=.at
def adC:=aF 72 0
def adD:=aF 72 1
def adE:=aF 72 2
def adF:=aF 72 3
def adG:=aF 72 4
def adH:=aF 72 5
def adI:=aF 72 6
def adJ:=aF 72 7
def adK:=aF 72 8
def adL:=aF 72 9
def YW:=aF 72 10
def YX:=aF 72 11
def YY:=aF 72 12
def YZ:=aF 72 13
def Y0:=aF 72 14
def Y1:=aF 72 15
noncomputable def arJ:DC:=fR 72
def MF:List dF:=[.cell 4 2 true]
def arK [bK]:aP aj 72 59 arJ MF:=.at
def adM:=aF 99 0
def adN:=aF 99 1
def adO:=aF 99 2
def adP:=aF 99 3
def adQ:=aF 99 4
def adR:=aF 99 5
def adS:=aF 99 6
def adT:=aF 99 7
noncomputable def arL:DC:=fR 99
def arM [bK]:aP aj 99 19 arL (dw 4):=.at
def adU:=aF 4 0
def adV:=aF 4 1
def adW:=aF 4 3
def adX:=aF 4 4
def Sq:=aF 4 5
def Sr:=aF 4 6
def Ss:=aF 4 7
def adY:=aF 4 8
def adZ:=aF 4 9
def Y2:=aF 4 11
def Y3:=aF 4 12
def Y4:=aF 4 13
noncomputable def H1:cu:=l9 [14] 4 14
def Y5:=aF 4 15
def Y6:=aF 4 16
def Y7:=aF 4 17
noncomputable def H2:cu:=l9 [17] 4 18
noncomputable def H3:cu:=l9 [18] 4 20
def Y8:=aF 4 22
noncomputable def xD:cu:=l9 [19] 4 23
def MG:=aF 4 24
def MH:=aF 4 25
noncomputable def arN:DC:=fR 4
def arO [bK]:aP aj 4 104 arN (dw 6):=.at
def ad0:=aF 8 0
def ad1:=aF 8 1
def ad2:=aF 8 2
def ad3:=aF 8 3
noncomputable def MI:cu:=l9 [17] 8 5
noncomputable def MJ:cu:=l9 [19] 8 6
noncomputable def MK:cu:=l9 [18] 8 7
noncomputable def ML:cu:=l9 [17] 8 8
noncomputable def MM:cu:=l9 [19] 8 9
def Y9:dX 8 10=[
 n 4 36,
 C .eql 36 4 37 [0],
 m 37 38 [1],
 w 6 39 38 true [2],
 E .eql 39 15 40 38 true [3,2],
 q 38 40 41 [2,4],
 m 41 42 [5,2],
 w 7 43 42 true [6],
 E .eql 43 2 44 42 true [7,6],
 q 42 44 45 [6,8],
 m 45 46 [9,6],
 w 8 47 46 true [10],
 E .eql 47 2 48 46 true [11,10],
 q 46 48 49 [10,12],
 m 49 50 [13,10],
 w 10 51 50 true [14],
 E .eql 51 0 52 50 true [15,14],
 q 50 52 53 [14,16],
 m 53 54 [17,14],
 u 1 9 55 54 true [18],
 v 55 56 54 true [19,18],
 E .eql 56 3 57 54 true [20,18],
 q 54 57 58 [18,21],
 m 58 59 [22,18],
 u 2 9 60 59 true [23],
 v 60 61 59 true [24,23],
 H 61 62 59 true [25,23],
 E .eql 62 6 63 59 true [26,23],
 q 59 63 64 [23,27],
 m 64 65 [28,23],
 u 2 9 66 65 true [29],
 v 66 67 65 true [30,29],
 g (.idxAddr 4 (t 67) (i 2)) 68 65 true [31,29],
 u 0 68 69 65 true [32,29],
 g (.load 2 true (t 69)) 70 65 true [33,29],
 g (.build [V 0,V 0] [(0,1,(i 2)),(1,1,(i 1))]) 71 65 true [29],
 g (.eqT false true [(.int .i64),(.int .i64)] (t 70) (t 71)) 72 65 true [34,35,29],
 q 65 72 73 [29,36],
 ⟨.Hr (.tmp 73),(some 0),none,[37,29,0,1,2,3,4,5,6,7,8,9,10,11,12,13,14,15,16,17,18,19,20,21,22,23,24,25,26,27,28,29,30,31,32,33,34,35,36,37],none⟩]:=rgE (by kernel_rfl)
noncomputable def arP:DC:=fR 8
def arQ [bK]:aP aj 8 74 arP (dw 0):=.at
def ad4:=aF 9 0
def St:=aF 9 1
def ad5:=aF 9 2
def ad6:=aF 9 3
def ad7:=aF 9 4
noncomputable def arR:DC:=fR 9
def FY:List dF:=[.cell 4 10 true,.kT 5]
def arS [bK]:aP aj 9 33 arR FY:=.at
def ad8:=aF 10 0
def AL:=aF 10 1
noncomputable def arT:DC:=fR 10
def arU [bK]:aP aj 10 24 arT (dw 4):=.at
def Su:=aF 12 0
def Ed:=aF 12 1
def ad9:=aF 12 2
def aea:=aF 12 3
def aeb:=aF 12 4
def aec:=aF 12 5
noncomputable def arV:DC:=fR 12
def agP [bK]:aP aj 12 48 arV (dw 4):=.at
def aed:=aF 13 0
def aee:=aF 13 1
def aef:=aF 13 3
def aeg:=aF 13 4
def aeh:dX 13 5=[
 a 2 2 34 [],
 l 34 35 [0],
 n 5 36,
 x 4 35 36 37 [1,2],
 L 4 37 38 [3],
 a 2 3 39 [],
 l 39 40 [5],
 n 5 41,
 x 4 40 41 42 [6,7],
 L 4 42 43 [8],
 ⟨.eqT true true [(.int .i64),(.int .i64),(.int .i64),(.int .i64)] (.tmp 38) (.tmp 43),(some 44),none,[4,9],none⟩]:=rgE (by kernel_rfl)
def aei:=aF 13 7
def aej:=aF 13 8
noncomputable def arW:DC:=fR 13
def arX [bK]:aP aj 13 45 arW (dw 4):=.at
def aek:=aF 14 0
def ael:=aF 14 1
noncomputable def arY:DC:=fR 14
def FZ:List dF:=[]
def arZ [bK]:aP aj 14 14 arY FZ:=.at
def aem:=aF 15 0
def J8:=aF 15 1
def aen:=aF 15 2
noncomputable def ar0:DC:=fR 15
def MN:List dF:=[.cell 2 10 true]
def ar1 [bK]:aP aj 15 14 ar0 MN:=.at
def aeo:=aF 16 0
def Sv:=aF 16 1
def aep:=aF 16 2
def aeq:=aF 16 3
def aer:=aF 16 4
def aes:=aF 16 5
noncomputable def ar2:DC:=fR 16
def F0:List dF:=[.cell 4 10 true,.kT 5]
def ar3 [bK]:aP aj 16 28 ar2 F0:=.at
def Sw:=aF 17 0
def J9:=aF 17 1
def aet:=aF 17 2
def aeu:=aF 17 3
def aev:=aF 17 4
def aew:=aF 17 5
def aex:=aF 17 6
noncomputable def MO:cu:=l9 [31] 17 7
def aey:=aF 17 8
def aez:=aF 17 9
def Za:=aF 17 10
noncomputable def ar4:DC:=fR 17
def agQ [bK]:aP aj 17 34 ar4 (dw 4):=.at
def aeA:=aF 18 0
def aeB:=aF 18 1
def aeC:=aF 18 3
noncomputable def ar5:DC:=fR 18
def ar6 [bK]:aP aj 18 9 ar5 (dw 2):=.at
def Sx:=aF 19 0
def Sy:=aF 19 1
def Sz:=aF 19 3
def aeD:=aF 19 4
def SA:=aF 19 5
def aeE:=aF 19 6
def aeF:=aF 19 7
noncomputable def ar7:DC:=fR 19
def wE:List dF:=[.cell 2 3 true,.kT 3]
def agR [bK]:aP aj 19 25 ar7 wE:=.at
def aeG:=aF 20 0
def aeH:=aF 20 1
def aeI:=aF 20 2
def aeJ:=aF 20 3
def aeK:=aF 20 4
def aeL:=aF 20 5
noncomputable def ar8:DC:=fR 20
def AM:List dF:=[.cell 2 3 true,.kT 3]
def ar9 [bK]:aP aj 20 19 ar8 AM:=.at
def aeM:=aF 21 0
def aeN:=aF 21 1
noncomputable def asa:DC:=fR 21
def MP:List dF:=[.cell 0 4 true,.cell 1 3 true]
def asb [bK]:aP aj 21 10 asa MP:=.at
def aeO:=aF 24 0
def Ee:=aF 24 1
noncomputable def asc:DC:=fR 24
def asd [bK]:aP aj 24 19 asc (dw 4):=.at
def aeP:=aF 25 0
def Ka:=aF 25 1
def aeQ:=aF 25 2
def aeR:=aF 25 3
def aeS:=aF 25 4
def aeT:=aF 25 5
def aeU:=aF 25 6
def aeV:=aF 25 7
def aeW:=aF 25 8
noncomputable def ase:DC:=fR 25
def asf [bK]:aP aj 25 36 ase (dw 6):=.at
def aeX:=aF 30 0
def aeY:=aF 30 1
noncomputable def asg:DC:=fR 30
def ash [bK]:aP aj 30 4 asg (dw 2):=.at
def aeZ:=aF 31 0
noncomputable def asi:DC:=fR 31
def MQ:List dF:=[]
def asj [bK]:aP aj 31 53 asi MQ:=.at
def ae0:=aF 51 0
def ae1:=aF 51 1
def ae2:=aF 51 2
def ae3:=aF 51 3
def ae4:=aF 51 4
def ae5:=aF 51 5
def ae6:=aF 51 6
noncomputable def ask:DC:=(.block 0 (.loop (.seq (.seq (.region false (dX 51 0))
 (.cond (.tmp 9) .skip
 (.exit 0)))
 (.block 1 (.seq (.region true (dX 51 1))
 (.seq (.region false (dX 51 2))
 (.seq (.region false (dX 51 3))
 (.seq (.seq (.region true (dX 51 4))
 (.cond (.tmp 51) (.fG (dX 51 5))
 .skip))
 (.seq (.region false (dX 51 6))
 (.cond (.tmp 67) .ret
 .skip))))))))))
def Zb:List dF:=[]
def asm [bK]:aP aj 51 68 ask Zb:=.at
end cP
abbrev ti(n:Int):T:=.int .i64 n
def d0:T->Int
 |.int _ n=>n
 |_=>0
structure cC where
 (f t term aH:Int)
 ops:List (Int×Int)
 deriving DecidableEq,Inhabited
structure aU where
 bn:Int
 bl:List cC
 wC:bY
structure cQ where
 kind:Int
 read:bY
 delete:Int
 deriving Inhabited
structure Input where
 av:List cQ
 insert:bY
 swap:Int
def eJ(l:List (Int×Int)):List (aK):=l.map λo=>[ti o.1,ti o.2]
def cC.enc(a:cC):aK:=[ti a.f,ti a.t,ti a.term,ti a.aH,.sl (eJ a.ops)]
def ce(l:List cC):List (aK):=l.map cC.enc
def aD(l:bY):List (aK):=l.map λx=>[ti x]
def aU.enc(l:aU):T:=.agg [ti l.bn,.sl (ce l.bl),.sl (aD l.wC)]
def cQ.enc(c:cQ):aK:=[ti c.kind,.sl (aD c.read),ti c.delete]
def bW(l:List cQ):List (aK):=l.map cQ.enc
def Input.enc(x:Input):T:=.agg [.sl (bW x.av),.sl (aD x.insert),ti x.swap]
def ib{α β:Type}{f:α->β}{g:β->α}(h:∀a,g (f a)=a)(l:List α):(l.map f).map g=l:=by
 rw[Zdq];conv=>rhs;rw[<-List.map_id l]
 exact ZbC λa _=>h a
def nj(l:List (aK)):bY:=l.map λx=>d0 (x.getD 0 (ti 0))
def B9(l:List (aK)):List (Int×Int):=l.map λx=>(d0 (x.getD 0 (ti 0)),d0 (x.getD 1 (ti 0)))
def pn:aK->cC
 |[a,b,c,d,.sl o]=>⟨d0 a,d0 b,d0 c,d0 d,B9 o⟩
 |_=>default
def Ef(l:List (aK)):List cC:=l.map pn
def uT:aK->cQ
 |[a,.sl b,c]=>⟨d0 a,nj b,d0 c⟩
 |_=>default
def Eg(l:List (aK)):List cQ:=l.map uT
def M4:T->aU
 |.agg [a,.sl b,.sl c]=>⟨d0 a,Ef b,nj c⟩
 |_=>⟨0,[],[]⟩
@[simp] def M9(l:bY):nj (aD l)=l:=ib (λ_=>rfl) l
@[simp] def PY(l:List (Int×Int)):B9 (eJ l)=l:=ib (λ_=>rfl) l
@[simp] def qS(a:cC):pn a.enc=a:=by simp[pn,cC.enc,d0]
@[simp] def ag5(l:List cC):Ef (ce l)=l:=ib qS l
@[simp] def qT(a:cQ):uT a.enc=a:=by simp[uT,cQ.enc,d0]
@[simp] def ag6(l:List cQ):Eg (bW l)=l:=ib qT l
@[simp] def ami(a:Int)(l:List cC)(f:bY):M4 (.agg [ti a,.sl (ce l),.sl (aD f)])=⟨a,l,f⟩:=by simp[M4,d0]
@[simp] def aul(n:aU):M4 n.enc=n:=by simp[aU.enc]
def cH{l:bY}{y:Nat}(h:y<l.length):DM.rowAt (aD l) y=[ti (l.getD y default)]:=by simp[DM.rowAt,aD,h]
def qR{l:List cC}{y:Nat}(h:y<l.length):DM.rowAt (ce l) y=(l.getD y default).enc:=by simp[DM.rowAt,ce,h]
def fJ{l:List cQ}{y:Nat}(h:y<l.length):DM.rowAt (bW l) y=(l.getD y default).enc:=by simp[DM.rowAt,bW,h]
@[simp] def amj(l:bY):(aD l).length=l.length:=by simp[aD]
@[simp] def aum(l:List (Int×Int)):(eJ l).length=l.length:=by simp[eJ]
@[simp] def amk(l:List cC):(ce l).length=l.length:=by simp[ce]
@[simp] def aml(l:List cQ):(bW l).length=l.length:=by simp[bW]
abbrev nN:List Sh:=[.int .i64,.int .i64,.int .i64]
def keyOf(f t x:Int):T:=.agg [ti f,ti t,ti x]
def cC.key(a:cC):T:=keyOf a.f a.t a.term
def dN(al:List cC):List (Nat×T×DV):=al.zipIdx.map λp=>(p.2,p.1.key,.v (.agg p.1.enc))
def da(al:List cC):Ob:=.map nN true al.length (dN al)
def dI(x:Input)(m:Nat):bM:=[.v (.sl (bW x.av)),.v (.sl (aD x.insert)),.v (ti x.swap),.jG m]
def bk(a b:cC):Bool:=decide (a.f=b.f/\a.t=b.t/\a.term=b.term)
def yA(al:List cC)(a:cC):List cC:=
 if a.aH<1099511627776 then
  match al.findIdx? (bk a)with
  |none=>al++[a]
  |some i=>if a.aH<(al.getD i default).aH then al.set i a else al
 else al
def Kf:DV->Int
 |.v (.agg [_,_,_,.int _ c,_])=>c
 |_=>0
def zb(k:T)(c:Int)(es:List (Nat×T×DV)):Bool:=
 decide (c<1099511627776)&&match tr k es with|none=>true|some e=>decide (c<Kf e.2.2)
def tR(k:T)(c:Int)(y:DV)(zc:Nat)(es:List (Nat×T×DV)):List (Nat×T×DV):=if zb k c es then IW k y zc es else es
def zd(k:T)(c:Int)(zc:Nat)(es:List (Nat×T×DV)):Nat:=if zb k c es then qu k zc es else zc
def akh(a b:cC):iG a.key b.key=bk a b:=by
 simp[cC.key,keyOf,iG,vj,bk]
def sk(a:cC)(al:List cC):((dN al).findIdx? λe=>iG a.key e.2.1)=al.findIdx? (bk a):=by
 have h:∀(l:List cC) (i:Nat),(((l.zipIdx i).map λp=>((p.2,p.1.key,DV.v (.agg p.1.enc)):Nat×T×DV)).findIdx? λe=>iG a.key e.2.1)=l.findIdx? (bk a):=by
  intro l;induction l with
  |nil=>intro i;rfl
  |cons b l ih=>intro i;simp only[Zc1,rW,VC,akh,ih (i+1)]
 exact h al 0
def iP(al:List cC)(i:Nat):(dN al)[i]? =(al[i]?).map λa=>(i,a.key,.v (.agg a.enc)):=by
 simp[dN,ZbH,List.getElem?_zipIdx,Function.comp_def]
def my(al:List cC):(dN al).length=al.length:=by simp[dN]
def UH(al:List cC):∀e∈dN al,∃a:cC,e.2.2=.v (.agg a.enc):=by
 intro e he;simp only[dN,iF]at he;obtain⟨p,_,rfl⟩:=he;exact⟨p.1,rfl⟩
def xG{α:Type}{p:α->Bool}{l:List α}{i:Nat}(h:l.findIdx? p=some i):i<l.length:=by
 rw[Zbz]at h;exact h.1
def Gl(a:cC)(al:List cC):zb a.key a.aH (dN al)=(decide (a.aH<1099511627776)&&match al.findIdx? (bk a)with|none=>true|some i=>decide (a.aH<(al.getD i default).aH)):=by
 unfold zb;rw[AA,sk];cases h:al.findIdx? (bk a)with
 |none=>rfl
 |some i=>
  have hi:=xG h;simp[iP,hi,Kf,cC.enc];rfl
def Kg(a:cC)(al:List cC):tR a.key a.aH (.v (.agg a.enc)) al.length (dN al)=dN (yA al a)/\zd a.key a.aH al.length (dN al)=(yA al a).length:=by
 unfold tR zd yA;rw[Gl];by_cases hc:a.aH<1099511627776
 ·simp only[hc,decide_true,ZcY,km];cases h:al.findIdx? (bk a)with
  |none=>
   simp only[km,IW,qu,sk,h];refine⟨?_,by simp⟩;apply Zb3;intro j;rw[iP,Zc5,Zc5,my,iP];split
   ·rfl
   ·rename_i hj;by_cases LW:j=al.length
    ·subst LW;simp
    ·rw[Zbt (by simp;omega),Zbt (by simp;omega)];rfl
  |some i=>
   have hi:=xG h;have Ps:a.key=(al.getD i default).key:=by
    rw[Zbz]at h;obtain⟨_,h1,_⟩:=h;simp only[bk,sa]at h1;simp[cC.key,keyOf,List.getD,hi,h1]
   simp only;by_cases h2:a.aH<(al.getD i default).aH
   ·simp only[h2,decide_true,km,IW,qu,sk,h];refine⟨?_,by simp⟩;apply Zb3;intro j;rw[iP,List.getElem?_modify,iP,ZbP];by_cases hj:i=j
    ·subst hj;simp[hi,Ps,List.getD]
    ·simp[hj]
   ·simp only[h2,decide_false,Ou,xd];exact⟨trivial,trivial⟩
 ·simp[hc]
section
variable{f:bF}{low:Nat}
def cR:ay aj (bB []):=ay.nil
def bQ{l:df}{r:Nat}(hf:dy f low)(h:low<=r)(hl:∀p∈l,p.1≠r):gone (aR l f) id r:=by
 intro r' g0 e;simp only[id]at e;subst e;cases ho:aR l f r' with
 |none=>exact g0 ho
 |some o=>
  rcases tG ho with h1|⟨_,h1⟩
  ·exact hl _ h1 rfl
  ·have:=(hf r' o h1).1;omega
def gE:List cQ->Int->Int
 |[],c=>c
 |x::l,c=>gE l (min (c+x.delete) 1099511627776)
def fN(n:Nat):List (Int×Int):=List.replicate n (2,0)
def AW(l:List cQ)(x:cQ)(c:Int):gE (l++[x]) c=min (gE l c+x.delete) 1099511627776:=by
 induction l generalizing c with
 |nil=>rfl
 |cons y l ih=>simp[gE,ih]
def sV{l:List cQ}(h:∀c∈l,0<=c.delete):∀c,0<=c/\c<=1099511627776->0<=gE l c/\gE l c<=1099511627776:=by
 induction l with
 |nil=>intro c hc;exact hc
 |cons y l ih=>
  intro c hc;have:=h y (by simp);exact ih (λz hz=>h z (by simp[hz])) _ (by omega)
def PZ(l:List cQ)(n:Nat):(bW l).take n=bW (l.take n):=by simp[bW,Zcz]
def P0(l:List cQ)(n:Nat):(bW l).drop n=bW (l.drop n):=by simp[bW,List.map_drop]
def rV(aun:List cQ):Prop:=aun.length<=1000000/\∀c∈aun,0<=c.delete/\c.delete<=1099511627776
def t31{b m:Nat}{x:Input}{i j:Nat}{N:Nat}(hN:∀r,N<=r->f r=none)(hb:f b=some (.box (dI x m)))(hij:i<=j)(hj:j<=x.av.length)(hd:rV x.av):
  aY aj 48 [.ptr b 0,.v (ti i),.v (ti j)] f ⟨True,.v (.eE [ti (gE ((x.av.take j).drop i) 0),.sl (eJ (fN (j-i)))]),f⟩:=by
 have aB:=cR;refine c31.rJ hN (by simp) λba=>?_;have SS:b<N:=(ba b _ hb).1;obtain⟨part,yu⟩:=aW ((x.av.take j).drop i);have Rl:part.length=j-i:=by rw[<-yu];simp;omega
 have Zz:∀c∈part,0<=c.delete/\c.delete<=1099511627776:=λc hc=>hd.2 c (by rw[<-yu]at hc;exact DB (Zb1 hc));have TN:((bW x.av).take j).drop i=bW part:=by rw[PZ,P0,yu]
 have ew:∀r∈bW x.av,r.length=3:=by intro r hr;simp only[bW,iF]at hr;obtain⟨c,_,rfl⟩:=hr;rfl
 have dQ:=hd.1;rw[yu];clear yu;simp;apply aa.ai aB fw [0,1,2,7];simp[asI];apply aa.ai aB fw [0,1,2,8];simp[asJ];apply aa.ai aB fw [0,1,2,8,9];simp[asK];apply aa.sq aB fw [8,9,19,20,21];simp[asL,hb,dI,hij,hj,TN];refine⟨ew, ?_⟩;refine aa.le (Le.eA (l1:=[]) (l:=[(8,.v (ti 0)),(9,.bH),(19,.v (.sl (bW part))),(20,.v (ti part.length)),(21,.v (ti 0))]) (aV:=N+200) ba ?_ ?_ ?_ ?_ ?_) ?_
 ·omega
 ·simp
 ·simp[bZ]
 ·simp[d9]
 ·simp
 refine aa.le (Le.pQ (k:=9) 117 (sz:=2) (by omega) (by simp)) ?_;rw[kW];apply aa.block;refine aa.loop (λy:Nat=>⟨DM.look [(8,.v (ti (gE (part.take y) 0))),(9,.bE (N+200) 0),(19,.v (.sl (bW part))),(20,.v (ti part.length)),(21,.v (ti y))],aR [(N+200,.bJ 0 117 2 (eJ (fN y)))] f,N+300,N,[]⟩)
  (λy=>y<=part.length) (λy=>part.length-y) 0 (Le.eA ba ?_ ?_ ?_ ?_ ?_) (by simp) (λy hy=>?_)
 ·omega
 ·simp
 ·simp[bZ]
 ·simp[d9,eZ,fN,eJ]
 ·simp[gE]
 apply aa.ai aB fw [8,9,19,20,21,22];simp[asM];apply aa.seq;have vR:=sV (l:=part.take y) (λc hc=>(Zz c (DB hc)).1) 0 (by omega);refine aa.cond rfl (λhc=>?_) (λhc=>?_)
 ·simp at hc;apply aa.skip;simp;apply aa.seq;apply aa.block;apply aa.ai aB fw [8,9,11,19,20,21];have iq:=fJ hc;obtain⟨c,DW⟩:=aW (part[y]);have I2:c∈part:=by rw[<-DW];exact Pt hc
  have OC:=Zz c I2;have TI:part.take (y+1)=part.take y++[c]:=by rw[ZbI,xi hc,DW];rfl
  simp[asN,iq,DW,hc,cQ.enc];apply aa.ai aB fw [8,9,11,19,20,21];simp[asO];rw[aA (by omega)];apply aa.dZ aB fw [8,9,19,20,21];simp[asP,du,eX];refine⟨by
    have:(fN y).length=y:=by simp[fN]
    omega, ?_⟩
  apply aa.dZ aB fw [8,9,19,20,21];simp[asQ];refine⟨y+1,Le.eA ba ?_ ?_ ?_ ?_ ?_,by omega,by omega⟩
  ·omega
  ·simp
  ·simp[bZ];omega
  ·simp[d9,eZ,fN,eJ,Zcr]
  ·simp[TI,AW];rw[aA (by omega)]
 ·simp at hc;have vP:y=part.length:=by omega
  subst vP;apply aa.exit;simp;apply aa.ai aB fw [6,7];simp[asR];refine aa.le (Le.eA (l1:=[]) (l:=[(6,.v (ti (gE part 0))),(7,.v (.sl (eJ (fN part.length))))]) (aV:=N+1000) ba ?_ ?_ ?_ ?_ ?_) ?_
  ·omega
  ·simp
  ·simp[bZ]
  ·simp[d9]
  ·simp;exact bQ ba (by omega) (by simp)
  apply aa.ret;simp[Zv,Rl];rfl
def c7(x:Input)(m:Nat):Bool:=
 decide (m+1<x.av.length/\0<x.swap/\0<=(x.av.getD m default).kind/\0<=(x.av.getD (m+1) default).kind)
def t50{b m:Nat}{x:Input}{i:Nat}{N:Nat}(hN:∀r,N<=r->f r=none)(hb:f b=some (.box (dI x m)))(hi:i<=1000000)(hl:x.av.length<=1000000):
  aY aj 77 [.ptr b 0,.v (ti i)] f ⟨True,.v (.bool (c7 x i)),f⟩:=by
 have aB:=cR;refine c50.rJ hN (by simp) λba=>?_;simp;apply aa.ai aB fw [0,1,4];simp[as3];apply aa.ai aB fw [0,1,5];simp[as4,hb,dI];have hw:IntKind.i64.wrap ((i:Int)+1)=i+1:=aA (by omega);refine aa.ci aB fw [(4,.v (.bool (c7 x i)))] ?_ ?_
 ·by_cases h1:i+1<x.av.length
  ·have tg:=fJ (l:=x.av) (y:=i) (by omega);have yd:DM.rowAt (bW x.av) ((i:Int)+1)=(x.av.getD (i+1) default).enc:=fJ (l:=x.av) h1;obtain⟨c1,bI⟩:=aW (x.av.getD i default);obtain⟨c2,fW⟩:=aW (x.av.getD (i+1) default);rw[bI]at tg;rw[fW]at yd;have TW:((i:Int)+1<x.av.length)=True:=by simp;omega
   have hd2:((i:Int)<x.av.length)=True:=by simp;omega
   have hd3:(0<=(i:Int)+1)=True:=by simp;omega
   have hd4:i<x.av.length:=by omega
   have DT:c7 x i=(decide (0<x.swap)&&(decide (0<=c1.kind)&&decide (0<=c2.kind))):=by
    unfold c7;rw[bI,fW];simp[h1]
   by_cases s1:0<x.swap<;>by_cases s2:0<=c1.kind<;>by_cases s3:0<=c2.kind<;>simp[ag2,hb,dI,hw,tg,yd,TW,hd2,hd3,cQ.enc,s1,s2,s3,DT]
  ·have TW:((i:Int)+1<x.av.length)=False:=by simp;omega
   simp[ag2,hw,TW];simp[c7]
   intros;omega
 apply aa.ret;simp[dw];rfl
def Le.UI{tm:dG}{ob:bF}{aJ:Nat}{td:List (aK)}{P:Program}{nt:Nat}{d:DC}{Q:Exit->mK->Prop}{k:Nat}(hk:tm k=.v (.sl []))
  (h:∀(p:Option Addr) (c:Nat),aa P nt d Q ⟨dg tm (some k) (.v (.w6 (.slice p 0 c))),ob,aJ,low,td⟩):aa P nt d Q ⟨tm,ob,aJ,low,td⟩:=by
 refine⟨λc hc n κ a w L g r=>?_⟩;obtain⟨W,base,M,w0,dW,h0⟩:=r.r.ex;have hx:=h0.tmps k;simp only[hk,aC,bw]at hx;have nK:∃(p:Option Addr) (cp:Nat),a.tmps.getD k Go.undef=.slice p 0 cp:=by
  rcases hx with⟨_,p,cp,hx⟩|⟨b,o,cp,sz,hx,_⟩
  ·exact⟨p,cp,hx⟩
  ·exact⟨_,cp,hx⟩
 obtain⟨p,cp,hx⟩:=nK;refine(h p cp).run c hc n κ a w L g ⟨⟨⟨W,base,M,w0,dW,h0.size,λt=>?_,h0.o⟩,r.r.fP,r.r.defers,r.r.bg,r.r.bU⟩,r.fresh,r.low,r.it⟩;simp only[dg];by_cases ht:t=k
 ·subst ht;simp only[km,aC,bw];exact hx
 ·simp only[ht,xd];exact h0.tmps t
def t49(l:List (Int×Int))(hl:l.length<=1000000):pj aj 76 [.sl (eJ l)] 117 2 (eJ l):=by
 have aB:=cR;refine c49.okF (by simp) (aM ?_);simp;have ew:∀r∈eJ l,r.length=2:=by intro r hr;simp only[eJ,iF]at hr;obtain⟨c,_,rfl⟩:=hr;rfl
 apply aa.ai aB fw [0,2];simp[as1];cases l with
 |nil=>
  refine Le.UI (k:=0) (by simp[eJ]) λp c=>?_;apply aa.sq aB fw [0,2,4];simp[ag0];refine aa.cond rfl (λh=>?_) (λh=>?_)
  ·apply aa.ai aB fw [2];simp[as2];apply aa.ret;exact .inl ⟨by simp,by simp[eJ],by omega⟩
  ·apply aa.skip;simp;apply aa.ai aB fw [2];simp[ag1,du];apply aa.ret;exact .inr ⟨1026,0,by simp,by simp[eJ]⟩
 |cons o l=>
  apply aa.sq aB fw [0,2,4];simp[ag0];refine⟨by simp[eJ], ?_⟩;refine aa.cond rfl (λh=>by cases h) (λh=>?_);apply aa.skip;simp;apply aa.ai aB fw [2];simp[ag1,du];refine⟨⟨ew,by simp at hl⊢;omega⟩, ?_⟩;apply aa.ret;exact .inr ⟨1026,0,by simp,by simp⟩
end
section
variable [bK]
def okE:ay aj (bB []):=ay.nil
def vD(a b:Int):Int:=if a<b then-1 else if b<a then 1 else 0
def SU(l:bY):Int:=(l.find? λx=>x !=0).getD 0
def fS(x y:aK):Int:=SU [vD (d0 (x.getD 0 (ti 0))) (d0 (y.getD 0 (ti 0))),vD (d0 (x.getD 1 (ti 0))) (d0 (y.getD 1 (ti 0))),vD (d0 (x.getD 2 (ti 0))) (d0 (y.getD 2 (ti 0)))]
def t71(a:Int):bb aj 118 [ti a] (.bool false):=by
 have aB:=okE;refine c71.ok (by simp) (aM ?_);simp;apply aa.ai aB fw [0];simp[ats];apply aa.ai aB fw [2];simp[atu];apply aa.ret;simp[dw]
abbrev aks:DM.Spec:=cK (λts=>∃a,ts=[ti a]) (λ_=>.bool false) true
def aw3:ay aj (bB [(118,aks)]):=by
 refine ay.cons ay.nil ?_;rintro ts ⟨a,rfl⟩;exact⟨t71 a,λ_=>rfl⟩
def t54(a b:Int):bb aj 81 [ti a,ti b] (ti (vD a b)):=by
 have aB:=aw3;refine c54.ok (by simp) (aM ?_);simp;apply aa.ai aB fw [0,1];simp[X3];apply aa.ai aB fw [0,1,5];simp[X4];apply aa.ai aB fw [0,1,5,6];simp[ato];apply aa.sq aB fw [0,1,6,11];simp[atp];refine aa.cond rfl (λh=>by cases h) (λh=>?_);apply aa.skip;simp;apply aa.sq aB fw [0,1,13];simp[atq];refine aa.cond rfl (λh=>by cases h) (λh=>?_);apply aa.skip;simp;apply aa.sq aB fw [0,1,16];simp[atr];refine aa.cond rfl (λh=>?_) (λh=>?_)
 ·simp at h;apply aa.ai aB fw [4];simp[ajH];apply aa.ret;simp[B5,vD,h]
 ·simp at h;apply aa.skip;simp;apply aa.sq aB fw [0,1,19];simp[ajI];refine aa.cond rfl (λh2=>?_) (λh2=>?_)
  ·simp at h2;apply aa.ai aB fw [4];simp[ajJ];apply aa.ret;simp[B5,vD,h2,show ¬a<b by omega]
  ·simp at h2;apply aa.skip;simp;apply aa.ai aB fw [4];simp[ajK];apply aa.ret;simp[B5,vD,show ¬a<b by omega,show ¬b<a by omega]
def ZH{l:bY}{y:Nat}(hy:y<l.length)(h:l.getD y default=0):SU (l.drop y)=SU (l.drop (y+1)):=by
 rw[ZbT hy];have:l[y]=0:=by simpa [List.getD,hy]using h
 simp[SU,this]
def aff{l:bY}{y:Nat}(hy:y<l.length)(h:l.getD y default≠0):SU (l.drop y)=l.getD y default:=by
 rw[ZbT hy];have e:l.getD y default=l[y]:=by simp[List.getD,hy]
 rw[e]at h⊢;simp only[SU,K9,Rs,(Zdl (a:=l[y]) (b:=(0:Int))).2 h]
def t53(l:bY)(hl:l.length<=1000000):bb aj 80 [.sl (aD l)] (ti (SU l)):=by
 have aB:=okE;refine c53.ok (by simp) (aM ?_);simp;apply aa.ai aB fw [0];simp[atf];apply aa.ai aB fw [0,3];simp[atg];apply aa.sq aB fw [3,6,7,8];simp[ath];apply aa.block;refine aa.loop (λy:Nat=>⟨DM.look [(3,.v (ti 0)),(6,.v (.sl (aD l))),(7,.v (ti l.length)),(8,.v (ti y))],cF [],2000,1000,[]⟩)
  (λy=>y<=l.length/\SU (l.drop y)=SU l) (λy=>l.length-y) 0 (Le.bi (o:=[]) ?_ ?_ ?_ ?_) (by simp) (λy hy=>?_)
 iterate 4(·simp)
 obtain⟨mq,fA⟩:=hy;apply aa.ai aB fw [3,6,7,8,9];simp[ati];apply aa.seq;refine aa.cond rfl (λh=>?_) (λh=>?_)
 ·simp at h;apply aa.skip;simp;apply aa.seq;apply aa.block;have hr:=cH h;obtain⟨p,hp⟩:=aW (l.getD y default);rw[hp]at hr;apply aa.ai aB fw [3,5,6,7,8];simp[atj,hr,h];apply aa.ai aB fw [3,5,6,7,8,14];simp[atk];refine aa.cond rfl (λh2=>?_) (λh2=>?_)
  ·simp at h2;apply aa.ai aB fw [2];simp[atl];apply aa.ret;rw[aff h (by rw[hp];exact h2),hp]at fA;simp[dw,fA]
  ·simp at h2;apply aa.skip;simp;apply aa.dZ aB fw [3,6,7,8];simp[atm];rw[aA (by omega)];refine⟨y+1,Le.bi (o:=[]) ?_ ?_ ?_ ?_,⟨by omega, ?_⟩,by omega⟩;iterate 4(·simp)
   ·rw[<-fA,ZH h (by rw[hp];exact h2)]
 ·simp at h;apply aa.exit;simp;apply aa.ai aB fw [2];simp[atn];apply aa.ret;have:l.drop y=[]:=ZbG (by omega);rw[this]at fA;simp only[dw];rw[<-fA];simp[SU]
abbrev akt:DM.Spec:=cK (λts=>∃a b,ts=[ti a,ti b]) (fun|[.int _ a,.int _ b]=>ti (vD a b)|_=>.bool false) true
abbrev aku:DM.Spec:=cK (λts=>∃l:bY,ts=[.sl (aD l)]/\l.length<=1000000) (fun|[.sl l]=>ti (SU (nj l))|_=>.bool false) true
def aw4:ay aj (bB [(81,akt),(80,aku)]):=by
 refine ay.cons (ay.cons ay.nil ?_) ?_
 ·rintro ts ⟨l,rfl,h⟩;have:=t53 l h;rw[<-M9 l]at this;exact⟨by simpa using t53 l h,λ_=>rfl⟩
 ·rintro ts ⟨a,b,rfl⟩;exact⟨t54 a b,λ_=>rfl⟩
def t33(a b c d e f:Int):bb aj 50 [.agg [ti a,ti b,ti c],.agg [ti d,ti e,ti f]] (ti (SU [vD a d,vD b e,vD c f])):=by
 have aB:=aw4;refine c33.ok (by simp) (aM ?_);simp;apply aa.ai aB fw [2,3];simp[atd];apply aa.ai aB fw [4];simp[ate];refine⟨⟨[vD a d,vD b e,vD c f],rfl,by simp⟩, ?_⟩;apply aa.ret;simp[dw];rfl
end
def HT(s aN:Int)(a:cC):Prop:=¬(a.f<0\/a.f>a.t\/a.t>=s\/a.term<0\/a.term>=aN\/a.aH<0\/a.aH>=1099511627776\/(a.f=a.t/\a.aH=0))
instance(s aN:Int)(a:cC):Decidable (HT s aN a):=by unfold HT;infer_instance
def cN(a b:cC):Prop:=a.f<b.f\/(a.f=b.f/\(a.t<b.t\/(a.t=b.t/\a.term<b.term)))
instance(a b:cC):Decidable (cN a b):=by unfold cN;infer_instance
def RM(f:bY)(i:Nat):Prop:=0<=f.getD i default/\f.getD i default<=1099511627776
def Qa(l:aU)(aN:Int)(i:Nat):Prop:=HT l.bn aN (l.bl.getD i default)/\(i=0\/cN (l.bl.getD (i-1) default) (l.bl.getD i default))
def FI(l:aU)(aN:Int):Prop:=(1<=l.bn/\(l.wC.length:Int)=l.bn)/\(∀i,i<l.wC.length->RM l.wC i)/\∀i,i<l.bl.length->Qa l aN i
instance(f:bY)(i:Nat):Decidable (RM f i):=by unfold RM;infer_instance
instance(l:aU)(aN:Int)(i:Nat):Decidable (Qa l aN i):=by unfold Qa;infer_instance
instance(l:aU)(aN:Int):Decidable (FI l aN):=by unfold FI;infer_instance
def t39(a b:cC):bb aj 94 [.agg a.enc,.agg b.enc] (.bool (decide (cN a b))):=by
 have aB:=okE;obtain⟨v,hv⟩:=aW (decide (cN a b));rw[hv];refine c39.ok (by simp) (aM ?_);simp[cC.enc];apply aa.ai aB fw [2,3];simp[atS];apply aa.sq aB fw [2,3,9];simp[atT];refine aa.cond rfl (λh=>?_) (λh=>?_)
 ·simp at h;apply aa.ai aB fw [4];simp[atU];apply aa.ret;simp[dw,<-hv,cN,h]
 ·simp at h;apply aa.skip;simp;apply aa.sq aB fw [2,3,19];simp[atV];refine aa.cond rfl (λh2=>?_) (λh2=>?_)
  ·simp at h2;apply aa.ai aB fw [4];simp[atW];apply aa.ret;simp[dw,<-hv,cN,h,h2]
  ·simp at h2;apply aa.skip;simp;apply aa.ai aB fw [4];simp[atX];apply aa.ret;simp[dw,<-hv,cN,h,h2]
abbrev akz:DM.Spec:=cK (λts=>∃a b:cC,ts=[.agg a.enc,.agg b.enc]) (fun|[.agg x,.agg y]=>.bool (decide (cN (pn x) (pn y)))|_=>.bool false) true
def aw8:ay aj (bB [(94,akz)]):=by
 refine ay.cons ay.nil ?_;rintro ts ⟨a,b,rfl⟩;exact⟨by simpa using t39 a b,λ_=>rfl⟩
def Ci{n:Int}(h:0<=n/\n<18446744073709551616):IntKind.u64.wrap n=n:=by
 unfold IntKind.wrap;simp[IntKind.bits,IntKind.signed];omega
def P7{n:Nat}(h:n<4294967296):n % 2^IntKind.u64.bits&&&4294967295 % 2^IntKind.u64.bits=n:=by
 have e:IntKind.u64.bits=64:=rfl;rw[e,Zc0 (show n<2^64 by omega),show 4294967295 % 2^64=2^32-1 by decide,Nat.and_two_pow_sub_one_eq_mod,Zc0 (by omega)]
def t60(x y:Nat)(hx:x<4294967296)(hy:y<4294967296):bb aj 107 [.int .u64 x,.int .u64 y] (.eE [.int .u64 0,.int .u64 ((x*y:Nat):Int)]):=by
 have aB:=okE;refine c60.ok (by simp) (aM ?_);simp;apply aa.ai aB fw [0,1];simp[Yb];obtain⟨p,hp⟩:=aW (x*y);have hpb:p<18446744073709551616:=by
  rw[<-hp]
  calc x*y<=4294967295*4294967295:=Zdf (by omega) (by omega)
   _<_:=by decide
 have hpi:(x:Int)*y=p:=by rw[<-hp];simp
 have e1:=Ci (n:=x) (by omega);have e2:=Ci (n:=y) (by omega);have e3:=Ci (n:=p) (by omega);have b:IntKind.u64.bits=64:=rfl;have e0:IntKind.u64.wrap 0=0:=rfl;have d1:(x:Int)/4294967296=0:=by omega
 have d2:(y:Int)/4294967296=0:=by omega
 have d3:(p:Int)/4294967296<4294967296:=by omega
 obtain⟨q,hq⟩:∃q:Nat,(p:Int)/4294967296=q:=⟨p/4294967296,by omega⟩;have hqb:q<4294967296:=by omega
 have e4:=Ci (n:=q) (by omega);have d4:(q:Int)/4294967296=0:=by omega
 rw[hpi];apply aa.ai aB fw [0,1,6];simp[HY,P7 hx,e1];apply aa.ai aB fw [0,1,6,7];simp[Yc,b,d1];apply aa.ai aB fw [0,1,6,7,8];simp[Yd,P7 hy,e2];apply aa.ai aB fw [0,1,6,7,8,9];simp[atv,b,d2];apply aa.ai aB fw [0,1,6,7,8,9,10];simp[atw,hpi,e3];apply aa.ai aB fw [0,1,6,7,8,9,10,11];simp[atx,e0,b,hq,e4];apply aa.ai aB fw [0,1,6,7,8,9,10,11,12];simp[aty,P7 hqb,e4];apply aa.ai aB fw [0,1,6,7,8,9,10,11,12,13];simp[atz,b,d4];apply aa.ai aB fw [0,1,6,7,8,9,10,11,12,13];simp[atA,e0,e4];apply aa.ai aB fw [0,1,4];simp[ajL,e0,b,d4];apply aa.ai aB fw [4,5];simp[ajM,hpi,e3];apply aa.ret;simp[yX]
abbrev akv:DM.Spec:=cK (λts=>∃x y:Nat,ts=[.int .u64 x,.int .u64 y]/\x<4294967296/\y<4294967296) (fun|[.int _ x,.int _ y]=>.eE [.int .u64 0,.int .u64 (x*y)]|_=>.bool false) false
def aw5:ay aj (bB [(107,akv)]):=by
 refine ay.cons ay.nil ?_;rintro ts ⟨x,y,rfl,h1,h2⟩;exact⟨by simpa using t60 x y h1 h2,λh=>by cases h⟩
def t46(x y:Nat)(hx:x<4294967296)(hy:y<4294967296):bb aj 73 [.int .u64 x,.int .u64 y] (.eE [.int .u64 0,.int .u64 ((x*y:Nat):Int)]):=by
 have aB:=aw5;refine c46.ok (by simp) (aM ?_);simp;apply aa.ai aB fw [0,1];simp[XO];apply aa.seq;refine aa.cond rfl (λh=>by cases h) (λh=>?_);apply aa.skip;simp;apply aa.ai aB fw [8,9];simp[XP];refine⟨⟨x,y,⟨rfl,rfl⟩,hx,hy⟩, ?_⟩;apply aa.ai aB fw [4,5];simp[XQ];apply aa.ret;simp[uJ]
abbrev akw:DM.Spec:=cK (λts=>∃x y:Nat,ts=[.int .u64 x,.int .u64 y]/\x<4294967296/\y<4294967296) (fun|[.int _ x,.int _ y]=>.eE [.int .u64 0,.int .u64 (x*y)]|_=>.bool false) false
def aw6:ay aj (bB [(73,akw)]):=by
 refine ay.cons ay.nil ?_;rintro ts ⟨x,y,rfl,h1,h2⟩;exact⟨by simpa using t46 x y h1 h2,λh=>by cases h⟩
def t29(v:Int)(n:Nat)(h1:1<=n)(hn:n<=10000000):pj aj 46 [.sl (aD [v]),ti n] 3 1 (aD (List.replicate n v)):=by
 have aB:=aw6;refine c29.okF (by simp) (aM ?_);simp;apply aa.ai aB fw [0,1];simp[as5];apply aa.sq aB fw [0,1,10];simp[as6];refine aa.cond rfl (λh=>by simp at h;omega) (λh=>?_);apply aa.skip;simp;have e1:=Ci (n:=1) (by omega);have e2:=Ci (n:=n) (by omega);apply aa.ai aB fw [0,1,5,6];simp[as7,e1,e2];refine⟨⟨1,n,⟨rfl,rfl⟩,by omega,by omega⟩, ?_⟩;apply aa.sq aB fw [0,6,26];simp[as8];refine aa.cond rfl (λh=>by simp at h;omega) (λh=>?_);apply aa.skip;simp;apply aa.ai aB fw [0,7];have w1:IntKind.i64.wrap (n:Int)=n:=aA (by omega);simp[as9,w1];refine⟨by simp[du];omega, ?_⟩;apply aa.ai aB fw [7,8];have hrp:∀(k:Nat),aD [v]=[[ti v]]:=λ_=>rfl;obtain⟨n',rfl⟩:∃n',n=n'+1:=⟨n-1,by omega⟩;simp[ata,aD,OV];apply aa.seq;apply aa.block;refine aa.loop (λy:Nat=>⟨DM.look [(7,.bE 1227 0),(8,.v (ti (y+1:Nat)))],cF [(1227,.bJ 0 3 1 (List.replicate (y+1) [ti v]++List.replicate (n'-y) [ti 0]))],3000,1000,[]⟩)
  (λy=>y<=n') (λy=>n'-y) 0 (Le.bi ?_ ?_ ?_ ?_) (by simp) (λy hy=>?_)
 iterate 4(·simp)
 apply aa.sq aB fw [7,8,37];simp[atb];refine aa.cond rfl (λh=>?_) (λh=>?_)
 ·simp at h;apply aa.skip;simp;apply aa.block;apply aa.dZ aB fw [7,8];have q1:((y:Int)+1<=(y:Int)+1+((n'-y:Nat):Int))=True:=by simp;omega
  simp[atc,q1];obtain⟨k,hk⟩:=aW (min (n'-y) (y+1));have k1:min ((↑y+1+((n'-y:Nat):Int)).toNat-(y+1)) (y+1)=k:=by omega
  have k2:min (y+1) ((↑y+1+((n'-y:Nat):Int)).toNat-(y+1))=k:=by omega
  rw[k1,k2];have e:List.drop (y+1+k) (List.replicate (y+1) [ti v]++List.replicate (n'-y) [ti 0])=List.replicate (n'-(y+k)) [ti 0]:=by
   rw[List.drop_append];simp;omega
  rw[e];refine⟨by omega,y+k,Le.bi ?_ ?_ ?_ ?_,by omega,by omega⟩
  ·simp
  ·simp
  ·simp;omega
  ·simp;rw[aA (by omega)];omega
 ·simp at h;have:y=n':=by omega
  subst this;apply aa.exit;simp;apply aa.ai aB fw [4];simp[ajG];apply aa.ret;exact .inr ⟨1227,0,by simp,by simp[OV]⟩
def ag7(ts:aK):Prop:=∃(v:Int) (n:Nat),ts=[.sl (aD [v]),ti n]/\1<=n/\n<=10000000
def ako:aK->List (aK)
 |[.sl [[v]],.int _ n]=>List.replicate n.toNat [v]
 |_=>[]
def Nj(l:bY)(i:Nat)(v:Int):(aD l).set i [ti v]=aD (l.set i v):=by simp[aD,Zce]
def pI(a b:Int):Int:=if 1099511627776<=a\/1099511627776<=b\/1099511627776<=a+b then 1099511627776 else a+b
def t36(a b:Int)(ha: -1000000000000000000<=a)(hb: -1000000000000000000<=b):bb aj 58 [ti a,ti b] (ti (pI a b)):=by
 have aB:=okE;refine c36.ok (by simp) (aM ?_);simp;apply aa.ai aB fw [0,1];simp[atY];apply aa.seq;refine aa.ci aB fw [(0,.v (ti a)),(1,.v (ti b)),(16,.v (.bool (decide (1099511627776<=a\/1099511627776<=b\/1099511627776<=a+b))))] ?_ ?_
 ·by_cases q1:1099511627776<=a
  ·simp[SR,q1]
  ·by_cases q2:1099511627776<=b
   ·simp[SR,q1,q2]
   ·have w:IntKind.i64.wrap (a+b)=a+b:=aA (by omega);by_cases q3:1099511627776<=a+b
    ·simp[SR,q1,q2,w,q3]
    ·simp[SR,q1,q2,w,q3]
 refine aa.cond rfl (λh=>?_) (λh=>?_)
 ·simp only[sa]at h;apply aa.ai aB fw [4];simp[atZ];apply aa.ret;simp[dw,pI,h]
 ·simp only[zM]at h;apply aa.skip;simp;apply aa.ai aB fw [4];simp[at0];apply aa.ret;rw[aA (by omega)];simp only[pI,h,xd];simp[dw]
abbrev ZM:DM.Spec:=cK (λts=>∃a b:Int,ts=[ti a,ti b]/\-1000000000000000000<=a/\-1000000000000000000<=b) (fun|[.int _ a,.int _ b]=>ti (pI a b)|_=>.bool false) true
def aus:ay aj (bB [(58,ZM)]):=by
 refine ay.cons ay.nil ?_;rintro ts ⟨a,b,rfl,h1,h2⟩;exact⟨t36 a b h1 h2,λ_=>rfl⟩
def lV(c:cQ)(t:Nat):Prop:=¬(((t:Int)=c.kind/\c.read.getD t default≠0)\/((t:Int)≠c.kind/\c.read.getD t default≠-1/\(c.read.getD t default<1\/c.read.getD t default>60000)))
def rQ(c:cQ)(aN:Int):Prop:=(¬(c.kind< -1\/c.kind>=aN\/(c.read.length:Int)≠aN\/c.delete<1\/(c.delete>60000/\c.delete≠1099511627776)))/\∀t,t<aN.toNat->lV c t
instance(c:cQ)(t:Nat):Decidable (lV c t):=by unfold lV;infer_instance
instance(c:cQ)(aN:Int):Decidable (rQ c aN):=by unfold rQ;infer_instance
def lQ(l:List cQ)(aN:Int):Prop:=∀i,i<l.length->rQ (l.getD i default) aN
instance(l:List cQ)(aN:Int):Decidable (lQ l aN):=by unfold lQ;infer_instance
def AG(l:bY)(t:Nat):Prop:=¬(l.getD t default<1\/l.getD t default>60000)
instance(l:bY)(t:Nat):Decidable (AG l t):=by unfold AG;infer_instance
def OD(x:Input)(aN:Int):Prop:=(¬(aN<0\/(x.av.length:Int)>60\/(x.insert.length:Int)≠aN\/x.swap<0\/x.swap>60000\/¬lQ x.av aN))/\∀t,t<aN.toNat->AG x.insert t
instance(x:Input)(aN:Int):Decidable (OD x aN):=by unfold OD;infer_instance
def t58(c:cQ)(aN:Int)(h:aN<=1000000000000):bb aj 63 [.agg c.enc,ti aN] (.bool (decide (rQ c aN))):=by
 have aB:=okE;obtain⟨v,hv⟩:=aW (decide (rQ c aN));rw[hv];have dm:¬rQ c aN->v=false:=λh=>by rw[<-hv];simp[h]
 have dv:rQ c aN↔(¬(c.kind< -1\/c.kind>=aN\/(c.read.length:Int)≠aN\/c.delete<1\/(c.delete>60000/\c.delete≠1099511627776)))/\∀t,t<aN.toNat->lV c t:=Iff.rfl;refine c58.ok (by simp) (aM ?_);simp[cQ.enc];apply aa.ai aB fw [1,2];simp[Yl];refine aa.lk (o:=[]) (l:=[(1,.v (ti aN)),(2,.v (.box [ti c.kind,.sl (aD c.read),ti c.delete]))]) (aV:=1200) (by simp) ?_;apply aa.seq;obtain⟨b,hb⟩:=aW (decide (c.kind< -1\/c.kind>=aN\/(c.read.length:Int)≠aN\/c.delete<1\/(c.delete>60000/\c.delete≠1099511627776)):Bool);refine aa.ci aB fw [(1,.v (ti aN)),(2,.v (.box [ti c.kind,.sl (aD c.read),ti c.delete])),(37,.v (.bool b))] ?_ ?_
 ·by_cases q1:c.kind< -1
  ·have gb:b=true:=by rw[<-hb];simp[q1]
   simp[Gk,q1,gb]
  ·by_cases q2:aN<=c.kind
   ·have gb:b=true:=by rw[<-hb];simp[q2]
    simp[Gk,q1,q2,gb]
   ·by_cases q3:(c.read.length:Int)=aN
    ·by_cases q4:c.delete<1
     ·have gb:b=true:=by rw[<-hb];simp[q4]
      simp[Gk,q1,q2,q3,q4,gb]
     ·by_cases q5:60000<c.delete
      ·by_cases q6:c.delete=1099511627776
       ·have gb:b=false:=by rw[<-hb];simp only[zM];omega
        simp[Gk,q1,q2,q3,q4,q5,q6,gb]
       ·have gb:b=true:=by rw[<-hb];simp[q5,q6]
        simp[Gk,q1,q2,q3,q4,q5,q6,gb]
      ·have gb:b=false:=by rw[<-hb];simp only[zM];omega
       simp[Gk,q1,q2,q3,q4,q5,gb]
    ·have gb:b=true:=by rw[<-hb];simp[q3]
     simp[Gk,q1,q2,q3,gb]
 refine aa.cond rfl (λh=>?_) (λh=>?_)
 ·rw[h]at hb;simp only[sa]at hb;apply aa.ai aB fw [4];simp[atL];apply aa.ret;rw[dm λe=>(dv.1 e).1 hb];simp[wD]
 rw[h]at hb;simp only[zM]at hb;obtain⟨n,hn⟩:=aW c.read.length;have hnt:aN=(n:Int):=by omega
 subst hnt;apply aa.skip;simp;apply aa.sq aB fw [1,2,5];simp[R6];apply aa.block;refine aa.loop (λy:Nat=>⟨DM.look [(1,.v (ti n)),(2,.v (.box [ti c.kind,.sl (aD c.read),ti c.delete])),(5,.v (ti y))],cF [],2000,1000,[]⟩)
  (λy=>y<=n/\∀t,t<y->lV c t) (λy=>n-y) 0 (Le.bi (o:=[]) ?_ ?_ ?_ ?_) (by simp) (λy hy=>?_)
 iterate 4(·simp)
 obtain⟨mq,fA⟩:=hy;apply aa.sq aB fw [1,2,5,40];simp[atM];refine aa.cond rfl (λct=>?_) (λct=>?_)
 ·simp at ct;have LC:y<c.read.length:=by omega
  have r1:=cH LC;obtain⟨u,hu⟩:=aW (c.read.getD y default);rw[hu]at r1;have kO:lV c y↔¬(((y:Int)=c.kind/\u≠0)\/((y:Int)≠c.kind/\u≠-1/\(u<1\/u>60000))):=by unfold lV;rw[hu]
  obtain⟨kd,hkd⟩:=aW c.kind;rw[hkd]at kO⊢;apply aa.skip;simp;apply aa.seq;apply aa.block;apply aa.ai aB fw [1,2,5,6];simp[atN,r1,LC];obtain⟨b2,gn⟩:=aW (decide (((y:Int)=kd/\u≠0)\/((y:Int)≠kd/\u≠-1/\(u<1\/u>60000))):Bool);refine aa.ci aB fw [(1,.v (ti n)),(2,.v (.box [ti kd,.sl (aD c.read),ti c.delete])),(5,.v (ti y)),(73,.v (.bool b2))] ?_ ?_
  ·by_cases q1:(y:Int)=kd
   ·by_cases q2:u=0
    ·have gb:b2=false:=by rw[<-gn];simp[q1,q2]
     simp[Id,q1,q2,gb]
    ·have gb:b2=true:=by rw[<-gn];simp[q1,q2]
     simp[Id,q1,q2,gb]
   ·by_cases q2:u= -1
    ·have gb:b2=false:=by rw[<-gn];simp[q1,q2]
     simp[Id,q1,q2,gb]
    ·by_cases q3:u<1
     ·have gb:b2=true:=by rw[<-gn];simp[q1,q2,q3]
      simp[Id,q1,q2,q3,gb]
     ·by_cases q4:60000<u
      ·have gb:b2=true:=by rw[<-gn];simp[q1,q2,q4]
       simp[Id,q1,q2,q3,q4,gb]
      ·have gb:b2=false:=by rw[<-gn];simp only[zM];omega
       simp[Id,q1,q2,q3,q4,gb]
  refine aa.cond rfl (λh=>?_) (λh=>?_)
  ·rw[h]at gn;simp only[sa]at gn;apply aa.ai aB fw [4];simp[atO];apply aa.ret;rw[dm λe=>kO.1 ((dv.1 e).2 y (by simpa using ct)) gn];simp[wD]
  ·rw[h]at gn;simp only[zM]at gn;apply aa.skip;simp;apply aa.dZ aB fw [1,2,5];simp[atQ];rw[aA (by omega)];refine⟨y+1,Le.bi (o:=[]) ?_ ?_ ?_ ?_,⟨by omega,λi hi=>?_⟩,by omega⟩;iterate 4(·simp)
   ·by_cases e:i=y
    ·subst e;exact kO.2 gn
    ·exact fA i (by omega)
 simp at ct;apply aa.exit;simp;apply aa.ai aB fw [4];simp[atR];apply aa.ret;have:v=true:=by
  rw[<-hv,sa];exact dv.2 ⟨by omega,λi hi=>fA i (by simp at hi;omega)⟩
 rw[this];simp[wD]
abbrev akA:DM.Spec:=cK (λts=>∃(c:cQ) (t:Int),ts=[.agg c.enc,ti t]/\t<=1000000000000) (fun|[.agg c,.int _ t]=>.bool (decide (rQ (uT c) t))|_=>.bool false) true
def aw9:ay aj (bB [(63,akA)]):=by
 refine ay.cons ay.nil ?_;rintro ts ⟨c,t,rfl,h⟩;exact⟨by simpa using t58 c t h,λ_=>rfl⟩
def t45(l:List cQ)(aN:Int)(h1:l.length<=1000000000000)(h2:aN<=1000000000000):bb aj 37 [.sl (bW l),ti aN] (.bool (decide (lQ l aN))):=by
 have aB:=aw9;obtain⟨v,hv⟩:=aW (decide (lQ l aN));rw[hv];have dm:¬lQ l aN->v=false:=λh=>by rw[<-hv];simp[h]
 refine c45.ok (by simp) (aM ?_);simp;apply aa.ai aB fw [0,1];simp[XH];apply aa.sq aB fw [0,1,5];simp[Mk];apply aa.block;refine aa.loop (λj:Nat=>⟨DM.look [(0,.v (.sl (bW l))),(1,.v (ti aN)),(5,.v (ti j))],cF [],2000,1000,[]⟩)
  (λj=>j<=l.length/\∀i,i<j->rQ (l.getD i default) aN) (λj=>l.length-j) 0 (Le.bi (o:=[]) ?_ ?_ ?_ ?_) (by simp) (λj hj=>?_)
 iterate 4(·simp)
 obtain⟨mq,fA⟩:=hj;apply aa.sq aB fw [0,1,5,9];simp[XI];refine aa.cond rfl (λct=>?_) (λct=>?_)
 ·simp at ct;have r1:=fJ ct;apply aa.skip;simp;apply aa.seq;apply aa.block;obtain⟨u,hu⟩:=aW (l.getD j default);rw[hu]at r1;apply aa.ai aB fw [0,1,5,18];obtain⟨a,b,c⟩:=u;simp[XJ,ct,r1,cQ.enc];rw[show uT [ti a,T.sl (aD b),ti c]=⟨a,b,c⟩from qT ⟨a,b,c⟩];refine⟨⟨⟨a,b,c⟩,aN,⟨⟨rfl,rfl,rfl⟩,rfl⟩,h2⟩, ?_⟩;refine aa.cond rfl (λh=>?_) (λh=>?_)
  ·simp at h;apply aa.ai aB fw [4];simp[XK];apply aa.ret;rw[dm λe=>h (by have:=e j ct;rw[hu]at this;exact this)];simp[dw]
  ·simp at h;apply aa.skip;simp;apply aa.dZ aB fw [0,1,5];simp[atJ];rw[aA (by omega)];refine⟨j+1,Le.bi (o:=[]) ?_ ?_ ?_ ?_,⟨by omega,λi hi=>?_⟩,by omega⟩;iterate 4(·simp)
   ·by_cases e:i=j
    ·subst e;show rQ (l.getD i default) aN;rw[hu];exact h
    ·exact fA i (by omega)
 simp at ct;apply aa.exit;simp;apply aa.ai aB fw [4];simp[atK];apply aa.ret;have:v=true:=by
  rw[<-hv,sa];exact λi hi=>fA i (by omega)
 rw[this];simp[dw]
abbrev akB:DM.Spec:=cK (λts=>∃(l:List cQ) (t:Int),ts=[.sl (bW l),ti t]/\l.length<=1000000000000/\t<=1000000000000) (fun|[.sl c,.int _ t]=>.bool (decide (lQ (Eg c) t))|_=>.bool false) true
def axa:ay aj (bB [(37,akB)]):=by
 refine ay.cons ay.nil ?_;rintro ts ⟨c,t,rfl,h1,h2⟩;exact⟨by simpa using t45 c t h1 h2,λ_=>rfl⟩
def t28(x:Input)(aN:Int)(ht:aN<=1000000000000):bb aj 23 [x.enc,ti aN] (.bool (decide (OD x aN))):=by
 have aB:=axa;obtain⟨v,hv⟩:=aW (decide (OD x aN));rw[hv];have dm:¬OD x aN->v=false:=λh=>by rw[<-hv];simp[h]
 have dv:OD x aN↔(¬(aN<0\/(x.av.length:Int)>60\/(x.insert.length:Int)≠aN\/x.swap<0\/x.swap>60000\/¬lQ x.av aN))/\∀t,t<aN.toNat->AG x.insert t:=Iff.rfl;refine c28.ok (by simp) (aM ?_);simp[Input.enc];apply aa.ai aB fw [1,2];simp[atB];refine aa.lk (o:=[]) (l:=[(1,.v (ti aN)),(2,.v (.box [.sl (bW x.av),.sl (aD x.insert),ti x.swap]))]) (aV:=1200) (by simp) ?_;apply aa.seq;obtain⟨b,hb⟩:=aW (decide (aN<0\/(x.av.length:Int)>60\/(x.insert.length:Int)≠aN\/x.swap<0\/x.swap>60000\/¬lQ x.av aN):Bool);refine aa.ci aB fw [(1,.v (ti aN)),(2,.v (.box [.sl (bW x.av),.sl (aD x.insert),ti x.swap])),(37,.v (.bool b))] ?_ ?_
 ·by_cases q1:aN<0
  ·have gb:b=true:=by rw[<-hb];simp[q1]
   simp[Gj,q1,gb]
  ·by_cases q2:60<(x.av.length:Int)
   ·have gb:b=true:=by rw[<-hb];simp[q2]
    simp[Gj,q1,q2,gb]
   ·by_cases q3:(x.insert.length:Int)=aN
    ·by_cases q4:x.swap<0
     ·have gb:b=true:=by rw[<-hb];simp[q4]
      simp[Gj,q1,q2,q3,q4,gb]
     ·by_cases q5:60000<x.swap
      ·have gb:b=true:=by rw[<-hb];simp[q5]
       simp[Gj,q1,q2,q3,q4,q5,gb]
      ·by_cases q6:lQ x.av aN
       ·have gb:b=false:=by rw[<-hb];simp only[zM];rintro(h|h|h|h|h|h)<;>first|omega|exact h q6
        simp[Gj,q1,q2,q3,q4,q5,q6,gb];exact⟨x.av,aN,⟨rfl,rfl⟩,by omega,ht⟩
       ·have gb:b=true:=by rw[<-hb];simp[q6]
        simp[Gj,q1,q2,q3,q4,q5,q6,gb];exact⟨x.av,aN,⟨rfl,rfl⟩,by omega,ht⟩
    ·have gb:b=true:=by rw[<-hb];simp[q3]
     simp[Gj,q1,q2,q3,gb]
 refine aa.cond rfl (λh=>?_) (λh=>?_)
 ·rw[h]at hb;simp only[sa]at hb;apply aa.ai aB fw [4];simp[atC];apply aa.ret;rw[dm λe=>(dv.1 e).1 hb];simp[dw]
 rw[h]at hb;simp only[zM]at hb;have IY:(x.insert.length:Int)=aN:=by
  by_cases e:(x.insert.length:Int)=aN
  ·exact e
  ·exact eK (.inr (.inr (.inl e))) hb
 obtain⟨n,hn⟩:=aW x.insert.length;rw[hn]at IY;subst IY;apply aa.skip;simp;apply aa.sq aB fw [1,2,5];simp[atD];apply aa.block;refine aa.loop (λy:Nat=>⟨DM.look [(1,.v (ti n)),(2,.v (.box [.sl (bW x.av),.sl (aD x.insert),ti x.swap])),(5,.v (ti y))],cF [],2000,1000,[]⟩)
  (λy=>y<=n/\∀t,t<y->AG x.insert t) (λy=>n-y) 0 (Le.bi (o:=[]) ?_ ?_ ?_ ?_) (by simp) (λy hy=>?_)
 iterate 4(·simp)
 obtain⟨mq,fA⟩:=hy;apply aa.sq aB fw [1,2,5,40];simp[atE];refine aa.cond rfl (λct=>?_) (λct=>?_)
 ·simp at ct;have LC:y<x.insert.length:=by omega
  have r1:=cH LC;obtain⟨u,hu⟩:=aW (x.insert.getD y default);rw[hu]at r1;have kO:AG x.insert y↔¬(u<1\/u>60000):=by unfold AG;rw[hu]
  apply aa.skip;simp;apply aa.seq;apply aa.block;refine aa.ci aB fw [(1,.v (ti n)),(2,.v (.box [.sl (bW x.av),.sl (aD x.insert),ti x.swap])),(5,.v (ti y)),(56,.v (.bool (decide (u<1\/60000<u))))] ?_ ?_
  ·by_cases q1:u<1
   ·simp[ag3,r1,LC,q1]
   ·by_cases q2:60000<u<;>simp[ag3,r1,LC,q1,q2]
  refine aa.cond rfl (λh=>?_) (λh=>?_)
  ·simp only[sa]at h;apply aa.ai aB fw [4];simp[atF];apply aa.ret;rw[dm λe=>kO.1 ((dv.1 e).2 y (by simpa using ct)) h];simp[dw]
  ·simp only[zM]at h;apply aa.skip;simp;apply aa.dZ aB fw [1,2,5];simp[atG];rw[aA (by omega)];refine⟨y+1,Le.bi (o:=[]) ?_ ?_ ?_ ?_,⟨by omega,λi hi=>?_⟩,by omega⟩;iterate 4(·simp)
   ·by_cases e:i=y
    ·subst e;exact kO.2 h
    ·exact fA i (by omega)
 simp at ct;apply aa.exit;simp;apply aa.ai aB fw [4];simp[atH];apply aa.ret;have:v=true:=by
  rw[<-hv,sa];exact dv.2 ⟨hb,λi hi=>fA i (by simp at hi;omega)⟩
 rw[this];simp[dw]
def AH{a b:Int}(ha:0<=a)(hb:0<=b):0<=pI a b:=by unfold pI;split<;>omega
section
variable{zc:Nat}{es:List (Nat×T×DV)}
def Na(es:List (Nat×T×DV)):Prop:=∀e∈es,∃a:cC,e.2.2=.v (.agg a.enc)
def ZA{f:bF}{N n:Nat}{l0 l1:df}(ba:dy f N)(h0:∀p∈l0,N<=p.1)(h1:∀p∈l1,N<=p.1)(hn:f n≠none):sameAt (aR l0 f) (aR l1 f) n:=by
 obtain⟨o,ho⟩:=Zb5.1 hn;have eG:=(ba n o ho).1;refine⟨o,o, ?_, ?_,bq o⟩
 ·rw[fY λo' h=>by have:=h0 _ h;simp only at this;omega];exact ho
 ·rw[fY λo' h=>by have:=h1 _ h;simp only at this;omega];exact ho
def ZB{k:T}{c:Int}{y:DV}{e:Nat×T×DV}(h:e∈tR k c y zc es):e.2.2=y\/∃e'∈es,e.2.2=e'.2.2:=by
 unfold tR at h;split at h
 ·rename_i hbt;clear hbt;unfold IW at h;split at h
  ·rename_i i hi;clear hi;induction es generalizing i with
   |nil=>simp at h
   |cons e0 es ih=>
    cases i with
    |zero=>
     simp only[ZcF,gm]at h;rcases h with rfl|h
     ·exact .inl rfl
     ·exact .inr ⟨e,by simp[h],rfl⟩
    |succ i=>
     simp only[Zcl,gm]at h;rcases h with rfl|h
     ·exact .inr ⟨e,by simp,rfl⟩
     ·rcases ih i h with h|⟨e',h1,h2⟩
      ·exact .inl h
      ·exact .inr ⟨e',by simp[h1],h2⟩
  ·rcases oJ.1 h with h|h
   ·exact .inr ⟨e,h,rfl⟩
   ·simp only[pe]at h;subst h;exact .inl rfl
 ·exact .inr ⟨e,h,rfl⟩
def k48:bM->bF->gC
 |[.ptr b 0,.agg [.v (.int .i64 f),.v (.int .i64 t),.v (.int .i64 x),.v (.int .i64 c),d]],ab=>
  match ab b with
  |some (.box [_,_,_,.jG m])=>match ab m with
   |some (.map cL agg zc es)=>⟨cL=nN/\agg=true/\Na es/\lH d/\∀n∈aT d,ab n≠none,.v (.eE []),
     eY ab m (.map nN true (zd (keyOf f t x) c zc es) (tR (keyOf f t x) c (.agg [.v (ti f),.v (ti t),.v (ti x),.v (ti c),d]) zc es))⟩
   |_=>⟨False,.undef,ab⟩
  |_=>⟨False,.undef,ab⟩
 |_,ab=>⟨False,.undef,ab⟩
def t48{f0:bF}{b m:Nat}{c1 c2 c3:DV}{f t x c:Int}{d:DV}{N:Nat}(hN:∀r,N<=r->f0 r=none)(hb:f0 b=some (.box [c1,c2,c3,.jG m]))(hm:f0 m=some (.map nN true zc es))(he:Na es)(hd:lH d)(LH:∀n∈aT d,f0 n≠none):
  aY aj 75 [.ptr b 0,.agg [.v (ti f),.v (ti t),.v (ti x),.v (ti c),d]] f0 ⟨True,.v (.eE []),eY f0 m (.map nN true (zd (keyOf f t x) c zc es) (tR (keyOf f t x) c (.agg [.v (ti f),.v (ti t),.v (ti x),.v (ti c),d]) zc es))⟩:=by
 have aB:=cR;refine c48.rJ hN (by simp) λba=>?_;have SS:b<N:=(ba b _ hb).1;have Dj:m<N:=(ba m _ hm).1;have Cc:b≠m:=λe=>by rw[e,hm]at hb;cases hb
 have nb:∀k,b≠N+k:=λk=>by omega
 have nm:∀k,m≠N+k:=λk=>by omega
 simp;apply aa.ai aB fw [0,3];simp[asX];apply aa.ai aB fw [0,3,4];simp[asY];obtain⟨k,hk⟩:=aW (keyOf f t x);have wo:T.agg [ti f,ti t,ti x]=k:=hk;rw[hk];refine aa.le (Le.eA (l1:=[(N+49,.box [.v (ti f),.v (ti t),.v (ti x)]),(N+4,.box [.v (ti f),.v (ti t),.v (ti x),.v (ti c),d])]) (l:=[(0,.ptr b 0),(3,.ptr (N+4) 0),(4,.ptr (N+49) 0)]) (aV:=N+100) ba ?_ ?_ ?_ ?_ ?_) ?_
 ·omega
 ·simp
 ·simp[bZ]
 ·refine⟨⟨.box [.v (ti f),.v (ti t),.v (ti x)],by simp[fQ],.inl (by simp),by omega⟩,⟨.box [.v (ti f),.v (ti t),.v (ti x),.v (ti c),d],by simp[fQ],.inr ⟨rfl,λn hn=>?_⟩,by omega⟩,trivial⟩;refine ZA ba ?_ ?_ (LH n (by simpa [be,bR,aT]using hn))
  ·simp;omega
  ·simp
 ·simp[hb,nb,fQ]
 have hko:fu nN true k:=by rw[<-hk];simp[keyOf]
 have H:∀(q1 q2 q3 q5:DV) (oc:Int) (fnd:Bool),fnd=(tr k es).isSome->(∀e,tr k es=some e->oc=Kf e.2.2)->
   aa aj 43 ((DC.region false (dX 75 3)).seq (DC.cond (cg.tmp 36) (DC.region true (dX 75 4)) DC.skip))
    (BQ PW ⟨True,.v (.eE []),eY f0 m (.map nN true (zd k c zc es) (tR k c (.agg [.v (ti f),.v (ti t),.v (ti x),.v (ti c),d]) zc es))⟩)
    ⟨DM.look [(0,.ptr b 0),(3,.ptr (N+4) 0),(4,.ptr (N+49) 0),(5,.ptr (N+106) 0),(6,.v (.bool fnd))],
     aR [(N+106,.box [q1,q2,q3,.v (ti oc),q5]),(N+106,.box [.v (ti 0),.v (ti 0),.v (ti 0),.v (ti 0),.bH]),(N+49,.box [.v (ti f),.v (ti t),.v (ti x)]),(N+4,.box [.v (ti f),.v (ti t),.v (ti x),.v (ti c),d])] f0,N+144,N,[]⟩:=by
  intro q1 q2 q3 q5 oc fnd afd hoc;have awZ:zb k c es=(decide (c<1099511627776)&&(!fnd||decide (c<oc))):=by
   unfold zb;cases hf:tr k es with
   |none=>simp[hf]at afd;simp[afd]
   |some e=>simp[hf]at afd;simp[afd,hoc e hf]
  obtain⟨y,hy⟩:=aW (DV.agg [.v (ti f),.v (ti t),.v (ti x),.v (ti c),d]);have DN:∀n∈aT y,f0 n≠none:=by
   intro n hn;refine LH n ?_;rw[<-hy]at hn;simpa [aT,bR]using hn
  have rP:∀e∈es,aT e.2.2=[]:=λe he'=>by obtain⟨a,ha⟩:=he e he';rw[ha];rfl
  rw[hy];refine aa.to ⟨DM.look [],aR [(m,.map nN true (zd k c zc es) (tR k c y zc es))] f0,N+1000,N,[]⟩ ?_ (by simp[PW];rfl);refine aa.ci aB fw [(0,.ptr b 0),(3,.ptr (N+4) 0),(4,.ptr (N+49) 0),(36,.v (.bool (zb k c es)))] ?_ ?_
  ·by_cases s1:c<1099511627776<;>cases fnd<;>by_cases s2:c<oc<;>simp[asZ,s1,s2,awZ]
  refine aa.cond rfl (λh=>?_) (λh=>?_)
  ·apply aa.dZ aB fw [];simp[-fu,as0,fQ,nb,nm,hb,hm,wo,hko];refine Le.eA (l:=[]) ba ?_ ?_ ?_ ?_ ?_
   ·omega
   ·simp;omega
   ·simp[bZ];omega
   ·refine⟨⟨.map nN true (zd k c zc es) (tR k c y zc es),by simp[zd,tR,h,hy],.inr ⟨rfl,λn hn=>?_⟩,λ_=>bq _⟩,trivial⟩
    ·simp only[be,KQ]at hn;obtain⟨e,he',hn⟩:=hn;rcases ZB he' with h'|⟨e',h',h''⟩
     ·rw[h']at hn;obtain⟨o,ho⟩:=Zb5.1 (DN n hn);have eG:=(ba n o ho).1;by_cases hnm:n=m
      ·subst hnm;exact⟨.map nN true (zd k c zc es) (tR k c y zc es),.map nN true (zd k c zc es) (tR k c y zc es),by simp[zd,tR,h,hy],by simp,bq _⟩
      ·refine⟨o,o, ?_, ?_,bq o⟩
       ·simp[hnm,show n≠N+106 by omega,show n≠N+49 by omega,show n≠N+4 by omega,ho]
       ·simp[hnm,ho]
     ·rw[h'',rP e' h']at hn;cases hn
   ·simp
  ·refine aa.skip ⟨rfl,Le.eA (l:=[]) ba ?_ ?_ ?_ ?_ ?_⟩
   ·omega
   ·simp;omega
   ·simp[bZ];omega
   ·refine⟨⟨.map nN true zc es,by simp[nm,hm],.inr ⟨by simp[zd,tR,h],λn hn=>?_⟩,λ_=>by simp[kp]⟩,trivial⟩
    ·simp only[be,KQ]at hn;obtain⟨e,he',hn⟩:=hn;rw[rP e he']at hn;cases hn
   ·simp
 apply aa.ai aB fw [0,3,4,5,6];cases hf:tr k es with
 |none=>
  simp[-fu,agZ,fQ,nb,nm,hb,hm,wo,hko,hf];exact H _ _ _ _ 0 false (by simp[hf]) (by simp[hf])
 |some e=>
  obtain⟨a,ha⟩:=he e (Zcp hf);simp[-fu,agZ,fQ,nb,nm,hb,hm,wo,hko,hf,ha,cC.enc];exact H _ _ _ _ a.aH true (by simp[hf]) (by intro e' he';rw[hf]at he';cases he';simp[ha,cC.enc,Kf])
end
section
variable{al:List cC}{f0:bF}
def Nb(ts:aK):Prop:=∃l:List (Int×Int),ts=[.sl (eJ l)]/\l.length<=1000000
def ZC:aK->List (aK)
 |[.sl aw]=>aw
 |_=>[]
abbrev Γ4:pW:=bB [(75,eL k48),(76,Am Nb ZC 117 2)]
def ok4:ay aj Γ4:=by
 refine ay.iL (ay.WZ ay.nil ?_) ?_
 ·rintro ts ⟨l,rfl,h⟩;exact t49 l h
 ·intro args ab h;unfold k48 at h⊢;split at h
  ·rename_i b f t x c d aI;split at h
   ·rename_i c1 c2 c3 m hb;split at h
    ·rename_i cL agg zc es hm;obtain⟨rfl,rfl,he,hd,LH⟩:=h;refine⟨λN hN=>?_,λr hr=>?_⟩
     ·exact aY.of (t48 hN hb hm he hd LH) (by simp[]) (by simp[])
     ·simp only[];exact xy hm hr
    ·exact h.elim
   ·exact h.elim
  ·exact h.elim
def P1{a b:bF}{k:T}{c:Int}{y y':DV}{zc:Nat}{es:List (Nat×T×DV)}(hy:jB a b id y y')(he:Na es):kE a b id (tR k c y zc es) (tR k c y' zc es):=by
 have self:∀{l:List (Nat×T×DV)},Na l->kE a b id l l:=λ{l} hl=>qO λe h=>by obtain⟨x,hx⟩:=hl e h;rw[hx];simp
 unfold tR;split
 ·rename_i hbt;clear hbt;unfold IW;split
  ·rename_i i hi;clear hi;induction es generalizing i with
   |nil=>simp[kE]
   |cons e es ih=>
    cases i with
    |zero=>simp only[ZcF,kE];exact⟨trivial,trivial,hy,self λe' h=>he e' (by simp[h])⟩
    |succ i=>
     simp only[Zcl,kE];obtain⟨x,hx⟩:=he e (by simp);exact⟨trivial,trivial,by rw[hx];simp,ih (λe' h=>he e' (by simp[h])) i⟩
  ·rename_i hn;clear hn;induction es with
   |nil=>simp only[zQ,kE];exact⟨trivial,trivial,hy,trivial⟩
   |cons e es ih=>
    simp only[Dy,kE];obtain⟨x,hx⟩:=he e (by simp);exact⟨trivial,trivial,by rw[hx];simp,ih λe' h=>he e' (by simp[h])⟩
 ·exact self he
def gS(al:List cC):Na (dN al):=UH al
def Ie{a b:bF}{c:cC}{d:DV}(hd:jB a b id d (.v (.sl (eJ c.ops)))):
  eZ a b (.map nN true (zd c.key c.aH al.length (dN al)) (tR c.key c.aH (.agg [.v (ti c.f),.v (ti c.t),.v (ti c.term),.v (ti c.aH),d]) al.length (dN al))) (da (yA al c)):=by
 obtain⟨h1,h2⟩:=Kg c al;refine .inl ?_;unfold da;rw[<-h1,<-h2];simp only[px];refine⟨trivial,trivial,trivial,P1 ?_ (gS al)⟩;simp[cC.enc,hd]
def Cd(l:List (Int×Int))(a b:Int):eJ l++[[ti a,ti b]]=eJ (l++[(a,b)]):=by simp[eJ]
def P2{N m r r2 aJ aV v:Nat}{tm:dG}{l:fg}{o2:Ob}(c:cC){aw:List (aK)}(ba:dy f0 N)(hm:m<N)(hr:N<=r)(yd:N<=r2)(hn:N<=aV)(ew:aw=eJ c.ops)
  (g8:gf (aR [(m,.map nN true (zd c.key c.aH al.length (dN al)) (tR c.key c.aH (.agg [.v (ti c.f),.v (ti c.t),.v (ti c.term),.v (ti c.aH),.bE r v]) al.length (dN al))),(r,.bJ v 117 2 aw),(r2,o2),(m,.map nN true al.length (dN al))] f0) (aR [(m,da (yA al c))] f0) id tm l):
  Le ⟨tm,eY (aR [(r,.bJ v 117 2 aw),(r2,o2),(m,.map nN true al.length (dN al))] f0) m (.map nN true (zd c.key c.aH al.length (dN al)) (tR c.key c.aH (.agg [.v (ti c.f),.v (ti c.t),.v (ti c.term),.v (ti c.aH),.bE r v]) al.length (dN al))),aJ,N,[]⟩
   ⟨DM.look l,aR [(m,da (yA al c))] f0,aV,N,[]⟩:=by
 subst ew;rw[kW];refine Le.eA ba hn ?_ ?_ ?_ g8
 ·simp;omega
 ·simp[bZ];omega
 ·refine⟨⟨_,by simp,Ie (d:=.bE r v) ?_,λ_=>by simp[kp,da]⟩,trivial⟩;simp[show r≠m by omega];exact bQ ba hr (by simp;omega)
def UJ(al:List cC):be (da al)=[]:=by
 simp only[da,be,List.flatMap_eq_nil_iff];intro e he;obtain⟨a,ha⟩:=gS al e he;rw[ha];rfl
def tS{a b:bF}(al:List cC):eZ a b (da al) (da al):=.inr ⟨rfl,λn hn=>by rw[UJ]at hn;cases hn⟩
def c6(al:List cC)(cs:List cC):List cC:=cs.foldl yA al
def iZ(al cs ds:List cC):c6 al (cs++ds)=c6 (c6 al cs) ds:=by simp[c6]
def nJ(read:bY)(i m aH:Int)(ops:List (Int×Int))(n:Nat):List cC:=
 (List.range n).flatMap λt=>if 0<=read.getD t 0 then [⟨2*i,2*m+2,t,aH+read.getD t 0,ops++[(1,(t:Int))]⟩]else []
def P3(read:bY)(i m aH:Int)(ops:List (Int×Int))(n:Nat):nJ read i m aH ops (n+1)=nJ read i m aH ops n++(if 0<=read.getD n 0 then [⟨2*i,2*m+2,n,aH+read.getD n 0,ops++[(1,(n:Int))]⟩]else []):=by
 simp[nJ,B3]
def ST(c:cQ):Prop:=c.read.length<=1000000/\∀p∈c.read,p<=1099511627776
def t47{b m:Nat}{x:Input}{i j:Nat}{aH:Int}{ops:List (Int×Int)}{N:Nat}(hN:∀r,N<=r->f0 r=none)(hb:f0 b=some (.box (dI x m)))(hm:f0 m=some (da al))
  (hi:i<=1000000) (hj:j<x.av.length) (hl:x.av.length<=1000000) (hc:ST (x.av.getD j default)) (wB:0<=aH/\aH<=1099511627776) (ahN:ops.length<=1000000):
  aY aj 74 [.ptr b 0,.v (ti i),.v (ti j),.v (ti aH),.v (.sl (eJ ops))] f0 ⟨True,.v (.eE []),eY f0 m (da (c6 al (nJ (x.av.getD j default).read i j aH ops (x.av.getD j default).read.length)))⟩:=by
 have aB:=ok4;refine c47.rJ hN (by simp) λba=>?_;have SS:b<N:=(ba b _ hb).1;have Dj:m<N:=(ba m _ hm).1;have Cc:b≠m:=λe=>by rw[e,hm]at hb;cases hb
 have nb:∀k,b≠N+k:=λk=>by omega
 have nm:∀k,m≠N+k:=λk=>by omega
 have iq:=fJ hj;obtain⟨col,ahA⟩:=aW (x.av.getD j default);rw[ahA]at iq hc⊢;obtain⟨kd,read,del⟩:=col;simp only at hc⊢;obtain⟨bI,fW⟩:=hc;simp only at bI fW;have ew:∀r∈eJ ops,r.length=2:=by intro r hr;simp only[eJ,iF]at hr;obtain⟨c,_,rfl⟩:=hr;rfl
 simp;apply aa.ai aB fw [0,1,2,3,4,20,21,22];simp[asS,hb,dI,hj,iq,cQ.enc];refine aa.to ⟨DM.look [],aR [(m,da (c6 al (nJ read i j aH ops read.length)))] f0,N+1000,N,[]⟩ ?_ (by simp[Zx];rfl);apply aa.block;refine aa.loop (λy:Nat=>⟨DM.look [(0,.ptr b 0),(1,.v (ti i)),(2,.v (ti j)),(3,.v (ti aH)),(4,.v (.sl (eJ ops))),(20,.v (.sl (aD read))),(21,.v (ti read.length)),(22,.v (ti y))],aR [(m,da (c6 al (nJ read i j aH ops y)))] f0,N+200,N,[]⟩)
  (λy=>y<=read.length) (λy=>read.length-y) 0 (Le.eA ba ?_ ?_ ?_ ?_ ?_) (by simp) (λy hy=>?_)
 ·omega
 ·simp;omega
 ·simp[bZ]
 ·exact⟨⟨da al,by simp[hm],by simpa [nJ,c6]using tS al,λ_=>trivial⟩,trivial⟩
 ·simp[hb,Cc]
 apply aa.ai aB fw [0,1,2,3,4,20,21,22,23];simp[asT];apply aa.seq;refine aa.cond rfl (λct=>?_) (λct=>?_)
 ·simp at ct;apply aa.skip;simp;apply aa.seq;apply aa.block;have yd:=cH ct;obtain⟨p,hp⟩:=aW (read.getD y default);have hp0:read.getD y 0=p:=hp;have hpm:p<=1099511627776:=fW p (by rw[<-hp];simp[List.getD,ct]);rw[hp]at yd;apply aa.ai aB fw [0,1,2,3,4,10,11,20,21,22];simp[asU,yd,ct];apply aa.ai aB fw [0,1,2,3,4,10,11,20,21,22,28];simp[asV];have kJ:=P3 read i j aH ops y;rw[hp0]at kJ;obtain⟨aly,UK⟩:=aW (c6 al (nJ read i j aH ops y));rw[UK];refine aa.to ⟨DM.look [(0,.ptr b 0),(1,.v (ti i)),(2,.v (ti j)),(3,.v (ti aH)),(4,.v (.sl (eJ ops))),(20,.v (.sl (aD read))),(21,.v (ti read.length)),(22,.v (ti y))],aR [(m,da (c6 al (nJ read i j aH ops (y+1))))] f0,N+1000,N,[]⟩ ?_ ?_
  ·refine aa.cond rfl (λhd=>?_) (λhd=>?_)
   ·simp at hd;refine aa.pO aB fw (rs:=Zw) (.inr ⟨_,ji⟩) (by kernel_rfl) [0,1,2,3,4,20,21,22] ?_;have w1:IntKind.i64.wrap (2*(i:Int))=2*i:=aA (by omega);have w2:IntKind.i64.wrap (2*(j:Int))=2*j:=aA (by omega);have w3:IntKind.i64.wrap (2*(j:Int)+2)=2*j+2:=aA (by omega);have w4:IntKind.i64.wrap (aH+p)=aH+p:=aA (by omega);simp[Zw,w1,w2,w3,w4,ZC,Nb,eX,du,k48,hb,dI,Cc,da,gS,fQ,nb,nm];refine⟨⟨ops,rfl,ahN⟩,by omega,λn hn=>?_, ?_⟩
    ·simp only[aT,pe]at hn;subst hn;simp
    ·have e:c6 al (nJ read i j aH ops (y+1))=yA aly ⟨2*i,2*j+2,y,aH+p,ops++[(1,(y:Int))]⟩:=by
      rw[kJ,cG hd,iZ,UK];rfl
     rw[e];refine P2 ⟨2*i,2*j+2,y,aH+p,ops++[(1,(y:Int))]⟩ ba Dj ?_ ?_ ?_ (Cd _ _ _) ?_
     ·omega
     ·omega
     ·omega
     ·simp[hb,Cc]
   ·simp at hd;have e:c6 al (nJ read i j aH ops (y+1))=aly:=by
     rw[kJ,bj (by omega),xP,UK]
    rw[e];refine aa.skip ⟨rfl,Le.eA ba ?_ ?_ ?_ ?_ ?_⟩
    ·omega
    ·simp;omega
    ·simp[bZ]
    ·exact⟨⟨da aly,by simp[da],tS _,λ_=>bq _⟩,trivial⟩
    ·simp[hb,Cc]
  ·apply aa.dZ aB fw [0,1,2,3,4,20,21,22];simp[asW];rw[aA (by omega)];refine⟨y+1,Le.eA ba ?_ ?_ ?_ ?_ ?_,by omega,by omega⟩
   ·omega
   ·simp;omega
   ·simp[bZ]
   ·exact⟨⟨_,by simp,tS _,λ_=>bq _⟩,trivial⟩
   ·simp[hb,Cc]
 ·simp at ct;have:y=read.length:=by omega
  subst this;apply aa.exit;refine⟨rfl, ?_⟩;refine Le.eA (l:=[]) ba ?_ ?_ ?_ ?_ ?_
  ·omega
  ·simp;omega
  ·simp[bZ]
  ·exact⟨⟨_,by simp,tS _,λ_=>bq _⟩,trivial⟩
  ·simp
end
section
variable{ab:bF}{al:List cC}
def ii(ab:bF)(b:Nat):Input×Nat:=
 match ab b with
 |some (.box [.v (.sl c),.v (.sl i),.v (.int .i64 s),.jG m])=>(⟨Eg c,nj i,s⟩,m)
 |_=>(⟨[],[],0⟩,0)
def Eh{b m:Nat}{x:Input}(h:ab b=some (.box (dI x m))):ii ab b=(x,m):=by
 simp[ii,h,dI]
def Ce(ab:bF)(m:Nat):List cC:=
 match ab m with
 |some (.map _ _ _ es)=>es.map λe=>match e.2.2 with|.v (.agg r)=>pn r|_=>default
 |_=>[]
def If{m:Nat}(h:ab m=some (da al)):Ce ab m=al:=by
 simp only[Ce,h,da,dN,Zdq];rw[show(List.map ((λe=>match e.2.2 with|DV.v (T.agg r)=>pn r|_=>default)∘λp=>(p.2,p.1.key,DV.v (T.agg p.1.enc))) al.zipIdx)=al.zipIdx.map Prod.fst from ZbC λp _=>by simp];simp
def k31:bM->bF->gC
 |[.ptr b 0,.v (.int .i64 i),.v (.int .i64 j)],ab=>⟨ab b=some (.box (dI (ii ab b).1 (ii ab b).2))/\0<=i/\i<=j/\j<=(ii ab b).1.av.length/\rV (ii ab b).1.av,
   .v (.eE [ti (gE (((ii ab b).1.av.take j.toNat).drop i.toNat) 0),.sl (eJ (fN (j.toNat-i.toNat)))]),ab⟩
 |_,ab=>⟨False,.undef,ab⟩
def Cf{b m:Nat}{x:Input}{i j:Nat}(h:ab b=some (.box (dI x m))):
  k31 [.ptr b 0,.v (ti i),.v (ti j)] ab=⟨i<=j/\j<=x.av.length/\rV x.av,.v (.eE [ti (gE ((x.av.take j).drop i) 0),.sl (eJ (fN (j-i)))]),ab⟩:=by
 simp only[k31,Eh h,h,iA,rO,Int.ofNat_le,ZcT];try omega
def k50:bM->bF->gC
 |[.ptr b 0,.v (.int .i64 i)],ab=>⟨ab b=some (.box (dI (ii ab b).1 (ii ab b).2))/\0<=i/\i<=1000000/\(ii ab b).1.av.length<=1000000,.v (.bool (c7 (ii ab b).1 i.toNat)),ab⟩
 |_,ab=>⟨False,.undef,ab⟩
def ZD{b m:Nat}{x:Input}{i:Nat}(h:ab b=some (.box (dI x m))):
  k50 [.ptr b 0,.v (ti i)] ab=⟨i<=1000000/\x.av.length<=1000000,.v (.bool (c7 x i)),ab⟩:=by
 simp only[k50,Eh h,h,iA,gC.mk.injEq,and_self,Lt,rO,eq_iff_iff,ZcT];try omega
def k47:bM->bF->gC
 |[.ptr b 0,.v (.int .i64 i),.v (.int .i64 j),.v (.int .i64 aH),.v (.sl ops)],ab=>
  ⟨ab b=some (.box (dI (ii ab b).1 (ii ab b).2))/\ab (ii ab b).2=some (da (Ce ab (ii ab b).2))/\ops=eJ (B9 ops)/\0<=i/\i<=1000000/\0<=j/\j<(ii ab b).1.av.length/\(ii ab b).1.av.length<=1000000/\ST ((ii ab b).1.av.getD j.toNat default)/\0<=aH/\aH<=1099511627776/\(B9 ops).length<=1000000,.v (.eE []),
   eY ab (ii ab b).2 (da (c6 (Ce ab (ii ab b).2) (nJ ((ii ab b).1.av.getD j.toNat default).read i.toNat j.toNat aH (B9 ops) ((ii ab b).1.av.getD j.toNat default).read.length)))⟩
 |_,ab=>⟨False,.undef,ab⟩
def aki{b m:Nat}{x:Input}{i j:Nat}{aH:Int}{ops:List (Int×Int)}(h:ab b=some (.box (dI x m)))(hm:ab m=some (da al)):
  k47 [.ptr b 0,.v (ti i),.v (ti j),.v (ti aH),.v (.sl (eJ ops))] ab=⟨i<=1000000/\j<x.av.length/\x.av.length<=1000000/\ST (x.av.getD j default)/\0<=aH/\aH<=1099511627776/\ops.length<=1000000,.v (.eE []),
   eY ab m (da (c6 al (nJ (x.av.getD j default).read i j aH ops (x.av.getD j default).read.length)))⟩:=by
 simp only[k47,Eh h,h,If hm,hm,iA,PY,rO,Int.ofNat_lt,ZcT,show((i:Int)<=1000000)=(i<=1000000)from propext ⟨λh=>by omega,λh=>by omega⟩]
abbrev Γ5:pW:=bB [(75,eL k48),(74,eL k47),(48,eL k31),(77,eL k50),(76,Am Nb ZC 117 2)]
def ok5:ay aj Γ5:=by
 refine ay.iL (ay.iL (ay.iL (ay.iL (ay.WZ ay.nil ?_) ?_) ?_) ?_) ?_
 ·rintro ts ⟨l,rfl,h⟩;exact t49 l h
 ·intro args ab h;unfold k50 at h⊢;split at h
  ·rename_i aI b i;obtain⟨hb,h1,h2,h3⟩:=h;obtain⟨i,rfl⟩:=jm h1;refine⟨λN hN=>?_,λr hr=>hr⟩;exact aY.of (t50 hN hb (by omega) h3) (by simp) (by simp)
  ·exact h.elim
 ·intro args ab h;unfold k31 at h⊢;split at h
  ·rename_i aI b i j;obtain⟨hb,h1,h2,h3,h4⟩:=h;obtain⟨i,rfl⟩:=jm h1;obtain⟨j,rfl⟩:=jm (show 0<=j by omega);refine⟨λN hN=>?_,λr hr=>hr⟩;exact aY.of (t31 hN hb (by omega) (by omega) h4) (by simp) (by simp)
  ·exact h.elim
 ·intro args ab h;unfold k47 at h⊢;split at h
  ·rename_i aI b i j aH ops;obtain⟨hb,hm,ho,h1,h2,h3,h4,h5,h6,h7,h8,h9⟩:=h;obtain⟨i,rfl⟩:=jm h1;obtain⟨j,rfl⟩:=jm h3;refine⟨λN hN=>?_,λr hr=>xy hm hr⟩;rw[ho];exact aY.of (t47 hN hb hm (by omega) (by omega) h5 h6 ⟨h7,h8⟩ h9) (by simp) (by simp)
  ·exact h.elim
 ·intro args ab h;exact(ok4 75 (eL k48) rfl).st k48 rfl args ab h
end
section
variable{f0:bF}{al:List cC}
def mE(x:Input)(i m:Nat):Int:=gE ((x.av.take m).drop i) 0
def vV(cz:bY)(i m aH:Int)(ops:List (Int×Int))(n:Nat):List cC:=
 (List.range n).map λ(t:Nat)=>⟨2*i,2*m,(t:Int),aH+cz.getD t 0,ops++[(3,(t:Int))]⟩
def UL(cz:bY)(i m aH:Int)(ops:List (Int×Int))(n:Nat):vV cz i m aH ops (n+1)=vV cz i m aH ops n++[⟨2*i,2*m,n,aH+cz.getD n 0,ops++[(3,(n:Int))]⟩]:=by
 simp[vV,B3]
def CK(x:Input)(i m:Nat):List cC:=nJ (x.av.getD m default).read i m (mE x i m) (fN (m-i)) (x.av.getD m default).read.length
def vi(x:Input)(i m:Nat):List cC:=
 (if i<m then CK x i (m-1)else [])++(vV x.insert i m (mE x i m) (fN (m-i)) x.insert.length++
  (if c7 x m then [⟨2*i,2*m+1,(x.av.getD (m+1) default).kind,mE x i m+x.swap,fN (m-i)++[(4,0)]⟩]else []))
def AX(x:Input)(i m:Nat):List cC:=(List.range (m-i)).flatMap λe=>vi x i (i+e)
def vW(x:Input)(i:Nat):List cC:=AX x i (x.av.length+1)++(if c7 x i then [⟨2*i+1,2*i+4,(x.av.getD i default).kind,0,[]⟩]else [])
def P4(x:Input){i m:Nat}(h:i<=m):AX x i (m+1)=AX x i m++vi x i m:=by
 unfold AX;rw[show m+1-i=(m-i)+1 by omega,B3,ZcN];simp[show i+(m-i)=m by omega]
def Mj(x:Input):Prop:=rV x.av/\(∀c∈x.av,ST c)/\x.insert.length<=1000000/\(∀p∈x.insert,0<=p/\p<=1099511627776)/\0<=x.swap/\x.swap<=1099511627776
def gX{x:Input}(h:rV x.av)(i m:Nat):0<=mE x i m/\mE x i m<=1099511627776:=
 sV (λc hc=>(h.2 c (DB (Zb1 hc))).1) 0 (by omega)
def uU{N m aJ aV:Nat}{tm:dG}{l:fg}{L:df}(ba:dy f0 N)(hm:m<N)(hn:N<=aV)(hL:∀p∈L,p.1=m\/N<=p.1)(ho:aR L f0 m=some (da al))
  (g8:gf (aR L f0) (aR [(m,da al)] f0) id tm l):
  Le ⟨tm,aR L f0,aJ,N,[]⟩ ⟨DM.look l,aR [(m,da al)] f0,aV,N,[]⟩:=by
 refine Le.eA ba hn ?_ ?_ ?_ g8
 ·simp;omega
 ·induction L with
  |nil=>trivial
  |cons p L ih=>
   have:∀(L:df),(∀p∈L,p.1=m\/N<=p.1)->bZ N [(m,da al)] L:=by
    intro L;induction L with
    |nil=>intro _;trivial
    |cons q L ih=>
     intro h;refine⟨λhq=>?_,ih λp hp=>h p (by simp[hp])⟩;rcases h q (by simp)with h|h
     ·exact⟨da al,by simp[h]⟩
     ·omega
   exact this _ hL
 ·exact⟨⟨da al,ho,tS al,λ_=>bq _⟩,trivial⟩
def t30{b m:Nat}{x:Input}{i:Nat}{N:Nat}(hN:∀r,N<=r->f0 r=none)(hb:f0 b=some (.box (dI x m)))(hm:f0 m=some (da al))
  (hi:i<=x.av.length) (hx:Mj x):
  aY aj 47 [.ptr b 0,.v (ti i)] f0 ⟨True,.v (.eE []),eY f0 m (da (c6 al (vW x i)))⟩:=by
 have aB:=ok5;refine c30.rJ hN (by simp) λba=>?_;have SS:b<N:=(ba b _ hb).1;have Dj:m<N:=(ba m _ hm).1;have Cc:b≠m:=λe=>by rw[e,hm]at hb;cases hb
 have nb:∀k,b≠N+k:=λk=>by omega
 have nm:∀k,m≠N+k:=λk=>by omega
 obtain⟨hd,pi,auo,ZE,akj,DT⟩:=hx;have hl:=hd.1;simp;apply aa.ai aB fw [0,1,4];simp[asB,hb,dI];apply aa.sq aB fw [0,1,4,5];simp[asC];refine aa.to ⟨DM.look [(0,.ptr b 0),(1,.v (ti i))],aR [(m,da (c6 al (AX x i (x.av.length+1))))] f0,N+1000,N,[]⟩ ?_ ?_
 ·apply aa.block;refine aa.loop (λy:Nat=>⟨DM.look [(0,.ptr b 0),(1,.v (ti i)),(4,.v (ti x.av.length)),(5,.v (ti y))],aR [(m,da (c6 al (AX x i y)))] f0,N+1000,N,[]⟩)
   (λy=>i<=y/\y<=x.av.length+1) (λy=>x.av.length+1-y) i (Le.eA ba ?_ ?_ ?_ ?_ ?_) (by omega) (λy hy=>?_)
  ·omega
  ·simp;omega
  ·simp[bZ]
  ·exact⟨⟨da al,by simp[hm],by simpa [AX,c6]using tS al,λ_=>trivial⟩,trivial⟩
  ·simp[hb,Cc]
  obtain⟨mq,fA⟩:=hy;apply aa.sq aB fw [0,1,4,5,21];simp[asD];refine aa.cond rfl (λct=>?_) (λct=>?_)
  ·simp at ct;apply aa.skip;simp;obtain⟨aH,wB⟩:=aW (mE x i y);have zX:0<=aH/\aH<=1099511627776:=by rw[<-wB];exact gX hd i y
   have akk:gE ((x.av.take y).drop i) 0=aH:=wB;obtain⟨aly,UK⟩:=aW (c6 al (AX x i y));rw[UK];apply aa.seq;refine aa.to ⟨DM.look [(0,.ptr b 0),(1,.v (ti i)),(4,.v (ti x.av.length)),(5,.v (ti y))],aR [(m,da (c6 aly (vi x i y)))] f0,N+1000,N,[]⟩ ?_ ?_
   ·apply aa.block;apply aa.seq;refine aa.pO aB fw (rs:=Zr) (.inr ⟨_,ji⟩) (by kernel_rfl) [0,1,4,5,6,7] ?_;simp[Zr,Cf (x:=x) (m:=m),hb,Cc,mq,ct,hd,akk];apply aa.seq;obtain⟨Nc,P5⟩:=aW (c6 aly (if i<y then CK x i (y-1)else []));refine aa.to ⟨DM.look [(0,.ptr b 0),(1,.v (ti i)),(4,.v (ti x.av.length)),(5,.v (ti y)),(6,.v (ti aH)),(7,.v (.sl (eJ (fN (y-i)))))],aR [(m,da Nc)] f0,N+1000,N,[]⟩ ?_ ?_
    ·apply aa.ai aB fw [0,1,4,5,6,7,33];simp[asE];refine aa.cond rfl (λh=>?_) (λh=>?_)
     ·simp at h;obtain⟨q,hq⟩:∃q,y=q+1:=⟨y-1,by omega⟩;have hwq:IntKind.i64.wrap ((y:Int)-1)=(q:Int):=by rw[aA (by omega)];omega
      have hiq:i<=q:=by omega
      have hql:q<=x.av.length:=by omega
      have akl:q<x.av.length:=by omega
      obtain⟨c2,fW⟩:=aW (mE x i q);have aup:0<=c2/\c2<=1099511627776:=by rw[<-fW];exact gX hd i q
      have aw0:gE ((x.av.take q).drop i) 0=c2:=fW;refine aa.seq (aa.pO aB fw (rs:=Zs) (.inr ⟨_,ji⟩) (by kernel_rfl) [0,1,4,5,6,7,8,9] ?_);simp[Zs,Cf (x:=x) (m:=m),hb,Cc,hwq,hiq,hql,hd,aw0];refine aa.pO aB fw (rs:=Zt) (.inr ⟨_,ji⟩) (by kernel_rfl) [0,1,4,5,6,7] ?_;simp[Zt,aki (x:=x) (m:=m) (al:=aly),hb,Cc,hwq];refine⟨⟨by omega,akl,hl, ?_,aup.1,aup.2,by simp[fN];omega⟩, ?_⟩
      ·rw[xi akl];exact pi _ (Pt akl)
      ·rw[kW];have e:c6 aly (nJ (x.av[q]?.getD default).read i q c2 (fN (q-i)) (x.av[q]?.getD default).read.length)=Nc:=by
        rw[<-P5,cG h];simp[CK,show y-1=q by omega,fW]
       rw[e];exact uU ba Dj (by omega) (by simp) (by simp) (by simp[hb,Cc])
     ·simp at h;have e:aly=Nc:=by rw[<-P5,bj (by omega)];rfl
      rw[e];exact aa.skip ⟨rfl,uU ba Dj (by omega) (by simp) (by simp) (by simp[hb,Cc])⟩
    apply aa.seq;obtain⟨OE,Cg⟩:=aW (c6 Nc (vV x.insert i y aH (fN (y-i)) x.insert.length));refine aa.to ⟨DM.look [(0,.ptr b 0),(1,.v (ti i)),(4,.v (ti x.av.length)),(5,.v (ti y)),(6,.v (ti aH)),(7,.v (.sl (eJ (fN (y-i)))))],aR [(m,da OE)] f0,N+1000,N,[]⟩ ?_ ?_
    ·apply aa.ai aB fw [0,1,4,5,6,7,53,54,55];simp[asF,hb,Cc,dI];apply aa.block;refine aa.loop (λz:Nat=>⟨DM.look [(0,.ptr b 0),(1,.v (ti i)),(4,.v (ti x.av.length)),(5,.v (ti y)),(6,.v (ti aH)),(7,.v (.sl (eJ (fN (y-i))))),(53,.v (.sl (aD x.insert))),(54,.v (ti x.insert.length)),(55,.v (ti z))],aR [(m,da (c6 Nc (vV x.insert i y aH (fN (y-i)) z)))] f0,N+1000,N,[]⟩)
      (λz=>z<=x.insert.length) (λz=>x.insert.length-z) 0 ?_ (by omega) (λz hz=>?_)
     ·exact uU ba Dj (by omega) (by simp) (by simp[vV,c6]) (by simp[hb,Cc])
     apply aa.ai aB fw [0,1,4,5,6,7,53,54,55,56];simp[asG];apply aa.seq;refine aa.cond rfl (λh=>?_) (λh=>?_)
     ·simp at h;apply aa.skip;simp;apply aa.seq;apply aa.block;obtain⟨p,hp⟩:=aW (x.insert.getD z default);have hr:=cH h;have hpb:=ZE p (by rw[<-hp];simp[List.getD,h]);have hp0:x.insert.getD z 0=p:=hp;have kJ:=UL x.insert i y aH (fN (y-i)) z;rw[hp0]at kJ;rw[hp]at hr;apply aa.ai aB fw [0,1,4,5,6,7,10,11,53,54,55];simp[asH,hr,h];obtain⟨alz,auq⟩:=aW (c6 Nc (vV x.insert i y aH (fN (y-i)) z));rw[auq];refine aa.to ⟨DM.look [(0,.ptr b 0),(1,.v (ti i)),(4,.v (ti x.av.length)),(5,.v (ti y)),(6,.v (ti aH)),(7,.v (.sl (eJ (fN (y-i))))),(53,.v (.sl (aD x.insert))),(54,.v (ti x.insert.length)),(55,.v (ti z))],aR [(m,da (c6 Nc (vV x.insert i y aH (fN (y-i)) (z+1))))] f0,N+1000,N,[]⟩ ?_ ?_
      ·refine aa.pO aB fw (rs:=SL) (.inr ⟨_,ji⟩) (by kernel_rfl) [0,1,4,5,6,7,53,54,55] ?_;have w1:IntKind.i64.wrap (2*(i:Int))=2*i:=aA (by omega);have w2:IntKind.i64.wrap (2*(y:Int))=2*y:=aA (by omega);have w4:IntKind.i64.wrap (aH+p)=aH+p:=aA (by omega);have f7:(fN (y-i)).length=y-i:=by simp[fN]
       simp[SL,w1,w2,w4,ZC,Nb,eX,du,k48,hb,dI,Cc,da,gS,fQ,nb,nm];refine⟨⟨_,rfl,by omega⟩,by omega,λn hn=>?_, ?_⟩
       ·simp only[aT,pe]at hn;subst hn;simp
       ·have e:c6 Nc (vV x.insert i y aH (fN (y-i)) (z+1))=yA alz ⟨2*i,2*y,z,aH+p,fN (y-i)++[(3,(z:Int))]⟩:=by
         rw[kJ,iZ,auq];rfl
        rw[e];refine P2 ⟨2*i,2*y,z,aH+p,fN (y-i)++[(3,(z:Int))]⟩ ba Dj ?_ ?_ ?_ (Cd _ _ _) ?_
        ·omega
        ·omega
        ·omega
        ·simp[hb,Cc]
      ·apply aa.dZ aB fw [0,1,4,5,6,7,53,54,55];simp[ajE];rw[aA (by omega)];exact⟨z+1,uU ba Dj (by omega) (by simp) (by simp) (by simp[hb,Cc]),by omega,by omega⟩
     ·simp at h;have:z=x.insert.length:=by omega
      subst this;refine aa.exit ⟨rfl, ?_⟩;rw[Cg];exact uU ba Dj (by omega) (by simp) (by simp) (by simp[hb,Cc])
    refine aa.ko aB fw (rs:=SN) (.inr ⟨_,ji⟩) (by kernel_rfl) [0,1,4,5,6,7,80] ?_;simp[SN,ZD (x:=x) (m:=m),hb,Cc];refine⟨⟨by omega,hl⟩, ?_⟩;have OC:c6 aly (vi x i y)=c6 OE (if c7 x y then [⟨2*i,2*y+1,(x.av.getD (y+1) default).kind,aH+x.swap,fN (y-i)++[(4,0)]⟩]else []):=by
     rw[<-Cg,<-P5,<-iZ,<-iZ];simp[vi,wB]
    refine aa.cond rfl (λh=>?_) (λh=>?_)
    ·rw[OC,cG h];have Nd:y+1<x.av.length:=by simp[c7]at h;exact h.1
     have hr:DM.rowAt (bW x.av) ((y:Int)+1)=_:=fJ Nd;obtain⟨c2,fW⟩:=aW (x.av.getD (y+1) default);rw[fW]at hr⊢;have w0:IntKind.i64.wrap ((y:Int)+1)=y+1:=aA (by omega);have w1:IntKind.i64.wrap (2*(i:Int))=2*i:=aA (by omega);have w2:IntKind.i64.wrap (2*(y:Int))=2*y:=aA (by omega);have w3:IntKind.i64.wrap (2*(y:Int)+1)=2*y+1:=aA (by omega);have w4:IntKind.i64.wrap (aH+x.swap)=aH+x.swap:=aA (by omega);have f7:(fN (y-i)).length=y-i:=by simp[fN]
     have akm:((y:Int)+1<x.av.length)=True:=by simp;omega
     have UD:(0<=(y:Int)+1)=True:=by simp;omega
     refine aa.pO aB fw (rs:=dq (Mc b N) (fl SO [none,none,none,none,none,none,none,none,none,none,some [0],none,none,some [],none,some [],none,none,none,none,none,some [0],none,none,some [],none,none,some [1239]])) (.inl (congrArg DC.fG (by kernel_rfl))) (by rw[eC (Um SS)];kernel_rfl) [0,1,4,5] ?_;simp[dq,fZ,fl,cZ,bT,aT,bR,Mc,SO,w0,w1,w2,w3,w4,hr,akm,UD,cQ.enc,ZC,Nb,eX,du,k48,hb,dI,Cc,da,gS,fQ,nb,nm];refine⟨⟨_,rfl,by omega⟩,by omega, ?_⟩;refine P2 ⟨2*i,2*y+1,c2.kind,aH+x.swap,fN (y-i)++[(4,0)]⟩ ba Dj ?_ ?_ ?_ (Cd _ _ _) ?_
     ·omega
     ·omega
     ·omega
     ·simp[hb,Cc]
    ·rw[OC,bj (by simp[h])];exact aa.skip ⟨rfl,uU ba Dj (by omega) (by simp) (by simp[c6]) (by simp[hb,Cc])⟩
   ·apply aa.dZ aB fw [0,1,4,5];simp[ajF];rw[aA (by omega)];refine⟨y+1,uU ba Dj (by omega) (by simp) (by simp;rw[P4 x mq,iZ,UK]) (by simp[hb,Cc]),⟨by omega,by omega⟩,by omega⟩
  ·simp at ct;have:y=x.av.length+1:=by omega
   subst this;refine aa.exit ⟨rfl, ?_⟩;exact uU ba Dj (by omega) (by simp) (by simp) (by simp[hb,Cc])
 ·obtain⟨al3,UM⟩:=aW (c6 al (AX x i (x.av.length+1)));have OC:c6 al (vW x i)=c6 al3 (if c7 x i then [⟨2*i+1,2*i+4,(x.av.getD i default).kind,0,[]⟩]else []):=by
   rw[<-UM,<-iZ];rfl
  rw[UM];refine aa.ko aB fw (rs:=SP) (.inr ⟨_,ji⟩) (by kernel_rfl) [0,1,113] ?_;simp[SP,ZD (x:=x) (m:=m),hb,Cc];refine⟨⟨by omega,hl⟩, ?_⟩;refine aa.to ⟨DM.look [],aR [(m,da (c6 al (vW x i)))] f0,N+1000,N,[]⟩ ?_ (by simp[Zu];rfl);refine aa.cond rfl (λh=>?_) (λh=>?_)
  ·rw[OC,cG h];have Nd:i<x.av.length:=by simp[c7]at h;omega
   have hr:=fJ Nd;obtain⟨c2,fW⟩:=aW (x.av.getD i default);rw[fW]at hr⊢;have w1:IntKind.i64.wrap (2*(i:Int))=2*i:=aA (by omega);have w2:IntKind.i64.wrap (2*(i:Int)+1)=2*i+1:=aA (by omega);have w3:IntKind.i64.wrap (2*(i:Int)+4)=2*i+4:=aA (by omega);refine aa.pO aB fw (rs:=SQ) (.inr ⟨_,ji⟩) (by kernel_rfl) [] ?_;simp[SQ,w1,w2,w3,hr,Nd,cQ.enc,k48,hb,dI,Cc,da,gS,fQ];refine⟨λn hn=>(by simp[aT]at hn), ?_⟩;rw[kW];refine Le.eA (l:=[]) ba (by omega) (by simp;omega) (by simp[bZ]) ⟨⟨_,by simp;exact⟨rfl,rfl⟩,Ie (c:=⟨2*i+1,2*i+4,c2.kind,0,[]⟩) (d:=.bH) ?_,λ_=>by simp[kp]⟩,trivial⟩ (by simp);simp[eJ]
  ·rw[OC,bj (by simp[h])];exact aa.skip ⟨rfl,uU ba Dj (by omega) (by simp) (by simp[c6]) (by simp)⟩
end
def ZN{c d:Int}(hc:0<=c/\c<=1099511627776)(hd:0<=d):pI c d=min (c+d) 1099511627776:=by
 unfold pI;split<;>omega
def t34(x:Input)(i m:Nat)(him:i<=m)(hm:m<=x.av.length)(hd:rV x.av):bb aj 56 [x.enc,ti i,ti m] (ti (mE x i m)):=by
 have aB:=aus;obtain⟨part,yu⟩:=aW ((x.av.take m).drop i);have Rl:part.length=m-i:=by rw[<-yu];simp;omega
 have Zz:∀c∈part,0<=c.delete/\c.delete<=1099511627776:=λc hc=>hd.2 c (by rw[<-yu]at hc;exact DB (Zb1 hc));have hpg:∀k,i+k<m->part.getD k default=x.av.getD (i+k) default:=by
  intro k hk;rw[<-yu];have:i+k<x.av.length:=by omega
  simp[List.getD,ZbL,hk]
 have dQ:=hd.1;unfold mE;rw[yu];refine c34.ok (by simp) (aM ?_);simp[Input.enc];apply aa.ai aB fw [1,2,3];simp[auc];refine aa.lk (o:=[]) (l:=[(1,.v (ti i)),(2,.v (ti m)),(3,.v (.box [.sl (bW x.av),.sl (aD x.insert),ti x.swap]))]) (aV:=1200) (by simp) ?_;apply aa.ai aB fw [1,2,3,7];simp[aud];apply aa.sq aB fw [2,3,7,8];simp[aue];apply aa.block;refine aa.loop (λy:Nat=>⟨DM.look [(2,.v (ti m)),(3,.v (.box [.sl (bW x.av),.sl (aD x.insert),ti x.swap])),(7,.v (ti (gE (part.take y) 0))),(8,.v (ti ((i+y:Nat):Int)))],cF [],2000,1000,[]⟩)
  (λy=>y<=part.length) (λy=>part.length-y) 0 (Le.bi (o:=[]) ?_ ?_ ?_ ?_) (by simp) (λy hy=>?_)
 iterate 3(·simp)
 ·simp[gE]
 obtain⟨k,hk⟩:=aW (i+y);rw[hk];have HG:=sV (l:=part.take y) (λc hc=>(Zz c (DB hc)).1) 0 (by omega);apply aa.sq aB fw [2,3,7,8,12];simp[auf];refine aa.cond rfl (λct=>?_) (λct=>?_)
 ·simp at ct;have hyp:y<part.length:=by omega
  have F8:k<x.av.length:=by omega
  have hr:=fJ F8;have hg:=hpg y (by omega);rw[hk]at hg;obtain⟨c,hc⟩:=aW (x.av.getD k default);rw[hc]at hr hg;have hpy:part[y]=c:=by simpa [List.getD,hyp]using hg
  have OC:=Zz c (by rw[<-hpy];exact Pt hyp);have TI:part.take (y+1)=part.take y++[c]:=by rw[ZbI,xi hyp,hpy];rfl
  obtain⟨u,hu⟩:=aW (gE (part.take y) 0);rw[hu]at HG⊢;apply aa.skip;simp;apply aa.seq;apply aa.block;apply aa.dZ aB fw [2,3,7,8];simp[aug,F8,hr,cQ.enc];refine⟨⟨u,c.delete,⟨rfl,rfl⟩,by omega,by omega⟩, ?_⟩;apply aa.dZ aB fw [2,3,7,8];simp[auh];rw[aA (by omega)];refine⟨y+1,Le.bi (o:=[]) ?_ ?_ ?_ ?_,by omega,by omega⟩;iterate 3(·simp)
  ·simp[TI,AW,hu,ZN HG OC.1];omega
 ·simp at ct;have vP:y=part.length:=by omega
  subst vP;apply aa.exit;simp;apply aa.ai aB fw [6];simp[aui];apply aa.ret;simp[dw]
def t38(x:Input)(m:Nat)(hm:m<=1000000)(hl:x.av.length<=1000000):bb aj 60 [x.enc,ti m] (.bool (c7 x m)):=by
 have aB:=okE;obtain⟨v,hv⟩:=aW (c7 x m);rw[hv];refine c38.ok (by simp) (aM ?_);simp[Input.enc];apply aa.ai aB fw [1,2];simp[auk];refine aa.lk (o:=[]) (l:=[(1,.v (ti m)),(2,.v (.box [.sl (bW x.av),.sl (aD x.insert),ti x.swap]))]) (aV:=1200) (by simp) ?_;have hw:IntKind.i64.wrap ((m:Int)+1)=m+1:=aA (by omega);refine aa.ci aB fw [(4,.v (.bool v))] ?_ ?_
 ·by_cases h1:m+1<x.av.length
  ·have tg:=fJ (l:=x.av) (y:=m) (by omega);have yd:DM.rowAt (bW x.av) ((m:Int)+1)=(x.av.getD (m+1) default).enc:=fJ (l:=x.av) h1;obtain⟨c1,bI⟩:=aW (x.av.getD m default);obtain⟨c2,fW⟩:=aW (x.av.getD (m+1) default);rw[bI]at tg;rw[fW]at yd;have TW:((m:Int)+1<x.av.length)=True:=by simp;omega
   have hd3:(0<=(m:Int)+1)=True:=by simp;omega
   have hd4:m<x.av.length:=by omega
   have DT:v=(decide (0<x.swap)&&(decide (0<=c1.kind)&&decide (0<=c2.kind))):=by
    rw[<-hv];unfold c7;rw[bI,fW];simp[h1]
   by_cases s1:0<x.swap<;>by_cases s2:0<=c1.kind<;>by_cases s3:0<=c2.kind<;>simp[ag4,hw,tg,yd,TW,hd3,hd4,cQ.enc,s1,s2,s3,DT]
  ·have TW:((m:Int)+1<x.av.length)=False:=by simp;omega
   have DT:v=false:=by rw[<-hv];simp[c7];intros;omega
   simp[ag4,hw,TW,DT]
 apply aa.ret;simp[dw]
def t37(n:Nat)(a b:Int)(hn:n<=1000000):bb aj 59 [ti n,.agg [ti a,ti b]] (.sl (eJ (fN n++[(a,b)]))):=by
 have aB:=okE;refine c37.ok (by simp) (aM ?_);simp;apply aa.ai aB fw [0,3];simp[XV];apply aa.ai aB fw [0,3,5];simp[Dg];apply aa.seq;refine aa.lk (o:=[]) (l:=[(0,.v (ti n)),(3,.v (.box [ti a,ti b])),(5,.bH)]) (aV:=1200) (by simp) ?_;refine aa.le (Le.pQ (k:=5) 117 (sz:=2) (by omega) (by simp)) ?_;rw[jv];apply aa.ai aB fw [0,3,5,6];simp[XW];apply aa.block;refine aa.loop (λy:Nat=>⟨DM.look [(0,.v (ti n)),(3,.v (.box [ti a,ti b])),(5,.bE 1200 0),(6,.v (ti y))],cF [(1200,.bJ 0 117 2 (eJ (fN y)))],2000,1000,[]⟩)
  (λy=>y<=n) (λy=>n-y) 0 (Le.bi ?_ ?_ ?_ ?_) (by simp) (λy hy=>?_)
 ·simp
 ·simp
 ·simp[fN,eJ]
 ·simp
 apply aa.sq aB fw [0,3,5,6,9];simp[XX];have hd:(fN y).length=y:=by simp[fN]
 refine aa.cond rfl (λct=>?_) (λct=>?_)
 ·simp at ct;apply aa.skip;simp;apply aa.seq;apply aa.block;apply aa.dZ aB fw [0,3,5,6];simp[HW,du,eX,hd];refine⟨by omega, ?_⟩;apply aa.dZ aB fw [0,3,5,6];simp[auj];rw[aA (by omega)];refine⟨y+1,Le.bi ?_ ?_ ?_ ?_,by omega,by omega⟩
  ·simp
  ·simp
  ·simp[eJ,fN,Zcr]
  ·simp
 ·simp at ct;have vP:y=n:=by omega
  subst vP;apply aa.exit;simp;apply aa.ai aB fw [4];simp[XY,du,eX,hd];refine⟨by omega, ?_⟩;apply aa.ret;simp[B4,eJ]
def fE(a:cC)(p:Bool×List cC)(b:cC):Bool×List cC:=
 if p.1=false/\bk b a=true then(true,p.2++[if a.aH<b.aH then a else b])
 else if p.1=false/\cN a b then(true,p.2++[a]++[b])
 else(p.1,p.2++[b])
def il(a:cC)(l:List cC):Bool×List cC:=l.foldl (fE a) (false,[])
def ud(l:List cC)(a:cC):List cC:=
 if 1099511627776<=a.aH then l else if(il a l).1 then(il a l).2 else(il a l).2++[a]
def Kk{a:cC}{l:List cC}{y:Nat}(h:y<l.length):il a (l.take (y+1))=fE a (il a (l.take y)) (l.getD y default):=by
 unfold il;rw[ZbI,xi h,yZ];simp[List.getD,h]
def Nk(a:cC)(p:Bool×List cC)(b:cC):(fE a p b).2.length<=p.2.length+2:=by
 unfold fE;split
 ·simp
 ·split<;>simp
def uV(l:List cC)(a:cC):ce (l++[a])=ce l++[a.enc]:=by simp[ce]
def t35(l:List cC)(a:cC)(hl:l.length<=1000000000):bb aj 57 [.sl (ce l),.agg a.enc] (.sl (ce (ud l a))):=by
 have aB:=aw8;obtain⟨R,hR⟩:=aW (ud l a);rw[hR];unfold ud at hR;obtain⟨af,oi,ax,ac,ao⟩:=a;obtain⟨a,ha⟩:=aW ((⟨af,oi,ax,ac,ao⟩:cC):cC);have haf:a.f=af:=by rw[<-ha]
 have dW:a.t=oi:=by rw[<-ha]
 have hax:a.term=ax:=by rw[<-ha]
 have hac:a.aH=ac:=by rw[<-ha]
 have afk:a.enc=[ti af,ti oi,ti ax,ti ac,.sl (eJ ao)]:=by rw[<-ha];rfl
 refine c35.ok (by simp) (aM ?_);rw[ha]at hR;simp[cC.enc];apply aa.ai aB fw [0,3];simp[Yv];refine aa.lk (o:=[]) (l:=[(0,.v (.sl (ce l))),(3,.v (.box [ti af,ti oi,ti ax,ti ac,.sl (eJ ao)]))]) (aV:=1200) (by simp) ?_;apply aa.sq aB fw [0,3,10];simp[Yw];refine aa.cond rfl (λh=>?_) (λh=>?_)
 ·simp at h;rw[cG (by rw[hac];exact h)]at hR;subst hR;apply aa.ai aB fw [4];simp[R8];apply aa.ret;simp[FQ]
 simp at h;rw[bj (by rw[hac];omega)]at hR;apply aa.skip;simp;apply aa.ai aB fw [0,3,5];simp[Yx];refine aa.lk (o:=[]) (l:=[(0,.v (.sl (ce l))),(3,.v (.box [ti af,ti oi,ti ax,ti ac,.sl (eJ ao)])),(5,.bH)]) (aV:=1500) (by simp) ?_;refine aa.le (Le.pQ (k:=5) 108 (sz:=5) (by omega) (by simp)) ?_;rw[jv];apply aa.ai aB fw [0,3,5,6];simp[Yy];apply aa.sq aB fw [0,3,5,6,7];simp[Yz];obtain⟨L,hL⟩:=aW l.length;rw[hL]at hl;apply aa.block;refine aa.loop (λy:Nat=>⟨DM.look [(0,.v (.sl (ce l))),(3,.v (.box [ti af,ti oi,ti ax,ti ac,.sl (eJ ao)])),(5,.bE 1500 0),(6,.v (.bool (il a (l.take y)).1)),(7,.v (ti y))],cF [(1500,.bJ 0 108 5 (ce (il a (l.take y)).2))],2000,1000,[]⟩)
  (λy=>y<=L/\(il a (l.take y)).2.length<=2*y) (λy=>L-y) 0 (Le.bi ?_ ?_ ?_ ?_) (by simp[il]) (λy hy=>?_)
 ·simp
 ·simp
 ·simp[il,ce]
 ·simp[il]
 obtain⟨mq,fA⟩:=hy;apply aa.sq aB fw [0,3,5,6,7,15];simp[YA,hL];refine aa.cond rfl (λct=>?_) (λct=>?_)
 ·simp at ct;have vP:y<l.length:=by omega
  have hr:=qR vP;have kJ:=Kk (a:=a) vP;obtain⟨b,hb⟩:=aW (l.getD y default);rw[hb]at hr kJ;obtain⟨p,hp⟩:=aW (il a (l.take y));rw[hp]at kJ fA⊢;have ahc:=Nk a p b;obtain⟨dn,out⟩:=p;simp only at fA ahc⊢;obtain⟨bf,bt,bx,bc,bo⟩:=b;have hsk:bk ⟨bf,bt,bx,bc,bo⟩ a=decide (bf=af/\bt=oi/\bx=ax):=by simp only[bk,haf,dW,hax]
  apply aa.skip;simp;apply aa.seq;obtain⟨q,hq⟩:=aW (fE a (dn,out) ⟨bf,bt,bx,bc,bo⟩);rw[hq]at kJ ahc;unfold fE at hq;simp only[hsk]at hq;refine aa.to ⟨DM.look [(0,.v (.sl (ce l))),(3,.v (.box [ti af,ti oi,ti ax,ti ac,.sl (eJ ao)])),(5,.bE 1500 0),(6,.v (.bool q.1)),(7,.v (ti y))],cF [(1500,.bJ 0 108 5 (ce q.2))],3000,1000,[]⟩ ?_ ?_
  ·apply aa.block;apply aa.seq;have ax4:[ti bf,ti bt,ti bx,ti bc,.sl (eJ bo)]=(⟨bf,bt,bx,bc,bo⟩:cC).enc:=rfl;obtain⟨c1,bI⟩:=aW (decide (dn=false/\(bf=af/\bt=oi/\bx=ax)):Bool);refine aa.ci aB fw [(0,.v (.sl (ce l))),(3,.v (.box [ti af,ti oi,ti ax,ti ac,.sl (eJ ao)])),(5,.bE 1500 0),(6,.v (.bool dn)),(7,.v (ti y)),(49,.v (.bool c1))] ?_ ?_
   ·cases dn with
    |true=>
     have:c1=false:=by rw[<-bI];simp
     simp[FO,this]
    |false=>
     by_cases q1:bf=af
     ·by_cases q2:bt=oi
      ·by_cases q3:bx=ax
       ·have:c1=true:=by rw[<-bI];simp[q1,q2,q3]
        simp[FO,hr,ct,hL,cC.enc,q1,q2,q3,this]
       ·have:c1=false:=by rw[<-bI];simp[q3]
        simp[FO,hr,ct,hL,cC.enc,q1,q2,q3,this]
      ·have:c1=false:=by rw[<-bI];simp[q2]
       simp[FO,hr,ct,hL,cC.enc,q1,q2,this]
     ·have:c1=false:=by rw[<-bI];simp[q1]
      simp[FO,hr,ct,hL,cC.enc,q1,this]
   have tail:∀(dn':Bool) (afl:List cC),afl.length<=out.length+1->q=(dn',afl++[⟨bf,bt,bx,bc,bo⟩])->∀nx,aa aj 90 (.region false (dX 57 14)) (Jx 1 λe s=>e=Exit.normal/\Le s ⟨DM.look [(0,.v (.sl (ce l))),(3,.v (.box [ti af,ti oi,ti ax,ti ac,.sl (eJ ao)])),(5,.bE 1500 0),(6,.v (.bool q.1)),(7,.v (ti y))],cF [(1500,.bJ 0 108 5 (ce q.2))],3000,1000,[]⟩)
     ⟨DM.look [(0,.v (.sl (ce l))),(3,.v (.box [ti af,ti oi,ti ax,ti ac,.sl (eJ ao)])),(5,.bE 1500 0),(6,.v (.bool dn')),(7,.v (ti y))],cF [(1500,.bJ 0 108 5 (ce afl))],nx,1000,[]⟩:=by
    intro dn' afl ho hqq nx;apply aa.dZ aB fw [0,3,5,6,7];simp[akg,hr,ct,hL,cC.enc,du,eX];refine⟨by omega,Le.bi ?_ ?_ ?_ ?_⟩
    ·simp
    ·simp
    ·simp[hqq,uV,cC.enc]
    ·simp[hqq]
   refine aa.cond rfl (λh1=>?_) (λh1=>?_)
   ·rw[h1]at bI;simp only[sa]at bI;obtain⟨LH,Ww⟩:=bI;subst LH;rw[cG ⟨rfl,by simpa using Ww⟩]at hq;apply aa.ai aB fw [0,3,5,6,7];simp[YB];apply aa.ai aB fw [0,3,5,6,7,57];simp[YC,hr,ct,hL,cC.enc];refine aa.cond rfl (λh2=>?_) (λh2=>?_)
    ·simp at h2;apply aa.ai aB fw [0,3,5,6,7];simp[PH,du,eX];refine⟨by omega, ?_⟩;apply aa.exit;simp;rw[cG (by rw[hac];exact h2)]at hq;subst hq;refine Le.bi ?_ ?_ ?_ ?_
     ·simp
     ·simp
     ·simp[uV,afk]
     ·simp
    ·simp at h2;rw[bj (by rw[hac];omega)]at hq;apply aa.skip;simp;refine aa.lk (o:=[(1500,.bJ 0 108 5 (ce out))]) (l:=[(0,.v (.sl (ce l))),(3,.v (.box [ti af,ti oi,ti ax,ti ac,.sl (eJ ao)])),(5,.bE 1500 0),(6,.v (.bool true)),(7,.v (ti y))]) (aV:=4000) (by simp) ?_;apply aa.seq;refine aa.ci aB fw [(0,.v (.sl (ce l))),(3,.v (.box [ti af,ti oi,ti ax,ti ac,.sl (eJ ao)])),(5,.bE 1500 0),(6,.v (.bool true)),(7,.v (ti y)),(71,.v (.bool false))] (by simp[FP]) ?_;refine aa.cond rfl (λh=>by cases h) (λ_=>?_);apply aa.skip;simp;refine aa.lk (o:=[(1500,.bJ 0 108 5 (ce out))]) (l:=[(0,.v (.sl (ce l))),(3,.v (.box [ti af,ti oi,ti ax,ti ac,.sl (eJ ao)])),(5,.bE 1500 0),(6,.v (.bool true)),(7,.v (ti y))]) (aV:=5000) (by simp) ?_;exact tail true out (by omega) hq.symm 5000
   ·rw[h1]at bI;simp only[zM]at bI;rw[bj (λh=>bI ⟨h.1,by simpa using h.2⟩)]at hq;apply aa.skip;simp;refine aa.lk (o:=[(1500,.bJ 0 108 5 (ce out))]) (l:=[(0,.v (.sl (ce l))),(3,.v (.box [ti af,ti oi,ti ax,ti ac,.sl (eJ ao)])),(5,.bE 1500 0),(6,.v (.bool dn)),(7,.v (ti y))]) (aV:=4000) (by simp) ?_;apply aa.seq;obtain⟨c2,fW⟩:=aW (decide (dn=false/\cN a ⟨bf,bt,bx,bc,bo⟩):Bool);refine aa.ci aB fw [(0,.v (.sl (ce l))),(3,.v (.box [ti af,ti oi,ti ax,ti ac,.sl (eJ ao)])),(5,.bE 1500 0),(6,.v (.bool dn)),(7,.v (ti y)),(71,.v (.bool c2))] ?_ ?_
    ·cases dn with
     |true=>
      have:c2=false:=by rw[<-fW];simp
      simp[FP,this]
     |false=>
      have:c2=decide (cN a ⟨bf,bt,bx,bc,bo⟩):=by rw[<-fW];simp
      simp[FP,hr,ct,hL,cC.enc,this];rw[show pn [ti bf,ti bt,ti bx,ti bc,T.sl (eJ bo)]=⟨bf,bt,bx,bc,bo⟩from qS ⟨bf,bt,bx,bc,bo⟩,show pn [ti af,ti oi,ti ax,ti ac,T.sl (eJ ao)]=a by rw[<-afk];exact qS a];exact⟨⟨⟨⟨af,oi,ax,ac,ao⟩,rfl,rfl,rfl,rfl,rfl⟩,⟨⟨bf,bt,bx,bc,bo⟩,rfl,rfl,rfl,rfl,rfl⟩⟩,Iff.rfl⟩
    refine aa.cond rfl (λh2=>?_) (λh2=>?_)
    ·rw[h2]at fW;simp only[sa]at fW;obtain⟨LH,Rj⟩:=fW;subst LH;rw[cG ⟨rfl,Rj⟩]at hq;apply aa.ai aB fw [0,3,5,6,7];simp[akf];apply aa.dZ aB fw [0,3,5,6,7];simp[PJ,du,eX];refine⟨by omega, ?_⟩;refine aa.le (Le.bi (o:=[(1500,.bJ 0 108 5 (ce (out++[a])))]) (l:=[(0,.v (.sl (ce l))),(3,.v (.box [ti af,ti oi,ti ax,ti ac,.sl (eJ ao)])),(5,.bE 1500 0),(6,.v (.bool true)),(7,.v (ti y))]) (aV:=5000) ?_ ?_ ?_ ?_) ?_
     ·simp
     ·simp
     ·simp[uV,afk]
     ·simp
     exact tail true (out++[a]) (by simp) hq.symm 5000
    ·rw[h2]at fW;simp only[zM]at fW;rw[bj fW]at hq;apply aa.skip;simp;refine aa.lk (o:=[(1500,.bJ 0 108 5 (ce out))]) (l:=[(0,.v (.sl (ce l))),(3,.v (.box [ti af,ti oi,ti ax,ti ac,.sl (eJ ao)])),(5,.bE 1500 0),(6,.v (.bool dn)),(7,.v (ti y))]) (aV:=5000) (by simp) ?_;exact tail dn out (by omega) hq.symm 5000
  ·apply aa.dZ aB fw [0,3,5,6,7];simp[PK];rw[aA (by omega)];refine⟨y+1,Le.bi ?_ ?_ ?_ ?_,⟨by omega,by rw[kJ];omega⟩,by omega⟩
   ·simp
   ·simp
   ·simp[kJ]
   ·simp[kJ]
 simp at ct;have vP:y=l.length:=by omega
 subst vP;rw[ZbN]at fA⊢;obtain⟨p,hp⟩:=aW (il a l);rw[hp]at hR fA⊢;obtain⟨dn,out⟩:=p;simp only at hR fA⊢;apply aa.exit;simp;apply aa.sq aB fw [3,5,84];simp[PL];refine aa.to ⟨DM.look [(5,.bE 1500 0)],cF [(1500,.bJ 0 108 5 (ce R))],9000,1000,[]⟩ ?_ ?_
 ·refine aa.cond rfl (λh3=>?_) (λh3=>?_)
  ·simp at h3;subst h3;rw[bj (by simp)]at hR;apply aa.dZ aB fw [5];simp[PM,du,eX];refine⟨by omega,Le.bi ?_ ?_ ?_ ?_⟩
   ·simp
   ·simp
   ·simp[<-hR,uV,afk]
   ·simp
  ·simp at h3;subst h3;rw[cG rfl]at hR;subst hR;refine aa.skip ⟨rfl,Le.bi ?_ ?_ ?_ ?_⟩;iterate 3(·simp)
   ·simp
 apply aa.ai aB fw [4];simp[PN];apply aa.ret;simp[FQ]
@[simp] def ahd(a b c d:Int)(o:List (Int×Int)):pn [ti a,ti b,ti c,ti d,.sl (eJ o)]=⟨a,b,c,d,o⟩:=qS ⟨a,b,c,d,o⟩
@[simp] def ahe(a b c d:Int):pn [ti a,ti b,ti c,ti d,.sl []]=⟨a,b,c,d,[]⟩:=qS ⟨a,b,c,d,[]⟩
def ft{α:Type}(f:Nat->List α)(i m:Nat):List α:=(List.range (m-i)).flatMap λe=>f (i+e)
def ug{α:Type}(f:Nat->List α){i m:Nat}(h:i<=m):ft f i (m+1)=ft f i m++f m:=by
 unfold ft;rw[show m+1-i=(m-i)+1 by omega,B3,ZcN];simp[show i+(m-i)=m by omega]
def yE{α:Type}(f:Nat->List α)(i:Nat):ft f i i=[]:=by simp[ft]
def By(x:Input)(m t:Nat):Int:=(x.av.getD m default).read.getD t default
def rA(x:Input)(i m t:Nat):List cC:=if m<x.av.length/\0<=By x m t then [⟨2*i,2*m+2,t,pI (mE x i m) (By x m t),fN (m-i)++[(1,(t:Int))]⟩]else []
def rS(x:Input)(i m:Nat):List cC:=if c7 x m then [⟨2*i,2*m+1,(x.av.getD (m+1) default).kind,pI (mE x i m) x.swap,fN (m-i)++[(4,0)]⟩]else []
def rM(x:Input)(i m:Nat):List cC:=ft (rA x i m) 0 x.insert.length++rS x i m
def rT(x:Input)(i:Nat):List cC:=if c7 x i then [⟨2*i+1,2*i+4,(x.av.getD i default).kind,0,[]⟩]else []
def rI(x:Input)(i:Nat):List cC:=ft (rM x i) i (x.av.length+1)++rT x i
def iT(x:Input)(i m t:Nat):List cC:=[⟨2*i,2*m,t,pI (mE x i m) (x.insert.getD t default),fN (m-i)++[(3,(t:Int))]⟩]
def iM(x:Input)(i m:Nat):List cC:=ft (iT x i m) 0 x.insert.length
def iI(x:Input)(i:Nat):List cC:=ft (iM x i) i (x.av.length+1)
def b7(l cs:List cC):List cC:=cs.foldl ud l
def fC(l cs ds:List cC):b7 l (cs++ds)=b7 (b7 l cs) ds:=by simp[b7]
def jF(x:Input):List cC:=b7 (b7 [] (ft (rI x) 0 (x.av.length+1))) (ft (iI x) 0 (x.av.length+1))
def gp(x:Input)(k:Nat):bY:=(List.range (2*x.av.length+1)).map λs=>if s<k then(if s % 2=0 then mE x (s/2) x.av.length else 1099511627776)else 0
def bD(x:Input):aU:=⟨2*x.av.length+1,jF x,gp x (2*x.av.length+1)⟩
def Kl(a:cC)(p:Bool×List cC)(b:cC):(fE a p b).2.length+p.1.toNat<=p.2.length+1+(fE a p b).1.toNat:=by
 unfold fE;cases hp:p.1 with
 |true=>simp
 |false=>
  simp only[rO,Bool.toNat_false];split
  ·simp
  ·split<;>simp
def Nl(a:cC)(l:List cC):(il a l).2.length<=l.length+(il a l).1.toNat:=by
 have key:∀(l:List cC) (p:Bool×List cC),(l.foldl (fE a) p).2.length+p.1.toNat<=p.2.length+l.length+(l.foldl (fE a) p).1.toNat:=by
  intro l;induction l with
  |nil=>intro p;simp
  |cons b l ih=>
   intro p;simp only[CD,Oq];have h:=ih (fE a p b);have hs:=Kl a p b;omega
 have h:=key l (false,[]);simpa [il]using h
def ZO(l:List cC)(a:cC):(ud l a).length<=l.length+1:=by
 have h:=Nl a l;unfold ud;split
 ·omega
 ·split
  ·rename_i hd;rw[hd]at h;simpa using h
  ·rename_i hd;simp only[Zdp]at hd;rw[hd]at h;simp at h⊢;omega
def kK(cs:List cC):∀l:List cC,(b7 l cs).length<=l.length+cs.length:=by
 induction cs with
 |nil=>intro l;simp[b7]
 |cons c cs ih=>
  intro l;have h1:=ih (ud l c);have h2:=ZO l c;have e:b7 l (c::cs)=b7 (ud l c) cs:=rfl;rw[e];simp only[Oq];omega
def ZP(x:Input)(i m t:Nat):(rA x i m t).length<=1:=by unfold rA;split<;>simp
def akC(x:Input)(i m:Nat):(rS x i m).length<=1:=by unfold rS;split<;>simp
def akD(x:Input)(i:Nat):(rT x i).length<=1:=by unfold rT;split<;>simp
def pp{α:Type}{f:Nat->List α}{B:Nat}(h:∀k,(f k).length<=B)(i m:Nat):(ft f i m).length<=(m-i)*B:=by
 unfold ft;have:∀k,((List.range k).flatMap λe=>f (i+e)).length<=k*B:=by
  intro k;induction k with
  |zero=>simp
  |succ k ih=>
   rw[B3,ZcN,EN,Nat.succ_mul];have:=h (i+k);simp only[V0,List.flatMap_nil,xP];omega
 exact this _
def ZQ(x:Input)(i m:Nat)(h:x.insert.length<=100):(rM x i m).length<=101:=by
 unfold rM;have h1:=pp (ZP x i m) 0 x.insert.length;have h2:=akC x i m;rw[EN];omega
def ZR(x:Input)(i:Nat)(h:x.insert.length<=100)(hn:x.av.length<=60):(rI x i).length<=7000:=by
 unfold rI;have h1:=pp (f:=rM x i) (B:=101) (λk=>ZQ x i k h) i (x.av.length+1);have h2:=akD x i;rw[EN];omega
def ZS(x:Input)(i m:Nat)(h:x.insert.length<=100):(iM x i m).length<=100:=by
 unfold iM;have h1:=pp (f:=iT x i m) (B:=1) (λk=>by simp[iT]) 0 x.insert.length;omega
def ZT(x:Input)(i:Nat)(h:x.insert.length<=100)(hn:x.av.length<=60):(iI x i).length<=7000:=by
 unfold iI;have h1:=pp (f:=iM x i) (B:=100) (λk=>ZS x i k h) i (x.av.length+1);omega
abbrev s34(x:Input):DM.Spec:=cK (λts=>∃i m:Nat,ts=[x.enc,ti i,ti m]/\i<=m/\m<=x.av.length) (fun|[_,.int _ i,.int _ m]=>ti (mE x i.toNat m.toNat)|_=>.bool false) true
abbrev s38(x:Input):DM.Spec:=cK (λts=>∃m:Nat,ts=[x.enc,ti m]/\m<=1000000) (fun|[_,.int _ m]=>.bool (c7 x m.toNat)|_=>.bool false) true
abbrev s37:DM.Spec:=cK (λts=>∃(n:Nat) (a b:Int),ts=[ti n,.agg [ti a,ti b]]/\n<=1000000) (fun|[.int _ n,.agg [.int _ a,.int _ b]]=>.sl (eJ (fN n.toNat++[(a,b)]))|_=>.bool false) false
abbrev s35:DM.Spec:=cK (λts=>∃(l:List cC) (a:cC),ts=[.sl (ce l),.agg a.enc]/\l.length<=1000000000) (fun|[.sl l,.agg a]=>.sl (ce (ud (Ef l) (pn a)))|_=>.bool false) false
abbrev axb(x:Input):pW:=bB [(56,s34 x),(60,s38 x),(59,s37),(57,s35),(58,ZM)]
def axc(x:Input)(hd:rV x.av):ay aj (axb x):=by
 refine ay.cons (ay.cons (ay.cons (ay.cons aus ?_) ?_) ?_) ?_
 ·rintro ts ⟨l,a,rfl,h⟩;exact⟨by simpa using t35 l a h,λh=>by cases h⟩
 ·rintro ts ⟨n,a,b,rfl,h⟩;exact⟨by simpa using t37 n a b h,λh=>by cases h⟩
 ·rintro ts ⟨m,rfl,h⟩;exact⟨by simpa using t38 x m h hd.1,λ_=>rfl⟩
 ·rintro ts ⟨i,m,rfl,h1,h2⟩;exact⟨by simpa using t34 x i m h1 h2 hd,λ_=>rfl⟩
def t14(x:Input)(hx:Mj x)(aut:x.av.length<=60)(ht:x.insert.length<=100)(auu:∀c∈x.av,c.read.length=x.insert.length):bb aj 33 [x.enc] (bD x).enc:=by
 have aB:=axc x hx.1;have Bv:T.agg [.sl (bW x.av),.sl (aD x.insert),ti x.swap]=x.enc:=rfl;obtain⟨hd,pi,auo,ZE,akj,DT⟩:=hx;obtain⟨n,hn⟩:=aW x.av.length;obtain⟨tm,g8⟩:=aW x.insert.length;have hdb:=gX hd;have UR:∀y,y<=n+1->(b7 [] (ft (rI x) 0 y)).length<=430000:=by
  intro y hy;have h1:=kK (ft (rI x) 0 y) [];have h2:=pp (f:=rI x) (B:=7000) (λk=>ZR x k ht aut) 0 y;simp at h1;omega
 obtain⟨R,hR⟩:=aW ((bD x).enc);refine c14.ok (by simp) (aM ?_);rw[hR];simp only[bD,jF]at hR;simp[Input.enc];apply aa.ai aB fw [1,2];simp[at2];refine aa.lk (o:=[(1003,.box [.v (ti 0),.bH,.bH])]) (l:=[(1,.v (.box [.sl (bW x.av),.sl (aD x.insert),ti x.swap])),(2,.ptr 1003 0)]) (aV:=1500) (by simp) ?_;apply aa.ai aB fw [1,2,3];simp[at3,hn];apply aa.ai aB fw [1,2,3,4];simp[at4];apply aa.seq;refine aa.le (Le.bi (o:=[(1003,.box [.v (ti 0),.bH,.bH])]) (l:=[(1,.v (.box [.sl (bW x.av),.sl (aD x.insert),ti x.swap])),(2,.ptr 1003 0),(3,.v (ti n)),(4,.v (.sl (ce [])))]) (aV:=2500) ?_ ?_ ?_ ?_) ?_;iterate 3(·simp)
 ·simp[ce]
 apply aa.ai aB fw [1,2,3,4,5];simp[at5];obtain⟨Nc,P5⟩:=aW (b7 [] (ft (rI x) 0 (n+1)));have ayf:Nc.length<=430000:=by rw[<-P5];exact UR _ (by omega)
 refine aa.to ⟨DM.look [(1,.v (.box [.sl (bW x.av),.sl (aD x.insert),ti x.swap])),(2,.ptr 1003 0),(3,.v (ti n)),(4,.v (.sl (ce Nc)))],cF [(1003,.box [.v (ti 0),.bH,.bH])],100000,1000,[]⟩ ?_ ?_
 ·apply aa.block;refine aa.loop (λy:Nat=>⟨DM.look [(1,.v (.box [.sl (bW x.av),.sl (aD x.insert),ti x.swap])),(2,.ptr 1003 0),(3,.v (ti n)),(4,.v (.sl (ce (b7 [] (ft (rI x) 0 y))))),(5,.v (ti y))],cF [(1003,.box [.v (ti 0),.bH,.bH])],10000,1000,[]⟩)
   (λy=>y<=n+1) (λy=>n+1-y) 0 (Le.bi ?_ ?_ ?_ ?_) (by simp) (λy hy=>?_)
  iterate 3(·simp)
  ·simp[yE,b7]
  have lal:=UR y hy;have Qb:=ug (rI x) (KT y);obtain⟨al,mN⟩:=aW (b7 [] (ft (rI x) 0 y));have pz:b7 [] (ft (rI x) 0 (y+1))=b7 al (rI x y):=by rw[Qb,fC,mN]
  rw[mN]at lal⊢;apply aa.sq aB fw [1,2,3,4,5,20];simp[at6];refine aa.cond rfl (λct=>?_) (λct=>?_)
  ·simp at ct;have w2y:IntKind.i64.wrap (2*(y:Int))=2*y:=aA (by omega);apply aa.skip;simp;apply aa.seq;refine aa.to ⟨DM.look [(1,.v (.box [.sl (bW x.av),.sl (aD x.insert),ti x.swap])),(2,.ptr 1003 0),(3,.v (ti n)),(4,.v (.sl (ce (b7 al (rI x y))))),(5,.v (ti y))],cF [(1003,.box [.v (ti 0),.bH,.bH])],50000,1000,[]⟩ ?_ ?_
   ·apply aa.block;apply aa.sq aB fw [1,2,3,4,5,6];simp[at7];obtain⟨OE,Cg⟩:=aW (b7 al (ft (rM x y) y (n+1)));have lB:∀m,m<=n+1->(b7 al (ft (rM x y) y m)).length<=440000:=by
     intro m hm;have h1:=kK (ft (rM x y) y m) al;have h2:=pp (f:=rM x y) (B:=101) (λk=>ZQ x y k ht) y m;omega
    have axd:OE.length<=440000:=by rw[<-Cg];exact lB _ (by omega)
    have lN:b7 al (rI x y)=b7 OE (rT x y):=by rw[<-Cg,<-fC];unfold rI;rw[hn]
    refine aa.to ⟨DM.look [(1,.v (.box [.sl (bW x.av),.sl (aD x.insert),ti x.swap])),(2,.ptr 1003 0),(3,.v (ti n)),(4,.v (.sl (ce OE))),(5,.v (ti y))],cF [(1003,.box [.v (ti 0),.bH,.bH])],40000,1000,[]⟩ ?_ ?_
    ·apply aa.block;refine aa.loop (λm:Nat=>⟨DM.look [(1,.v (.box [.sl (bW x.av),.sl (aD x.insert),ti x.swap])),(2,.ptr 1003 0),(3,.v (ti n)),(4,.v (.sl (ce (b7 al (ft (rM x y) y m))))),(5,.v (ti y)),(6,.v (ti m))],cF [(1003,.box [.v (ti 0),.bH,.bH])],20000,1000,[]⟩)
      (λm=>y<=m/\m<=n+1) (λm=>n+1-m) y (Le.bi ?_ ?_ ?_ ?_) (by omega) (λm hm=>?_)
     iterate 3(·simp)
     ·simp[yE,b7]
     obtain⟨C0,DD⟩:=hm;have akE:=lB m DD;have Qc:=ug (rM x y) C0;obtain⟨K3,Qd⟩:=aW (b7 al (ft (rM x y) y m));have Qe:b7 al (ft (rM x y) y (m+1))=b7 K3 (rM x y m):=by rw[Qc,fC,Qd]
     rw[Qd]at akE⊢;apply aa.sq aB fw [1,2,3,4,5,6,26];simp[at8];refine aa.cond rfl (λI2=>?_) (λI2=>?_)
     ·simp at I2;have w2m:IntKind.i64.wrap (2*(m:Int))=2*m:=aA (by omega);have axe:IntKind.i64.wrap (2*(m:Int)+1)=2*m+1:=aA (by omega);have axf:IntKind.i64.wrap (2*(m:Int)+2)=2*m+2:=aA (by omega);have wm1:IntKind.i64.wrap ((m:Int)+1)=m+1:=aA (by omega);have wmy:IntKind.i64.wrap ((m:Int)-y)=((m-y:Nat):Int):=by rw[aA (by omega)];omega
      obtain⟨d,hdd⟩:=aW (mE x y m);have akF:=hdb y m;rw[hdd]at akF;apply aa.skip;simp;apply aa.seq;refine aa.to ⟨DM.look [(1,.v (.box [.sl (bW x.av),.sl (aD x.insert),ti x.swap])),(2,.ptr 1003 0),(3,.v (ti n)),(4,.v (.sl (ce (b7 K3 (rM x y m))))),(5,.v (ti y)),(6,.v (ti m))],cF [(1003,.box [.v (ti 0),.bH,.bH])],40000,1000,[]⟩ ?_ ?_
      ·apply aa.block;apply aa.ai aB fw [1,2,3,4,5,6,7];simp[at9,Bv,hdd];refine⟨⟨y,m,⟨rfl,rfl⟩,C0,by omega⟩, ?_⟩;apply aa.sq aB fw [1,2,3,4,5,6,7,8];simp[aua];obtain⟨al3,UM⟩:=aW (b7 K3 (ft (rA x y m) 0 tm));have lC:∀t,t<=tm->(b7 K3 (ft (rA x y m) 0 t)).length<=450000:=by
        intro t EZ;have h1:=kK (ft (rA x y m) 0 t) K3;have h2:=pp (f:=rA x y m) (B:=1) (λk=>ZP x y m k) 0 t;omega
       have ayg:al3.length<=450000:=by rw[<-UM];exact lC _ (by omega)
       have auv:b7 K3 (rM x y m)=b7 al3 (rS x y m):=by rw[<-UM,<-fC];unfold rM;rw[g8]
       refine aa.to ⟨DM.look [(1,.v (.box [.sl (bW x.av),.sl (aD x.insert),ti x.swap])),(2,.ptr 1003 0),(3,.v (ti n)),(4,.v (.sl (ce al3))),(5,.v (ti y)),(6,.v (ti m)),(7,.v (ti d))],cF [(1003,.box [.v (ti 0),.bH,.bH])],40000,1000,[]⟩ ?_ ?_
       ·apply aa.block;refine aa.loop (λt:Nat=>⟨DM.look [(1,.v (.box [.sl (bW x.av),.sl (aD x.insert),ti x.swap])),(2,.ptr 1003 0),(3,.v (ti n)),(4,.v (.sl (ce (b7 K3 (ft (rA x y m) 0 t))))),(5,.v (ti y)),(6,.v (ti m)),(7,.v (ti d)),(8,.v (ti t))],cF [(1003,.box [.v (ti 0),.bH,.bH])],30000,1000,[]⟩)
         (λt=>t<=tm) (λt=>tm-t) 0 (Le.bi ?_ ?_ ?_ ?_) (by simp) (λt EZ=>?_)
        iterate 3(·simp)
        ·simp[yE,b7]
        have akG:=lC t EZ;have Qf:=ug (rA x y m) (KT t);obtain⟨alt,halt⟩:=aW (b7 K3 (ft (rA x y m) 0 t));have Gm:b7 K3 (ft (rA x y m) 0 (t+1))=b7 alt (rA x y m t):=by rw[Qf,fC,halt]
        rw[halt]at akG⊢;apply aa.sq aB fw [1,2,3,4,5,6,7,8,37];simp[aub,g8];refine aa.cond rfl (λhct=>?_) (λhct=>?_)
        ·simp at hct;apply aa.skip;simp;apply aa.seq;obtain⟨q,hq⟩:=aW (rA x y m t);rw[hq]at Gm;unfold rA at hq;rw[hdd,hn]at hq;refine aa.to ⟨DM.look [(1,.v (.box [.sl (bW x.av),.sl (aD x.insert),ti x.swap])),(2,.ptr 1003 0),(3,.v (ti n)),(4,.v (.sl (ce (b7 alt q)))),(5,.v (ti y)),(6,.v (ti m)),(7,.v (ti d)),(8,.v (ti t))],cF [(1003,.box [.v (ti 0),.bH,.bH])],40000,1000,[]⟩ ?_ ?_
         ·apply aa.block;obtain⟨c,hc⟩:=aW (decide (m<n/\0<=By x m t):Bool);by_cases VR:m<n
          ·have hmc:m<x.av.length:=by omega
           have Me:=fJ hmc;obtain⟨cl,ba⟩:=aW (x.av.getD m default);have auw:cl∈x.av:=by rw[<-ba];simp[List.getD,hmc]
           have zJ:=auu cl auw;have akH:=pi cl auw;rw[ba]at Me;have htr:t<cl.read.length:=by omega
           have xR:=cH htr;have LB:By x m t=cl.read.getD t default:=by unfold By;rw[ba]
           rw[LB]at hq hc;obtain⟨u,hu⟩:=aW (cl.read.getD t default);rw[hu]at xR hq hc;refine aa.ci aB fw [(1,.v (.box [.sl (bW x.av),.sl (aD x.insert),ti x.swap])),(2,.ptr 1003 0),(3,.v (ti n)),(4,.v (.sl (ce alt))),(5,.v (ti y)),(6,.v (ti m)),(7,.v (ti d)),(8,.v (ti t)),(54,.v (.bool c))] ?_ ?_
           ·by_cases q2:0<=u
            ·have Lx:c=true:=by rw[<-hc];simp[VR,q2]
             simp[PX,VR,hn,Me,cQ.enc,htr,xR,q2,Lx]
            ·have Lx:c=false:=by rw[<-hc];simp[q2]
             simp[PX,VR,hn,Me,cQ.enc,htr,xR,q2,Lx]
           refine aa.cond rfl (λh=>?_) (λh=>?_)
           ·rw[h]at hc;simp only[sa]at hc;rw[cG hc]at hq;have hub:u<=1099511627776:=akH.2 u (by rw[<-hu];simp[List.getD,htr]);subst hq;apply aa.dZ aB fw [1,2,3,4,5,6,7,8];simp[ajN,w2y,w2m,axf,wmy,VR,hn,Me,cQ.enc,htr,xR];refine⟨⟨d,u,⟨rfl,rfl⟩,by omega,by omega⟩,⟨m-y,rfl,by omega⟩,⟨alt,⟨rfl,⟨⟨2*y,2*m+2,t,pI d u,fN (m-y)++[(1,(t:Int))]⟩,rfl⟩⟩,by omega⟩,Le.bi ?_ ?_ ?_ ?_⟩;iterate 3(·simp)
            ·simp[b7]
           ·rw[h]at hc;simp only[zM]at hc;rw[bj hc]at hq;subst hq;refine aa.skip ⟨rfl,Le.bi ?_ ?_ ?_ ?_⟩;iterate 3(·simp)
            ·simp[b7]
          ·have Lx:c=false:=by rw[<-hc];simp[VR]
           rw[bj (λh=>VR h.1)]at hq;subst hq;refine aa.ci aB fw [(1,.v (.box [.sl (bW x.av),.sl (aD x.insert),ti x.swap])),(2,.ptr 1003 0),(3,.v (ti n)),(4,.v (.sl (ce alt))),(5,.v (ti y)),(6,.v (ti m)),(7,.v (ti d)),(8,.v (ti t)),(54,.v (.bool false))] ?_ ?_
           ·simp[PX,VR]
           refine aa.cond rfl (λh=>by cases h) (λ_=>?_);refine aa.skip ⟨rfl,Le.bi ?_ ?_ ?_ ?_⟩;iterate 3(·simp)
           ·simp[b7]
         ·apply aa.dZ aB fw [1,2,3,4,5,6,7,8];simp[ajO];rw[aA (by omega)];refine⟨t+1,Le.bi ?_ ?_ ?_ ?_,by omega,by omega⟩;iterate 3(·simp)
          ·simp[Gm]
        ·simp at hct;have:t=tm:=by omega
         subst this;refine aa.exit ⟨rfl,Le.bi ?_ ?_ ?_ ?_⟩;iterate 3(·simp)
         ·simp[<-UM,halt]
       simp;apply aa.ai aB fw [1,2,3,4,5,6,7,83];simp[ajP,Bv];refine⟨⟨m,rfl,by omega⟩, ?_⟩;rw[auv];obtain⟨q,hq⟩:=aW (rS x y m);rw[hq];unfold rS at hq;rw[hdd]at hq;refine aa.cond rfl (λh=>?_) (λh=>?_)
       ·rw[cG h]at hq;have Nd:m+1<x.av.length:=by simp[c7]at h;exact h.1
        have Me:DM.rowAt (bW x.av) ((m:Int)+1)=_:=fJ Nd;obtain⟨cl,ba⟩:=aW (x.av.getD (m+1) default);rw[ba]at Me hq;have akm:((m:Int)+1<n)=True:=by simp;omega
        have UD:(0<=(m:Int)+1)=True:=by simp;omega
        subst hq;apply aa.dZ aB fw [1,2,3,4,5,6];simp[ajQ,w2y,w2m,axe,wm1,wmy,hn,Me,akm,UD,cQ.enc];refine⟨⟨d,x.swap,⟨rfl,rfl⟩,by omega,by omega⟩,⟨m-y,rfl,by omega⟩,⟨al3,⟨rfl,⟨⟨2*y,2*m+1,cl.kind,pI d x.swap,fN (m-y)++[(4,0)]⟩,rfl⟩⟩,by omega⟩,Le.bi ?_ ?_ ?_ ?_⟩;iterate 3(·simp)
        ·simp[b7]
       ·rw[bj (by simp[h])]at hq;subst hq;refine aa.skip ⟨rfl,Le.bi ?_ ?_ ?_ ?_⟩;iterate 3(·simp)
        ·simp[b7]
      ·apply aa.dZ aB fw [1,2,3,4,5,6];simp[ajR];rw[aA (by omega)];refine⟨m+1,Le.bi ?_ ?_ ?_ ?_,by omega,by omega⟩;iterate 3(·simp)
       ·simp[Qe]
     ·simp at I2;have:m=n+1:=by omega
      subst this;refine aa.exit ⟨rfl,Le.bi ?_ ?_ ?_ ?_⟩;iterate 3(·simp)
      ·simp[<-Cg,Qd]
    simp;apply aa.ai aB fw [1,2,3,4,5,110];simp[ajS,Bv];refine⟨⟨y,rfl,by omega⟩, ?_⟩;rw[lN];obtain⟨q,hq⟩:=aW (rT x y);rw[hq];unfold rT at hq;refine aa.cond rfl (λh=>?_) (λh=>?_)
    ·rw[cG h]at hq;have Nd:y<x.av.length:=by simp[c7]at h;omega
     have Me:=fJ Nd;obtain⟨cl,ba⟩:=aW (x.av.getD y default);rw[ba]at Me hq;have axg:IntKind.i64.wrap (2*(y:Int)+1)=2*y+1:=aA (by omega);have axh:IntKind.i64.wrap (2*(y:Int)+4)=2*y+4:=aA (by omega);have DN:y<n:=by omega
     subst hq;apply aa.dZ aB fw [1,2,3,4,5];simp[ajT,w2y,axg,axh,hn,Me,DN,cQ.enc];refine⟨⟨OE,⟨rfl,⟨⟨2*y+1,2*y+4,cl.kind,0,[]⟩,rfl⟩⟩,by omega⟩,Le.bi ?_ ?_ ?_ ?_⟩;iterate 3(·simp)
     ·simp[b7]
    ·rw[bj (by simp[h])]at hq;subst hq;refine aa.skip ⟨rfl,Le.bi ?_ ?_ ?_ ?_⟩;iterate 3(·simp)
     ·simp[b7]
   ·apply aa.dZ aB fw [1,2,3,4,5];simp[ajU];rw[aA (by omega)];refine⟨y+1,Le.bi ?_ ?_ ?_ ?_,by omega,by omega⟩;iterate 3(·simp)
    ·simp[pz]
  ·simp at ct;have:y=n+1:=by omega
   subst this;refine aa.exit ⟨rfl,Le.bi ?_ ?_ ?_ ?_⟩;iterate 3(·simp)
   ·simp[<-P5,mN]
 simp;apply aa.sq aB fw [1,2,3,4,9];simp[ajV];obtain⟨OE,Cg⟩:=aW (b7 Nc (ft (iI x) 0 (n+1)));have US:∀y,y<=n+1->(b7 Nc (ft (iI x) 0 y)).length<=900000:=by
  intro y hy;have h1:=kK (ft (iI x) 0 y) Nc;have h2:=pp (f:=iI x) (B:=7000) (λk=>ZT x k ht aut) 0 y;omega
 refine aa.to ⟨DM.look [(1,.v (.box [.sl (bW x.av),.sl (aD x.insert),ti x.swap])),(2,.ptr 1003 0),(3,.v (ti n)),(4,.v (.sl (ce OE)))],cF [(1003,.box [.v (ti 0),.bH,.bH])],100000,1000,[]⟩ ?_ ?_
 ·apply aa.block;refine aa.loop (λy:Nat=>⟨DM.look [(1,.v (.box [.sl (bW x.av),.sl (aD x.insert),ti x.swap])),(2,.ptr 1003 0),(3,.v (ti n)),(4,.v (.sl (ce (b7 Nc (ft (iI x) 0 y))))),(9,.v (ti y))],cF [(1003,.box [.v (ti 0),.bH,.bH])],110000,1000,[]⟩)
   (λy=>y<=n+1) (λy=>n+1-y) 0 (Le.bi ?_ ?_ ?_ ?_) (by simp) (λy hy=>?_)
  iterate 3(·simp)
  ·simp[yE,b7]
  have lal:=US y hy;have Qb:=ug (iI x) (KT y);obtain⟨al,mN⟩:=aW (b7 Nc (ft (iI x) 0 y));have pz:b7 Nc (ft (iI x) 0 (y+1))=b7 al (iI x y):=by rw[Qb,fC,mN]
  rw[mN]at lal⊢;apply aa.sq aB fw [1,2,3,4,9,128];simp[ajW];refine aa.cond rfl (λct=>?_) (λct=>?_)
  ·simp at ct;have w2y:IntKind.i64.wrap (2*(y:Int))=2*y:=aA (by omega);apply aa.skip;simp;apply aa.seq;refine aa.to ⟨DM.look [(1,.v (.box [.sl (bW x.av),.sl (aD x.insert),ti x.swap])),(2,.ptr 1003 0),(3,.v (ti n)),(4,.v (.sl (ce (b7 al (iI x y))))),(9,.v (ti y))],cF [(1003,.box [.v (ti 0),.bH,.bH])],150000,1000,[]⟩ ?_ ?_
   ·apply aa.block;apply aa.ai aB fw [1,2,3,4,9,10];simp[ajX];have lB:∀m,m<=n+1->(b7 al (ft (iM x y) y m)).length<=910000:=by
     intro m hm;have h1:=kK (ft (iM x y) y m) al;have h2:=pp (f:=iM x y) (B:=100) (λk=>ZS x y k ht) y m;omega
    apply aa.block;refine aa.loop (λm:Nat=>⟨DM.look [(1,.v (.box [.sl (bW x.av),.sl (aD x.insert),ti x.swap])),(2,.ptr 1003 0),(3,.v (ti n)),(4,.v (.sl (ce (b7 al (ft (iM x y) y m))))),(9,.v (ti y)),(10,.v (ti m))],cF [(1003,.box [.v (ti 0),.bH,.bH])],120000,1000,[]⟩)
     (λm=>y<=m/\m<=n+1) (λm=>n+1-m) y (Le.bi ?_ ?_ ?_ ?_) (by omega) (λm hm=>?_)
    iterate 3(·simp)
    ·simp[yE,b7]
    obtain⟨C0,DD⟩:=hm;have akE:=lB m DD;have Qc:=ug (iM x y) C0;obtain⟨K3,Qd⟩:=aW (b7 al (ft (iM x y) y m));have Qe:b7 al (ft (iM x y) y (m+1))=b7 K3 (iM x y m):=by rw[Qc,fC,Qd]
    rw[Qd]at akE⊢;apply aa.sq aB fw [1,2,3,4,9,10,134];simp[ajY];refine aa.cond rfl (λI2=>?_) (λI2=>?_)
    ·simp at I2;have w2m:IntKind.i64.wrap (2*(m:Int))=2*m:=aA (by omega);have wmy:IntKind.i64.wrap ((m:Int)-y)=((m-y:Nat):Int):=by rw[aA (by omega)];omega
     obtain⟨d,hdd⟩:=aW (mE x y m);have akF:=hdb y m;rw[hdd]at akF;apply aa.skip;simp;apply aa.seq;refine aa.to ⟨DM.look [(1,.v (.box [.sl (bW x.av),.sl (aD x.insert),ti x.swap])),(2,.ptr 1003 0),(3,.v (ti n)),(4,.v (.sl (ce (b7 K3 (iM x y m))))),(9,.v (ti y)),(10,.v (ti m))],cF [(1003,.box [.v (ti 0),.bH,.bH])],140000,1000,[]⟩ ?_ ?_
     ·apply aa.block;apply aa.ai aB fw [1,2,3,4,9,10,11];simp[ajZ];have lC:∀t,t<=tm->(b7 K3 (ft (iT x y m) 0 t)).length<=920000:=by
       intro t EZ;have h1:=kK (ft (iT x y m) 0 t) K3;have h2:=pp (f:=iT x y m) (B:=1) (λk=>by simp[iT]) 0 t;omega
      apply aa.block;refine aa.loop (λt:Nat=>⟨DM.look [(1,.v (.box [.sl (bW x.av),.sl (aD x.insert),ti x.swap])),(2,.ptr 1003 0),(3,.v (ti n)),(4,.v (.sl (ce (b7 K3 (ft (iT x y m) 0 t))))),(9,.v (ti y)),(10,.v (ti m)),(11,.v (ti t))],cF [(1003,.box [.v (ti 0),.bH,.bH])],130000,1000,[]⟩)
       (λt=>t<=tm) (λt=>tm-t) 0 (Le.bi ?_ ?_ ?_ ?_) (by simp) (λt EZ=>?_)
      iterate 3(·simp)
      ·simp[yE,b7]
      have akG:=lC t EZ;have Qf:=ug (iT x y m) (KT t);obtain⟨alt,halt⟩:=aW (b7 K3 (ft (iT x y m) 0 t));have Gm:b7 K3 (ft (iT x y m) 0 (t+1))=b7 alt (iT x y m t):=by rw[Qf,fC,halt]
      rw[halt]at akG⊢;apply aa.sq aB fw [1,2,3,4,9,10,11,141];simp[aj0,g8];refine aa.cond rfl (λhct=>?_) (λhct=>?_)
      ·simp at hct;apply aa.skip;simp;apply aa.seq;apply aa.block;have htx:t<x.insert.length:=by omega
       have xR:=cH htx;obtain⟨u,hu⟩:=aW (x.insert.getD t default);have hub:=ZE u (by rw[<-hu];simp[List.getD,htx]);have hiT:iT x y m t=[⟨2*y,2*m,t,pI d u,fN (m-y)++[(3,(t:Int))]⟩]:=by unfold iT;rw[hdd,hu]
       rw[hu]at xR;apply aa.dZ aB fw [1,2,3,4,9,10,11];simp[aj1,Bv,hdd,w2y,w2m,wmy,g8,xR,hct];refine⟨⟨y,m,⟨rfl,rfl⟩,C0,by omega⟩,⟨d,u,⟨rfl,rfl⟩,by omega,by omega⟩,⟨m-y,rfl,by omega⟩,⟨alt,⟨rfl,⟨⟨2*y,2*m,t,pI d u,fN (m-y)++[(3,(t:Int))]⟩,rfl⟩⟩,by omega⟩, ?_⟩;apply aa.dZ aB fw [1,2,3,4,9,10,11];simp[aj2];rw[aA (by omega)];refine⟨t+1,Le.bi ?_ ?_ ?_ ?_,by omega,by omega⟩;iterate 3(·simp)
       ·rw[hiT]at Gm;have KZ:b7 K3 (ft (iT x y m) 0 (t+1))=ud alt ⟨2*y,2*m,t,pI d u,fN (m-y)++[(3,(t:Int))]⟩:=Gm;simp[KZ]
      ·simp at hct;have:t=tm:=by omega
       subst this;refine aa.exit ⟨rfl,Le.bi ?_ ?_ ?_ ?_⟩;iterate 3(·simp)
       ·simp[<-halt,iM,g8]
     ·apply aa.dZ aB fw [1,2,3,4,9,10];simp[aj3];rw[aA (by omega)];refine⟨m+1,Le.bi ?_ ?_ ?_ ?_,by omega,by omega⟩;iterate 3(·simp)
      ·simp[Qe]
    ·simp at I2;have:m=n+1:=by omega
     subst this;refine aa.exit ⟨rfl,Le.bi ?_ ?_ ?_ ?_⟩;iterate 3(·simp)
     ·simp[<-Qd,iI,hn]
   ·apply aa.dZ aB fw [1,2,3,4,9];simp[aj4];rw[aA (by omega)];refine⟨y+1,Le.bi ?_ ?_ ?_ ?_,by omega,by omega⟩;iterate 3(·simp)
    ·simp[pz]
  ·simp at ct;have:y=n+1:=by omega
   subst this;refine aa.exit ⟨rfl,Le.bi ?_ ?_ ?_ ?_⟩;iterate 3(·simp)
   ·simp[<-Cg,mN]
 simp;have axd:OE.length<=900000:=by rw[<-Cg];exact US _ (by omega)
 obtain⟨N,hN⟩:=aW (2*n+1);have w2n:IntKind.i64.wrap (2*(n:Int))=2*n:=aA (by omega);have aux:IntKind.i64.wrap (2*(n:Int)+1)=(N:Int):=by rw[aA (by omega)];omega
 apply aa.ai aB fw [1,2,3,12];simp[aj5,w2n,aux];apply aa.ai aB fw [1,2,3,12,13];simp[aj6,w2n,aux];refine⟨by simp[du];omega, ?_⟩;apply aa.sq aB fw [1,2,3,12,13,14];simp[aj7];have zJ:(gp x 0).length=N:=by simp[gp,hn,hN]
 have Nm:∀k,(gp x k).length=N:=λk=>by simp[gp,hn,hN]
 have hF0:List.replicate N [T.int IntKind.i64 0]=aD (gp x 0):=by
  rw[<-hN,<-hn];apply UO
  ·simp[gp,aD]
  ·intro i h1 h2;simp[gp,aD]
 have hFs:∀k,k<N->(gp x k).set k (if k % 2=0 then mE x (k/2) n else 1099511627776)=gp x (k+1):=by
  intro k hk;rw[<-hn];apply UO
  ·simp[gp]
  ·intro i h1 h2;rw[Zb6];simp only[gp,Zb0,ZbX];by_cases e:k=i
   ·subst e;simp
   ·rw[bj e];have hq:(i<k+1)=(i<k):=propext ⟨λh=>by omega,λh=>by omega⟩;simp only[hq]
 rw[hF0];apply aa.block;refine aa.loop (λk:Nat=>⟨DM.look [(1,.v (.box [.sl (bW x.av),.sl (aD x.insert),ti x.swap])),(2,.ptr 1003 0),(3,.v (ti n)),(12,.ptr 100013 0),(13,.bE 100378 0),(14,.v (ti k))],cF [(1003,.box [.v (ti 0),.bH,.bH]),(100013,.box [.v (ti N),.v (.sl (ce OE)),.bH]),(100378,.bJ 0 3 1 (aD (gp x k)))],200000,1000,[]⟩)
  (λk=>k<=N) (λk=>N-k) 0 (Le.bi ?_ ?_ ?_ ?_) (by simp) (λk hk=>?_)
 iterate 4(·simp)
 apply aa.sq aB fw [1,2,3,12,13,14,180];simp[aj8,Nm];refine aa.cond rfl (λxU=>?_) (λxU=>?_)
 ·simp at xU;have hrw:DM.rowAt (aD (gp x k)) (k:Int)=[ti ((gp x k).getD k default)]:=cH (by rw[Nm];exact xU);have axi:DM.rowAt (aD ((gp x k).set k 1099511627776)) (k:Int)=[ti (((gp x k).set k 1099511627776).getD k default)]:=cH (by rw[Zdu,Nm];exact xU);have hs:=hFs k xU;apply aa.skip;simp;apply aa.seq;refine aa.to ⟨DM.look [(1,.v (.box [.sl (bW x.av),.sl (aD x.insert),ti x.swap])),(2,.ptr 1003 0),(3,.v (ti n)),(12,.ptr 100013 0),(13,.bE 100378 0),(14,.v (ti k))],cF [(1003,.box [.v (ti 0),.bH,.bH]),(100013,.box [.v (ti N),.v (.sl (ce OE)),.bH]),(100378,.bJ 0 3 1 (aD (gp x (k+1))))],300000,1000,[]⟩ ?_ ?_
  ·apply aa.block;apply aa.ai aB fw [1,2,3,12,13,14];simp[aj9,Nm,xU,hrw];rw[show(aD (gp x k)).set k [T.int IntKind.i64 1099511627776]=aD ((gp x k).set k 1099511627776)from Nj _ _ _];refine aa.lk (o:=[(1003,.box [.v (ti 0),.bH,.bH]),(100013,.box [.v (ti N),.v (.sl (ce OE)),.bH]),(100378,.bJ 0 3 1 (aD ((gp x k).set k 1099511627776)))]) (l:=[(1,.v (.box [.sl (bW x.av),.sl (aD x.insert),ti x.swap])),(2,.ptr 1003 0),(3,.v (ti n)),(12,.ptr 100013 0),(13,.bE 100378 0),(14,.v (ti k))]) (aV:=210000) (by simp) ?_;have wm:(k:Int).tmod 2=k % 2:=amQ (by omega);have wd:(k:Int).tdiv 2=((k/2:Nat):Int):=by rw[Al (by omega)];omega
   have ww:IntKind.i64.wrap ((k:Int) % 2)=k % 2:=aA (by omega);have ww2:IntKind.i64.wrap ((k/2:Nat):Int)=((k/2:Nat):Int):=aA (by omega);obtain⟨h2,hh2⟩:=aW (k/2);rw[hh2]at wd ww2 hs;apply aa.ai aB fw [1,2,3,12,13,14,188];simp[aka,wm];refine aa.cond rfl (λh=>?_) (λh=>?_)
   ·simp at h;have wo:k % 2=0:=by omega
    rw[cG wo]at hs;apply aa.dZ aB fw [1,2,3,12,13,14];simp[akb,Bv,wd,ww2,Nm,xU,axi];refine⟨⟨h2,n,⟨rfl,rfl⟩,by omega,by omega⟩,Le.bi ?_ ?_ ?_ ?_⟩
    ·simp
    ·simp
    ·simp[<-hs,<-Nj]
    ·simp
   ·simp at h;have wo:¬k % 2=0:=by omega
    rw[bj wo]at hs;refine aa.skip ⟨rfl,Le.bi ?_ ?_ ?_ ?_⟩
    ·simp
    ·simp
    ·simp[hs]
    ·simp
  ·apply aa.dZ aB fw [1,2,3,12,13,14];simp[akc];rw[aA (by omega)];refine⟨k+1,Le.bi ?_ ?_ ?_ ?_,by omega,by omega⟩;iterate 3(·simp)
   ·simp
 ·simp at xU;have:k=N:=by omega
  subst this;apply aa.exit;simp;apply aa.ai aB fw [2,12];simp[akd];apply aa.ai aB fw [2];simp[ake];apply aa.ret;subst hR;rw[hn,hN,P5,Cg];simp[Zy,aU.enc];omega
open Go.DM Go.DM.Tz
section
variable(akx:aK->Prop)(afg:aK->aK->Int)
abbrev Bx(x y:aK):Bool:=decide (afg x y<0)
variable{akx afg}
end
def tH:Nat:=1000000000
section
variable{al:List cC}
def db(a:cC):aK:=[ti a.f,ti a.t,ti a.term]
def vt(r:aK):Prop:=∃f t x:Int,r=[ti f,ti t,ti x]
def lG(r:aK):Int×Int×Int:=(d0 (r.getD 0 (ti 0)),d0 (r.getD 1 (ti 0)),d0 (r.getD 2 (ti 0)))
def lt3(a b:Int×Int×Int):Prop:=a.1<b.1\/(a.1=b.1/\(a.2.1<b.2.1\/(a.2.1=b.2.1/\a.2.2<b.2.2)))
def or3(a b c d e f:Int):SU [vD a d,vD b e,vD c f]<0↔lt3 (a,b,c) (d,e,f):=by
 simp only[SU,vD,lt3];by_cases h1:a<d
 ·simp[h1]
 ·by_cases h2:d<a
  ·have:a≠d:=by omega
   simp[h1,h2,this]
  ·have:a=d:=by omega
   subst this;by_cases h3:b<e
   ·simp[h3]
   ·by_cases h4:e<b
    ·have:b≠e:=by omega
     simp[h3,h4,this]
    ·have:b=e:=by omega
     subst this;by_cases h5:c<f
     ·simp[h5]
     ·by_cases h6:f<c
      ·have:¬c<f:=by omega
       simp[h5,h6]
      ·simp[h5,h6]
def ays(x y:aK):Bx fS x y=true↔lt3 (lG x) (lG y):=by
 simp only[Bx,sa];exact or3 _ _ _ _ _ _
def wZ(x y:aK):Bx fS x y=false↔¬lt3 (lG x) (lG y):=by
 rw[<-ays];simp
def Ld:SWO (Bx fS):=by
 refine⟨λx=>?_,λx y z h1 h2=>?_,λx y z h1 h2=>?_⟩
 ·rw[wZ];unfold lt3;omega
 ·rw[ays]at h1 h2⊢;unfold lt3 at h1 h2⊢;omega
 ·rw[wZ]at h1 h2⊢;unfold lt3 at h1 h2⊢;omega
def afh{x y:aK}(h:t7 (Bx fS) x y=true):lG x=lG y:=by
 simp only[t7,mX,TS,wZ]at h;unfold lt3 at h;generalize lG x=p at h⊢;generalize lG y=q at h⊢;obtain⟨a1,a2,a3⟩:=p;obtain⟨b1,b2,b3⟩:=q;simp only[oL]at h⊢;omega
def Cj{x y:aK}(hx:vt x)(hy:vt y)(h:lG x=lG y):x=y:=by
 obtain⟨a,b,c,rfl⟩:=hx;obtain⟨d,e,f,rfl⟩:=hy;simp[lG,d0]at h;simp[h]
def Kj{l:List (aK)}(hg:∀x∈l,vt x)(hn:l.Nodup)(z:aK):(l.filter (t7 (Bx fS) z)).length<=1:=by
 have G7:(l.filter (t7 (Bx fS) z)).Nodup:=hn.filter _;have eI:∀x∈l.filter (t7 (Bx fS) z),vt x/\lG x=lG z:=by
  intro x hx;rw[Rt]at hx;exact⟨hg x hx.1,(afh hx.2).symm⟩
 match hl:l.filter (t7 (Bx fS) z),G7,eI with
 |[],_,_=>simp
 |[a],_,_=>simp
 |a::b::l,G7,eI=>
  exfalso;have h1:=eI a (by simp);have h2:=eI b (by simp);have:=Cj h1.1 h2.1 (h1.2.trans h2.2.symm);subst this;simp at G7
def P6{l1 l2:List (aK)}(hp:l1.Perm l2)(hg:∀x∈l2,vt x)(hn:l2.Nodup):lE (Bx fS) l1=lE (Bx fS) l2:=by
 refine LY Ld (uf Ld l2) λx=>?_;rw[Av Ld];have h1:=hp.filter (t7 (Bx fS) x);have h2:=Kj hg hn x;cases h:l2.filter (t7 (Bx fS) x)with
 |nil=>rw[h]at h1;exact(List.Perm.eq_nil h1).symm
 |cons a t=>
  rw[h]at h1 h2;have:t=[]:=by cases t with
   |nil=>rfl
   |cons b t=>simp at h2
  subst this;exact(List.perm_singleton.1 h1).symm
def ue{a b:cC}:db a=db b↔bk a b=true:=by simp[db,bk]
def P8(h:(al.map db).Nodup)(a:cC):((yA al a).map db).Nodup:=by
 unfold yA;split
 ·cases hf:al.findIdx? (bk a)with
  |none=>
   simp only;rw[Jv,Zco];refine⟨h,by simp, ?_⟩;intro x hx y hy;simp only[rW,VP,pe]at hy;subst hy;obtain⟨b,hb,rfl⟩:=iF.1 hx;intro e;rw[Zcs]at hf;have:=hf b hb;rw[ue.1 e.symm]at this;cases this
  |some i=>
   simp only;split
   ·have hi:=xG hf;rw[Zbz]at hf;have hk:db a=db al[i]:=ue.2 hf.2.1;rw[Zce,hk];have:(al.map db).set i (db al[i])=al.map db:=by
     apply UO
     ·simp
     ·intro k h1 h2;rw[Zb6];split
      ·rename_i e;subst e;simp
      ·rfl
    rw[this];exact h
   ·exact h
 ·exact h
def zS(cs:List cC):∀{al:List cC},(al.map db).Nodup->((c6 al cs).map db).Nodup:=by
 induction cs with
 |nil=>intro al h;exact h
 |cons c cs ih=>intro al h;exact ih (P8 h c)
def tn(al:List cC)(r:aK):cC:=(al.find? (bk ⟨(lG r).1,(lG r).2.1,(lG r).2.2,0,[]⟩)).getD default
def ZI{α:Type}(p:α->Bool)(l:List α):l.find? p=(l.findIdx? p).bind λi=>l[i]? :=by
 induction l with
 |nil=>rfl
 |cons x l ih=>
  rw[K9,VC];cases h:p x with
  |true=>simp
  |false=>simp[ih];cases l.findIdx? p<;>simp
def wX{a:cC}(h:a∈al):bk a (tn al (db a))=true/\tn al (db a)∈al/\∃i,tr a.key (dN al)=some (i,(tn al (db a)).key,.v (.agg (tn al (db a)).enc)):=by
 have e:bk ⟨(lG (db a)).1,(lG (db a)).2.1,(lG (db a)).2.2,0,[]⟩=bk a:=by
  funext b;simp[bk,lG,db,d0]
 unfold tn;rw[e,AA,sk,ZI];cases hf:al.findIdx? (bk a)with
 |none=>
  rw[Zcs]at hf;have:=hf a h;simp[bk]at this
 |some i=>
  have hi:=xG hf;rw[Zbz]at hf;simp only[ZcJ,iP,xi hi,OA,Rs];exact⟨hf.2.1,Pt hi,i,rfl⟩
def lF(al:List cC):List cC:=(lE (Bx fS) (al.map db)).map (tn al)
def UQ{sn:cY}(h1:sn.Nodup)(h2:∀i∈sn,i<al.length)(h3:∀i,i<al.length->i∈sn):(sn.map λi=>db (al.getD i default)).Perm (al.map db):=by
 have hp:sn.Perm (List.range al.length):=(List.perm_ext_iff_of_nodup h1 List.nodup_range).2 λi=>by
  rw[IM];exact⟨h2 i,h3 i⟩
 have:=hp.map λi=>db (al.getD i default);refine this.trans (List.Perm.of_eq ?_);apply UO
 ·simp
 ·intro k k1 k2;simp at k2;simp[k2]
end
open Go.Shelf
def Ni:Go.Shelf.Ren:=⟨fun|6=>49|15=>79|14=>78|28=>116|29=>117|20=>108|21=>109|22=>110|23=>111|24=>112|25=>113|26=>114|27=>115|46=>135|47=>136|48=>137|49=>138|50=>139|57=>149|n=>n,fun|22=>102|24=>104|25=>106|3=>3|39=>129|0=>0|53=>175|55=>178|4=>4|46=>184|45=>183|50=>188|5=>5|9=>9|66=>212|70=>216|76=>222|77=>196|n=>n,fun|n=>n⟩
def afi:SlLaysF0.n6 aj Ni where
 mixed:=by kernel_rfl
 f6:=⟨Tryz.f49.name,by decide+kernel,Tryz.func49.trans (congrArg some (by kernel_rfl))⟩
 f14:=⟨Tryz.f78.name,by decide+kernel,Tryz.func78.trans (congrArg some (by kernel_rfl))⟩
 f15:=Tryz.func79.trans (congrArg some (by kernel_rfl))
 f20:=⟨Tryz.f108.name,by decide+kernel,Tryz.func108.trans (congrArg some (by kernel_rfl))⟩
 f21:=⟨Tryz.f109.name,by decide+kernel,Tryz.func109.trans (congrArg some (by kernel_rfl))⟩
 f22:=⟨Tryz.f110.name,by decide+kernel,Tryz.func110.trans (congrArg some (by kernel_rfl))⟩
 f23:=⟨Tryz.f111.name,by decide+kernel,Tryz.func111.trans (congrArg some (by kernel_rfl))⟩
 f24:=⟨Tryz.f112.name,by decide+kernel,Tryz.func112.trans (congrArg some (by kernel_rfl))⟩
 f25:=⟨Tryz.f113.name,by decide+kernel,Tryz.func113.trans (congrArg some (by kernel_rfl))⟩
 f26:=⟨Tryz.f114.name,by decide+kernel,Tryz.func114.trans (congrArg some (by kernel_rfl))⟩
 f27:=⟨Tryz.f115.name,by decide+kernel,Tryz.func115.trans (congrArg some (by kernel_rfl))⟩
 f28:=Tryz.func116.trans (congrArg some (by kernel_rfl))
 f29:=Tryz.func117.trans (congrArg some (by kernel_rfl))
 f46:=⟨Tryz.f135.name,by decide+kernel,Tryz.func135.trans (congrArg some (by kernel_rfl))⟩
 f47:=Tryz.func136.trans (congrArg some (by kernel_rfl))
 f48:=Tryz.func137.trans (congrArg some (by kernel_rfl))
 f49:=⟨Tryz.f138.name,by decide+kernel,Tryz.func138.trans (congrArg some (by kernel_rfl))⟩
 f50:=⟨Tryz.f139.name,by decide+kernel,Tryz.func139.trans (congrArg some (by kernel_rfl))⟩
 f57:=⟨Tryz.f149.name,by decide+kernel,Tryz.func149.trans (congrArg some (by kernel_rfl))⟩
 t0:=Tryz.underlying0
 a0:=Tryz.isAgg0
 z0:=Tryz.sizeOf0
 v0:=Tryz.zeroValue0
 t3:=Tryz.underlying3
 a3:=Tryz.isAgg3
 z3:=Tryz.sizeOf3
 v3:=Tryz.zeroValue3
 t4:=Tryz.underlying4
 a4:=Tryz.isAgg4
 z4:=Tryz.sizeOf4
 v4:=Tryz.zeroValue4
 t5:=Tryz.underlying5
 a5:=Tryz.isAgg5
 z5:=Tryz.sizeOf5
 v5:=Tryz.zeroValue5
 t9:=Tryz.underlying9
 a9:=Tryz.isAgg9
 z9:=Tryz.sizeOf9
 v9:=Tryz.zeroValue9
 t22:=Tryz.underlying102
 a22:=Tryz.isAgg102
 z22:=Tryz.sizeOf102
 v22:=Tryz.zeroValue102
 t25:=Tryz.underlying106
 a25:=Tryz.isAgg106
 z25:=Tryz.sizeOf106
 v25:=Tryz.zeroValue106
 t39:=Tryz.underlying129
 a39:=Tryz.isAgg129
 z39:=Tryz.sizeOf129
 v39:=Tryz.zeroValue129
 t45:=Tryz.underlying183
 a45:=Tryz.isAgg183
 z45:=Tryz.sizeOf183
 v45:=Tryz.zeroValue183
 t46:=Tryz.underlying184
 a46:=Tryz.isAgg184
 z46:=Tryz.sizeOf184
 v46:=Tryz.zeroValue184
 t50:=Tryz.underlying188
 a50:=Tryz.isAgg188
 z50:=Tryz.sizeOf188
 v50:=Tryz.zeroValue188
 t53:=Tryz.underlying175
 a53:=Tryz.isAgg175
 z53:=Tryz.sizeOf175
 v53:=Tryz.zeroValue175
 t55:=Tryz.underlying178
 a55:=Tryz.isAgg178
 z55:=Tryz.sizeOf178
 v55:=Tryz.zeroValue178
 t66:=Tryz.underlying212
 a66:=Tryz.isAgg212
 z66:=Tryz.sizeOf212
 v66:=Tryz.zeroValue212
 t70:=Tryz.underlying216
 a70:=Tryz.isAgg216
 z70:=Tryz.sizeOf216
 v70:=Tryz.zeroValue216
 t76:=Tryz.underlying222
 a76:=Tryz.isAgg222
 z76:=Tryz.sizeOf222
 v76:=Tryz.zeroValue222
 t77:=Tryz.underlying196
 a77:=Tryz.isAgg196
 z77:=Tryz.sizeOf196
 v77:=Tryz.zeroValue196
def VT(x y:pP 3):Int:=fS (jN x) (jN y)
def aw7(x:pP 3):∃a b c:Int,x.1=[a,b,c]:=by
 obtain⟨l,hl⟩:=x
 match l,hl with
 |[a,b,c],_=>exact⟨a,b,c,rfl⟩
def good_row(x:pP 3):vt (jN x):=by
 obtain⟨a,b,c,h⟩:=aw7 x;exact⟨a,b,c,by unfold jN;rw[h];rfl⟩
def ZJ{r:aK}(h:vt r):∃x:pP 3,jN x=r:=by
 obtain⟨a,b,c,rfl⟩:=h;exact⟨⟨[a,b,c],rfl⟩,rfl⟩
def Ig:∀{D:List (aK)},(∀x∈D,vt x)->∃E:List (pP 3),E.map jN=D
 |[],_=>⟨[],rfl⟩
 |r::D,h=>by
  obtain⟨x,hx⟩:=ZJ (h r (by simp));obtain⟨E,hE⟩:=Ig λy hy=>h y (VO _ hy);exact⟨x::E,by simp[hx,hE]⟩
def aky(x y:pP 3):ltOf VT x y=Bx fS (jN x) (jN y):=rfl
def Ei:Go.Sort.SWO (ltOf VT):=
 ⟨λx=>Ld.irrefl _,λx y z=>Ld.trans _ _ _,λx y z=>Ld.ntrans _ _ _⟩
def ZK{k:Nat}{x y:pP k}(h:jN x=jN y):x=y:=by
 apply Subtype.ext;unfold jN at h;have key:∀(l m:bY),l.map tI=m.map tI->l=m:=by
  intro l;induction l with
  |nil=>intro m h;cases m with
   |nil=>rfl
   |cons b m=>cases h
  |cons a l ih=>intro m h;cases m with
   |nil=>cases h
   |cons b m=>
    simp only[rW,KU,T.int.injEq,rO]at h;rw[h.1,ih m h.2]
 exact key _ _ h
def afj(x y:pP 3)(h1:ltOf VT x y=false)(h2:ltOf VT y x=false):x=y:=by
 rw[aky]at h1 h2;exact ZK (Cj (good_row x) (good_row y) (afh (by simp[t7,h1,h2])))
def ZL(E:List (pP 3)):lE (Bx fS) (E.map jN)=(C5 VT E).map jN:=by
 refine LY Ld ?_ λz=>?_
 ·unfold yD;rw[ZcW];have h:=List.pairwise_mergeSort (le:=λx y=> !(ltOf VT) y x) (λa b c h1 h2=>by
   simp only[TS]at h1 h2⊢;exact Ei.ntrans _ _ _ h2 h1) (λa b=>by
   cases e:ltOf VT b a with
   |false=>rfl
   |true=>
    cases e2:ltOf VT a b with
    |false=>rfl
    |true=>
     have:=Ei.trans _ _ _ e e2;rw[Ei.irrefl]at this;cases this) E
  exact h.imp λ{a b} TA=>by rw[TS]at TA;exact TA
 ·have hp:((C5 VT E).map jN).Perm (E.map jN):=(List.mergeSort_perm E _).map _;have h1:=hp.filter (t7 (Bx fS) z);have eI:∀w∈(E.map jN).filter (t7 (Bx fS) z),∀u∈(E.map jN).filter (t7 (Bx fS) z),w=u:=by
   intro w hw u hu;rw[Rt]at hw hu;obtain⟨x,_,rfl⟩:=iF.1 hw.1;obtain⟨y,_,rfl⟩:=iF.1 hu.1;exact Cj (good_row x) (good_row y) ((afh hw.2).symm.trans (afh hu.2))
  generalize (E.map jN).filter (t7 (Bx fS) z)=l at h1 eI;generalize ((C5 VT E).map jN).filter (t7 (Bx fS) z)=l' at h1;apply UO h1.length_eq;intro i q1 q2;exact eI _ (h1.subset (Pt q1)) _ (Pt q2)
theorem P9 [bK](x y:pP 3):bb aj 50 [.agg (jN x),.agg (jN y)] (tI (VT x y)):=by
 obtain⟨a,b,c,h⟩:=good_row x;obtain⟨d,e,f,k⟩:=good_row y;unfold VT;rw[h,k];exact t33 a b c d e f
def t32(D:List (aK)){ab:bF}{r bP e:Nat}(iy:ab r=some (.bJ bP e 3 D))(ew:∀x∈D,vt x)(h4:D.length<=tH):
  aY aj 49 [.bE r bP,.v (.fn (.func 50) [])] ab ⟨True,.v (.eE []),eY ab r (.bJ bP e 3 (lE (Bx fS) D))⟩:=by
 obtain⟨E,rfl⟩:=Ig ew;rw[ZL];unfold tH at h4;exact LU (k:=3) afi (by omega) (λw=>Tryz.isAgg104 w) (λw=>Tryz.sizeOf104 w) (@P9 bK.none) Ei afj E iy (by simp at h4;omega)
def k32(akx:aK->Prop)(afg:aK->aK->Int):bM->bF->gC
 |[.bE r bP,.v (.fn (.func c) cA)],ab=>match ab r with
  |some (.bJ cJ e sz D)=>⟨bP=cJ/\sz=3/\c=50/\cA=[]/\(∀x∈D,akx x)/\D.length<=tH/\D.length<=1000000000,
    .v (.eE []),eY ab r (.bJ bP e 3 (lE (Bx afg) D))⟩
  |_=>⟨False,.undef,ab⟩
 |_,ab=>⟨False,.undef,ab⟩
def aw1{l:List (Nat×DM.Spec)}(h:ay aj (bB l)):ay aj (bB ((49,eL (k32 vt fS))::l)):=by
 refine ay.iL h ?_;intro args ab h;unfold k32 at h⊢;split at h
 ·split at h
  ·rename_i c cA _ cJ e sz D iy;obtain⟨rfl,rfl,rfl,rfl,h1,h4,h5⟩:=h;refine⟨λN hN=>?_,λk hk=>xy iy hk⟩;simp only[];exact(t32 D iy h1 h4).of rfl rfl
  ·exact h.elim
 ·exact h.elim
section
variable{ab:bF}{al:List cC}
def k30:bM->bF->gC
 |[.ptr b 0,.v (.int .i64 i)],ab=>
  ⟨ab b=some (.box (dI (ii ab b).1 (ii ab b).2))/\ab (ii ab b).2=some (da (Ce ab (ii ab b).2))/\0<=i/\i<=(ii ab b).1.av.length/\Mj (ii ab b).1,.v (.eE []),
   eY ab (ii ab b).2 (da (c6 (Ce ab (ii ab b).2) (vW (ii ab b).1 i.toNat)))⟩
 |_,ab=>⟨False,.undef,ab⟩
def akn{b m:Nat}{x:Input}{i:Nat}(h:ab b=some (.box (dI x m)))(hm:ab m=some (da al)):
  k30 [.ptr b 0,.v (ti i)] ab=⟨i<=x.av.length/\Mj x,.v (.eE []),eY ab m (da (c6 al (vW x i)))⟩:=by
 simp only[k30,Eh h,h,If hm,hm,iA,rO,Int.ofNat_le,ZcT]
abbrev Γ7:pW:=bB [(47,eL k30),(49,eL (k32 vt fS)),(48,eL k31),(46,Am ag7 ako 3 1)]
def ok7:ay aj Γ7:=by
 refine ay.iL (aw1 (ay.iL (ay.WZ ay.nil ?_) ?_)) ?_
 ·rintro ts ⟨v,n,rfl,h1,h2⟩;have:=t29 v n h1 h2;simpa [ako,aD]using this
 ·exact(ok5 48 (eL k31) rfl).st k31 rfl
 ·intro args ab h;unfold k30 at h⊢;split at h
  ·rename_i aI b i;obtain⟨hb,hm,h1,h2,h3⟩:=h;obtain⟨i,rfl⟩:=jm h1;refine⟨λN hN=>?_,λr hr=>xy hm hr⟩;exact aY.of (t30 hN hb hm (by omega) h3) (by simp) (by simp)
  ·exact h.elim
def ZF:cu:=[
 a 2 5 36 [],
 l 36 37 [0],
 n 6 38,
 o (.bin .mul (i 2) (t 38)) 39 [2],
 n 3 40,
 n 6 41,
 n 4 42,
 o (.callR 48 [(t 40),(t 41),(t 42)]) 43 [4,5,6],
 m 43 35 [7],
 e 0 35 44 [8],
 e 1 35 45 [8],
 x 1 37 39 46 (k [1,3] 9),
 S 1 46 44 (k [11,9,7] 9)]
def ZG{b m:Nat}{x:Input}{i j:Nat}(h:ab b=some (.box (dI x m))):
  yH k31 [.ptr b 0,.v (ti i),.v (ti j)] ab=(i<=j/\j<=x.av.length/\rV x.av)/\
   (k31 [.ptr b 0,.v (ti i),.v (ti j)] (CM ab [.ptr b 0,.v (ti i),.v (ti j)])).val=.v (.eE [ti (gE ((x.av.take j).drop i) 0),.sl (eJ (fN (j-i)))]):=by
 have hr:CM ab [.ptr b 0,.v (ti i),.v (ti j)] b=some (.box (dI x m)):=by simp[CM,bR,aT,h]
 refine⟨?_,by rw[Cf hr]⟩;unfold yH;apply propext;constructor
 ·intro H;have:=H ab (λ_ _=>rfl);rw[Cf h]at this;exact this.1
 ·intro H o ho;have hb:o b=some (.box (dI x m)):=by rw[ho b (by simp[bR,aT]),h]
  rw[Cf hb,Cf hr];exact⟨H,rfl,rfl⟩
def zR(x:Input)(y:Nat):List cC:=(List.range y).flatMap (vW x)
def UN(x:Input)(y:Nat):zR x (y+1)=zR x y++vW x y:=by simp[zR,B3]
def iQ(x:Input)(n y:Nat):List (aK):=(List.range n).map λs=>[ti (if s % 2=0/\s/2<y then mE x (s/2) x.av.length else 1099511627776)]
def Nf(x:Input){n y:Nat}(h:2*y<n):(iQ x n y).set (2*y) [ti (mE x y x.av.length)]=iQ x n (y+1):=by
 apply UO
 ·simp[iQ]
 ·intro k h1 h2;rw[Zb6];simp only[iQ,Zb0,ZbX];split
  ·rename_i e;subst e;rw[cG (by omega),show 2*y/2=y by omega]
  ·rename_i e;by_cases hk:k % 2=0/\k/2<y
   ·rw[cG hk,cG (by omega)]
   ·rw[bj hk,bj (by omega)]
def Ng(x:Input)(n y:Nat):(iQ x n y).length=n:=by simp[iQ]
def Kh(x:Input)(n:Nat):iQ x n 0=List.replicate n [ti 1099511627776]:=by
 apply UO
 ·simp[iQ]
 ·intro k h1 h2;simp[iQ]
def xH(a b:bF)(σ:Nat->Nat)(cs x9:bM):px a b σ (.box cs) (.box x9)=jg a b σ cs x9:=rfl
def xI(a b:bF)(σ:Nat->Nat)(v v' e e' sz jI:Nat)(aw fz:List (aK)):px a b σ (.bJ v e sz aw) (.bJ v' e' jI fz)=(e=e'/\sz=jI/\aw=fz):=rfl
def wI(a b:bF)(al:List cC):px a b id (da al) (da al):=by
 simp only[da,px];exact⟨trivial,trivial,trivial,qO λe he=>by obtain⟨x,hx⟩:=gS al e he;rw[hx];simp⟩
def Dk{e:Nat×T×DV}(h:e∈dN al):∃i,i<al.length/\e=(i,(al.getD i default).key,.v (.agg (al.getD i default).enc)):=by
 obtain⟨i,hi,rfl⟩:=HS h;rw[my]at hi;refine⟨i,hi, ?_⟩;have:=iP al i;rw[xi (by rw[my];exact hi),xi hi]at this;simp only[OA,cI]at this;rw[this];simp[List.getD,hi]
def Ki{i:Nat}(h:i<al.length):(dN al).find? (λe=>e.1==i)=some (i,(al.getD i default).key,.v (.agg (al.getD i default).enc)):=by
 rw[Zc7];have hg:∀(j:Nat) (hj:j<(dN al).length),(dN al)[j]=(j,(al.getD j default).key,.v (.agg (al.getD j default).enc)):=by
  intro j hj;rw[my]at hj;have:=iP al j;rw[xi (by rw[my];exact hj),xi hj]at this;simp only[OA,cI]at this;rw[this];simp[List.getD,hj]
 refine⟨by simp,i,by rw[my];exact h,hg _ _,λj hj=>?_⟩;rw[hg];simp;omega
def Ch:∀(n:Nat) {l:cY},l.Nodup->(∀i∈l,i<n)->l.length<=n
 |0,l,_,h=>by cases l with
  |nil=>simp
  |cons a l=>exact eK (h a (by simp)) (by omega)
 |n+1,l,hn,h=>by
  by_cases hm:n∈l
  ·have h1:=List.length_erase_of_mem hm;have h2:=Ch n (l:=l.erase n) (hn.erase n) (λi hi=>by
    have:=h i (List.mem_of_mem_erase hi);have cj:i≠n:=λe=>by subst e;exact(List.Nodup.not_mem_erase hn) hi
    omega)
   omega
  ·have:=Ch n hn (λi hi=>by
    have:=h i hi;have cj:i≠n:=λe=>hm (e▸hi);omega)
   omega
def oE(a b:bF)(al:List cC):kE a b id (dN al) (dN al):=qO λe he=>by obtain⟨x,hx⟩:=gS al e he;rw[hx];simp
def UP{α:Type}{f:α->aK}{l:List α}{y:Nat}{a:α}(h:y<l.length)(ha:l[y]=a):(l.take (y+1)).map f=(l.take y).map f++[f a]:=by
 rw[ZbI,xi h,ha];simp
def mQ(x:Input):List cC:=c6 [] (zR x (x.av.length+1))
def Bz(x:Input):bY:=(List.range (2*x.av.length+1)).map λs=>if s % 2=0 then mE x (s/2) x.av.length else 1099511627776
def jq(x:Input):aU:=⟨2*x.av.length+1,lF (mQ x),Bz x⟩
def Nh(x:Input):iQ x (2*x.av.length+1) (x.av.length+1)=aD (Bz x):=by
 simp only[iQ,Bz,aD,Zdq];apply ZbC;intro s hs;simp only[IM]at hs;by_cases h:s % 2=0
 ·simp only[Function.comp_apply,h,km,rO];rw[cG (by omega)]
 ·simp[h]
@[simp] def ag8(al:List cC):tE (some (da al)):=by simp[tE,da]
def t12(x:Input)(hx:Mj x)(vR:(mQ x).length<=tH)(gn:(mQ x).length<=1000000000):bb aj 29 [x.enc] (jq x).enc:=by
 have aB:=ok7;have hl:=hx.1.1;refine c12.ok (by simp) (aM ?_);simp[Input.enc];apply aa.ai aB fw [1,2];simp[ast];apply aa.ai aB fw [1,2,3];simp[asu];apply aa.ai aB fw [2,3,4];simp[asv];obtain⟨n2,KZ⟩:=aW (2*x.av.length+1);have w1:IntKind.i64.wrap (2*(x.av.length:Int))=2*x.av.length:=aA (by omega);have w2:IntKind.i64.wrap (2*(x.av.length:Int)+1)=(n2:Int):=by rw[aA (by omega)];omega
 refine aa.ko aB fw (rs:=Zo) (.inr ⟨_,ji⟩) (by kernel_rfl) [2,3,4,5] ?_;simp[Zo,w1,w2,ag7,ako,eX];refine⟨⟨1099511627776,n2,⟨rfl,rfl⟩,by omega,by omega⟩, ?_⟩;obtain⟨n,hn⟩:=aW x.av.length;rw[hn]at KZ hl;apply aa.seq;have w3:IntKind.i64.wrap ((n:Int)+1)=((n+1:Nat):Int):=by rw[aA (by omega)];omega
 apply aa.ai aB fw [2,3,4,5,28,29];simp[asw,hn,w3];obtain⟨n1,PU⟩:=aW (n+1);rw[show((n:Int)+1)=(n1:Int)by omega];refine aa.to ⟨DM.look [(2,.ptr 1003 0),(3,.ptr 1098 0),(5,.ptr 1255 0)],cF [(1003,.box [.v (ti 0),.bH,.bH]),(1098,.box (dI x 1096)),(1096,da (c6 [] (zR x n1))),(1255,.box [.v (ti n2),.bH,.bE 1275 0]),(1275,.bJ 0 3 1 (iQ x n2 n1))],3000,1000,[]⟩ ?_ ?_
 ·apply aa.block;refine aa.loop (λy:Nat=>⟨DM.look [(2,.ptr 1003 0),(3,.ptr 1098 0),(4,.v (ti n)),(5,.ptr 1255 0),(28,.v (ti n1)),(29,.v (ti y))],cF [(1003,.box [.v (ti 0),.bH,.bH]),(1098,.box (dI x 1096)),(1096,da (c6 [] (zR x y))),(1255,.box [.v (ti n2),.bH,.bE 1275 0]),(1275,.bJ 0 3 1 (iQ x n2 y))],3000,1000,[]⟩)
   (λy=>y<=n1) (λy=>n1-y) 0 (Le.bi ?_ ?_ ?_ ?_) (by simp) (λy hy=>?_)
  ·simp
  ·simp[]
  ·simp[dI,da,dN,zR,c6,Kh,qN,kE,tE]
  ·simp
  apply aa.ai aB fw [2,3,4,5,28,29,30];simp[asx];apply aa.seq;refine aa.cond rfl (λct=>?_) (λct=>?_)
  ·simp at ct;apply aa.skip;simp;apply aa.seq;apply aa.block;apply aa.ai aB fw [2,3,4,5,6,28,29];simp[asy];refine aa.ko aB fw (rs:=Zp) (.inr ⟨_,ji⟩) (by kernel_rfl) [2,3,4,5,6,28,29] ?_;simp[Zp,akn (x:=x) (m:=1096) (al:=c6 [] (zR x y))];refine⟨⟨by omega,hx⟩, ?_⟩;obtain⟨OE,Cg⟩:=aW (c6 (c6 [] (zR x y)) (vW x y));have aur:c6 [] (zR x (y+1))=OE:=by rw[UN,iZ,Cg]
   rw[Cg,jv];refine aa.le (Le.bi (o:=[(1003,.box [.v (ti 0),.bH,.bH]),(1098,.box (dI x 1096)),(1096,da OE),(1255,.box [.v (ti n2),.bH,.bE 1275 0]),(1275,.bJ 0 3 1 (iQ x n2 y))]) (l:=[(2,.ptr 1003 0),(3,.ptr 1098 0),(4,.v (ti n)),(5,.ptr 1255 0),(6,.v (ti y)),(28,.v (ti n1)),(29,.v (ti y))]) (aV:=4000) ?_ ?_ ?_ ?_) ?_
   ·simp
   ·simp
   ·simp[-px,xH,xI,wI,dI,qN]
   ·simp
   have DN:y<=n:=by omega
   have w4:IntKind.i64.wrap (2*(y:Int))=((2*y:Nat):Int):=by rw[aA (by omega)];omega
   obtain⟨y2,fA⟩:=aW (2*y);rw[fA]at w4;have vP:y2<n2:=by omega
   have hdc:gE ((x.av.take n).drop y) 0=mE x y n:=rfl;have LB:DM.rowAt (iQ x n2 y) (y2:Int)=[ti 1099511627776]:=by
    have e:(2*(y:Int)).toNat=y2:=by omega
    subst fA;simp[DM.rowAt,iQ,e,vP]
   have zG:=Nf x (n:=n2) (y:=y) (by omega);rw[fA,hn]at zG;have hd:=hx.1;refine aa.pO aB fw (rs:=ZF) (.inr ⟨_,ji⟩) (by kernel_rfl) [2,3,4,5,28,29] ?_;simp[ZF,ZG (x:=x) (m:=1096),hn,w4,hd,DN,Ng,vP,hdc,LB,zG];apply aa.dZ aB fw [2,3,4,5,28,29];simp[asA];rw[aA (by omega)];refine⟨y+1,Le.bi ?_ ?_ ?_ ?_,by omega,by omega⟩
   ·simp
   ·simp
   ·simp[-px,xH,xI,wI,dI,qN,aur]
   ·simp
  ·simp at ct;have:y=n1:=by omega
   subst this;refine aa.exit ⟨rfl,Le.bi ?_ ?_ ?_ ?_⟩
   ·simp
   ·simp
   ·simp[-px,xH,xI,wI,dI,qN]
   ·simp
 ·obtain⟨al,mN⟩:=aW (c6 [] (zR x n1));obtain⟨fr,zG⟩:=aW (iQ x n2 n1);rw[mN,zG];apply aa.ai aB fw [2,3,5,7];simp[aju];apply aa.sq aB fw [2,3,5,7,52];simp[ajv,dI,da];refine aa.le (Le.pQ (k:=7) 104 (sz:=3) (by omega) (by simp)) ?_;rw[jv];apply aa.block;refine aa.loop (λsn:cY=>⟨DM.look [(2,.ptr 1003 0),(3,.ptr 1098 0),(5,.ptr 1255 0),(7,.bE 3166 0),(52,.cX 3136)],cF [(1003,.box [.v (ti 0),.bH,.bH]),(1098,.box (dI x 1096)),(1096,da al),(1255,.box [.v (ti n2),.bH,.bE 1275 0]),(1275,.bJ 0 3 1 fr),(3166,.bJ 0 104 3 (sn.map λi=>db (al.getD i default))),(3136,.cX 1096 al.length sn al.length)],4000,1000,[]⟩)
   (λsn=>sn.Nodup/\∀i∈sn,i<al.length) (λsn=>al.length-sn.length) [] (Le.bi ?_ ?_ ?_ ?_) (by simp) (λsn hs=>?_)
  ·simp
  ·simp
  ·simp[-px,xH,xI,dI,qN];simp[px,da,tE];exact qO λe he=>by obtain⟨x,hx⟩:=gS al e he;rw[hx];simp
  ·simp[W6,Fo]
  obtain⟨KY,hs2⟩:=hs;apply aa.seq;refine aa.next (r:=3136) (m:=1096) (s:=al.length) (l:=al.length) (c:=al.length) (sn:=sn) (cL:=nN) (agg:=true) (es:=dN al) (by simp) (by simp) (by simp[da]) (λe he=>?_) (eF _) (λWP=>?_) (λe he cj=>?_)
  ·obtain⟨i,hi,rfl⟩:=Dk he;exact hi
  ·simp;have hp:=UQ KY hs2 λi hi=>WP _ (zK (by rw[iP,xi hi];rfl:(dN al)[i]? =some (i,al[i].key,.v (.agg al[i].enc))));have ag9:∀r∈sn.map (λi=>db (al.getD i default)),vt r:=by
    intro r hr;obtain⟨i,_,rfl⟩:=iF.1 hr;exact⟨_,_,_,rfl⟩
   have dQ:(sn.map (λi=>db (al.getD i default))).length=al.length:=by rw[hp.length_eq];simp
   have Af:(al.map db).Nodup:=by rw[<-mN];exact zS _ (by simp)
   have hso:lE (Bx fS) (sn.map (λi=>db (al.getD i default)))=lE (Bx fS) (al.map db):=P6 hp (λr hr=>by
    obtain⟨a,_,rfl⟩:=iF.1 hr;exact⟨_,_,_,rfl⟩) Af
   have afe:mQ x=al:=by unfold mQ;rw[hn,PU,mN]
   rw[afe]at vR gn;rw[<-dQ]at vR gn;obtain⟨aw,ew⟩:=aW (sn.map (λi=>db (al.getD i default)));have akp:sn.map (λi=>db (al[i]?.getD default))=aw:=ew;rw[ew]at vR gn ag9 hso dQ;rw[akp];apply aa.seq;refine aa.cond rfl (λh=>by cases h) (λ_=>?_);apply aa.exit;simp;refine aa.ko aB fw (rs:=SK) (.inr ⟨_,ji⟩) (by kernel_rfl) [2,3,5,7] ?_;simp[SK,k32,hso,vR,gn];refine⟨ag9, ?_⟩;obtain⟨ks,hks⟩:=aW (lE (Bx fS) (al.map db));have akq:ks.length=al.length:=by rw[<-hks,zT];simp
   have aw2:∀r∈ks,∃a∈al,db a=r:=by
    intro r hr;rw[<-hks,wY]at hr;obtain⟨a,ha,rfl⟩:=iF.1 hr;exact⟨a,ha,rfl⟩
   rw[hks,jv];refine aa.le (Le.bi (o:=[(1003,.box [.v (ti 0),.bH,.bH]),(1098,.box (dI x 1096)),(1096,da al),(1255,.box [.v (ti n2),.bH,.bE 1275 0]),(1275,.bJ 0 3 1 fr),(3166,.bJ 0 104 3 ks)]) (l:=[(2,.ptr 1003 0),(3,.ptr 1098 0),(5,.ptr 1255 0),(7,.bE 3166 0)]) (aV:=4500) ?_ ?_ ?_ ?_) ?_
   ·simp
   ·simp
   ·simp[dI,qN,tE,oE,da]
   ·simp
   refine aa.le (Le.D8 1255 1 108 (sz:=5) (cs:=[.v (ti n2),.bH,.bE 1275 0]) (by omega) (by simp) (by simp)) ?_;rw[jv,jv];apply aa.sq aB fw [2,3,5,63,64,65];simp[ajy,akq];refine aa.to ⟨DM.look [(2,.ptr 1003 0),(5,.ptr 1255 0)],cF [(1003,.box [.v (ti 0),.bH,.bH]),(1255,.box [.v (ti n2),.bE 4500 0,.bE 1275 0]),(1275,.bJ 0 3 1 fr),(4500,.bJ 0 108 5 (ce (lF al)))],6000,1000,[]⟩ ?_ ?_
   ·apply aa.block;refine aa.loop (λy:Nat=>⟨DM.look [(2,.ptr 1003 0),(3,.ptr 1098 0),(5,.ptr 1255 0),(63,.bE 3166 0),(64,.v (ti al.length)),(65,.v (ti y))],cF [(1003,.box [.v (ti 0),.bH,.bH]),(1098,.box (dI x 1096)),(1096,da al),(1255,.box [.v (ti n2),.bE 4500 0,.bE 1275 0]),(1275,.bJ 0 3 1 fr),(3166,.bJ 0 104 3 ks),(4500,.bJ 0 108 5 (ce ((ks.take y).map (tn al))))],6000,1000,[]⟩)
     (λy=>y<=al.length) (λy=>al.length-y) 0 (Le.bi ?_ ?_ ?_ ?_) (by simp) (λy hy=>?_)
    ·simp
    ·simp
    ·simp[dI,qN,tE,oE,da,ce]
    ·simp
    apply aa.ai aB fw [2,3,5,63,64,65,66];simp[ajz];apply aa.seq;refine aa.cond rfl (λct=>?_) (λct=>?_)
    ·simp at ct;apply aa.skip;simp;apply aa.seq;apply aa.block;obtain⟨r,hr⟩:=aW (ks[y]'(by omega));obtain⟨a,ha,hak⟩:=aw2 r (by rw[<-hr];exact Pt _);have iq:DM.rowAt ks y=db a:=by rw[hak,<-hr];simp[DM.rowAt,akq,ct]
     obtain⟨l1,l2,i,l3⟩:=wX ha;have aha:=UP (f:=λr=>(tn al r).enc) (by omega) hr;obtain⟨c,hc⟩:=aW (tn al (db a));rw[hc]at l3;rw[<-hak,hc]at aha;have akr:ce (List.take (y+1) (List.map (tn al) ks))=ce (List.take y (List.map (tn al) ks))++[[ti c.f,ti c.t,ti c.term,ti c.aH,.sl (eJ c.ops)]]:=by
      have:=aha;simp only[ce,Zcz,Zdq]at this⊢;exact this
     simp only[cC.key,keyOf]at l3;apply aa.ai aB fw [2,3,5,10,63,64,65];simp[ajA,iq,akq,ct,db];apply aa.dZ aB fw [2,3,5,63,64,65];simp[ajB,dI,da,l3,cC.enc,du,eX];refine⟨⟨by omega,by omega⟩, ?_⟩;apply aa.dZ aB fw [2,3,5,63,64,65];simp[ajC];rw[aA (by omega)];refine⟨y+1,Le.bi ?_ ?_ ?_ ?_,by omega,by omega⟩
     ·simp
     ·simp
     ·simp[qN,tE,oE,akr]
     ·simp
    ·simp at ct;have:y=al.length:=by omega
     subst this;refine aa.exit ⟨rfl,Le.bi ?_ ?_ ?_ ?_⟩
     ·simp
     ·simp
     ·simp[lF,hks];rw[TE (by simp;omega)]
     ·simp
   ·apply aa.ai aB fw [2];simp[ajD];apply aa.ret;have lN:fr=aD (Bz x):=by rw[<-zG,<-PU,<-KZ,<-hn];exact Nh x
    simp[Zq,jq,aU.enc,afe,lN,hn];omega
  ·obtain⟨i,hi,rfl⟩:=Dk he;have ahb:=Ki hi;obtain⟨a,ha⟩:=aW (al.getD i default);rw[ha]at ahb;simp only at cj;simp;apply aa.seq;refine aa.cond rfl (λ_=>?_) (λh=>by cases h);apply aa.skip;simp;apply aa.block;apply aa.ai aB fw [2,3,5,7,8,52];simp[ajw,da,ahb,cC.key,keyOf];apply aa.dZ aB fw [2,3,5,7,52];simp[ajx,du,eX];have dQ:=Ch al.length (l:=i::sn) (by simp[cj,KY]) (by simp;exact⟨hi,hs2⟩);simp at dQ;have afe:mQ x=al:=by unfold mQ;rw[hn,PU,mN]
   rw[afe]at gn;have ha':al[i]?.getD default=a:=ha;refine⟨⟨by omega,by omega⟩,sn++[i],Le.bi ?_ ?_ ?_ ?_,⟨?_, ?_⟩, ?_⟩
   ·simp
   ·simp
   ·simp[dI,qN,tE,oE,ha',db]
   ·simp[W6,Fo]
   ·rw[Zco];exact⟨KY,by simp,by simp;intro q hq e;subst e;exact cj hq⟩
   ·intro j hj;rw[oJ,pe]at hj;rcases hj with h|h
    ·exact hs2 j h
    ·omega
   ·simp;omega
end
def Dl{a b:cC}{l:List cC}(h:b∈(il a l).2):b∈l\/b=a:=by
 have key:∀(l:List cC) (p:Bool×List cC),b∈(l.foldl (fE a) p).2->b∈p.2\/b∈l\/b=a:=by
  intro l;induction l with
  |nil=>intro p h;exact .inl h
  |cons c l ih=>
   intro p h;rcases ih _ h with h|h|h
   ·unfold fE at h;split at h
    ·simp only[oJ,pe]at h;rcases h with h|h
     ·exact .inl h
     ·split at h
      ·exact .inr (.inr h)
      ·exact .inr (.inl (by simp[h]))
    ·split at h
     ·simp only[oJ,pe]at h;rcases h with(h|h)|h
      ·exact .inl h
      ·exact .inr (.inr h)
      ·exact .inr (.inl (by simp[h]))
     ·simp only[oJ,pe]at h;rcases h with h|h
      ·exact .inl h
      ·exact .inr (.inl (by simp[h]))
   ·exact .inr (.inl (by simp[h]))
   ·exact .inr (.inr h)
 rcases key l (false,[]) h with h|h|h
 ·simp at h
 ·exact .inl h
 ·exact .inr h
def ZU{a b:cC}{l:List cC}(h:b∈ud l a):b∈l\/b=a:=by
 unfold ud at h;split at h
 ·exact .inl h
 ·split at h
  ·exact Dl h
  ·rw[oJ,pe]at h;rcases h with h|h
   ·exact Dl h
   ·exact .inr h
def ze{b:cC}:∀(cs l:List cC),b∈b7 l cs->b∈l\/b∈cs
 |[],l,h=>.inl h
 |c::cs,l,h=>by
  rcases ze cs (ud l c) h with h|h
  ·rcases ZU h with h|h
   ·exact .inl h
   ·exact .inr (by simp[h])
  ·exact .inr (by simp[h])
def io{α:Type}{f:Nat->List α}{i m:Nat}{a:α}(h:a∈ft f i m):∃k,i<=k/\k<m/\a∈f k:=by
 unfold ft at h;obtain⟨e,he,ha⟩:=KQ.1 h;rw[IM]at he;exact⟨i+e,by omega,by omega,ha⟩
def afm(n:Nat)(a:cC):Prop:=0<=a.f/\a.f<(2*n+1:Nat)/\0<=a.t/\a.t<(2*n+1:Nat)/\a.ops.length<=1000000/\0<=a.aH
def Gn(n:Nat):(fN n).length=n:=by simp[fN]
def Kb{x:Input}(hx:Mj x)(hn:x.av.length<=60):∀a∈jF x,afm x.av.length a:=by
 obtain⟨hd,pi,auo,ZE,akj,DT⟩:=hx;have hdb:=gX hd;intro a ha;unfold jF at ha;rcases ze _ _ ha with ha|ha
 ·rcases ze _ _ ha with ha|ha
  ·cases ha
  ·obtain⟨i,_,hi,ha⟩:=io ha;unfold rI at ha;rcases oJ.1 ha with ha|ha
   ·obtain⟨m,C0,DD,ha⟩:=io ha;unfold rM at ha;rcases oJ.1 ha with ha|ha
    ·obtain⟨t,_,ht,ha⟩:=io ha;unfold rA at ha;split at ha
     ·rename_i hc;rw[pe]at ha;subst ha;have:=AH (hdb i m).1 hc.2;refine⟨by simp only;omega,by simp only;omega,by simp only;omega,by simp only;omega,by simp[Gn];omega,this⟩
     ·cases ha
    ·unfold rS at ha;split at ha
     ·rename_i hc;have Lx:m+1<x.av.length:=by simp[c7]at hc;exact hc.1
      rw[pe]at ha;subst ha;have:=AH (hdb i m).1 akj;refine⟨by simp only;omega,by simp only;omega,by simp only;omega,by simp only;omega,by simp[Gn];omega,this⟩
     ·cases ha
   ·unfold rT at ha;split at ha
    ·rename_i hc;have Lx:i+1<x.av.length:=by simp[c7]at hc;exact hc.1
     rw[pe]at ha;subst ha;refine⟨by simp only;omega,by simp only;omega,by simp only;omega,by simp only;omega,by simp,by simp⟩
    ·cases ha
 ·obtain⟨i,_,hi,ha⟩:=io ha;unfold iI at ha;obtain⟨m,C0,DD,ha⟩:=io ha;unfold iM at ha;obtain⟨t,_,ht,ha⟩:=io ha;unfold iT at ha;rw[pe]at ha;subst ha;have:=AH (hdb i m).1 (ZE (x.insert.getD t default) (by simp[List.getD,ht])).1;refine⟨by simp only;omega,by simp only;omega,by simp only;omega,by simp only;omega,by simp[Gn];omega,this⟩
def Px(x:Input)(k:Nat):(gp x k).length=2*x.av.length+1:=by simp[gp]
def De{x:Input}(ht:x.insert.length<=100)(hn:x.av.length<=60):(jF x).length<=900000:=by
 unfold jF;have h1:=kK (ft (iI x) 0 (x.av.length+1)) (b7 [] (ft (rI x) 0 (x.av.length+1)));have h2:=kK (ft (rI x) 0 (x.av.length+1)) [];have h3:=pp (f:=iI x) (B:=7000) (λk=>ZT x k ht hn) 0 (x.av.length+1);have h4:=pp (f:=rI x) (B:=7000) (λk=>ZR x k ht hn) 0 (x.av.length+1);simp at h2;omega
section
variable{al:List cC}
def iE{a b:cC}:bk a b=true↔a.f=b.f/\a.t=b.t/\a.term=b.term:=by simp[bk]
def II(a:cC):bk a a=true:=by simp[bk]
def mO(a b:cC):bk a b=bk b a:=by
 simp only[bk,decide_eq_decide];omega
def ub{a b:cC}(h:bk a b=true)(k:cC):bk k a=bk k b:=by
 rw[iE]at h;simp only[bk,decide_eq_decide];omega
def before_irrefl(a:cC):¬cN a a:=by unfold cN;omega
def before_trans{a b c:cC}(h:cN a b)(h2:cN b c):cN a c:=by unfold cN at*;omega
def IJ{a b:cC}(h:cN a b):¬cN b a:=by unfold cN at*;omega
def Ey{a b:cC}(h:cN a b):bk a b=false:=by
 cases e:bk a b with
 |false=>rfl
 |true=>rw[iE]at e;unfold cN at h;omega
def Ez{a b:cC}(h1:bk a b=false)(h2:¬cN a b):cN b a:=by
 have:¬(a.f=b.f/\a.t=b.t/\a.term=b.term):=λe=>by rw[iE.2 e]at h1;cases h1
 unfold cN at*;omega
def K8{a b c:cC}(h:bk a b=true)(h2:cN a c):cN b c:=by
 rw[iE]at h;unfold cN at*;omega
def vT(k:cC)(o:Option cC)(a:cC):Option cC:=
 if a.aH<1099511627776/\bk k a=true then
  match o with
  |none=>some a
  |some b=>if a.aH<b.aH then some a else some b
 else o
def OK(a:cC):List cC->List cC
 |[]=>[a]
 |b::l=>if bk a b=true then(if a.aH<b.aH then a else b)::l else b::OK a l
def aa3{a:cC}(h:a.aH<1099511627776)(al:List cC):yA al a=OK a al:=by
 unfold yA;rw[cG h];induction al with
 |nil=>simp[OK]
 |cons b l ih=>
  rw[VC];unfold OK;cases e:bk a b with
  |true=>simp;split<;>rfl
  |false=>
   simp;rw[<-ih];cases hf:l.findIdx? (bk a)with
   |none=>simp
   |some i=>simp;split<;>rfl
def Hl(k a:cC):∀l:List cC,(OK a l).find? (bk k)=if bk k a=true then(match l.find? (bk k)with|none=>some a|some b=>if a.aH<b.aH then some a else some b)else l.find? (bk k)
 |[]=>by unfold OK;rw[K9];cases bk k a<;>simp
 |b::l=>by
  unfold OK;split
  ·rename_i e;have h1:=ub e k;have h2:bk k (if a.aH<b.aH then a else b)=bk k b:=by split<;>simp[h1]
   rw[K9,K9,h2,h1];cases h3:bk k b with
   |true=>simp;split<;>rfl
   |false=>simp
  ·rename_i e;rw[K9,K9];cases h3:bk k b with
   |true=>
    have:bk k a=false:=by
     cases h4:bk k a with
     |false=>rfl
     |true=>
      exfalso;apply e;rw[iE]at h3 h4⊢;omega
    simp[this]
   |false=>simp only[];exact Hl k a l
def La(k:cC)(cs:List cC):∀al:List cC,(c6 al cs).find? (bk k)=cs.foldl (vT k) (al.find? (bk k)):=by
 induction cs with
 |nil=>intro al;rfl
 |cons c cs ih=>
  intro al;show(c6 (yA al c) cs).find? (bk k)=_;rw[ih,CD]
  congr 1
  by_cases hc:c.aH<1099511627776
  ·rw[aa3 hc,Hl];unfold vT;simp[hc]
  ·unfold yA vT;rw[bj hc,bj (λe=>hc e.1)]
def zO(a:cC):List cC->List cC
 |[]=>[a]
 |b::l=>if bk b a=true then(if a.aH<b.aH then a else b)::l else if cN a b then a::b::l else b::zO a l
def zP(a:cC)(l gP:List cC):l.foldl (fE a) (true,gP)=(true,gP++l):=by
 induction l generalizing gP with
 |nil=>simp
 |cons b l ih=>simp only[CD,fE];simp[ih]
def IK(a:cC)(p:Bool×List cC):List cC:=if p.1=true then p.2 else p.2++[a]
def CE(a:cC):∀(l gP:List cC),IK a (l.foldl (fE a) (false,gP))=gP++zO a l
 |[],gP=>by simp[zO,IK]
 |b::l,gP=>by
  rw[CD];unfold zO;by_cases h1:bk b a=true
  ·have:fE a (false,gP) b=(true,gP++[if a.aH<b.aH then a else b]):=by simp[fE,h1]
   rw[this,zP];simp[h1,IK]
  ·by_cases h2:cN a b
   ·have:fE a (false,gP) b=(true,gP++[a]++[b]):=by simp[fE,h1,h2]
    rw[this,zP];simp[h1,h2,IK]
   ·have:fE a (false,gP) b=(false,gP++[b]):=by simp[fE,h1,h2]
    rw[this,CE a l];simp[h1,h2]
def Rb{a:cC}(h:a.aH<1099511627776)(l:List cC):ud l a=zO a l:=by
 unfold ud;rw[bj (by omega)];have:=CE a l [];simp only[zQ]at this;exact this
def Lb{a c:cC}:∀{l:List cC},c∈zO a l->c=a\/c∈l
 |[],h=>by simp[zO]at h;exact .inl h
 |b::l,h=>by
  unfold zO at h;split at h
  ·rcases gm.1 h with h|h
   ·split at h
    ·exact .inl h
    ·exact .inr (by simp[h])
   ·exact .inr (by simp[h])
  ·split at h
   ·rcases gm.1 h with h|h
    ·exact .inl h
    ·exact .inr h
   ·rcases gm.1 h with h|h
    ·exact .inr (by simp[h])
    ·rcases Lb h with h|h
     ·exact .inl h
     ·exact .inr (by simp[h])
def CF{a:cC}:∀{l:List cC},l.Pairwise cN->(zO a l).Pairwise cN
 |[],_=>by simp[zO]
 |b::l,h=>by
  rw[OL]at h;unfold zO;split
  ·rename_i e;rw[OL];refine⟨λc hc=>?_,h.2⟩;split
   ·exact K8 e (h.1 c hc)
   ·exact h.1 c hc
  ·rename_i e;split
   ·rename_i e2;rw[OL];refine⟨λc hc=>?_,OL.2 h⟩;rcases gm.1 hc with rfl|hc
    ·exact e2
    ·exact before_trans e2 (h.1 c hc)
   ·rename_i e2;rw[OL];refine⟨λc hc=>?_,CF h.2⟩;rcases Lb hc with rfl|hc
    ·exact Ez (by rw[mO];simpa using e) e2
    ·exact h.1 c hc
def Hm(k a:cC):∀l:List cC,l.Pairwise cN->(zO a l).find? (bk k)=if bk k a=true then(match l.find? (bk k)with|none=>some a|some b=>if a.aH<b.aH then some a else some b)else l.find? (bk k)
 |[],_=>by unfold zO;rw[K9];cases bk k a<;>simp
 |b::l,h=>by
  rw[OL]at h;unfold zO;split
  ·rename_i e;rw[mO]at e;have h1:=ub e k;have h2:bk k (if a.aH<b.aH then a else b)=bk k b:=by split<;>simp[h1]
   rw[K9,K9,h2,h1];cases h3:bk k b with
   |true=>simp;split<;>rfl
   |false=>simp
  ·rename_i e;split
   ·rename_i e2;rw[K9];cases h3:bk k a with
    |true=>
     have:(b::l).find? (bk k)=none:=by
      rw[Zdi];intro c hc hk;have hb:cN a c:=by
       rcases gm.1 hc with rfl|hc
       ·exact e2
       ·exact before_trans e2 (h.1 c hc)
      have:=Ey hb;rw[iE]at h3 hk;rw[iE.2 (by omega)]at this;cases this
     rw[this];rfl
    |false=>rfl
   ·rename_i e2;rw[K9,K9];cases h3:bk k b with
    |true=>
     have:bk k a=false:=by
      cases h4:bk k a with
      |false=>rfl
      |true=>
       exfalso;apply e;rw[iE]at h3 h4⊢;omega
     simp[this]
    |false=>simp only[];exact Hm k a l h.2
def CG{l:List cC}(h:l.Pairwise cN)(a:cC):(ud l a).Pairwise cN:=by
 by_cases hc:a.aH<1099511627776
 ·rw[Rb hc];exact CF h
 ·unfold ud;rw[cG (by omega)];exact h
def x7(cs:List cC):∀{al:List cC},al.Pairwise cN->(b7 al cs).Pairwise cN:=by
 induction cs with
 |nil=>intro al h;exact h
 |cons c cs ih=>intro al h;exact ih (CG h c)
def CH(k:cC)(cs:List cC):∀{al:List cC},al.Pairwise cN->(b7 al cs).find? (bk k)=cs.foldl (vT k) (al.find? (bk k)):=by
 induction cs with
 |nil=>intro al h;rfl
 |cons c cs ih=>
  intro al h;show(b7 (ud al c) cs).find? (bk k)=_;rw[ih (CG h c),CD]
  congr 1
  by_cases hc:c.aH<1099511627776
  ·rw[Rb hc,Hm k c al h];unfold vT;simp[hc]
  ·unfold ud vT;rw[cG (by omega),bj (λe=>hc e.1)]
def tj:∀{l:List cC},l.Pairwise (λa b=>bk a b=false)->∀a,a∈l↔l.find? (bk a)=some a
 |[],_,a=>by simp
 |b::l,h,a=>by
  rw[OL]at h;rw[K9,gm];cases e:bk a b with
  |true=>
   simp only[cI];constructor
   ·rintro(h2|h2)
    ·exact h2.symm
    ·have:=h.1 a h2;rw[mO,e]at this;cases this
   ·exact λh2=>.inl h2.symm
  |false=>
   rw[<-tj h.2 a];constructor
   ·rintro(h2|h2)
    ·subst h2;rw[II]at e;cases e
    ·exact h2
   ·exact .inr
def EA:∀{l1 l2:List cC},l1.Pairwise cN->l2.Pairwise cN->(∀a,a∈l1↔a∈l2)->l1=l2
 |[],[],_,_,_=>rfl
 |[],b::t,_,_,h=>eK ((h b).2 (by simp)) (by simp)
 |a::t,[],_,_,h=>eK ((h a).1 (by simp)) (by simp)
 |a::t1,b::t2,h1,h2,h=>by
  rw[OL]at h1 h2;have e:a=b:=by
   have ha:=(h a).1 (by simp);have hb:=(h b).2 (by simp);rcases gm.1 ha with ha|ha
   ·exact ha
   ·rcases gm.1 hb with hb|hb
    ·exact hb.symm
    ·exact eK (h1.1 b hb) (IJ (h2.1 a ha))
  subst e
  congr 1
  refine EA h1.2 h2.2 λx=>?_;constructor
  ·intro hx;rcases gm.1 ((h x).1 (by simp[hx]))with e|e
   ·subst e;exact eK (h1.1 x hx) (before_irrefl x)
   ·exact e
  ·intro hx;rcases gm.1 ((h x).2 (by simp[hx]))with e|e
   ·subst e;exact eK (h2.1 x hx) (before_irrefl x)
   ·exact e
def CI{l:List cC}(h:l.Pairwise cN):l.Pairwise (λa b=>bk a b=false):=h.imp Ey
def yB{l:List cC}(h:(l.map db).Nodup):l.Pairwise (λa b=>bk a b=false):=by
 unfold List.Nodup at h;rw[ZcW]at h;refine h.imp λ{a b} TA=>?_;cases e:bk a b with
 |false=>rfl
 |true=>exact eK (ue.2 e) TA
def Hn{α:Type}(lt:α->α->Bool)(x:α):∀l:List α,(tl lt x l).Perm (x::l)
 |[]=>Zdz _
 |y::ys=>by
  simp only[tl];split
  ·exact((Hn lt x ys).cons y).trans (List.Perm.swap x y ys)
  ·exact Zdz _
def Lc{α:Type}(lt:α->α->Bool)(l:List α):(lE lt l).Perm l:=by
 have key:∀(l gP:List α),(l.foldl (λgP x=>tl lt x gP) gP).Perm (l++gP):=by
  intro l;induction l with
  |nil=>intro gP;exact Zdz _
  |cons x l ih=>
   intro gP;rw[CD];refine(ih _).trans ?_;refine((Hn lt x gP).append_left l).trans ?_;exact List.perm_middle
 unfold lE EB;refine(List.reverse_perm _).trans ?_;simpa using key l []
def yC(h:(al.map db).Nodup){a:cC}(ha:a∈al):tn al (db a)=a:=by
 have h1:=(wX ha).1;have h2:=(wX ha).2.1;have h3:=(tj (yB h) a).1 ha;have h4:=(tj (yB h) _).1 h2;have e:bk (tn al (db a))=bk a:=by
  funext b;rw[mO _ b,mO _ b];exact(ub h1 b).symm
 rw[e,h3]at h4;exact(Zca h4).symm
def IL(h:(al.map db).Nodup)(a:cC):a∈lF al↔a∈al:=by
 unfold lF;rw[iF];constructor
 ·rintro⟨r,hr,rfl⟩;rw[wY]at hr;obtain⟨b,hb,rfl⟩:=iF.1 hr;exact(wX hb).2.1
 ·intro ha;exact⟨db a,by rw[wY];exact iF.2 ⟨a,ha,rfl⟩,yC h ha⟩
def Dv(h:(al.map db).Nodup):(lF al).Pairwise cN:=by
 unfold lF;rw[ZcW];have h1:(lE (Bx fS) (al.map db)).Nodup:=(Lc _ _).symm.nodup h;have h2:=uf Ld (al.map db);unfold yD at h2;unfold List.Nodup at h1;refine(h1.and h2).imp_of_mem λ{r s} hr hs nR=>?_;rw[wY]at hr hs;obtain⟨a,ha,rfl⟩:=iF.1 hr;obtain⟨b,hb,rfl⟩:=iF.1 hs;rw[yC h ha,yC h hb];have h3:bk a b=false:=by
  cases e:bk a b with
  |false=>rfl
  |true=>exact eK (ue.2 e) nR.1
 by_cases gn:cN a b
 ·exact gn
 ·exfalso;have h4:=Ez h3 gn;have h5:=nR.2;rw[wZ]at h5;apply h5;simp only[db,lG,d0,lt3,List.getD_cons_zero,ZcM];exact h4
end
section
variable{aH:Int}{ops:List (Int×Int)}
def pK(k a:cC):Bool:=bk k a&&decide (a.aH<1099511627776)
def CJ(k:cC)(cs:List cC):∀o,cs.foldl (vT k) o=(cs.filter (pK k)).foldl (vT k) o:=by
 induction cs with
 |nil=>intro o;rfl
 |cons c cs ih=>
  intro o;rw[CD,On,ih];split
  ·rfl
  ·rename_i h
   congr 1
   unfold vT;rw[bj];rintro⟨h1,h2⟩;apply h;simp[pK,h1,h2]
def vU{α β:Type}(p:β->Bool)(f:α->List β)(l:List α):(l.flatMap f).filter p=l.flatMap λa=>(f a).filter p:=by
 induction l with
 |nil=>rfl
 |cons a l ih=>simp[V0,VD,ih]
def nS{p:cC->Bool}{f:Nat->List cC}{i:Nat}(k0:Nat)(h:∀k,k≠k0->(f k).filter p=[]):∀m,(ft f i m).filter p=if i<=k0/\k0<m then(f k0).filter p else []:=by
 intro m;by_cases him:m<=i
 ·rw[show ft f i m=[]by unfold ft;rw[show m-i=0 by omega];rfl,bj (by omega)];rfl
 obtain⟨d,rfl⟩:∃d,m=i+d:=⟨m-i,by omega⟩;clear him;induction d with
 |zero=>rw[Zcb,yE,bj (by omega)];rfl
 |succ d ih=>
  rw[<-Nat.add_assoc,ug f (by omega),VD,ih];by_cases e:i+d=k0
  ·rw[bj (by omega),cG (by omega),e];rfl
  ·rw[h _ e];by_cases e2:i<=k0/\k0<i+d
   ·rw[cG e2,cG (by omega)];simp
   ·rw[bj e2,bj (by omega)];rfl
def ef{p:cC->Bool}{l:List cC}(h:∀a∈l,p a=false):l.filter p=[]:=by
 rw[List.filter_eq_nil_iff];intro a ha;simp[h a ha]
def mP{k a:cC}(h:¬(k.f=a.f/\k.t=a.t/\k.term=a.term)):pK k a=false:=by
 have:bk k a=false:=by
  cases e:bk k a with
  |false=>rfl
  |true=>exact eK (iE.1 e) h
 simp[pK,this]
def OM{k:cC}{f t x c d:Int}{o:List (Int×Int)}(hc:0<=c)(hd:0<=d):[(⟨f,t,x,c+d,o⟩:cC)].filter (pK k)=[(⟨f,t,x,pI c d,o⟩:cC)].filter (pK k):=by
 by_cases h:c+d<1099511627776
 ·have:pI c d=c+d:=by unfold pI;rw[bj (by omega)]
  rw[this]
 ·have:pI c d=1099511627776:=by unfold pI;rw[cG (by omega)]
  rw[this];have h1:pK k ⟨f,t,x,c+d,o⟩=false:=by simp[pK,h]
  have h2:pK k ⟨f,t,x,1099511627776,o⟩=false:=by simp[pK]
  simp[h1,h2]
def Ho{read:bY}{i m:Int}{n:Nat}{a:cC}(h:a∈nJ read i m aH ops n):∃t:Nat,t<n/\0<=read.getD t 0/\a=⟨2*i,2*m+2,t,aH+read.getD t 0,ops++[(1,(t:Int))]⟩:=by
 unfold nJ at h;rw[KQ]at h;obtain⟨t,ht,h⟩:=h;rw[IM]at ht;split at h
 ·rw[pe]at h;exact⟨t,ht,by assumption,h⟩
 ·simp at h
def V1{cz:bY}{i m:Int}{n:Nat}{a:cC}(h:a∈vV cz i m aH ops n):∃t:Nat,t<n/\a=⟨2*i,2*m,(t:Int),aH+cz.getD t 0,ops++[(3,(t:Int))]⟩:=by
 unfold vV at h;rw[iF]at h;obtain⟨t,ht,h⟩:=h;rw[IM]at ht;exact⟨t,ht,h.symm⟩
def EC(x:Input)(i m:Nat):List cC:=if c7 x m then [⟨2*i,2*m+1,(x.av.getD (m+1) default).kind,mE x i m+x.swap,fN (m-i)++[(4,0)]⟩]else []
def Hp{x:Input}{i m:Nat}{a:cC}(h:a∈EC x i m):c7 x m=true/\a=⟨2*i,2*m+1,(x.av.getD (m+1) default).kind,mE x i m+x.swap,fN (m-i)++[(4,0)]⟩:=by
 unfold EC at h;split at h
 ·exact⟨by assumption,by simpa using h⟩
 ·simp at h
def V2{x:Input}{i m:Nat}{a:cC}(h:a∈rS x i m):c7 x m=true/\a.f=2*i/\a.t=2*m+1:=by
 unfold rS at h;split at h
 ·simp at h;subst h;exact⟨by assumption,rfl,rfl⟩
 ·simp at h
def IN{x:Input}{i:Nat}{a:cC}(h:a∈rT x i):c7 x i=true/\a=⟨2*i+1,2*i+4,(x.av.getD i default).kind,0,[]⟩:=by
 unfold rT at h;split at h
 ·exact⟨by assumption,by simpa using h⟩
 ·simp at h
def ON{x:Input}{i m t:Nat}{a:cC}(h:a∈rA x i m t):m<x.av.length/\a.f=2*i/\a.t=2*m+2/\a.term=t:=by
 unfold rA at h;split at h
 ·rename_i h2;simp at h;subst h;exact⟨h2.1,rfl,rfl,rfl⟩
 ·simp at h
def ahz{x:Input}{i m t:Nat}{a:cC}(h:a∈iT x i m t):a.f=2*i/\a.t=2*m/\a.term=t:=by
 simp[iT]at h;subst h;exact⟨rfl,rfl,rfl⟩
def Lf(x:Input)(i:Nat):vW x i=ft (vi x i) i (x.av.length+1)++rT x i:=rfl
def TB{x:Input}{i m:Nat}{a:cC}(h:a∈vi x i m):(i<m/\a∈CK x i (m-1))\/a∈vV x.insert i m (mE x i m) (fN (m-i)) x.insert.length\/a∈EC x i m:=by
 unfold vi at h;rw[oJ,oJ]at h;rcases h with h|h|h
 ·split at h
  ·exact .inl ⟨by assumption,h⟩
  ·simp at h
 ·exact .inr (.inl h)
 ·exact .inr (.inr h)
def IP{x:Input}{i m:Nat}{a:cC}(h:a∈vi x i m):a.f=2*i/\(a.t=2*m\/a.t=2*m+1):=by
 rcases TB h with⟨h1,h⟩|h|h
 ·obtain⟨t,_,_,rfl⟩:=Ho h;exact⟨rfl,.inl (by simp only;omega)⟩
 ·obtain⟨t,_,rfl⟩:=V1 h;exact⟨rfl,.inl rfl⟩
 ·obtain⟨_,rfl⟩:=Hp h;exact⟨rfl,.inr rfl⟩
def aa4{x:Input}{i:Nat}{a:cC}(h:a∈vW x i):a.f=2*i\/a.f=2*i+1:=by
 rw[Lf,oJ]at h;rcases h with h|h
 ·obtain⟨m,_,_,h⟩:=io h;exact .inl (IP h).1
 ·obtain⟨_,rfl⟩:=IN h;exact .inr rfl
def aa5{x:Input}{i m:Nat}{a:cC}(h:a∈rM x i m):a.f=2*i/\(a.t=2*m+2/\m<x.av.length\/a.t=2*m+1):=by
 unfold rM at h;rw[oJ]at h;rcases h with h|h
 ·obtain⟨t,_,_,h⟩:=io h;have:=ON h;exact⟨this.2.1,.inl ⟨this.2.2.1,this.1⟩⟩
 ·have:=V2 h;exact⟨this.2.1,.inr this.2.2⟩
def av1{x:Input}{i:Nat}{a:cC}(h:a∈rI x i):a.f=2*i\/a.f=2*i+1:=by
 unfold rI at h;rw[oJ]at h;rcases h with h|h
 ·obtain⟨m,_,_,h⟩:=io h;exact .inl (aa5 h).1
 ·obtain⟨_,rfl⟩:=IN h;exact .inr rfl
def aa6{x:Input}{i m:Nat}{a:cC}(h:a∈iM x i m):a.f=2*i/\a.t=2*m:=by
 unfold iM at h;obtain⟨t,_,_,h⟩:=io h;have:=ahz h;exact⟨this.1,this.2.1⟩
def av2{x:Input}{i:Nat}{a:cC}(h:a∈iI x i):a.f=2*i:=by
 unfold iI at h;obtain⟨m,_,_,h⟩:=io h;exact(aa6 h).1
def nnX(x:Input):Prop:=(∀p∈x.insert,0<=p)/\0<=x.swap
def Lg{x:Input}(hn:nnX x)(hd:rV x.av)(k:cC)(i m:Nat):(EC x i m).filter (pK k)=(rS x i m).filter (pK k):=by
 unfold EC rS;split
 ·exact OM (gX hd i m).1 hn.2
 ·rfl
def Lh{x:Input}(hd:rV x.av)(hr:∀c∈x.av,c.read.length=x.insert.length)(k:cC){i m:Nat}(hm:m<x.av.length):(CK x i m).filter (pK k)=(ft (rA x i m) 0 x.insert.length).filter (pK k):=by
 have hc:(x.av.getD m default).read.length=x.insert.length:=hr _ (by simp[List.getD,hm]);unfold CK nJ ft;rw[hc,vU,vU,Zcu]
 congr 1
 funext t;rw[KR];unfold rA By;have ahA:(default:Int)=0:=rfl;rw[ahA];by_cases h:0<=(x.av.getD m default).read.getD t 0
 ·rw[cG h,cG ⟨hm,h⟩];exact OM (gX hd i m).1 h
 ·rw[bj h,bj (λe=>h e.2)]
def ED{x:Input}(hn:nnX x)(hd:rV x.av)(k:cC)(i m:Nat):(vV x.insert i m (mE x i m) (fN (m-i)) x.insert.length).filter (pK k)=(iM x i m).filter (pK k):=by
 unfold vV iM ft;rw[vU,Zcu];have:∀l:cY,(∀t∈l,t<x.insert.length)->(l.map λ(t:Nat)=>(⟨2*i,2*m,(t:Int),mE x i m+x.insert.getD t 0,fN (m-i)++[(3,(t:Int))]⟩:cC)).filter (pK k)=l.flatMap λt=>(iT x i m (0+t)).filter (pK k):=by
  intro l;induction l with
  |nil=>intro _;rfl
  |cons t l ih=>
   intro ht;rw[rW,V0,<-ih λt h=>ht t (by simp[h])];have e:iT x i m (0+t)=[⟨2*i,2*m,t,pI (mE x i m) (x.insert.getD t default),fN (m-i)++[(3,(t:Int))]⟩]:=by rw[KR];rfl
   have IQ:=ht t (by simp);have hp:0<=x.insert.getD t 0:=hn.1 _ (by simp[List.getD,IQ]);rw[e,<-List.singleton_append (l:=List.map _ l),VD]
   congr 1
   exact OM (gX hd i m).1 hp
 exact this _ λt ht=>IM.1 ht
def OO{x:Input}(hn:nnX x)(hd:rV x.av)(hr:∀c∈x.av,c.read.length=x.insert.length)(k:cC):
  (zR x (x.av.length+1)).filter (pK k)=(ft (rI x) 0 (x.av.length+1)++ft (iI x) 0 (x.av.length+1)).filter (pK k):=by
 have e1:zR x (x.av.length+1)=ft (vW x) 0 (x.av.length+1):=by simp[zR,ft]
 obtain⟨n,hN⟩:=aW x.av.length;rw[e1,VD];have out:∀(f:Nat->List cC),(∀i,∀a∈f i,a.f=2*i\/a.f=2*i+1)->∀j,j≠(k.f/2).toNat->(f j).filter (pK k)=[]:=by
  intro f hf j hj;refine ef λa ha=>mP λe=>hj ?_;have:=hf j a ha;omega
 rw[nS _ (out _ λi a=>aa4),nS _ (out _ λi a=>av1),nS _ (out _ λi a h=>.inl (av2 h))];obtain⟨i,hi⟩:=aW ((k.f/2).toNat);rw[hi];by_cases te:0<=i/\i<x.av.length+1
 case neg=>rw[bj te,bj te,bj te];rfl
 rw[cG te,cG te,cG te];rw[Lf];unfold rI iI;rw[VD,VD];by_cases ax8:k.f=2*i
 case neg=>
  have h1:(ft (vi x i) i (x.av.length+1)).filter (pK k)=[]:=ef λa ha=>mP λe=>by
   obtain⟨m,_,_,h⟩:=io ha;have:=(IP h).1;omega
  have h2:(ft (rM x i) i (x.av.length+1)).filter (pK k)=[]:=ef λa ha=>mP λe=>by
   obtain⟨m,_,_,h⟩:=io ha;have:=(aa5 h).1;omega
  have h3:(ft (iM x i) i (x.av.length+1)).filter (pK k)=[]:=ef λa ha=>mP λe=>by
   obtain⟨m,_,_,h⟩:=io ha;have:=(aa6 h).1;omega
  rw[h1,h2,h3];simp
 have hT:(rT x i).filter (pK k)=[]:=ef λa ha=>mP λe=>by
  obtain⟨_,rfl⟩:=IN ha;simp only at e;omega
 rw[hT,xP,xP];have amn:∀m,m≠(k.t/2).toNat->(vi x i m).filter (pK k)=[]:=λm hm=>ef λa ha=>mP λe=>by
  have:=(IP ha).2;omega
 have amo:∀m,m≠(k.t/2).toNat->(iM x i m).filter (pK k)=[]:=λm hm=>ef λa ha=>mP λe=>by
  have:=(aa6 ha).2;omega
 rw[nS _ amn,nS _ amo];obtain⟨m,hm⟩:=aW ((k.t/2).toNat);rw[hm]at amn amo⊢;have agb:(vi x i m).filter (pK k)=(if i<m then CK x i (m-1)else []).filter (pK k)++((vV x.insert i m (mE x i m) (fN (m-i)) x.insert.length).filter (pK k)++(EC x i m).filter (pK k)):=by
  rw[<-List.filter_append,<-List.filter_append];rfl
 by_cases hev:k.t=2*m
 ·
  have DT:(EC x i m).filter (pK k)=[]:=ef λa ha=>mP λe=>by
   obtain⟨_,rfl⟩:=Hp ha;simp only at e;omega
  have ahB:∀j,j≠(if m=0 then n+1 else m-1)->(rM x i j).filter (pK k)=[]:=λj hj=>ef λa ha=>mP λe=>by
   have:=(aa5 ha).2;split at hj<;>omega
  rw[nS _ ahB,agb,DT,xP,ED hn hd k i m];by_cases hm0:m=0
  ·rw[cG hm0];have h5:¬(i<=n+1/\n+1<x.av.length+1):=by omega
   have h6:¬i<m:=by omega
   rw[bj h5,bj h6];simp
  ·rw[bj hm0];obtain⟨q,rfl⟩:∃q,m=q+1:=⟨m-1,by omega⟩;rw[ZcR];have hrM:(rM x i q).filter (pK k)=(ft (rA x i q) 0 x.insert.length).filter (pK k):=by
    have:(rS x i q).filter (pK k)=[]:=ef λa ha=>mP λe=>by
     have:=(V2 ha).2.2;omega
    unfold rM;rw[VD,this,xP]
   by_cases hq:q<x.av.length
   ·by_cases hiq:i<q+1
    ·rw[cG hiq,cG ⟨by omega,by omega⟩,cG ⟨by omega,by omega⟩,hrM,Lh hd hr k hq];rw[cG ⟨by omega,by omega⟩]
    ·rw[bj hiq];by_cases ax9:i=q+1
     ·rw[cG ⟨by omega,by omega⟩,bj (by omega),cG ⟨by omega,by omega⟩];simp
     ·rw[bj (by omega),bj (by omega),bj (by omega)];simp
   ·have hz:(rM x i q).filter (pK k)=[]:=by
     rw[hrM];refine ef λa ha=>?_;obtain⟨t,_,_,h⟩:=io ha;exact eK (ON h).1 hq
    rw[hz,bj (by omega)];have h5:¬(i<=q+1/\q+1<x.av.length+1):=by omega
    rw[bj h5];simp
 ·
  have ahB:∀j,j≠m->(rM x i j).filter (pK k)=[]:=λj hj=>ef λa ha=>mP λe=>by
   have:=(aa5 ha).2;omega
  rw[nS _ ahB];have h1:(iM x i m).filter (pK k)=[]:=ef λa ha=>mP λe=>by
   have:=(aa6 ha).2;omega
  have h2:(vV x.insert i m (mE x i m) (fN (m-i)) x.insert.length).filter (pK k)=[]:=by rw[ED hn hd,h1]
  have h3:(if i<m then CK x i (m-1)else []).filter (pK k)=[]:=ef λa ha=>mP λe=>by
   split at ha
   ·obtain⟨t,_,_,rfl⟩:=Ho ha;simp only at e;omega
   ·simp at ha
  have h4:(rM x i m).filter (pK k)=(rS x i m).filter (pK k):=by
   have:(ft (rA x i m) 0 x.insert.length).filter (pK k)=[]:=ef λa ha=>mP λe=>by
    obtain⟨t,_,_,h⟩:=io ha;have:=(ON h).2.2.1;omega
   unfold rM;rw[VD,this,zQ]
  rw[agb,h1,h2,h3,h4,Lg hn hd];simp
def sL(x:Input):((mQ x).map db).Nodup:=zS _ (by simp)
def mR(x:Input):(jF x).Pairwise cN:=x7 _ (x7 _ List.Pairwise.nil)
def Hq{x:Input}(hn:nnX x)(hd:rV x.av)(hr:∀c∈x.av,c.read.length=x.insert.length):lF (mQ x)=jF x:=by
 refine EA (Dv (sL x)) (mR x) λa=>?_;rw[IL (sL x),tj (yB (sL x)),tj (CI (mR x))];unfold mQ jF;rw[La,<-fC,CH _ _ List.Pairwise.nil,CJ,OO hn hd hr,<-CJ]
def V3(x:Input):Bz x=gp x (2*x.av.length+1):=by
 unfold Bz gp;apply ZbC;intro s hs;rw[IM]at hs;rw[cG hs]
def OP{x:Input}(hn:nnX x)(hd:rV x.av)(hr:∀c∈x.av,c.read.length=x.insert.length):jq x=bD x:=by
 unfold jq bD;rw[Hq hn hd hr,V3]
end
def V4(k:cC)(cs:List cC):∀o a,cs.foldl (vT k) o=some a->o=some a\/(a∈cs/\a.aH<1099511627776):=by
 induction cs with
 |nil=>intro o a h;exact .inl h
 |cons c cs ih=>
  intro o a h;rw[CD]at h;rcases ih _ _ h with h|⟨h1,h2⟩
  ·unfold vT at h;split at h
   ·rename_i hc;split at h
    ·simp only[cI]at h;subst h;exact .inr ⟨by simp,hc.1⟩
    ·split at h
     ·simp only[cI]at h;subst h;exact .inr ⟨by simp,hc.1⟩
     ·exact .inl h
   ·exact .inl h
  ·exact .inr ⟨by simp[h1],h2⟩
def CL{x:Input}{a:cC}(h:a∈jF x):(a∈ft (rI x) 0 (x.av.length+1)\/a∈ft (iI x) 0 (x.av.length+1))/\a.aH<1099511627776:=by
 have h1:=(tj (CI (mR x)) a).1 h;unfold jF at h1;rw[<-fC,CH _ _ List.Pairwise.nil]at h1;rcases V4 _ _ _ _ h1 with h2|⟨h2,h3⟩
 ·cases h2
 ·exact⟨oJ.1 h2,h3⟩
def V5{a b:Int}(ha:0<=a)(hb:1<=b):1<=pI a b:=by unfold pI;split<;>omega
def IR(al:List cC):(lF al).length=al.length:=by simp[lF,zT]
section
variable{α:Type}{ts:aK}
def ahf:Ty:=.int .i64
def Ih:maxLen=9223372036854775807:=by decide
def SX{enc:α->aK}{aw:List (aK)}(h:∀r∈aw,∃x,r=enc x):∃l:List α,aw=l.map enc:=by
 induction aw with
 |nil=>exact⟨[],rfl⟩
 |cons r aw ih=>
  obtain⟨x,rfl⟩:=h r (VN ..);obtain⟨l,rfl⟩:=ih λr hr=>h r (VO _ hr);exact⟨x::l,rfl⟩
def mb(h:Ty.qM (.int .i64) ts):∃x,ts=[ti x]:=by
 simp only[Ty.qM]at h;obtain⟨x,rfl,_⟩:=h;exact⟨x,rfl⟩
def AY{enc:α->aK}{e:Ty}(he:∀r,Ty.qM e r->∃x,r=enc x)(h:Ty.qM (.slice e) ts):∃l:List α,ts=[.sl (l.map enc)]/\l.length<=9223372036854775807:=by
 simp only[Ty.qM]at h;obtain⟨aw,rfl,hl,hr⟩:=h;obtain⟨l,rfl⟩:=SX λr g0=>he r (hr r g0);rw[Ih,RB]at hl;exact⟨l,rfl,hl⟩
def all_cons{t:Ty}{xT:List Ty}(h:Ty.l7 (t::xT) ts):∃a b,ts=a++b/\t.qM a/\Ty.l7 xT b:=by simpa only[Ty.l7]using h
def AZ(h:Ty.l7 [] ts):ts=[]:=by simpa only[Ty.l7]using h
def Qg{fs:List Ty}(h:Ty.qM (.seq fs) ts):Ty.l7 fs ts:=by simpa only[Ty.qM]using h
def ahg:Ty:=.seq [.int .i64,.slice ahf,.int .i64]
def Km:Ty:=.seq [.slice ahg,.slice ahf,.int .i64]
def akI(h:ahg.qM ts):∃r:cQ,ts=r.enc:=by
 obtain⟨_,_,rfl,h1,h⟩:=all_cons (Qg h);obtain⟨_,_,rfl,h2,h⟩:=all_cons h;obtain⟨_,_,rfl,h3,h⟩:=all_cons h;obtain rfl:=AZ h;obtain⟨a,rfl⟩:=mb h1;obtain⟨l,rfl,hl⟩:=AY (λr=>mb) h2;obtain⟨c,rfl⟩:=mb h3;exact⟨⟨a,l,c⟩,rfl⟩
def ZV{x:T}(h:Km.arg x):∃l:Input,x=l.enc/\l.av.length<=9223372036854775807/\l.insert.length<=9223372036854775807:=by
 unfold Km Ty.arg at h;obtain⟨ts,rfl,h⟩:=h;obtain⟨_,_,rfl,h1,h⟩:=all_cons h;obtain⟨_,_,rfl,h2,h⟩:=all_cons h;obtain⟨_,_,rfl,h3,h⟩:=all_cons h;obtain rfl:=AZ h;obtain⟨l,rfl,hl⟩:=AY (λr=>akI) h1;obtain⟨f,rfl,hf⟩:=AY (λr=>mb) h2;obtain⟨a,rfl⟩:=mb h3;exact⟨⟨l,f,a⟩,rfl,hl,hf⟩
end
end Go.Proofs
