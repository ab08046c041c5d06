/- A part. Conditions: none. -/
import Derived.Test.YtnhpkhblghgpdaaGreatDoorXab
import Derived.Shelf.SlSortCmp.NoneTotal
import Derived.ChangeArms
import Derived.ChangeStays
import Derived.ChangeSame
import Derived.RowKit
import Derived.OpenShut
import Derived.Test.YtnhpkhblghgpdaaGreatDoorProg
import Derived.KernelRfl
set_option linter.unusedSectionVars false
set_option linter.unusedSimpArgs false
set_option linter.unusedVariables false
set_option linter.defProp false
set_option maxRecDepth 100000
set_option maxHeartbeats 8000000
namespace Go.DM
open Go.RowKit
section
variable{ab:bq}{r:Nat}{P:Program}
variable [bI] [dL]
abbrev tI(n:Int):T:=.int .i64 n
abbrev ov(k:Nat):Type:={l:bO//l.length=k}
instance(k:Nat):Inhabited (ov k):=⟨⟨List.replicate k 0,by simp⟩⟩
def qA{k:Nat}(x:ov k):List Value:=x.1.map (Value.int .i64)
def iN{k:Nat}(x:ov k):aK:=x.1.map tI
def VP{w w':World}(h:vO w.heap.size w w'):∃q os',w'=Go.Sort.grow (w.drewN q) os':=by
 refine⟨w'.drawn-w.drawn,w'.heap.extract w.heap.size w'.heap.size, ?_⟩;obtain⟨⟨h1,h2,h3,h4,h5⟩,h6⟩:=h;cases w with
 |mk heap tape drawn os output=>
  cases w' with
  |mk Yu tape' drawn' os' output'=>
   simp only at h1 h2 h3 h4 h5 h6;subst h1 h2 h3;simp only[Go.Sort.grow,World.drewN,World.mk.injEq,and_true,true_and];refine⟨?_,by omega⟩;apply Array.ext_getElem?;intro k;rw[Array.getElem?_append];split
   ·rename_i hk;exact h5 k hk
   ·rename_i hk;rw[Array.getElem?_extract];split
    ·rw[show heap.size+(k-heap.size)=k by omega]
    ·rename_i h7;rw[Array.getElem?_eq_none (by omega)]
def vo{w:World}{W:fo}:∀l:bO,du w W (l.map tI) (l.map (Value.int .i64))
 |[]=>by simp[du]
 |n::l=>by
  simp only[ZaA,du];exact⟨_,_,rfl,rfl,by simp[bj],vo l⟩
def yu{w:World}{W:fo}:∀{l:bO} {vs:List Value},du w W (l.map tI) vs->vs=l.map (Value.int .i64)
 |[],vs,h=>by simpa [du]using h
 |n::l,vs,h=>by
  simp only[ZaA,du]at h;obtain⟨v,EY,rfl,_,h1,h2⟩:=h;simp only[bj]at h1;rw[h1,yu h2];rfl
def BB{α:Type}{sz:Nat}:∀{av:List (List α)} {j:Nat},(∀r∈av,r.length=sz)->av.flatten[j]? =(av[j/sz]?).bind λr=>r[j % sz]?
 |[],j,_=>by simp
 |r::av,j,h=>by
  have hr:=h r (by simp);by_cases hs:sz=0
  ·subst hs;have:∀x∈r::av,x=[]:=λx hx=>Zc6.1 (h x hx);have h2:(r::av).flatten=[]:=by
    rw[List.flatten_eq_nil_iff];exact this
   rw[h2];simp[this r (by simp)]
  rw[Zbu,ZcM];split
  ·rename_i hj;rw[hr]at hj;rw[Nat.div_eq_of_lt hj,ZcH hj];simp
  ·rename_i hj;rw[hr]at hj;rw[hr,BB λx hx=>h x (by simp[hx])];obtain⟨i,rfl⟩:∃i,j=i+sz:=⟨j-sz,by omega⟩;rw[Zcz,Nat.add_div_right i (by omega),Nat.add_mod_right];rw[Zbb]
def DZ{k:Nat}(D:List (ov k)):(Go.Sort.flatK qA k D.toArray).toList=((D.map (·.1)).flatten).map (Value.int .i64):=by
 have hl:∀r∈D.map (·.1),r.length=k:=by
  intro r hr;obtain⟨x,_,rfl⟩:=Zak.1 hr;exact x.2
 have hflen:(D.map (·.1)).flatten.length=D.length*k:=by
  clear hl;induction D with
  |nil=>simp
  |cons x D ih=>simp only[ZaA,Zbu,ZaK,x.2,ih,Za5,Nat.add_mul];omega
 apply ZbN;intro j;by_cases hj:j<D.length*k
 ·have Cd:0<k:=by
   cases k with
   |zero=>simp at hj
   |succ k=>omega
  have h1:j/k<D.length:=Nat.div_lt_of_lt_mul (by rwa [Nat.mul_comm]);have h2:j % k<k:=Nat.mod_lt _ Cd;have yi:j<(Go.Sort.flatK qA k D.toArray).size:=by simpa using hj
  rw[Zbx,BB hl,Zbx,Zas h1];simp only[Za8,Zcr];have h3:=Go.Sort.get_flatK qA k D.toArray j (by simpa using hj);rw[Array.getElem?_toList,ZbD yi];rw[getElem!_pos _ j yi]at h3;rw[h3];have h4:D.toArray[j/k]! =D[j/k]:=by rw[getElem!_pos _ _ (by simpa using h1)];simp
  rw[h4];have h5:j % k<(D[j/k]).1.length:=by rw[(D[j/k]).2];exact h2
  unfold qA;rw[getElem!_pos _ _ (by simpa using h5)];simp[h5]
 ·rw[Zbs (by simpa using hj),Zbs (by rw[Zbn,hflen];omega)]
def GN{k:Nat}(D:List (ov k)):(D.map iN).flatten=((D.map (·.1)).flatten).map tI:=by
 induction D with
 |nil=>rfl
 |cons x D ih=>simp only[ZaA,Zbu,ih,ZaZ];rfl
def Oz{o:Ob}(h:ab r=some o):ew ab r o=ab:=by
 funext k;rw[OA];split
 ·rename_i e;rw[e,h]
 ·rfl
def Yv{g:FuncId}{k:Nat}{x y:ov k}{c:Int}(hg: @bl bI.none P g [.agg (iN x),.agg (iN y)] (tI c))(w:World):
  Calls P g (#[.agg (qA x).toArray,.agg (qA y).toArray]++ #[]) w λe w'=>e=.returned (.int .i64 c)/\∃q os',w'=Go.Sort.grow (w.drewN q) os':=by
 rw[ZbJ];refine(@bl.calls bI.none Qr P g _ _ hg w #[.agg (qA x).toArray,.agg (qA y).toArray] (F2.empty _ _) ?_).mono ?_
 ·show fN w (λ_=>False) [.agg (iN x),.agg (iN y)] [.agg (qA x).toArray,.agg (qA y).toArray];simp only[fN];exact⟨_,_,rfl,⟨_,rfl,vo x.1⟩,_,_,rfl,⟨_,rfl,vo y.1⟩,rfl⟩
 ·rintro e' w' ⟨v,rfl,hb,hv⟩;simp only[bj]at hv;subst hv;exact⟨rfl,VP hb⟩
def BC{k:Nat}(cf:ov k->ov k->Int)(D:List (ov k)):List (ov k):=D.mergeSort λx y=> !(Go.Proofs.ltOf cf) y x
open Go.Proofs Go.Sort in
def KR{ρ:Go.Shelf.Ren}(Lay:SlLaysF0.n6 P ρ){k:Nat}(hk:0<k)(aE:∀w,(isAgg (ρ.t 24)).run P w=.ok true w)(zE:∀w,(Go.sizeOf (ρ.t 24)).run P w=.ok k w)
  {g:FuncId} {cf:ov k->ov k->Int} (hg:∀x y:ov k, @bl bI.none P g [.agg (iN x),.agg (iN y)] (tI (cf x y))) (hO:Go.Sort.SWO (ltOf cf)) (hT:∀x y,(ltOf cf) x y=false->(ltOf cf) y x=false->x=y)
  (D:List (ov k)) {bD e:Nat} (gH:ab r=some (.dT bD e k (D.map iN))) (dM:D.length<4611686018427387904):
  aR P (ρ.f 6) [.bA r bD,.v (.fn (.func g) [])] ab ⟨True,.v (.eo []),ew ab r (.dT bD e k ((BC cf D).map iN))⟩:=by
 have eg:∀args w,(callFunc g args).run P w=.ok (.enter g args) w:=by
  obtain⟨fn,h1,h2,h3⟩:= @bl.entry bI.none _ _ _ _ (hg default default);cases hb:fn.body with
  |none=>rw[hb]at h3;cases h3
  |some c=>exact enters_of h1 (by simpa using h2) hb
 refine⟨?_,λbase W M w0 w L cA hRO hr=>?_⟩
 ·obtain⟨nm,hn,hf⟩:=Lay.f6;exact⟨_,hf,by simpa using hn,rfl⟩
 obtain⟨sg,xV⟩:=hr;obtain⟨x,f,xM⟩:∃x f,cA.toList=[x,f]:=by
  match xM:cA.toList,sg with
  |[x,f],_=>exact⟨x,f,rfl⟩
 have hvals:cA= #[x,f]:=Array.ext' (by simpa using xM);subst hvals;have hx:=xV 0 _ x rfl rfl;have hf:=xV 1 _ f rfl rfl;simp only[aA,bj]at hf;obtain⟨cv,rfl,hcv⟩:=hf;have hcv:cv= #[]:=by
  simp only[du]at hcv;exact Array.ext' (by simpa using hcv)
 subst hcv;simp only[aA]at hx;obtain⟨_,cg,e',iG,eN,hob',OB,F5⟩:=hx;rw[gH]at hob';cases hob';have F5:=F5 rfl;subst F5;obtain⟨yi,eF,hm,P1⟩:=hRO.ob r _ gH;have vP:(BC cf D).length=D.length:=List.length_mergeSort ..;rcases P1 with⟨KH,a,ha⟩|⟨g',cap,pa,hv,hp,hh,jy,sc,HN,gQ⟩
 ·rw[ha];refine(AnyF.slices_SortFunc_none Lay a 0 _ w).mono ?_;rintro e' w' ⟨rfl,rfl⟩;have hD:D=[]:=by simpa using KH
  subst hD;have hs:BC cf []=[]:=by simp[BC]
  rw[hs,Oz gH];exact⟨_,L,rfl,hRO,gP.cQ (dg.refl _ _),by simp[aA,bj,fN]⟩
 ·rw[hv];have hgl:g'<w.heap.size:=(Zap.1 hh).1;rw[GN]at gQ;have mE:=yu gQ;rw[<-DZ]at mE;have hcellG:∀j,w.cell? ⟨g',j,none⟩=pa[j]? :=by
   intro j;simp only[World.cell?,hh];rfl
  have hH:HoldsK qA k w g' 0 D.toArray:=by
   intro j hj;refine⟨?_, ?_⟩
   ·rw[Zbi,hcellG];have h1:=congrArg (λl:List Value=>l[j]?) mE;have hj2:j<(D.map iN).length*k:=by simpa using hj
    rw[ZaQ,Zai hj2,Array.getElem?_toList,Array.getElem?_toList,ZbD hj]at h1;rw[h1,getElem!_pos _ j hj];rfl
   ·simp only[World.frozen?,hh];simp
  have hlays:CmpLays P g #[] qA k cf g' 0 D.toArray.size w:=by
   intro m os dk hdk x y;obtain⟨w1,Xd⟩:=bb (sortWorldK qA k w g' 0 m dk os);rw[Xd];exact Yv (hg x y) w1
  have sh:=AnyQ.slices_SortFunc_total Lay k aE zE qA (λx=>by simp[qA,x.2]) (λx v hv=>by
   simp only[qA,Zak]at hv;obtain⟨n,_,rfl⟩:=hv;rfl) cf hO g #[] g' 0 cap D.toArray w eg hlays hH hgl (by simpa using dM) hT
  rw[show(D.map iN).length=D.toArray.size by simp];refine sh.mono ?_;rintro e' w' ⟨rfl,n,os,rfl⟩;refine⟨_,L,rfl, ?_⟩;obtain⟨S,hS⟩:=bb (BC cf D);have NF:(D.toArray.toList.mergeSort λx y=> !(ltOf cf) y x).toArray=S.toArray:=by rw[<-hS];rfl
  rw[NF];rw[hS]at vP⊢;obtain⟨F,hF⟩:=bb (flatK qA k S.toArray);have hFs:F.size=D.length*k:=by rw[<-hF];simp[vP]
  have hFl:F.toList=((S.map (·.1)).flatten).map (Value.int .i64):=by rw[<-hF];exact DZ S
  have oj:(D.map iN).length*k<=pa.size:=by rw[HN];exact Zbk k jy
  have hcs2:D.length*k<=pa.size:=by simpa using oj
  have Yw:∀b:Nat,b<w.heap.size->(sortWorldK qA k w g' 0 n S.toArray os).heap[b]? =if b=g' then some (.cells (Go.Sort.putCells id 0 F pa) e (0,0))else w.heap[b]? :=by
   intro b hb;have fH:b<(putRowK qA k (Go.Sort.ahead w n) g' 0 S.toArray).heap.size:=by
    simp[Go.Sort.putRowK,Go.Sort.putRow,Go.Sort.mapBlock,Go.Sort.ahead,hb]
   simp only[sortWorldK,Go.Sort.grow];rw[ZcZ fH];simp only[putRowK,Go.Sort.putRow,Go.Sort.mapBlock,Go.Sort.ahead,hF,Array.getElem?_modify];by_cases e1:b=g'
   ·subst e1;rw[Zai rfl,Zai rfl,hh];rfl
   ·rw[Zab (λh=>e1 h.symm),Zab e1]
  have qi:w.heap.size<=(sortWorldK qA k w g' 0 n S.toArray os).heap.size:=by
   simp[sortWorldK,Go.Sort.grow,putRowK,Go.Sort.putRow,Go.Sort.mapBlock,Go.Sort.ahead]
  have iu:L.own r (.dT bD e k (D.map iN))=some g':=by simp[Loc.own,hv,aX,ZaJ.1 hp]
  have oV:∀j,(Go.Sort.putCells id 0 F pa)[j]? =if j<F.size then F[j]? else pa[j]? :=by
   intro j;simp only[Go.Sort.putCells,Array.getElem?_mapIdx];by_cases hj:j<F.size
   ·rw[Zai hj,ZbD (show j<pa.size by omega),ZbD hj];simp[hj]
   ·rw[Zab hj];cases pa[j]? with
    |none=>rfl
    |some v=>simp;intro h;omega
  have xK:Fr base M w0 (sortWorldK qA k w g' 0 n S.toArray os):=by
   refine hRO.fr.trans ⟨rfl,rfl,rfl,ZaP hRO.fr.jq hRO.fr.size,qi,λb hb HP=>?_,by simp[sortWorldK,Go.Sort.grow,putRowK,Go.Sort.putRow,Go.Sort.mapBlock,Go.Sort.ahead]⟩;have hbw:b<w.heap.size:=Zbz hb (ZaP hRO.fr.jq hRO.fr.size);rw[Yw b hbw,Zab];rintro rfl;rcases hm b (by simp[hv,aX,ZaJ.1 hp])with h|h
   ·omega
   ·exact HP h
  have VN:=ct.put (r:=r) (o':=.dT bD e k (S.map iN)) (L':=L) hRO xK qi (λ_ _=>⟨rfl,rfl⟩) rfl
   (λb hb bT=>by rw[Yw b hb,Zab];rintro rfl;exact bT _ gH iu)
   (λb hb=>.inl ⟨_,gH,hb⟩) (λo' iA tU=>by rw[gH]at iA;cases iA;exact Zar rfl tU)
   (λcg e' iG eN h=>by rw[gH]at h;cases h;exact⟨bD,e,k,_,rfl,Zaf _,λ_=>⟨rfl,rfl,by simp[vP]⟩⟩)
   (λeZ=>by
    refine⟨yi,λx hx=>?_,hm,.inr ⟨g',cap,Go.Sort.putCells id 0 F pa,by rw[hv];simp[vP],hp,by rw[Yw g' hgl,Zai rfl],by simpa [vP]using jy,sc,by simpa [Go.Sort.putCells]using HN, ?_⟩⟩
    ·obtain⟨y,_,rfl⟩:=Zak.1 hx;simp[iN,y.2]
    ·rw[GN];have e1:(Go.Sort.putCells id 0 F pa).toList.take ((S.map iN).length*k)=((S.map (·.1)).flatten).map (Value.int .i64):=by
      rw[<-hFl];apply ZbN;intro j;rw[ZaQ,Zbn,vP,Array.getElem?_toList,Array.getElem?_toList,oV,hFs];by_cases hj:j<D.length*k
      ·simp[hj]
      ·rw[Zab hj,Array.getElem?_eq_none (by omega)]
     rw[e1];exact vo _)
  rw[show cG ab (some (r,.dT bD e k (S.map iN)))=ew ab r (.dT bD e k (S.map iN))from rfl]at VN;exact⟨VN.1,VN.2,by simp[aA,bj,fN]⟩
end
end Go.DM
namespace Go.DM
open Go.RowKit
variable [bI] [dL]
section
variable{P:Program}{nt:Nat}{Γ:pI}{Q:Exit->l8->Prop}{tm:dw}{ob:bq}{aJ low:Nat}{td:List (aK)}
def YS(P:Program)(Γ:pI)(aJ:Nat)(r:RO)(s:RS)(K:RS->Prop):Prop:=
 (s.ab (nm aJ r)=none/\cJ Γ aJ r s/\K (dW Γ aJ r s))\/
 (∃f args dst af N N' bf,r=⟨.call f args,dst,none,af,none⟩/\sE P f (args.map (·.ev s.tmps)) s.ab N N' bf/\∀val nJ,bf val nJ->K ⟨cU s.tmps dst val,nJ,s.todo⟩)
def YS.of{r:RO}{s:RS}{K:RS->Prop}(h:s.ab (nm aJ r)=none)(e:fc Γ aJ [r] s K):YS P Γ aJ r s K:=
 .inl ⟨h,by obtain⟨h1,h2⟩:=iK _ _ _ e;exact⟨h1.1,h2⟩⟩
def K6(D:Nat->Bool)(i:Nat):Nat->Bool:=λj=>if j=i then true else D j
def aa.regI(aC:ay P Γ)(hm:P.follows .mixedOrders=true){yZ:Bool}{rs:ai}{d:DC}(hd:d=.region yZ (rs.map bare))(H7:rs.all (l9 nt)=true)(ks:cO)(N':Nat)(I:(Nat->Bool)->RS->Prop)
  (h0:(∀t,aJ<=t->ob t=none)->I (λ_=>false) ⟨tm,ob,td⟩)
  (hs:∀D i r s,rs[i]? =some r->D i=false->(∀e∈r.after,D e=true)->(∀j y,rs[j]? =some y->D j=true->∀e∈y.after,D e=true)->I D s->YS P Γ aJ r s (I (K6 D i)))
  (he:∀D s,(∀i,i<rs.length->D i=true)->I D s->(∀t,N'<=t->s.ab t=none)/\Q .normal ⟨look (nR ks s.tmps),s.ab,N',low,s.todo⟩)
  (hdraw:yZ=true):aa P nt d Q ⟨tm,ob,aJ,low,td⟩:=by
 subst hd hdraw;refine⟨λc hc=>?_⟩;obtain⟨id,ops,rfl,oj,dq⟩:=o8 hc;have hcs':fO P ops=some (rs.map bare):=oj;obtain⟨dM,mF⟩:=lL hcs';simp only[ee,Zam,Zcs,Bool.false_or]at dq;obtain⟨⟨d0,Vx⟩,hpr⟩:=dq;obtain⟨ln,_⟩:=DI hpr
 let g:Nat->RO:=λi=>(rs[i]?).getD ⟨.qu (.gN .undef),none,none,[],none⟩
 have gg:∀i,i<ops.size->rs[i]? =some (g i):=λi hi=>by
  have:i<rs.length:=by omega
  simp[g,this]
 have hgc:∀(i:Nat) (o:Oper),ops[i]? =some o->d9 P ops o=some (bare (g i)):=λi o ho=>by
  obtain⟨r,h1,h2⟩:=mF i o ho;have hi:i<ops.size:=(Zap.1 ho).1;rw[gg i hi]at h1;rw[ZbU h1];exact h2
 have I2:∀i,i<ops.size->l9 nt (g i)=true:=λi hi=>by
  exact ZaU.1 H7 _ (Zax (gg i hi))
 have Ai:∀(i:Nat) (listed:Array Bool),i∈Region.ready .any ops listed↔listed.getD i true=false/\i<ops.size/\∀e∈(g i).after,listed.getD e false=true:=by
  intro i listed;rw[mem_ready];constructor
  ·rintro⟨h0,o,ho,h⟩;refine⟨h0,(Zap.1 ho).1,λe he=>?_⟩;have h4:(g i).after=_:=(fQ (hgc i o ho)).2.2.2;rw[h4]at he;simp only[Zak,Zbj]at he;obtain⟨x,⟨hx,hb⟩,rfl⟩:=he;exact h x (by simpa using hx) hb
  ·rintro⟨h0,hi,h⟩;have ho:ops[i]? =some ops[i]:=by simp[hi]
   refine⟨h0,ops[i],ho,λe he hb=>h e.on ?_⟩;have h4:(g i).after=_:=(fQ (hgc i _ ho)).2.2.2;rw[h4];exact Zak.2 ⟨e,Zbj.2 ⟨by simpa using he,hb⟩,rfl⟩
 have hlt':∀i,i<ops.size->∀e∈(g i).after,e<i:=λi hi e he=>ln i (bare (g i)) (by rw[Zbx,gg i hi];rfl) e he;intro n κ Xg w L yb r;have wS:∀t,aJ<=t->ob t=none:=λt ht=>r.fresh t ht;have setT:∀{l:Array Bool} {i j:Nat} {b:Bool},l.size=ops.size->i<ops.size->(l.setIfInBounds i true).getD j b=if j=i then true else l.getD j b:=λ{l i j b} hs hi=>by
  rw[ZaH,ZbZ,ZaH];by_cases e:j=i
  ·subst e;simp[hs,hi]
  ·have:¬i=j:=λh=>e h.symm;simp[e,this]
 have NA:∀i (hi:i<ops.size),ops[i]? =some ops[i]:=λi hi=>by simp[hi]
 have main:∀(qa:Nat) (l:Array Bool),l.size=ops.size->(rem ops.size l).length=qa->(∀j,j<ops.size->l.getD j false=true->∀e∈(g j).after,l.getD e false=true)->∀(s:RS) (a:Act) (w:World) (L:Loc),I (λj=>l.getD j false) s->eP κ nt s a w L->
   wpAnyIn (iV κ.ro) n P .any ops (λe a w=>∃dm L',Q e dm/\Ie κ nt dm a w L') qa l a w:=by
  intro qa;have bZ:∀(l:Array Bool),l.size=ops.size->Region.ready .any ops l=[]->∀(s:RS) (a:Act) (w:World) (L:Loc),I (λj=>l.getD j false) s->eP κ nt s a w L->∃dm L',Q .normal dm/\Ie κ nt dm a w L':=by
   intro l hl hr s a w L hI hR;have d0:∀i,i<ops.size->l.getD i false=true:=by
    intro i;induction i using Nat.strongRecOn with
    |_ i ih=>
     intro hi;cases hv:l.getD i false with
     |true=>rfl
     |false=>
      have:i∈Region.ready .any ops l:=(Ai i l).2 ⟨by rw[<-YN (by omega) false true];exact hv,hi,λe he=>ih e (hlt' i hi e he) (by have:=hlt' i hi e he;omega)⟩;rw[hr]at this;cases this
   obtain⟨xK,hQ⟩:=he _ s (λi hi=>d0 i (by omega)) hI;obtain⟨L4,R4⟩:=Le.we (st:=⟨s.tmps,s.ab,N',low,s.todo⟩) (mG s.tmps ks) κ nt a w L ⟨hR,xK,r.low,r.it⟩;exact⟨_,L4,hQ,R4⟩
  induction qa with
  |zero=>
   intro l hl hrem aT s a w L hI hR;have YT:Region.ready .any ops l=[]:=by
    cases hr:Region.ready .any ops l with
    |nil=>rfl
    |cons i t=>
     have hi:i∈Region.ready .any ops l:=by rw[hr];simp
     obtain⟨h1,h2,_⟩:=(Ai i l).1 hi;have:i∈rem ops.size l:=by unfold rem;rw[Zbj];exact⟨Za2.2 h2,by rw[h1];rfl⟩
     rw[Zc6.1 hrem]at this;cases this
   exact⟨YT,bZ l hl YT s a w L hI hR⟩
  |succ qa ih=>
   intro l hl hrem aT s a w L hI hR;refine⟨λhr=>bZ l hl hr s a w L hI hR,λi hi=>?_⟩;obtain⟨h1,h2,h3⟩:=(Ai i l).1 hi;have Nz:l.getD i false=false:=by rw[YN (by omega) false true];exact h1
   have hl':(l.setIfInBounds i true).size=ops.size:=by simpa using hl
   have hrem':(rem ops.size (l.setIfInBounds i true)).length=qa:=by
    have key:∀m,m<=ops.size->((List.range m).filter λj=> !(l.setIfInBounds i true).getD j true).length+(if i<m then 1 else 0)=((List.range m).filter λj=> !l.getD j true).length:=by
     intro m;induction m with
     |zero=>intro _;simp
     |succ m ihm=>
      intro hm;have:=ihm (by omega);rw[ZaR,List.filter_append,List.filter_append,ZaK,ZaK];by_cases e:i=m
      ·subst e;have c1:(l.setIfInBounds i true).getD i true=true:=by rw[setT hl h2];simp
       rw[Zab (Nat.lt_irrefl i)]at this;rw[Zai (Zcc i)];simp only[Za4,List.filter_nil,c1,h1,Zcs,Bool.not_false,ZaW,if_false,if_true,Zcj,Za5];omega
      ·have c1:(l.setIfInBounds i true).getD m true=l.getD m true:=by rw[setT hl h2,Zab (λh=>e h.symm)]
       simp only[Za4,List.filter_nil,c1];obtain⟨X,hX⟩:=bb ((if(!l.getD m true)=true then [m]else []).length);rw[hX];by_cases h:i<m
       ·rw[Zai h]at this;rw[Zai (by omega)];omega
       ·rw[Zab h]at this;rw[Zab (by omega)];omega
    have:=key ops.size (Zaf _);rw[Zai h2]at this;unfold rem at hrem⊢;omega
   have hD:(λj=>(l.setIfInBounds i true).getD j false)=K6 (λj=>l.getD j false) i:=by
    funext j;rw[setT hl h2];rfl
   have hcl':∀j,j<ops.size->(l.setIfInBounds i true).getD j false=true->∀e∈(g j).after,(l.setIfInBounds i true).getD e false=true:=by
    intro j hj hv e he;rw[setT hl h2]at hv⊢;by_cases e1:j=i
    ·subst e1;split
     ·rfl
     ·exact h3 e he
    ·rw[Zab e1]at hv;split
     ·rfl
     ·exact aT j hj hv e he
   rcases hs (λj=>l.getD j false) i (g i) s (gg i h2) Nz h3 (λj y hj hv e he=>by
     have hjs:j<ops.size:=by have:=(Zaw.1 hj).1;omega
     have:y=g j:=by rw[gg j hjs]at hj;exact(ZbU hj).symm
     rw[this]at he;exact aT j hjs hv e he) hI with⟨hf,dq,hK⟩|⟨f,args,dst,af,N,N2,bf,hr,hcl2,hK⟩
   ·refine pZ aC yb (NA i h2) (hgc i _ (NA i h2)) (I2 i h2) hR hf dq λa' w' L' hR'=>?_;exact ih _ hl' hrem' hcl' _ a' w' L' (by rw[hD];exact hK) hR'
   ·refine OF yb (NA i h2) (by rw[hgc i _ (NA i h2),hr];rfl) (by rw[<-hr];exact I2 i h2) hR hcl2 λa' w' L' val nJ hP hR'=>?_;exact ih _ hl' hrem' hcl' _ a' w' L' (by rw[hD];exact hK val nJ hP) hR'
 have hh:eP κ nt ⟨tm,ob,td⟩ Xg {w with drawn:=w.drawn+1} L:=by
  have hb:vO w.heap.size w {w with drawn:=w.drawn+1}:=⟨⟨rfl,rfl,rfl,Zaf _,λ_ _=>rfl⟩,Zdb _⟩;obtain⟨W,base,M,w0,dP,h0⟩:=r.r.ex;obtain⟨hO,hA⟩:=ct.grow h0.o hb;obtain⟨Ds,h1,h2,h3,h4⟩:=r.r.defers;exact⟨⟨W,base,M,w0,dP,h0.size,λt=>aA.eZ hA _ _ (h0.tmps t),hO⟩,r.r.eZ.comp hA (dP.H3 _) dP.sub.2,⟨Ds,h1,h2,λD hD=>⟨hA.dx.W8 D (h3 D hD).1,(h3 D hD).2⟩,h4⟩,r.r.bg,r.r.bZ⟩
 have xN:∀i b,i<ops.size->(Array.replicate ops.size false).getD i b=false:=λi b hi=>by rw[ZaH];simp[hi]
 have hD0:(λj=>(Array.replicate ops.size false).getD j false)=λ_=>false:=by
  funext j;rw[ZaH];by_cases h:j<ops.size
  ·simp[h]
  ·simp[h]
 refine wpIn_region_any hm (main ops.size _ (by simp) ?_ (λj hj hv=>?_) _ _ _ _ (by rw[hD0];exact h0 wS) hh)
 ·have:rem ops.size (Array.replicate ops.size false)=List.range ops.size:=by
   unfold rem;rw[List.filter_eq_self];intro i hi;rw[xN i true (Za2.1 hi)];rfl
  rw[this,Zb5]
 ·rw[xN j false hj]at hv;cases hv
end
end Go.DM
namespace Go.DM
open Go.RowKit
section
variable{f:FuncId}
variable [bI]
def OG(k:bB->bq->fI):Prop:=∀args ab,(k args ab).ok->∀x,ab x=none->(k args ab).ab x=none
abbrev yk(l:Nat)(k:bB->bq->fI)(h:OG k):dL:=⟨some (l,k),λl' k' e=>by cases e;exact h⟩
structure OH(P:Program)(f:FuncId)(args:bB)(ab:bq)(k:bB->bq->fI)(aI:bq):Prop where
 entry:Dq P f
 run:∀(l:Nat) (r s:Loop) (base:Nat) (W M:fo) (w0 w:World) (L:Loc) (cA:Array Value),H2 P l r s k base W M w0 ab L w->base<=l->w.heap[l]? =some (.loop r)->ct base W M w0 ab w L->jD w W ab L args cA.toList->
  Calls P f (#[.func (.yield l) #[] #[]]++cA) w λe B=>(∃v,e=.returned v)/\∃L' r',(r'=r\/r'=s)/\ct base W M w0 aI B L'/\gP W ab L (w.putObj l (.loop r')) aI L' B
def YO(l:Nat)(args:bB)(ab:bq)(N:Nat):l8:=⟨λj=>match j with|0=>.v (.mg (.func (.yield l) #[] #[]))|j+1=>Cc args[j]?,ab,N,N,[[]]⟩
section
variable{P:Program}{nt:Nat}
def aB.okY{d:DC}(h:aB P f nt d []){args:bB}{ab aI:bq}{k:bB->bq->fI}(hnm:OG k){N:Nat}(hN:∀r,N<=r->ab r=none)(dM:args.length+1<=nt)
  (kk:∀l, @aa _ (yk l k hnm) P nt d (λe st=>(e=.normal\/e=.ret)/\st.ab=aI) (YO l args ab N)):OH P f args ab k aI:=by
 have Aj:=h.entry;obtain⟨fn,dn,rfl,h3,hr,_⟩:=h;obtain⟨c,hb,hc⟩:=Zac.1 h3;refine⟨Aj,λl rl sl base W M w0 w L cA hy Ox hlp hO B9=>?_⟩
 letI:=yk l k hnm
 have kk:=kk l;have hl:=B9.1;simp only[Za3]at hl;have uB:Ie ⟨W,ab,L,w,base,M,w0,none,none,some (l,rl,sl)⟩ fn.ntmps (YO l args ab N) {tmps:=(#[.func (.yield l) #[] #[]]++cA)++Array.replicate (fn.ntmps-(#[Value.func (.yield l) #[] #[]]++cA).size) Go.undef,defers:=[]} w L:=by
  refine⟨⟨⟨W,base,M,w0,⟨(λh=>by cases h),rfl,rfl,rfl,rfl⟩,by simp;omega,λj=>?_,hO⟩,
   (by
    show gP W ab L (w.putObj l (.loop rl)) ab L w;rw[World.uo hlp];exact gP.cQ (dg.refl _ _)),⟨[],rfl,Zb0,(λ_ h=>by cases h),λ_=>rfl⟩,λ_=>ZaP hO.fr.jq hO.fr.size,⟨N,hN⟩⟩,hN,hN,λh=>by cases h⟩
  simp only[YO];cases j with
  |zero=>simp only[aA,bj];exact pb (by simp)
  |succ j=>
   simp only;cases hk:args[j]? with
   |some x=>
    have hv:∃v,cA.toList[j]? =some v:=by
     have:j<cA.size:=by rw[hl];exact(Zaw.1 hk).1
     exact⟨cA[j],by simp[this]⟩
    obtain⟨v,hv⟩:=hv;have tp:(#[Value.func (.yield l) #[] #[]]++cA).toList[j+1]? =some v:=by simpa using hv
    simp only[pb tp,Cc];exact B9.2 j x v hk hv
   |none=>
    have xL:(#[Value.func (.yield l) #[] #[]]++cA).size<=j+1:=by
     have:=ZbE.1 hk;simp;omega
    simp only[Cc,aA,oG xL]
 refine callsIn_wide.1 (callsIn_of_wp_marks (n:=0) dn hb trivial ?_);refine wpIn_mono (kk.run c hc 0 _ _ _ _ ⟨λJ hJ=>(by cases hJ),λl' r' s' hY=>(by cases hY;exact⟨Ox,hlp,k,rfl,hy⟩),λl hl=>(by cases hl)⟩ uB) ?_;rintro e a' w' ⟨dm,L',⟨he,hq⟩,r'⟩;have done:LeavesInM Fence.wide 0 P fn a'.tmps (λe B=>(∃v,e=.returned v)/\∃L' r',(r'=rl\/r'=sl)/\ct base W M w0 aI B L'/\gP W ab L (w.putObj l (.loop r')) aI L' B) a'.defers .returning w':=by
  obtain⟨Ds,h1,h2,h3,_⟩:=r'.r.defers;rw[h1];refine uA (κ:=⟨W,ab,L,w,base,M,w0,none,none,some (l,rl,sl)⟩) rfl ?_ Ds a' w' L' r'.r h1 h2 h3;intro a2 w2 L2 h4;obtain⟨W',KL,M',w0',dP,h0⟩:=h4.ex;obtain⟨_,e1,e2,e3,e4⟩:=dP
  replace h0:R0 base W M w0 fn.ntmps dm.tmps dm.ab a2 w2 L2:=by rw[e1,e2,e3,e4]at h0;exact h0
  obtain⟨v,k1,_⟩:=uy (st:=dm) h0 (fY:=true) (W':=λ_=>False) (λ_ _ _ _ _ _ h=>h) (λ_ h=>h.elim) hr ⟨(trivial:lM true dm []),rfl⟩;have NE:=h0.o;have tC:gP W ab L (w.putObj l (.loop (match dm.todo with|[]=>sl|_=>rl))) dm.ab L2 w2:=h4.eZ;rw[hq]at NE tC;refine⟨v,k1,⟨v,rfl⟩,L2,_, ?_,NE,tC⟩;cases dm.todo with
  |nil=>exact .inr rfl
  |cons _ _=>exact .inl rfl
 rcases he with rfl|rfl
 ·exact done
 ·exact done
def Ea(f:dw):cO->bB->Nat->DV
 |p::ps,x::xs=>Ea (cU f (some p) x) ps xs
 |_,_=>f
def GU{A:World}{W:fo}{ab:bq}{L:Loc}:∀(ps:cO) (x:bB) (cA:List Value) (f:dw) (tm:Array Value),(∀p∈ps,p<nt)->tm.size=nt->x.length=ps.length->jD A W ab L x cA->
  (∀t,aA A W ab L (f t) (tm.getD t Go.undef))->
  ((ps.zip cA).foldl (λt (pv:Nat×Value)=>t.setIfInBounds pv.1 pv.2) tm).size=nt/\∀t,aA A W ab L (Ea f ps x t) (((ps.zip cA).foldl (λt (pv:Nat×Value)=>t.setIfInBounds pv.1 pv.2) tm).getD t Go.undef)
 |[],x,cA,f,tm,_,hs,hl,hr,hf=>by
  have:x=[]:=ZaD (by simpa using hl);subst this;exact⟨by simpa using hs,by simpa [Ea]using hf⟩
 |p::ps,[],cA,f,tm,_,_,hl,_,_=>by simp at hl
 |p::ps,y::x,[],f,tm,_,_,_,hr,_=>by have:=hr.1;simp at this
 |p::ps,y::x,v::EY,f,tm,hp,hs,hl,hr,hf=>by
  simp only[List.zip_cons_cons,ZaN,Ea];refine GU ps x EY _ _ (λq hq=>hp q (Zbg _ hq)) (by simpa using hs) (by simpa using hl) ⟨by simpa using hr.1,λi d v' h1 h2=>hr.2 (i+1) d v' (by simpa using h1) (by simpa using h2)⟩ λt=>?_;rw[Dt _ _ _ _ (by rw[hs];exact hp p (Zbl ..))];simp only[cU];by_cases ht:t=p
  ·simp only[ht,if_true];exact hr.2 0 y v rfl rfl
  ·simp only[ht,if_false];exact hf t
def aa.rangeFS [dL]{Q:Exit->l8->Prop}{st:l8}{g:bQ}{ps:cO}{aS bS:DC}{bY:bB}{k:bB->bq->fI}{bZ:bq}(id:Nat)(hit:OH P f bY st.ab k bZ)(Dw:0<st.low)
  (hg:g.ev st.tmps=.nG (.func f) bY) (lr:∀r,st.aJ<=r->bZ r=none)
  (round:∀args ab N,0<N->(k args ab).ok->yIs (k args ab).val->(∀r,N<=r->ab r=none)->args.length=ps.length/\
   aa P nt aS (λe s1=>e=.normal/\aa P nt bS (λe s2=>((yGo (k args ab).val=true/\e=.normal)\/(yGo (k args ab).val=false/\e=.exit id))/\∃N',Le s2 ⟨λ_=>.undef,(k args ab).ab,N',N,[]⟩) s1) ⟨Ea st.tmps ps args,ab,N,N,[]⟩)
  (done:Q .normal ⟨st.tmps,bZ,st.aJ,st.low,st.todo⟩) (stop:Q (.exit id) ⟨st.tmps,bZ,st.aJ,st.low,st.todo⟩):aa P nt (.Id g ps aS bS) Q st:=by
 refine⟨λc hc=>?_⟩;obtain⟨g',qs,y,z,rfl,hg',rfl,ln,hy,hz⟩:=Oj hc;intro n κ a w L gd r;have hJ:κ.J=none:=by
  cases hj:κ.J with
  |none=>rfl
  |some J=>have:=r.it (by rw[hj];rfl);omega
 obtain⟨W,base,M,w0,dP,h0⟩:=r.r.ex;have Dv:=dP;unfold oX.At at Dv;simp only[hJ]at Dv;obtain⟨htd,rfl,rfl,rfl,rfl⟩:=Dv;have hgv:=bQ.bP h0.o.gl h0.tmps hg';rw[hg]at hgv;simp only[aA]at hgv;obtain⟨vs,hgv,GJ⟩:=hgv;have jy:κ.base<=w.heap.size:=ZaP h0.o.fr.jq h0.o.fr.size;refine wpIn_rangeFunc ?_;intro fn dn;obtain⟨l,Ds0,W1,rec,Aj,tV,hlw,Xj,r1,r2,r3,r4,r5,r6,r7,yd,hDs⟩:=VQ (P:=P) (ro:=κ.ro) (w:=w) (fn:=fn) (tm:=a.tmps) (ps:=qs) (y:=y) (z:=z) (λl hl=>by
  obtain⟨rc,hrc⟩:=gd.rd l hl;obtain⟨rc',hrc'⟩:=oX.XS st.todo hrc;exact⟨rc',r.r.eZ.dx.Xy l rc' hrc'⟩)
 obtain⟨fnE,hfnE,bT,Bv⟩:=hit.entry;have hDl:∀D∈Ds0,D≠l:=λD hD e=>by
  have:=(hDs D hD).1;rw[e,Xj]at this;cases this
 obtain⟨wi,hA1⟩:=ct.grow h0.o tV;have hlb:κ.base<=l:=ZaP jy hlw;obtain⟨QW,YP⟩:=bb (({rec with state:=.done,pending:=some (.exit id)}:Loop):Loop);have hrec:({rec with state:=.ready,pending:=none}:Loop)=rec:=by cases rec;simp_all
 have XB:∀x:Loop,¬Obj.plain (.loop x):=λx e=>e;have hYield:H2 P l rec QW k κ.base κ.W κ.M κ.w0 st.ab L W1:=by
  refine⟨λA L' ab args cA dq hyi hfi h5 hAd hO hDA=>?_⟩;obtain⟨N,hN⟩:=hfi;have hN1:∀x,N+1<=x->ab x=none:=λx hx=>hN x (by omega);obtain⟨dM,hr⟩:=round args ab (N+1) (by omega) dq hyi hN1;have xM:cA.size=rec.params.size:=by
   have:=hDA.1;rw[r5];simpa [dM]using this
  have KD:=run_yield (P:=P) (args:=cA) h5 xM;rw[r3,r4,r5,r6,r7]at KD;refine⟨_,_,_,_,KD, ?_⟩;have hleA:κ.base<=A.heap.size:=ZaP hO.fr.jq hO.fr.size;have hlA:=(Zap.1 h5).1;have ik:∀t,aA A κ.W ab L' (st.tmps t) (a.tmps.getD t Go.undef):=λt=>aA.eZ (hA1.comp hAd (λ_ h=>.inl h) (λ_ h=>h)) _ _ (h0.tmps t);have Vo:=GU (nt:=nt) qs.toList args cA.toList st.tmps a.tmps ln h0.size dM hDA ik;rw[<-OC]at Vo
  let κ1:oX:=⟨κ.W,ab,L',A,κ.base,κ.M,κ.w0,none,some l,none⟩
  have good1:κ1.Good P:=⟨λJ hJ=>(by cases hJ),λl r s hY=>(by cases hY),λl' hl'=>by cases hl';exact⟨rec,h5⟩⟩;have rel1:Ie κ1 nt ⟨Ea st.tmps qs.toList args,ab,N+1,N+1,[]⟩ {tmps:=(qs.zip cA).foldl (λt (p,v)=>t.setIfInBounds p v) a.tmps,defers:=[]} A L':=
   ⟨⟨⟨κ.W,κ.base,κ.M,κ.w0,⟨λ_=>rfl,rfl,rfl,rfl,rfl⟩,Vo.1,Vo.2,hO⟩,gP.cQ (dg.refl _ _),⟨[],rfl,Zb0,(λ_ h=>by cases h),λ_=>rfl⟩,λ_=>hleA,⟨N+1,hN1⟩⟩,hN1,hN1,λh=>by cases h⟩
  refine roundIn_of_wpIn trivial ?_;refine wpIn_mono (hr.run y hy 0 κ1 _ A L' good1 rel1) ?_;rintro e a' w' ⟨s1,L1,⟨rfl,hbody⟩,VZ⟩;have had1:gP κ.W ab L' A s1.ab L1 w':=VZ.r.eZ;have Bl:w'.heap[l]? =some (.loop rec):=had1.dx.Xy l rec h5;have hlw':=(Zap.1 Bl).1;refine⟨_,run_beginRound Bl r1, ?_⟩
  let busy:Loop:={rec with state:=.busy}
  let κ2:oX:=⟨κ.W,ab,L',A.putObj l (.loop busy),κ.base,κ.M,κ.w0,none,some l,none⟩
  have hsA:(A.putObj l (.loop busy)).heap.size=A.heap.size:=by simp[World.putObj]
  have Nx:(w'.putObj l (.loop busy)).heap.size=w'.heap.size:=by simp[World.putObj]
  have gA:(A.putObj l (.loop busy)).heap[l]? =some (.loop busy):=World.putObj_heap_same hlA;have good2:κ2.Good P:=⟨λJ hJ=>(by cases hJ),λl r s hY=>(by cases hY),λl' hl'=>by cases hl';exact⟨busy,gA⟩⟩;have adv2:gP κ.W ab L' (A.putObj l (.loop busy)) s1.ab L1 (w'.putObj l (.loop busy)):=gP.Cp (r:=rec) hlA (by rw[World.uo h5];exact had1);have rel3:Ie κ2 nt s1 a' (w'.putObj l (.loop busy)) L1:=by
   obtain⟨W2,base2,M2,w02,Yh,h02⟩:=VZ.r.ex;obtain⟨e0,e1,e2,e3,e4⟩:=Yh
   replace h02:R0 κ.base κ.W κ.M κ.w0 nt s1.tmps s1.ab a' w' L1:=by rw[e1,e2,e3,e4]at h02;exact h02
   have B8:KeepsC (WW κ.W s1.ab L1) w' (w'.putObj l (.loop busy)):=⟨by rw[Nx];exact Zaf _,λb c e fr hb _=>ou Bl (XB _) b _ trivial hb⟩;obtain⟨Ds,d1,d2,d3,d4⟩:=VZ.r.defers;refine⟨⟨⟨κ.W,κ.base,κ.M,κ.w0,⟨e0,rfl,rfl,rfl,rfl⟩,h02.size,λt=>(oZ B8 (SizeOf.sizeOf (s1.tmps t)+1)).1 (s1.tmps t) _ (Zcc _) (h02.tmps t),uq h02.o Bl (XB _) hlb⟩,adv2,⟨Ds,d1,d2,λD hD=>?_,d4⟩,λ_=>by rw[hsA];exact hleA,VZ.r.bZ⟩,VZ.fresh,VZ.low,λh=>by cases h⟩;have:=d3 D hD;refine⟨?_,by rw[hsA];exact this.2⟩;rw[World.putObj_heap_other (by rintro rfl;rw[Bl]at this;cases this.1)];exact this.1
  refine wpIn_mono (hbody.run z hz 0 κ2 a' _ L1 good2 rel3) ?_;rintro e a3 w3 ⟨s3,L3,⟨hcase,N',hLe⟩,rel4⟩;obtain⟨L4,rel5⟩:=hLe κ2 nt a3 w3 L3 rel4;have had4:gP κ.W ab L' (A.putObj l (.loop busy)) (k args ab).ab L4 w3:=rel5.r.eZ;have hl3:w3.heap[l]? =some (.loop busy):=had4.dx.Xy l busy gA;obtain⟨W5,base5,M5,w05,hat5,h05⟩:=rel5.r.ex;obtain⟨_,e1,e2,e3,e4⟩:=hat5
  replace h05:ct κ.base κ.W κ.M κ.w0 (k args ab).ab w3 L4:=by have:=h05.o;rw[e1,e2,e3,e4]at this;exact this
  have fin2:∀rf:Loop,ct κ.base κ.W κ.M κ.w0 (k args ab).ab (w3.putObj l (.loop rf)) L4/\gP κ.W ab L' (A.putObj l (.loop rf)) (k args ab).ab L4 (w3.putObj l (.loop rf)):=
   λrf=>⟨uq h05 hl3 (XB _) hlb,gP.Cp hlA had4⟩
  rcases hcase with⟨XU,rfl⟩|⟨XU,rfl⟩
  ·have Av:=run_endRound (P:=P) none hl3;simp only[Option.isNone_none,if_true]at Av;have YQ:({busy with state:=.ready,pending:=none}:Loop)=rec:=by rw[<-hrec]
   rw[YQ]at Av;refine⟨_,_,Av,by rw[XU],L4, ?_⟩;rw[XU];exact fin2 rec
  ·have Av:=run_endRound (P:=P) (some (.exit id)) hl3;simp only[Option.isNone_some,ZaW,if_false]at Av;have YQ:({busy with state:=.done,pending:=some (.exit id)}:Loop)=QW:=by rw[<-YP]
   rw[YQ]at Av;refine⟨_,_,Av,by rw[XU],L4, ?_⟩;rw[XU];exact fin2 QW
 refine⟨l,Ds0.map mark,W1,{target:=.fn (.func f) vs,args:= #[.func (.yield l) #[] #[]]},W1,f, #[.func (.yield l) #[] #[]]++vs,W1,Aj, ?_,λ_ _=>trivial, ?_,(λh=>by cases h), ?_⟩
 ·simp only[resolve,hgv,Deferred.ofValue];simp[Act.eval]
 ·simp[invoke,callFunc,hfnE,bT];intro mi;simp[mi]at Bv
 ·have hcaps1:jD W1 κ.W st.ab L bY vs.toList:=by
   have h:=Bu GJ;exact⟨h.1,λi d v h1 h2=>aA.eZ hA1 _ _ (h.2 i d v h1 h2)⟩
  refine eQ ((hit.run l rec QW κ.base κ.W κ.M κ.w0 W1 L vs hYield hlb Xj wi hcaps1).mono ?_);rintro e B ⟨⟨v,rfl⟩,L',r',gD,hO',hA'⟩;have hlW:=(Zap.1 Xj).1;have hlB:B.heap[l]? =some (.loop r'):=hA'.dx.Xy _ _ (World.putObj_heap_same hlW);have hnb:r'.state≠ .busy:=by
   rcases gD with rfl|rfl
   ·rw[r1];simp
   ·rw[<-YP];simp
  have K3:=run_endLoop (P:=P) hlB hnb;obtain⟨off,Ce⟩:=bb (({r' with state:=.exhausted}:Loop):Loop);rw[Ce]at K3;have B8:KeepsC (WW κ.W bZ L') B (B.putObj l (.loop off)):=⟨by simp[World.putObj],λb c e fr hb _=>ou hlB (XB _) b _ trivial hb⟩;have hgrow:∀x:Loop,gP κ.W st.ab L w st.ab L (W1.putObj l (.loop x)):=λx=>by
   have hbx:vO w.heap.size w (W1.putObj l (.loop x)):=by
    refine⟨⟨tV.os,tV.tape,tV.output, ?_,λb hb=>?_⟩,tV.drawn⟩
    ·have:=tV.size;simpa [World.putObj]using this
    ·rw[World.putObj_heap_other (by omega)];exact tV.block b hb
   exact(ct.grow h0.o hbx).2
  have tC:gP κ.W st.ab L w bZ L' (B.putObj l (.loop off)):=(hgrow off).comp (gP.Cp hlW hA') (λ_ h=>.inl h) (λ_ h=>h);have hA3:gP κ.W st.ab L w bZ L' B:=(hgrow r').comp hA' (λ_ h=>.inl h) (λ_ h=>h);obtain⟨Ds,d1,d2,d3,d4⟩:=r.r.defers;have hgw:κ.gw.heap.size<=w.heap.size:=by have:=r.r.eZ.dx.size;rw[oX.ya]at this;exact this
  have hR:Ie κ nt ⟨st.tmps,bZ,st.aJ,st.low,st.todo⟩ {a with defers:=Ds0.map mark++a.defers} (B.putObj l (.loop off)) L':=by
   refine⟨⟨⟨κ.W,κ.base,κ.M,κ.w0,dP,h0.size,λt=>aA.eZ tC _ _ (h0.tmps t),uq hO' hlB (XB _) hlb⟩,r.r.eZ.comp tC (dP.H3 _) dP.sub.2,⟨Ds0++Ds,by rw[ZaZ,<-d1], ?_,λD hD=>?_,λh=>by rw[hJ]at h;cases h⟩,r.r.bg,⟨st.aJ,lr⟩⟩,lr,r.low,r.it⟩
   ·rw[Zb7];refine⟨yd,d2,λD hD D' hD' e=>?_⟩;subst e;have k1:=(hDs D hD).2;have k2:=(Zap.1 (d3 D hD').1).1;omega
   ·rcases Zaq.1 hD with hD|hD
    ·refine⟨?_,ZaP hgw (hDs D hD).2⟩;rw[World.putObj_heap_other (hDl D hD)];exact hA'.dx.W8 D (by rw[World.putObj_heap_other (hDl D hD)];exact(hDs D hD).1)
    ·exact⟨tC.dx.W8 D (d3 D hD).1,(d3 D hD).2⟩
  rcases gD with rfl|rfl
  ·rw[r2]at K3;exact⟨none,_,K3,_,L',done,hR⟩
  ·have:r'.pending=some (.exit id):=by rw[<-YP]
   rw[this]at K3;exact⟨some (.exit id),_,K3,wpIn_exit ⟨_,L',stop,hR⟩⟩
end
end
section
variable{base nt:Nat}{W M:fo}{w0:World}{st:l8}{rs:List bV}
variable [bI] [dL]{P:Program}
def Eb(st:l8)(rs:List bV):bB:=rs.map λr=>(r.oq st).val
def K4(st:l8)(rs:List bV):DV:=match Eb st rs with
 |[x]=>x
 |ds=>.eo ds
def YR{w:World}{a:Act}{L:Loc}(h:R0 base W M w0 nt st.tmps st.ab a w L){rv:ResultVar}{r:bV}(hr:nQ P rv=some r)(dq:(r.oq st).ok):
  ∃v,((match rv with|.tmp t=>pure (a.tmps.getD t Go.undef)|.cell b t=>do loadVar t (<-asAddr (a.tmps.getD b Go.undef))):Sem Value).run P w=.ok v w/\aA w W st.ab L (r.oq st).val v:=by
 cases rv with
 |tmp t=>
  simp only[nQ,Zaa]at hr;subst hr;exact⟨_,rfl,h.tmps t⟩
 |cell b t=>
  simp only[nQ]at hr;split at hr
  ·rename_i d i hd hi;simp only[Zaa]at hr;subst hr;simp only[bV.oq]at dq;obtain⟨hp,v,bW,hv⟩:=wF h.o hd hi (h.tmps b) dq;refine⟨v, ?_,hv⟩;have hpt:∃p,a.tmps.getD b Go.undef=.pointer (some p):=by
    have hx:=h.tmps b;have ho:=dq;cases hq:st.tmps b with
    |ptr r off=>rw[hq]at hx;simp only[aA]at hx;exact⟨_,hx.2⟩
    |l7 av j off=>rw[hq]at hx;simp only[aA]at hx;obtain⟨_,_,_,hx,_⟩:=hx;exact⟨_,hx⟩
    |iD cs off=>rw[hq]at hx;simp only[aA]at hx;obtain⟨_,_,hx,_⟩:=hx;exact⟨_,hx⟩
    |ka r bD j off=>rw[hq]at hx;simp only[aA]at hx;obtain⟨⟨_,_,hx⟩,_⟩:=hx;exact⟨_,hx⟩
    |v t'=>
     rw[hq]at hx ho;cases t' with
     |box cs=>simp only[aA,bj]at hx;obtain⟨_,_,hx,_⟩:=hx;exact⟨_,hx⟩
     |_=>exact ho.elim
    |_=>rw[hq]at ho;exact ho.elim
   obtain⟨p,hp⟩:=hpt;show Sem.run P (do loadVar t (<-asAddr (a.tmps.getD b Go.undef))) w=_;rw[hp]at bW⊢;simpa [Instr.loadAt,Instr.sureAddr,asAddr]using bW
  ·cases hr
def K5{base:Nat}{W M:fo}{w0 w:World}{nt:Nat}{st:l8}{a:Act}{L:Loc}(h:R0 base W M w0 nt st.tmps st.ab a w L):∀{rvs:List ResultVar} {rs:List bV},rvs.mapM (nQ P)=some rs->(∀r∈rs,(r.oq st).ok)->
  ∃vs,(rvs.mapM (λrv=>((match rv with|.tmp t=>pure (a.tmps.getD t Go.undef)|.cell b t=>do loadVar t (<-asAddr (a.tmps.getD b Go.undef))):Sem Value))).run P w=.ok vs w/\eE w W st.ab L (Eb st rs) vs
 |[],rs,hr,_=>by simp at hr;subst hr;exact⟨[],by simp,by simp[Eb,eE]⟩
 |rv::rvs,rs,hr,dq=>by
  simp only[Za7,Zao,Zaj,Zad,Zaa]at hr;obtain⟨r,sg,rs',mt,rfl⟩:=hr;obtain⟨v,h1,h2⟩:=YR h sg (dq r (by simp));obtain⟨vs,h3,h4⟩:=K5 h mt λx hx=>dq x (by simp[hx]);refine⟨v::vs, ?_, ?_⟩
  ·rw[Za7];simp only[Sem.run_bind,h1,Result.andThen_ok,h3,Sem.run_pure]
  ·simp only[Eb,ZaA,eE];exact⟨v,vs,rfl,h2,h4⟩
def eE.length{w:World}{W:fo}{ab:bq}{L:Loc}:∀{ds:bB} {vs:List Value},eE w W ab L ds vs->vs.length=ds.length
 |[],vs,h=>by simp only[eE]at h;subst h;rfl
 |d::ds,vs,h=>by
  simp only[eE]at h;obtain⟨x,EY,rfl,_,h2⟩:=h;simp[eE.length h2]
def Ir{w:World}{a:Act}{L:Loc}(h:R0 base W M w0 nt st.tmps st.ab a w L){fn:Func}(hr:fn.results.toList.mapM (nQ P)=some rs)(dq:∀r∈rs,(r.oq st).ok):
  ∃v,(results fn a.tmps).run P w=.ok v w/\aA w W st.ab L (K4 st rs) v:=by
 obtain⟨vs,h2,h3⟩:=K5 h hr dq;have hm:(fn.results.mapM (λrv=>((match rv with|.tmp t=>pure (a.tmps.getD t Go.undef)|.cell b t=>do loadVar t (<-asAddr (a.tmps.getD b Go.undef))):Sem Value))).run P w=.ok vs.toArray w:=by
  rw[Zcx];simp only[Sem.run_map,h2,Result.andThen_ok]
 have hl:vs.length=(Eb st rs).length:=eE.length h3;refine⟨if h:vs.toArray.size=1 then vs.toArray[0]else .tuple vs.toArray, ?_, ?_⟩
 ·have B7:(results fn a.tmps)=(do
   let vs<-fn.results.mapM (λrv=>((match rv with|.tmp t=>pure (a.tmps.getD t Go.undef)|.cell b t=>do loadVar t (<-asAddr (a.tmps.getD b Go.undef))):Sem Value))
   pure (if h:vs.size=1 then vs[0]else .tuple vs)):=rfl
  rw[B7];simp only[Sem.run_bind,hm,Result.andThen_ok,Sem.run_pure]
 ·unfold K4;cases Kr:Eb st rs with
  |nil=>
   rw[Kr]at hl h3;have:vs=[]:=ZaD (by simpa using hl);subst this;simp only[aA];exact⟨#[],by simp,by simp[eE]⟩
  |cons x ds=>
   rw[Kr]at hl h3;cases ds with
   |nil=>
    simp only[eE]at h3;obtain⟨y,EY,rfl,h4,rfl⟩:=h3;simpa using h4
   |cons y ds=>
    have:vs.toArray.size≠1:=by simp at hl⊢;omega
    rw[ZcT this];simp only[aA];exact⟨vs.toArray,rfl,by simpa using h3⟩
def finD(rs:List bV)(r:fI):Exit->l8->Prop
 |.normal,st|.ret,st=>(∀x∈rs,(x.oq st).ok)/\Le ⟨look [(0,K4 st rs)],st.ab,st.aJ,st.low,st.todo⟩ ⟨look [(0,r.val)],r.ab,st.aJ,st.low,st.todo⟩
 |_,_=>False
def aB.okD{f:FuncId}{d:DC}(h:aB P f nt d rs){args:bB}{ab:bq}{r:fI}{N:Nat}(hN:∀r,N<=r->ab r=none)(dM:args.length<=nt)(hnt:0<nt)
  (k:dh ab N->aa P nt d (finD rs r) ⟨look (args.zipIdx.map λp=>(p.2,p.1)),aM [] ab,N,N,[]⟩):aR P f args ab r:=by
 have Aj:=h.entry;obtain⟨fn,dn,rfl,h3,hr,_⟩:=h;obtain⟨c,hb,hc⟩:=Zac.1 h3;refine⟨Aj,λbase W M w0 w L cA hO B9=>?_⟩;have k:=Al (k (Au hO hN));have hl:=B9.1;simp only[Za3]at hl;have uB:Ie ⟨W,ab,L,w,base,M,w0,none,none,none⟩ fn.ntmps (wd args ab N) {tmps:=cA++Array.replicate (fn.ntmps-cA.size) Go.undef,defers:=[]} w L:=by
  refine⟨⟨⟨W,base,M,w0,⟨λ_=>rfl,rfl,rfl,rfl,rfl⟩,by simp;omega,λk=>?_,hO⟩,
   gP.cQ (dg.refl _ _),⟨[],rfl,Zb0,(λ_ h=>by cases h),λ_=>rfl⟩,λ_=>ZaP hO.fr.jq hO.fr.size,⟨N,hN⟩⟩,hN,hN,λh=>by cases h⟩
  simp only[wd];cases hk:args[k]? with
  |some x=>
   have hv:∃v,cA.toList[k]? =some v:=by
    have:k<cA.size:=by rw[hl];exact(Zaw.1 hk).1
    exact⟨cA[k],by simp[this]⟩
   obtain⟨v,hv⟩:=hv;simp only[pb hv,Cc];exact B9.2 k x v hk hv
  |none=>
   have xL:cA.size<=k:=by
    have:=ZbE.1 hk;omega
   simp only[Cc,aA,oG xL]
 refine callsIn_wide.1 (callsIn_of_wp_marks (n:=0) dn hb trivial ?_);refine wpIn_mono (k.run c hc 0 _ _ _ _ ⟨λJ hJ=>(by cases hJ),λl r s hY=>(by cases hY),λl hl=>(by cases hl)⟩ uB) ?_;rintro e a' w' ⟨dm,L',q,r'⟩;have done:((∀x∈rs,(x.oq dm).ok)/\Le ⟨look [(0,K4 dm rs)],dm.ab,dm.aJ,dm.low,dm.todo⟩ ⟨look [(0,r.val)],r.ab,dm.aJ,dm.low,dm.todo⟩)->LeavesInM Fence.wide 0 P fn a'.tmps (λe w'=>∃v L',e=.returned v/\ct base W M w0 r.ab w' L'/\gP W ab L w r.ab L' w'/\aA w' W r.ab L' r.val v) a'.defers .returning w':=by
  rintro⟨hq1,Xh⟩;obtain⟨Ds,h1,h2,h3,_⟩:=r'.r.defers;rw[h1];refine uA (κ:=⟨W,ab,L,w,base,M,w0,none,none,none⟩) rfl ?_ Ds a' w' L' r'.r h1 h2 h3;intro a2 w2 L2 h4;obtain⟨W',KL,M',w0',dP,h0⟩:=h4.ex;obtain⟨v,k1,k2⟩:=Ir (st:=dm) h0 hr hq1;have h5:=eP.put h4 dP h0 (some 0) (λd hd=>by cases hd;exact hnt) h0.o (gP.cQ (dg.refl _ _)) k2 h4.bZ;have h6:Ie ⟨W,ab,L,w,base,M,w0,none,none,none⟩ fn.ntmps ⟨cU dm.tmps (some 0) (K4 dm rs),dm.ab,dm.aJ,dm.low,dm.todo⟩ (a2.put (some 0) v) w2 L2:=⟨h5,r'.fresh,r'.low,r'.it⟩;obtain⟨L3,h7⟩:=(Le.we (st:=⟨cU dm.tmps (some 0) (K4 dm rs),dm.ab,dm.aJ,dm.low,dm.todo⟩) (tm:=look [(0,K4 dm rs)]) (λk=>by
   by_cases hk:k=0
   ·subst hk;right;rfl
   ·left;simp[look,hk])) _ _ _ _ _ h6
  obtain⟨L4,h8⟩:=Xh _ _ _ _ _ h7;obtain⟨W'',base'',M'',w0'',Yh,h9⟩:=h8.r.ex;obtain⟨_,e1,e2,e3,e4⟩:=Yh;rw[e1,e2,e3,e4]at h9;have hv:=h9.tmps 0;have yi:0<a2.tmps.size:=by rw[h0.size];exact hnt
  refine⟨v,k1,v,L4,rfl,h9.o,h8.r.eZ, ?_⟩;have:(a2.put (some 0) v).tmps.getD 0 Go.undef=v:=by simp[Act.put,yi]
  rw[this]at hv;simpa [look]using hv
 cases e with
 |normal=>exact done q
 |ret=>exact done q
 |_=>exact q.elim
end
open Go.RowKit Go.ChangeShapes Go.WideShapes
section
variable{sp:Nat->Bool}{held:Bool}{base:Nat}
variable [bI]
def ni(P:Program)(L:List TypeId):Nat->List Field->Nat->Bool
 |o,[],n=>o==n
 |o,f::fs,n=>f.offset==o&&L.contains f.type&&ni P L (o+P.cellsOf f.type) fs n
def vj(P:Program)(L:List TypeId)(t:TypeId):Bool:=
 match P.underlying t with
 |some .bool|some (.int _)|some .string=>true
 |some (.slice e)=>L.contains e&&decide (0<P.cellsOf e)
 |some (.struct fs)=>ni P L 0 fs.toList (P.cellsOf t)
 |some (.array n e)=>L.contains e&&P.cellsOf t==n*P.cellsOf e
 |_=>false
def nj(P:Program)(L:List TypeId):Bool:=L.all (vj P L)
def pf(q:TypeId->aK->Prop):List TypeId->aK->Prop
 |[],ts=>ts=[]
 |t::vQ,ts=>∃a b,ts=a++b/\q t a/\pf q vQ b
def j6(P:Program):Nat->TypeId->aK->Prop
 |0,_,_=>False
 |n+1,t,ts=>
  match P.underlying t with
  |some .bool=>∃b,ts=[.bool b]
  |some (.int k)=>∃x,ts=[.int k x]/\(Lit.int k x).wf=true
  |some .string=>∃s,ts=[.str s]/\s.size<=maxLen
  |some (.slice e)=>∃av,ts=[.sl av]/\av.length<=maxLen/\∀r∈av,j6 P n e r
  |some (.struct fs)=>pf (j6 P n) (fs.toList.map (·.type)) ts
  |some (.array k e)=>pf (j6 P n) (List.replicate k e) ts
  |_=>False
def qz(P:Program)(n:Nat)(t:TypeId)(x:T):Prop:=
 match P.underlying t with
 |some (.struct _)|some (.array _ _)=>∃ts,x=.agg ts/\j6 P n t ts
 |_=>j6 P n t [x]
def Ct(P:Program):List TypeId->aK->Prop
 |[],xs=>xs=[]
 |t::ts,xs=>∃x lz,xs=x::lz/\(∃n,qz P n t x)/\Ct P ts lz
section
variable{P:Program}{L:List TypeId}
def vk(h:nj P L=true){t:TypeId}(ht:t∈L):vj P L t=true:=ZaU.1 h t ht
def wg:∀(fs:List Field) (o n:Nat),ni P L o fs n=true->(∀f∈fs,f.type∈L)/\n=o+(fs.map λf=>P.cellsOf f.type).sum/\∀(j:Nat) f,fs[j]? =some f->f.offset=o+((fs.take j).map λf=>P.cellsOf f.type).sum
 |[],o,n,h=>by
  simp only[ni,beq_iff_eq]at h;exact⟨λ_ h=>(by cases h),by simp[h],λj f h=>by simp at h⟩
 |f::fs,o,n,h=>by
  simp only[ni,Zam,beq_iff_eq,ZbT]at h;obtain⟨⟨h1,h2⟩,h3⟩:=h;obtain⟨k1,k2,k3⟩:=wg fs _ n h3;refine⟨λg hg=>?_, ?_,λj g hg=>?_⟩
  ·rcases Zah.1 hg with rfl|hg
   ·exact h2
   ·exact k1 g hg
  ·rw[k2];simp;omega
  ·cases j with
   |zero=>simp at hg;subst hg;simp[h1]
   |succ j=>
    have:=k3 j g (by simpa using hg);rw[this];simp;omega
def Ov(h:nj P L=true):Kids P (·∈L):=by
 refine⟨λ{t e} ht hu=>?_,λ{t e} ht hu=>?_,λ{t e n} ht hu=>?_,λ{t fs} ht hu=>?_,λ{t k e} ht hu=>?_⟩;all_goals
  have:=vk h ht;simp only[vj,hu]at this
 ·cases this
 ·simp only[Zam,ZbT]at this;exact this.1
 ·simp only[Zam,ZbT,beq_iff_eq]at this;exact this
 ·obtain⟨k1,k2,k3⟩:=wg _ _ _ this;exact⟨k1,by simpa using k2,λj f hf=>by simpa using k3 j f hf⟩
 ·cases this
def DR{H:Type}{enc:TypeId×Value->H}{w:World}{n:Nat}{sp:Nat->Bool}{held:Bool}{cs:List Value}
  (ih:∀t cs x,t∈L->DataW.trod enc P w 0 sp held n t cs=some x->∃ts,du w (λ_=>False) ts cs/\j6 P n t ts):
  ∀(fs:List Field) (o N:Nat),ni P L o fs N=true->(∀f∈fs,∃x,DataW.trod enc P w 0 sp held n f.type ((cs.drop f.offset).take (P.cellsOf f.type))=some x)->cs.length=N->
   ∃ts,du w (λ_=>False) ts (cs.drop o)/\pf (j6 P n) (fs.map (·.type)) ts
 |[],o,N,h,_,hl=>by
  simp only[ni,beq_iff_eq]at h;exact⟨[],by simp only[du];rw[Zbv (by omega)],rfl⟩
 |f::fs,o,N,h,hx,hl=>by
  simp only[ni,Zam,beq_iff_eq,ZbT]at h;obtain⟨⟨h1,h2⟩,h3⟩:=h;obtain⟨x,Ow⟩:=hx f (Zbl ..);obtain⟨a,ha,hta⟩:=ih _ _ _ h2 Ow;obtain⟨b,hb,htb⟩:=DR ih fs _ N h3 (λg hg=>hx g (Zbg _ hg)) hl;refine⟨a++b, ?_,a,b,rfl,hta,htb⟩;have:=du.append ha hb;rw[h1,<-List.drop_drop,Zbr]at this;exact this
def QI{H:Type}{enc:TypeId×Value->H}{w:World}{n:Nat}{sp:Nat->Bool}{held:Bool}{cs:List Value}{e:TypeId}(he:e∈L)
  (ih:∀t cs x,t∈L->DataW.trod enc P w 0 sp held n t cs=some x->∃ts,du w (λ_=>False) ts cs/\j6 P n t ts):
  ∀(k i:Nat),(∀j,i<=j->j<i+k->∃x,DataW.trod enc P w 0 sp held n e ((cs.drop (j*P.cellsOf e)).take (P.cellsOf e))=some x)->cs.length=(i+k)*P.cellsOf e->
   ∃ts,du w (λ_=>False) ts (cs.drop (i*P.cellsOf e))/\pf (j6 P n) (List.replicate k e) ts
 |0,i,_,hl=>by
  exact⟨[],by simp only[du];rw[Zbv (by rw[hl];simp)],rfl⟩
 |k+1,i,hx,hl=>by
  obtain⟨x,Ow⟩:=hx i (Zaf _) (by omega);obtain⟨a,ha,hta⟩:=ih _ _ _ he Ow;obtain⟨b,hb,htb⟩:=QI he ih k (i+1) (λj h1 h2=>hx j (by omega) (by omega)) (by rw[hl];congr 1;omega);refine⟨a++b, ?_,a,b,rfl,hta,htb⟩;have:=du.append ha hb;rw[show(i+1)*P.cellsOf e=i*P.cellsOf e+P.cellsOf e by rw[Nat.add_mul];omega,<-List.drop_drop,Zbr]at this;exact this
def Bz{α:Type}{q:Nat->α->Prop}:∀(n:Nat),(∀i,i<n->∃x,q i x)->∃l:List α,l.length=n/\∀i x,l[i]? =some x->q i x
 |0,_=>⟨[],rfl,λi x h=>by simp at h⟩
 |n+1,h=>by
  obtain⟨l,hl,hq⟩:=Bz n λi hi=>h i (by omega);obtain⟨x,hx⟩:=h n (by omega);refine⟨l++[x],by simp[hl],λi y hy=>?_⟩;by_cases hi:i<l.length
  ·rw[Zbc hi]at hy;exact hq i y hy
  ·rw[Za9 (by omega)]at hy;have:i=n:=by
    have:=(Zaw.1 hy).1;simp at this;omega
   subst this;simp[hl]at hy;subst hy;exact hx
def vm{w:World}{a:Addr}{n:Nat}{cs:List Value}(h:w.cells? 0 a n=some cs):cs.length=n/\∀j v,cs[j]? =some v->w.cell? (a.add j)=some v:=by
 simp only[World.cells?,ZbB,if_true]at h;refine⟨by simpa using mapM_some_length h,λj v hj=>?_⟩;have ln:j<n:=by
  have:=(Zaw.1 hj).1;have h2:=mapM_some_length h;simp at h2;omega
 have:=mapM_some_get h j j (by simp[ln]);rw[hj]at this;simpa using this.symm
where
 mapM_some_length {α β:Type} {f:α->Option β} {l:List α} {r:List β} (h:l.mapM f=some r):r.length=l.length:=by
  induction l generalizing r with
  |nil=>simp at h;simp[h]
  |cons x l ih=>
   simp only[Za7,Zao,Zaj,Zad,Zaa]at h;obtain⟨y,_,ys,pM,rfl⟩:=h;simp[ih pM]
 mapM_some_get {α β:Type} {f:α->Option β} {l:List α} {r:List β} (h:l.mapM f=some r) (i:Nat) (x:α) (hx:l[i]? =some x):r[i]? =f x:=by
  induction l generalizing r i with
  |nil=>simp at hx
  |cons y l ih=>
   simp only[Za7,Zao,Zaj,Zad,Zaa]at h;obtain⟨z,hz,ys,pM,rfl⟩:=h;cases i with
   |zero=>simp at hx;subst hx;simp[hz]
   |succ i=>simpa using ih pM i (by simpa using hx)
def QJ{w:World}{a:Addr}{v:Value}(h:w.cell? a=some v):a.block<w.heap.size/\a.spot=none:=by
 unfold World.cell? at h;split at h
 ·rename_i c e f hb;split at h
  ·cases h
  ·rename_i hs;exact⟨(Zap.1 hb).1,by simpa using hs⟩
 ·cases h
def add_zero(a:Addr):a.add 0=a:=by simp[Addr.add]
def KM(b o k:Nat):(⟨b,o,none⟩:Addr).add k=⟨b,o+k,none⟩:=by
 unfold Addr.add;by_cases h:k=0<;>simp[h]
def Yq{H:Type}{enc:TypeId×Value->H}{w:World}(hL:nj P L=true):∀(n:Nat) (t:TypeId) (cs:List Value) (x:DataW H×List MemPlace),t∈L->
  DataW.trod enc P w 0 sp held n t cs=some x->∃ts,du w (λ_=>False) ts cs/\j6 P n t ts:=by
 intro n;induction n with
 |zero=>intro t cs x _ h;simp[DataW.trod]at h
 |succ n ih=>
  intro t cs x ht h;have hp:=vk hL ht;have one:∀{y:T} {v:Value},v.oneCell'=true->bj w (λ_=>False) y v->du w (λ_=>False) [y] [v]:=λh1 h2=>by simp only[du];exact⟨_,_,rfl,h1,h2,rfl⟩
  unfold vj at hp;split at hp
  ·rename_i hu;obtain⟨b,rfl,rfl⟩:∃b,cs=[.bool b]/\x=(.lit (.bool b),[]):=by
    unfold DataW.trod at h;rw[hu]at h;split at h<;>simp_all
   exact⟨[.bool b],one rfl (by simp[bj]),by simp[j6,hu]⟩
  ·rename_i k hu;obtain⟨m,rfl,rfl,hw⟩:=DataW.trod_int hu h;exact⟨[.int k m],one rfl (by simp[bj]),by simp[j6,hu,hw]⟩
  ·rename_i hu;obtain⟨s,rfl,rfl,hs⟩:=DataW.trod_string hu h;exact⟨[.str s],one rfl (by simp[bj]),by simp[j6,hu,hs]⟩
  ·rename_i e hu;simp only[Zam,ZbT,Zau]at hp;obtain⟨he,Gc⟩:=hp;rcases DataW.trod_slice hu h with⟨rfl,rfl⟩|⟨a,len,cap,elems,rest,m,hm,rfl,rfl,_,hlc,sc,hel,mF,_,_⟩
   ·exact⟨[.sl []],one rfl (by simp[bj]),by simp[j6,hu]⟩
   ·obtain rfl:n=m:=by omega
    have wp:∀i,i<len->∃r:aK,(∃iz,w.cells? 0 (a.add (i*P.cellsOf e)) (P.cellsOf e)=some iz/\du w (λ_=>False) r iz)/\j6 P n e r:=by
     intro i hi;have h1:=mF i hi;have h2:∃y,elems[i]? =some y:=⟨elems[i],Zas (by omega)⟩;obtain⟨y,hy⟩:=h2;rw[hy]at h1;obtain⟨iz,h3,h4⟩:=Zad.1 h1;obtain⟨ts,h5,h6⟩:=ih e iz y he h4;exact⟨ts,⟨iz,h3,h5⟩,h6⟩
    obtain⟨av,dM,hq⟩:=Bz len wp;refine⟨[.sl av], ?_, ?_⟩
    ·simp only[du];refine⟨_,[],rfl,rfl, ?_,rfl⟩;simp only[bj];cases av with
     |nil=>
      simp at dM;subst dM;exact .inl ⟨rfl,_,_,rfl⟩
     |cons r0 av=>
      right;obtain⟨⟨cs0,h3,h4⟩,_⟩:=hq 0 r0 rfl;obtain⟨h5,h6⟩:=vm h3;have Xa:∃v,cs0[0]? =some v:=⟨cs0[0],Zas (by omega)⟩;obtain⟨v0,hv0⟩:=Xa;have h60:=h6 0 v0 hv0;simp only[ZcK,add_zero]at h60;obtain⟨hb,hs⟩:=QJ h60;obtain⟨b,o,sp'⟩:=a;simp only at hb hs;subst hs;have dP:∀i r,(r0::av)[i]? =some r->r.length=P.cellsOf e/\ed w (λ_=>False) b (o+i*P.cellsOf e) r:=by
       intro i r hr;obtain⟨⟨iz,h3,h4⟩,_⟩:=hq i r hr;obtain⟨h5,h6⟩:=vm h3;refine⟨by rw[<-du.length h4,h5],ed.sa h4 λj v hj=>?_⟩;have h7:=h6 j v hj;rw[KM,KM]at h7;exact h7
      exact⟨b,o,cap,P.cellsOf e,by rw[dM],hb,λh=>h,by omega,bw.Ck _ _ dP⟩
    ·simp only[j6,hu];refine⟨av,rfl,by omega,λr hr=>?_⟩;obtain⟨i,hi⟩:=ZbY hr;exact(hq i r hi).2
  ·rename_i fs hu;obtain⟨xs,m,hm,rfl,hl,Gb,hf⟩:=DataW.trod_struct hu h;obtain rfl:n=m:=by omega
   obtain⟨ts,h1,h2⟩:=DR (cs:=cs) ih fs.toList 0 _ hp (λf hfm=>by
    obtain⟨i,hi⟩:=ZbY hfm;have pW:fs[i]? =some f:=by simpa using hi
    have:=hf i f pW;have ln:i<xs.length:=by rw[Gb];exact(Zap.1 pW).1
    rw[Zas ln]at this;exact⟨_,this⟩) hl
   exact⟨ts,by simpa using h1,by simpa [j6,hu]using h2⟩
  ·rename_i k e hu;simp only[Zam,ZbT,beq_iff_eq]at hp;have key:cs.length=P.cellsOf t/\∀i,i<k->∃y,DataW.trod enc P w 0 sp held n e ((cs.drop (i*P.cellsOf e)).take (P.cellsOf e))=some y:=by
    unfold DataW.trod at h;rw[hu]at h;split at h<;>simp_all
    obtain⟨hl,xs,z7,_⟩:=h;intro i hi;have:=vm.mapM_some_get z7 i i (by simp[hi]);have ln:i<xs.length:=by rw[vm.mapM_some_length z7];simp[hi]
    rw[Zas ln]at this;exact⟨_,_,this.symm⟩
   obtain⟨ts,h1,h2⟩:=QI (cs:=cs) hp.1 ih k 0 (λj _ hj=>key.2 j (by omega)) (by rw[key.1,hp.2];simp);exact⟨ts,by simpa using h1,by simpa [j6,hu]using h2⟩
  ·cases hp
def arg_rel{H:Type}{enc:TypeId×Value->H}{w:World}(hL:nj P L=true){t:TypeId}(ht:t∈L){v:Value}(hv:Value.okWide P w .any base t v){d:DataW H}{ps:List MemPlace}
  (h:DataW.Trod enc P w 0 sp held t v d ps):∃x,bj w (λ_=>False) x v/\∃n,qz P n t x:=by
 obtain⟨n,h⟩:=h;obtain⟨ts,h1,h2⟩:=Yq hL n t _ _ ht h;have hp:=vk hL ht;have If:(∀cs,v≠ .agg cs)->∃x,ts=[x]/\bj w (λ_=>False) x v:=by
  intro bT;have hc:v.cells.toList=[v]:=by cases v<;>first|rfl|exact Zar rfl (bT _)
  rw[hc]at h1;cases ts with
  |nil=>simp only[du]at h1;cases h1
  |cons x xs=>
   simp only[du]at h1;obtain⟨_,_,e,_,hr,mt⟩:=h1;simp only[Za1]at e;obtain⟨rfl,rfl⟩:=e;have:=du.length mt;simp at this;have e:xs=[]:=ZaD this.symm;exact⟨x,by rw[e],hr⟩
 have agg:(∃cs,v=.agg cs)->∃x,x=T.agg ts/\bj w (λ_=>False) x v:=by
  rintro⟨cs,rfl⟩;exact⟨_,rfl,by simp only[bj];exact⟨cs,rfl,by simpa [Value.cells]using h1⟩⟩
 unfold vj at hp;split at hp
 ·rename_i hu;obtain⟨b,rfl⟩:=okWide_bool hu hv;obtain⟨x,rfl,hr⟩:=If (λ_ h=>by cases h);exact⟨x,hr,n,by simp only[qz,hu];exact h2⟩
 ·rename_i k hu;obtain⟨b,rfl⟩:=okWide_int hu hv;obtain⟨x,rfl,hr⟩:=If (λ_ h=>by cases h);exact⟨x,hr,n,by simp only[qz,hu];exact h2⟩
 ·rename_i hu;obtain⟨b,rfl⟩:=okWide_string hu hv;obtain⟨x,rfl,hr⟩:=If (λ_ h=>by cases h);exact⟨x,hr,n,by simp only[qz,hu];exact h2⟩
 ·rename_i e hu;obtain⟨a,l,c,rfl⟩:=okWide_slice hu hv;obtain⟨x,rfl,hr⟩:=If (λ_ h=>by cases h);exact⟨x,hr,n,by simp only[qz,hu];exact h2⟩
 ·rename_i fs hu;obtain⟨cs,rfl,_⟩:=okWide_struct hu hv;obtain⟨x,rfl,hr⟩:=agg ⟨_,rfl⟩;exact⟨_,hr,n,by simp only[qz,hu];exact⟨_,rfl,h2⟩⟩
 ·rename_i k e hu;have:∃cs,v=.agg cs:=by
   simp only[Value.okWide,hu]at hv;cases v<;>simp_all
  obtain⟨cs,rfl⟩:=this;obtain⟨x,rfl,hr⟩:=agg ⟨_,rfl⟩;exact⟨_,hr,n,by simp only[qz,hu];exact⟨_,rfl,h2⟩⟩
 ·cases hp
def KO{H:Type}{enc:TypeId×Value->H}{w:World}{sp:Nat->Bool}{held:Bool}(hL:nj P L=true){base:Nat}:∀{vQ:List TypeId} {vs:List Value} {ds:List (DataW H)} {ps:List MemPlace},(∀t∈vQ,t∈L)->
  (∀(j:Nat) t v,vQ[j]? =some t->vs[j]? =some v->Value.okWide P w .any base t v)->DataW.TrodAll enc P w 0 sp held vQ vs ds ps->∃xs,fN w (λ_=>False) xs vs/\Ct P vQ xs
 |[],vs,ds,ps,_,_,h=>by
  obtain⟨rfl,rfl,rfl⟩:=trodAll_nil h;exact⟨[],by simp[fN],rfl⟩
 |t::vQ,vs,ds,ps,ht,hv,h=>by
  obtain⟨v,vs1,d,ds1,a,b,rfl,rfl,rfl,h1,h2⟩:=trodAll_cons h;obtain⟨x,k1,k2⟩:=arg_rel hL (ht t (Zbl ..)) (hv 0 t v rfl rfl) h1;obtain⟨xs,k3,k4⟩:=KO hL (λu hu=>ht u (Zbg _ hu)) (λj u y h1 h2=>hv (j+1) u y (by simpa using h1) (by simpa using h2)) h2;exact⟨x::xs,by simp only[fN];exact⟨v,vs1,rfl,k1,k3⟩,x,xs,rfl,k2,k4⟩
def DS{H:Type}{enc:TypeId×Value->H}{w w':World}{sp':Nat->Bool}{held:Bool}(hL:nj P L=true)(hheld:held=true):∀{vQ:List TypeId} {vs:List Value} {ds:List (DataW H)} {ps:List MemPlace},(∀t∈vQ,t∈L)->
  DataW.TrodAll enc P w 0 (λ_=>true) held vQ vs ds ps->(∀p∈ps,w.sameAt w' p)->(∀p∈ps,sp' p.block=true)->DataW.TrodAll enc P w' 0 sp' held vQ vs ds ps
 |[],vs,ds,ps,_,h,_,_=>by
  obtain⟨rfl,rfl,rfl⟩:=trodAll_nil h;exact trodAll_mk0
 |t::vQ,vs,ds,ps,ht,h,h1,h2=>by
  obtain⟨v,vs1,d,ds1,a,b,rfl,rfl,rfl,⟨n,k1⟩,k2⟩:=trodAll_cons h;refine trodAll_cons_mk ⟨n,DataW.trod_stays (Ov hL) (λ{t e} ht hu=>?_) (λh=>by rw[hheld]at h;cases h) (ht t (Zbl ..)) k1 (λp hp=>h1 p (List.mem_append_left _ hp)) (λp hp=>h2 p (List.mem_append_left _ hp))⟩
   (DS hL hheld (λu hu=>ht u (Zbg _ hu)) k2 (λp hp=>h1 p (Zb3 _ hp)) (λp hp=>h2 p (Zb3 _ hp)))
  have:=vk hL ht;simp only[vj,hu,Zam,Zau]at this;exact this.2
def KP{H:Type}{enc:TypeId×Value->H}{w:World}{b:Nat}{sp:Nat->Bool}{held:Bool}:∀{vQ:List TypeId} {vs:List Value} {ds:List (DataW H)} {ps:List MemPlace},DataW.TrodAll enc P w b sp held vQ vs ds ps->ds.length=vQ.length
 |[],vs,ds,ps,h=>by
  obtain⟨rfl,rfl,rfl⟩:=trodAll_nil h;rfl
 |t::vQ,vs,ds,ps,h=>by
  obtain⟨v,vs1,d,ds1,a,b,rfl,rfl,rfl,h1,h2⟩:=trodAll_cons h;simp[KP h2]
def Ig{H:Type}{enc:TypeId×Value->H}{W:World}{args:Array Value}{ds gs:List (DataW H)}{im:List MemPlace}{f:FuncId}{fn:Func}{s:ChangeSpec}{tb:TypeId}{apart fresh handsOn again:Bool}
  (hL:nj P L=true) (ym:∀t∈fn.params.toList,t∈L) (VN:fn.resultTypes= #[tb]) (hb:P.underlying tb=some .bool) (hvars:s.vars=[]) (dn:∀ds:List (DataW H),ds.length=fn.params.size->s.fn H ds={results:=[.lit (.bool true)],args:=ds})
  (sh:∀xs,Ct P fn.params.toList xs->bl P f xs (.bool true))
  (c7:∀(j:Nat) t v,fn.params[j]? =some t->args[j]? =some v->Value.okWide P W .any base t v)
  (hW:DataW.Whole enc P fn.params.toList s.vars apart W args.toList ds gs im) (hg:F2 W λ_=>False):
  Calls P f args W λe W'=>∃v,e=.returned v/\s.post enc P fn apart fresh handsOn again W args v W':=by
 have hW':=hW;obtain⟨p,q,hA,hV,rfl,hfz,yd⟩:=hW;rw[hvars]at hV;obtain⟨rfl,rfl⟩:=trodVars_none hV;obtain⟨xs,hr,hx⟩:=KO hL ym (λj t v h1 h2=>c7 j t v (by simpa using h1) (by simpa using h2)) hA;have dM:ds.length=fn.params.size:=by
  have:=KP hA;simpa using this
 refine((sh xs hx).calls hg hr).mono ?_;rintro e w' ⟨v,rfl,Ox,hv⟩;simp only[bj]at hv;subst hv;have ln:=hW'.lt;have x9:∀sp:Nat->Bool,(∀x∈p,sp x.block=true)->DataW.TrodAll enc P w' 0 sp true fn.params.toList args.toList ds p:=λsp P2=>
  DS hL rfl ym hA (λx hx=>Ox.same (ln x (by simpa using hx))) P2
 have mt:∀(b:Nat) (sp:Nat->Bool) (hd:Bool),DataW.TrodAll enc P w' b sp hd fn.resultTypes.toList ((Value.bool true).resultList fn.resultTypes.size) [.lit (.bool true)] []:=λb sp hd=>by
  rw[VN];exact trodAll_cons_mk (shut_bool hb _) trodAll_mk0
 have he:s.fn H (ds++[])={results:=[.lit (.bool true)],args:=ds}:=by rw[ZaC];exact dn ds dM
 have hv0:∀sp:Nat->Bool,DataW.TrodVars enc P w' sp s.vars [] []:=λsp=>by rw[hvars];rfl
 have hev:(s.fn H (ds++[])).vars=[]:=by rw[he]
 refine⟨_,rfl,ds,[],p++[],[],p,[],hW',by rw[he];exact mt _ _ _,by rw[he];exact x9 _ (λx hx=>by simpa using ln x (by simpa using hx)),by rw[hev];exact hv0 _,Ox.frame _,λ_=>?_⟩;refine⟨ok_one VN rfl (okWide_bool_mk hb _),_,_,([]++p)++[],⟨[]++p,[],trodAll_append (x9 _ (λ_ _=>rfl)) (mt _ _ _),hv0 _,rfl, ?_, ?_⟩, ?_⟩
 ·intro b off hp;rw[Ox.frozen (ln _ (by simpa using hp))];exact hfz b off (by simpa using hp)
 ·intro ha;simpa using yd ha
 ·intro x hx _;simpa using hx
end
inductive Ty where
 |bool|int (k:IntKind)|str
 |slice (e:Ty)
 |seq (fs:List Ty)
mutual
def Ty.pO:Ty->aK->Prop
 |.bool,ts=>∃b,ts=[.bool b]
 |.int k,ts=>∃x,ts=[.int k x]/\(Lit.int k x).wf=true
 |.str,ts=>∃s,ts=[.str s]/\s.size<=maxLen
 |.slice e,ts=>∃av,ts=[.sl av]/\av.length<=maxLen/\∀r∈av,e.pO r
 |.seq fs,ts=>Ty.kL fs ts
def Ty.kL:List Ty->aK->Prop
 |[],ts=>ts=[]
 |t::vQ,ts=>∃a b,ts=a++b/\t.pO a/\Ty.kL vQ b
end
def Ty.arg:Ty->T->Prop
 |.seq fs,x=>∃ts,x=.agg ts/\Ty.kL fs ts
 |ty,x=>ty.pO [x]
def Ty.args:List Ty->aK->Prop
 |[],xs=>xs=[]
 |t::vQ,xs=>∃x lz,xs=x::lz/\t.arg x/\Ty.args vQ lz
def sv(P:Program):Nat->TypeId->Option Ty
 |0,_=>none
 |n+1,t=>
  match P.underlying t with
  |some .bool=>some .bool
  |some (.int k)=>some (.int k)
  |some .string=>some .str
  |some (.slice e)=>(sv P n e).map .slice
  |some (.struct fs)=>(yn (sv P n) (fs.toList.map (·.type))).map .seq
  |some (.array k e)=>(sv P n e).map λx=>.seq (List.replicate k x)
  |_=>none
where
 yn (q:TypeId->Option Ty):List TypeId->Option (List Ty)
 |[]=>some []
 |t::ts=>match q t,yn q ts with
  |some x,some xs=>some (x::xs)
  |_,_=>none
section
variable{P:Program}
def Ak:∀(m n:Nat) (t:TypeId) (ty:Ty) (ts:aK),sv P m t=some ty->j6 P n t ts->ty.pO ts:=by
 intro m;induction m with
 |zero=>intro n t ty ts h;simp[sv]at h
 |succ m ih=>
  intro n t ty ts h hs;cases n with
  |zero=>exact hs.elim
  |succ n=>
   unfold sv at h;unfold j6 at hs;split at h
   ·rename_i hu;rw[hu]at hs;cases h;simpa [Ty.pO]using hs
   ·rename_i hu;rw[hu]at hs;cases h;simpa [Ty.pO]using hs
   ·rename_i hu;rw[hu]at hs;cases h;simpa [Ty.pO]using hs
   ·rename_i e hu;rw[hu]at hs;obtain⟨x,hx,rfl⟩:=Zac.1 h;obtain⟨av,rfl,h1,h2⟩:=hs;simp only[Ty.pO];exact⟨av,rfl,h1,λr hr=>ih n e x r hx (h2 r hr)⟩
   ·rename_i fs hu;rw[hu]at hs;obtain⟨x,hx,rfl⟩:=Zac.1 h;simp only[Ty.pO];have key:∀(vQ:List TypeId) (xs:List Ty) (ts:aK),sv.yn (sv P m) vQ=some xs->pf (j6 P n) vQ ts->Ty.kL xs ts:=by
     intro vQ;induction vQ with
     |nil=>intro xs ts h hs;simp only[sv.yn,Zaa]at h;subst h;simpa [Ty.kL,pf]using hs
     |cons u vQ ih2=>
      intro xs ts h hs;simp only[sv.yn]at h;split at h
      ·rename_i y ys hy pM;cases h;simp only[pf]at hs;obtain⟨a,b,rfl,h1,h2⟩:=hs;simp only[Ty.kL];exact⟨a,b,rfl,ih n u y a hy h1,ih2 ys b pM h2⟩
      ·cases h
    exact key _ _ _ hx hs
   ·rename_i k e hu;rw[hu]at hs;obtain⟨x,hx,rfl⟩:=Zac.1 h;simp only[Ty.pO];have key:∀(k:Nat) (ts:aK),pf (j6 P n) (List.replicate k e) ts->Ty.kL (List.replicate k x) ts:=by
     intro k;induction k with
     |zero=>intro ts hs;simpa [Ty.kL,pf]using hs
     |succ k ih2=>
      intro ts hs;simp only[ZaY,pf]at hs;obtain⟨a,b,rfl,h1,h2⟩:=hs;simp only[ZaY,Ty.kL];exact⟨a,b,rfl,ih n e x a hx h1,ih2 b h2⟩
    exact key k ts hs
   ·cases h
def arg_of{m n:Nat}{t:TypeId}{ty:Ty}{x:T}(h:sv P m t=some ty)(hs:qz P n t x):ty.arg x:=by
 cases m with
 |zero=>simp[sv]at h
 |succ m=>
  have h0:=h;unfold sv at h;unfold qz at hs;split at h
  ·rename_i hu;rw[hu]at hs;cases h;exact Ak _ _ _ _ _ h0 hs
  ·rename_i hu;rw[hu]at hs;cases h;exact Ak _ _ _ _ _ h0 hs
  ·rename_i hu;rw[hu]at hs;cases h;exact Ak _ _ _ _ _ h0 hs
  ·rename_i e hu;rw[hu]at hs;obtain⟨y,hy,rfl⟩:=Zac.1 h;exact Ak _ _ _ _ _ h0 hs
  ·rename_i fs hu;rw[hu]at hs;obtain⟨y,hy,rfl⟩:=Zac.1 h;obtain⟨ts,rfl,h2⟩:=hs;have:=Ak _ _ _ _ _ h0 h2;simp only[Ty.pO]at this;exact⟨ts,rfl,this⟩
  ·rename_i k e hu;rw[hu]at hs;obtain⟨y,hy,rfl⟩:=Zac.1 h;obtain⟨ts,rfl,h2⟩:=hs;have:=Ak _ _ _ _ _ h0 h2;simp only[Ty.pO]at this;exact⟨ts,rfl,this⟩
  ·cases h
def QK{m:Nat}:∀{vQ:List TypeId} {l:List Ty} {xs:aK},sv.yn (sv P m) vQ=some l->Ct P vQ xs->Ty.args l xs
 |[],l,xs,h,hs=>by simp only[sv.yn,Zaa]at h;subst h;exact hs
 |t::vQ,l,xs,h,hs=>by
  simp only[sv.yn]at h;split at h
  ·rename_i y ys hy pM;cases h;obtain⟨x,lz,rfl,⟨n,h1⟩,h2⟩:=hs;exact⟨x,lz,rfl,arg_of hy h1,QK pM h2⟩
  ·cases h
end
end
end Go.DM
namespace Go.Proofs
open Go.DM
noncomputable abbrev aj:=Tryz.prog
instance seatLaid:bI:=⟨[(0,[.int .i64 (1099511627776),.int .i64 (0),.int .i64 (-1),.int .i64 (0)])]⟩
def d12r0:ai:=[
 B 0 1,
 o (.alloc [V 0,.aW,.aW]) 2 []]
def d12r1:ai:=[
 L 3 1 11 [],
 o (.mkMap [(.int .i64),(.int .i64),(.int .i64)] true) 12 [],
 o (.build [.aW,.aW,V 0,(.v (.mg (Go.Value.map Option.none)))] [(0,3,(t 11)),(3,1,(t 12))]) 13 [0,1],
 o (.box (t 13)) 14 [2],
 m 14 3 [3,0,1,2,3]]
def d12r2:ai:=[
 a 0 1 15 [],
 l 15 16 [0],
 N 16 17 [1],
 m 17 4 [2,0,1,2]]
def Pi:ai:=[
 n 4 18,
 o (.bin .mul (i 2) (t 18)) 19 [0],
 C .add 19 1 20 [1],
 o (.bslice 1 1 [V 0] [(0,1,(i 1099511627776))]) 21 [],
 n 4 22,
 o (.bin .mul (i 2) (t 22)) 23 [4],
 C .add 23 1 24 [5],
 o (.callF 46 [(t 21),(t 24)]) 25 [3,6],
 o (.build [V 0,.aW,.aW] [(0,1,(t 20)),(2,1,(t 25))]) 26 [2,7],
 o (.alloc [V 0,.aW,.aW]) 5 [],
 S 3 5 26 (k [9,8,7] 9)]
def d12r3:ai:=Pi.map bare
def d12r4:ai:=[
 n 4 27,
 C .add 27 1 28 [0],
 I 0 29]
def d12r5:ai:=[
 b .lss 29 28 30 []]
def d12r6:ai:=[
 n 29 31,
 m 31 6 [0,0]]
def Pj:ai:=[
 n 3 32,
 n 6 33,
 o (.callS 47 [(t 32),(t 33)]) 34 [0,1]]
def d12r7:ai:=Pj.map bare
def d12r8:ai:=[
 a 2 5 36 [],
 l 36 37 [0],
 n 6 38,
 o (.bin .mul (i 2) (t 38)) 39 [2],
 n 3 40,
 n 6 41,
 n 4 42,
 o (.call 48 [(t 40),(t 41),(t 42)]) 43 [4,5,6],
 m 43 35 [7],
 e 0 35 44 [8],
 e 1 35 45 [8],
 x 1 37 39 46 (k [1,3] 9),
 S 1 46 44 (k [11,9,7] 9)]
def d12r9:ai:=[
 C .add 29 1 47 [],
 m 47 29 [0]]
def d12r10:ai:=[
 Z 7]
def d12r11:ai:=[
 n 3 48,
 c 48 49 [0],
 a 3 49 50 [1],
 l 50 51 [2],
 o (.rangeM (t 51)) 52 [3]]
def d12r12:ai:=[
 o (.entryM (t 52)) 55 [],
 e 0 55 56 [0],
 o (.alloc [V 0,V 0,V 0]) 8 [],
 S 3 8 56 [2,1,0,1,2]]
def d12r13:ai:=[
 n 7 57,
 L 3 8 58 [],
 o (.bslice 1 3 [V 0,V 0,V 0] [(0,3,(t 58))]) 59 [1],
 o (.append 104 3 24 (t 57) (t 59)) 60 [0,2],
 m 60 7 [3,3,0,1,2,3]]
def Jl:ai:=[
 n 7 61,
 o (.callS 49 [(t 61),(.gN (.v (.fn (.func 50) [])))]) 62 [0]]
def d12r14:ai:=Jl.map bare
def d12r15:ai:=[
 n 7 63,
 N 63 64 [0],
 I 0 65]
def d12r16:ai:=[
 b .lss 65 64 66 []]
def d12r17:ai:=[
 x 3 63 65 67 [],
 L 3 67 68 [0],
 o (.alloc [V 0,V 0,V 0]) 10 [],
 S 3 10 68 [2,1,0,1,2]]
def d12r18:ai:=[
 a 1 5 69 [],
 l 69 70 [0],
 n 3 71,
 c 71 72 [2],
 a 3 72 73 [3],
 l 73 74 [4],
 L 3 10 75 [],
 o (.lookup [(.int .i64),(.int .i64),(.int .i64)] true (.agg [(.v (.int .i64 0)),(.v (.int .i64 0)),(.v (.int .i64 0)),(.v (.int .i64 0)),.aW]) false (t 74) (t 75)) 76 [5,6],
 o (.bslice 1 5 [V 0,V 0,V 0,V 0,.aW] [(0,5,(t 76))]) 77 [7],
 o (.append 108 5 56 (t 70) (t 77)) 78 [1,8],
 a 1 5 79 (k [] 9),
 S 1 79 78 (k [10,9,9] 9)]
def d12r19:ai:=[
 C .add 65 1 80 [],
 m 80 65 [0]]
def d12r20:ai:=[
 L 3 5 81 [],
 S 3 2 81 [0,0]]
def d12:DC:=(j (y d12r0) (j (y d12r1) (j (y d12r2) (j (y d12r3) (j (j (y d12r4) (.block 0 (.loop (j (y d12r5) (j (.cond (.tmp 30) .skip (.exit 0)) (j (.block 1 (j (y d12r6) (j (y d12r7) (Y d12r8)))) (y d12r9))))))) (j (y d12r10) (j (j (y d12r11) (.block 2 (.loop (j (.QE (.tmp 52) 53 54) (j (.cond (.tmp 54) .skip (.exit 2)) (.block 3 (j (y d12r12) (y d12r13)))))))) (j (y d12r14) (j (j (y d12r15) (.block 4 (.loop (j (y d12r16) (j (.cond (.tmp 66) .skip (.exit 4)) (j (.block 5 (j (y d12r17) (Y d12r18))) (y d12r19))))))) (j (y d12r20) .ret))))))))))
def d12res:List bV:=[.cell 2 3 true]
def c12 [bI]:aB aj 29 82 d12 d12res:=aB.of Tryz.f29 (by kernel_rfl)
def d30r0:ai:=[
 n 0 12,
 c 12 13 [0],
 a 0 13 14 [1],
 a 0 14 15 [2],
 l 15 16 [3],
 N 16 17 [4],
 m 17 4 (k [5] 5)]
def d30r1:ai:=[
 n 1 18,
 m 18 5 [0,0]]
def d30r2:ai:=[
 n 5 19,
 n 4 20,
 b .leq 19 20 21 [0,1]]
def Pk:ai:=[
 n 0 25,
 n 1 26,
 n 5 27,
 o (.callS 48 [(t 25),(t 26),(t 27)]) 28 [0,1,2],
 m 28 24 [3],
 e 0 24 29 [4],
 e 1 24 30 [4],
 m 29 6 (k [5,3] 5),
 m 30 7 (k [6,7] 7)]
def d30r3:ai:=Pk.map bare
def d30r4:ai:=[
 n 5 31,
 n 1 32,
 b .gtr 31 32 33 [0,1]]
def Pm:ai:=[
 n 0 35,
 n 1 36,
 n 5 37,
 C .sub 37 1 38 [2],
 o (.callS 48 [(t 35),(t 36),(t 38)]) 39 [0,1,3],
 m 39 34 [4],
 e 0 34 40 [5],
 e 1 34 41 [5],
 m 40 8 (k [6,4] 6),
 m 41 9 (k [7,8] 8)]
def d30r5:ai:=Pm.map bare
def Pn:ai:=[
 n 0 42,
 n 1 43,
 n 5 44,
 C .sub 44 1 45 [2],
 n 8 46,
 n 9 47,
 o (.callS 74 [(t 42),(t 43),(t 45),(t 46),(t 47)]) 48 [0,1,3,4,5]]
def d30r6:ai:=Pn.map bare
def d30r7:ai:=[
 n 0 49,
 c 49 50 [0],
 a 0 50 51 [1],
 a 1 51 52 [2],
 l 52 53 [3],
 N 53 54 [4],
 I 0 55]
def d30r8:ai:=[
 b .lss 55 54 56 []]
def d30r9:ai:=[
 n 55 57,
 x 1 53 55 58 [],
 l 58 59 [1],
 m 57 10 [0,0,1,2],
 m 59 11 [2,3,0,1,2,3]]
def Jm:ai:=[
 n 0 60,
 n 1 61,
 o (.bin .mul (i 2) (t 61)) 62 [1],
 n 5 63,
 o (.bin .mul (i 2) (t 63)) 64 [3],
 n 10 65,
 n 6 66,
 n 11 67,
 b .add 66 67 68 [6,7],
 n 7 69,
 o (.callF 76 [(t 69)]) 70 [9],
 n 10 71,
 o (.build [V 0,V 0] [(0,1,(i 3)),(1,1,(t 71))]) 72 [11],
 o (.bslice 1 2 [V 0,V 0] [(0,2,(t 72))]) 73 [12],
 o (.append 117 2 16 (t 70) (t 73)) 74 [10,13,10],
 o (.build [V 0,V 0,V 0,V 0,.aW] [(0,1,(t 62)),(1,1,(t 64)),(2,1,(t 65)),(3,1,(t 68)),(4,1,(t 74))]) 75 [2,4,5,8,14],
 o (.callS 75 [(t 60),(t 75)]) 76 [0,15,14]]
def d30r10:ai:=Jm.map bare
def d30r11:ai:=[
 C .add 55 1 77 [],
 m 77 55 [0]]
def Jn:ai:=[
 n 0 78,
 n 5 79,
 o (.callS 77 [(t 78),(t 79)]) 80 [0,1]]
def d30r12:ai:=Jn.map bare
def Jo:ai:=[
 n 0 81,
 n 1 82,
 o (.bin .mul (i 2) (t 82)) 83 [1],
 n 5 84,
 o (.bin .mul (i 2) (t 84)) 85 [3],
 C .add 85 1 86 [4],
 n 0 87,
 c 87 88 [6],
 a 0 88 89 [7],
 a 0 89 90 [8],
 l 90 91 [9],
 n 5 92,
 C .add 92 1 93 [11],
 x 3 91 93 94 [10,12],
 a 0 94 95 [13],
 l 95 96 [14],
 n 6 97,
 n 0 98,
 c 98 99 [17],
 a 0 99 100 [18],
 a 2 100 101 [19],
 l 101 102 [20],
 b .add 97 102 103 [16,21],
 n 7 104,
 o (.callF 76 [(t 104)]) 105 [23],
 o (.build [V 0,V 0] [(0,1,(i 4))]) 106 [],
 o (.bslice 1 2 [V 0,V 0] [(0,2,(t 106))]) 107 [25],
 o (.append 117 2 16 (t 105) (t 107)) 108 [24,26,24],
 o (.build [V 0,V 0,V 0,V 0,.aW] [(0,1,(t 83)),(1,1,(t 86)),(2,1,(t 96)),(3,1,(t 103)),(4,1,(t 108))]) 109 [2,5,15,22,27],
 o (.callS 75 [(t 81),(t 109)]) 110 [0,28,27]]
def d30r13:ai:=Jo.map bare
def d30r14:ai:=[
 n 5 22,
 C .add 22 1 23 [0],
 m 23 5 [1,0,1]]
def Jp:ai:=[
 n 0 111,
 n 1 112,
 o (.callS 77 [(t 111),(t 112)]) 113 [0,1]]
def d30r15:ai:=Jp.map bare
def Jq:ai:=[
 n 0 114,
 n 1 115,
 o (.bin .mul (i 2) (t 115)) 116 [1],
 C .add 116 1 117 [2],
 n 1 118,
 o (.bin .mul (i 2) (t 118)) 119 [4],
 C .add 119 4 120 [5],
 n 0 121,
 c 121 122 [7],
 a 0 122 123 [8],
 a 0 123 124 [9],
 l 124 125 [10],
 n 1 126,
 x 3 125 126 127 [11,12],
 a 0 127 128 [13],
 l 128 129 [14],
 o (.build [V 0,V 0,V 0,V 0,.aW] [(0,1,(t 117)),(1,1,(t 120)),(2,1,(t 129))]) 130 [3,6,15],
 o (.callS 75 [(t 114),(t 130)]) 131 [0,16]]
def d30r16:ai:=Jq.map bare
def d30:DC:=(j (y d30r0) (j (j (y d30r1) (.block 0 (.loop (j (j (y d30r2) (.cond (.tmp 21) .skip (.exit 0))) (j (.block 1 (j (y d30r3) (j (j (y d30r4) (.cond (.tmp 33) (j (y d30r5) (y d30r6)) .skip)) (j (j (y d30r7) (.block 2 (.loop (j (y d30r8) (j (.cond (.tmp 56) .skip (.exit 2)) (j (.block 3 (j (y d30r9) (y d30r10))) (y d30r11))))))) (j (y d30r12) (.cond (.tmp 80) (.jr d30r13) .skip)))))) (y d30r14)))))) (j (y d30r15) (.cond (.tmp 113) (y d30r16) .skip))))
def d30res:List bV:=[]
def c30 [bI]:aB aj 47 132 d30 d30res:=aB.of Tryz.f47 (by kernel_rfl)
def d31r0:ai:=[
 I 0 6,
 o (.qu (.gN .aW)) 7 [0]]
def d31r1:ai:=[
 I 0 8]
def d31r2:ai:=[
 Z 9]
def d31r3:ai:=[
 n 0 12,
 c 12 13 [0],
 a 0 13 14 [1],
 a 0 14 15 [2],
 l 15 16 [3],
 n 1 17,
 n 2 18,
 o (.slice 3 (t 16) (some (t 17)) (some (t 18))) 19 [4,5,6],
 N 19 20 [7],
 I 0 21]
def d31r4:ai:=[
 b .lss 21 20 22 []]
def d31r5:ai:=[
 x 3 19 21 23 [],
 L 3 23 24 [0],
 o (.alloc [V 0,.aW,V 0]) 11 [],
 S 3 11 24 [2,1,0,1,2]]
def d31r6:ai:=[
 n 8 25,
 a 2 11 26 [],
 l 26 27 [1],
 b .add 25 27 28 [0,2],
 o (.minmax false (t 28) (i 1099511627776)) 29 [3],
 m 29 8 (k [4] 4)]
def d31r7:ai:=[
 n 9 30,
 o (.build [V 0,V 0] [(0,1,(i 2))]) 31 [],
 o (.bslice 1 2 [V 0,V 0] [(0,2,(t 31))]) 32 [1],
 o (.append 117 2 16 (t 30) (t 32)) 33 [0,2],
 m 33 9 [3,3,0,1,2,3]]
def d31r8:ai:=[
 C .add 21 1 34 [],
 m 34 21 [0]]
def d31r9:ai:=[
 n 8 35,
 n 9 36,
 m 35 6 [0,0],
 m 36 7 [1,2,0,1,2]]
def d31:DC:=(j (y d31r0) (j (y d31r1) (j (y d31r2) (j (j (y d31r3) (.block 0 (.loop (j (y d31r4) (j (.cond (.tmp 22) .skip (.exit 0)) (j (.block 1 (j (y d31r5) (j (y d31r6) (y d31r7)))) (y d31r8))))))) (j (y d31r9) .ret)))))
def d31res:List bV:=[.da 6,.da 7]
def c31 [bI]:aB aj 48 37 d31 d31res:=aB.of Tryz.f48 (by kernel_rfl)
def d47r0:ai:=[
 n 0 12,
 c 12 13 [0],
 a 0 13 14 [1],
 a 0 14 15 [2],
 l 15 16 [3],
 n 2 17,
 x 3 16 17 18 [4,5],
 a 1 18 19 [6],
 l 19 20 [7],
 N 20 21 [8],
 I 0 22]
def d47r1:ai:=[
 b .lss 22 21 23 []]
def d47r2:ai:=[
 n 22 24,
 x 1 20 22 25 [],
 l 25 26 [1],
 m 24 10 [0,0,1,2],
 m 26 11 [2,3,0,1,2,3]]
def d47r3:ai:=[
 n 11 27,
 C .geq 27 0 28 [0]]
def Po:ai:=[
 n 0 29,
 n 1 30,
 o (.bin .mul (i 2) (t 30)) 31 [1],
 n 2 32,
 o (.bin .mul (i 2) (t 32)) 33 [3],
 C .add 33 2 34 [4],
 n 10 35,
 n 3 36,
 n 11 37,
 b .add 36 37 38 [7,8],
 n 4 39,
 o (.callF 76 [(t 39)]) 40 [10],
 n 10 41,
 o (.build [V 0,V 0] [(0,1,(i 1)),(1,1,(t 41))]) 42 [12],
 o (.bslice 1 2 [V 0,V 0] [(0,2,(t 42))]) 43 [13],
 o (.append 117 2 16 (t 40) (t 43)) 44 [11,14,11],
 o (.build [V 0,V 0,V 0,V 0,.aW] [(0,1,(t 31)),(1,1,(t 34)),(2,1,(t 35)),(3,1,(t 38)),(4,1,(t 44))]) 45 [2,5,6,9,15],
 o (.callS 75 [(t 29),(t 45)]) 46 [0,16,15]]
def d47r4:ai:=Po.map bare
def d47r5:ai:=[
 C .add 22 1 47 [],
 m 47 22 [0]]
def d47:DC:=(j (y d47r0) (.block 0 (.loop (j (y d47r1) (j (.cond (.tmp 23) .skip (.exit 0)) (j (.block 1 (j (y d47r2) (j (y d47r3) (.cond (.tmp 28) (y d47r4) .skip)))) (y d47r5)))))))
def d47res:List bV:=[]
def c47 [bI]:aB aj 74 48 d47 d47res:=aB.of Tryz.f74 (by kernel_rfl)
def d48r0:ai:=[
 B 1 3]
def d48r1:ai:=[
 a 0 3 7 [],
 l 7 8 [0],
 a 1 3 9 [],
 l 9 10 [2],
 a 2 3 11 [],
 l 11 12 [4],
 o (.build [V 0,V 0,V 0] [(0,1,(t 8)),(1,1,(t 10)),(2,1,(t 12))]) 13 [1,3,5],
 o (.alloc [V 0,V 0,V 0]) 4 [],
 S 3 4 13 (k [7,6] 7)]
def d48r2:ai:=[
 n 0 15,
 c 15 16 [0],
 a 3 16 17 [1],
 l 17 18 [2],
 L 3 4 19 [],
 o (.lookup [(.int .i64),(.int .i64),(.int .i64)] true (.agg [(.v (.int .i64 0)),(.v (.int .i64 0)),(.v (.int .i64 0)),(.v (.int .i64 0)),.aW]) true (t 18) (t 19)) 20 [3,4],
 m 20 14 [5],
 e 0 14 21 [6],
 e 1 14 22 [6],
 o (.alloc [V 0,V 0,V 0,V 0,.aW]) 5 [],
 S 5 5 21 [9,7,0,1,2,3,4,5,6,7,9],
 m 22 6 (k [8,10] 10)]
def d48r3:ai:=[
 a 3 3 23 [],
 l 23 24 [0],
 C .lss 24 1099511627776 25 [1],
 m 25 26 [2],
 w 6 27 26 true [3],
 K 27 28 26 true [4,3],
 w 28 29 26 true [5,3,3],
 u 3 3 30 29 false [6],
 v 30 31 29 false [7,6],
 u 3 5 32 29 false [6],
 v 32 33 29 false [9,6],
 D .lss 31 33 34 29 false [8,10,6],
 g (.pick (t 29) (.gN (.v (.bool true))) (t 34)) 35 26 true [6,11,3],
 q 26 35 36 [3,12]]
def d48r4:ai:=[
 n 0 37,
 c 37 38 [0],
 a 3 38 39 [1],
 l 39 40 [2],
 L 3 4 41 [],
 L 5 3 42 [],
 s (.mapUpd [(.int .i64),(.int .i64),(.int .i64)] true (t 40) (t 41) (t 42)) (k [3,4,5] 5)]
def d48:DC:=(j (y d48r0) (j (y d48r1) (j (Y d48r2) (j (y d48r3) (.cond (.tmp 36) (Y d48r4) .skip)))))
def Pp:List bV:=[]
def c48 [bI]:aB aj 75 43 d48 Pp:=aB.of Tryz.f75 (by kernel_rfl)
def d49r0:ai:=[
 Z 2]
def d49r1:ai:=[
 n 0 3,
 o (.isNil 0 false (t 3)) 4 [0]]
def d49r2:ai:=[
 Z 2]
def d49r3:ai:=[
 o (.bslice 0 2 [] []) 5 [],
 n 0 6,
 o (.append 117 2 16 (t 5) (t 6)) 7 [0,1],
 m 7 2 [2,2,0,1,2]]
def d49:DC:=(j (y d49r0) (j (j (y d49r1) (.cond (.tmp 4) (j (y d49r2) .ret) .skip)) (j (y d49r3) .ret)))
def d49res:List bV:=[.da 2]
def c49 [bI]:aB aj 76 8 d49 d49res:=aB.of Tryz.f76 (by kernel_rfl)
def d50r0:ai:=[
 F 4]
def d50r1:ai:=[
 n 0 6,
 c 6 7 [0],
 a 0 7 8 [1],
 a 0 8 9 [2],
 l 9 10 [3],
 m 10 5 (k [4] 4)]
def d50r2:ai:=[
 n 1 11,
 C .add 11 1 12 [0],
 n 5 13,
 N 13 14 [2],
 b .lss 12 14 15 [1,3],
 m 15 16 [4],
 w 0 17 16 true [5],
 g (.nilCheck (t 17)) 18 16 true [6,5],
 u 0 18 19 16 true [7,5],
 u 2 19 20 16 true [8,5],
 v 20 21 16 true [9,5],
 E .gtr 21 0 22 16 true [10,5],
 q 16 22 23 [5,11],
 m 23 24 [12,5],
 w 5 25 24 true [13],
 w 1 26 24 true [13],
 g (.idxAddr 3 (t 25) (t 26)) 27 24 true [14,15,13],
 u 0 27 28 24 true [16,13],
 v 28 29 24 true [17,13],
 E .geq 29 0 30 24 true [18,13],
 q 24 30 31 [13,19],
 m 31 32 [20,13],
 w 5 33 32 true [21],
 w 1 34 32 true [21],
 E .add 34 1 35 32 true [23,21],
 g (.idxAddr 3 (t 33) (t 35)) 36 32 true [22,24,21],
 u 0 36 37 32 true [25,21],
 v 37 38 32 true [26,21],
 E .geq 38 0 39 32 true [27,21],
 q 32 39 40 [21,28],
 m 40 4 (k [29,21] 29)]
def d50:DC:=(j (y d50r0) (j (y d50r1) (j (y d50r2) .ret)))
def d50res:List bV:=[.da 4]
def c50 [bI]:aB aj 77 41 d50 d50res:=aB.of Tryz.f77 (by kernel_rfl)
def d29r0:ai:=[
 Z 4]
def d29r1:ai:=[
 n 1 9,
 C .lss 9 0 10 [0]]
def d29r2:ai:=[
 o (.fail) 11 [],
 s (.fail) [0]]
def d29r3:ai:=[
 n 0 13,
 N 13 14 [0],
 o (.conv .u64 (t 14)) 15 [1],
 n 1 16,
 o (.conv .u64 (t 16)) 17 [3],
 o (.call 73 [(t 15),(t 17)]) 18 [2,4],
 m 18 12 [5],
 e 0 12 19 [6],
 e 1 12 20 [6],
 m 19 5 (k [7,5] 7),
 m 20 6 (k [8,9] 9)]
def d29r4:ai:=[
 n 5 21,
 o (.bin .gtr (t 21) (.gN (.v (.int .u64 0)))) 22 [0],
 m 22 23 [1],
 w 6 24 23 false [2],
 g (.bin .gtr (t 24) (.gN (.v (.int .u64 9223372036854775807)))) 25 23 false [3,2],
 p 23 25 26 [2,4]]
def d29r5:ai:=[
 o (.fail) 27 [],
 s (.fail) [0]]
def d29r6:ai:=[
 n 6 28,
 o (.conv .i64 (t 28)) 29 [0],
 o (.mkSlice 3 1 8 [(.int .i64 0)] (t 29)) 30 [1,1],
 m 30 7 [2,0,1,2]]
def d29r7:ai:=[
 n 7 31,
 n 0 32,
 o (.copy 1 (t 31) (t 32)) 33 [0,1],
 m 33 8 [2,2,0,1,2]]
def d29r8:ai:=[
 n 8 34,
 n 7 35,
 N 35 36 [1],
 b .lss 34 36 37 [0,2]]
def d29r9:ai:=[
 n 8 38,
 n 7 39,
 n 8 40,
 o (.slice 1 (t 39) (some (t 40)) none) 41 [1,2],
 n 7 42,
 n 8 43,
 o (.slice 1 (t 42) none (some (t 43))) 44 [4,5],
 o (.copy 1 (t 41) (t 44)) 45 [3,6],
 b .add 38 45 46 [0,7],
 m 46 8 (k [8,7] 8)]
def d29r10:ai:=[
 n 7 47,
 m 47 4 [0,0]]
def d29:DC:=(j (y d29r0) (j (j (y d29r1) (.cond (.tmp 10) (y d29r2) .skip)) (j (y d29r3) (j (j (y d29r4) (.cond (.tmp 26) (y d29r5) .skip)) (j (y d29r6) (j (y d29r7) (j (.block 0 (.loop (j (j (y d29r8) (.cond (.tmp 37) .skip (.exit 0))) (.block 1 (Y d29r9))))) (j (y d29r10) .ret))))))))
def d29res:List bV:=[.da 4]
def c29 [bI]:aB aj 46 48 d29 d29res:=aB.of Tryz.f46 (by kernel_rfl)
def d33r0:ai:=[
 B 0 2,
 B 1 3,
 I 0 4]
def d33r1:ai:=[
 a 0 2 5 [],
 l 5 6 [0],
 a 0 3 7 [],
 l 7 8 [2],
 o (.call 81 [(t 6),(t 8)]) 9 [1,3],
 a 1 2 10 [],
 l 10 11 [5],
 a 1 3 12 [],
 l 12 13 [7],
 o (.call 81 [(t 11),(t 13)]) 14 [6,8,4],
 a 2 2 15 [],
 l 15 16 [10],
 a 2 3 17 [],
 l 17 18 [12],
 o (.call 81 [(t 16),(t 18)]) 19 [11,13,9],
 o (.bslice 3 1 [V 0,V 0,V 0] [(0,1,(t 9)),(1,1,(t 14)),(2,1,(t 19))]) 20 [4,9,14],
 o (.call 80 [(t 20)]) 21 [15,14],
 m 21 4 (k [16,16] 16)]
def d33:DC:=(j (y d33r0) (j (Y d33r1) .ret))
def d33res:List bV:=[.da 4]
def c33 [bI]:aB aj 50 22 d33 d33res:=aB.of Tryz.f50 (by kernel_rfl)
def d53r0:ai:=[
 I 0 2]
def d53r1:ai:=[
 I 0 3]
def d53r2:ai:=[
 n 0 6,
 N 6 7 [0],
 I 0 8]
def d53r3:ai:=[
 b .lss 8 7 9 []]
def d53r4:ai:=[
 x 1 6 8 10 [],
 l 10 11 [0],
 m 11 5 [1,0,1]]
def d53r5:ai:=[
 n 5 12,
 n 3 13,
 b .neq 12 13 14 [0,1]]
def d53r6:ai:=[
 n 5 15,
 m 15 2 [0,0]]
def d53r7:ai:=[
 C .add 8 1 16 [],
 m 16 8 [0]]
def d53r8:ai:=[
 n 3 17,
 m 17 2 [0,0]]
def d53:DC:=(j (y d53r0) (j (y d53r1) (j (j (y d53r2) (.block 0 (.loop (j (y d53r3) (j (.cond (.tmp 9) .skip (.exit 0)) (j (.block 1 (j (y d53r4) (j (y d53r5) (.cond (.tmp 14) (j (y d53r6) .ret) .skip)))) (y d53r7))))))) (j (y d53r8) .ret))))
def Pq:List bV:=[.da 2]
def c53 [bI]:aB aj 80 18 d53 Pq:=aB.of Tryz.f80 (by kernel_rfl)
def Lf:ai:=[
 I 0 4]
def Lg:ai:=[
 n 0 7,
 o (.call 118 [(t 7)]) 8 [0],
 m 8 5 [1,1,0,1]]
def d54r2:ai:=[
 n 1 9,
 o (.call 118 [(t 9)]) 10 [0],
 m 10 6 [1,1,0,1]]
def d54r3:ai:=[
 n 5 11]
def d54r4:ai:=[
 n 6 12]
def d54r5:ai:=[
 I 0 4]
def d54r6:ai:=[
 I (-1) 4]
def d54r7:ai:=[
 n 6 13]
def d54r8:ai:=[
 I 1 4]
def d54r9:ai:=[
 n 0 14,
 n 1 15,
 b .lss 14 15 16 [0,1]]
def d54r10:ai:=[
 I (-1) 4]
def d54r11:ai:=[
 n 0 17,
 n 1 18,
 b .gtr 17 18 19 [0,1]]
def d54r12:ai:=[
 I 1 4]
def d54r13:ai:=[
 I 0 4]
def d54:DC:=(j (y Lf) (j (y Lg) (j (y d54r2) (j (j (y d54r3) (.cond (.tmp 11) (j (j (y d54r4) (.cond (.tmp 12) (j (y d54r5) .ret) .skip)) (j (y d54r6) .ret)) .skip)) (j (j (y d54r7) (.cond (.tmp 13) (j (y d54r8) .ret) .skip)) (j (j (y d54r9) (.cond (.tmp 16) (j (y d54r10) .ret) .skip)) (j (j (y d54r11) (.cond (.tmp 19) (j (y d54r12) .ret) .skip)) (j (y d54r13) .ret))))))))
def AB:List bV:=[.da 4]
def c54 [bI]:aB aj 81 20 d54 AB:=aB.of Tryz.f81 (by kernel_rfl)
def d71r0:ai:=[
 F 2]
def d71r1:ai:=[
 n 0 3,
 n 0 4,
 b .neq 3 4 5 [0,1],
 m 5 2 [2,0,1,2]]
def d71:DC:=(j (y d71r0) (j (y d71r1) .ret))
def d71res:List bV:=[.da 2]
def c71 [bI]:aB aj 118 6 d71 d71res:=aB.of Tryz.f118 (by kernel_rfl)
def d46r0:ai:=[
 o (.qu (.gN (.v (.int .u64 0)))) 4 [],
 o (.qu (.gN (.v (.int .u64 0)))) 5 [0]]
def d46r1:ai:=[
 n 0 11,
 o (.conv .u32 (t 11)) 12 [0],
 n 1 13,
 o (.conv .u32 (t 13)) 14 [2],
 o (.call 106 [(t 12),(t 14)]) 15 [1,3],
 m 15 10 [4],
 e 0 10 16 [5],
 e 1 10 17 [5],
 m 16 6 (k [6,4] 6),
 m 17 7 (k [7,8] 8)]
def d46r2:ai:=[
 n 6 18,
 o (.conv .u64 (t 18)) 19 [0],
 n 7 20,
 o (.conv .u64 (t 20)) 21 [2],
 m 19 4 [1,0,1],
 m 21 5 (k [3,4] 4)]
def d46r3:ai:=[
 n 0 23,
 n 1 24,
 o (.call 107 [(t 23),(t 24)]) 25 [0,1],
 m 25 22 [2],
 e 0 22 26 [3],
 e 1 22 27 [3],
 m 26 8 (k [4,2] 4),
 m 27 9 (k [5,6] 6)]
def d46r4:ai:=[
 n 8 28,
 n 9 29,
 m 28 4 [0,0],
 m 29 5 [1,2,0,1,2]]
def d46:DC:=(j (y d46r0) (j (.cond (.gN (.v (.bool false))) (j (y d46r1) (j (y d46r2) .ret)) .skip) (j (y d46r3) (j (y d46r4) .ret))))
def d46res:List bV:=[.da 4,.da 5]
def c46 [bI]:aB aj 73 30 d46 d46res:=aB.of Tryz.f73 (by kernel_rfl)
def Lh:ai:=[
 o (.qu (.gN (.v (.int .u64 0)))) 4 [],
 o (.qu (.gN (.v (.int .u64 0)))) 5 [0]]
def BM:ai:=[
 n 0 14,
 o (.bin .and (t 14) (.gN (.v (.int .u64 4294967295)))) 15 [0],
 m 15 6 [1,0,1]]
def Li:ai:=[
 n 0 16,
 o (.bin .shr (t 16) (.gN (.v (.int .u64 32)))) 17 [0],
 m 17 7 [1,0,1]]
def Lj:ai:=[
 n 1 18,
 o (.bin .and (t 18) (.gN (.v (.int .u64 4294967295)))) 19 [0],
 m 19 8 [1,0,1]]
def Re:ai:=[
 n 1 20,
 o (.bin .shr (t 20) (.gN (.v (.int .u64 32)))) 21 [0],
 m 21 9 [1,0,1]]
def Rf:ai:=[
 n 6 22,
 n 8 23,
 b .mul 22 23 24 [0,1],
 m 24 10 [2,0,1,2]]
def d60r6:ai:=[
 n 7 25,
 n 8 26,
 b .mul 25 26 27 [0,1],
 n 10 28,
 o (.bin .shr (t 28) (.gN (.v (.int .u64 32)))) 29 [3],
 b .add 27 29 30 [2,4],
 m 30 11 (k [5] 5)]
def d60r7:ai:=[
 n 11 31,
 o (.bin .and (t 31) (.gN (.v (.int .u64 4294967295)))) 32 [0],
 m 32 12 [1,0,1]]
def d60r8:ai:=[
 n 11 33,
 o (.bin .shr (t 33) (.gN (.v (.int .u64 32)))) 34 [0],
 m 34 13 [1,0,1]]
def d60r9:ai:=[
 n 12 35,
 n 6 36,
 n 9 37,
 b .mul 36 37 38 [1,2],
 b .add 35 38 39 [0,3],
 m 39 12 (k [4] 4)]
def d60r10:ai:=[
 n 7 40,
 n 9 41,
 b .mul 40 41 42 [0,1],
 n 13 43,
 b .add 42 43 44 [2,3],
 n 12 45,
 o (.bin .shr (t 45) (.gN (.v (.int .u64 32)))) 46 [5],
 b .add 44 46 47 [4,6],
 m 47 4 (k [7] 7)]
def d60r11:ai:=[
 n 0 48,
 n 1 49,
 b .mul 48 49 50 [0,1],
 m 50 5 [2,0,1,2]]
def d60:DC:=(j (y Lh) (j (y BM) (j (y Li) (j (y Lj) (j (y Re) (j (y Rf) (j (y d60r6) (j (y d60r7) (j (y d60r8) (j (y d60r9) (j (y d60r10) (j (y d60r11) .ret))))))))))))
def wU:List bV:=[.da 4,.da 5]
def c60 [bI]:aB aj 107 51 d60 wU:=aB.of Tryz.f107 (by kernel_rfl)
def follows:aj.follows .mixedOrders=true:=by kernel_rfl
abbrev fw:=follows
namespace cC
def d92r0:ai:=[
 B 0 2,
 B 1 3,
 F 4]
def K7:ai:=[
 a 0 2 5 [],
 l 5 6 [0],
 a 0 3 7 [],
 l 7 8 [2],
 b .lss 6 8 9 [1,3],
 m 9 10 [4],
 u 0 2 11 10 false [5],
 v 11 12 10 false [6,5],
 u 0 3 13 10 false [5],
 v 13 14 10 false [8,5],
 D .eql 12 14 15 10 false [7,9,5],
 w 15 16 10 false [10,5,5],
 u 1 2 17 16 true [11],
 v 17 18 16 true [12,11],
 u 1 3 19 16 true [11],
 v 19 20 16 true [14,11],
 D .lss 18 20 21 16 true [13,15,11],
 g (.pick (t 16) (t 21) (.gN (.v (.bool false)))) 22 10 false [11,16,5],
 p 10 22 23 [5,17],
 m 23 4 (k [18,11] 18)]
def d92:DC:=(j (y d92r0) (j (y K7) .ret))
def YZ:List bV:=[.da 4]
def c92 [bI]:aB aj 97 24 d92 YZ:=aB.of Tryz.f97 (by kernel_rfl)
def d69r0:ai:=[
 o (.alloc [V 0,V 0]) 4 []]
def d69r1:ai:=[
 n 0 8,
 m 8 5 [0,0],
 o (.qu (i 1)) 6 [1,0,1]]
def d69r2:ai:=[
 I 0 7]
def d69r3:ai:=[
 n 7 9,
 n 1 10,
 N 10 11 [1],
 b .lss 9 11 12 [0,2]]
def d69r4:ai:=[
 n 5 15,
 n 1 16,
 n 7 17,
 x 2 16 17 18 [1,2],
 a 0 18 19 [3],
 l 19 20 [4],
 b .add 15 20 21 [0,5],
 o (.minmax false (t 21) (i 1099511627776)) 22 [6],
 n 6 23,
 n 1 24,
 n 7 25,
 x 2 24 25 26 [9,10],
 a 1 26 27 [11],
 l 27 28 [12],
 b .add 23 28 29 [8,13],
 o (.minmax false (t 29) (i 1099511627776)) 30 [14],
 m 22 5 (k [7] 7),
 m 30 6 (k [15,16] 16)]
def d69r5:ai:=[
 n 7 13,
 C .add 13 1 14 [0],
 m 14 7 [1,0,1]]
def d69r6:ai:=[
 n 5 31,
 C .geq 31 1099511627776 32 [0]]
def d69r7:ai:=[
 o (.build [V 0,V 0] [(0,1,(i 1099511627776))]) 33 [],
 S 2 4 33 [0,0]]
def d69r8:ai:=[
 n 5 34,
 n 6 35,
 o (.build [V 0,V 0] [(0,1,(t 34)),(1,1,(t 35))]) 36 [0,1],
 S 2 4 36 [2,0,1,2]]
def d69:DC:=(j (y d69r0) (j (y d69r1) (j (j (y d69r2) (.block 0 (.loop (j (j (y d69r3) (.cond (.tmp 12) .skip (.exit 0))) (j (.block 1 (Y d69r4)) (y d69r5)))))) (j (j (y d69r6) (.cond (.tmp 32) (j (y d69r7) .ret) .skip)) (j (y d69r8) .ret)))))
def OK:List bV:=[.cell 4 2 true]
def c69 [bI]:aB aj 95 37 d69 OK:=aB.of Tryz.f95 (by kernel_rfl)
def d91r0:ai:=[
 B 0 2,
 Z 4]
def d91r1:ai:=[
 Z 5]
def d91r2:ai:=[
 I 0 6]
def d91r3:ai:=[
 n 6 7,
 a 1 2 8 [],
 l 8 9 [1],
 N 9 10 [2],
 b .lss 7 10 11 [0,3]]
def d91r4:ai:=[
 n 5 14,
 n 1 15,
 a 1 2 16 [],
 l 16 17 [2],
 n 6 18,
 x 1 17 18 19 [3,4],
 l 19 20 [5],
 x 2 15 20 21 [1,6],
 L 2 21 22 [7],
 o (.bslice 1 2 [V 0,V 0] [(0,2,(t 22))]) 23 [8],
 o (.append 63 2 16 (t 14) (t 23)) 24 [0,9],
 m 24 5 (k [10,10] 10)]
def d91r5:ai:=[
 n 6 12,
 C .add 12 1 13 [0],
 m 13 6 [1,0,1]]
def d91r6:ai:=[
 n 5 25,
 m 25 4 [0,0]]
def d91:DC:=(j (y d91r0) (j (y d91r1) (j (j (y d91r2) (.block 0 (.loop (j (j (y d91r3) (.cond (.tmp 11) .skip (.exit 0))) (j (.block 1 (y d91r4)) (y d91r5)))))) (j (y d91r6) .ret))))
def d91res:List bV:=[.da 4]
def c91 [bI]:aB aj 96 26 d91 d91res:=aB.of Tryz.f96 (by kernel_rfl)
def d66r0:ai:=[
 B 0 1,
 Z 2,
 o (.qu (.gN .aW)) 3 [1]]
def d66r1:ai:=[
 a 0 1 14 [],
 l 14 15 [0],
 o (.mkSlice 63 2 16 [(.int .i64 0),(.int .i64 0)] (t 15)) 16 [1,1],
 m 16 4 [2,0,1,2]]
def d66r2:ai:=[
 a 0 1 17 [],
 l 17 18 [0],
 o (.mkSlice 3 1 8 [(.int .i64 0)] (t 18)) 19 [1,1],
 m 19 5 [2,0,1,2]]
def d66r3:ai:=[
 I 0 6]
def d66r4:ai:=[
 n 6 20,
 a 0 1 21 [],
 l 21 22 [1],
 b .lss 20 22 23 [0,2]]
def d66r5:ai:=[
 n 4 26,
 n 6 27,
 n 5 28,
 n 6 29,
 o (.build [V 0,V 0] [(0,1,(i 1099511627776))]) 30 [],
 x 2 26 27 31 [0,1,0,1,4],
 S 2 31 30 [5,4,0,1,4],
 x 1 28 29 32 (k [2,3] 6),
 s (.store 1 (t 32) (i (-1))) (k [7,6] 6)]
def d66r6:ai:=[
 n 6 24,
 C .add 24 1 25 [0],
 m 25 6 [1,0,1]]
def d66r7:ai:=[
 R 7]
def d66r8:ai:=[
 n 7 33]
def d66r9:ai:=[
 F 7]
def Y0:ai:=[
 I 0 8]
def Y1:ai:=[
 n 8 34,
 a 1 1 35 [],
 l 35 36 [1],
 N 36 37 [2],
 b .lss 34 37 38 [0,3]]
def Y2:ai:=[
 a 1 1 41 [],
 l 41 42 [0],
 n 8 43,
 x 5 42 43 44 [1,2],
 L 5 44 45 [3],
 o (.alloc [V 0,.aW,V 0,V 0,V 0]) 9 [],
 S 5 9 45 (k [5,4] 5)]
def Is:ai:=[
 a 2 9 46 [],
 l 46 47 [0],
 L 5 9 48 [],
 n 4 49,
 o (.callF 96 [(t 48),(t 49)]) 50 [2,3],
 o (.call 95 [(t 47),(t 50)]) 51 [1,4,4],
 o (.alloc [V 0,V 0]) 10 [],
 S 2 10 51 (k [6,5,5] 6)]
def d66r13:ai:=Is.map bare
def Y3:ai:=[
 L 2 10 52 [],
 n 4 53,
 a 0 9 54 [],
 l 54 55 [2],
 x 2 53 55 56 [1,3],
 L 2 56 57 [4],
 o (.call 97 [(t 52),(t 57)]) 58 [0,5]]
def Y4:ai:=[
 n 4 59,
 a 0 9 60 [],
 l 60 61 [1],
 L 2 10 62 [],
 x 2 59 61 63 [0,2,0,1,2,3],
 S 2 63 62 [4,3,0,1,2,3]]
def Y5:ai:=[
 R 7]
def OL:ai:=[
 n 8 39,
 C .add 39 1 40 [0],
 m 40 8 [1,0,1]]
def Y6:ai:=[
 a 1 1 64 [],
 l 64 65 [0],
 N 65 66 [1],
 C .sub 66 1 67 [2],
 m 67 11 [3,0,1,2,3]]
def Y7:ai:=[
 n 11 68,
 C .geq 68 0 69 [0]]
def Y8:ai:=[
 a 1 1 72 [],
 l 72 73 [0],
 n 11 74,
 x 5 73 74 75 [1,2],
 L 5 75 76 [3],
 o (.alloc [V 0,.aW,V 0,V 0,V 0]) 12 [],
 S 5 12 76 (k [5,4] 5)]
def Y9:ai:=[
 n 4 77,
 a 0 12 78 [],
 l 78 79 [1],
 x 2 77 79 80 [0,2],
 L 2 80 81 [3],
 o (.alloc [V 0,V 0]) 13 [],
 S 2 13 81 (k [5,4] 5)]
def yL:ai:=[
 a 0 13 82 [],
 l 82 83 [0],
 C .lss 83 1099511627776 84 [1],
 m 84 85 [2],
 u 2 12 86 85 true [3],
 v 86 87 85 true [4,3],
 g (.load 5 true (t 12)) 88 85 true [3],
 w 4 89 85 true [3],
 g (.callF 96 [(t 88),(t 89)]) 90 85 true [6,7,3,3],
 g (.call 95 [(t 87),(t 90)]) 91 85 true [5,8,8,3],
 g (.load 2 true (t 13)) 92 85 true [3],
 g (.eqT false true [(.int .i64),(.int .i64)] (t 91) (t 92)) 93 85 true [9,10,3],
 q 85 93 94 [3,11]]
def d66r22:ai:=yL.map bare
def Za:ai:=[
 n 5 95,
 a 0 12 96 [],
 l 96 97 [1],
 n 11 98,
 x 1 95 97 99 [0,2,0,1,2,3],
 S 1 99 98 [4,3,0,1,2,3]]
def OM:ai:=[
 n 11 70,
 C .sub 70 1 71 [0],
 m 71 11 [1,0,1]]
def Zb:ai:=[
 n 4 100,
 n 5 101,
 m 100 2 [0,0],
 m 101 3 [1,2,0,1,2]]
def d66:DC:=(j (y d66r0) (j (y d66r1) (j (y d66r2) (j (j (y d66r3) (.block 0 (.loop (j (j (y d66r4) (.cond (.tmp 23) .skip (.exit 0))) (j (.block 1 (y d66r5)) (y d66r6)))))) (j (j (y d66r7) (.block 2 (.loop (j (j (y d66r8) (.cond (.tmp 33) .skip (.exit 2))) (.block 3 (j (y d66r9) (j (y Y0) (.block 4 (.loop (j (j (y Y1) (.cond (.tmp 38) .skip (.exit 4))) (j (.block 5 (j (y Y2) (j (Y d66r13) (j (Y Y3) (.cond (.tmp 58) (j (y Y4) (y Y5)) .skip))))) (y OL)))))))))))) (j (j (y Y6) (.block 6 (.loop (j (j (y Y7) (.cond (.tmp 69) .skip (.exit 6))) (j (.block 7 (j (y Y8) (j (y Y9) (j (Y d66r22) (.cond (.tmp 94) (y Za) .skip))))) (y OM)))))) (j (y Zb) .ret)))))))
def Zc:List bV:=[.da 2,.da 3]
def c66 [bI]:aB aj 61 102 d66 Zc:=aB.of Tryz.f61 (by kernel_rfl)
def d93r0:ai:=[
 B 0 1,
 Z 2]
def d93r1:ai:=[
 a 0 1 3 [],
 l 3 4 [0]]
def d93r2:ai:=[
 C .eql 4 3 6 [],
 m 6 5 [0]]
def d93r3:ai:=[
 a 2 1 7 [],
 l 7 8 [0],
 o (.bslice 1 1 [V 0] [(0,1,(t 8))]) 9 [1],
 m 9 2 [2,0,1,2]]
def d93r4:ai:=[
 C .eql 4 4 11 [],
 m 11 10 [0]]
def d93r5:ai:=[
 a 2 1 12 [],
 l 12 13 [0],
 a 3 1 14 [],
 l 14 15 [2],
 o (.bslice 2 1 [V 0,V 0] [(0,1,(t 13)),(1,1,(t 15))]) 16 [1,3],
 m 16 2 (k [4] 4)]
def d93r6:ai:=[
 Z 2]
def d93:DC:=(j (y d93r0) (j (j (y d93r1) (.block 0 (j (y d93r2) (.cond (.tmp 5) (j (y d93r3) .ret) (j (y d93r4) (.cond (.tmp 10) (j (y d93r5) .ret) .skip)))))) (j (y d93r6) .ret)))
def Iu:List bV:=[.da 2]
def c93 [bI]:aB aj 98 17 d93 Iu:=aB.of Tryz.f98 (by kernel_rfl)
def d67r0:ai:=[
 B 0 2,
 o (.alloc [V 0,.aW]) 4 []]
def d67r1:ai:=[
 Z 5]
def d67r2:ai:=[
 I 0 6]
def d67r3:ai:=[
 n 6 9,
 a 3 2 10 [],
 l 10 11 [1],
 N 11 12 [2],
 b .lss 9 12 13 [0,3]]
def d67r4:ai:=[
 a 3 2 16 [],
 l 16 17 [0],
 n 6 18,
 x 6 17 18 19 [1,2],
 L 6 19 20 [3],
 o (.alloc [V 0,V 0,V 0,V 0,V 0,V 0]) 7 [],
 S 6 7 20 (k [5,4] 5)]
def d67r5:ai:=[
 a 4 7 21 [],
 l 21 22 [0],
 m 22 8 [1,0,1]]
def d67r6:ai:=[
 a 0 7 23 [],
 l 23 24 [0],
 C .eql 24 2 25 [1]]
def d67r7:ai:=[
 n 8 26,
 n 1 27,
 a 2 7 28 [],
 l 28 29 [2],
 x 1 27 29 30 [1,3],
 l 30 31 [4],
 b .add 26 31 32 [0,5],
 m 32 8 (k [6] 6)]
def Zd:ai:=[
 n 5 33,
 a 1 7 34 [],
 l 34 35 [1],
 L 6 7 36 [],
 o (.call 98 [(t 36)]) 37 [3],
 n 8 38,
 o (.build [V 0,.aW,V 0,V 0,V 0] [(0,1,(t 35)),(1,1,(t 37)),(2,1,(t 38))]) 39 [2,4,5],
 o (.bslice 1 5 [V 0,.aW,V 0,V 0,V 0] [(0,5,(t 39))]) 40 [6],
 o (.append 157 5 56 (t 33) (t 40)) 41 [0,7,4],
 m 41 5 (k [8,8] 8)]
def Ze:ai:=[
 n 6 14,
 C .add 14 1 15 [0],
 m 15 6 [1,0,1]]
def Zf:ai:=[
 a 1 2 42 [],
 l 42 43 [0],
 n 5 44,
 o (.build [V 0,.aW] [(0,1,(t 43)),(1,1,(t 44))]) 45 [1,2],
 S 2 4 45 [3,0,1,2,3]]
def d67:DC:=(j (y d67r0) (j (y d67r1) (j (j (y d67r2) (.block 0 (.loop (j (j (y d67r3) (.cond (.tmp 13) .skip (.exit 0))) (j (.block 1 (j (y d67r4) (j (y d67r5) (j (j (y d67r6) (.cond (.tmp 25) (y d67r7) .skip)) (Y Zd))))) (y Ze)))))) (j (y Zf) .ret))))
def Zg:List bV:=[.cell 4 2 true]
def c67 [bI]:aB aj 62 46 d67 Zg:=aB.of Tryz.f62 (by kernel_rfl)
def d44r0:ai:=[
 B 0 2,
 F 4]
def d44r1:ai:=[
 n 1 6,
 N 6 7 [0],
 a 0 2 8 [],
 l 8 9 [2],
 b .neq 7 9 10 [1,3]]
def d44r2:ai:=[
 F 4]
def d44r3:ai:=[
 I 0 5]
def d44r4:ai:=[
 n 5 11,
 n 1 12,
 N 12 13 [1],
 b .lss 11 13 14 [0,2]]
def QY:ai:=[
 n 1 17,
 n 5 18,
 x 1 17 18 19 [0,1],
 l 19 20 [2],
 C .lss 20 1 21 [3],
 m 21 22 [4],
 w 1 23 22 false [5],
 w 5 24 22 false [5],
 g (.idxAddr 1 (t 23) (t 24)) 25 22 false [6,7,5],
 v 25 26 22 false [8,5],
 E .gtr 26 60000 27 22 false [9,5],
 p 22 27 28 [5,10]]
def d44r6:ai:=[
 F 4]
def d44r7:ai:=[
 n 5 15,
 C .add 15 1 16 [0],
 m 16 5 [1,0,1]]
def d44r8:ai:=[
 R 4]
def d44:DC:=(j (y d44r0) (j (j (y d44r1) (.cond (.tmp 10) (j (y d44r2) .ret) .skip)) (j (j (y d44r3) (.block 0 (.loop (j (j (y d44r4) (.cond (.tmp 14) .skip (.exit 0))) (j (.block 1 (j (y QY) (.cond (.tmp 28) (j (y d44r6) .ret) .skip))) (y d44r7)))))) (j (y d44r8) .ret))))
def Iv:List bV:=[.da 4]
def c44 [bI]:aB aj 35 29 d44 Iv:=aB.of Tryz.f35 (by kernel_rfl)
def K8:ai:=[
 B 0 2,
 Z 4]
def Ed:ai:=[
 L 4 2 7 [],
 o (.call 34 [(t 7)]) 8 [0],
 U 8 9 [1],
 m 9 10 [2,1],
 g (.load 4 true (t 2)) 11 10 false [3],
 w 1 12 10 false [3],
 g (.call 35 [(t 11),(t 12)]) 13 10 false [4,5,3,3],
 K 13 14 10 false [6,3],
 p 10 14 15 [3,7]]
def K9:ai:=[
 Z 4]
def La:ai:=[
 L 4 2 17 [],
 n 1 18,
 o (.call 62 [(t 17),(t 18)]) 19 [0,1],
 o (.call 61 [(t 19)]) 20 [2,2],
 m 20 16 [3],
 e 0 16 21 [4],
 e 1 16 22 [4],
 m 21 5 (k [5,3] 5),
 m 22 6 (k [6,7] 7)]
def Lb:ai:=[
 n 5 23,
 m 23 4 [0,0]]
def d45:DC:=(j (y K8) (j (j (y Ed) (.cond (.tmp 15) (j (y K9) .ret) .skip)) (j (y La) (j (y Lb) .ret))))
def wT:List bV:=[.da 4]
def c45 [bI]:aB aj 36 24 d45 wT:=aB.of Tryz.f36 (by kernel_rfl)
def d22r0:ai:=[
 B 0 2,
 F 4]
def QZ:ai:=[
 L 4 2 7 [],
 o (.call 34 [(t 7)]) 8 [0],
 U 8 9 [1],
 m 9 10 [2,1],
 g (.load 4 true (t 2)) 11 10 false [3],
 w 1 12 10 false [3],
 g (.call 35 [(t 11),(t 12)]) 13 10 false [4,5,3,3],
 K 13 14 10 false [6,3],
 p 10 14 15 [3,7]]
def d22r2:ai:=[
 F 4]
def d22r3:ai:=[
 L 4 2 16 [],
 n 1 17,
 o (.call 36 [(t 16),(t 17)]) 18 [0,1],
 m 18 5 [2,2,0,1,2]]
def d22r4:ai:=[
 I 0 6]
def d22r5:ai:=[
 n 6 19,
 n 5 20,
 N 20 21 [1],
 b .lss 19 21 22 [0,2]]
def d22r6:ai:=[
 n 5 25,
 n 6 26,
 x 2 25 26 27 [0,1],
 a 1 27 28 [2],
 l 28 29 [3],
 C .gtr 29 1000 30 [4]]
def d22r7:ai:=[
 F 4]
def d22r8:ai:=[
 n 6 23,
 C .add 23 1 24 [0],
 m 24 6 [1,0,1]]
def d22r9:ai:=[
 R 4]
def d22:DC:=(j (y d22r0) (j (j (y QZ) (.cond (.tmp 15) (j (y d22r2) .ret) .skip)) (j (y d22r3) (j (j (y d22r4) (.block 0 (.loop (j (j (y d22r5) (.cond (.tmp 22) .skip (.exit 0))) (j (.block 1 (j (y d22r6) (.cond (.tmp 30) (j (y d22r7) .ret) .skip))) (y d22r8)))))) (j (y d22r9) .ret)))))
def Iw:List bV:=[.da 4]
def c22 [bI]:aB aj 22 31 d22 Iw:=aB.of Tryz.f22 (by kernel_rfl)
def d20r0:ai:=[
 B 0 1,
 F 2]
def yM:ai:=[
 a 0 1 6 [],
 l 6 7 [0],
 C .lss 7 0 8 [1],
 m 8 9 [2],
 u 0 1 10 9 false [3],
 v 10 11 9 false [4,3],
 E .gtr 11 120 12 9 false [5,3],
 p 9 12 13 [3,6],
 m 13 14 [7,3],
 u 1 1 15 14 false [8],
 v 15 16 14 false [9,8],
 E .lss 16 1 17 14 false [10,8],
 p 14 17 18 [8,11],
 m 18 19 [12,8],
 u 1 1 20 19 false [13],
 v 20 21 19 false [14,13],
 E .gtr 21 1000 22 19 false [15,13],
 p 19 22 23 [13,16],
 m 23 24 [17,13],
 u 2 1 25 24 false [18],
 v 25 26 24 false [19,18],
 E .lss 26 0 27 24 false [20,18],
 p 24 27 28 [18,21],
 m 28 29 [22,18],
 u 2 1 30 29 false [23],
 v 30 31 29 false [24,23],
 u 1 1 32 29 false [23],
 v 32 33 29 false [26,23],
 D .geq 31 33 34 29 false [25,27,23],
 p 29 34 35 [23,28],
 m 35 36 [29,23],
 u 3 1 37 36 false [30],
 v 37 38 36 false [31,30],
 H 38 39 36 false [32,30],
 E .gtr 39 600 40 36 false [33,30],
 p 36 40 41 [30,34]]
def d20r2:ai:=[
 F 2]
def d20r3:ai:=[
 I 0 3]
def d20r4:ai:=[
 n 3 42,
 a 3 1 43 [],
 l 43 44 [1],
 N 44 45 [2],
 b .lss 42 45 46 [0,3]]
def d20r5:ai:=[
 a 3 1 49 [],
 l 49 50 [0],
 n 3 51,
 x 6 50 51 52 [1,2],
 L 6 52 53 [3],
 o (.alloc [V 0,V 0,V 0,V 0,V 0,V 0]) 4 [],
 S 6 4 53 (k [5,4] 5)]
def Ee:ai:=[
 a 1 4 54 [],
 l 54 55 [0],
 C .lss 55 0 56 [1],
 m 56 57 [2],
 u 1 4 58 57 false [3],
 v 58 59 57 false [4,3],
 u 1 1 60 57 false [3],
 v 60 61 57 false [6,3],
 D .geq 59 61 62 57 false [5,7,3],
 p 57 62 63 [3,8],
 m 63 64 [9,3],
 u 4 4 65 64 false [10],
 v 65 66 64 false [11,10],
 E .lss 66 0 67 64 false [12,10],
 p 64 67 68 [10,13],
 m 68 69 [14,10],
 u 4 4 70 69 false [15],
 v 70 71 69 false [16,15],
 E .gtr 71 1000 72 69 false [17,15],
 p 69 72 73 [15,18],
 m 73 74 [19,15],
 u 5 4 75 74 false [20],
 v 75 76 74 false [21,20],
 E .lss 76 (-1) 77 74 false [22,20],
 p 74 77 78 [20,23]]
def d20r7:ai:=[
 F 2]
def d20r8:ai:=[
 F 5]
def d20r9:ai:=[
 a 0 4 79 [],
 l 79 80 [0]]
def Zh:ai:=[
 C .eql 80 1 82 [],
 m 82 81 [0]]
def Ix:ai:=[
 a 2 4 83 [],
 l 83 84 [0],
 C .eql 84 0 85 [1],
 m 85 86 [2],
 u 3 4 87 86 true [3],
 v 87 88 86 true [4,3],
 E .eql 88 0 89 86 true [5,3],
 q 86 89 90 [3,6],
 m 90 5 (k [7,3] 7)]
def Zi:ai:=[
 C .eql 80 2 92 [],
 m 92 91 [0]]
def Ef:ai:=[
 a 2 4 93 [],
 l 93 94 [0],
 C .geq 94 0 95 [1],
 m 95 96 [2],
 u 2 4 97 96 true [3],
 v 97 98 96 true [4,3],
 u 0 1 99 96 true [3],
 v 99 100 96 true [6,3],
 D .lss 98 100 101 96 true [5,7,3],
 q 96 101 102 [3,8],
 m 102 103 [9,3],
 u 3 4 104 103 true [10],
 v 104 105 103 true [11,10],
 E .eql 105 0 106 103 true [12,10],
 q 103 106 107 [10,13],
 m 107 5 (k [14,10] 14)]
def Zj:ai:=[
 C .eql 80 3 109 [],
 m 109 108 [0]]
def Eg:ai:=[
 a 2 4 110 [],
 l 110 111 [0],
 C .geq 111 0 112 [1],
 m 112 113 [2],
 u 2 4 114 113 true [3],
 v 114 115 113 true [4,3],
 u 1 1 116 113 true [3],
 v 116 117 113 true [6,3],
 D .lss 115 117 118 113 true [5,7,3],
 q 113 118 119 [3,8],
 m 119 120 [9,3],
 u 3 4 121 120 true [10],
 v 121 122 120 true [11,10],
 E .eql 122 0 123 120 true [12,10],
 q 120 123 124 [10,13],
 m 124 5 (k [14,10] 14)]
def Zk:ai:=[
 C .eql 80 4 126 [],
 m 126 125 [0]]
def Ax:ai:=[
 a 2 4 127 [],
 l 127 128 [0],
 C .geq 128 0 129 [1],
 m 129 130 [2],
 u 2 4 131 130 true [3],
 v 131 132 130 true [4,3],
 u 1 1 133 130 true [3],
 v 133 134 130 true [6,3],
 D .lss 132 134 135 130 true [5,7,3],
 q 130 135 136 [3,8],
 m 136 137 [9,3],
 u 3 4 138 137 true [10],
 v 138 139 137 true [11,10],
 E .geq 139 0 140 137 true [12,10],
 q 137 140 141 [10,13],
 m 141 142 [14,10],
 u 3 4 143 142 true [15],
 v 143 144 142 true [16,15],
 u 1 1 145 142 true [15],
 v 145 146 142 true [18,15],
 D .lss 144 146 147 142 true [17,19,15],
 q 142 147 148 [15,20],
 m 148 5 (k [21,15] 21)]
def Ay:ai:=[
 n 5 149,
 U 149 150 [0]]
def Az:ai:=[
 F 2]
def AA:ai:=[
 n 3 47,
 C .add 47 1 48 [0],
 m 48 3 [1,0,1]]
def Zl:ai:=[
 R 2]
def d20:DC:=(j (y d20r0) (j (j (y yM) (.cond (.tmp 41) (j (y d20r2) .ret) .skip)) (j (j (y d20r3) (.block 0 (.loop (j (j (y d20r4) (.cond (.tmp 46) .skip (.exit 0))) (j (.block 1 (j (y d20r5) (j (j (y Ee) (.cond (.tmp 78) (j (y d20r7) .ret) .skip)) (j (y d20r8) (j (j (y d20r9) (.block 2 (j (y Zh) (.cond (.tmp 81) (y Ix) (j (y Zi) (.cond (.tmp 91) (y Ef) (j (y Zj) (.cond (.tmp 108) (y Eg) (j (y Zk) (.cond (.tmp 125) (y Ax) .skip)))))))))) (j (y Ay) (.cond (.tmp 150) (j (y Az) .ret) .skip))))))) (y AA)))))) (j (y Zl) .ret))))
def sF:List bV:=[.da 2]
def c20 [bI]:aB aj 34 151 d20 sF:=aB.of Tryz.f34 (by kernel_rfl)
def d64r0:ai:=[
 B 0 3,
 I 0 6]
def d64r1:ai:=[
 n 1 8,
 a 1 3 9 [],
 l 9 10 [1],
 b .mul 8 10 11 [0,2],
 n 1 12,
 n 1 13,
 C .sub 13 1 14 [5],
 b .mul 12 14 15 [4,6],
 C .quo 15 2 16 [7],
 b .sub 11 16 17 [3,8],
 m 17 7 (k [9] 9)]
def d64r2:ai:=[
 n 7 18,
 n 2 19,
 b .add 18 19 20 [0,1],
 n 1 21,
 b .sub 20 21 22 [2,3],
 a 0 3 23 [],
 l 23 24 [5],
 b .mul 22 24 25 [4,6],
 m 25 6 (k [7] 7)]
def d64:DC:=(j (y d64r0) (j (y d64r1) (j (y d64r2) .ret)))
def Zm:List bV:=[.da 6]
def c64 [bI]:aB aj 151 26 d64 Zm:=aB.of Tryz.f151 (by kernel_rfl)
def d37r0:ai:=[
 B 0 2,
 B 1 3,
 o (.alloc [V 0,V 0,V 0,V 0]) 4 []]
def Eh:ai:=[
 a 0 3 7 [],
 l 7 8 [0],
 C .lss 8 0 9 [1],
 m 9 10 [2],
 u 0 3 11 10 false [3],
 v 11 12 10 false [4,3],
 u 0 2 13 10 false [3],
 v 13 14 10 false [6,3],
 D .geq 12 14 15 10 false [5,7,3],
 p 10 15 16 [3,8],
 m 16 17 [9,3],
 u 1 3 18 17 false [10],
 v 18 19 17 false [11,10],
 E .lss 19 0 20 17 false [12,10],
 p 17 20 21 [10,13],
 m 21 22 [14,10],
 u 1 3 23 22 false [15],
 v 23 24 22 false [16,15],
 u 2 3 25 22 false [15],
 v 25 26 22 false [18,15],
 D .gtr 24 26 27 22 false [17,19,15],
 p 22 27 28 [15,20],
 m 28 29 [21,15],
 u 2 3 30 29 false [22],
 v 30 31 29 false [23,22],
 u 1 2 32 29 false [22],
 v 32 33 29 false [25,22],
 D .geq 31 33 34 29 false [24,26,22],
 p 29 34 35 [22,27]]
def d37r2:ai:=[
 o (.load 4 true (.gN (.iD [(.int .i64 1099511627776),(.int .i64 0),(.int .i64 (-1)),(.int .i64 0)] 0))) 36 [],
 S 4 4 36 [0,0]]
def d37r3:ai:=[
 a 2 2 37 [],
 l 37 38 [0],
 N 38 39 [1],
 m 39 5 [2,0,1,2]]
def Lc:ai:=[
 a 2 3 40 [],
 l 40 41 [0],
 n 5 42,
 b .gtr 41 42 43 [1,2],
 m 43 44 [3],
 u 1 3 45 44 false [4],
 v 45 46 44 false [5,4],
 E .gtr 46 0 47 44 false [6,4],
 w 47 48 44 false [7,4,4],
 u 1 2 49 48 true [8],
 v 49 50 48 true [9,8],
 w 5 51 48 true [8],
 D .gtr 50 51 52 48 true [10,11,8],
 g (.pick (t 48) (t 52) (.gN (.v (.bool false)))) 53 44 false [8,12,4],
 p 44 53 54 [4,13],
 m 54 55 [14,8],
 u 2 3 56 55 false [15],
 v 56 57 55 false [16,15],
 E .gtr 57 0 58 55 false [17,15],
 w 58 59 55 false [18,15,15],
 u 0 2 60 59 true [19],
 v 60 61 59 true [20,19],
 w 5 62 59 true [19],
 D .gtr 61 62 63 59 true [21,22,19],
 g (.pick (t 59) (t 63) (.gN (.v (.bool false)))) 64 55 false [19,23,15],
 p 55 64 65 [15,24],
 m 65 66 [25,19],
 u 0 3 67 66 false [26],
 v 67 68 66 false [27,26],
 w 5 69 66 false [26],
 D .geq 68 69 70 66 false [28,29,26],
 p 66 70 71 [26,30]]
def d37r5:ai:=[
 o (.load 4 true (.gN (.iD [(.int .i64 1099511627776),(.int .i64 0),(.int .i64 (-1)),(.int .i64 0)] 0))) 72 [],
 S 4 4 72 [0,0]]
def d37r6:ai:=[
 L 3 2 73 [],
 a 1 3 74 [],
 l 74 75 [1],
 a 2 3 76 [],
 l 76 77 [3],
 o (.call 151 [(t 73),(t 75),(t 77)]) 78 [0,2,4],
 a 0 3 79 [],
 l 79 80 [6],
 b .add 78 80 81 [5,7],
 m 81 6 (k [8,5] 8)]
def d37r7:ai:=[
 n 6 82,
 n 5 83,
 b .geq 82 83 84 [0,1]]
def d37r8:ai:=[
 o (.load 4 true (.gN (.iD [(.int .i64 1099511627776),(.int .i64 0),(.int .i64 (-1)),(.int .i64 0)] 0))) 85 [],
 S 4 4 85 [0,0]]
def d37r9:ai:=[
 a 2 2 86 [],
 l 86 87 [0],
 n 6 88,
 x 4 87 88 89 [1,2],
 L 4 89 90 [3],
 S 4 4 90 (k [4] 4)]
def d37:DC:=(j (y d37r0) (j (j (y Eh) (.cond (.tmp 35) (j (y d37r2) .ret) .skip)) (j (y d37r3) (j (j (y Lc) (.cond (.tmp 71) (j (y d37r5) .ret) .skip)) (j (Y d37r6) (j (j (y d37r7) (.cond (.tmp 84) (j (y d37r8) .ret) .skip)) (j (y d37r9) .ret)))))))
def ON:List bV:=[.cell 4 4 true]
def c37:aB aj 144 91 d37 ON:=aB.of Tryz.f144 (by kernel_rfl)
def d56r0:ai:=[
 B 0 2,
 B 1 3,
 F 4]
def Ld:ai:=[
 a 0 2 5 [],
 l 5 6 [0],
 a 0 3 7 [],
 l 7 8 [2],
 b .lss 6 8 9 [1,3],
 m 9 10 [4],
 u 0 2 11 10 false [5],
 v 11 12 10 false [6,5],
 u 0 3 13 10 false [5],
 v 13 14 10 false [8,5],
 D .eql 12 14 15 10 false [7,9,5],
 w 15 16 10 false [10,5,5],
 u 1 2 17 16 true [11],
 v 17 18 16 true [12,11],
 u 1 3 19 16 true [11],
 v 19 20 16 true [14,11],
 D .lss 18 20 21 16 true [13,15,11],
 g (.pick (t 16) (t 21) (.gN (.v (.bool false)))) 22 10 false [11,16,5],
 p 10 22 23 [5,17],
 m 23 4 (k [18,11] 18)]
def d56:DC:=(j (y d56r0) (j (y Ld) .ret))
def Zn:List bV:=[.da 4]
def c56 [bI]:aB aj 84 24 d56 Zn:=aB.of Tryz.f84 (by kernel_rfl)
def d84r0:ai:=[
 o (.alloc [V 0,V 0]) 4 []]
def d84r1:ai:=[
 n 0 8,
 o (.minmax false (t 8) (i 1099511627776)) 9 [0],
 o (.build [V 0,V 0] [(0,1,(t 9)),(1,1,(i 1))]) 10 [1],
 o (.alloc [V 0,V 0]) 5 [],
 S 2 5 10 [3,2,0,1,2,3]]
def d84r2:ai:=[
 n 1 11,
 N 11 12 [0],
 I 0 13]
def d84r3:ai:=[
 b .lss 13 12 14 []]
def d84r4:ai:=[
 x 2 11 13 15 [],
 L 2 15 16 [0],
 o (.alloc [V 0,V 0]) 7 [],
 S 2 7 16 [2,1,0,1,2]]
def d84r5:ai:=[
 a 0 5 17 [],
 l 17 18 [0],
 a 0 7 19 [],
 l 19 20 [2],
 b .add 18 20 21 [1,3],
 o (.minmax false (t 21) (i 1099511627776)) 22 [4],
 a 0 5 23 (k [] 5),
 S 1 23 22 (k [6,5] 5)]
def d84r6:ai:=[
 a 1 5 24 [],
 l 24 25 [0],
 a 1 7 26 [],
 l 26 27 [2],
 b .add 25 27 28 [1,3],
 o (.minmax false (t 28) (i 1099511627776)) 29 [4],
 a 1 5 30 (k [] 5),
 S 1 30 29 (k [6,5] 5)]
def d84r7:ai:=[
 C .add 13 1 31 [],
 m 31 13 [0]]
def d84r8:ai:=[
 a 0 5 32 [],
 l 32 33 [0],
 C .eql 33 1099511627776 34 [1]]
def d84r9:ai:=[
 o (.build [V 0,V 0] [(0,1,(i 1099511627776))]) 35 [],
 S 2 4 35 [0,0]]
def Zo:ai:=[
 L 2 5 36 [],
 S 2 4 36 [0,0]]
def d84:DC:=(j (y d84r0) (j (y d84r1) (j (j (y d84r2) (.block 0 (.loop (j (y d84r3) (j (.cond (.tmp 14) .skip (.exit 0)) (j (.block 1 (j (y d84r4) (j (y d84r5) (y d84r6)))) (y d84r7))))))) (j (j (y d84r8) (.cond (.tmp 34) (j (y d84r9) .ret) .skip)) (j (y Zo) .ret)))))
def OO:List bV:=[.cell 4 2 true]
def c84 [bI]:aB aj 123 37 d84 OO:=aB.of Tryz.f123 (by kernel_rfl)
def d86r0:ai:=[
 B 0 2,
 F 4]
def Ei:ai:=[
 a 0 2 5 [],
 l 5 6 [0],
 C .eql 6 3 7 [1],
 m 7 8 [2],
 u 2 2 9 8 true [3],
 v 9 10 8 true [4,3],
 w 1 11 8 true [3],
 D .eql 10 11 12 8 true [5,6,3],
 q 8 12 13 [3,7],
 m 13 14 [8,3],
 u 0 2 15 14 false [9],
 v 15 16 14 false [10,9],
 E .eql 16 4 17 14 false [11,9],
 w 17 18 14 false [12,9,9],
 u 2 2 19 18 true [13],
 v 19 20 18 true [14,13],
 w 1 21 18 true [13],
 D .eql 20 21 22 18 true [15,16,13],
 w 22 23 18 true [17,13,13],
 u 3 2 24 23 false [18],
 v 24 25 23 false [19,18],
 w 1 26 23 false [18],
 D .eql 25 26 27 23 false [20,21,18],
 g (.pick (t 23) (.gN (.v (.bool true))) (t 27)) 28 18 true [18,22,13],
 g (.pick (t 18) (t 28) (.gN (.v (.bool false)))) 29 14 false [13,23,9],
 p 14 29 30 [9,24],
 m 30 4 (k [25,18] 25)]
def d86:DC:=(j (y d86r0) (j (y Ei) .ret))
def Zp:List bV:=[.da 4]
def c86 [bI]:aB aj 125 31 d86 Zp:=aB.of Tryz.f125 (by kernel_rfl)
def d83r0:ai:=[
 o (.alloc [V 0,V 0]) 8 []]
def Q0:ai:=[
 n 2 9,
 n 0 10,
 c 10 11 [1],
 a 10 11 12 [2],
 l 12 13 [3],
 b .eql 9 13 14 [0,4],
 m 14 15 [5],
 w 3 16 15 true [6],
 w 0 17 15 true [6],
 g (.nilCheck (t 17)) 18 15 true [8,6],
 u 11 18 19 15 true [9,6],
 v 19 20 15 true [10,6],
 D .eql 16 20 21 15 true [7,11,6],
 q 15 21 22 [6,12]]
def d83r2:ai:=[
 n 0 23,
 c 23 24 [0],
 a 12 24 25 [1],
 l 25 26 [2],
 n 1 27,
 x 2 26 27 28 [3,4],
 L 2 28 29 [5],
 S 2 8 29 (k [6] 6)]
def d83r3:ai:=[
 n 0 30,
 c 30 31 [0],
 a 7 31 32 [1],
 L 3 32 33 [2],
 n 1 34,
 n 2 35,
 n 3 36,
 o (.build [V 0,V 0,V 0] [(0,1,(t 34)),(1,1,(t 35)),(2,1,(t 36))]) 37 [4,5,6],
 o (.call 144 [(t 33),(t 37)]) 38 [3,7],
 o (.field 0 2 true (t 38)) 39 [8],
 S 2 8 39 (k [9,8] 9)]
def d83:DC:=(j (y d83r0) (j (j (y Q0) (.cond (.tmp 22) (j (y d83r2) .ret) .skip)) (j (y d83r3) .ret)))
def OP:List bV:=[.cell 8 2 true]
def c83 [bI]:aB aj 122 40 d83 OP:=aB.of Tryz.f122 (by kernel_rfl)
def Zq:ai:=[
 F 4]
def Zr:ai:=[
 n 1 7,
 N 7 8 [0],
 I 0 9]
def Zs:ai:=[
 b .lss 9 8 10 []]
def d59r3:ai:=[
 x 3 7 9 11 [],
 L 3 11 12 [0],
 o (.alloc [V 0,V 0,V 0]) 6 [],
 S 3 6 12 [2,1,0,1,2]]
def Ra:ai:=[
 a 1 6 13 [],
 l 13 14 [0],
 n 0 15,
 c 15 16 [2],
 a 10 16 17 [3],
 l 17 18 [4],
 b .eql 14 18 19 [1,5],
 m 19 20 [6],
 u 2 6 21 20 true [7],
 v 21 22 20 true [8,7],
 w 0 23 20 true [7],
 g (.nilCheck (t 23)) 24 20 true [10,7],
 u 11 24 25 20 true [11,7],
 v 25 26 20 true [12,7],
 D .eql 22 26 27 20 true [9,13,7],
 q 20 27 28 [7,14]]
def d59r5:ai:=[
 R 4]
def d59r6:ai:=[
 C .add 9 1 29 [],
 m 29 9 [0]]
def Zt:ai:=[
 F 4]
def d59:DC:=(j (y Zq) (j (j (y Zr) (.block 0 (.loop (j (y Zs) (j (.cond (.tmp 10) .skip (.exit 0)) (j (.block 1 (j (y d59r3) (j (Y Ra) (.cond (.tmp 28) (j (y d59r5) .ret) .skip)))) (y d59r6))))))) (j (y Zt) .ret)))
def Iy:List bV:=[.da 4]
def c59 [bI]:aB aj 87 30 d59 Iy:=aB.of Tryz.f87 (by kernel_rfl)
def Zu:ai:=[
 o (.alloc [V 0,V 0]) 6 []]
def Zv:ai:=[
 Z 7]
def Zw:ai:=[
 n 2 10,
 N 10 11 [0],
 I 0 12]
def Zx:ai:=[
 b .lss 12 11 13 []]
def d61r4:ai:=[
 x 3 10 12 14 [],
 L 3 14 15 [0],
 o (.alloc [V 0,V 0,V 0]) 9 [],
 S 3 9 15 [2,1,0,1,2]]
def OQ:ai:=[
 n 7 16,
 n 0 17,
 a 0 9 18 [],
 l 18 19 [2],
 a 1 9 20 [],
 l 20 21 [4],
 a 2 9 22 [],
 l 22 23 [6],
 o (.callS 122 [(t 17),(t 19),(t 21),(t 23)]) 24 [1,3,5,7],
 o (.bslice 1 2 [V 0,V 0] [(0,2,(t 24))]) 25 [8],
 o (.append 63 2 16 (t 16) (t 25)) 26 [0,9,8],
 m 26 7 (k [10,10] 10)]
def d61r5:ai:=OQ.map bare
def d61r6:ai:=[
 C .add 12 1 27 [],
 m 27 12 [0]]
def Zy:ai:=[
 n 1 28,
 n 7 29,
 o (.call 123 [(t 28),(t 29)]) 30 [0,1],
 S 2 6 30 [2,2,0,1,2]]
def d61:DC:=(j (y Zu) (j (y Zv) (j (j (y Zw) (.block 0 (.loop (j (y Zx) (j (.cond (.tmp 13) .skip (.exit 0)) (j (.block 1 (j (y d61r4) (y d61r5))) (y d61r6))))))) (j (y Zy) .ret))))
def OR:List bV:=[.cell 6 2 true]
def c61 [bI]:aB aj 89 31 d61 OR:=aB.of Tryz.f89 (by kernel_rfl)
def d89r0:ai:=[
 F 4]
def d89r1:ai:=[
 n 1 7,
 N 7 8 [0],
 I 0 9]
def d89r2:ai:=[
 b .lss 9 8 10 []]
def d89r3:ai:=[
 x 3 7 9 11 [],
 L 3 11 12 [0],
 o (.alloc [V 0,V 0,V 0]) 6 [],
 S 3 6 12 [2,1,0,1,2]]
def Rb:ai:=[
 a 1 6 13 [],
 l 13 14 [0],
 n 0 15,
 c 15 16 [2],
 a 10 16 17 [3],
 l 17 18 [4],
 b .eql 14 18 19 [1,5],
 m 19 20 [6],
 u 2 6 21 20 true [7],
 v 21 22 20 true [8,7],
 w 0 23 20 true [7],
 g (.nilCheck (t 23)) 24 20 true [10,7],
 u 11 24 25 20 true [11,7],
 v 25 26 20 true [12,7],
 D .eql 22 26 27 20 true [9,13,7],
 q 20 27 28 [7,14],
 m 28 29 [15,7],
 w 0 30 29 true [16],
 g (.nilCheck (t 30)) 31 29 true [17,16],
 u 13 31 32 29 true [18,16],
 v 32 33 29 true [19,16],
 u 0 6 34 29 true [16],
 v 34 35 29 true [21,16],
 g (.idxAddr 1 (t 33) (t 35)) 36 29 true [20,22,16],
 v 36 37 29 true [23,16],
 K 37 38 29 true [24,16],
 q 29 38 39 [16,25]]
def d89r5:ai:=[
 F 4]
def d89r6:ai:=[
 C .add 9 1 40 [],
 m 40 9 [0]]
def d89r7:ai:=[
 R 4]
def d89:DC:=(j (y d89r0) (j (j (y d89r1) (.block 0 (.loop (j (y d89r2) (j (.cond (.tmp 10) .skip (.exit 0)) (j (.block 1 (j (y d89r3) (j (Y Rb) (.cond (.tmp 39) (j (y d89r5) .ret) .skip)))) (y d89r6))))))) (j (y d89r7) .ret)))
def OS:List bV:=[.da 4]
def c89 [bI]:aB aj 128 41 d89 OS:=aB.of Tryz.f128 (by kernel_rfl)
def Lf:ai:=[
 o (.qu (.gN (.v (.mg (Go.Value.pointer Option.none))))) 2 []]
def Lg:ai:=[
 n 0 3,
 o (.mkMap [(.int .i64)] false) 4 [],
 o (.build [(.v (.mg (Go.Value.nilFunc))),.aW,(.v (.mg (Go.Value.map Option.none))),V 0,V 0] [(0,1,(t 3)),(2,1,(t 4))]) 5 [0,1],
 o (.box (t 5)) 6 [2],
 m 6 2 [3,0,1,2,3]]
def d54:DC:=(j (y Lf) (j (y Lg) .ret))
def AB:List bV:=[.da 2]
def c54 [bI]:aB aj 82 7 d54 AB:=aB.of Tryz.f82 (by kernel_rfl)
def Zz:ai:=[
 F 6]
def OT:ai:=[
 n 0 9,
 c 9 10 [0],
 a 1 10 11 [1],
 l 11 12 [2],
 n 1 13,
 x 3 12 13 14 [3,4],
 L 3 14 15 [5],
 n 0 16,
 c 16 17 [7],
 a 1 17 18 [8],
 l 18 19 [9],
 n 2 20,
 x 3 19 20 21 [10,11],
 L 3 21 22 [12],
 o (.alloc [V 0,V 0,V 0]) 7 [],
 o (.alloc [V 0,V 0,V 0]) 8 [],
 S 3 7 15 [14,6,0,1,2,3,4,5,6,14,15],
 S 3 8 22 (k [15,13,16] 16)]
def ZA:ai:=[
 n 0 23,
 c 23 24 [0],
 a 0 24 25 [1],
 l 25 26 [2],
 a 0 7 27 [],
 l 27 28 [4],
 a 0 8 29 [],
 l 29 30 [6],
 o (.callv (t 26) [(t 28),(t 30)]) 31 [3,5,7]]
def ZB:ai:=[
 R 6]
def OU:ai:=[
 n 0 32,
 c 32 33 [0],
 a 0 33 34 [1],
 l 34 35 [2],
 a 0 8 36 [],
 l 36 37 [4],
 a 0 7 38 [],
 l 38 39 [6],
 o (.callv (t 35) [(t 37),(t 39)]) 40 [3,5,7],
 U 40 41 [8],
 m 41 42 [9,8],
 u 2 7 43 42 true [10],
 v 43 44 42 true [11,10],
 u 2 8 45 42 true [10],
 v 45 46 42 true [13,10],
 D .lss 44 46 47 42 true [12,14,10],
 q 42 47 48 [10,15],
 m 48 6 (k [16,10] 16)]
def d117:DC:=(j (y Zz) (j (.jr OT) (j (j (Y ZA) (.cond (.tmp 31) (j (y ZB) .ret) .skip)) (j (Y OU) .ret))))
def Iz:List bV:=[.da 6]
def c117 [bI]:aB aj 150 49 d117 Iz:=aB.of Tryz.f150 (by kernel_rfl)
def ZC:ai:=[
 n 0 6,
 c 6 7 [0],
 a 1 7 8 [1],
 l 8 9 [2],
 n 1 10,
 n 0 11,
 c 11 12 [5],
 a 1 12 13 [6],
 l 13 14 [7],
 n 2 15,
 n 0 16,
 c 16 17 [10],
 a 1 17 18 [11],
 l 18 19 [12],
 n 2 20,
 x 3 19 20 21 [13,14],
 L 3 21 22 [15],
 n 0 23,
 c 23 24 [17],
 a 1 24 25 [18],
 l 25 26 [19],
 n 1 27,
 x 3 26 27 28 [20,21],
 L 3 28 29 [22],
 x 3 9 10 30 [3,4,0,1,2,3,4,8,10,11,12,13,14,15,16,20,23],
 S 3 30 22 [24,16,0,1,2,3,4,8,10,11,12,13,14,15,16,20,23],
 x 3 14 15 31 (k [8,9] 25),
 S 3 31 29 (k [26,23,25] 25)]
def ZD:ai:=[
 n 0 32,
 c 32 33 [0],
 a 2 33 34 [1],
 l 34 35 [2],
 n 0 36,
 c 36 37 [4],
 a 1 37 38 [5],
 l 38 39 [6],
 n 1 40,
 x 3 39 40 41 [7,8],
 a 1 41 42 [9],
 l 42 43 [10],
 n 0 44,
 c 44 45 [12],
 a 2 45 46 [13],
 l 46 47 [14],
 n 0 48,
 c 48 49 [16],
 a 1 49 50 [17],
 l 50 51 [18],
 n 2 52,
 x 3 51 52 53 [19,20],
 a 1 53 54 [21],
 l 54 55 [22],
 n 1 56,
 n 2 57,
 o (.mapEnt [(.int .i64)] false (.v (.int .i64 0)) (t 35) (t 43)) 58 [3,11,15,19,23],
 e 1 58 59 [26],
 s (.entSt (t 35) (t 59) (t 56)) [3,27,24,26,0,1,2,3,4,5,6,7,8,9,10,11,15,19,23,24,26],
 o (.mapEnt [(.int .i64)] false (.v (.int .i64 0)) (t 47) (t 55)) 60 [15,23,28,0,1,2,3,4,5,6,7,8,9,10,11,15,19,23,24,26,27,28],
 e 1 60 61 [29],
 s (.entSt (t 47) (t 61) (t 57)) (k [15,30,25,29] 29)]
def d111:DC:=(j (Y ZC) (Y ZD))
def Rc:List bV:=[]
def c111 [bI]:aB aj 145 62 d111 Rc:=aB.of Tryz.f145 (by kernel_rfl)
def yN:ai:=[
 n 1 4,
 C .gtr 4 0 5 [0],
 m 5 6 [1],
 w 0 7 6 true [2],
 w 1 8 6 true [2],
 w 1 9 6 true [2],
 E .sub 9 1 10 6 true [5,2],
 E .quo 10 2 11 6 true [6,2],
 g (.callS 150 [(t 7),(t 8),(t 11)]) 12 6 true [3,4,7,2,2],
 q 6 12 13 [2,8]]
def d109r0:ai:=yN.map bare
def IA:ai:=[
 n 0 14,
 n 1 15,
 n 1 16,
 C .sub 16 1 17 [2],
 C .quo 17 2 18 [3],
 o (.callS 145 [(t 14),(t 15),(t 18)]) 19 [0,1,4]]
def d109r1:ai:=IA.map bare
def ZE:ai:=[
 n 1 20,
 C .sub 20 1 21 [0],
 C .quo 21 2 22 [1],
 m 22 1 [2,0,1,2]]
def d109:DC:=(.block 0 (.loop (j (j (y d109r0) (.cond (.tmp 13) .skip (.exit 0))) (.block 1 (j (y d109r1) (y ZE))))))
def IB:List bV:=[]
def c109 [bI]:aB aj 142 23 d109 IB:=aB.of Tryz.f142 (by kernel_rfl)
def ZF:ai:=[
 n 1 6,
 m 6 4 [0,0]]
def ZG:ai:=[
 n 1 7,
 o (.bin .mul (i 2) (t 7)) 8 [0],
 C .add 8 1 9 [1],
 m 9 5 [2,0,1,2]]
def IC:ai:=[
 n 5 10,
 n 1 11,
 o (.bin .mul (i 2) (t 11)) 12 [1],
 C .add 12 2 13 [2],
 b .leq 10 13 14 [0,3],
 m 14 15 [4],
 w 5 16 15 true [5],
 w 0 17 15 true [5],
 g (.nilCheck (t 17)) 18 15 true [7,5],
 u 1 18 19 15 true [8,5],
 v 19 20 15 true [9,5],
 H 20 21 15 true [10,5],
 D .lss 16 21 22 15 true [6,11,5],
 q 15 22 23 [5,12]]
def ID:ai:=[
 n 0 26,
 n 5 27,
 n 4 28,
 o (.callS 150 [(t 26),(t 27),(t 28)]) 29 [0,1,2]]
def d110r3:ai:=ID.map bare
def ZH:ai:=[
 n 5 30,
 m 30 4 [0,0]]
def ZI:ai:=[
 n 5 24,
 C .add 24 1 25 [0],
 m 25 5 [1,0,1]]
def ZJ:ai:=[
 n 4 31,
 n 1 32,
 b .eql 31 32 33 [0,1]]
def IE:ai:=[
 n 0 34,
 n 1 35,
 n 4 36,
 o (.callS 145 [(t 34),(t 35),(t 36)]) 37 [0,1,2]]
def d110r7:ai:=IE.map bare
def ZK:ai:=[
 n 4 38,
 m 38 1 [0,0]]
def d110:DC:=(.block 0 (.loop (.block 1 (j (y ZF) (j (j (y ZG) (.block 2 (.loop (j (j (y IC) (.cond (.tmp 23) .skip (.exit 2))) (j (.block 3 (j (y d110r3) (.cond (.tmp 29) (y ZH) .skip))) (y ZI)))))) (j (j (y ZJ) (.cond (.tmp 33) .ret .skip)) (j (y d110r7) (y ZK))))))))
def Rd:List bV:=[]
def c110 [bI]:aB aj 143 39 d110 Rd:=aB.of Tryz.f143 (by kernel_rfl)
def d82r0:ai:=[
 I 0 4]
def d82r1:ai:=[
 n 0 7,
 c 7 8 [0],
 a 3 8 9 [1],
 l 9 10 [2],
 n 0 11,
 c 11 12 [4],
 a 1 12 13 [5],
 l 13 14 [6],
 N 14 15 [7],
 m 10 5 [3,0,1,2,3],
 m 15 6 (k [8,9] 9)]
def d82r2:ai:=[
 n 0 16,
 n 0 17,
 c 17 18 [1],
 a 1 18 19 [2],
 l 19 20 [3],
 n 1 21,
 n 5 22,
 n 0 23,
 c 23 24 [7],
 a 4 24 25 [8],
 l 25 26 [9],
 o (.build [V 0,V 0,V 0] [(0,1,(t 21)),(1,1,(t 22)),(2,1,(t 26))]) 27 [5,6,10],
 o (.bslice 1 3 [V 0,V 0,V 0] [(0,3,(t 27))]) 28 [11],
 o (.append 220 3 24 (t 20) (t 28)) 29 [4,12],
 c 16 30 (k [0] 13),
 a 1 30 31 (k [14] 13),
 S 1 31 29 (k [15,13,13] 13)]
def d82r3:ai:=[
 n 0 32,
 c 32 33 [0],
 a 2 33 34 [1],
 l 34 35 [2],
 n 5 36,
 n 6 37,
 s (.mapUpd [(.int .i64)] false (t 35) (t 36) (t 37)) (k [3,4,5] 5)]
def d82r4:ai:=[
 n 0 38,
 n 0 39,
 n 0 40,
 c 40 41 [2],
 a 3 41 42 [3],
 l 42 43 [4],
 C .add 43 1 44 [5],
 n 0 45,
 c 45 46 [7],
 a 4 46 47 [8],
 l 47 48 [9],
 C .add 48 1 49 [10],
 c 38 50 [0,0,2,3,4,5,6,10],
 a 3 50 51 [12,0,2,3,4,5,6,10],
 S 1 51 44 [13,6,0,2,3,4,5,6,10],
 c 39 52 (k [1] 14),
 a 4 52 53 (k [15] 14),
 S 1 53 49 (k [16,11,14] 14)]
def OV:ai:=[
 n 0 54,
 n 6 55,
 o (.callS 142 [(t 54),(t 55)]) 56 [0,1]]
def d82r5:ai:=OV.map bare
def d82r6:ai:=[
 n 5 57,
 m 57 4 [0,0]]
def d82:DC:=(j (y d82r0) (j (Y d82r1) (j (Y d82r2) (j (y d82r3) (j (Y d82r4) (j (y d82r5) (j (y d82r6) .ret)))))))
def ZL:List bV:=[.da 4]
def c82 [bI]:aB aj 121 58 d82 ZL:=aB.of Tryz.f121 (by kernel_rfl)
def d85r0:ai:=[
 I 0 2,
 o (.qu (.gN (.v (.bool false)))) 3 [0]]
def d85r1:ai:=[
 n 0 6,
 c 6 7 [0],
 a 1 7 8 [1],
 l 8 9 [2],
 N 9 10 [3],
 C .eql 10 0 11 [4]]
def d85r2:ai:=[
 o (.alloc [V 0]) 12 [],
 c 12 13 [0],
 l 13 14 [1],
 m 14 2 [2,0,1,2],
 o (.qu (.gN (.v (.bool false)))) 3 [3,0,1,2,3]]
def ZM:ai:=[
 n 0 15,
 c 15 16 [0],
 a 1 16 17 [1],
 l 17 18 [2],
 o (.idxAddr 3 (t 18) (i 0)) 19 [3],
 L 3 19 20 [4],
 n 0 21,
 c 21 22 [6],
 a 1 22 23 [7],
 l 23 24 [8],
 N 24 25 [9],
 C .sub 25 1 26 [10],
 o (.alloc [V 0,V 0,V 0]) 4 [],
 S 3 4 20 [12,5,0,1,2,3,4,5,12],
 m 26 5 (k [11,13] 13)]
def OW:ai:=[
 n 0 27,
 n 5 28,
 o (.callS 145 [(t 27),(i 0),(t 28)]) 29 [0,1]]
def d85r4:ai:=OW.map bare
def d85r5:ai:=[
 n 0 30,
 n 0 31,
 c 31 32 [1],
 a 1 32 33 [2],
 l 33 34 [3],
 n 5 35,
 o (.slice 3 (t 34) none (some (t 35))) 36 [4,5],
 c 30 37 (k [0] 6),
 a 1 37 38 (k [7] 6),
 S 1 38 36 (k [8,6] 6)]
def d85r6:ai:=[
 n 0 39,
 c 39 40 [0],
 a 2 40 41 [1],
 l 41 42 [2],
 a 1 4 43 [],
 l 43 44 [4],
 s (.mapDel [(.int .i64)] false (t 42) (t 44)) [3,5]]
def OX:ai:=[
 n 0 45,
 o (.callS 143 [(t 45),(i 0)]) 46 [0]]
def d85r7:ai:=OX.map bare
def d85r8:ai:=[
 a 0 4 47 [],
 l 47 48 [0],
 m 48 2 [1,0,1],
 o (.qu (.gN (.v (.bool true)))) 3 [2,0,1,2]]
def d85:DC:=(j (y d85r0) (j (j (y d85r1) (.cond (.tmp 11) (j (y d85r2) .ret) .skip)) (j (.jr ZM) (j (y d85r4) (j (y d85r5) (j (Y d85r6) (j (y d85r7) (j (y d85r8) .ret))))))))
def OY:List bV:=[.da 2,.da 3]
def c85 [bI]:aB aj 124 49 d85 OY:=aB.of Tryz.f124 (by kernel_rfl)
def d81r0:ai:=[
 F 6]
def d81r1:ai:=[
 n 0 10,
 c 10 11 [0],
 a 2 11 12 [1],
 l 12 13 [2],
 n 1 14,
 o (.lookup [(.int .i64)] false (.v (.int .i64 0)) true (t 13) (t 14)) 15 [3,4],
 m 15 9 [5],
 e 0 9 16 [6],
 e 1 9 17 [6],
 m 16 7 (k [7] 7),
 m 17 8 (k [8,9] 9)]
def d81r2:ai:=[
 n 8 18,
 U 18 19 [0]]
def d81r3:ai:=[
 F 6]
def d81r4:ai:=[
 n 0 20,
 c 20 21 [0],
 a 1 21 22 [1],
 l 22 23 [2],
 n 7 24,
 n 0 25,
 c 25 26 [5],
 a 1 26 27 [6],
 l 27 28 [7],
 n 7 29,
 n 2 30,
 n 0 31,
 c 31 32 [11],
 a 4 32 33 [12],
 l 33 34 [13],
 x 3 23 24 35 [3,4,0,1,2,3,4,8,10,14],
 a 0 35 36 [15,0,1,2,3,4,8,10,14],
 S 1 36 30 [16,10,0,1,2,3,4,8,10,14],
 x 3 28 29 37 (k [8,9] 17),
 a 2 37 38 (k [18] 17),
 S 1 38 34 (k [19,14,17] 17)]
def d81r5:ai:=[
 n 0 39,
 c 39 40 [0],
 a 4 40 41 [1],
 l 41 42 [2],
 C .add 42 1 43 [3],
 c 39 44 (k [0] 4),
 a 4 44 45 (k [5] 4),
 S 1 45 43 (k [6,4] 4)]
def OZ:ai:=[
 n 0 46,
 n 7 47,
 o (.callS 142 [(t 46),(t 47)]) 48 [0,1]]
def d81r6:ai:=OZ.map bare
def O0:ai:=[
 n 0 49,
 n 0 50,
 c 50 51 [1],
 a 2 51 52 [2],
 l 52 53 [3],
 n 1 54,
 o (.lookup [(.int .i64)] false (.v (.int .i64 0)) false (t 53) (t 54)) 55 [4,5],
 o (.callS 143 [(t 49),(t 55)]) 56 [0,6]]
def d81r7:ai:=O0.map bare
def d81r8:ai:=[
 R 6]
def d81:DC:=(j (y d81r0) (j (y d81r1) (j (j (y d81r2) (.cond (.tmp 19) (j (y d81r3) .ret) .skip)) (j (Y d81r4) (j (y d81r5) (j (y d81r6) (j (y d81r7) (j (y d81r8) .ret))))))))
def ZN:List bV:=[.da 6]
def c81 [bI]:aB aj 120 57 d81 ZN:=aB.of Tryz.f120 (by kernel_rfl)
def Lh:ai:=[
 B 2 5]
def BM:ai:=[
 n 0 6,
 c 6 7 [0],
 a 13 7 8 [1],
 l 8 9 [2],
 n 1 10,
 x 1 9 10 11 [3,4],
 l 11 12 [5],
 m 12 13 [6],
 u 0 5 14 13 false [7],
 v 14 15 13 false [8,7],
 E .geq 15 1099511627776 16 13 false [9,7],
 p 13 16 17 [7,10],
 m 17 18 [11,7],
 g (.load 2 true (t 5)) 19 18 false [12],
 w 0 20 18 false [12],
 g (.nilCheck (t 20)) 21 18 false [14,12],
 u 12 21 22 18 false [15,12],
 v 22 23 18 false [16,12],
 w 1 24 18 false [12],
 g (.idxAddr 2 (t 23) (t 24)) 25 18 false [17,18,12],
 g (.load 2 true (t 25)) 26 18 false [19,12],
 g (.call 84 [(t 19),(t 26)]) 27 18 false [13,20,12,12],
 K 27 28 18 false [21,12],
 p 18 28 29 [12,22]]
def Li:ai:=[
 n 0 30,
 c 30 31 [0],
 a 12 31 32 [1],
 l 32 33 [2],
 n 1 34,
 L 2 5 35 [],
 x 2 33 34 36 (k [3,4] 5),
 S 2 36 35 (k [6,5] 5)]
def Lj:ai:=[
 n 0 37,
 c 37 38 [0],
 a 14 38 39 [1],
 l 39 40 [2],
 n 1 41,
 x 1 40 41 42 [3,4],
 l 42 43 [5],
 C .geq 43 0 44 [6]]
def Re:ai:=[
 n 0 45,
 c 45 46 [0],
 a 15 46 47 [1],
 l 47 48 [2],
 n 0 49,
 c 49 50 [4],
 a 14 50 51 [5],
 l 51 52 [6],
 n 1 53,
 x 1 52 53 54 [7,8],
 l 54 55 [9],
 n 1 56,
 o (.call 120 [(t 48),(t 55),(t 56)]) 57 [3,10,11]]
def ZO:ai:=[
 n 0 45,
 c 45 46 [0],
 a 15 46 47 [1],
 l 47 48 [2],
 n 0 49,
 c 49 50 [4],
 a 14 50 51 [5],
 l 51 52 [6],
 n 1 53,
 x 1 52 53 54 [7,8],
 l 54 55 [9],
 n 1 56,
 o (.callS 120 [(t 48),(t 55),(t 56)]) 57 [3,10,11]]
def Rf:ai:=[
 n 0 58,
 c 58 59 [0],
 a 14 59 60 [1],
 l 60 61 [2],
 n 1 62,
 n 0 63,
 c 63 64 [5],
 a 15 64 65 [6],
 l 65 66 [7],
 n 1 67,
 o (.call 121 [(t 66),(t 67)]) 68 [8,9],
 x 1 61 62 69 (k [3,4] 10),
 S 1 69 68 (k [11,10,10] 10)]
def ZP:ai:=[
 n 0 58,
 c 58 59 [0],
 a 14 59 60 [1],
 l 60 61 [2],
 n 1 62,
 n 0 63,
 c 63 64 [5],
 a 15 64 65 [6],
 l 65 66 [7],
 n 1 67,
 o (.callS 121 [(t 66),(t 67)]) 68 [8,9],
 x 1 61 62 69 (k [3,4] 10),
 S 1 69 68 (k [11,10,10] 10)]
def d60:DC:=(j (y Lh) (j (j (Y BM) (.cond (.tmp 29) .ret .skip)) (j (Y Li) (j (y Lj) (.cond (.tmp 44) (Y Re) (Y Rf))))))
def wU:List bV:=[]
def c60 [bI]:aB aj 88 70 d60 wU:=aB.of Tryz.f88 (by kernel_rfl)
def ZQ:ai:=[
 I 0 4]
def ZR:ai:=[
 n 0 8,
 I 0 5,
 m 8 6 [0,1,0,1]]
def ZS:ai:=[
 n 5 9,
 n 6 10,
 b .lss 9 10 11 [0,1]]
def ZT:ai:=[
 n 5 12,
 n 6 13,
 b .add 12 13 14 [0,1],
 o (.conv .u64 (t 14)) 15 [2],
 o (.bin .shr (t 15) (.gN (.v (.int .u64 1)))) 16 [3],
 o (.conv .i64 (t 16)) 17 [4],
 m 17 7 (k [5] 5)]
def ZU:ai:=[
 n 1 18,
 n 7 19,
 o (.callv (t 18) [(t 19)]) 20 [0,1],
 U 20 21 [2]]
def ZV:ai:=[
 n 7 22,
 C .add 22 1 23 [0],
 m 23 5 [1,0,1]]
def ZW:ai:=[
 n 7 24,
 m 24 6 [0,0]]
def ZX:ai:=[
 n 5 25,
 m 25 4 [0,0]]
def d107:DC:=(j (y ZQ) (j (y ZR) (j (.block 0 (.loop (j (j (y ZS) (.cond (.tmp 11) .skip (.exit 0))) (.block 1 (j (y ZT) (j (y ZU) (.cond (.tmp 21) (y ZV) (y ZW)))))))) (j (y ZX) .ret))))
def Rg:List bV:=[.da 4]
def c107 [bI]:aB aj 140 26 d107 Rg:=aB.of Tryz.f140 (by kernel_rfl)
def ZY:ai:=[
 F 3]
def ZZ:ai:=[
 l 1 5 [],
 c 5 6 [0],
 a 4 6 7 [1],
 a 1 7 8 [2],
 l 8 9 [3],
 n 0 10,
 x 5 9 10 11 [4,5],
 L 5 11 12 [6],
 o (.alloc [V 0,V 0,V 0,V 0,.aW]) 4 [],
 S 5 4 12 (k [8,7] 8)]
def Ej:ai:=[
 a 0 4 13 [],
 l 13 14 [0],
 l 1 15 [],
 c 15 16 [2],
 a 10 16 17 [3],
 l 17 18 [4],
 b .gtr 14 18 19 [1,5],
 m 19 20 [6],
 u 0 4 21 20 false [7],
 v 21 22 20 false [8,7],
 v 1 23 20 false [7],
 g (.nilCheck (t 23)) 24 20 false [10,7],
 u 10 24 25 20 false [11,7],
 v 25 26 20 false [12,7],
 D .eql 22 26 27 20 false [9,13,7],
 w 27 28 20 false [14,7,7],
 u 1 4 29 28 true [15],
 v 29 30 28 true [16,15],
 v 1 31 28 true [15],
 g (.nilCheck (t 31)) 32 28 true [18,15],
 u 11 32 33 28 true [19,15],
 v 33 34 28 true [20,15],
 D .geq 30 34 35 28 true [17,21,15],
 g (.pick (t 28) (t 35) (.gN (.v (.bool false)))) 36 20 false [15,22,7],
 p 20 36 37 [7,23],
 m 37 3 (k [24,15] 24)]
def d108:DC:=(j (y ZY) (j (y ZZ) (j (Y Ej) .ret)))
def Rh:List bV:=[.da 3]
def c108 [bI]:aB aj 141 38 d108 Rh:=aB.of Tryz.f141 (by kernel_rfl)
def d80r0:ai:=[
 B 0 1,
 I 0 2,
 o (.qu (i 0)) 3 [1]]
def O1:ai:=[
 l 1 6 [],
 c 6 7 [0],
 a 4 7 8 [1],
 a 1 8 9 [2],
 l 9 10 [3],
 N 10 11 [4],
 o (.mkFn (.func 141) [(t 1)]) 12 [],
 o (.callS 140 [(t 11),(t 12)]) 13 [5,6],
 m 13 4 (k [7,7] 7)]
def d80r1:ai:=O1.map bare
def d80r2:ai:=[
 n 4 14,
 m 14 5 [0,0]]
def Ll:ai:=[
 n 5 15,
 l 1 16 [],
 c 16 17 [1],
 a 4 17 18 [2],
 a 1 18 19 [3],
 l 19 20 [4],
 N 20 21 [5],
 b .lss 15 21 22 [0,6],
 m 22 23 [7],
 v 1 24 23 true [8],
 g (.nilCheck (t 24)) 25 23 true [9,8],
 u 4 25 26 23 true [10,8],
 u 1 26 27 23 true [11,8],
 v 27 28 23 true [12,8],
 w 5 29 23 true [8],
 g (.idxAddr 5 (t 28) (t 29)) 30 23 true [13,14,8],
 u 0 30 31 23 true [15,8],
 v 31 32 23 true [16,8],
 v 1 33 23 true [8],
 g (.nilCheck (t 33)) 34 23 true [18,8],
 u 10 34 35 23 true [19,8],
 v 35 36 23 true [20,8],
 D .eql 32 36 37 23 true [17,21,8],
 q 23 37 38 [8,22],
 m 38 39 [23,8],
 v 1 40 39 true [24],
 g (.nilCheck (t 40)) 41 39 true [25,24],
 u 4 41 42 39 true [26,24],
 u 1 42 43 39 true [27,24],
 v 43 44 39 true [28,24],
 w 5 45 39 true [24],
 g (.idxAddr 5 (t 44) (t 45)) 46 39 true [29,30,24],
 u 1 46 47 39 true [31,24],
 v 47 48 39 true [32,24],
 v 1 49 39 true [24],
 g (.nilCheck (t 49)) 50 39 true [34,24],
 u 11 50 51 39 true [35,24],
 v 51 52 39 true [36,24],
 D .eql 48 52 53 39 true [33,37,24],
 q 39 53 54 [24,38]]
def d80r4:ai:=[
 n 5 55,
 C .add 55 1 56 [0],
 m 56 5 [1,0,1]]
def d80r5:ai:=[
 n 4 57,
 n 5 58,
 m 57 2 [0,0],
 m 58 3 [1,2,0,1,2]]
def d80:DC:=(j (y d80r0) (j (y d80r1) (j (y d80r2) (j (.block 0 (.loop (j (j (Y Ll) (.cond (.tmp 54) .skip (.exit 0))) (.block 1 (y d80r4))))) (j (y d80r5) .ret)))))
def Z0:List bV:=[.da 2,.da 3]
def c80 [bI]:aB aj 119 59 d80 Z0:=aB.of Tryz.f119 (by kernel_rfl)
def d57r0:ai:=[
 B 1 4]
def d57r1:ai:=[
 a 0 4 10 [],
 l 10 11 [0]]
def d57r2:ai:=[
 C .eql 11 1 13 [],
 m 13 12 [0]]
def d57r3:ai:=[
 n 0 14,
 c 14 15 [0],
 a 10 15 16 [1],
 l 16 17 [2],
 n 0 18,
 c 18 19 [4],
 a 11 19 20 [5],
 l 20 21 [6],
 b .eql 17 21 22 [3,7]]
def d57r4:ai:=[
 n 2 23,
 n 0 24,
 c 24 25 [1],
 a 10 25 26 [2],
 l 26 27 [3],
 a 4 4 28 [],
 l 28 29 [5],
 o (.callv (t 23) [(t 27),(t 29),(.gN .aW)]) 30 [0,4,6]]
def d57r5:ai:=[
 C .eql 11 2 32 [],
 m 32 31 [0]]
def O2:ai:=[
 n 0 34,
 o (.callS 119 [(t 34)]) 35 [0],
 m 35 33 [1],
 e 0 33 36 [2],
 e 1 33 37 [2],
 m 36 6 [3,1,0,1,2,3],
 m 37 7 (k [4,5] 5)]
def d57r6:ai:=O2.map bare
def d57r7:ai:=[
 n 6 38,
 m 38 8 [0,0]]
def d57r8:ai:=[
 n 8 39,
 n 7 40,
 b .lss 39 40 41 [0,1]]
def Z1:ai:=[
 n 0 44,
 c 44 45 [0],
 a 4 45 46 [1],
 a 1 46 47 [2],
 l 47 48 [3],
 n 8 49,
 x 5 48 49 50 [4,5],
 a 2 50 51 [6],
 l 51 52 [7],
 a 2 4 53 [],
 l 53 54 [9],
 b .eql 52 54 55 [8,10],
 m 55 56 [11],
 w 2 57 56 true [12],
 w 8 58 56 true [12],
 u 4 4 59 56 true [12],
 v 59 60 56 true [15,12],
 w 0 61 56 true [12],
 g (.nilCheck (t 61)) 62 56 true [17,12],
 u 4 62 63 56 true [18,12],
 u 1 63 64 56 true [19,12],
 v 64 65 56 true [20,12],
 w 8 66 56 true [12],
 g (.idxAddr 5 (t 65) (t 66)) 67 56 true [21,22,12],
 u 3 67 68 56 true [23,12],
 v 68 69 56 true [24,12],
 D .add 60 69 70 56 true [16,25,12],
 g (.callv (t 57) [(t 58),(t 70),(.gN .aW)]) 71 56 true [13,14,26,12,12],
 K 71 72 56 true [27,12],
 q 56 72 73 [12,28]]
def O3:ai:=[
 n 8 42,
 C .add 42 1 43 [0],
 m 43 8 [1,0,1]]
def Z2:ai:=[
 C .eql 11 3 75 [],
 m 75 74 [0]]
def Z3:ai:=[
 n 2 76,
 n 0 77,
 c 77 78 [1],
 a 10 78 79 [2],
 l 79 80 [3],
 a 4 4 81 [],
 l 81 82 [5],
 a 2 4 83 [],
 l 83 84 [7],
 n 0 85,
 c 85 86 [9],
 a 10 86 87 [10],
 l 87 88 [11],
 n 0 89,
 c 89 90 [13],
 a 11 90 91 [14],
 l 91 92 [15],
 o (.build [V 0,V 0,V 0] [(0,1,(t 84)),(1,1,(t 88)),(2,1,(t 92))]) 93 [8,12,16],
 o (.bslice 1 3 [V 0,V 0,V 0] [(0,3,(t 93))]) 94 [17],
 o (.callv (t 76) [(t 80),(t 82),(t 94)]) 95 [0,4,6,18]]
def Z4:ai:=[
 C .eql 11 4 97 [],
 m 97 96 [0]]
def Z5:ai:=[
 n 0 98,
 c 98 99 [0],
 a 10 99 100 [1],
 l 100 101 [2],
 m 101 9 [3,0,1,2,3]]
def Z6:ai:=[
 n 9 102,
 n 0 103,
 c 103 104 [1],
 a 11 104 105 [2],
 l 105 106 [3],
 b .leq 102 106 107 [0,4]]
def Z7:ai:=[
 n 2 110,
 n 9 111,
 a 4 4 112 [],
 l 112 113 [2],
 a 2 4 114 [],
 l 114 115 [4],
 n 0 116,
 c 116 117 [6],
 a 10 117 118 [7],
 l 118 119 [8],
 n 9 120,
 o (.build [V 0,V 0,V 0] [(0,1,(t 115)),(1,1,(t 119)),(2,1,(t 120))]) 121 [5,9,10],
 a 3 4 122 [],
 l 122 123 [12],
 n 9 124,
 n 0 125,
 c 125 126 [15],
 a 11 126 127 [16],
 l 127 128 [17],
 o (.build [V 0,V 0,V 0] [(0,1,(t 123)),(1,1,(t 124)),(2,1,(t 128))]) 129 [13,14,18],
 o (.bslice 2 3 [V 0,V 0,V 0,V 0,V 0,V 0] [(0,3,(t 121)),(3,3,(t 129))]) 130 [11,19],
 o (.callv (t 110) [(t 111),(t 113),(t 130)]) 131 [0,1,3,20],
 U 131 132 [21]]
def Z8:ai:=[
 n 9 108,
 C .add 108 1 109 [0],
 m 109 9 [1,0,1]]
def d57:DC:=(j (y d57r0) (j (y d57r1) (.block 0 (j (y d57r2) (.cond (.tmp 12) (j (Y d57r3) (.cond (.tmp 22) (Y d57r4) .skip)) (j (y d57r5) (.cond (.tmp 31) (j (y d57r6) (j (y d57r7) (.block 1 (.loop (j (j (y d57r8) (.cond (.tmp 41) .skip (.exit 1))) (j (.block 2 (j (Y Z1) (.cond (.tmp 73) .ret .skip))) (y O3))))))) (j (y Z2) (.cond (.tmp 74) (Y Z3) (j (y Z4) (.cond (.tmp 96) (j (y Z5) (.block 3 (.loop (j (j (y Z6) (.cond (.tmp 107) .skip (.exit 3))) (j (.block 4 (j (Y Z7) (.cond (.tmp 132) .ret .skip))) (y Z8)))))) .skip)))))))))))
def sG:List bV:=[]
def c57 [bI]:aB aj 85 133 d57 sG:=aB.of Tryz.f85 (by kernel_rfl)
def d87r0:ai:=[
 B 1 4]
def d87r1:ai:=[
 a 0 4 8 [],
 l 8 9 [0],
 C .neq 9 4 10 [1]]
def O4:ai:=[
 n 0 11,
 L 6 4 12 [],
 n 2 13,
 o (.callS 85 [(t 11),(t 12),(t 13)]) 14 [0,1,2]]
def d87r2:ai:=O4.map bare
def d87r3:ai:=[
 n 0 15,
 c 15 16 [0],
 a 10 16 17 [1],
 l 17 18 [2],
 n 0 19,
 c 19 20 [4],
 a 11 20 21 [5],
 l 21 22 [6],
 o (.bslice 2 1 [V 0,V 0] [(0,1,(t 18)),(1,1,(t 22))]) 23 [3,7],
 N 23 24 [8],
 I 0 25]
def d87r4:ai:=[
 b .lss 25 24 26 []]
def d87r5:ai:=[
 x 1 23 25 27 [],
 l 27 28 [0],
 m 28 7 [1,0,1]]
def d87r6:ai:=[
 n 2 29,
 n 7 30,
 a 4 4 31 [],
 l 31 32 [2],
 a 2 4 33 [],
 l 33 34 [4],
 n 0 35,
 c 35 36 [6],
 a 10 36 37 [7],
 l 37 38 [8],
 n 7 39,
 o (.build [V 0,V 0,V 0] [(0,1,(t 34)),(1,1,(t 38)),(2,1,(t 39))]) 40 [5,9,10],
 a 3 4 41 [],
 l 41 42 [12],
 n 7 43,
 n 0 44,
 c 44 45 [15],
 a 11 45 46 [16],
 l 46 47 [17],
 o (.build [V 0,V 0,V 0] [(0,1,(t 42)),(1,1,(t 43)),(2,1,(t 47))]) 48 [13,14,18],
 o (.bslice 2 3 [V 0,V 0,V 0,V 0,V 0,V 0] [(0,3,(t 40)),(3,3,(t 48))]) 49 [11,19],
 o (.callv (t 29) [(t 30),(t 32),(t 49)]) 50 [0,1,3,20]]
def d87r7:ai:=[
 C .add 25 1 51 [],
 m 51 25 [0]]
def d87:DC:=(j (y d87r0) (j (j (y d87r1) (.cond (.tmp 10) (j (y d87r2) .ret) .skip)) (j (Y d87r3) (.block 0 (.loop (j (y d87r4) (j (.cond (.tmp 26) .skip (.exit 0)) (j (.block 1 (j (y d87r5) (Y d87r6))) (y d87r7)))))))))
def O5:List bV:=[]
def c87 [bI]:aB aj 126 52 d87 O5:=aB.of Tryz.f126 (by kernel_rfl)
def Lm:ai:=[
 F 8]
def wj:ai:=[
 l 3 9 [],
 n 2 10,
 o (.call 87 [(t 9),(t 10)]) 11 [0,1],
 U 11 12 [2]]
def Z9:ai:=[
 l 3 9 [],
 n 2 10,
 o (.callS 87 [(t 9),(t 10)]) 11 [0,1],
 U 11 12 [2]]
def Ri:ai:=[
 l 3 13 [],
 a 1 4 14 [],
 l 14 15 [1],
 l 3 16 [],
 n 1 17,
 n 2 18,
 o (.call 89 [(t 16),(t 17),(t 18)]) 19 [3,4,5],
 o (.call 88 [(t 13),(t 15),(t 19)]) 20 [0,2,6,6]]
def aaa:ai:=[
 l 3 13 [],
 a 1 4 14 [],
 l 14 15 [1],
 l 3 16 [],
 n 1 17,
 n 2 18,
 o (.callS 89 [(t 16),(t 17),(t 18)]) 19 [3,4,5],
 o (.callS 88 [(t 13),(t 15),(t 19)]) 20 [0,2,6,6]]
def GW:ai:=[
 R 8]
def d58:DC:=(j (y Lm) (j (j (y wj) (.cond (.tmp 12) (Y Ri) .skip)) (j (y GW) .ret)))
def uI:List bV:=[.da 8]
def c58 [bI]:aB aj 86 21 d58 uI:=aB.of Tryz.f86 (by kernel_rfl)
def d88r0:ai:=[
 F 8]
def Ek:ai:=[
 l 3 9 [],
 n 2 10,
 o (.callS 87 [(t 9),(t 10)]) 11 [0,1],
 m 11 12 [2,2],
 v 3 13 12 true [3],
 w 2 14 12 true [3],
 g (.callS 128 [(t 13),(t 14)]) 15 12 true [4,5,3,3],
 q 12 15 16 [3,6]]
def d88r1:ai:=Ek.map bare
def O6:ai:=[
 l 3 17 [],
 a 1 4 18 [],
 l 18 19 [1],
 l 3 20 [],
 n 1 21,
 n 2 22,
 o (.callS 89 [(t 20),(t 21),(t 22)]) 23 [3,4,5],
 o (.callS 88 [(t 17),(t 19),(t 23)]) 24 [0,2,6,6]]
def d88r2:ai:=O6.map bare
def Rj:ai:=[
 R 8]
def d88:DC:=(j (y d88r0) (j (j (y d88r1) (.cond (.tmp 16) (Y d88r2) .skip)) (j (y Rj) .ret)))
def IF:List bV:=[.da 8]
def c88 [bI]:aB aj 127 25 d88 IF:=aB.of Tryz.f127 (by kernel_rfl)
def d62r0:ai:=[
 B 0 1]
def El:ai:=[
 l 1 7 [],
 c 7 8 [0],
 a 15 8 9 [1],
 l 9 10 [2],
 o (.callS 124 [(t 10)]) 11 [3],
 m 11 6 [4],
 e 0 6 12 [5],
 e 1 6 13 [5],
 m 12 2 (k [6,4] 6),
 m 13 3 (k [7,8] 8)]
def d62r1:ai:=El.map bare
def aab:ai:=[
 n 3 14,
 U 14 15 [0]]
def d62r3:ai:=[
 l 1 16 [],
 c 16 17 [0],
 a 13 17 18 [1],
 l 18 19 [2],
 n 2 20,
 x 1 19 20 21 (k [3,4] 4),
 s (.store 1 (t 21) (.gN (.v (.bool true)))) (k [5] 4)]
def d62r4:ai:=[
 l 1 22 [],
 c 22 23 [0],
 a 0 23 24 [1],
 a 3 24 25 [2],
 l 25 26 [3],
 N 26 27 [4],
 I 0 28]
def d62r5:ai:=[
 b .lss 28 27 29 []]
def d62r6:ai:=[
 x 6 26 28 30 [],
 L 6 30 31 [0],
 o (.alloc [V 0,V 0,V 0,V 0,V 0,V 0]) 5 [],
 S 6 5 31 [2,1,0,1,2]]
def d62r7:ai:=[
 L 6 5 32 [],
 n 2 33,
 o (.call 125 [(t 32),(t 33)]) 34 [0,1],
 U 34 35 [2]]
def O7:ai:=[
 l 1 36 [],
 L 6 5 37 [],
 o (.mkFn (.func 127) [(t 1),(t 5)]) 38 [],
 o (.callS 126 [(t 36),(t 37),(t 38)]) 39 [0,1,2]]
def d62r8:ai:=O7.map bare
def aac:ai:=[
 C .add 28 1 40 [],
 m 40 28 [0]]
def d62:DC:=(j (y d62r0) (.block 0 (.loop (.block 1 (j (y d62r1) (j (j (y aab) (.cond (.tmp 15) .ret .skip)) (j (y d62r3) (j (y d62r4) (.block 2 (.loop (j (y d62r5) (j (.cond (.tmp 29) .skip (.exit 2)) (j (.block 3 (j (y d62r6) (j (j (y d62r7) (.cond (.tmp 35) (.exit 3) .skip)) (y d62r8)))) (y aac))))))))))))))
def aad:List bV:=[]
def c62 [bI]:aB aj 90 41 d62 aad:=aB.of Tryz.f90 (by kernel_rfl)
def d90r0:ai:=[
 F 10]
def O8:ai:=[
 l 3 11 [],
 n 1 12,
 n 2 13,
 o (.callS 89 [(t 11),(t 12),(t 13)]) 14 [0,1,2],
 L 2 4 15 [],
 o (.eqT true true [(.int .i64),(.int .i64)] (t 14) (t 15)) 16 [3,4]]
def d90r1:ai:=O8.map bare
def d90r2:ai:=[
 R 10]
def d90r3:ai:=[
 L 2 4 17 [],
 l 5 18 [],
 n 0 19,
 o (.build [V 0,V 0,V 0,V 0] [(0,2,(t 17)),(2,1,(t 18)),(3,1,(t 19))]) 20 [0,1,2],
 S 4 6 20 [3,0,1,2,3]]
def d90r4:ai:=[
 F 10]
def d90:DC:=(j (y d90r0) (j (j (Y d90r1) (.cond (.tmp 16) (j (y d90r2) .ret) .skip)) (j (y d90r3) (j (y d90r4) .ret))))
def O9:List bV:=[.da 10]
def c90 [bI]:aB aj 129 21 d90 O9:=aB.of Tryz.f129 (by kernel_rfl)
def d63r0:ai:=[
 B 0 2,
 o (.alloc [V 0,V 0,V 0,V 0]) 4 []]
def d63r1:ai:=[
 l 2 9 [],
 c 9 10 [0],
 a 12 10 11 [1],
 l 11 12 [2],
 n 1 13,
 x 2 12 13 14 [3,4],
 L 2 14 15 [5],
 o (.alloc [V 0,V 0]) 5 [],
 S 2 5 15 (k [7,6] 7)]
def d63r2:ai:=[
 o (.load 4 true (.gN (.iD [(.int .i64 1099511627776),(.int .i64 0),(.int .i64 (-1)),(.int .i64 0)] 0))) 16 [],
 o (.alloc [V 0,V 0,V 0,V 0]) 6 [],
 S 4 6 16 [1,0,0,1]]
def d63r3:ai:=[
 l 2 17 [],
 c 17 18 [0],
 a 0 18 19 [1],
 a 3 19 20 [2],
 l 20 21 [3],
 N 21 22 [4],
 I 0 23]
def d63r4:ai:=[
 b .lss 23 22 24 []]
def d63r5:ai:=[
 n 23 25,
 x 6 21 23 26 [],
 L 6 26 27 [1],
 o (.alloc [V 0]) 7 [],
 o (.alloc [V 0,V 0,V 0,V 0,V 0,V 0]) 8 [],
 S 1 7 25 (k [3,0] 4),
 S 6 8 27 (k [4,2,5] 5)]
def Ln:ai:=[
 a 1 8 28 [],
 l 28 29 [0],
 n 1 30,
 b .neq 29 30 31 [1,2],
 m 31 32 [3],
 u 0 5 33 32 false [4],
 v 33 34 32 false [5,4],
 E .geq 34 1099511627776 35 32 false [6,4],
 p 32 35 36 [4,7],
 m 36 37 [8,4],
 u 2 6 38 37 false [9],
 v 38 39 37 false [10,9],
 E .geq 39 0 40 37 false [11,9],
 p 37 40 41 [9,12]]
def Pa:ai:=[
 l 2 42 [],
 L 6 8 43 [],
 o (.mkFn (.func 129) [(t 2),(t 5),(t 7),(t 6)]) 44 [],
 o (.callS 85 [(t 42),(t 43),(t 44)]) 45 [0,1,2]]
def d63r7:ai:=Pa.map bare
def aae:ai:=[
 C .add 23 1 46 [],
 m 46 23 [0]]
def d63r9:ai:=[
 L 4 6 47 [],
 S 4 4 47 [0,0]]
def d63:DC:=(j (y d63r0) (j (y d63r1) (j (y d63r2) (j (j (y d63r3) (.block 0 (.loop (j (y d63r4) (j (.cond (.tmp 24) .skip (.exit 0)) (j (.block 1 (j (y d63r5) (j (j (y Ln) (.cond (.tmp 41) (.exit 1) .skip)) (y d63r7)))) (y aae))))))) (j (y d63r9) .ret)))))
def aaf:List bV:=[.cell 4 4 true]
def c63:aB aj 91 48 d63 aaf:=aB.of Tryz.f91 (by kernel_rfl)
def d55r0:ai:=[
 F 5]
def d55r1:ai:=[
 l 2 6 [],
 c 6 7 [0],
 a 12 7 8 [1],
 l 8 9 [2],
 n 0 10,
 x 2 9 10 11 [3,4],
 L 2 11 12 [5],
 l 2 13 [],
 c 13 14 [7],
 a 12 14 15 [8],
 l 15 16 [9],
 n 1 17,
 x 2 16 17 18 [10,11],
 L 2 18 19 [12],
 o (.call 84 [(t 12),(t 19)]) 20 [6,13],
 m 20 5 (k [14,14] 14)]
def d55:DC:=(j (y d55r0) (j (Y d55r1) .ret))
def aag:List bV:=[.da 5]
def c55 [bI]:aB aj 83 21 d55 aag:=aB.of Tryz.f83 (by kernel_rfl)
def d35r0:ai:=[
 B 0 5,
 B 1 6,
 B 2 7,
 Z 10]
def d35r1:ai:=[
 L 4 5 17 [],
 L 3 6 18 [],
 L 3 7 19 [],
 n 3 20,
 n 4 21,
 a 1 5 22 [],
 l 22 23 [5],
 o (.mkSlice 63 2 16 [(.int .i64 0),(.int .i64 0)] (t 23)) 24 [6,6],
 a 1 5 25 [],
 l 25 26 [8],
 o (.mkSlice 4 1 1 [(.bool false)] (t 26)) 27 [9,9],
 a 1 5 28 [],
 l 28 29 [11],
 o (.mkSlice 3 1 8 [(.int .i64 0)] (t 29)) 30 [12,12],
 o (.build [V 0,V 0,V 0,.aW,V 0,.aW,.aW,V 0,V 0,.aW,V 0,V 0,.aW,.aW,.aW,(.v (.mg (Go.Value.pointer Option.none)))] [(0,4,(t 17)),(4,3,(t 18)),(7,3,(t 19)),(10,1,(t 20)),(11,1,(t 21)),(12,1,(t 24)),(13,1,(t 27)),(14,1,(t 30))]) 31 [0,1,2,3,4,7,10,13],
 o (.box (t 31)) 32 [14],
 o (.alloc [(.v (.mg (Go.Value.pointer Option.none)))]) 11 [],
 S 1 11 32 (k [16,15] 16)]
def Rk:ai:=[
 l 11 33 [],
 o (.mkFn (.func 83) [(t 11)]) 34 [],
 o (.call 82 [(t 34)]) 35 [1],
 c 33 36 [0,0,1,2],
 a 15 36 37 [3,0,1,2],
 S 1 37 35 [4,2,2,0,1,2]]
def d35r3:ai:=[
 l 11 38 [],
 c 38 39 [0],
 a 12 39 40 [1],
 l 40 41 [2],
 N 41 42 [3],
 I 0 43]
def d35r4:ai:=[
 b .lss 43 42 44 []]
def d35r5:ai:=[
 n 43 45,
 m 45 12 [0,0]]
def d35r6:ai:=[
 l 11 46 [],
 c 46 47 [0],
 a 12 47 48 [1],
 l 48 49 [2],
 n 12 50,
 o (.addOff 0 (.gN (.iD [(.int .i64 1099511627776),(.int .i64 0),(.int .i64 (-1)),(.int .i64 0)] 0))) 51 [],
 L 2 51 52 [5],
 x 2 49 50 53 (k [3,4] 6),
 S 2 53 52 (k [7,6] 6)]
def d35r7:ai:=[
 l 11 54 [],
 c 54 55 [0],
 a 14 55 56 [1],
 l 56 57 [2],
 n 12 58,
 x 1 57 58 59 (k [3,4] 4),
 s (.store 1 (t 59) (i (-1))) (k [5] 4)]
def d35r8:ai:=[
 C .add 43 1 60 [],
 m 60 43 [0]]
def d35r9:ai:=[
 a 3 5 61 [],
 l 61 62 [0],
 N 62 63 [1],
 I 0 64]
def aah:ai:=[
 b .lss 64 63 65 []]
def aai:ai:=[
 x 6 62 64 66 [],
 L 6 66 67 [0],
 o (.alloc [V 0,V 0,V 0,V 0,V 0,V 0]) 14 [],
 S 6 14 67 [2,1,0,1,2]]
def IG:ai:=[
 l 11 68 [],
 L 6 14 69 [],
 o (.mkFn (.func 86) [(t 11),(t 14)]) 70 [],
 o (.callS 85 [(t 68),(t 69),(t 70)]) 71 [0,1,2]]
def d35r12:ai:=IG.map bare
def aaj:ai:=[
 C .add 64 1 72 [],
 m 72 64 [0]]
def IH:ai:=[
 l 11 73 [],
 o (.callS 90 [(t 73)]) 74 [0]]
def d35r14:ai:=IH.map bare
def aak:ai:=[
 Z 15]
def aal:ai:=[
 a 1 5 75 [],
 l 75 76 [0],
 I 0 77]
def aam:ai:=[
 b .lss 77 76 78 []]
def aan:ai:=[
 n 77 79,
 m 79 16 [0,0]]
def II:ai:=[
 n 15 80,
 l 11 81 [],
 n 16 82,
 o (.callS 91 [(t 81),(t 82)]) 83 [1,2],
 o (.bslice 1 4 [V 0,V 0,V 0,V 0] [(0,4,(t 83))]) 84 [3],
 o (.append 65 4 32 (t 80) (t 84)) 85 [0,4,3],
 m 85 15 (k [5,5] 5)]
def d35r19:ai:=II.map bare
def aao:ai:=[
 C .add 77 1 86 [],
 m 86 77 [0]]
def aap:ai:=[
 n 15 87,
 m 87 10 [0,0]]
def d35:DC:=(j (y d35r0) (j (Y d35r1) (j (Y Rk) (j (j (y d35r3) (.block 0 (.loop (j (y d35r4) (j (.cond (.tmp 44) .skip (.exit 0)) (j (.block 1 (j (y d35r5) (j (Y d35r6) (y d35r7)))) (y d35r8))))))) (j (j (y d35r9) (.block 2 (.loop (j (y aah) (j (.cond (.tmp 65) .skip (.exit 2)) (j (.block 3 (j (y aai) (y d35r12))) (y aaj))))))) (j (y d35r14) (j (y aak) (j (j (y aal) (.block 4 (.loop (j (y aam) (j (.cond (.tmp 78) .skip (.exit 4)) (j (.block 5 (j (y aan) (y d35r19))) (y aao))))))) (j (y aap) .ret)))))))))
def d35res:List bV:=[.da 10]
def c35:aB aj 52 88 d35 d35res:=aB.of Tryz.f52 (by kernel_rfl)
end cC
end Go.Proofs
namespace Go.Proofs
open Go.DM
def d28r0:ai:=[
 B 0 2,
 F 4]
def BR:ai:=[
 n 1 6,
 C .lss 6 0 7 [0],
 m 7 8 [1],
 u 0 2 9 8 false [2],
 v 9 10 8 false [3,2],
 H 10 11 8 false [4,2],
 E .gtr 11 60 12 8 false [5,2],
 p 8 12 13 [2,6],
 m 13 14 [7,2],
 u 1 2 15 14 false [8],
 v 15 16 14 false [9,8],
 H 16 17 14 false [10,8],
 w 1 18 14 false [8],
 D .neq 17 18 19 14 false [11,12,8],
 p 14 19 20 [8,13],
 m 20 21 [14,8],
 u 2 2 22 21 false [15],
 v 22 23 21 false [16,15],
 E .lss 23 0 24 21 false [17,15],
 p 21 24 25 [15,18],
 m 25 26 [19,15],
 u 2 2 27 26 false [20],
 v 27 28 26 false [21,20],
 E .gtr 28 60000 29 26 false [22,20],
 p 26 29 30 [20,23],
 m 30 31 [24,20],
 u 0 2 32 31 false [25],
 v 32 33 31 false [26,25],
 w 1 34 31 false [25],
 g (.call 37 [(t 33),(t 34)]) 35 31 false [27,28,25,25],
 K 35 36 31 false [29,25],
 p 31 36 37 [25,30]]
def d28r2:ai:=[
 F 4]
def d28r3:ai:=[
 I 0 5]
def d28r4:ai:=[
 n 5 38,
 n 1 39,
 b .lss 38 39 40 [0,1]]
def d28r5:ai:=[
 a 1 2 43 [],
 l 43 44 [0],
 n 5 45,
 x 1 44 45 46 [1,2],
 l 46 47 [3],
 C .lss 47 1 48 [4],
 m 48 49 [5],
 u 1 2 50 49 false [6],
 v 50 51 49 false [7,6],
 w 5 52 49 false [6],
 g (.idxAddr 1 (t 51) (t 52)) 53 49 false [8,9,6],
 v 53 54 49 false [10,6],
 E .gtr 54 60000 55 49 false [11,6],
 p 49 55 56 [6,12]]
def d28r6:ai:=[
 F 4]
def d28r7:ai:=[
 n 5 41,
 C .add 41 1 42 [0],
 m 42 5 [1,0,1]]
def d28r8:ai:=[
 R 4]
def d28:DC:=(j (y d28r0) (j (j (y BR) (.cond (.tmp 37) (j (y d28r2) .ret) .skip)) (j (j (y d28r3) (.block 0 (.loop (j (j (y d28r4) (.cond (.tmp 40) .skip (.exit 0))) (j (.block 1 (j (y d28r5) (.cond (.tmp 56) (j (y d28r6) .ret) .skip))) (y d28r7)))))) (j (y d28r8) .ret))))
def Jr:List bV:=[.da 4]
def c28 [bI]:aB aj 23 57 d28 Jr:=aB.of Tryz.f23 (by kernel_rfl)
def K8:ai:=[
 F 4]
def Ed:ai:=[
 I 0 5]
def K9:ai:=[
 n 5 6,
 n 0 7,
 N 7 8 [1],
 b .lss 6 8 9 [0,2]]
def La:ai:=[
 n 0 12,
 n 5 13,
 x 3 12 13 14 [0,1],
 L 3 14 15 [2],
 n 1 16,
 o (.call 63 [(t 15),(t 16)]) 17 [3,4],
 U 17 18 [5]]
def Lb:ai:=[
 F 4]
def d45r5:ai:=[
 n 5 10,
 C .add 10 1 11 [0],
 m 11 5 [1,0,1]]
def d45r6:ai:=[
 R 4]
def d45:DC:=(j (y K8) (j (j (y Ed) (.block 0 (.loop (j (j (y K9) (.cond (.tmp 9) .skip (.exit 0))) (j (.block 1 (j (y La) (.cond (.tmp 18) (j (y Lb) .ret) .skip))) (y d45r5)))))) (j (y d45r6) .ret)))
def wT:List bV:=[.da 4]
def c45 [bI]:aB aj 37 19 d45 wT:=aB.of Tryz.f37 (by kernel_rfl)
def Lm:ai:=[
 B 0 2,
 F 4]
def wj:ai:=[
 a 0 2 7 [],
 l 7 8 [0],
 C .lss 8 (-1) 9 [1],
 m 9 10 [2],
 u 0 2 11 10 false [3],
 v 11 12 10 false [4,3],
 w 1 13 10 false [3],
 D .geq 12 13 14 10 false [5,6,3],
 p 10 14 15 [3,7],
 m 15 16 [8,3],
 u 1 2 17 16 false [9],
 v 17 18 16 false [10,9],
 H 18 19 16 false [11,9],
 w 1 20 16 false [9],
 D .neq 19 20 21 16 false [12,13,9],
 p 16 21 22 [9,14],
 m 22 23 [15,9],
 u 2 2 24 23 false [16],
 v 24 25 23 false [17,16],
 E .lss 25 1 26 23 false [18,16],
 p 23 26 27 [16,19],
 m 27 28 [20,16],
 u 2 2 29 28 false [21],
 v 29 30 28 false [22,21],
 E .gtr 30 60000 31 28 false [23,21],
 w 31 32 28 false [24,21,21],
 u 2 2 33 32 true [25],
 v 33 34 32 true [26,25],
 E .neq 34 1099511627776 35 32 true [27,25],
 g (.pick (t 32) (t 35) (.gN (.v (.bool false)))) 36 28 false [25,28,21],
 p 28 36 37 [21,29]]
def Ri:ai:=[
 F 4]
def GW:ai:=[
 I 0 5]
def d58r4:ai:=[
 n 5 38,
 n 1 39,
 b .lss 38 39 40 [0,1]]
def d58r5:ai:=[
 a 1 2 43 [],
 l 43 44 [0],
 n 5 45,
 x 1 44 45 46 [1,2],
 l 46 47 [3],
 m 47 6 (k [4] 4)]
def Ft:ai:=[
 n 5 48,
 a 0 2 49 [],
 l 49 50 [1],
 b .eql 48 50 51 [0,2],
 m 51 52 [3],
 w 6 53 52 true [4],
 E .neq 53 0 54 52 true [5,4],
 q 52 54 55 [4,6],
 m 55 56 [7,4],
 w 5 57 56 false [8],
 u 0 2 58 56 false [8],
 v 58 59 56 false [10,8],
 D .neq 57 59 60 56 false [9,11,8],
 w 60 61 56 false [12,8,8],
 w 6 62 61 true [13],
 E .neq 62 (-1) 63 61 true [14,13],
 g (.pick (t 61) (t 63) (.gN (.v (.bool false)))) 64 56 false [13,15,8],
 w 64 65 56 false [16,13,8],
 w 6 66 65 true [17],
 E .lss 66 1 67 65 true [18,17],
 w 67 68 65 true [19,17,17],
 w 6 69 68 false [20],
 E .gtr 69 60000 70 68 false [21,20],
 g (.pick (t 68) (.gN (.v (.bool true))) (t 70)) 71 65 true [20,22,17],
 g (.pick (t 65) (t 71) (.gN (.v (.bool false)))) 72 56 false [17,23,8],
 p 56 72 73 [8,24]]
def d58r7:ai:=[
 F 4]
def d58r8:ai:=[
 n 5 41,
 C .add 41 1 42 [0],
 m 42 5 [1,0,1]]
def d58r9:ai:=[
 R 4]
def d58:DC:=(j (y Lm) (j (j (y wj) (.cond (.tmp 37) (j (y Ri) .ret) .skip)) (j (j (y GW) (.block 0 (.loop (j (j (y d58r4) (.cond (.tmp 40) .skip (.exit 0))) (j (.block 1 (j (y d58r5) (j (y Ft) (.cond (.tmp 73) (j (y d58r7) .ret) .skip)))) (y d58r8)))))) (j (y d58r9) .ret))))
def uI:List bV:=[.da 4]
def c58 [bI]:aB aj 63 74 d58 uI:=aB.of Tryz.f63 (by kernel_rfl)
namespace cC
def Rl:ai:=[
 B 0 1,
 Z 2,
 o (.qu (.gN .aW)) 3 [1]]
def d1071r1:ai:=[
 L 2 1 17 [],
 a 0 1 18 [],
 l 18 19 [1],
 o (.mkSlice 63 2 16 [(.int .i64 0),(.int .i64 0)] (t 19)) 20 [2,2],
 a 0 1 21 [],
 l 21 22 [4],
 o (.mkSlice 4 1 1 [(.bool false)] (t 22)) 23 [5,5],
 a 1 1 24 [],
 l 24 25 [7],
 N 25 26 [8],
 o (.mkSlice 3 1 8 [(.int .i64 0)] (t 26)) 27 [9,9],
 a 0 1 28 [],
 l 28 29 [11],
 o (.mkSlice 26 1 24 [(.sl [])] (t 29)) 30 [12,12],
 o (.build [V 0,.aW,.aW,.aW,.aW,.aW,(.v (.mg (Go.Value.pointer Option.none)))] [(0,2,(t 17)),(2,1,(t 20)),(3,1,(t 23)),(4,1,(t 27)),(5,1,(t 30))]) 31 [0,3,6,10,13],
 o (.box (t 31)) 32 [14],
 m 32 4 (k [15] 15)]
def Lo:ai:=[
 L 2 1 17 [],
 a 0 1 18 [],
 l 18 19 [1],
 o (.mkSlice 63 2 16 [(.int .i64 0),(.int .i64 0)] (t 19)) 20 [2,2],
 a 0 1 21 [],
 l 21 22 [4],
 o (.mkSlice 4 1 1 [(.bool false)] (t 22)) 23 [5,5],
 a 1 1 24 [],
 l 24 25 [7],
 N 25 26 [8],
 o (.mkSlice 3 1 8 [(.int .i64 0)] (t 26)) 27 [9,9],
 a 0 1 28 [],
 l 28 29 [11],
 o (.mkSliceB 26 1 24 [(.sl [])] (t 29)) 30 [12,12],
 o (.build [V 0,.aW,.aW,.aW,.aW,.aW,(.v (.mg (Go.Value.pointer Option.none)))] [(0,2,(t 17)),(2,1,(t 20)),(3,1,(t 23)),(4,1,(t 27)),(5,1,(t 30))]) 31 [0,3,6,10,13],
 o (.box (t 31)) 32 [14],
 m 32 4 (k [15] 15)]
def Rm:ai:=[
 n 4 33,
 o (.call 100 [(.gN (.v (.fn (.func 101) [])))]) 34 [],
 c 33 35 [0,0,1],
 a 6 35 36 [2,0,1],
 S 1 36 34 [3,1,1,0,1]]
def Rn:ai:=[
 a 0 1 37 [],
 l 37 38 [0],
 o (.mkSlice 3 1 8 [(.int .i64 0)] (t 38)) 39 [1,1],
 m 39 5 [2,0,1,2]]
def Ro:ai:=[
 n 4 40,
 c 40 41 [0],
 a 2 41 42 [1],
 l 42 43 [2],
 N 43 44 [3],
 I 0 45]
def Rp:ai:=[
 b .lss 45 44 46 []]
def Rq:ai:=[
 n 45 47,
 m 47 6 [0,0]]
def Rr:ai:=[
 n 4 48,
 c 48 49 [0],
 a 2 49 50 [1],
 l 50 51 [2],
 n 6 52,
 o (.build [V 0,V 0] [(0,1,(i 1099511627776))]) 53 [],
 x 2 51 52 54 (k [3,4] 5),
 S 2 54 53 (k [6,5] 5)]
def Rs:ai:=[
 n 5 55,
 n 6 56,
 x 1 55 56 57 [0,1,0,1],
 s (.store 1 (t 57) (i (-1))) [2,0,1]]
def Rt:ai:=[
 C .add 45 1 58 [],
 m 58 45 [0]]
def Em:ai:=[
 a 1 1 59 [],
 l 59 60 [0],
 N 60 61 [1],
 I 0 62]
def En:ai:=[
 b .lss 62 61 63 []]
def Eo:ai:=[
 n 62 64,
 x 5 60 62 65 [],
 L 5 65 66 [1],
 o (.alloc [V 0,.aW,V 0,V 0,V 0]) 8 [],
 m 64 7 [0,0,1,2,3],
 S 5 8 66 (k [3,2,4] 4)]
def Ep:ai:=[
 n 4 67,
 c 67 68 [0],
 a 4 68 69 [1],
 l 69 70 [2],
 n 7 71,
 a 1 8 72 [],
 l 72 73 [5],
 N 73 74 [6],
 x 1 70 71 75 (k [3,4] 7),
 S 1 75 74 (k [8,7] 7)]
def Er:ai:=[
 a 1 8 76 [],
 l 76 77 [0],
 N 77 78 [1],
 I 0 79]
def Es:ai:=[
 b .lss 79 78 80 []]
def Et:ai:=[
 x 1 77 79 81 [],
 l 81 82 [0],
 m 82 10 [1,0,1]]
def qZ:ai:=[
 n 4 83,
 c 83 84 [0],
 a 5 84 85 [1],
 l 85 86 [2],
 n 10 87,
 n 4 88,
 c 88 89 [5],
 a 5 89 90 [6],
 l 90 91 [7],
 n 10 92,
 x 1 91 92 93 [8,9],
 l 93 94 [10],
 n 7 95,
 o (.bslice 1 1 [V 0] [(0,1,(t 95))]) 96 [12],
 o (.append 3 1 8 (t 94) (t 96)) 97 [11,13],
 x 1 86 87 98 (k [3,4] 14),
 S 1 98 97 (k [15,14,14] 14)]
def yO:ai:=[
 C .add 79 1 99 [],
 m 99 79 [0]]
def Eu:ai:=[
 C .add 62 1 100 [],
 m 100 62 [0]]
def Ev:ai:=[
 n 4 101,
 c 101 102 [0],
 a 4 102 103 [1],
 l 103 104 [2],
 N 104 105 [3],
 I 0 106]
def Ew:ai:=[
 b .lss 106 105 107 []]
def Ex:ai:=[
 n 106 108,
 x 1 104 106 109 [],
 l 109 110 [1],
 m 108 11 [0,0,1,2],
 m 110 12 [2,3,0,1,2,3]]
def yP:ai:=[
 n 12 111,
 C .eql 111 0 112 [0],
 m 112 113 [1],
 u 1 1 114 113 true [2],
 v 114 115 113 true [3,2],
 w 11 116 113 true [2],
 g (.idxAddr 5 (t 115) (t 116)) 117 113 true [4,5,2],
 u 1 117 118 113 true [6,2],
 v 118 119 113 true [7,2],
 H 119 120 113 true [8,2],
 E .eql 120 0 121 113 true [9,2],
 q 113 121 122 [2,10]]
def Lp:ai:=[
 n 4 123,
 n 11 124,
 o (.call 102 [(t 123),(t 124)]) 125 [0,1]]
def GX:ai:=[
 n 4 123,
 n 11 124,
 o (.callS 102 [(t 123),(t 124)]) 125 [0,1]]
def yQ:ai:=[
 C .add 106 1 126 [],
 m 126 106 [0]]
def Lq:ai:=[
 n 4 128,
 c 128 129 [0],
 a 6 129 130 [1],
 l 130 131 [2],
 o (.call 103 [(t 131)]) 132 [3],
 m 132 127 [4],
 e 0 127 133 [5],
 e 1 127 134 [5],
 o (.alloc [V 0,V 0,V 0]) 13 [],
 S 3 13 133 [8,6,4,0,1,2,3,4,5,6,8],
 m 134 14 (k [7,9] 9)]
def vu:ai:=[
 n 4 128,
 c 128 129 [0],
 a 6 129 130 [1],
 l 130 131 [2],
 o (.callS 103 [(t 131)]) 132 [3],
 m 132 127 [4],
 e 0 127 133 [5],
 e 1 127 134 [5],
 o (.alloc [V 0,V 0,V 0]) 13 [],
 S 3 13 133 [8,6,4,0,1,2,3,4,5,6,8],
 m 134 14 (k [7,9] 9)]
def yR:ai:=[
 n 14 135,
 U 135 136 [0]]
def Ey:ai:=[
 n 4 137,
 c 137 138 [0],
 a 3 138 139 [1],
 l 139 140 [2],
 a 0 13 141 [],
 l 141 142 [4],
 x 1 140 142 143 [3,5],
 l 143 144 [6],
 U 144 145 [7]]
def Lr:ai:=[
 n 4 146,
 L 3 13 147 [],
 o (.call 104 [(t 146),(t 147)]) 148 [0,1]]
def GY:ai:=[
 n 4 146,
 L 3 13 147 [],
 o (.callS 104 [(t 146),(t 147)]) 148 [0,1]]
def Ez:ai:=[
 a 1 1 149 [],
 l 149 150 [0],
 N 150 151 [1],
 I 0 152]
def EA:ai:=[
 b .lss 152 151 153 []]
def EB:ai:=[
 n 152 154,
 x 5 150 152 155 [],
 L 5 155 156 [1],
 o (.alloc [V 0,.aW,V 0,V 0,V 0]) 16 [],
 m 154 15 [0,0,1,2,3],
 S 5 16 156 (k [3,2,4] 4)]
def Ls:ai:=[
 n 5 157,
 a 0 16 158 [],
 l 158 159 [1],
 x 1 157 159 160 [0,2],
 l 160 161 [3],
 C .lss 161 0 162 [4],
 m 162 163 [5],
 w 4 164 163 true [6],
 g (.nilCheck (t 164)) 165 163 true [7,6],
 u 3 165 166 163 true [8,6],
 v 166 167 163 true [9,6],
 u 0 16 168 163 true [6],
 v 168 169 163 true [11,6],
 g (.idxAddr 1 (t 167) (t 169)) 170 163 true [10,12,6],
 v 170 171 163 true [13,6],
 q 163 171 172 [6,14],
 m 172 173 [15,6],
 w 4 174 173 true [16],
 g (.load 5 true (t 16)) 175 173 true [16],
 g (.call 105 [(t 174),(t 175)]) 176 173 true [17,18,16,16],
 w 4 177 173 true [16],
 g (.nilCheck (t 177)) 178 173 true [20,16],
 u 2 178 179 173 true [21,16],
 v 179 180 173 true [22,16],
 u 0 16 181 173 true [16],
 v 181 182 173 true [24,16],
 g (.idxAddr 2 (t 180) (t 182)) 183 173 true [23,25,16],
 g (.load 2 true (t 183)) 184 173 true [26,16],
 g (.eqT false true [(.int .i64),(.int .i64)] (t 176) (t 184)) 185 173 true [19,27,16],
 q 173 185 186 [16,28]]
def EC:ai:=[
 n 5 187,
 a 0 16 188 [],
 l 188 189 [1],
 n 15 190,
 x 1 187 189 191 [0,2,0,1,2,3],
 S 1 191 190 [4,3,0,1,2,3]]
def yS:ai:=[
 C .add 152 1 192 [],
 m 192 152 [0]]
def ED:ai:=[
 n 4 193,
 c 193 194 [0],
 a 2 194 195 [1],
 l 195 196 [2],
 n 5 197,
 m 196 2 [3,0,1,2,3],
 m 197 3 (k [4,5] 5)]
def d1071:DC:=(j (y Rl) (j (Y d1071r1) (j (y Rm) (j (y Rn) (j (j (y Ro) (.block 0 (.loop (j (y Rp) (j (.cond (.tmp 46) .skip (.exit 0)) (j (.block 1 (j (y Rq) (j (y Rr) (y Rs)))) (y Rt))))))) (j (j (y Em) (.block 2 (.loop (j (y En) (j (.cond (.tmp 63) .skip (.exit 2)) (j (.block 3 (j (y Eo) (j (Y Ep) (j (y Er) (.block 4 (.loop (j (y Es) (j (.cond (.tmp 80) .skip (.exit 4)) (j (.block 5 (j (y Et) (.jr qZ))) (y yO)))))))))) (y Eu))))))) (j (j (y Ev) (.block 6 (.loop (j (y Ew) (j (.cond (.tmp 107) .skip (.exit 6)) (j (.block 7 (j (y Ex) (j (y yP) (.cond (.tmp 122) (y Lp) .skip)))) (y yQ))))))) (j (.block 8 (.loop (.block 9 (j (y Lq) (j (j (y yR) (.cond (.tmp 136) (.exit 8) .skip)) (j (Y Ey) (.cond (.tmp 145) (y Lr) .skip))))))) (j (j (y Ez) (.block 10 (.loop (j (y EA) (j (.cond (.tmp 153) .skip (.exit 10)) (j (.block 11 (j (y EB) (j (Y Ls) (.cond (.tmp 186) (y EC) .skip)))) (y yS))))))) (j (y ED) .ret))))))))))
def q8:List bV:=[.da 2,.da 3]
def c1071 [bI]:aB aj 71 198 d1071 q8:=aB.of Tryz.f71 (by kernel_rfl)
def Ru:ai:=[
 o (.qu (.gN (.v (.mg (Go.Value.pointer Option.none))))) 2 []]
def Rv:ai:=[
 n 0 3,
 o (.mkMap [(.int .i64)] false) 4 [],
 o (.build [(.v (.mg (Go.Value.nilFunc))),.aW,(.v (.mg (Go.Value.map Option.none))),V 0,V 0] [(0,1,(t 3)),(2,1,(t 4))]) 5 [0,1],
 o (.box (t 5)) 6 [2],
 m 6 2 [3,0,1,2,3]]
def d1100:DC:=(j (y Ru) (j (y Rv) .ret))
def aaq:List bV:=[.da 2]
def c1100 [bI]:aB aj 100 7 d1100 aaq:=aB.of Tryz.f100 (by kernel_rfl)
def Rw:ai:=[
 B 0 2,
 B 1 3,
 F 4]
def Rx:ai:=[
 a 1 2 5 [],
 L 2 5 6 [0],
 a 1 3 7 [],
 L 2 7 8 [2],
 o (.call 84 [(t 6),(t 8)]) 9 [1,3],
 m 9 4 (k [4,4] 4)]
def d1101:DC:=(j (y Rw) (j (y Rx) .ret))
def Lt:List bV:=[.da 4]
def c1101 [bI]:aB aj 101 10 d1101 Lt:=aB.of Tryz.f101 (by kernel_rfl)
def Ry:ai:=[
 n 0 6,
 c 6 7 [0],
 a 0 7 8 [1],
 a 1 8 9 [2],
 l 9 10 [3],
 n 1 11,
 x 5 10 11 12 [4,5],
 L 5 12 13 [6],
 o (.alloc [V 0,.aW,V 0,V 0,V 0]) 4 [],
 S 5 4 13 (k [8,7] 8)]
def EE:ai:=[
 n 0 14,
 L 5 4 15 [],
 o (.callS 105 [(t 14),(t 15)]) 16 [0,1],
 o (.alloc [V 0,V 0]) 5 [],
 S 2 5 16 [3,2,2,0,1,2,3]]
def d1102r1:ai:=EE.map bare
def CA:ai:=[
 a 0 5 17 [],
 l 17 18 [0],
 C .lss 18 1099511627776 19 [1],
 m 19 20 [2],
 w 0 21 20 true [3],
 g (.nilCheck (t 21)) 22 20 true [4,3],
 u 3 22 23 20 true [5,3],
 v 23 24 20 true [6,3],
 u 0 4 25 20 true [3],
 v 25 26 20 true [8,3],
 g (.idxAddr 1 (t 24) (t 26)) 27 20 true [7,9,3],
 v 27 28 20 true [10,3],
 K 28 29 20 true [11,3],
 q 20 29 30 [3,12]]
def EF:ai:=[
 n 0 31,
 c 31 32 [0],
 a 6 32 33 [1],
 l 33 34 [2],
 a 0 4 35 [],
 l 35 36 [4],
 L 2 5 37 [],
 o (.build [V 0,V 0,V 0] [(0,1,(t 36)),(1,2,(t 37))]) 38 [5,6],
 o (.callS 132 [(t 34),(t 38)]) 39 [3,7]]
def d1102r3:ai:=EF.map bare
def d1102:DC:=(j (y Ry) (j (y d1102r1) (j (Y CA) (.cond (.tmp 30) (Y d1102r3) .skip))))
def EG:List bV:=[]
def c1102 [bI]:aB aj 102 40 d1102 EG:=aB.of Tryz.f102 (by kernel_rfl)
def Rz:ai:=[
 o (.alloc [V 0,V 0,V 0]) 2 [],
 F 3]
def RA:ai:=[
 n 0 6,
 c 6 7 [0],
 a 1 7 8 [1],
 l 8 9 [2],
 N 9 10 [3],
 C .eql 10 0 11 [4]]
def RB:ai:=[
 o (.alloc [V 0,V 0,V 0]) 12 [],
 c 12 13 [0],
 L 3 13 14 [1],
 S 3 2 14 [2,0,1,2],
 o (.qu (.gN (.v (.bool false)))) 3 [3,0,1,2,3]]
def IJ:ai:=[
 n 0 15,
 c 15 16 [0],
 a 1 16 17 [1],
 l 17 18 [2],
 o (.idxAddr 5 (t 18) (i 0)) 19 [3],
 L 5 19 20 [4],
 n 0 21,
 c 21 22 [6],
 a 1 22 23 [7],
 l 23 24 [8],
 N 24 25 [9],
 C .sub 25 1 26 [10],
 o (.alloc [V 0,V 0,V 0,V 0,V 0]) 4 [],
 S 5 4 20 [12,5,0,1,2,3,4,5,12],
 m 26 5 (k [11,13] 13)]
def EH:ai:=[
 n 0 27,
 n 5 28,
 o (.callS 133 [(t 27),(i 0),(t 28)]) 29 [0,1]]
def d1103r4:ai:=EH.map bare
def RC:ai:=[
 n 0 30,
 n 0 31,
 c 31 32 [1],
 a 1 32 33 [2],
 l 33 34 [3],
 n 5 35,
 o (.slice 5 (t 34) none (some (t 35))) 36 [4,5],
 c 30 37 (k [0] 6),
 a 1 37 38 (k [7] 6),
 S 1 38 36 (k [8,6] 6)]
def RD:ai:=[
 n 0 39,
 c 39 40 [0],
 a 2 40 41 [1],
 l 41 42 [2],
 a 3 4 43 [],
 l 43 44 [4],
 s (.mapDel [(.int .i64)] false (t 42) (t 44)) [3,5]]
def EI:ai:=[
 n 0 45,
 o (.callS 134 [(t 45),(i 0)]) 46 [0]]
def d1103r7:ai:=EI.map bare
def RE:ai:=[
 a 0 4 47 [],
 L 3 47 48 [0],
 S 3 2 48 [1,0,1],
 o (.qu (.gN (.v (.bool true)))) 3 [2,0,1,2]]
def d1103:DC:=(j (y Rz) (j (j (y RA) (.cond (.tmp 11) (j (y RB) .ret) .skip)) (j (.jr IJ) (j (y d1103r4) (j (y RC) (j (Y RD) (j (y d1103r7) (j (y RE) .ret))))))))
def EJ:List bV:=[.cell 2 3 true,.da 3]
def c1103 [bI]:aB aj 103 49 d1103 EJ:=aB.of Tryz.f103 (by kernel_rfl)
def RF:ai:=[
 B 1 3]
def IK:ai:=[
 n 0 6,
 c 6 7 [0],
 a 3 7 8 [1],
 l 8 9 [2],
 a 0 3 10 [],
 l 10 11 [4],
 n 0 12,
 c 12 13 [6],
 a 2 13 14 [7],
 l 14 15 [8],
 a 0 3 16 [],
 l 16 17 [10],
 a 1 3 18 [],
 L 2 18 19 [12],
 x 1 9 11 20 [3,5,0,1,2,3,4,5,9],
 s (.store 1 (t 20) (.gN (.v (.bool true)))) [14,0,1,2,3,4,5,9],
 x 2 15 17 21 (k [9,11] 15),
 S 2 21 19 (k [16,13,15] 15)]
def RG:ai:=[
 n 0 22,
 c 22 23 [0],
 a 5 23 24 [1],
 l 24 25 [2],
 a 0 3 26 [],
 l 26 27 [4],
 x 1 25 27 28 [3,5],
 l 28 29 [6],
 N 29 30 [7],
 I 0 31]
def RH:ai:=[
 b .lss 31 30 32 []]
def RI:ai:=[
 x 1 29 31 33 [],
 l 33 34 [0],
 m 34 5 [1,0,1]]
def RK:ai:=[
 n 0 35,
 c 35 36 [0],
 a 4 36 37 [1],
 l 37 38 [2],
 n 5 39,
 x 1 38 39 40 [3,4],
 l 40 41 [5],
 C .sub 41 1 42 [6],
 x 1 38 39 43 (k [3,4] 7),
 S 1 43 42 (k [8,7] 7)]
def RL:ai:=[
 n 0 44,
 c 44 45 [0],
 a 4 45 46 [1],
 l 46 47 [2],
 n 5 48,
 x 1 47 48 49 [3,4],
 l 49 50 [5],
 C .eql 50 0 51 [6]]
def EK:ai:=[
 n 0 52,
 n 5 53,
 o (.callS 102 [(t 52),(t 53)]) 54 [0,1]]
def d1104r7:ai:=EK.map bare
def IL:ai:=[
 C .add 31 1 55 [],
 m 55 31 [0]]
def d1104:DC:=(j (y RF) (j (.jr IK) (j (Y RG) (.block 0 (.loop (j (y RH) (j (.cond (.tmp 32) .skip (.exit 0)) (j (.block 1 (j (y RI) (j (y RK) (j (y RL) (.cond (.tmp 51) (y d1104r7) .skip))))) (y IL)))))))))
def Lu:List bV:=[]
def c1104 [bI]:aB aj 104 56 d1104 Lu:=aB.of Tryz.f104 (by kernel_rfl)
def IM:ai:=[
 B 1 3,
 o (.alloc [V 0,V 0]) 4 []]
def IN:ai:=[
 a 1 3 8 [],
 l 8 9 [0],
 N 9 10 [1],
 o (.mkSlice 63 2 16 [(.int .i64 0),(.int .i64 0)] (t 10)) 11 [2,2],
 m 11 5 [3,0,1,2,3]]
def IP:ai:=[
 a 1 3 12 [],
 l 12 13 [0],
 N 13 14 [1],
 I 0 15]
def IQ:ai:=[
 b .lss 15 14 16 []]
def IR:ai:=[
 n 15 17,
 x 1 13 15 18 [],
 l 18 19 [1],
 m 17 6 [0,0,1,2],
 m 19 7 [2,3,0,1,2,3]]
def IS:ai:=[
 n 5 20,
 n 6 21,
 n 0 22,
 c 22 23 [2],
 a 2 23 24 [3],
 l 24 25 [4],
 n 7 26,
 x 2 25 26 27 [5,6],
 L 2 27 28 [7],
 x 2 20 21 29 (k [0,1] 8),
 S 2 29 28 (k [9,8] 8)]
def IT:ai:=[
 C .add 15 1 30 [],
 m 30 15 [0]]
def IU:ai:=[
 a 2 3 31 [],
 l 31 32 [0],
 n 5 33,
 o (.call 123 [(t 32),(t 33)]) 34 [1,2],
 S 2 4 34 [3,3,0,1,2,3]]
def d1105:DC:=(j (y IM) (j (y IN) (j (j (y IP) (.block 0 (.loop (j (y IQ) (j (.cond (.tmp 16) .skip (.exit 0)) (j (.block 1 (j (y IR) (y IS))) (y IT))))))) (j (y IU) .ret))))
def EL:List bV:=[.cell 4 2 true]
def c1105 [bI]:aB aj 105 35 d1105 EL:=aB.of Tryz.f105 (by kernel_rfl)
def RM:ai:=[
 B 1 3,
 I 0 4]
def RN:ai:=[
 n 0 7,
 c 7 8 [0],
 a 3 8 9 [1],
 l 9 10 [2],
 n 0 11,
 c 11 12 [4],
 a 1 12 13 [5],
 l 13 14 [6],
 N 14 15 [7],
 m 10 5 [3,0,1,2,3],
 m 15 6 (k [8,9] 9)]
def RP:ai:=[
 n 0 16,
 n 0 17,
 c 17 18 [1],
 a 1 18 19 [2],
 l 19 20 [3],
 L 3 3 21 [],
 n 5 22,
 n 0 23,
 c 23 24 [7],
 a 4 24 25 [8],
 l 25 26 [9],
 o (.build [V 0,V 0,V 0,V 0,V 0] [(0,3,(t 21)),(3,1,(t 22)),(4,1,(t 26))]) 27 [5,6,10],
 o (.bslice 1 5 [V 0,V 0,V 0,V 0,V 0] [(0,5,(t 27))]) 28 [11],
 o (.append 211 5 40 (t 20) (t 28)) 29 [4,12],
 c 16 30 (k [0] 13),
 a 1 30 31 (k [14] 13),
 S 1 31 29 (k [15,13,13] 13)]
def RQ:ai:=[
 n 0 32,
 c 32 33 [0],
 a 2 33 34 [1],
 l 34 35 [2],
 n 5 36,
 n 6 37,
 s (.mapUpd [(.int .i64)] false (t 35) (t 36) (t 37)) (k [3,4,5] 5)]
def RU:ai:=[
 n 0 38,
 n 0 39,
 n 0 40,
 c 40 41 [2],
 a 3 41 42 [3],
 l 42 43 [4],
 C .add 43 1 44 [5],
 n 0 45,
 c 45 46 [7],
 a 4 46 47 [8],
 l 47 48 [9],
 C .add 48 1 49 [10],
 c 38 50 [0,0,2,3,4,5,6,10],
 a 3 50 51 [12,0,2,3,4,5,6,10],
 S 1 51 44 [13,6,0,2,3,4,5,6,10],
 c 39 52 (k [1] 14),
 a 4 52 53 (k [15] 14),
 S 1 53 49 (k [16,11,14] 14)]
def EM:ai:=[
 n 0 54,
 n 6 55,
 o (.callS 147 [(t 54),(t 55)]) 56 [0,1]]
def d1132r5:ai:=EM.map bare
def RW:ai:=[
 n 5 57,
 m 57 4 [0,0]]
def d1132:DC:=(j (y RM) (j (Y RN) (j (Y RP) (j (y RQ) (j (Y RU) (j (y d1132r5) (j (y RW) .ret)))))))
def Lv:List bV:=[.da 4]
def c1132 [bI]:aB aj 132 58 d1132 Lv:=aB.of Tryz.f132 (by kernel_rfl)
def RX:ai:=[
 n 0 6,
 c 6 7 [0],
 a 1 7 8 [1],
 l 8 9 [2],
 n 1 10,
 n 0 11,
 c 11 12 [5],
 a 1 12 13 [6],
 l 13 14 [7],
 n 2 15,
 n 0 16,
 c 16 17 [10],
 a 1 17 18 [11],
 l 18 19 [12],
 n 2 20,
 x 5 19 20 21 [13,14],
 L 5 21 22 [15],
 n 0 23,
 c 23 24 [17],
 a 1 24 25 [18],
 l 25 26 [19],
 n 1 27,
 x 5 26 27 28 [20,21],
 L 5 28 29 [22],
 x 5 9 10 30 [3,4,0,1,2,3,4,8,10,11,12,13,14,15,16,20,23],
 S 5 30 22 [24,16,0,1,2,3,4,8,10,11,12,13,14,15,16,20,23],
 x 5 14 15 31 (k [8,9] 25),
 S 5 31 29 (k [26,23,25] 25)]
def RY:ai:=[
 n 0 32,
 c 32 33 [0],
 a 2 33 34 [1],
 l 34 35 [2],
 n 0 36,
 c 36 37 [4],
 a 1 37 38 [5],
 l 38 39 [6],
 n 1 40,
 x 5 39 40 41 [7,8],
 a 3 41 42 [9],
 l 42 43 [10],
 n 0 44,
 c 44 45 [12],
 a 2 45 46 [13],
 l 46 47 [14],
 n 0 48,
 c 48 49 [16],
 a 1 49 50 [17],
 l 50 51 [18],
 n 2 52,
 x 5 51 52 53 [19,20],
 a 3 53 54 [21],
 l 54 55 [22],
 n 1 56,
 n 2 57,
 o (.mapEnt [(.int .i64)] false (.v (.int .i64 0)) (t 35) (t 43)) 58 [3,11,15,19,23],
 e 1 58 59 [26],
 s (.entSt (t 35) (t 59) (t 56)) [3,27,24,26,0,1,2,3,4,5,6,7,8,9,10,11,15,19,23,24,26],
 o (.mapEnt [(.int .i64)] false (.v (.int .i64 0)) (t 47) (t 55)) 60 [15,23,28,0,1,2,3,4,5,6,7,8,9,10,11,15,19,23,24,26,27,28],
 e 1 60 61 [29],
 s (.entSt (t 47) (t 61) (t 57)) (k [15,30,25,29] 29)]
def d1133:DC:=(j (Y RX) (Y RY))
def Lw:List bV:=[]
def c1133 [bI]:aB aj 133 62 d1133 Lw:=aB.of Tryz.f133 (by kernel_rfl)
def RZ:ai:=[
 n 1 6,
 m 6 4 [0,0]]
def R5:ai:=[
 n 1 7,
 o (.bin .mul (i 2) (t 7)) 8 [0],
 C .add 8 1 9 [1],
 m 9 5 [2,0,1,2]]
def CB:ai:=[
 n 5 10,
 n 1 11,
 o (.bin .mul (i 2) (t 11)) 12 [1],
 C .add 12 2 13 [2],
 b .leq 10 13 14 [0,3],
 m 14 15 [4],
 w 5 16 15 true [5],
 w 0 17 15 true [5],
 g (.nilCheck (t 17)) 18 15 true [7,5],
 u 1 18 19 15 true [8,5],
 v 19 20 15 true [9,5],
 H 20 21 15 true [10,5],
 D .lss 16 21 22 15 true [6,11,5],
 q 15 22 23 [5,12]]
def EN:ai:=[
 n 0 26,
 n 5 27,
 n 4 28,
 o (.callS 148 [(t 26),(t 27),(t 28)]) 29 [0,1,2]]
def d1134r3:ai:=EN.map bare
def R6:ai:=[
 n 5 30,
 m 30 4 [0,0]]
def R7:ai:=[
 n 5 24,
 C .add 24 1 25 [0],
 m 25 5 [1,0,1]]
def R8:ai:=[
 n 4 31,
 n 1 32,
 b .eql 31 32 33 [0,1]]
def EO:ai:=[
 n 0 34,
 n 1 35,
 n 4 36,
 o (.callS 133 [(t 34),(t 35),(t 36)]) 37 [0,1,2]]
def d1134r7:ai:=EO.map bare
def R9:ai:=[
 n 4 38,
 m 38 1 [0,0]]
def d1134:DC:=(.block 0 (.loop (.block 1 (j (y RZ) (j (j (y R5) (.block 2 (.loop (j (j (y CB) (.cond (.tmp 23) .skip (.exit 2))) (j (.block 3 (j (y d1134r3) (.cond (.tmp 29) (y R6) .skip))) (y R7)))))) (j (j (y R8) (.cond (.tmp 33) .ret .skip)) (j (y d1134r7) (y R9))))))))
def Lx:List bV:=[]
def c1134 [bI]:aB aj 134 39 d1134 Lx:=aB.of Tryz.f134 (by kernel_rfl)
def uJ:ai:=[
 n 1 4,
 C .gtr 4 0 5 [0],
 m 5 6 [1],
 w 0 7 6 true [2],
 w 1 8 6 true [2],
 w 1 9 6 true [2],
 E .sub 9 1 10 6 true [5,2],
 E .quo 10 2 11 6 true [6,2],
 g (.callS 148 [(t 7),(t 8),(t 11)]) 12 6 true [3,4,7,2,2],
 q 6 12 13 [2,8]]
def d1147r0:ai:=uJ.map bare
def EP:ai:=[
 n 0 14,
 n 1 15,
 n 1 16,
 C .sub 16 1 17 [2],
 C .quo 17 2 18 [3],
 o (.callS 133 [(t 14),(t 15),(t 18)]) 19 [0,1,4]]
def d1147r1:ai:=EP.map bare
def Sa:ai:=[
 n 1 20,
 C .sub 20 1 21 [0],
 C .quo 21 2 22 [1],
 m 22 1 [2,0,1,2]]
def d1147:DC:=(.block 0 (.loop (j (j (y d1147r0) (.cond (.tmp 13) .skip (.exit 0))) (.block 1 (j (y d1147r1) (y Sa))))))
def EQ:List bV:=[]
def c1147 [bI]:aB aj 147 23 d1147 EQ:=aB.of Tryz.f147 (by kernel_rfl)
def Sb:ai:=[
 F 6]
def IW:ai:=[
 n 0 9,
 c 9 10 [0],
 a 1 10 11 [1],
 l 11 12 [2],
 n 1 13,
 x 5 12 13 14 [3,4],
 L 5 14 15 [5],
 n 0 16,
 c 16 17 [7],
 a 1 17 18 [8],
 l 18 19 [9],
 n 2 20,
 x 5 19 20 21 [10,11],
 L 5 21 22 [12],
 o (.alloc [V 0,V 0,V 0,V 0,V 0]) 7 [],
 o (.alloc [V 0,V 0,V 0,V 0,V 0]) 8 [],
 S 5 7 15 [14,6,0,1,2,3,4,5,6,14,15],
 S 5 8 22 (k [15,13,16] 16)]
def Sc:ai:=[
 n 0 23,
 c 23 24 [0],
 a 0 24 25 [1],
 l 25 26 [2],
 a 0 7 27 [],
 L 3 27 28 [4],
 a 0 8 29 [],
 L 3 29 30 [6],
 o (.callv (t 26) [(t 28),(t 30)]) 31 [3,5,7]]
def Sd:ai:=[
 R 6]
def IX:ai:=[
 n 0 32,
 c 32 33 [0],
 a 0 33 34 [1],
 l 34 35 [2],
 a 0 8 36 [],
 L 3 36 37 [4],
 a 0 7 38 [],
 L 3 38 39 [6],
 o (.callv (t 35) [(t 37),(t 39)]) 40 [3,5,7],
 U 40 41 [8],
 m 41 42 [9,8],
 u 4 7 43 42 true [10],
 v 43 44 42 true [11,10],
 u 4 8 45 42 true [10],
 v 45 46 42 true [13,10],
 D .lss 44 46 47 42 true [12,14,10],
 q 42 47 48 [10,15],
 m 48 6 (k [16,10] 16)]
def d1148:DC:=(j (y Sb) (j (.jr IW) (j (j (Y Sc) (.cond (.tmp 31) (j (y Sd) .ret) .skip)) (j (Y IX) .ret))))
def ER:List bV:=[.da 6]
def c1148 [bI]:aB aj 148 49 d1148 ER:=aB.of Tryz.f148 (by kernel_rfl)
def Se:ai:=[
 B 0 1,
 F 2]
def ow:ai:=[
 a 0 1 3 [],
 l 3 4 [0],
 C .lss 4 0 5 [1],
 m 5 6 [2],
 u 0 1 7 6 false [3],
 v 7 8 6 false [4,3],
 E .gtr 8 120 9 6 false [5,3],
 p 6 9 10 [3,6],
 m 10 11 [7,3],
 u 1 1 12 11 false [8],
 v 12 13 11 false [9,8],
 E .lss 13 1 14 11 false [10,8],
 p 11 14 15 [8,11],
 m 15 16 [12,8],
 u 1 1 17 16 false [13],
 v 17 18 16 false [14,13],
 E .gtr 18 1000 19 16 false [15,13],
 p 16 19 20 [13,16],
 m 20 21 [17,13],
 u 2 1 22 21 false [18],
 v 22 23 21 false [19,18],
 E .lss 23 0 24 21 false [20,18],
 p 21 24 25 [18,21],
 m 25 26 [22,18],
 u 2 1 27 26 false [23],
 v 27 28 26 false [24,23],
 u 1 1 29 26 false [23],
 v 29 30 26 false [26,23],
 D .geq 28 30 31 26 false [25,27,23],
 p 26 31 32 [23,28],
 m 32 33 [29,23],
 u 3 1 34 33 false [30],
 v 34 35 33 false [31,30],
 H 35 36 33 false [32,30],
 E .gtr 36 600 37 33 false [33,30],
 p 33 37 38 [30,34]]
def Sf:ai:=[
 F 2]
def Sg:ai:=[
 a 3 1 39 [],
 l 39 40 [0],
 o (.mkFn (.func 39) [(t 1)]) 41 [],
 o (.call 38 [(t 40),(t 41)]) 42 [1,2],
 U 42 43 [3],
 m 43 2 (k [4,3] 4)]
def d1026:DC:=(j (y Se) (j (j (y ow) (.cond (.tmp 38) (j (y Sf) .ret) .skip)) (j (y Sg) .ret)))
def ES:List bV:=[.da 2]
def c1026 [bI]:aB aj 26 44 d1026 ES:=aB.of Tryz.f26 (by kernel_rfl)
def Si:ai:=[
 B 0 2,
 F 4]
def sH:ai:=[
 n 1 5,
 C .lss 5 0 6 [0],
 m 6 7 [1],
 u 0 2 8 7 false [2],
 v 8 9 7 false [3,2],
 H 9 10 7 false [4,2],
 E .gtr 10 60 11 7 false [5,2],
 p 7 11 12 [2,6],
 m 12 13 [7,2],
 u 1 2 14 13 false [8],
 v 14 15 13 false [9,8],
 H 15 16 13 false [10,8],
 w 1 17 13 false [8],
 D .neq 16 17 18 13 false [11,12,8],
 p 13 18 19 [8,13],
 m 19 20 [14,8],
 u 2 2 21 20 false [15],
 v 21 22 20 false [16,15],
 E .neq 22 0 23 20 false [17,15],
 w 23 24 20 false [18,15,15],
 u 2 2 25 24 true [19],
 v 25 26 24 true [20,19],
 g (.call 41 [(t 26)]) 27 24 true [21,19,19],
 K 27 28 24 true [22,19],
 g (.pick (t 24) (t 28) (.gN (.v (.bool false)))) 29 20 false [19,23,15],
 p 20 29 30 [15,24]]
def Sj:ai:=[
 F 4]
def IY:ai:=[
 a 1 2 31 [],
 l 31 32 [0],
 o (.call 42 [(t 32),(.gN (.v (.fn (.func 43) [])))]) 33 [1],
 U 33 34 [2],
 m 34 35 [3,2],
 u 0 2 36 35 true [4],
 v 36 37 35 true [5,4],
 w 1 38 35 true [4],
 g (.call 44 [(t 37),(t 38)]) 39 35 true [6,7,4,4],
 q 35 39 40 [4,8],
 m 40 4 (k [9,8] 9)]
def d1027:DC:=(j (y Si) (j (j (y sH) (.cond (.tmp 30) (j (y Sj) .ret) .skip)) (j (y IY) .ret)))
def ET:List bV:=[.da 4]
def c1027 [bI]:aB aj 27 41 d1027 ET:=aB.of Tryz.f27 (by kernel_rfl)
def Sk:ai:=[
 B 0 2,
 F 4]
def CC:ai:=[
 L 4 2 7 [],
 o (.call 26 [(t 7)]) 8 [0],
 U 8 9 [1],
 m 9 10 [2,1],
 w 1 11 10 false [3],
 H 11 12 10 false [4,3],
 u 0 2 13 10 false [3],
 v 13 14 10 false [6,3],
 D .neq 12 14 15 10 false [5,7,3],
 p 10 15 16 [3,8]]
def Sl:ai:=[
 F 4]
def Sm:ai:=[
 L 4 2 17 [],
 n 1 18,
 o (.call 45 [(t 17),(t 18)]) 19 [0,1],
 N 19 20 [2],
 I 0 21]
def Sn:ai:=[
 b .lss 21 20 22 []]
def So:ai:=[
 x 2 19 21 23 [],
 L 2 23 24 [0],
 o (.alloc [V 0,V 0]) 6 [],
 S 2 6 24 [2,1,0,1,2]]
def CD:ai:=[
 a 0 6 25 [],
 l 25 26 [0],
 C .lss 26 1099511627776 27 [1],
 m 27 28 [2],
 u 1 6 29 28 true [3],
 v 29 30 28 true [4,3],
 E .gtr 30 1000 31 28 true [5,3],
 q 28 31 32 [3,6]]
def Sp:ai:=[
 F 4]
def Sq:ai:=[
 C .add 21 1 33 [],
 m 33 21 [0]]
def Sr:ai:=[
 R 4]
def d1028:DC:=(j (y Sk) (j (j (y CC) (.cond (.tmp 16) (j (y Sl) .ret) .skip)) (j (j (y Sm) (.block 0 (.loop (j (y Sn) (j (.cond (.tmp 22) .skip (.exit 0)) (j (.block 1 (j (y So) (j (y CD) (.cond (.tmp 32) (j (y Sp) .ret) .skip)))) (y Sq))))))) (j (y Sr) .ret))))
def yT:List bV:=[.da 4]
def c1028 [bI]:aB aj 28 34 d1028 yT:=aB.of Tryz.f28 (by kernel_rfl)
def Ss:ai:=[
 F 4]
def St:ai:=[
 n 0 5,
 n 1 6,
 o (.call 64 [(t 5),(t 6)]) 7 [0,1],
 C .geq 7 0 8 [2],
 m 8 4 [3,2,0,1,2,3]]
def d1038:DC:=(j (y Ss) (j (y St) .ret))
def Ly:List bV:=[.da 4]
def c1038 [bI]:aB aj 38 9 d1038 Ly:=aB.of Tryz.f38 (by kernel_rfl)
def Su:ai:=[
 B 0 2,
 F 3]
def Sv:ai:=[
 L 4 1 4 [],
 L 6 2 5 [],
 o (.call 40 [(t 4),(t 5)]) 6 [0,1],
 U 6 7 [2],
 m 7 3 [3,2,0,1,2,3]]
def d1039:DC:=(j (y Su) (j (y Sv) .ret))
def Lz:List bV:=[.da 3]
def c1039 [bI]:aB aj 39 8 d1039 Lz:=aB.of Tryz.f39 (by kernel_rfl)
def Sw:ai:=[
 B 0 2,
 B 1 3,
 F 4]
def Sx:ai:=[
 o (.mkFn (.func 65) [(t 2)]) 6 [],
 m 6 5 [0,0]]
def vv:ai:=[
 n 5 7,
 a 1 3 8 [],
 l 8 9 [1],
 o (.callv (t 7) [(t 9)]) 10 [0,2],
 U 10 11 [3],
 m 11 12 [4,3],
 u 4 3 13 12 false [5],
 v 13 14 12 false [6,5],
 E .lss 14 0 15 12 false [7,5],
 p 12 15 16 [5,8],
 m 16 17 [9,5],
 u 4 3 18 17 false [10],
 v 18 19 17 false [11,10],
 E .gtr 19 1000 20 17 false [12,10],
 p 17 20 21 [10,13],
 m 21 22 [14,10],
 u 5 3 23 22 false [15],
 v 23 24 22 false [16,15],
 E .lss 24 (-1) 25 22 false [17,15],
 p 22 25 26 [15,18]]
def Sy:ai:=[
 F 4]
def Sz:ai:=[
 a 0 3 27 [],
 l 27 28 [0]]
def SA:ai:=[
 C .eql 28 1 30 [],
 m 30 29 [0]]
def CE:ai:=[
 a 2 3 31 [],
 l 31 32 [0],
 C .eql 32 0 33 [1],
 m 33 34 [2],
 u 3 3 35 34 true [3],
 v 35 36 34 true [4,3],
 E .eql 36 0 37 34 true [5,3],
 q 34 37 38 [3,6],
 m 38 4 (k [7,3] 7)]
def SB:ai:=[
 C .eql 28 2 40 [],
 m 40 39 [0]]
def yU:ai:=[
 a 2 3 41 [],
 l 41 42 [0],
 C .geq 42 0 43 [1],
 m 43 44 [2],
 u 2 3 45 44 true [3],
 v 45 46 44 true [4,3],
 u 0 2 47 44 true [3],
 v 47 48 44 true [6,3],
 D .lss 46 48 49 44 true [5,7,3],
 q 44 49 50 [3,8],
 m 50 51 [9,3],
 u 3 3 52 51 true [10],
 v 52 53 51 true [11,10],
 E .eql 53 0 54 51 true [12,10],
 q 51 54 55 [10,13],
 m 55 4 (k [14,10] 14)]
def SD:ai:=[
 C .eql 28 3 57 [],
 m 57 56 [0]]
def yV:ai:=[
 n 5 58,
 a 2 3 59 [],
 l 59 60 [1],
 o (.callv (t 58) [(t 60)]) 61 [0,2],
 m 61 62 [3,3],
 u 3 3 63 62 true [4],
 v 63 64 62 true [5,4],
 E .eql 64 0 65 62 true [6,4],
 q 62 65 66 [4,7],
 m 66 4 (k [8,4] 8)]
def LA:ai:=[
 C .eql 28 4 68 [],
 m 68 67 [0]]
def yW:ai:=[
 n 5 69,
 a 2 3 70 [],
 l 70 71 [1],
 o (.callv (t 69) [(t 71)]) 72 [0,2],
 m 72 73 [3,3],
 w 5 74 73 true [4],
 u 3 3 75 73 true [4],
 v 75 76 73 true [6,4],
 g (.callv (t 74) [(t 76)]) 77 73 true [5,7,4,4],
 q 73 77 78 [4,8],
 m 78 4 (k [9,8] 9)]
def LB:ai:=[
 F 4]
def d1040:DC:=(j (y Sw) (j (y Sx) (j (j (y vv) (.cond (.tmp 26) (j (y Sy) .ret) .skip)) (j (j (y Sz) (.block 0 (j (y SA) (.cond (.tmp 29) (j (y CE) .ret) (j (y SB) (.cond (.tmp 39) (j (y yU) .ret) (j (y SD) (.cond (.tmp 56) (j (y yV) .ret) (j (y LA) (.cond (.tmp 67) (j (y yW) .ret) .skip)))))))))) (j (y LB) .ret)))))
def pj:List bV:=[.da 4]
def c1040 [bI]:aB aj 40 79 d1040 pj:=aB.of Tryz.f40 (by kernel_rfl)
def SE:ai:=[
 F 2]
def CF:ai:=[
 n 0 3,
 C .geq 3 1 4 [0],
 m 4 5 [1],
 w 0 6 5 true [2],
 E .leq 6 60000 7 5 true [3,2],
 q 5 7 8 [2,4],
 m 8 2 (k [5,2] 5)]
def d1041:DC:=(j (y SE) (j (y CF) .ret))
def LC:List bV:=[.da 2]
def c1041 [bI]:aB aj 41 9 d1041 LC:=aB.of Tryz.f41 (by kernel_rfl)
def SF:ai:=[
 F 4]
def SG:ai:=[
 n 0 5,
 n 1 6,
 o (.call 66 [(t 5),(t 6)]) 7 [0,1],
 C .geq 7 0 8 [2],
 m 8 4 [3,2,0,1,2,3]]
def d1042:DC:=(j (y SF) (j (y SG) .ret))
def LD:List bV:=[.da 4]
def c1042 [bI]:aB aj 42 9 d1042 LD:=aB.of Tryz.f42 (by kernel_rfl)
def SH:ai:=[
 F 2]
def SI:ai:=[
 n 0 3,
 o (.call 41 [(t 3)]) 4 [0],
 U 4 5 [1],
 m 5 2 [2,1,0,1,2]]
def d1043:DC:=(j (y SH) (j (y SI) .ret))
def LF:List bV:=[.da 2]
def c1043 [bI]:aB aj 43 6 d1043 LF:=aB.of Tryz.f43 (by kernel_rfl)
def SJ:ai:=[
 B 1 3,
 F 4]
def SK:ai:=[
 n 0 5,
 o (.mkFn (.func 68) [(t 3)]) 6 [],
 o (.call 67 [(t 5),(t 6)]) 7 [0,1],
 U 7 8 [2],
 m 8 4 [3,2,0,1,2,3]]
def d1044:DC:=(j (y SJ) (j (y SK) .ret))
def LG:List bV:=[.da 4]
def c1044 [bI]:aB aj 44 9 d1044 LG:=aB.of Tryz.f44 (by kernel_rfl)
def IZ:ai:=[
 B 0 2,
 Z 4]
def I0:ai:=[
 L 4 2 7 [],
 n 1 8,
 o (.call 70 [(t 7),(t 8)]) 9 [0,1],
 U 9 10 [2]]
def SL:ai:=[
 Z 4]
def SM:ai:=[
 L 4 2 12 [],
 n 1 13,
 o (.call 72 [(t 12),(t 13)]) 14 [0,1],
 o (.call 71 [(t 14)]) 15 [2,2],
 m 15 11 [3],
 e 0 11 16 [4],
 e 1 11 17 [4],
 m 16 5 (k [5,3] 5),
 m 17 6 (k [6,7] 7)]
def SN:ai:=[
 n 5 18,
 m 18 4 [0,0]]
def d1045:DC:=(j (y IZ) (j (j (y I0) (.cond (.tmp 10) (j (y SL) .ret) .skip)) (j (y SM) (j (y SN) .ret))))
def EU:List bV:=[.da 4]
def c1045 [bI]:aB aj 45 19 d1045 EU:=aB.of Tryz.f45 (by kernel_rfl)
def SO:ai:=[
 I 0 4]
def SP:ai:=[
 n 0 6,
 N 6 7 [0],
 I 0 8]
def SQ:ai:=[
 b .lss 8 7 9 []]
def SR:ai:=[
 n 8 10,
 m 10 5 [0,0]]
def SS:ai:=[
 n 1 11,
 n 0 12,
 n 5 13,
 x 6 12 13 14 [1,2],
 L 6 14 15 [3],
 o (.callv (t 11) [(t 15)]) 16 [0,4]]
def ST:ai:=[
 n 5 17,
 m 17 4 [0,0]]
def SU:ai:=[
 C .add 8 1 18 [],
 m 18 8 [0]]
def SW:ai:=[
 I (-1) 4]
def d1064:DC:=(j (y SO) (j (j (y SP) (.block 0 (.loop (j (y SQ) (j (.cond (.tmp 9) .skip (.exit 0)) (j (.block 1 (j (y SR) (j (y SS) (.cond (.tmp 16) (j (y ST) .ret) .skip)))) (y SU))))))) (j (y SW) .ret)))
def EV:List bV:=[.da 4]
def c1064 [bI]:aB aj 64 19 d1064 EV:=aB.of Tryz.f64 (by kernel_rfl)
def SX:ai:=[
 F 3]
def CG:ai:=[
 n 0 4,
 C .geq 4 0 5 [0],
 m 5 6 [1],
 w 0 7 6 true [2],
 u 1 1 8 6 true [2],
 v 8 9 6 true [4,2],
 D .lss 7 9 10 6 true [3,5,2],
 q 6 10 11 [2,6],
 m 11 3 (k [7,2] 7)]
def d1065:DC:=(j (y SX) (j (y CG) .ret))
def LH:List bV:=[.da 3]
def c1065 [bI]:aB aj 65 12 d1065 LH:=aB.of Tryz.f65 (by kernel_rfl)
def SY:ai:=[
 I 0 4]
def SZ:ai:=[
 n 0 6,
 N 6 7 [0],
 I 0 8]
def Ta:ai:=[
 b .lss 8 7 9 []]
def Tb:ai:=[
 n 8 10,
 m 10 5 [0,0]]
def Tc:ai:=[
 n 1 11,
 n 0 12,
 n 5 13,
 x 1 12 13 14 [1,2],
 l 14 15 [3],
 o (.callv (t 11) [(t 15)]) 16 [0,4]]
def Td:ai:=[
 n 5 17,
 m 17 4 [0,0]]
def Te:ai:=[
 C .add 8 1 18 [],
 m 18 8 [0]]
def Tf:ai:=[
 I (-1) 4]
def d1066:DC:=(j (y SY) (j (j (y SZ) (.block 0 (.loop (j (y Ta) (j (.cond (.tmp 9) .skip (.exit 0)) (j (.block 1 (j (y Tb) (j (y Tc) (.cond (.tmp 16) (j (y Td) .ret) .skip)))) (y Te))))))) (j (y Tf) .ret)))
def EW:List bV:=[.da 4]
def c1066 [bI]:aB aj 66 19 d1066 EW:=aB.of Tryz.f66 (by kernel_rfl)
def Tg:ai:=[
 F 4]
def Th:ai:=[
 n 0 5,
 n 1 6,
 o (.call 99 [(t 5),(t 6)]) 7 [0,1],
 C .geq 7 0 8 [2],
 m 8 4 [3,2,0,1,2,3]]
def d1067:DC:=(j (y Tg) (j (y Th) .ret))
def LI:List bV:=[.da 4]
def c1067 [bI]:aB aj 67 9 d1067 LI:=aB.of Tryz.f67 (by kernel_rfl)
def Ti:ai:=[
 B 0 2,
 F 3]
def Tj:ai:=[
 L 3 2 4 [],
 l 1 5 [],
 o (.call 69 [(t 4),(t 5)]) 6 [0,1],
 U 6 7 [2],
 m 7 3 [3,2,0,1,2,3]]
def d1068:DC:=(j (y Ti) (j (y Tj) .ret))
def LJ:List bV:=[.da 3]
def c1068 [bI]:aB aj 68 8 d1068 LJ:=aB.of Tryz.f68 (by kernel_rfl)
def Tk:ai:=[
 B 0 2,
 F 4]
def sI:ai:=[
 a 0 2 7 [],
 l 7 8 [0],
 C .lss 8 (-1) 9 [1],
 m 9 10 [2],
 u 0 2 11 10 false [3],
 v 11 12 10 false [4,3],
 w 1 13 10 false [3],
 D .geq 12 13 14 10 false [5,6,3],
 p 10 14 15 [3,7],
 m 15 16 [8,3],
 u 1 2 17 16 false [9],
 v 17 18 16 false [10,9],
 H 18 19 16 false [11,9],
 w 1 20 16 false [9],
 D .neq 19 20 21 16 false [12,13,9],
 p 16 21 22 [9,14],
 m 22 23 [15,9],
 u 2 2 24 23 false [16],
 v 24 25 23 false [17,16],
 g (.call 41 [(t 25)]) 26 23 false [18,16,16],
 K 26 27 23 false [19,16],
 w 27 28 23 false [20,19,16],
 u 2 2 29 28 true [21],
 v 29 30 28 true [22,21],
 E .neq 30 1099511627776 31 28 true [23,21],
 g (.pick (t 28) (t 31) (.gN (.v (.bool false)))) 32 23 false [21,24,16],
 p 23 32 33 [16,25]]
def Tl:ai:=[
 F 4]
def Tm:ai:=[
 a 1 2 34 [],
 l 34 35 [0],
 N 35 36 [1],
 I 0 37]
def Tn:ai:=[
 b .lss 37 36 38 []]
def To:ai:=[
 n 37 39,
 x 1 35 37 40 [],
 l 40 41 [1],
 m 39 5 [0,0,1,2],
 m 41 6 [2,3,0,1,2,3]]
def vw:ai:=[
 n 5 42,
 a 0 2 43 [],
 l 43 44 [1],
 b .eql 42 44 45 [0,2],
 m 45 46 [3],
 w 6 47 46 true [4],
 E .neq 47 0 48 46 true [5,4],
 q 46 48 49 [4,6],
 m 49 50 [7,4],
 w 5 51 50 false [8],
 u 0 2 52 50 false [8],
 v 52 53 50 false [10,8],
 D .neq 51 53 54 50 false [9,11,8],
 w 54 55 50 false [12,8,8],
 w 6 56 55 true [13],
 E .neq 56 (-1) 57 55 true [14,13],
 g (.pick (t 55) (t 57) (.gN (.v (.bool false)))) 58 50 false [13,15,8],
 w 58 59 50 false [16,13,8],
 w 6 60 59 true [17],
 g (.call 41 [(t 60)]) 61 59 true [18,17,17],
 K 61 62 59 true [19,17],
 g (.pick (t 59) (t 62) (.gN (.v (.bool false)))) 63 50 false [17,20,8],
 p 50 63 64 [8,21]]
def Tp:ai:=[
 F 4]
def Tq:ai:=[
 C .add 37 1 65 [],
 m 65 37 [0]]
def Tr:ai:=[
 R 4]
def d1069:DC:=(j (y Tk) (j (j (y sI) (.cond (.tmp 33) (j (y Tl) .ret) .skip)) (j (j (y Tm) (.block 0 (.loop (j (y Tn) (j (.cond (.tmp 38) .skip (.exit 0)) (j (.block 1 (j (y To) (j (y vw) (.cond (.tmp 64) (j (y Tp) .ret) .skip)))) (y Tq))))))) (j (y Tr) .ret))))
def yX:List bV:=[.da 4]
def c1069 [bI]:aB aj 69 66 d1069 yX:=aB.of Tryz.f69 (by kernel_rfl)
def Ts:ai:=[
 B 0 2,
 F 4]
def CH:ai:=[
 L 4 2 7 [],
 o (.call 26 [(t 7)]) 8 [0],
 U 8 9 [1],
 m 9 10 [2,1],
 w 1 11 10 false [3],
 H 11 12 10 false [4,3],
 u 0 2 13 10 false [3],
 v 13 14 10 false [6,3],
 D .neq 12 14 15 10 false [5,7,3],
 p 10 15 16 [3,8]]
def Tu:ai:=[
 F 4]
def Tv:ai:=[
 n 1 17,
 N 17 18 [0],
 I 0 19]
def Tw:ai:=[
 b .lss 19 18 20 []]
def Tx:ai:=[
 x 1 17 19 21 [],
 l 21 22 [0],
 m 22 6 [1,0,1]]
def CI:ai:=[
 n 6 23,
 C .lss 23 1 24 [0],
 m 24 25 [1],
 w 6 26 25 false [2],
 E .gtr 26 60000 27 25 false [3,2],
 p 25 27 28 [2,4]]
def Tz:ai:=[
 F 4]
def TA:ai:=[
 C .add 19 1 29 [],
 m 29 19 [0]]
def TB:ai:=[
 R 4]
def d1070:DC:=(j (y Ts) (j (j (y CH) (.cond (.tmp 16) (j (y Tu) .ret) .skip)) (j (j (y Tv) (.block 0 (.loop (j (y Tw) (j (.cond (.tmp 20) .skip (.exit 0)) (j (.block 1 (j (y Tx) (j (y CI) (.cond (.tmp 28) (j (y Tz) .ret) .skip)))) (y TA))))))) (j (y TB) .ret))))
def yY:List bV:=[.da 4]
def c1070 [bI]:aB aj 70 30 d1070 yY:=aB.of Tryz.f70 (by kernel_rfl)
def TC:ai:=[
 B 0 2,
 o (.alloc [V 0,.aW]) 4 []]
def TD:ai:=[
 a 1 2 9 [],
 l 9 10 [0],
 o (.build [V 0,.aW] [(0,1,(t 10))]) 11 [1],
 o (.alloc [V 0,.aW]) 5 [],
 S 2 5 11 [3,2,0,1,2,3]]
def TE:ai:=[
 a 3 2 12 [],
 l 12 13 [0],
 N 13 14 [1],
 I 0 15]
def TF:ai:=[
 b .lss 15 14 16 []]
def TG:ai:=[
 x 6 13 15 17 [],
 L 6 17 18 [0],
 o (.alloc [V 0,V 0,V 0,V 0,V 0,V 0]) 7 [],
 S 6 7 18 [2,1,0,1,2]]
def TH:ai:=[
 a 1 7 19 [],
 l 19 20 [0],
 a 4 7 21 [],
 l 21 22 [2],
 o (.build [V 0,.aW,V 0,V 0,V 0] [(0,1,(t 20)),(2,1,(t 22))]) 23 [1,3],
 o (.alloc [V 0,.aW,V 0,V 0,V 0]) 8 [],
 S 5 8 23 (k [5,4] 5)]
def TI:ai:=[
 a 0 7 24 [],
 l 24 25 [0]]
def TJ:ai:=[
 C .eql 25 2 27 [],
 m 27 26 [0]]
def TK:ai:=[
 a 2 8 28 [],
 l 28 29 [0],
 n 1 30,
 a 2 7 31 [],
 l 31 32 [3],
 x 1 30 32 33 [2,4],
 l 33 34 [5],
 b .add 29 34 35 [1,6],
 a 2 8 36 (k [] 7),
 S 1 36 35 (k [8,7] 7)]
def TL:ai:=[
 C .eql 25 3 38 [],
 m 38 37 [0]]
def LK:ai:=[
 a 2 7 39 [],
 l 39 40 [0],
 o (.bslice 1 1 [V 0] [(0,1,(t 40))]) 41 [1],
 a 1 8 42 [0,1,2],
 S 1 42 41 [3,2,0,1,2]]
def LL:ai:=[
 C .eql 25 4 44 [],
 m 44 43 [0]]
def LM:ai:=[
 a 2 7 45 [],
 l 45 46 [0],
 a 3 7 47 [],
 l 47 48 [2],
 o (.bslice 2 1 [V 0,V 0] [(0,1,(t 46)),(1,1,(t 48))]) 49 [1,3],
 a 1 8 50 (k [] 4),
 S 1 50 49 (k [5,4] 4)]
def LN:ai:=[
 a 1 5 51 [],
 l 51 52 [0],
 L 5 8 53 [],
 o (.bslice 1 5 [V 0,.aW,V 0,V 0,V 0] [(0,5,(t 53))]) 54 [2],
 o (.append 157 5 56 (t 52) (t 54)) 55 [1,3],
 a 1 5 56 (k [] 4),
 S 1 56 55 (k [5,4,4] 4)]
def LO:ai:=[
 C .add 15 1 57 [],
 m 57 15 [0]]
def LP:ai:=[
 L 2 5 58 [],
 S 2 4 58 [0,0]]
def d1072:DC:=(j (y TC) (j (y TD) (j (j (y TE) (.block 0 (.loop (j (y TF) (j (.cond (.tmp 16) .skip (.exit 0)) (j (.block 1 (j (y TG) (j (y TH) (j (j (y TI) (.block 2 (j (y TJ) (.cond (.tmp 26) (Y TK) (j (y TL) (.cond (.tmp 37) (y LK) (j (y LL) (.cond (.tmp 43) (y LM) .skip)))))))) (y LN))))) (y LO))))))) (j (y LP) .ret))))
def LQ:List bV:=[.cell 4 2 true]
def c1072 [bI]:aB aj 72 59 d1072 LQ:=aB.of Tryz.f72 (by kernel_rfl)
def TM:ai:=[
 I 0 4]
def TN:ai:=[
 n 0 6,
 N 6 7 [0],
 I 0 8]
def TO:ai:=[
 b .lss 8 7 9 []]
def TP:ai:=[
 n 8 10,
 m 10 5 [0,0]]
def TQ:ai:=[
 n 1 11,
 n 0 12,
 n 5 13,
 x 3 12 13 14 [1,2],
 L 3 14 15 [3],
 o (.callv (t 11) [(t 15)]) 16 [0,4]]
def TR:ai:=[
 n 5 17,
 m 17 4 [0,0]]
def TS:ai:=[
 C .add 8 1 18 [],
 m 18 8 [0]]
def TT:ai:=[
 I (-1) 4]
def d1099:DC:=(j (y TM) (j (j (y TN) (.block 0 (.loop (j (y TO) (j (.cond (.tmp 9) .skip (.exit 0)) (j (.block 1 (j (y TP) (j (y TQ) (.cond (.tmp 16) (j (y TR) .ret) .skip)))) (y TS))))))) (j (y TT) .ret)))
def EX:List bV:=[.da 4]
def c1099 [bI]:aB aj 99 19 d1099 EX:=aB.of Tryz.f99 (by kernel_rfl)
def d1006r0:ai:=[
 B 0 3,
 B 1 4,
 F 6]
def d1006r1:ai:=[
 o (.call 8 []) 14 [],
 U 14 15 [0]]
def d1006r2:ai:=[
 F 6]
def LZ:ai:=[
 L 4 3 17 [],
 L 3 4 18 [],
 o (.call 9 [(t 17),(t 18)]) 19 [0,1],
 m 19 16 [2],
 e 0 16 20 [3],
 e 1 16 21 [3],
 o (.alloc [V 0,V 0,V 0,.aW,.aW,.aW,V 0,V 0,V 0,(.v (.bool false))]) 7 [],
 S 10 7 20 [6,4,2,0,1,2,3,4,6],
 m 21 8 (k [5,7] 7)]
def aaJ:ai:=[
 n 8 22,
 U 22 23 [0],
 m 23 24 [1],
 g (.load 4 true (t 3)) 25 24 false [2],
 g (.load 3 true (t 4)) 26 24 false [2],
 g (.call 10 [(t 25),(t 26)]) 27 24 false [3,4,2,2],
 K 27 28 24 false [5,2],
 p 24 28 29 [2,6]]
def aaO:ai:=[
 R 6]
def d1006r6:ai:=[
 L 4 3 30 [],
 L 3 4 31 [],
 o (.call 12 [(t 30),(t 31)]) 32 [0,1],
 m 32 9 [2,2,0,1,2]]
def v7:ai:=[
 n 9 33,
 n 2 34,
 o (.conv .i64 (t 34)) 35 [1],
 o (.callS 17 [(t 33),(t 35)]) 36 [0,2],
 m 36 10 [3,3,0,1,2,3]]
def d1006r7:ai:=v7.map bare
def v8:ai:=[
 n 9 37,
 o (.callS 14 [(t 37)]) 38 [0]]
def d1006r8:ai:=v8.map bare
def k9:ai:=[
 n 9 40,
 o (.callS 19 [(t 40)]) 41 [0],
 m 41 39 [1],
 e 0 39 42 [2],
 e 1 39 43 [2],
 o (.alloc [V 0,V 0,.aW]) 11 [],
 S 3 11 42 [5,3,1,0,1,2,3,5],
 m 43 12 (k [4,6] 6)]
def d1006r9:ai:=k9.map bare
def zb:ai:=[
 n 10 44,
 a 7 7 45 [],
 l 45 46 [1],
 b .geq 44 46 47 [0,2]]
def qd:ai:=[
 n 10 48,
 a 7 7 49 [],
 l 49 50 [1],
 b .eql 48 50 51 [0,2],
 m 51 52 [3],
 w 12 53 52 true [4],
 E .eql 53 0 54 52 true [5,4],
 q 52 54 55 [4,6],
 m 55 56 [7,4],
 w 9 57 56 true [8],
 g (.callS 18 [(t 57)]) 58 56 true [9,8,8],
 E .eql 58 0 59 56 true [10,8],
 q 56 59 60 [8,11],
 m 60 6 (k [12,10] 12)]
def d1006r11:ai:=qd.map bare
def qh:ai:=[
 n 9 61,
 o (.callS 18 [(t 61)]) 62 [0],
 m 62 13 [1,1,0,1]]
def d1006r12:ai:=qh.map bare
def v6:ai:=[
 n 10 63,
 n 2 64,
 o (.conv .i64 (t 64)) 65 [1],
 b .eql 63 65 66 [0,2],
 m 66 67 [3],
 w 12 68 67 true [4],
 E .eql 68 12 69 67 true [5,4],
 q 67 69 70 [4,6],
 m 70 71 [7,4],
 u 2 11 72 71 true [8],
 v 72 73 71 true [9,8],
 H 73 74 71 true [10,8],
 E .eql 74 0 75 71 true [11,8],
 q 71 75 76 [8,12],
 m 76 77 [13,8],
 w 13 78 77 true [14],
 u 7 7 79 77 true [14],
 v 79 80 77 true [16,14],
 w 10 81 77 true [14],
 D .sub 80 81 82 77 true [17,18,14],
 D .eql 78 82 83 77 true [15,19,14],
 q 77 83 84 [14,20],
 m 84 85 [21,14],
 w 9 86 85 true [22],
 g (.callS 17 [(t 86),(i 100)]) 87 85 true [23,22,22],
 E .eql 87 0 88 85 true [24,22],
 q 85 88 89 [22,25],
 m 89 90 [26,24],
 w 9 91 90 true [27],
 g (.callS 18 [(t 91)]) 92 90 true [28,27,27],
 w 13 93 90 true [27],
 D .eql 92 93 94 90 true [29,30,27],
 q 90 94 95 [27,31],
 m 95 6 (k [32,29] 32)]
def d1006r13:ai:=v6.map bare
def d1006:DC:=(j (y d1006r0) (j (j (y d1006r1) (.cond (.tmp 15) (j (y d1006r2) .ret) .skip)) (j (y LZ) (j (j (y aaJ) (.cond (.tmp 29) (j (y aaO) .ret) .skip)) (j (y d1006r6) (j (y d1006r7) (j (y d1006r8) (j (y d1006r9) (j (j (y zb) (.cond (.tmp 47) (j (y d1006r11) .ret) .skip)) (j (y d1006r12) (j (y d1006r13) .ret)))))))))))
def qb:List bV:=[.da 6]
def c1006 [bI]:aB aj 6 96 d1006 qb:=aB.of Tryz.f6 (by kernel_rfl)
def TZ:ai:=[
 F 0]
def T0:ai:=[
 o (.call 21 []) 12 [],
 m 12 11 [0],
 e 0 11 13 [1],
 e 1 11 14 [1],
 o (.alloc [V 0,V 0,V 0,.aW]) 1 [],
 o (.alloc [.aW,.aW,V 0]) 2 [],
 S 4 1 13 [4,2,0,0,1,2,4,5],
 S 3 2 14 (k [5,3,6] 6)]
def T1:ai:=[
 L 4 1 15 [],
 L 3 2 16 [],
 o (.call 12 [(t 15),(t 16)]) 17 [0,1],
 m 17 3 [2,2,0,1,2]]
def T2:ai:=[
 n 3 18,
 o (.isNil 1 false (t 18)) 19 [0]]
def d1008r4:ai:=[
 F 0]
def EZ:ai:=[
 n 3 20,
 o (.callS 17 [(t 20),(i 4)]) 21 [0],
 m 21 4 [1,1,0,1]]
def d1008r5:ai:=EZ.map bare
def E0:ai:=[
 n 3 23,
 o (.callS 19 [(t 23)]) 24 [0],
 m 24 22 [1],
 e 0 22 25 [2],
 e 1 22 26 [2],
 o (.alloc [V 0,V 0,.aW]) 5 [],
 S 3 5 25 [5,3,1,0,1,2,3,5],
 m 26 6 (k [4,6] 6)]
def d1008r6:ai:=E0.map bare
def E3:ai:=[
 n 3 27,
 o (.callS 18 [(t 27)]) 28 [0],
 m 28 7 [1,1,0,1]]
def d1008r7:ai:=E3.map bare
def E4:ai:=[
 n 3 29,
 o (.callS 17 [(t 29),(i 9)]) 30 [0],
 m 30 8 [1,1,0,1]]
def d1008r8:ai:=E4.map bare
def E5:ai:=[
 n 3 32,
 o (.callS 19 [(t 32)]) 33 [0],
 m 33 31 [1],
 e 0 31 34 [2],
 e 1 31 35 [2],
 o (.alloc [V 0,V 0,.aW]) 9 [],
 S 3 9 34 [5,3,1,0,1,2,3,5],
 m 35 10 (k [4,6] 6)]
def d1008r9:ai:=E5.map bare
def LW:ai:=[
 n 4 36,
 C .eql 36 4 37 [0],
 m 37 38 [1],
 w 6 39 38 true [2],
 E .eql 39 15 40 38 true [3,2],
 q 38 40 41 [2,4],
 m 41 42 [5,2],
 w 7 43 42 true [6],
 E .eql 43 2 44 42 true [7,6],
 q 42 44 45 [6,8],
 m 45 46 [9,6],
 w 8 47 46 true [10],
 E .eql 47 2 48 46 true [11,10],
 q 46 48 49 [10,12],
 m 49 50 [13,10],
 w 10 51 50 true [14],
 E .eql 51 0 52 50 true [15,14],
 q 50 52 53 [14,16],
 m 53 54 [17,14],
 u 1 9 55 54 true [18],
 v 55 56 54 true [19,18],
 E .eql 56 3 57 54 true [20,18],
 q 54 57 58 [18,21],
 m 58 59 [22,18],
 u 2 9 60 59 true [23],
 v 60 61 59 true [24,23],
 H 61 62 59 true [25,23],
 E .eql 62 6 63 59 true [26,23],
 q 59 63 64 [23,27],
 m 64 65 [28,23],
 u 2 9 66 65 true [29],
 v 66 67 65 true [30,29],
 g (.idxAddr 4 (t 67) (i 2)) 68 65 true [31,29],
 u 0 68 69 65 true [32,29],
 g (.load 2 true (t 69)) 70 65 true [33,29],
 g (.build [V 0,V 0] [(0,1,(i 2)),(1,1,(i 1))]) 71 65 true [29],
 g (.eqT false true [(.int .i64),(.int .i64)] (t 70) (t 71)) 72 65 true [34,35,29],
 q 65 72 73 [29,36],
 m 73 0 (k [37,29] 37)]
def d1008:DC:=(j (y TZ) (j (y T0) (j (y T1) (j (j (y T2) (.cond (.tmp 19) (j (y d1008r4) .ret) .skip)) (j (y d1008r5) (j (y d1008r6) (j (y d1008r7) (j (y d1008r8) (j (y d1008r9) (j (y LW) .ret))))))))))
def LX:List bV:=[.da 0]
def c1008 [bI]:aB aj 8 74 d1008 LX:=aB.of Tryz.f8 (by kernel_rfl)
def T3:ai:=[
 B 0 2,
 B 1 3,
 o (.alloc [V 0,V 0,V 0,.aW,.aW,.aW,V 0,V 0,V 0,(.v (.bool false))]) 4 [],
 F 5]
def I4:ai:=[
 L 4 2 7 [],
 a 1 3 8 [],
 l 8 9 [1],
 o (.call 22 [(t 7),(t 9)]) 10 [0,2],
 U 10 11 [3],
 m 11 12 [4,3],
 g (.load 3 true (t 3)) 13 12 false [5],
 u 0 2 14 12 false [5],
 v 14 15 12 false [7,5],
 g (.call 23 [(t 13),(t 15)]) 16 12 false [6,8,5,5],
 K 16 17 12 false [9,5],
 p 12 17 18 [5,10]]
def T4:ai:=[
 o (.build [V 0,V 0,V 0,.aW,.aW,.aW,V 0,V 0,V 0,(.v (.bool false))] []) 19 [],
 S 10 4 19 [0,0],
 o (.qu (.gN (.v (.bool false)))) 5 [1,0,1]]
def T5:ai:=[
 a 0 3 20 [],
 l 20 21 [0],
 N 21 22 [1],
 o (.bin .mul (i 2) (t 22)) 23 [2],
 C .add 23 1 24 [3],
 m 24 6 (k [4] 4)]
def T6:ai:=[
 L 4 2 25 [],
 L 3 3 26 [],
 n 6 27,
 n 6 28,
 C .add 28 1 29 [3],
 b .mul 27 29 30 [2,4],
 C .quo 30 2 31 [5],
 o (.build [V 0,V 0,V 0,.aW,.aW,.aW,V 0,V 0,V 0,(.v (.bool false))] [(0,4,(t 25)),(4,3,(t 26)),(7,1,(t 31))]) 32 [0,1,6],
 S 10 4 32 (k [7] 7),
 o (.qu (.gN (.v (.bool true)))) 5 (k [8] 8)]
def d1009:DC:=(j (y T3) (j (j (y I4) (.cond (.tmp 18) (j (y T4) .ret) .skip)) (j (y T5) (j (y T6) .ret))))
def E6:List bV:=[.cell 4 10 true,.da 5]
def c1009 [bI]:aB aj 9 33 d1009 E6:=aB.of Tryz.f9 (by kernel_rfl)
def T7:ai:=[
 B 0 2,
 B 1 3,
 F 4]
def vA:ai:=[
 L 4 2 5 [],
 a 1 3 6 [],
 l 6 7 [1],
 o (.call 24 [(t 5),(t 7)]) 8 [0,2],
 m 8 9 [3,3],
 u 1 2 10 9 true [4],
 v 10 11 9 true [5,4],
 E .leq 11 12 12 9 true [6,4],
 q 9 12 13 [4,7],
 m 13 14 [8,4],
 u 3 2 15 14 true [9],
 v 15 16 14 true [10,9],
 H 16 17 14 true [11,9],
 E .leq 17 20 18 14 true [12,9],
 q 14 18 19 [9,13],
 m 19 20 [14,9],
 g (.load 3 true (t 3)) 21 20 true [15],
 g (.call 25 [(t 21),(i 4),(i 6)]) 22 20 true [16,15,15],
 q 20 22 23 [15,17],
 m 23 4 (k [18,17] 18)]
def d1010:DC:=(j (y T7) (j (y vA) .ret))
def LY:List bV:=[.da 4]
def c1010 [bI]:aB aj 10 24 d1010 LY:=aB.of Tryz.f10 (by kernel_rfl)
def I5:ai:=[
 B 0 2,
 B 1 3,
 o (.qu (.gN (.v (.mg (Go.Value.pointer Option.none))))) 4 []]
def y6:ai:=[
 L 4 2 7 [],
 o (.call 26 [(t 7)]) 8 [0],
 U 8 9 [1],
 m 9 10 [2,1],
 g (.load 3 true (t 3)) 11 10 false [3],
 u 0 2 12 10 false [3],
 v 12 13 10 false [5,3],
 g (.call 27 [(t 11),(t 13)]) 14 10 false [4,6,3,3],
 K 14 15 10 false [7,3],
 p 10 15 16 [3,8],
 m 16 17 [9,7],
 g (.load 4 true (t 2)) 18 17 false [10],
 u 1 3 19 17 false [10],
 v 19 20 17 false [12,10],
 g (.call 28 [(t 18),(t 20)]) 21 17 false [11,13,10,10],
 K 21 22 17 false [14,10],
 p 17 22 23 [10,15]]
def T8:ai:=[
 o (.qu (.gN (.v (.mg (Go.Value.pointer Option.none))))) 4 []]
def T9:ai:=[
 L 3 3 24 [],
 o (.call 29 [(t 24)]) 25 [0],
 o (.alloc [V 0,.aW,.aW]) 5 [],
 S 3 5 25 [2,1,1,0,1,2]]
def Ua:ai:=[
 a 0 5 26 [],
 l 26 27 [0],
 a 0 5 28 [],
 l 28 29 [2],
 C .add 29 1 30 [3],
 b .mul 27 30 31 [1,4],
 C .quo 31 2 32 [5],
 m 32 6 (k [6] 6)]
def Ub:ai:=[
 L 4 2 33 [],
 L 3 5 34 [],
 a 1 2 35 [],
 l 35 36 [2],
 a 0 5 37 [],
 l 37 38 [4],
 a 1 2 39 [],
 l 39 40 [6],
 n 6 41,
 b .mul 40 41 42 [7,8],
 o (.mkSlice 65 4 32 [(.int .i64 0),(.int .i64 0),(.int .i64 0),(.int .i64 0)] (t 42)) 43 [9,9],
 o (.build [V 0,V 0,.aW] [(0,1,(t 36)),(1,1,(t 38)),(2,1,(t 43))]) 44 [3,5,10],
 n 6 45,
 o (.build [V 0,V 0,V 0,.aW,V 0,.aW,.aW,V 0,V 0,.aW,V 0,V 0,V 0,(.v (.bool false))] [(0,4,(t 33)),(4,3,(t 34)),(7,3,(t 44)),(12,1,(t 45))]) 46 [0,1,11,12],
 o (.box (t 46)) 47 [13],
 m 47 4 (k [14] 14)]
def d1012:DC:=(j (y I5) (j (j (y y6) (.cond (.tmp 23) (j (y T8) .ret) .skip)) (j (y T9) (j (y Ua) (j (Y Ub) .ret)))))
def aas:List bV:=[.da 4]
def c1012 [bI]:aB aj 12 48 d1012 aas:=aB.of Tryz.f12 (by kernel_rfl)
def d1014r0:ai:=[
 n 0 2,
 o (.isNil 1 true (t 2)) 3 [0],
 m 3 4 [1],
 w 0 5 4 true [2],
 g (.nilCheck (t 5)) 6 4 true [3,2],
 u 12 6 7 4 true [4,2],
 v 7 8 4 true [5,2],
 E .gtr 8 0 9 4 true [6,2],
 q 4 9 10 [2,7]]
def d1014r1:ai:=[
 n 0 11,
 c 11 12 [0,0],
 a 13 12 13 [1,0],
 s (.store 1 (t 13) (.gN (.v (.bool true)))) [2,0]]
def d1014:DC:=(j (y d1014r0) (.cond (.tmp 10) (y d1014r1) .skip))
def LU:List bV:=[]
def c1014 [bI]:aB aj 14 14 d1014 LU:=aB.of Tryz.f14 (by kernel_rfl)
def CJ:ai:=[
 B 0 2,
 B 1 3,
 I 0 4]
def y7:ai:=[
 l 2 8 [],
 o (.isNil 1 false (t 8)) 9 [0],
 m 9 10 [1],
 v 2 11 10 false [2],
 g (.nilCheck (t 11)) 12 10 false [3,2],
 u 13 12 13 10 false [4,2],
 v 13 14 10 false [5,2],
 p 10 14 15 [2,6],
 m 15 16 [7,2],
 v 3 17 16 false [8],
 E .leq 17 0 18 16 false [9,8],
 p 16 18 19 [8,10]]
def I6:ai:=[
 I 0 4]
def Ud:ai:=[
 o (.alloc [V 0]) 5 [],
 s (.store 1 (t 5) (i 0)) [0,0]]
def Ue:ai:=[
 l 2 20 [],
 o (.call 30 [(t 20)]) 21 [0]]
def Uf:ai:=[
 n 22 6]
def Ug:ai:=[
 n 23 7]
def E7:ai:=[
 l 2 24 [],
 n 6 25,
 n 7 26,
 o (.callS 31 [(t 24),(t 25),(t 26)]) 27 [0,1,2]]
def d1017r7:ai:=E7.map bare
def Uh:ai:=[
 l 5 28 [],
 C .add 28 1 29 [0],
 S 1 5 29 [1,0,1]]
def Ui:ai:=[
 l 5 30 [],
 l 3 31 [],
 b .eql 30 31 32 [0,1]]
def E8:ai:=[
 l 5 33 [],
 m 33 4 [0,0]]
def d1017:DC:=(j (y CJ) (j (j (y y7) (.cond (.tmp 19) (j (y I6) .ret) .skip)) (j (y Ud) (j (j (y Ue) (.block 0 (.Id (.tmp 21) [22,23] (j (y Uf) (y Ug)) (.block 1 (j (y d1017r7) (j (y Uh) (j (y Ui) (.cond (.tmp 32) (.exit 0) .skip)))))))) (j (y E8) .ret)))))
def uK:List bV:=[.da 4]
def aat [bI]:aB aj 17 34 d1017 uK:=aB.of Tryz.f17 (by kernel_rfl)
def I7:ai:=[
 I 0 2]
def I8:ai:=[
 n 0 3,
 o (.isNil 1 false (t 3)) 4 [0]]
def Uj:ai:=[
 I 0 2]
def Uk:ai:=[
 n 0 5,
 c 5 6 [0],
 a 12 6 7 [1],
 l 7 8 [2],
 m 8 2 [3,0,1,2,3]]
def d1018:DC:=(j (y I7) (j (j (y I8) (.cond (.tmp 4) (j (y Uj) .ret) .skip)) (j (y Uk) .ret)))
def E9:List bV:=[.da 2]
def c1018 [bI]:aB aj 18 9 d1018 E9:=aB.of Tryz.f18 (by kernel_rfl)
def CK:ai:=[
 o (.alloc [V 0,V 0,.aW]) 2 [],
 I 0 3]
def CL:ai:=[
 n 0 5,
 o (.isNil 1 false (t 5)) 6 [0],
 m 6 4 [1]]
def Ul:ai:=[
 o (.build [V 0,V 0,.aW] []) 7 [],
 S 3 2 7 [0,0],
 o (.qu (i 15)) 3 [1,0,1]]
def I9:ai:=[
 n 0 9,
 c 9 10 [0],
 a 13 10 11 [1],
 l 11 12 [2],
 m 12 8 [3]]
def Um:ai:=[
 o (.build [V 0,V 0,.aW] []) 13 [],
 S 3 2 13 [0,0],
 o (.qu (i 12)) 3 [1,0,1]]
def Jd:ai:=[
 n 0 15,
 c 15 16 [0],
 a 12 16 17 [1],
 l 17 18 [2],
 C .gtr 18 0 19 [3],
 m 19 14 [4]]
def Un:ai:=[
 o (.build [V 0,V 0,.aW] []) 20 [],
 S 3 2 20 [0,0],
 o (.qu (i 15)) 3 [1,0,1]]
def Uo:ai:=[
 n 0 21,
 c 21 22 [0],
 a 7 22 23 [1],
 L 3 23 24 [2],
 S 3 2 24 [3,0,1,2,3],
 o (.qu (i 0)) 3 (k [4] 4)]
def d1019:DC:=(j (y CK) (j (.block 0 (j (y CL) (.cond (.tmp 4) (j (y Ul) .ret) (j (y I9) (.cond (.tmp 8) (j (y Um) .ret) (j (y Jd) (.cond (.tmp 14) (j (y Un) .ret) .skip))))))) (j (y Uo) .ret)))
def q9:List bV:=[.cell 2 3 true,.da 3]
def aau [bI]:aB aj 19 25 d1019 q9:=aB.of Tryz.f19 (by kernel_rfl)
def Up:ai:=[
 o (.alloc [V 0,V 0,V 0,.aW]) 0 [],
 o (.alloc [.aW,.aW,V 0]) 1 []]
def Uq:ai:=[
 o (.build [V 0,V 0,V 0,V 0,V 0,V 0] [(0,1,(i 2)),(4,1,(i 2))]) 2 [],
 o (.bslice 1 6 [V 0,V 0,V 0,V 0,V 0,V 0] [(0,6,(t 2))]) 3 [0],
 o (.build [V 0,V 0,V 0,.aW] [(0,1,(i 1)),(1,1,(i 1)),(3,1,(t 3))]) 4 [1],
 o (.bslice 1 1 [V 0] [(0,1,(i 0))]) 5 [],
 o (.build [V 0,.aW,V 0] [(1,1,(t 5)),(2,1,(i 3))]) 6 [3],
 o (.bslice 1 3 [V 0,.aW,V 0] [(0,3,(t 6))]) 7 [4],
 o (.bslice 1 1 [V 0] [(0,1,(i 4))]) 8 [],
 o (.build [.aW,.aW,V 0] [(0,1,(t 7)),(1,1,(t 8))]) 9 [5,6],
 S 4 0 4 [2,0,1,2],
 S 3 1 9 (k [7,8] 8)]
def d1021:DC:=(j (y Up) (j (y Uq) .ret))
def L5:List bV:=[.cell 0 4 true,.cell 1 3 true]
def c1021 [bI]:aB aj 21 10 d1021 L5:=aB.of Tryz.f21 (by kernel_rfl)
def Ur:ai:=[
 B 0 2,
 F 4]
def y8:ai:=[
 a 3 2 5 [],
 l 5 6 [0],
 N 6 7 [1],
 C .leq 7 60 8 [2],
 m 8 9 [3],
 u 1 2 10 9 true [4],
 v 10 11 9 true [5,4],
 E .leq 11 60 12 9 true [6,4],
 q 9 12 13 [4,7],
 m 13 14 [8,4],
 w 1 15 14 true [9],
 H 15 16 14 true [10,9],
 E .leq 16 30 17 14 true [11,9],
 q 14 17 18 [9,12],
 m 18 4 (k [13,9] 13)]
def d1024:DC:=(j (y Ur) (j (y y8) .ret))
def L6:List bV:=[.da 4]
def c1024 [bI]:aB aj 24 19 d1024 L6:=aB.of Tryz.f24 (by kernel_rfl)
def Us:ai:=[
 B 0 3,
 F 6]
def CM:ai:=[
 a 0 3 8 [],
 l 8 9 [0],
 N 9 10 [1],
 n 1 11,
 b .gtr 10 11 12 [2,3],
 m 12 13 [4],
 u 1 3 14 13 false [5],
 v 14 15 13 false [6,5],
 H 15 16 13 false [7,5],
 w 2 17 13 false [5],
 D .gtr 16 17 18 13 false [8,9,5],
 p 13 18 19 [5,10]]
def Ut:ai:=[
 F 6]
def Uu:ai:=[
 I 0 7]
def Uv:ai:=[
 n 7 20,
 a 0 3 21 [],
 l 21 22 [1],
 N 22 23 [2],
 b .lss 20 23 24 [0,3]]
def Uw:ai:=[
 a 0 3 27 [],
 l 27 28 [0],
 n 7 29,
 x 3 28 29 30 [1,2],
 a 1 30 31 [3],
 l 31 32 [4],
 N 32 33 [5],
 n 2 34,
 b .gtr 33 34 35 [6,7]]
def Ux:ai:=[
 F 6]
def Uy:ai:=[
 n 7 25,
 C .add 25 1 26 [0],
 m 26 7 [1,0,1]]
def Uz:ai:=[
 R 6]
def d1025:DC:=(j (y Us) (j (j (y CM) (.cond (.tmp 19) (j (y Ut) .ret) .skip)) (j (j (y Uu) (.block 0 (.loop (j (j (y Uv) (.cond (.tmp 24) .skip (.exit 0))) (j (.block 1 (j (y Uw) (.cond (.tmp 35) (j (y Ux) .ret) .skip))) (y Uy)))))) (j (y Uz) .ret))))
def y9:List bV:=[.da 6]
def c1025 [bI]:aB aj 25 36 d1025 y9:=aB.of Tryz.f25 (by kernel_rfl)
def UA:ai:=[
 B 0 1,
 o (.qu (.gN (.v (.mg (Go.Value.nilFunc))))) 2 []]
def UB:ai:=[
 o (.mkFn (.func 51) [(t 1)]) 3 [],
 m 3 2 [0,0]]
def d1030:DC:=(j (y UA) (j (y UB) .ret))
def aav:List bV:=[.da 2]
def c1030 [bI]:aB aj 30 4 d1030 aav:=aB.of Tryz.f30 (by kernel_rfl)
def UC:ai:=[
 n 1 7,
 n 0 8,
 c 8 9 [1],
 a 4 9 10 [2],
 a 0 10 11 [3],
 l 11 12 [4],
 b .mul 7 12 13 [0,5],
 n 1 14,
 n 1 15,
 C .sub 15 1 16 [8],
 b .mul 14 16 17 [7,9],
 C .quo 17 2 18 [10],
 b .sub 13 18 19 [6,11],
 n 2 20,
 b .add 19 20 21 [12,13],
 n 1 22,
 b .sub 21 22 23 [14,15],
 m 23 6 (k [16] 16)]
def d1031r1:ai:=[
 n 0 24,
 c 24 25 [0],
 a 7 25 26 [1],
 a 2 26 27 [2],
 l 27 28 [3],
 n 6 29,
 n 0 30,
 c 30 31 [6],
 a 0 31 32 [7],
 a 1 32 33 [8],
 l 33 34 [9],
 b .mul 29 34 35 [5,10],
 o (.slice 4 (t 28) (some (t 35)) none) 36 [4,11],
 n 0 37,
 c 37 38 [13],
 a 0 38 39 [14],
 L 4 39 40 [15],
 n 0 41,
 c 41 42 [17],
 a 4 42 43 [18],
 L 3 43 44 [19],
 n 0 45,
 c 45 46 [21],
 a 7 46 47 [22],
 L 3 47 48 [23],
 n 1 49,
 n 2 50,
 o (.call 52 [(t 40),(t 44),(t 48),(t 49),(t 50)]) 51 [16,20,24,25,26],
 o (.copy 4 (t 36) (t 51)) 52 [12,27,27]]
def d1031:DC:=(j (y UC) (Y d1031r1))
def L7:List bV:=[]
def c1031 [bI]:aB aj 31 53 d1031 L7:=aB.of Tryz.f31 (by kernel_rfl)
def UD:ai:=[
 l 1 5 [],
 c 5 6 [0],
 a 12 6 7 [1],
 l 7 8 [2],
 C .gtr 8 0 9 [3]]
def UE:ai:=[
 l 1 10 [],
 c 10 11 [0],
 a 11 11 12 [1],
 l 12 13 [2],
 l 1 14 [],
 c 14 15 [4],
 a 11 15 16 [5],
 l 16 17 [6],
 l 1 18 [],
 c 18 19 [8],
 a 10 19 20 [9],
 l 20 21 [10],
 b .add 17 21 22 [7,11],
 m 13 3 [3,0,1,2,3],
 m 22 4 (k [12,13] 13)]
def UF:ai:=[
 l 1 23 [],
 c 23 24 [0],
 a 12 24 25 [1],
 l 25 26 [2],
 C .sub 26 1 27 [3],
 c 23 28 (k [0] 4),
 a 12 28 29 (k [5] 4),
 S 1 29 27 (k [6,4] 4)]
def UG:ai:=[
 l 1 30 [],
 c 30 31 [0],
 a 11 31 32 [1],
 l 32 33 [2],
 C .add 33 1 34 [3],
 c 30 35 (k [0] 4),
 a 11 35 36 (k [5] 4),
 S 1 36 34 (k [6,4] 4)]
def UH:ai:=[
 l 1 37 [],
 c 37 38 [0],
 a 11 38 39 [1],
 l 39 40 [2],
 l 1 41 [],
 c 41 42 [4],
 a 10 42 43 [5],
 l 43 44 [6],
 b .add 40 44 45 [3,7],
 l 1 46 [],
 c 46 47 [9],
 a 4 47 48 [10],
 a 0 48 49 [11],
 l 49 50 [12],
 b .geq 45 50 51 [8,13]]
def Je:ai:=[
 l 1 52 [],
 l 1 53 [],
 l 1 54 [],
 c 54 55 [2],
 a 10 55 56 [3],
 l 56 57 [4],
 C .add 57 1 58 [5],
 c 52 59 [0,0,2,3,4,5,6],
 a 10 59 60 [7,0,2,3,4,5,6],
 S 1 60 58 [8,6,0,2,3,4,5,6],
 c 53 61 (k [1] 9),
 a 11 61 62 (k [10] 9),
 s (.store 1 (t 62) (i 0)) (k [11,9] 9)]
def UI:ai:=[
 n 0 63,
 n 3 64,
 n 4 65,
 o (.callv (t 63) [(t 64),(t 65)]) 66 [0,1,2],
 U 66 67 [3]]
def d1051:DC:=(.block 0 (.loop (j (j (y UD) (.cond (.tmp 9) .skip (.exit 0))) (.block 1 (j (Y UE) (j (y UF) (j (y UG) (j (j (Y UH) (.cond (.tmp 51) (.jr Je) .skip)) (j (y UI) (.cond (.tmp 67) .ret .skip))))))))))
def aaw:List bV:=[]
def c1051 [bI]:aB aj 51 68 d1051 aaw:=aB.of Tryz.f51 (by kernel_rfl)
end cC
section
variable{α:Type}
abbrev ti(n:Int):T:=.int .i64 n
def dH:T->Int
 |.int _ n=>n
 |_=>0
structure cw where
 (f t term aH:Int)
 ops:List (Int×Int)
 deriving DecidableEq,Inhabited
structure aV where
 bn:Int
 bE:List cw
 uH:bO
structure cK where
 kind:Int
 read:bO
 delete:Int
 deriving Inhabited
structure Input where
 aw:List cK
 insert:bO
 swap:Int
def ia(l:List (Int×Int)):List (aK):=l.map λo=>[ti o.1,ti o.2]
def cw.enc(a:cw):aK:=[ti a.f,ti a.t,ti a.term,ti a.aH,.sl (ia a.ops)]
def j7(l:List cw):List (aK):=l.map cw.enc
def aG(l:bO):List (aK):=l.map λx=>[ti x]
def aV.enc(l:aV):T:=.agg [ti l.bn,.sl (j7 l.bE),.sl (aG l.uH)]
def cK.enc(c:cK):aK:=[ti c.kind,.sl (aG c.read),ti c.delete]
def cY(l:List cK):List (aK):=l.map cK.enc
def Input.enc(x:Input):T:=.agg [.sl (cY x.aw),.sl (aG x.insert),ti x.swap]
def gq{β:Type}{f:α->β}{g:β->α}(h:∀a,g (f a)=a)(l:List α):(l.map f).map g=l:=by
 rw[Zc4];conv=>rhs;rw[<-List.map_id l]
 exact Zbq λa _=>h a
def lS(l:List (aK)):bO:=l.map λx=>dH (x.getD 0 (ti 0))
def AG(l:List (aK)):List (Int×Int):=l.map λx=>(dH (x.getD 0 (ti 0)),dH (x.getD 1 (ti 0)))
def wZ:aK->cw
 |[a,b,c,d,.sl o]=>⟨dH a,dH b,dH c,dH d,AG o⟩
 |_=>default
def Jh(l:List (aK)):List cw:=l.map wZ
def sP:aK->cK
 |[a,.sl b,c]=>⟨dH a,lS b,dH c⟩
 |_=>default
def CO(l:List (aK)):List cK:=l.map sP
def decL:T->aV
 |.agg [a,.sl b,.sl c]=>⟨dH a,Jh b,lS c⟩
 |_=>⟨0,[],[]⟩
@[simp] def Ms(l:bO):lS (aG l)=l:=gq (λ_=>rfl) l
@[simp] def Pr(l:List (Int×Int)):AG (ia l)=l:=gq (λ_=>rfl) l
@[simp] def w6(a:cw):wZ a.enc=a:=by simp[wZ,cw.enc,dH]
@[simp] def decArcs_enc(l:List cw):Jh (j7 l)=l:=gq w6 l
@[simp] def pn(a:cK):sP a.enc=a:=by simp[sP,cK.enc,dH]
@[simp] def decCols_enc(l:List cK):CO (cY l)=l:=gq pn l
@[simp] def decL_enc'(a:Int)(l:List cw)(f:bO):decL (.agg [ti a,.sl (j7 l),.sl (aG f)])=⟨a,l,f⟩:=by simp[decL,dH]
@[simp] def decL_enc(n:aV):decL n.enc=n:=by simp[aV.enc]
def cE{l:bO}{y:Nat}(h:y<l.length):DM.rowAt (aG l) y=[ti (l.getD y default)]:=by simp[DM.rowAt,aG,h]
def w7{l:List cw}{y:Nat}(h:y<l.length):DM.rowAt (j7 l) y=(l.getD y default).enc:=by simp[DM.rowAt,j7,h]
def jJ{l:List cK}{y:Nat}(h:y<l.length):DM.rowAt (cY l) y=(l.getD y default).enc:=by simp[DM.rowAt,cY,h]
@[simp] def intsT_len(l:bO):(aG l).length=l.length:=by simp[aG]
@[simp] def opsT_len(l:List (Int×Int)):(ia l).length=l.length:=by simp[ia]
@[simp] def arcsT_len(l:List cw):(j7 l).length=l.length:=by simp[j7]
@[simp] def colsT_len(l:List cK):(cY l).length=l.length:=by simp[cY]
abbrev mn:List Sh:=[.int .i64,.int .i64,.int .i64]
def keyOf(f t x:Int):T:=.agg [ti f,ti t,ti x]
def cw.key(a:cw):T:=keyOf a.f a.t a.term
def lc(al:List cw):List (Nat×T×DV):=al.zipIdx.map λp=>(p.2,p.1.key,.v (.agg p.1.enc))
def cL(al:List cw):Ob:=.map mn true al.length (lc al)
def df(x:Input)(m:Nat):bB:=[.v (.sl (cY x.aw)),.v (.sl (aG x.insert)),.v (ti x.swap),.iE m]
def aY(a b:cw):Bool:=decide (a.f=b.f/\a.t=b.t/\a.term=b.term)
def wv(al:List cw)(a:cw):List cw:=
 if a.aH<1099511627776 then
  match al.findIdx? (aY a)with
  |none=>al++[a]
  |some i=>if a.aH<(al.getD i default).aH then al.set i a else al
 else al
def Js:DV->Int
 |.v (.agg [_,_,_,.int _ c,_])=>c
 |_=>0
def w8(k:T)(c:Int)(es:List (Nat×T×DV)):Bool:=
 decide (c<1099511627776)&&match qP k es with|none=>true|some e=>decide (c<Js e.2.2)
def rC(k:T)(c:Int)(y:DV)(w9:Nat)(es:List (Nat×T×DV)):List (Nat×T×DV):=if w8 k c es then HJ k y w9 es else es
def xb(k:T)(c:Int)(w9:Nat)(es:List (Nat×T×DV)):Nat:=if w8 k c es then oR k w9 es else w9
def key_eq(a b:cw):gO a.key b.key=aY a b:=by
 simp[cw.key,keyOf,gO,tl,aY]
def TV(a:cw)(al:List cw):((lc al).findIdx? λe=>gO a.key e.2.1)=al.findIdx? (aY a):=by
 have h:∀(l:List cw) (i:Nat),(((l.zipIdx i).map λp=>((p.2,p.1.key,DV.v (.agg p.1.enc)):Nat×T×DV)).findIdx? λe=>gO a.key e.2.1)=l.findIdx? (aY a):=by
  intro l;induction l with
  |nil=>intro i;rfl
  |cons b l ih=>intro i;simp only[ZcI,ZaA,Zbh,key_eq,ih (i+1)]
 exact h al 0
def gU(al:List cw)(i:Nat):(lc al)[i]? =(al[i]?).map λa=>(i,a.key,.v (.agg a.enc)):=by
 simp[lc,Zbx,List.getElem?_zipIdx,Function.comp_def]
def ld(al:List cw):(lc al).length=al.length:=by simp[lc]
def Wd(al:List cw):∀e∈lc al,∃a:cw,e.2.2=.v (.agg a.enc):=by
 intro e he;simp only[lc,Zak]at he;obtain⟨p,_,rfl⟩:=he;exact⟨p.1,rfl⟩
def vF{p:α->Bool}{l:List α}{i:Nat}(h:l.findIdx? p=some i):i<l.length:=by
 rw[Zbm]at h;exact h.1
def Fu(a:cw)(al:List cw):w8 a.key a.aH (lc al)=(decide (a.aH<1099511627776)&&match al.findIdx? (aY a)with|none=>true|some i=>decide (a.aH<(al.getD i default).aH)):=by
 unfold w8;rw[yD,TV];cases h:al.findIdx? (aY a)with
 |none=>rfl
 |some i=>
  have hi:=vF h;simp[gU,hi,Js,cw.enc];rfl
def Jt(a:cw)(al:List cw):rC a.key a.aH (.v (.agg a.enc)) al.length (lc al)=lc (wv al a)/\xb a.key a.aH al.length (lc al)=(wv al a).length:=by
 unfold rC xb wv;rw[Fu];by_cases hc:a.aH<1099511627776
 ·simp only[hc,decide_true,ZcF,if_true];cases h:al.findIdx? (aY a)with
  |none=>
   simp only[if_true,HJ,oR,TV,h];refine⟨?_,by simp⟩;apply ZbN;intro j;rw[gU,ZcM,ZcM,ld,gU];split
   ·rfl
   ·rename_i hj;by_cases hj2:j=al.length
    ·subst hj2;simp
    ·rw[Zbs (by simp;omega),Zbs (by simp;omega)];rfl
  |some i=>
   have hi:=vF h;have OE:a.key=(al.getD i default).key:=by
    rw[Zbm]at h;obtain⟨_,h1,_⟩:=h;simp only[aY,Zau]at h1;simp[cw.key,keyOf,List.getD,hi,h1]
   simp only;by_cases h2:a.aH<(al.getD i default).aH
   ·simp only[h2,decide_true,if_true,HJ,oR,TV,h];refine⟨?_,by simp⟩;apply ZbN;intro j;rw[gU,List.getElem?_modify,gU,ZbC];by_cases hj:i=j
    ·subst hj;simp[hi,OE,List.getD]
    ·simp[hj]
   ·simp only[h2,decide_false,ZaW,if_false];exact⟨trivial,trivial⟩
 ·simp[hc]
end
section
variable{f:bq}{low:Nat}
def cF:ay aj (bu []):=ay.nil
def bL{l:cV}{r:Nat}(hf:dh f low)(h:low<=r)(hl:∀p∈l,p.1≠r):gone (aM l f) id r:=by
 intro r' gD e;simp only[id]at e;subst e;cases ho:aM l f r' with
 |none=>exact gD ho
 |some o=>
  rcases qX ho with h1|⟨_,h1⟩
  ·exact hl _ h1 rfl
  ·have:=(hf r' o h1).1;omega
def gV:List cK->Int->Int
 |[],c=>c
 |x::l,c=>gV l (min (c+x.delete) 1099511627776)
def gz(n:Nat):List (Int×Int):=List.replicate n (2,0)
def Ju(l:List cK)(x:cK)(c:Int):gV (l++[x]) c=min (gV l c+x.delete) 1099511627776:=by
 induction l generalizing c with
 |nil=>rfl
 |cons y l ih=>simp[gV,ih]
def wn{l:List cK}(h:∀c∈l,0<=c.delete):∀c,0<=c/\c<=1099511627776->0<=gV l c/\gV l c<=1099511627776:=by
 induction l with
 |nil=>intro c hc;exact hc
 |cons y l ih=>
  intro c hc;have:=h y (by simp);exact ih (λz hz=>h z (by simp[hz])) _ (by omega)
def Ps(l:List cK)(n:Nat):(cY l).take n=cY (l.take n):=by simp[cY,List.map_take]
def Pt(l:List cK)(n:Nat):(cY l).drop n=cY (l.drop n):=by simp[cY,List.map_drop]
def tj(cols:List cK):Prop:=cols.length<=1000000/\∀c∈cols,0<=c.delete/\c.delete<=1099511627776
def t31{b m:Nat}{x:Input}{i j:Nat}{N:Nat}(hN:∀r,N<=r->f r=none)(hb:f b=some (.box (df x m)))(hij:i<=j)(hj:j<=x.aw.length)(hd:tj x.aw):
  aR aj 48 [.ptr b 0,.v (ti i),.v (ti j)] f ⟨True,.v (.eo [ti (gV ((x.aw.take j).drop i) 0),.sl (ia (gz (j-i)))]),f⟩:=by
 have aC:=cF;refine c31.pQ hN (by simp) λaT=>?_;have UN:b<N:=(aT b _ hb).1;obtain⟨part,Mt⟩:=bb ((x.aw.take j).drop i);have Vj:part.length=j-i:=by rw[<-Mt];simp;omega
 have hpd:∀c∈part,0<=c.delete/\c.delete<=1099511627776:=λc hc=>hd.2 c (by rw[<-Mt]at hc;exact ZaE (ZbW hc));have Vo:((cY x.aw).take j).drop i=cY part:=by rw[Ps,Pt,Mt]
 have eF:∀r∈cY x.aw,r.length=3:=by intro r hr;simp only[cY,Zak]at hr;obtain⟨c,_,rfl⟩:=hr;rfl
 have dM:=hd.1;rw[Mt];clear Mt;simp;apply aa.ch aC fw [0,1,2,7];simp[d31r0];apply aa.ch aC fw [0,1,2,8];simp[d31r1];apply aa.ch aC fw [0,1,2,8,9];simp[d31r2];apply aa.seq;apply aa.ch aC fw [8,9,19,20,21];simp[d31r3,hb,df,hij,hj,Vo];refine⟨eF, ?_⟩;refine aa.le (Le.dV (l1:=[]) (l:=[(8,.v (ti 0)),(9,.aW),(19,.v (.sl (cY part))),(20,.v (ti part.length)),(21,.v (ti 0))]) (ba:=N+200) aT ?_ ?_ ?_ ?_ ?_) ?_
 ·omega
 ·simp
 ·simp[bK]
 ·simp[dN]
 ·simp
 refine aa.le (Le.vr (k:=9) 117 (sz:=2) (by omega) (by simp)) ?_;rw[jT];apply aa.block;refine aa.loop (λy:Nat=>⟨DM.look [(8,.v (ti (gV (part.take y) 0))),(9,.bA (N+200) 0),(19,.v (.sl (cY part))),(20,.v (ti part.length)),(21,.v (ti y))],aM [(N+200,.dT 0 117 2 (ia (gz y)))] f,N+300,N,[]⟩)
  (λy=>y<=part.length) (λy=>part.length-y) 0 (Le.dV aT ?_ ?_ ?_ ?_ ?_) (by simp) (λy hy=>?_)
 ·omega
 ·simp
 ·simp[bK]
 ·simp[dN,eA,gz,ia]
 ·simp[gV]
 apply aa.ch aC fw [8,9,19,20,21,22];simp[d31r4];apply aa.seq;have tV:=wn (l:=part.take y) (λc hc=>(hpd c (ZaE hc)).1) 0 (by omega);refine aa.cond rfl (λhc=>?_) (λhc=>?_)
 ·simp at hc;apply aa.skip;simp;apply aa.seq;apply aa.block;apply aa.ch aC fw [8,9,11,19,20,21];have wp:=jJ hc;obtain⟨c,Cl⟩:=bb (part[y]);have XD:c∈part:=by rw[<-Cl];exact Zbe hc
  have QT:=hpd c XD;have XF:part.take (y+1)=part.take y++[c]:=by rw[ZbO,Zas hc,Cl];rfl
  simp[d31r5,wp,Cl,hc,cK.enc];apply aa.ch aC fw [8,9,11,19,20,21];simp[d31r6];rw[aF (by omega)];apply aa.fK aC fw [8,9,19,20,21];simp[d31r7,dK,fU];refine⟨by
    have:(gz y).length=y:=by simp[gz]
    omega, ?_⟩
  apply aa.fK aC fw [8,9,19,20,21];simp[d31r8];refine⟨y+1,Le.dV aT ?_ ?_ ?_ ?_ ?_,by omega,by omega⟩
  ·omega
  ·simp
  ·simp[bK];omega
  ·simp[dN,eA,gz,ia,ZcN]
  ·simp[XF,Ju];rw[aF (by omega)]
 ·simp at hc;have zW:y=part.length:=by omega
  subst zW;apply aa.exit;simp;apply aa.ch aC fw [6,7];simp[d31r9];refine aa.le (Le.dV (l1:=[]) (l:=[(6,.v (ti (gV part 0))),(7,.v (.sl (ia (gz part.length))))]) (ba:=N+1000) aT ?_ ?_ ?_ ?_ ?_) ?_
  ·omega
  ·simp
  ·simp[bK]
  ·simp[dN]
  ·simp;exact bL aT (by omega) (by simp)
  apply aa.ret;simp[d31res,Vj];rfl
def dc(x:Input)(m:Nat):Bool:=
 decide (m+1<x.aw.length/\0<x.swap/\0<=(x.aw.getD m default).kind/\0<=(x.aw.getD (m+1) default).kind)
def t50{b m:Nat}{x:Input}{i:Nat}{N:Nat}(hN:∀r,N<=r->f r=none)(hb:f b=some (.box (df x m)))(hi:i<=1000000)(hl:x.aw.length<=1000000):
  aR aj 77 [.ptr b 0,.v (ti i)] f ⟨True,.v (.bool (dc x i)),f⟩:=by
 have aC:=cF;refine c50.pQ hN (by simp) λaT=>?_;simp;apply aa.ch aC fw [0,1,4];simp[d50r0];apply aa.ch aC fw [0,1,5];simp[d50r1,hb,df];have hw:IntKind.i64.wrap ((i:Int)+1)=i+1:=aF (by omega);refine aa.cz aC fw [(4,.v (.bool (dc x i)))] ?_ ?_
 ·by_cases h1:i+1<x.aw.length
  ·have sg:=jJ (l:=x.aw) (y:=i) (by omega);have xV:DM.rowAt (cY x.aw) ((i:Int)+1)=(x.aw.getD (i+1) default).enc:=jJ (l:=x.aw) h1;obtain⟨c1,bU⟩:=bb (x.aw.getD i default);obtain⟨c2,gI⟩:=bb (x.aw.getD (i+1) default);rw[bU]at sg;rw[gI]at xV;have hd1:((i:Int)+1<x.aw.length)=True:=by simp;omega
   have hd2:((i:Int)<x.aw.length)=True:=by simp;omega
   have hd3:(0<=(i:Int)+1)=True:=by simp;omega
   have hd4:i<x.aw.length:=by omega
   have Nx:dc x i=(decide (0<x.swap)&&(decide (0<=c1.kind)&&decide (0<=c2.kind))):=by
    unfold dc;rw[bU,gI];simp[h1]
   by_cases s1:0<x.swap<;>by_cases s2:0<=c1.kind<;>by_cases s3:0<=c2.kind<;>simp[d50r2,hb,df,hw,sg,xV,hd1,hd2,hd3,cK.enc,s1,s2,s3,Nx]
  ·have hd1:((i:Int)+1<x.aw.length)=False:=by simp;omega
   simp[d50r2,hw,hd1];simp[dc]
   intros;omega
 apply aa.ret;simp[d50res];rfl
def Le.We{tm:dw}{ob:bq}{aJ:Nat}{td:List (aK)}{P:Program}{nt:Nat}{d:DC}{Q:Exit->l8->Prop}{k:Nat}(hk:tm k=.v (.sl []))
  (h:∀(p:Option Addr) (c:Nat),aa P nt d Q ⟨cU tm (some k) (.v (.mg (.slice p 0 c))),ob,aJ,low,td⟩):aa P nt d Q ⟨tm,ob,aJ,low,td⟩:=by
 refine⟨λc hc n κ a w L g r=>?_⟩;obtain⟨W,base,M,w0,dP,h0⟩:=r.r.ex;have hx:=h0.tmps k;simp only[hk,aA,bj]at hx;have mh:∃(p:Option Addr) (cp:Nat),a.tmps.getD k Go.undef=.slice p 0 cp:=by
  rcases hx with⟨_,p,cp,hx⟩|⟨b,o,cp,sz,hx,_⟩
  ·exact⟨p,cp,hx⟩
  ·exact⟨_,cp,hx⟩
 obtain⟨p,cp,hx⟩:=mh;refine(h p cp).run c hc n κ a w L g ⟨⟨⟨W,base,M,w0,dP,h0.size,λt=>?_,h0.o⟩,r.r.eZ,r.r.defers,r.r.bg,r.r.bZ⟩,r.fresh,r.low,r.it⟩;simp only[cU];by_cases ht:t=k
 ·subst ht;simp only[if_true,aA,bj];exact hx
 ·simp only[ht,if_false];exact h0.tmps t
def t49(l:List (Int×Int))(hl:l.length<=1000000):oW aj 76 [.sl (ia l)] 117 2 (ia l):=by
 have aC:=cF;refine c49.okF (by simp) (aO ?_);simp;have eF:∀r∈ia l,r.length=2:=by intro r hr;simp only[ia,Zak]at hr;obtain⟨c,_,rfl⟩:=hr;rfl
 apply aa.ch aC fw [0,2];simp[d49r0];cases l with
 |nil=>
  refine Le.We (k:=0) (by simp[ia]) λp c=>?_;apply aa.seq;apply aa.ch aC fw [0,2,4];simp[d49r1];refine aa.cond rfl (λh=>?_) (λh=>?_)
  ·apply aa.ch aC fw [2];simp[d49r2];apply aa.ret;exact .inl ⟨by simp,by simp[ia],by omega⟩
  ·apply aa.skip;simp;apply aa.ch aC fw [2];simp[d49r3,dK];apply aa.ret;exact .inr ⟨1026,0,by simp,by simp[ia]⟩
 |cons o l=>
  apply aa.seq;apply aa.ch aC fw [0,2,4];simp[d49r1];refine⟨by simp[ia], ?_⟩;refine aa.cond rfl (λh=>by cases h) (λh=>?_);apply aa.skip;simp;apply aa.ch aC fw [2];simp[d49r3,dK];refine⟨⟨eF,by simp at hl⊢;omega⟩, ?_⟩;apply aa.ret;exact .inr ⟨1026,0,by simp,by simp⟩
end
section
variable [bI]
def okE:ay aj (bu []):=ay.nil
def tG(a b:Int):Int:=if a<b then-1 else if b<a then 1 else 0
def UP(l:bO):Int:=(l.find? λx=>x !=0).getD 0
def fa(x y:aK):Int:=UP [tG (dH (x.getD 0 (ti 0))) (dH (y.getD 0 (ti 0))),tG (dH (x.getD 1 (ti 0))) (dH (y.getD 1 (ti 0))),tG (dH (x.getD 2 (ti 0))) (dH (y.getD 2 (ti 0)))]
def t71(a:Int):bl aj 118 [ti a] (.bool false):=by
 have aC:=okE;refine c71.ok (by simp) (aO ?_);simp;apply aa.ch aC fw [0];simp[d71r0];apply aa.ch aC fw [2];simp[d71r1];apply aa.ret;simp[d71res]
abbrev spec71:DM.Spec:=cT (λts=>∃a,ts=[ti a]) (λ_=>.bool false) true
def ok71:ay aj (bu [(118,spec71)]):=by
 refine ay.cons ay.nil ?_;rintro ts ⟨a,rfl⟩;exact⟨t71 a,λ_=>rfl⟩
def t54(a b:Int):bl aj 81 [ti a,ti b] (ti (tG a b)):=by
 have aC:=ok71;refine c54.ok (by simp) (aO ?_);simp;apply aa.ch aC fw [0,1];simp[Lf];apply aa.ch aC fw [0,1,5];simp[Lg];apply aa.ch aC fw [0,1,5,6];simp[d54r2];apply aa.seq;apply aa.ch aC fw [0,1,6,11];simp[d54r3];refine aa.cond rfl (λh=>by cases h) (λh=>?_);apply aa.skip;simp;apply aa.seq;apply aa.ch aC fw [0,1,13];simp[d54r7];refine aa.cond rfl (λh=>by cases h) (λh=>?_);apply aa.skip;simp;apply aa.seq;apply aa.ch aC fw [0,1,16];simp[d54r9];refine aa.cond rfl (λh=>?_) (λh=>?_)
 ·simp at h;apply aa.ch aC fw [4];simp[d54r10];apply aa.ret;simp[AB,tG,h]
 ·simp at h;apply aa.skip;simp;apply aa.seq;apply aa.ch aC fw [0,1,19];simp[d54r11];refine aa.cond rfl (λh2=>?_) (λh2=>?_)
  ·simp at h2;apply aa.ch aC fw [4];simp[d54r12];apply aa.ret;simp[AB,tG,h2,show ¬a<b by omega]
  ·simp at h2;apply aa.skip;simp;apply aa.ch aC fw [4];simp[d54r13];apply aa.ret;simp[AB,tG,show ¬a<b by omega,show ¬b<a by omega]
def orI_skip{l:bO}{y:Nat}(hy:y<l.length)(h:l.getD y default=0):UP (l.drop y)=UP (l.drop (y+1)):=by
 rw[ZbF hy];have:l[y]=0:=by simpa [List.getD,hy]using h
 simp[UP,this]
def orI_hit{l:bO}{y:Nat}(hy:y<l.length)(h:l.getD y default≠0):UP (l.drop y)=l.getD y default:=by
 rw[ZbF hy];have e:l.getD y default=l[y]:=by simp[List.getD,hy]
 rw[e]at h⊢;simp only[UP,Za6,Zbd,(bne_iff_ne (a:=l[y]) (b:=(0:Int))).2 h]
def t53(l:bO)(hl:l.length<=1000000):bl aj 80 [.sl (aG l)] (ti (UP l)):=by
 have aC:=okE;refine c53.ok (by simp) (aO ?_);simp;apply aa.ch aC fw [0];simp[d53r0];apply aa.ch aC fw [0,3];simp[d53r1];apply aa.seq;apply aa.ch aC fw [3,6,7,8];simp[d53r2];apply aa.block;refine aa.loop (λy:Nat=>⟨DM.look [(3,.v (ti 0)),(6,.v (.sl (aG l))),(7,.v (ti l.length)),(8,.v (ti y))],cM [],2000,1000,[]⟩)
  (λy=>y<=l.length/\UP (l.drop y)=UP l) (λy=>l.length-y) 0 (Le.bi (o:=[]) ?_ ?_ ?_ ?_) (by simp) (λy hy=>?_)
 iterate 4(·simp)
 obtain⟨lq,fJ⟩:=hy;apply aa.ch aC fw [3,6,7,8,9];simp[d53r3];apply aa.seq;refine aa.cond rfl (λh=>?_) (λh=>?_)
 ·simp at h;apply aa.skip;simp;apply aa.seq;apply aa.block;have hr:=cE h;obtain⟨p,hp⟩:=bb (l.getD y default);rw[hp]at hr;apply aa.ch aC fw [3,5,6,7,8];simp[d53r4,hr,h];apply aa.ch aC fw [3,5,6,7,8,14];simp[d53r5];refine aa.cond rfl (λh2=>?_) (λh2=>?_)
  ·simp at h2;apply aa.ch aC fw [2];simp[d53r6];apply aa.ret;rw[orI_hit h (by rw[hp];exact h2),hp]at fJ;simp[Pq,fJ]
  ·simp at h2;apply aa.skip;simp;apply aa.fK aC fw [3,6,7,8];simp[d53r7];rw[aF (by omega)];refine⟨y+1,Le.bi (o:=[]) ?_ ?_ ?_ ?_,⟨by omega, ?_⟩,by omega⟩;iterate 4(·simp)
   ·rw[<-fJ,orI_skip h (by rw[hp];exact h2)]
 ·simp at h;apply aa.exit;simp;apply aa.ch aC fw [2];simp[d53r8];apply aa.ret;have:l.drop y=[]:=Zbv (by omega);rw[this]at fJ;simp only[Pq];rw[<-fJ];simp[UP]
abbrev spec54:DM.Spec:=cT (λts=>∃a b,ts=[ti a,ti b]) (fun|[.int _ a,.int _ b]=>ti (tG a b)|_=>.bool false) true
abbrev spec53:DM.Spec:=cT (λts=>∃l:bO,ts=[.sl (aG l)]/\l.length<=1000000) (fun|[.sl l]=>ti (UP (lS l))|_=>.bool false) true
def ok54:ay aj (bu [(81,spec54),(80,spec53)]):=by
 refine ay.cons (ay.cons ay.nil ?_) ?_
 ·rintro ts ⟨l,rfl,h⟩;have:=t53 l h;rw[<-Ms l]at this;exact⟨by simpa using t53 l h,λ_=>rfl⟩
 ·rintro ts ⟨a,b,rfl⟩;exact⟨t54 a b,λ_=>rfl⟩
def t33(a b c d e f:Int):bl aj 50 [.agg [ti a,ti b,ti c],.agg [ti d,ti e,ti f]] (ti (UP [tG a d,tG b e,tG c f])):=by
 have aC:=ok54;refine c33.ok (by simp) (aO ?_);simp;apply aa.ch aC fw [2,3];simp[d33r0];apply aa.ch aC fw [4];simp[d33r1];refine⟨⟨[tG a d,tG b e,tG c f],rfl,by simp⟩, ?_⟩;apply aa.ret;simp[d33res];rfl
end
def GV(s aL:Int)(a:cw):Prop:=¬(a.f<0\/a.f>a.t\/a.t>=s\/a.term<0\/a.term>=aL\/a.aH<0\/a.aH>=1099511627776\/(a.f=a.t/\a.aH=0))
instance(s aL:Int)(a:cw):Decidable (GV s aL a):=by unfold GV;infer_instance
def im(a b:cw):Prop:=a.f<b.f\/(a.f=b.f/\(a.t<b.t\/(a.t=b.t/\a.term<b.term)))
instance(a b:cw):Decidable (im a b):=by unfold im;infer_instance
def QX(f:bO)(i:Nat):Prop:=0<=f.getD i default/\f.getD i default<=1099511627776
def PC(l:aV)(aL:Int)(i:Nat):Prop:=GV l.bn aL (l.bE.getD i default)/\(i=0\/im (l.bE.getD (i-1) default) (l.bE.getD i default))
def Ec(l:aV)(aL:Int):Prop:=(1<=l.bn/\(l.uH.length:Int)=l.bn)/\(∀i,i<l.uH.length->QX l.uH i)/\∀i,i<l.bE.length->PC l aL i
instance(f:bO)(i:Nat):Decidable (QX f i):=by unfold QX;infer_instance
instance(l:aV)(aL:Int)(i:Nat):Decidable (PC l aL i):=by unfold PC;infer_instance
instance(l:aV)(aL:Int):Decidable (Ec l aL):=by unfold Ec;infer_instance
def AP{n:Int}(h:0<=n/\n<18446744073709551616):IntKind.u64.wrap n=n:=by
 unfold IntKind.wrap;simp[IntKind.bits,IntKind.signed];omega
def Pz{n:Nat}(h:n<4294967296):n % 2^IntKind.u64.bits&&&4294967295 % 2^IntKind.u64.bits=n:=by
 have e:IntKind.u64.bits=64:=rfl;rw[e,ZcH (show n<2^64 by omega),show 4294967295 % 2^64=2^32-1 by decide,Nat.and_two_pow_sub_one_eq_mod,ZcH (by omega)]
def t60(x y:Nat)(hx:x<4294967296)(hy:y<4294967296):bl aj 107 [.int .u64 x,.int .u64 y] (.eo [.int .u64 0,.int .u64 ((x*y:Nat):Int)]):=by
 have aC:=okE;refine c60.ok (by simp) (aO ?_);simp;apply aa.ch aC fw [0,1];simp[Lh];obtain⟨p,hp⟩:=bb (x*y);have hpb:p<18446744073709551616:=by
  rw[<-hp]
  calc x*y<=4294967295*4294967295:=ZcU (by omega) (by omega)
   _<_:=by decide
 have hpi:(x:Int)*y=p:=by rw[<-hp];simp
 have e1:=AP (n:=x) (by omega);have e2:=AP (n:=y) (by omega);have e3:=AP (n:=p) (by omega);have b:IntKind.u64.bits=64:=rfl;have e0:IntKind.u64.wrap 0=0:=rfl;have d1:(x:Int)/4294967296=0:=by omega
 have d2:(y:Int)/4294967296=0:=by omega
 have d3:(p:Int)/4294967296<4294967296:=by omega
 obtain⟨q,hq⟩:∃q:Nat,(p:Int)/4294967296=q:=⟨p/4294967296,by omega⟩;have hqb:q<4294967296:=by omega
 have e4:=AP (n:=q) (by omega);have d4:(q:Int)/4294967296=0:=by omega
 rw[hpi];apply aa.ch aC fw [0,1,6];simp[BM,Pz hx,e1];apply aa.ch aC fw [0,1,6,7];simp[Li,b,d1];apply aa.ch aC fw [0,1,6,7,8];simp[Lj,Pz hy,e2];apply aa.ch aC fw [0,1,6,7,8,9];simp[Re,b,d2];apply aa.ch aC fw [0,1,6,7,8,9,10];simp[Rf,hpi,e3];apply aa.ch aC fw [0,1,6,7,8,9,10,11];simp[d60r6,e0,b,hq,e4];apply aa.ch aC fw [0,1,6,7,8,9,10,11,12];simp[d60r7,Pz hqb,e4];apply aa.ch aC fw [0,1,6,7,8,9,10,11,12,13];simp[d60r8,b,d4];apply aa.ch aC fw [0,1,6,7,8,9,10,11,12,13];simp[d60r9,e0,e4];apply aa.ch aC fw [0,1,4];simp[d60r10,e0,b,d4];apply aa.ch aC fw [4,5];simp[d60r11,hpi,e3];apply aa.ret;simp[wU]
abbrev spec60:DM.Spec:=cT (λts=>∃x y:Nat,ts=[.int .u64 x,.int .u64 y]/\x<4294967296/\y<4294967296) (fun|[.int _ x,.int _ y]=>.eo [.int .u64 0,.int .u64 (x*y)]|_=>.bool false) false
def ok60:ay aj (bu [(107,spec60)]):=by
 refine ay.cons ay.nil ?_;rintro ts ⟨x,y,rfl,h1,h2⟩;exact⟨by simpa using t60 x y h1 h2,λh=>by cases h⟩
def t46(x y:Nat)(hx:x<4294967296)(hy:y<4294967296):bl aj 73 [.int .u64 x,.int .u64 y] (.eo [.int .u64 0,.int .u64 ((x*y:Nat):Int)]):=by
 have aC:=ok60;refine c46.ok (by simp) (aO ?_);simp;apply aa.ch aC fw [0,1];simp[d46r0];apply aa.seq;refine aa.cond rfl (λh=>by cases h) (λh=>?_);apply aa.skip;simp;apply aa.ch aC fw [8,9];simp[d46r3];refine⟨⟨x,y,⟨rfl,rfl⟩,hx,hy⟩, ?_⟩;apply aa.ch aC fw [4,5];simp[d46r4];apply aa.ret;simp[d46res]
abbrev spec46:DM.Spec:=cT (λts=>∃x y:Nat,ts=[.int .u64 x,.int .u64 y]/\x<4294967296/\y<4294967296) (fun|[.int _ x,.int _ y]=>.eo [.int .u64 0,.int .u64 (x*y)]|_=>.bool false) false
def ok46:ay aj (bu [(73,spec46)]):=by
 refine ay.cons ay.nil ?_;rintro ts ⟨x,y,rfl,h1,h2⟩;exact⟨by simpa using t46 x y h1 h2,λh=>by cases h⟩
def t29(v:Int)(n:Nat)(h1:1<=n)(hn:n<=10000000):oW aj 46 [.sl (aG [v]),ti n] 3 1 (aG (List.replicate n v)):=by
 have aC:=ok46;refine c29.okF (by simp) (aO ?_);simp;apply aa.ch aC fw [0,1];simp[d29r0];apply aa.seq;apply aa.ch aC fw [0,1,10];simp[d29r1];refine aa.cond rfl (λh=>by simp at h;omega) (λh=>?_);apply aa.skip;simp;have e1:=AP (n:=1) (by omega);have e2:=AP (n:=n) (by omega);apply aa.ch aC fw [0,1,5,6];simp[d29r3,e1,e2];refine⟨⟨1,n,⟨rfl,rfl⟩,by omega,by omega⟩, ?_⟩;apply aa.seq;apply aa.ch aC fw [0,6,26];simp[d29r4];refine aa.cond rfl (λh=>by simp at h;omega) (λh=>?_);apply aa.skip;simp;apply aa.ch aC fw [0,7];have w1:IntKind.i64.wrap (n:Int)=n:=aF (by omega);simp[d29r6,w1];refine⟨by simp[dK];omega, ?_⟩;apply aa.ch aC fw [7,8];have hrp:∀(k:Nat),aG [v]=[[ti v]]:=λ_=>rfl;obtain⟨n',rfl⟩:∃n',n=n'+1:=⟨n-1,by omega⟩;simp[d29r7,aG,ZaY];apply aa.seq;apply aa.block;refine aa.loop (λy:Nat=>⟨DM.look [(7,.bA 1227 0),(8,.v (ti (y+1:Nat)))],cM [(1227,.dT 0 3 1 (List.replicate (y+1) [ti v]++List.replicate (n'-y) [ti 0]))],3000,1000,[]⟩)
  (λy=>y<=n') (λy=>n'-y) 0 (Le.bi ?_ ?_ ?_ ?_) (by simp) (λy hy=>?_)
 iterate 4(·simp)
 apply aa.seq;apply aa.ch aC fw [7,8,37];simp[d29r8];refine aa.cond rfl (λh=>?_) (λh=>?_)
 ·simp at h;apply aa.skip;simp;apply aa.block;apply aa.fK aC fw [7,8];have q1:((y:Int)+1<=(y:Int)+1+((n'-y:Nat):Int))=True:=by simp;omega
  simp[d29r9,q1];obtain⟨k,hk⟩:=bb (min (n'-y) (y+1));have k1:min ((↑y+1+((n'-y:Nat):Int)).toNat-(y+1)) (y+1)=k:=by omega
  have k2:min (y+1) ((↑y+1+((n'-y:Nat):Int)).toNat-(y+1))=k:=by omega
  rw[k1,k2];have e:List.drop (y+1+k) (List.replicate (y+1) [ti v]++List.replicate (n'-y) [ti 0])=List.replicate (n'-(y+k)) [ti 0]:=by
   rw[List.drop_append];simp;omega
  rw[e];refine⟨by omega,y+k,Le.bi ?_ ?_ ?_ ?_,by omega,by omega⟩
  ·simp
  ·simp
  ·simp;omega
  ·simp;rw[aF (by omega)];omega
 ·simp at h;have:y=n':=by omega
  subst this;apply aa.exit;simp;apply aa.ch aC fw [4];simp[d29r10];apply aa.ret;exact .inr ⟨1227,0,by simp,by simp[ZaY]⟩
def pre29(ts:aK):Prop:=∃(v:Int) (n:Nat),ts=[.sl (aG [v]),ti n]/\1<=n/\n<=10000000
def fn29:aK->List (aK)
 |[.sl [[v]],.int _ n]=>List.replicate n.toNat [v]
 |_=>[]
def zS(a b:Int):Int:=if 1099511627776<=a\/1099511627776<=b\/1099511627776<=a+b then 1099511627776 else a+b
def kE(c:cK)(t:Nat):Prop:=¬(((t:Int)=c.kind/\c.read.getD t default≠0)\/((t:Int)≠c.kind/\c.read.getD t default≠-1/\(c.read.getD t default<1\/c.read.getD t default>60000)))
def pR(c:cK)(aL:Int):Prop:=(¬(c.kind< -1\/c.kind>=aL\/(c.read.length:Int)≠aL\/c.delete<1\/(c.delete>60000/\c.delete≠1099511627776)))/\∀t,t<aL.toNat->kE c t
instance(c:cK)(t:Nat):Decidable (kE c t):=by unfold kE;infer_instance
instance(c:cK)(aL:Int):Decidable (pR c aL):=by unfold pR;infer_instance
def kz(l:List cK)(aL:Int):Prop:=∀i,i<l.length->pR (l.getD i default) aL
instance(l:List cK)(aL:Int):Decidable (kz l aL):=by unfold kz;infer_instance
def yJ(l:bO)(t:Nat):Prop:=¬(l.getD t default<1\/l.getD t default>60000)
instance(l:bO)(t:Nat):Decidable (yJ l t):=by unfold yJ;infer_instance
def NH(x:Input)(aL:Int):Prop:=(¬(aL<0\/(x.aw.length:Int)>60\/(x.insert.length:Int)≠aL\/x.swap<0\/x.swap>60000\/¬kz x.aw aL))/\∀t,t<aL.toNat->yJ x.insert t
instance(x:Input)(aL:Int):Decidable (NH x aL):=by unfold NH;infer_instance
def t58(c:cK)(aL:Int)(h:aL<=1000000000000):bl aj 63 [.agg c.enc,ti aL] (.bool (decide (pR c aL))):=by
 have aC:=okE;obtain⟨v,hv⟩:=bb (decide (pR c aL));rw[hv];have cZ:¬pR c aL->v=false:=λh=>by rw[<-hv];simp[h]
 have c7:pR c aL↔(¬(c.kind< -1\/c.kind>=aL\/(c.read.length:Int)≠aL\/c.delete<1\/(c.delete>60000/\c.delete≠1099511627776)))/\∀t,t<aL.toNat->kE c t:=Iff.rfl;refine c58.ok (by simp) (aO ?_);simp[cK.enc];apply aa.ch aC fw [1,2];simp[Lm];refine aa.lk (o:=[]) (l:=[(1,.v (ti aL)),(2,.v (.box [ti c.kind,.sl (aG c.read),ti c.delete]))]) (ba:=1200) (by simp) ?_;apply aa.seq;obtain⟨b,hb⟩:=bb (decide (c.kind< -1\/c.kind>=aL\/(c.read.length:Int)≠aL\/c.delete<1\/(c.delete>60000/\c.delete≠1099511627776)):Bool);refine aa.cz aC fw [(1,.v (ti aL)),(2,.v (.box [ti c.kind,.sl (aG c.read),ti c.delete])),(37,.v (.bool b))] ?_ ?_
 ·by_cases q1:c.kind< -1
  ·have fp:b=true:=by rw[<-hb];simp[q1]
   simp[wj,q1,fp]
  ·by_cases q2:aL<=c.kind
   ·have fp:b=true:=by rw[<-hb];simp[q2]
    simp[wj,q1,q2,fp]
   ·by_cases q3:(c.read.length:Int)=aL
    ·by_cases q4:c.delete<1
     ·have fp:b=true:=by rw[<-hb];simp[q4]
      simp[wj,q1,q2,q3,q4,fp]
     ·by_cases q5:60000<c.delete
      ·by_cases q6:c.delete=1099511627776
       ·have fp:b=false:=by rw[<-hb];simp only[Zaz];omega
        simp[wj,q1,q2,q3,q4,q5,q6,fp]
       ·have fp:b=true:=by rw[<-hb];simp[q5,q6]
        simp[wj,q1,q2,q3,q4,q5,q6,fp]
      ·have fp:b=false:=by rw[<-hb];simp only[Zaz];omega
       simp[wj,q1,q2,q3,q4,q5,fp]
    ·have fp:b=true:=by rw[<-hb];simp[q3]
     simp[wj,q1,q2,q3,fp]
 refine aa.cond rfl (λh=>?_) (λh=>?_)
 ·rw[h]at hb;simp only[Zau]at hb;apply aa.ch aC fw [4];simp[Ri];apply aa.ret;rw[cZ λe=>(c7.1 e).1 hb];simp[uI]
 rw[h]at hb;simp only[Zaz]at hb;obtain⟨n,hn⟩:=bb c.read.length;have hnt:aL=(n:Int):=by omega
 subst hnt;apply aa.skip;simp;apply aa.seq;apply aa.ch aC fw [1,2,5];simp[GW];apply aa.block;refine aa.loop (λy:Nat=>⟨DM.look [(1,.v (ti n)),(2,.v (.box [ti c.kind,.sl (aG c.read),ti c.delete])),(5,.v (ti y))],cM [],2000,1000,[]⟩)
  (λy=>y<=n/\∀t,t<y->kE c t) (λy=>n-y) 0 (Le.bi (o:=[]) ?_ ?_ ?_ ?_) (by simp) (λy hy=>?_)
 iterate 4(·simp)
 obtain⟨lq,fJ⟩:=hy;apply aa.seq;apply aa.ch aC fw [1,2,5,40];simp[d58r4];refine aa.cond rfl (λcR=>?_) (λcR=>?_)
 ·simp at cR;have KD:y<c.read.length:=by omega
  have r1:=cE KD;obtain⟨u,hu⟩:=bb (c.read.getD y default);rw[hu]at r1;have I2:kE c y↔¬(((y:Int)=c.kind/\u≠0)\/((y:Int)≠c.kind/\u≠-1/\(u<1\/u>60000))):=by unfold kE;rw[hu]
  obtain⟨kd,hkd⟩:=bb c.kind;rw[hkd]at I2⊢;apply aa.skip;simp;apply aa.seq;apply aa.block;apply aa.ch aC fw [1,2,5,6];simp[d58r5,r1,KD];obtain⟨b2,fH⟩:=bb (decide (((y:Int)=kd/\u≠0)\/((y:Int)≠kd/\u≠-1/\(u<1\/u>60000))):Bool);refine aa.cz aC fw [(1,.v (ti n)),(2,.v (.box [ti kd,.sl (aG c.read),ti c.delete])),(5,.v (ti y)),(73,.v (.bool b2))] ?_ ?_
  ·by_cases q1:(y:Int)=kd
   ·by_cases q2:u=0
    ·have fp:b2=false:=by rw[<-fH];simp[q1,q2]
     simp[Ft,q1,q2,fp]
    ·have fp:b2=true:=by rw[<-fH];simp[q1,q2]
     simp[Ft,q1,q2,fp]
   ·by_cases q2:u= -1
    ·have fp:b2=false:=by rw[<-fH];simp[q1,q2]
     simp[Ft,q1,q2,fp]
    ·by_cases q3:u<1
     ·have fp:b2=true:=by rw[<-fH];simp[q1,q2,q3]
      simp[Ft,q1,q2,q3,fp]
     ·by_cases q4:60000<u
      ·have fp:b2=true:=by rw[<-fH];simp[q1,q2,q4]
       simp[Ft,q1,q2,q3,q4,fp]
      ·have fp:b2=false:=by rw[<-fH];simp only[Zaz];omega
       simp[Ft,q1,q2,q3,q4,fp]
  refine aa.cond rfl (λh=>?_) (λh=>?_)
  ·rw[h]at fH;simp only[Zau]at fH;apply aa.ch aC fw [4];simp[d58r7];apply aa.ret;rw[cZ λe=>I2.1 ((c7.1 e).2 y (by simpa using cR)) fH];simp[uI]
  ·rw[h]at fH;simp only[Zaz]at fH;apply aa.skip;simp;apply aa.fK aC fw [1,2,5];simp[d58r8];rw[aF (by omega)];refine⟨y+1,Le.bi (o:=[]) ?_ ?_ ?_ ?_,⟨by omega,λi hi=>?_⟩,by omega⟩;iterate 4(·simp)
   ·by_cases e:i=y
    ·subst e;exact I2.2 fH
    ·exact fJ i (by omega)
 simp at cR;apply aa.exit;simp;apply aa.ch aC fw [4];simp[d58r9];apply aa.ret;have:v=true:=by
  rw[<-hv,Zau];exact c7.2 ⟨by omega,λi hi=>fJ i (by simp at hi;omega)⟩
 rw[this];simp[uI]
abbrev spec58:DM.Spec:=cT (λts=>∃(c:cK) (t:Int),ts=[.agg c.enc,ti t]/\t<=1000000000000) (fun|[.agg c,.int _ t]=>.bool (decide (pR (sP c) t))|_=>.bool false) true
def ok58:ay aj (bu [(63,spec58)]):=by
 refine ay.cons ay.nil ?_;rintro ts ⟨c,t,rfl,h⟩;exact⟨by simpa using t58 c t h,λ_=>rfl⟩
def t45(l:List cK)(aL:Int)(h1:l.length<=1000000000000)(h2:aL<=1000000000000):bl aj 37 [.sl (cY l),ti aL] (.bool (decide (kz l aL))):=by
 have aC:=ok58;obtain⟨v,hv⟩:=bb (decide (kz l aL));rw[hv];have cZ:¬kz l aL->v=false:=λh=>by rw[<-hv];simp[h]
 refine c45.ok (by simp) (aO ?_);simp;apply aa.ch aC fw [0,1];simp[K8];apply aa.seq;apply aa.ch aC fw [0,1,5];simp[Ed];apply aa.block;refine aa.loop (λj:Nat=>⟨DM.look [(0,.v (.sl (cY l))),(1,.v (ti aL)),(5,.v (ti j))],cM [],2000,1000,[]⟩)
  (λj=>j<=l.length/\∀i,i<j->pR (l.getD i default) aL) (λj=>l.length-j) 0 (Le.bi (o:=[]) ?_ ?_ ?_ ?_) (by simp) (λj hj=>?_)
 iterate 4(·simp)
 obtain⟨lq,fJ⟩:=hj;apply aa.seq;apply aa.ch aC fw [0,1,5,9];simp[K9];refine aa.cond rfl (λcR=>?_) (λcR=>?_)
 ·simp at cR;have r1:=jJ cR;apply aa.skip;simp;apply aa.seq;apply aa.block;obtain⟨u,hu⟩:=bb (l.getD j default);rw[hu]at r1;apply aa.ch aC fw [0,1,5,18];obtain⟨a,b,c⟩:=u;simp[La,cR,r1,cK.enc];rw[show sP [ti a,T.sl (aG b),ti c]=⟨a,b,c⟩from pn ⟨a,b,c⟩];refine⟨⟨⟨a,b,c⟩,aL,⟨⟨rfl,rfl,rfl⟩,rfl⟩,h2⟩, ?_⟩;refine aa.cond rfl (λh=>?_) (λh=>?_)
  ·simp at h;apply aa.ch aC fw [4];simp[Lb];apply aa.ret;rw[cZ λe=>h (by have:=e j cR;rw[hu]at this;exact this)];simp[wT]
  ·simp at h;apply aa.skip;simp;apply aa.fK aC fw [0,1,5];simp[d45r5];rw[aF (by omega)];refine⟨j+1,Le.bi (o:=[]) ?_ ?_ ?_ ?_,⟨by omega,λi hi=>?_⟩,by omega⟩;iterate 4(·simp)
   ·by_cases e:i=j
    ·subst e;show pR (l.getD i default) aL;rw[hu];exact h
    ·exact fJ i (by omega)
 simp at cR;apply aa.exit;simp;apply aa.ch aC fw [4];simp[d45r6];apply aa.ret;have:v=true:=by
  rw[<-hv,Zau];exact λi hi=>fJ i (by omega)
 rw[this];simp[wT]
abbrev spec45:DM.Spec:=cT (λts=>∃(l:List cK) (t:Int),ts=[.sl (cY l),ti t]/\l.length<=1000000000000/\t<=1000000000000) (fun|[.sl c,.int _ t]=>.bool (decide (kz (CO c) t))|_=>.bool false) true
def ok45:ay aj (bu [(37,spec45)]):=by
 refine ay.cons ay.nil ?_;rintro ts ⟨c,t,rfl,h1,h2⟩;exact⟨by simpa using t45 c t h1 h2,λ_=>rfl⟩
def t28(x:Input)(aL:Int)(ht:aL<=1000000000000):bl aj 23 [x.enc,ti aL] (.bool (decide (NH x aL))):=by
 have aC:=ok45;obtain⟨v,hv⟩:=bb (decide (NH x aL));rw[hv];have cZ:¬NH x aL->v=false:=λh=>by rw[<-hv];simp[h]
 have c7:NH x aL↔(¬(aL<0\/(x.aw.length:Int)>60\/(x.insert.length:Int)≠aL\/x.swap<0\/x.swap>60000\/¬kz x.aw aL))/\∀t,t<aL.toNat->yJ x.insert t:=Iff.rfl;refine c28.ok (by simp) (aO ?_);simp[Input.enc];apply aa.ch aC fw [1,2];simp[d28r0];refine aa.lk (o:=[]) (l:=[(1,.v (ti aL)),(2,.v (.box [.sl (cY x.aw),.sl (aG x.insert),ti x.swap]))]) (ba:=1200) (by simp) ?_;apply aa.seq;obtain⟨b,hb⟩:=bb (decide (aL<0\/(x.aw.length:Int)>60\/(x.insert.length:Int)≠aL\/x.swap<0\/x.swap>60000\/¬kz x.aw aL):Bool);refine aa.cz aC fw [(1,.v (ti aL)),(2,.v (.box [.sl (cY x.aw),.sl (aG x.insert),ti x.swap])),(37,.v (.bool b))] ?_ ?_
 ·by_cases q1:aL<0
  ·have fp:b=true:=by rw[<-hb];simp[q1]
   simp[BR,q1,fp]
  ·by_cases q2:60<(x.aw.length:Int)
   ·have fp:b=true:=by rw[<-hb];simp[q2]
    simp[BR,q1,q2,fp]
   ·by_cases q3:(x.insert.length:Int)=aL
    ·by_cases q4:x.swap<0
     ·have fp:b=true:=by rw[<-hb];simp[q4]
      simp[BR,q1,q2,q3,q4,fp]
     ·by_cases q5:60000<x.swap
      ·have fp:b=true:=by rw[<-hb];simp[q5]
       simp[BR,q1,q2,q3,q4,q5,fp]
      ·by_cases q6:kz x.aw aL
       ·have fp:b=false:=by rw[<-hb];simp only[Zaz];rintro(h|h|h|h|h|h)<;>first|omega|exact h q6
        simp[BR,q1,q2,q3,q4,q5,q6,fp];exact⟨x.aw,aL,⟨rfl,rfl⟩,by omega,ht⟩
       ·have fp:b=true:=by rw[<-hb];simp[q6]
        simp[BR,q1,q2,q3,q4,q5,q6,fp];exact⟨x.aw,aL,⟨rfl,rfl⟩,by omega,ht⟩
    ·have fp:b=true:=by rw[<-hb];simp[q3]
     simp[BR,q1,q2,q3,fp]
 refine aa.cond rfl (λh=>?_) (λh=>?_)
 ·rw[h]at hb;simp only[Zau]at hb;apply aa.ch aC fw [4];simp[d28r2];apply aa.ret;rw[cZ λe=>(c7.1 e).1 hb];simp[Jr]
 rw[h]at hb;simp only[Zaz]at hb;have HL:(x.insert.length:Int)=aL:=by
  by_cases e:(x.insert.length:Int)=aL
  ·exact e
  ·exact Zar (.inr (.inr (.inl e))) hb
 obtain⟨n,hn⟩:=bb x.insert.length;rw[hn]at HL;subst HL;apply aa.skip;simp;apply aa.seq;apply aa.ch aC fw [1,2,5];simp[d28r3];apply aa.block;refine aa.loop (λy:Nat=>⟨DM.look [(1,.v (ti n)),(2,.v (.box [.sl (cY x.aw),.sl (aG x.insert),ti x.swap])),(5,.v (ti y))],cM [],2000,1000,[]⟩)
  (λy=>y<=n/\∀t,t<y->yJ x.insert t) (λy=>n-y) 0 (Le.bi (o:=[]) ?_ ?_ ?_ ?_) (by simp) (λy hy=>?_)
 iterate 4(·simp)
 obtain⟨lq,fJ⟩:=hy;apply aa.seq;apply aa.ch aC fw [1,2,5,40];simp[d28r4];refine aa.cond rfl (λcR=>?_) (λcR=>?_)
 ·simp at cR;have KD:y<x.insert.length:=by omega
  have r1:=cE KD;obtain⟨u,hu⟩:=bb (x.insert.getD y default);rw[hu]at r1;have I2:yJ x.insert y↔¬(u<1\/u>60000):=by unfold yJ;rw[hu]
  apply aa.skip;simp;apply aa.seq;apply aa.block;refine aa.cz aC fw [(1,.v (ti n)),(2,.v (.box [.sl (cY x.aw),.sl (aG x.insert),ti x.swap])),(5,.v (ti y)),(56,.v (.bool (decide (u<1\/60000<u))))] ?_ ?_
  ·by_cases q1:u<1
   ·simp[d28r5,r1,KD,q1]
   ·by_cases q2:60000<u<;>simp[d28r5,r1,KD,q1,q2]
  refine aa.cond rfl (λh=>?_) (λh=>?_)
  ·simp only[Zau]at h;apply aa.ch aC fw [4];simp[d28r6];apply aa.ret;rw[cZ λe=>I2.1 ((c7.1 e).2 y (by simpa using cR)) h];simp[Jr]
  ·simp only[Zaz]at h;apply aa.skip;simp;apply aa.fK aC fw [1,2,5];simp[d28r7];rw[aF (by omega)];refine⟨y+1,Le.bi (o:=[]) ?_ ?_ ?_ ?_,⟨by omega,λi hi=>?_⟩,by omega⟩;iterate 4(·simp)
   ·by_cases e:i=y
    ·subst e;exact I2.2 h
    ·exact fJ i (by omega)
 simp at cR;apply aa.exit;simp;apply aa.ch aC fw [4];simp[d28r8];apply aa.ret;have:v=true:=by
  rw[<-hv,Zau];exact c7.2 ⟨hb,λi hi=>fJ i (by simp at hi;omega)⟩
 rw[this];simp[Jr]
def yK{a b:Int}(ha:0<=a)(hb:0<=b):0<=zS a b:=by unfold zS;split<;>omega
section
variable{w9:Nat}{es:List (Nat×T×DV)}
def Mu(es:List (Nat×T×DV)):Prop:=∀e∈es,∃a:cw,e.2.2=.v (.agg a.enc)
def same_low{f:bq}{N n:Nat}{l0 l1:cV}(aT:dh f N)(h0:∀p∈l0,N<=p.1)(h1:∀p∈l1,N<=p.1)(hn:f n≠none):sameAt (aM l0 f) (aM l1 f) n:=by
 obtain⟨o,ho⟩:=ZbP.1 hn;have ln:=(aT n o ho).1;refine⟨o,o, ?_, ?_,be o⟩
 ·rw[fj λo' h=>by have:=h0 _ h;simp only at this;omega];exact ho
 ·rw[fj λo' h=>by have:=h1 _ h;simp only at this;omega];exact ho
def addE_val{k:T}{c:Int}{y:DV}{e:Nat×T×DV}(h:e∈rC k c y w9 es):e.2.2=y\/∃e'∈es,e.2.2=e'.2.2:=by
 unfold rC at h;split at h
 ·rename_i hbt;clear hbt;unfold HJ at h;split at h
  ·rename_i i hi;clear hi;induction es generalizing i with
   |nil=>simp at h
   |cons e0 es ih=>
    cases i with
    |zero=>
     simp only[Zco,Zah]at h;rcases h with rfl|h
     ·exact .inl rfl
     ·exact .inr ⟨e,by simp[h],rfl⟩
    |succ i=>
     simp only[Zb4,Zah]at h;rcases h with rfl|h
     ·exact .inr ⟨e,by simp,rfl⟩
     ·rcases ih i h with h|⟨e',h1,h2⟩
      ·exact .inl h
      ·exact .inr ⟨e',by simp[h1],h2⟩
  ·rcases Zaq.1 h with h|h
   ·exact .inr ⟨e,h,rfl⟩
   ·simp only[Zan]at h;subst h;exact .inl rfl
 ·exact .inr ⟨e,h,rfl⟩
def k48:bB->bq->fI
 |[.ptr b 0,.agg [.v (.int .i64 f),.v (.int .i64 t),.v (.int .i64 x),.v (.int .i64 c),d]],ab=>
  match ab b with
  |some (.box [_,_,_,.iE m])=>match ab m with
   |some (.map cj agg w9 es)=>⟨cj=mn/\agg=true/\Mu es/\kp d/\∀n∈aN d,ab n≠none,.v (.eo []),
     ew ab m (.map mn true (xb (keyOf f t x) c w9 es) (rC (keyOf f t x) c (.agg [.v (ti f),.v (ti t),.v (ti x),.v (ti c),d]) w9 es))⟩
   |_=>⟨False,.undef,ab⟩
  |_=>⟨False,.undef,ab⟩
 |_,ab=>⟨False,.undef,ab⟩
def t48{f0:bq}{b m:Nat}{c1 c2 c3:DV}{f t x c:Int}{d:DV}{N:Nat}(hN:∀r,N<=r->f0 r=none)(hb:f0 b=some (.box [c1,c2,c3,.iE m]))(hm:f0 m=some (.map mn true w9 es))(he:Mu es)(hd:kp d)(Vx:∀n∈aN d,f0 n≠none):
  aR aj 75 [.ptr b 0,.agg [.v (ti f),.v (ti t),.v (ti x),.v (ti c),d]] f0 ⟨True,.v (.eo []),ew f0 m (.map mn true (xb (keyOf f t x) c w9 es) (rC (keyOf f t x) c (.agg [.v (ti f),.v (ti t),.v (ti x),.v (ti c),d]) w9 es))⟩:=by
 have aC:=cF;refine c48.pQ hN (by simp) λaT=>?_;have UN:b<N:=(aT b _ hb).1;have BS:m<N:=(aT m _ hm).1;have AK:b≠m:=λe=>by rw[e,hm]at hb;cases hb
 have nb:∀k,b≠N+k:=λk=>by omega
 have nm:∀k,m≠N+k:=λk=>by omega
 simp;apply aa.ch aC fw [0,3];simp[d48r0];apply aa.ch aC fw [0,3,4];simp[d48r1];obtain⟨k,hk⟩:=bb (keyOf f t x);have wH:T.agg [ti f,ti t,ti x]=k:=hk;rw[hk];refine aa.le (Le.dV (l1:=[(N+49,.box [.v (ti f),.v (ti t),.v (ti x)]),(N+4,.box [.v (ti f),.v (ti t),.v (ti x),.v (ti c),d])]) (l:=[(0,.ptr b 0),(3,.ptr (N+4) 0),(4,.ptr (N+49) 0)]) (ba:=N+100) aT ?_ ?_ ?_ ?_ ?_) ?_
 ·omega
 ·simp
 ·simp[bK]
 ·refine⟨⟨.box [.v (ti f),.v (ti t),.v (ti x)],by simp[Nat.add_assoc],.inl (by simp),by omega⟩,⟨.box [.v (ti f),.v (ti t),.v (ti x),.v (ti c),d],by simp[Nat.add_assoc],.inr ⟨rfl,λn hn=>?_⟩,by omega⟩,trivial⟩;refine same_low aT ?_ ?_ (Vx n (by simpa [aZ,bM,aN]using hn))
  ·simp;omega
  ·simp
 ·simp[hb,nb,Nat.add_assoc]
 have hko:eM mn true k:=by rw[<-hk];simp[keyOf]
 have H:∀(q1 q2 q3 q5:DV) (oc:Int) (fnd:Bool),fnd=(qP k es).isSome->(∀e,qP k es=some e->oc=Js e.2.2)->
   aa aj 43 ((DC.region false d48r3).seq (DC.cond (bQ.tmp 36) (DC.region true d48r4) DC.skip))
    (DK Pp ⟨True,.v (.eo []),ew f0 m (.map mn true (xb k c w9 es) (rC k c (.agg [.v (ti f),.v (ti t),.v (ti x),.v (ti c),d]) w9 es))⟩)
    ⟨DM.look [(0,.ptr b 0),(3,.ptr (N+4) 0),(4,.ptr (N+49) 0),(5,.ptr (N+106) 0),(6,.v (.bool fnd))],
     aM [(N+106,.box [q1,q2,q3,.v (ti oc),q5]),(N+106,.box [.v (ti 0),.v (ti 0),.v (ti 0),.v (ti 0),.aW]),(N+49,.box [.v (ti f),.v (ti t),.v (ti x)]),(N+4,.box [.v (ti f),.v (ti t),.v (ti x),.v (ti c),d])] f0,N+144,N,[]⟩:=by
  intro q1 q2 q3 q5 oc fnd hfnd hoc;have hbet:w8 k c es=(decide (c<1099511627776)&&(!fnd||decide (c<oc))):=by
   unfold w8;cases hf:qP k es with
   |none=>simp[hf]at hfnd;simp[hfnd]
   |some e=>simp[hf]at hfnd;simp[hfnd,hoc e hf]
  obtain⟨y,hy⟩:=bb (DV.agg [.v (ti f),.v (ti t),.v (ti x),.v (ti c),d]);have Fq:∀n∈aN y,f0 n≠none:=by
   intro n hn;refine Vx n ?_;rw[<-hy]at hn;simpa [aN,bM]using hn
  have pP:∀e∈es,aN e.2.2=[]:=λe he'=>by obtain⟨a,ha⟩:=he e he';rw[ha];rfl
  rw[hy];refine aa.to ⟨DM.look [],aM [(m,.map mn true (xb k c w9 es) (rC k c y w9 es))] f0,N+1000,N,[]⟩ ?_ (by simp[Pp];rfl);refine aa.cz aC fw [(0,.ptr b 0),(3,.ptr (N+4) 0),(4,.ptr (N+49) 0),(36,.v (.bool (w8 k c es)))] ?_ ?_
  ·by_cases s1:c<1099511627776<;>cases fnd<;>by_cases s2:c<oc<;>simp[d48r3,s1,s2,hbet]
  refine aa.cond rfl (λh=>?_) (λh=>?_)
  ·apply aa.fK aC fw [];simp[-eM,d48r4,Nat.add_assoc,nb,nm,hb,hm,wH,hko];refine Le.dV (l:=[]) aT ?_ ?_ ?_ ?_ ?_
   ·omega
   ·simp;omega
   ·simp[bK];omega
   ·refine⟨⟨.map mn true (xb k c w9 es) (rC k c y w9 es),by simp[xb,rC,h,hy],.inr ⟨rfl,λn hn=>?_⟩,λ_=>be _⟩,trivial⟩
    ·simp only[aZ,ZaV]at hn;obtain⟨e,he',hn⟩:=hn;rcases addE_val he' with h'|⟨e',h',h''⟩
     ·rw[h']at hn;obtain⟨o,ho⟩:=ZbP.1 (Fq n hn);have ln:=(aT n o ho).1;by_cases hnm:n=m
      ·subst hnm;exact⟨.map mn true (xb k c w9 es) (rC k c y w9 es),.map mn true (xb k c w9 es) (rC k c y w9 es),by simp[xb,rC,h,hy],by simp,be _⟩
      ·refine⟨o,o, ?_, ?_,be o⟩
       ·simp[hnm,show n≠N+106 by omega,show n≠N+49 by omega,show n≠N+4 by omega,ho]
       ·simp[hnm,ho]
     ·rw[h'',pP e' h']at hn;cases hn
   ·simp
  ·refine aa.skip ⟨rfl,Le.dV (l:=[]) aT ?_ ?_ ?_ ?_ ?_⟩
   ·omega
   ·simp;omega
   ·simp[bK];omega
   ·refine⟨⟨.map mn true w9 es,by simp[nm,hm],.inr ⟨by simp[xb,rC,h],λn hn=>?_⟩,λ_=>by simp[jt]⟩,trivial⟩
    ·simp only[aZ,ZaV]at hn;obtain⟨e,he',hn⟩:=hn;rw[pP e he']at hn;cases hn
   ·simp
 apply aa.ch aC fw [0,3,4,5,6];cases hf:qP k es with
 |none=>
  simp[-eM,d48r2,Nat.add_assoc,nb,nm,hb,hm,wH,hko,hf];exact H _ _ _ _ 0 false (by simp[hf]) (by simp[hf])
 |some e=>
  obtain⟨a,ha⟩:=he e (Zb8 hf);simp[-eM,d48r2,Nat.add_assoc,nb,nm,hb,hm,wH,hko,hf,ha,cw.enc];exact H _ _ _ _ a.aH true (by simp[hf]) (by intro e' he';rw[hf]at he';cases he';simp[ha,cw.enc,Js])
end
section
variable{al:List cw}{f0:bq}
def Mv(ts:aK):Prop:=∃l:List (Int×Int),ts=[.sl (ia l)]/\l.length<=1000000
def fn49:aK->List (aK)
 |[.sl av]=>av
 |_=>[]
abbrev Γ4:pI:=bu [(75,eS k48),(76,yj Mv fn49 117 2)]
def ok4:ay aj Γ4:=by
 refine ay.gS (ay.Yp ay.nil ?_) ?_
 ·rintro ts ⟨l,rfl,h⟩;exact t49 l h
 ·intro args ab h;unfold k48 at h⊢;split at h
  ·rename_i b f t x c d aI;split at h
   ·rename_i c1 c2 c3 m hb;split at h
    ·rename_i cj agg w9 es hm;obtain⟨rfl,rfl,he,hd,Vx⟩:=h;refine⟨λN hN=>?_,λr hr=>?_⟩
     ·exact aR.of (t48 hN hb hm he hd Vx) (by simp[]) (by simp[])
     ·simp only[];exact vq hm hr
    ·exact h.elim
   ·exact h.elim
  ·exact h.elim
def Pu{a b:bq}{k:T}{c:Int}{y y':DV}{w9:Nat}{es:List (Nat×T×DV)}(hy:iL a b id y y')(he:Mu es):jF a b id (rC k c y w9 es) (rC k c y' w9 es):=by
 have self:∀{l:List (Nat×T×DV)},Mu l->jF a b id l l:=λ{l} hl=>ph λe h=>by obtain⟨x,hx⟩:=hl e h;rw[hx];simp
 unfold rC;split
 ·rename_i hbt;clear hbt;unfold HJ;split
  ·rename_i i hi;clear hi;induction es generalizing i with
   |nil=>simp[jF]
   |cons e es ih=>
    cases i with
    |zero=>simp only[Zco,jF];exact⟨trivial,trivial,hy,self λe' h=>he e' (by simp[h])⟩
    |succ i=>
     simp only[Zb4,jF];obtain⟨x,hx⟩:=he e (by simp);exact⟨trivial,trivial,by rw[hx];simp,ih (λe' h=>he e' (by simp[h])) i⟩
  ·rename_i hn;clear hn;induction es with
   |nil=>simp only[ZaG,jF];exact⟨trivial,trivial,hy,trivial⟩
   |cons e es ih=>
    simp only[ZaM,jF];obtain⟨x,hx⟩:=he e (by simp);exact⟨trivial,trivial,by rw[hx];simp,ih λe' h=>he e' (by simp[h])⟩
 ·exact self he
def ga(al:List cw):Mu (lc al):=Wd al
def Ha{a b:bq}{c:cw}{d:DV}(hd:iL a b id d (.v (.sl (ia c.ops)))):
  eA a b (.map mn true (xb c.key c.aH al.length (lc al)) (rC c.key c.aH (.agg [.v (ti c.f),.v (ti c.t),.v (ti c.term),.v (ti c.aH),d]) al.length (lc al))) (cL (wv al c)):=by
 obtain⟨h1,h2⟩:=Jt c al;refine .inl ?_;unfold cL;rw[<-h1,<-h2];simp only[nS];refine⟨trivial,trivial,trivial,Pu ?_ (ga al)⟩;simp[cw.enc,hd]
def AL(l:List (Int×Int))(a b:Int):ia l++[[ti a,ti b]]=ia (l++[(a,b)]):=by simp[ia]
def Pv{N m r r2 aJ ba v:Nat}{tm:dw}{l:fA}{o2:Ob}(c:cw){av:List (aK)}(aT:dh f0 N)(hm:m<N)(hr:N<=r)(xV:N<=r2)(hn:N<=ba)(eF:av=ia c.ops)
  (ik:fR (aM [(m,.map mn true (xb c.key c.aH al.length (lc al)) (rC c.key c.aH (.agg [.v (ti c.f),.v (ti c.t),.v (ti c.term),.v (ti c.aH),.bA r v]) al.length (lc al))),(r,.dT v 117 2 av),(r2,o2),(m,.map mn true al.length (lc al))] f0) (aM [(m,cL (wv al c))] f0) id tm l):
  Le ⟨tm,ew (aM [(r,.dT v 117 2 av),(r2,o2),(m,.map mn true al.length (lc al))] f0) m (.map mn true (xb c.key c.aH al.length (lc al)) (rC c.key c.aH (.agg [.v (ti c.f),.v (ti c.t),.v (ti c.term),.v (ti c.aH),.bA r v]) al.length (lc al))),aJ,N,[]⟩
   ⟨DM.look l,aM [(m,cL (wv al c))] f0,ba,N,[]⟩:=by
 subst eF;rw[jT];refine Le.dV aT hn ?_ ?_ ?_ ik
 ·simp;omega
 ·simp[bK];omega
 ·refine⟨⟨_,by simp,Ha (d:=.bA r v) ?_,λ_=>by simp[jt,cL]⟩,trivial⟩;simp[show r≠m by omega];exact bL aT hr (by simp;omega)
def Wf(al:List cw):aZ (cL al)=[]:=by
 simp only[cL,aZ,List.flatMap_eq_nil_iff];intro e he;obtain⟨a,ha⟩:=ga al e he;rw[ha];rfl
def rE{a b:bq}(al:List cw):eA a b (cL al) (cL al):=.inr ⟨rfl,λn hn=>by rw[Wf]at hn;cases hn⟩
def cI(al:List cw)(cs:List cw):List cw:=cs.foldl wv al
def ib(al cs ds:List cw):cI al (cs++ds)=cI (cI al cs) ds:=by simp[cI]
def mf(read:bO)(i m aH:Int)(ops:List (Int×Int))(n:Nat):List cw:=
 (List.range n).flatMap λt=>if 0<=read.getD t 0 then [⟨2*i,2*m+2,t,aH+read.getD t 0,ops++[(1,(t:Int))]⟩]else []
def Pw(read:bO)(i m aH:Int)(ops:List (Int×Int))(n:Nat):mf read i m aH ops (n+1)=mf read i m aH ops n++(if 0<=read.getD n 0 then [⟨2*i,2*m+2,n,aH+read.getD n 0,ops++[(1,(n:Int))]⟩]else []):=by
 simp[mf,ZaR]
def UO(c:cK):Prop:=c.read.length<=1000000/\∀p∈c.read,p<=1099511627776
def t47{b m:Nat}{x:Input}{i j:Nat}{aH:Int}{ops:List (Int×Int)}{N:Nat}(hN:∀r,N<=r->f0 r=none)(hb:f0 b=some (.box (df x m)))(hm:f0 m=some (cL al))
  (hi:i<=1000000) (hj:j<x.aw.length) (hl:x.aw.length<=1000000) (hc:UO (x.aw.getD j default)) (uG:0<=aH/\aH<=1099511627776) (hops:ops.length<=1000000):
  aR aj 74 [.ptr b 0,.v (ti i),.v (ti j),.v (ti aH),.v (.sl (ia ops))] f0 ⟨True,.v (.eo []),ew f0 m (cL (cI al (mf (x.aw.getD j default).read i j aH ops (x.aw.getD j default).read.length)))⟩:=by
 have aC:=ok4;refine c47.pQ hN (by simp) λaT=>?_;have UN:b<N:=(aT b _ hb).1;have BS:m<N:=(aT m _ hm).1;have AK:b≠m:=λe=>by rw[e,hm]at hb;cases hb
 have nb:∀k,b≠N+k:=λk=>by omega
 have nm:∀k,m≠N+k:=λk=>by omega
 have wp:=jJ hj;obtain⟨col,hcol⟩:=bb (x.aw.getD j default);rw[hcol]at wp hc⊢;obtain⟨kd,read,del⟩:=col;simp only at hc⊢;obtain⟨bU,gI⟩:=hc;simp only at bU gI;have eF:∀r∈ia ops,r.length=2:=by intro r hr;simp only[ia,Zak]at hr;obtain⟨c,_,rfl⟩:=hr;rfl
 simp;apply aa.ch aC fw [0,1,2,3,4,20,21,22];simp[d47r0,hb,df,hj,wp,cK.enc];refine aa.to ⟨DM.look [],aM [(m,cL (cI al (mf read i j aH ops read.length)))] f0,N+1000,N,[]⟩ ?_ (by simp[d47res];rfl);apply aa.block;refine aa.loop (λy:Nat=>⟨DM.look [(0,.ptr b 0),(1,.v (ti i)),(2,.v (ti j)),(3,.v (ti aH)),(4,.v (.sl (ia ops))),(20,.v (.sl (aG read))),(21,.v (ti read.length)),(22,.v (ti y))],aM [(m,cL (cI al (mf read i j aH ops y)))] f0,N+200,N,[]⟩)
  (λy=>y<=read.length) (λy=>read.length-y) 0 (Le.dV aT ?_ ?_ ?_ ?_ ?_) (by simp) (λy hy=>?_)
 ·omega
 ·simp;omega
 ·simp[bK]
 ·exact⟨⟨cL al,by simp[hm],by simpa [mf,cI]using rE al,λ_=>trivial⟩,trivial⟩
 ·simp[hb,AK]
 apply aa.ch aC fw [0,1,2,3,4,20,21,22,23];simp[d47r1];apply aa.seq;refine aa.cond rfl (λcR=>?_) (λcR=>?_)
 ·simp at cR;apply aa.skip;simp;apply aa.seq;apply aa.block;have xV:=cE cR;obtain⟨p,hp⟩:=bb (read.getD y default);have hp0:read.getD y 0=p:=hp;have hpm:p<=1099511627776:=gI p (by rw[<-hp];simp[List.getD,cR]);rw[hp]at xV;apply aa.ch aC fw [0,1,2,3,4,10,11,20,21,22];simp[d47r2,xV,cR];apply aa.ch aC fw [0,1,2,3,4,10,11,20,21,22,28];simp[d47r3];have nU:=Pw read i j aH ops y;rw[hp0]at nU;obtain⟨aly,Wg⟩:=bb (cI al (mf read i j aH ops y));rw[Wg];refine aa.to ⟨DM.look [(0,.ptr b 0),(1,.v (ti i)),(2,.v (ti j)),(3,.v (ti aH)),(4,.v (.sl (ia ops))),(20,.v (.sl (aG read))),(21,.v (ti read.length)),(22,.v (ti y))],aM [(m,cL (cI al (mf read i j aH ops (y+1))))] f0,N+1000,N,[]⟩ ?_ ?_
  ·refine aa.cond rfl (λhd=>?_) (λhd=>?_)
   ·simp at hd;refine aa.pe aC fw (rs:=Po) (.inr ⟨_,rfl⟩) (by kernel_rfl) [0,1,2,3,4,20,21,22] ?_;have w1:IntKind.i64.wrap (2*(i:Int))=2*i:=aF (by omega);have w2:IntKind.i64.wrap (2*(j:Int))=2*j:=aF (by omega);have w3:IntKind.i64.wrap (2*(j:Int)+2)=2*j+2:=aF (by omega);have w4:IntKind.i64.wrap (aH+p)=aH+p:=aF (by omega);simp[Po,w1,w2,w3,w4,fn49,Mv,fU,dK,k48,hb,df,AK,cL,ga,Nat.add_assoc,nb,nm];refine⟨⟨ops,rfl,hops⟩,by omega,λn hn=>?_, ?_⟩
    ·simp only[aN,Zan]at hn;subst hn;simp
    ·have e:cI al (mf read i j aH ops (y+1))=wv aly ⟨2*i,2*j+2,y,aH+p,ops++[(1,(y:Int))]⟩:=by
      rw[nU,Zai hd,ib,Wg];rfl
     rw[e];refine Pv ⟨2*i,2*j+2,y,aH+p,ops++[(1,(y:Int))]⟩ aT BS ?_ ?_ ?_ (AL _ _ _) ?_
     ·omega
     ·omega
     ·omega
     ·simp[hb,AK]
   ·simp at hd;have e:cI al (mf read i j aH ops (y+1))=aly:=by
     rw[nU,Zab (by omega),ZaC,Wg]
    rw[e];refine aa.skip ⟨rfl,Le.dV aT ?_ ?_ ?_ ?_ ?_⟩
    ·omega
    ·simp;omega
    ·simp[bK]
    ·exact⟨⟨cL aly,by simp[cL],rE _,λ_=>be _⟩,trivial⟩
    ·simp[hb,AK]
  ·apply aa.fK aC fw [0,1,2,3,4,20,21,22];simp[d47r5];rw[aF (by omega)];refine⟨y+1,Le.dV aT ?_ ?_ ?_ ?_ ?_,by omega,by omega⟩
   ·omega
   ·simp;omega
   ·simp[bK]
   ·exact⟨⟨_,by simp,rE _,λ_=>be _⟩,trivial⟩
   ·simp[hb,AK]
 ·simp at cR;have:y=read.length:=by omega
  subst this;apply aa.exit;refine⟨rfl, ?_⟩;refine Le.dV (l:=[]) aT ?_ ?_ ?_ ?_ ?_
  ·omega
  ·simp;omega
  ·simp[bK]
  ·exact⟨⟨_,by simp,rE _,λ_=>be _⟩,trivial⟩
  ·simp
end
section
variable{ab:bq}{al:List cw}
def gr(ab:bq)(b:Nat):Input×Nat:=
 match ab b with
 |some (.box [.v (.sl c),.v (.sl i),.v (.int .i64 s),.iE m])=>(⟨CO c,lS i,s⟩,m)
 |_=>(⟨[],[],0⟩,0)
def CP{b m:Nat}{x:Input}(h:ab b=some (.box (df x m))):gr ab b=(x,m):=by
 simp[gr,h,df]
def AM(ab:bq)(m:Nat):List cw:=
 match ab m with
 |some (.map _ _ _ es)=>es.map λe=>match e.2.2 with|.v (.agg r)=>wZ r|_=>default
 |_=>[]
def Hb{m:Nat}(h:ab m=some (cL al)):AM ab m=al:=by
 simp only[AM,h,cL,lc,Zc4];rw[show(List.map ((λe=>match e.2.2 with|DV.v (T.agg r)=>wZ r|_=>default)∘λp=>(p.2,p.1.key,DV.v (T.agg p.1.enc))) al.zipIdx)=al.zipIdx.map Prod.fst from Zbq λp _=>by simp];simp
def k31:bB->bq->fI
 |[.ptr b 0,.v (.int .i64 i),.v (.int .i64 j)],ab=>⟨ab b=some (.box (df (gr ab b).1 (gr ab b).2))/\0<=i/\i<=j/\j<=(gr ab b).1.aw.length/\tj (gr ab b).1.aw,
   .v (.eo [ti (gV (((gr ab b).1.aw.take j.toNat).drop i.toNat) 0),.sl (ia (gz (j.toNat-i.toNat)))]),ab⟩
 |_,ab=>⟨False,.undef,ab⟩
def AN{b m:Nat}{x:Input}{i j:Nat}(h:ab b=some (.box (df x m))):
  k31 [.ptr b 0,.v (ti i),.v (ti j)] ab=⟨i<=j/\j<=x.aw.length/\tj x.aw,.v (.eo [ti (gV ((x.aw.take j).drop i) 0),.sl (ia (gz (j-i)))]),ab⟩:=by
 simp only[k31,CP h,h,Zag,true_and,Int.ofNat_le,ZcB];try omega
def k50:bB->bq->fI
 |[.ptr b 0,.v (.int .i64 i)],ab=>⟨ab b=some (.box (df (gr ab b).1 (gr ab b).2))/\0<=i/\i<=1000000/\(gr ab b).1.aw.length<=1000000,.v (.bool (dc (gr ab b).1 i.toNat)),ab⟩
 |_,ab=>⟨False,.undef,ab⟩
def k50_eq{b m:Nat}{x:Input}{i:Nat}(h:ab b=some (.box (df x m))):
  k50 [.ptr b 0,.v (ti i)] ab=⟨i<=1000000/\x.aw.length<=1000000,.v (.bool (dc x i)),ab⟩:=by
 simp only[k50,CP h,h,Zag,fI.mk.injEq,and_self,and_true,true_and,eq_iff_iff,ZcB];try omega
def k47:bB->bq->fI
 |[.ptr b 0,.v (.int .i64 i),.v (.int .i64 j),.v (.int .i64 aH),.v (.sl ops)],ab=>
  ⟨ab b=some (.box (df (gr ab b).1 (gr ab b).2))/\ab (gr ab b).2=some (cL (AM ab (gr ab b).2))/\ops=ia (AG ops)/\0<=i/\i<=1000000/\0<=j/\j<(gr ab b).1.aw.length/\(gr ab b).1.aw.length<=1000000/\UO ((gr ab b).1.aw.getD j.toNat default)/\0<=aH/\aH<=1099511627776/\(AG ops).length<=1000000,.v (.eo []),
   ew ab (gr ab b).2 (cL (cI (AM ab (gr ab b).2) (mf ((gr ab b).1.aw.getD j.toNat default).read i.toNat j.toNat aH (AG ops) ((gr ab b).1.aw.getD j.toNat default).read.length)))⟩
 |_,ab=>⟨False,.undef,ab⟩
def k47_eq{b m:Nat}{x:Input}{i j:Nat}{aH:Int}{ops:List (Int×Int)}(h:ab b=some (.box (df x m)))(hm:ab m=some (cL al)):
  k47 [.ptr b 0,.v (ti i),.v (ti j),.v (ti aH),.v (.sl (ia ops))] ab=⟨i<=1000000/\j<x.aw.length/\x.aw.length<=1000000/\UO (x.aw.getD j default)/\0<=aH/\aH<=1099511627776/\ops.length<=1000000,.v (.eo []),
   ew ab m (cL (cI al (mf (x.aw.getD j default).read i j aH ops (x.aw.getD j default).read.length)))⟩:=by
 simp only[k47,CP h,h,Hb hm,hm,Zag,Pr,true_and,Int.ofNat_lt,ZcB,show((i:Int)<=1000000)=(i<=1000000)from propext ⟨λh=>by omega,λh=>by omega⟩]
abbrev Γ5:pI:=bu [(75,eS k48),(74,eS k47),(48,eS k31),(77,eS k50),(76,yj Mv fn49 117 2)]
def ok5:ay aj Γ5:=by
 refine ay.gS (ay.gS (ay.gS (ay.gS (ay.Yp ay.nil ?_) ?_) ?_) ?_) ?_
 ·rintro ts ⟨l,rfl,h⟩;exact t49 l h
 ·intro args ab h;unfold k50 at h⊢;split at h
  ·rename_i aI b i;obtain⟨hb,h1,h2,h3⟩:=h;obtain⟨i,rfl⟩:=Zae h1;refine⟨λN hN=>?_,λr hr=>hr⟩;exact aR.of (t50 hN hb (by omega) h3) (by simp) (by simp)
  ·exact h.elim
 ·intro args ab h;unfold k31 at h⊢;split at h
  ·rename_i aI b i j;obtain⟨hb,h1,h2,h3,h4⟩:=h;obtain⟨i,rfl⟩:=Zae h1;obtain⟨j,rfl⟩:=Zae (show 0<=j by omega);refine⟨λN hN=>?_,λr hr=>hr⟩;exact aR.of (t31 hN hb (by omega) (by omega) h4) (by simp) (by simp)
  ·exact h.elim
 ·intro args ab h;unfold k47 at h⊢;split at h
  ·rename_i aI b i j aH ops;obtain⟨hb,hm,ho,h1,h2,h3,h4,h5,h6,h7,h8,h9⟩:=h;obtain⟨i,rfl⟩:=Zae h1;obtain⟨j,rfl⟩:=Zae h3;refine⟨λN hN=>?_,λr hr=>vq hm hr⟩;rw[ho];exact aR.of (t47 hN hb hm (by omega) (by omega) h5 h6 ⟨h7,h8⟩ h9) (by simp) (by simp)
  ·exact h.elim
 ·intro args ab h;exact(ok4 75 (eS k48) rfl).st k48 rfl args ab h
end
section
variable{f0:bq}{al:List cw}
def og(x:Input)(i m:Nat):Int:=gV ((x.aw.take m).drop i) 0
def tZ(b7:bO)(i m aH:Int)(ops:List (Int×Int))(n:Nat):List cw:=
 (List.range n).map λ(t:Nat)=>⟨2*i,2*m,(t:Int),aH+b7.getD t 0,ops++[(3,(t:Int))]⟩
def Wh(b7:bO)(i m aH:Int)(ops:List (Int×Int))(n:Nat):tZ b7 i m aH ops (n+1)=tZ b7 i m aH ops n++[⟨2*i,2*m,n,aH+b7.getD n 0,ops++[(3,(n:Int))]⟩]:=by
 simp[tZ,ZaR]
def Bg(x:Input)(i m:Nat):List cw:=mf (x.aw.getD m default).read i m (og x i m) (gz (m-i)) (x.aw.getD m default).read.length
def th(x:Input)(i m:Nat):List cw:=
 (if i<m then Bg x i (m-1)else [])++(tZ x.insert i m (og x i m) (gz (m-i)) x.insert.length++
  (if dc x m then [⟨2*i,2*m+1,(x.aw.getD (m+1) default).kind,og x i m+x.swap,gz (m-i)++[(4,0)]⟩]else []))
def zf(x:Input)(i m:Nat):List cw:=(List.range (m-i)).flatMap λe=>th x i (i+e)
def t6(x:Input)(i:Nat):List cw:=zf x i (x.aw.length+1)++(if dc x i then [⟨2*i+1,2*i+4,(x.aw.getD i default).kind,0,[]⟩]else [])
def Px(x:Input){i m:Nat}(h:i<=m):zf x i (m+1)=zf x i m++th x i m:=by
 unfold zf;rw[show m+1-i=(m-i)+1 by omega,ZaR,Zcv];simp[show i+(m-i)=m by omega]
def OI(x:Input):Prop:=tj x.aw/\(∀c∈x.aw,UO c)/\x.insert.length<=1000000/\(∀p∈x.insert,0<=p/\p<=1099511627776)/\0<=x.swap/\x.swap<=1099511627776
def g0{x:Input}(h:tj x.aw)(i m:Nat):0<=og x i m/\og x i m<=1099511627776:=
 wn (λc hc=>(h.2 c (ZaE (ZbW hc))).1) 0 (by omega)
def sQ{N m aJ ba:Nat}{tm:dw}{l:fA}{L:cV}(aT:dh f0 N)(hm:m<N)(hn:N<=ba)(hL:∀p∈L,p.1=m\/N<=p.1)(ho:aM L f0 m=some (cL al))
  (ik:fR (aM L f0) (aM [(m,cL al)] f0) id tm l):
  Le ⟨tm,aM L f0,aJ,N,[]⟩ ⟨DM.look l,aM [(m,cL al)] f0,ba,N,[]⟩:=by
 refine Le.dV aT hn ?_ ?_ ?_ ik
 ·simp;omega
 ·induction L with
  |nil=>trivial
  |cons p L ih=>
   have:∀(L:cV),(∀p∈L,p.1=m\/N<=p.1)->bK N [(m,cL al)] L:=by
    intro L;induction L with
    |nil=>intro _;trivial
    |cons q L ih=>
     intro h;refine⟨λhq=>?_,ih λp hp=>h p (by simp[hp])⟩;rcases h q (by simp)with h|h
     ·exact⟨cL al,by simp[h]⟩
     ·omega
   exact this _ hL
 ·exact⟨⟨cL al,ho,rE al,λ_=>be _⟩,trivial⟩
def t30{b m:Nat}{x:Input}{i:Nat}{N:Nat}(hN:∀r,N<=r->f0 r=none)(hb:f0 b=some (.box (df x m)))(hm:f0 m=some (cL al))
  (hi:i<=x.aw.length) (hx:OI x):
  aR aj 47 [.ptr b 0,.v (ti i)] f0 ⟨True,.v (.eo []),ew f0 m (cL (cI al (t6 x i)))⟩:=by
 have aC:=ok5;refine c30.pQ hN (by simp) λaT=>?_;have UN:b<N:=(aT b _ hb).1;have BS:m<N:=(aT m _ hm).1;have AK:b≠m:=λe=>by rw[e,hm]at hb;cases hb
 have nb:∀k,b≠N+k:=λk=>by omega
 have nm:∀k,m≠N+k:=λk=>by omega
 obtain⟨hd,oj,hins,hinp,hsw0,Nx⟩:=hx;have hl:=hd.1;simp;apply aa.ch aC fw [0,1,4];simp[d30r0,hb,df];apply aa.seq;apply aa.ch aC fw [0,1,4,5];simp[d30r1];refine aa.to ⟨DM.look [(0,.ptr b 0),(1,.v (ti i))],aM [(m,cL (cI al (zf x i (x.aw.length+1))))] f0,N+1000,N,[]⟩ ?_ ?_
 ·apply aa.block;refine aa.loop (λy:Nat=>⟨DM.look [(0,.ptr b 0),(1,.v (ti i)),(4,.v (ti x.aw.length)),(5,.v (ti y))],aM [(m,cL (cI al (zf x i y)))] f0,N+1000,N,[]⟩)
   (λy=>i<=y/\y<=x.aw.length+1) (λy=>x.aw.length+1-y) i (Le.dV aT ?_ ?_ ?_ ?_ ?_) (by omega) (λy hy=>?_)
  ·omega
  ·simp;omega
  ·simp[bK]
  ·exact⟨⟨cL al,by simp[hm],by simpa [zf,cI]using rE al,λ_=>trivial⟩,trivial⟩
  ·simp[hb,AK]
  obtain⟨lq,fJ⟩:=hy;apply aa.seq;apply aa.ch aC fw [0,1,4,5,21];simp[d30r2];refine aa.cond rfl (λcR=>?_) (λcR=>?_)
  ·simp at cR;apply aa.skip;simp;obtain⟨aH,uG⟩:=bb (og x i y);have zO:0<=aH/\aH<=1099511627776:=by rw[<-uG];exact g0 hd i y
   have hcost':gV ((x.aw.take y).drop i) 0=aH:=uG;obtain⟨aly,Wg⟩:=bb (cI al (zf x i y));rw[Wg];apply aa.seq;refine aa.to ⟨DM.look [(0,.ptr b 0),(1,.v (ti i)),(4,.v (ti x.aw.length)),(5,.v (ti y))],aM [(m,cL (cI aly (th x i y)))] f0,N+1000,N,[]⟩ ?_ ?_
   ·apply aa.block;apply aa.seq;refine aa.pe aC fw (rs:=Pk) (.inr ⟨_,rfl⟩) (by kernel_rfl) [0,1,4,5,6,7] ?_;simp[Pk,AN (x:=x) (m:=m),hb,AK,lq,cR,hd,hcost'];apply aa.seq;obtain⟨al1,hal1⟩:=bb (cI aly (if i<y then Bg x i (y-1)else []));refine aa.to ⟨DM.look [(0,.ptr b 0),(1,.v (ti i)),(4,.v (ti x.aw.length)),(5,.v (ti y)),(6,.v (ti aH)),(7,.v (.sl (ia (gz (y-i)))))],aM [(m,cL al1)] f0,N+1000,N,[]⟩ ?_ ?_
    ·apply aa.ch aC fw [0,1,4,5,6,7,33];simp[d30r4];refine aa.cond rfl (λh=>?_) (λh=>?_)
     ·simp at h;obtain⟨q,hq⟩:∃q,y=q+1:=⟨y-1,by omega⟩;have hwq:IntKind.i64.wrap ((y:Int)-1)=(q:Int):=by rw[aF (by omega)];omega
      have hiq:i<=q:=by omega
      have hql:q<=x.aw.length:=by omega
      have hql2:q<x.aw.length:=by omega
      obtain⟨c2,gI⟩:=bb (og x i q);have hc2b:0<=c2/\c2<=1099511627776:=by rw[<-gI];exact g0 hd i q
      have hc2':gV ((x.aw.take q).drop i) 0=c2:=gI;refine aa.seq (aa.pe aC fw (rs:=Pm) (.inr ⟨_,rfl⟩) (by kernel_rfl) [0,1,4,5,6,7,8,9] ?_);simp[Pm,AN (x:=x) (m:=m),hb,AK,hwq,hiq,hql,hd,hc2'];refine aa.pe aC fw (rs:=Pn) (.inr ⟨_,rfl⟩) (by kernel_rfl) [0,1,4,5,6,7] ?_;simp[Pn,k47_eq (x:=x) (m:=m) (al:=aly),hb,AK,hwq];refine⟨⟨by omega,hql2,hl, ?_,hc2b.1,hc2b.2,by simp[gz];omega⟩, ?_⟩
      ·rw[Zas hql2];exact oj _ (Zbe hql2)
      ·rw[jT];have e:cI aly (mf (x.aw[q]?.getD default).read i q c2 (gz (q-i)) (x.aw[q]?.getD default).read.length)=al1:=by
        rw[<-hal1,Zai h];simp[Bg,show y-1=q by omega,gI]
       rw[e];exact sQ aT BS (by omega) (by simp) (by simp) (by simp[hb,AK])
     ·simp at h;have e:aly=al1:=by rw[<-hal1,Zab (by omega)];rfl
      rw[e];exact aa.skip ⟨rfl,sQ aT BS (by omega) (by simp) (by simp) (by simp[hb,AK])⟩
    apply aa.seq;obtain⟨al2,hal2⟩:=bb (cI al1 (tZ x.insert i y aH (gz (y-i)) x.insert.length));refine aa.to ⟨DM.look [(0,.ptr b 0),(1,.v (ti i)),(4,.v (ti x.aw.length)),(5,.v (ti y)),(6,.v (ti aH)),(7,.v (.sl (ia (gz (y-i)))))],aM [(m,cL al2)] f0,N+1000,N,[]⟩ ?_ ?_
    ·apply aa.ch aC fw [0,1,4,5,6,7,53,54,55];simp[d30r7,hb,AK,df];apply aa.block;refine aa.loop (λz:Nat=>⟨DM.look [(0,.ptr b 0),(1,.v (ti i)),(4,.v (ti x.aw.length)),(5,.v (ti y)),(6,.v (ti aH)),(7,.v (.sl (ia (gz (y-i))))),(53,.v (.sl (aG x.insert))),(54,.v (ti x.insert.length)),(55,.v (ti z))],aM [(m,cL (cI al1 (tZ x.insert i y aH (gz (y-i)) z)))] f0,N+1000,N,[]⟩)
      (λz=>z<=x.insert.length) (λz=>x.insert.length-z) 0 ?_ (by omega) (λz hz=>?_)
     ·exact sQ aT BS (by omega) (by simp) (by simp[tZ,cI]) (by simp[hb,AK])
     apply aa.ch aC fw [0,1,4,5,6,7,53,54,55,56];simp[d30r8];apply aa.seq;refine aa.cond rfl (λh=>?_) (λh=>?_)
     ·simp at h;apply aa.skip;simp;apply aa.seq;apply aa.block;obtain⟨p,hp⟩:=bb (x.insert.getD z default);have hr:=cE h;have hpb:=hinp p (by rw[<-hp];simp[List.getD,h]);have hp0:x.insert.getD z 0=p:=hp;have nU:=Wh x.insert i y aH (gz (y-i)) z;rw[hp0]at nU;rw[hp]at hr;apply aa.ch aC fw [0,1,4,5,6,7,10,11,53,54,55];simp[d30r9,hr,h];obtain⟨alz,halz⟩:=bb (cI al1 (tZ x.insert i y aH (gz (y-i)) z));rw[halz];refine aa.to ⟨DM.look [(0,.ptr b 0),(1,.v (ti i)),(4,.v (ti x.aw.length)),(5,.v (ti y)),(6,.v (ti aH)),(7,.v (.sl (ia (gz (y-i))))),(53,.v (.sl (aG x.insert))),(54,.v (ti x.insert.length)),(55,.v (ti z))],aM [(m,cL (cI al1 (tZ x.insert i y aH (gz (y-i)) (z+1))))] f0,N+1000,N,[]⟩ ?_ ?_
      ·refine aa.pe aC fw (rs:=Jm) (.inr ⟨_,rfl⟩) (by kernel_rfl) [0,1,4,5,6,7,53,54,55] ?_;have w1:IntKind.i64.wrap (2*(i:Int))=2*i:=aF (by omega);have w2:IntKind.i64.wrap (2*(y:Int))=2*y:=aF (by omega);have w4:IntKind.i64.wrap (aH+p)=aH+p:=aF (by omega);have fl:(gz (y-i)).length=y-i:=by simp[gz]
       simp[Jm,w1,w2,w4,fn49,Mv,fU,dK,k48,hb,df,AK,cL,ga,Nat.add_assoc,nb,nm];refine⟨⟨_,rfl,by omega⟩,by omega,λn hn=>?_, ?_⟩
       ·simp only[aN,Zan]at hn;subst hn;simp
       ·have e:cI al1 (tZ x.insert i y aH (gz (y-i)) (z+1))=wv alz ⟨2*i,2*y,z,aH+p,gz (y-i)++[(3,(z:Int))]⟩:=by
         rw[nU,ib,halz];rfl
        rw[e];refine Pv ⟨2*i,2*y,z,aH+p,gz (y-i)++[(3,(z:Int))]⟩ aT BS ?_ ?_ ?_ (AL _ _ _) ?_
        ·omega
        ·omega
        ·omega
        ·simp[hb,AK]
      ·apply aa.fK aC fw [0,1,4,5,6,7,53,54,55];simp[d30r11];rw[aF (by omega)];exact⟨z+1,sQ aT BS (by omega) (by simp) (by simp) (by simp[hb,AK]),by omega,by omega⟩
     ·simp at h;have:z=x.insert.length:=by omega
      subst this;refine aa.exit ⟨rfl, ?_⟩;rw[hal2];exact sQ aT BS (by omega) (by simp) (by simp) (by simp[hb,AK])
    refine aa.jR aC fw (rs:=Jn) (.inr ⟨_,rfl⟩) (by kernel_rfl) [0,1,4,5,6,7,80] ?_;simp[Jn,k50_eq (x:=x) (m:=m),hb,AK];refine⟨⟨by omega,hl⟩, ?_⟩;have QT:cI aly (th x i y)=cI al2 (if dc x y then [⟨2*i,2*y+1,(x.aw.getD (y+1) default).kind,aH+x.swap,gz (y-i)++[(4,0)]⟩]else []):=by
     rw[<-hal2,<-hal1,<-ib,<-ib];simp[th,uG]
    refine aa.cond rfl (λh=>?_) (λh=>?_)
    ·rw[QT,Zai h];have hsw2:y+1<x.aw.length:=by simp[dc]at h;exact h.1
     have hr:DM.rowAt (cY x.aw) ((y:Int)+1)=_:=jJ hsw2;obtain⟨c2,gI⟩:=bb (x.aw.getD (y+1) default);rw[gI]at hr⊢;have w0:IntKind.i64.wrap ((y:Int)+1)=y+1:=aF (by omega);have w1:IntKind.i64.wrap (2*(i:Int))=2*i:=aF (by omega);have w2:IntKind.i64.wrap (2*(y:Int))=2*y:=aF (by omega);have w3:IntKind.i64.wrap (2*(y:Int)+1)=2*y+1:=aF (by omega);have w4:IntKind.i64.wrap (aH+x.swap)=aH+x.swap:=aF (by omega);have fl:(gz (y-i)).length=y-i:=by simp[gz]
     have hlt1:((y:Int)+1<x.aw.length)=True:=by simp;omega
     have hlt2:(0<=(y:Int)+1)=True:=by simp;omega
     refine aa.pe aC fw (rs:=c5 (K1 b N) (eR Jo [none,none,none,none,none,none,none,none,none,none,some [0],none,none,some [],none,some [],none,none,none,none,none,some [0],none,none,some [],none,none,some [1239]])) (.inl rfl) (by rw[dX (VX UN)];kernel_rfl) [0,1,4,5] ?_;simp[c5,fk,eR,cP,bG,aN,bM,K1,Jo,w0,w1,w2,w3,w4,hr,hlt1,hlt2,cK.enc,fn49,Mv,fU,dK,k48,hb,df,AK,cL,ga,Nat.add_assoc,nb,nm];refine⟨⟨_,rfl,by omega⟩,by omega, ?_⟩;refine Pv ⟨2*i,2*y+1,c2.kind,aH+x.swap,gz (y-i)++[(4,0)]⟩ aT BS ?_ ?_ ?_ (AL _ _ _) ?_
     ·omega
     ·omega
     ·omega
     ·simp[hb,AK]
    ·rw[QT,Zab (by simp[h])];exact aa.skip ⟨rfl,sQ aT BS (by omega) (by simp) (by simp[cI]) (by simp[hb,AK])⟩
   ·apply aa.fK aC fw [0,1,4,5];simp[d30r14];rw[aF (by omega)];refine⟨y+1,sQ aT BS (by omega) (by simp) (by simp;rw[Px x lq,ib,Wg]) (by simp[hb,AK]),⟨by omega,by omega⟩,by omega⟩
  ·simp at cR;have:y=x.aw.length+1:=by omega
   subst this;refine aa.exit ⟨rfl, ?_⟩;exact sQ aT BS (by omega) (by simp) (by simp) (by simp[hb,AK])
 ·obtain⟨al3,hal3⟩:=bb (cI al (zf x i (x.aw.length+1)));have QT:cI al (t6 x i)=cI al3 (if dc x i then [⟨2*i+1,2*i+4,(x.aw.getD i default).kind,0,[]⟩]else []):=by
   rw[<-hal3,<-ib];rfl
  rw[hal3];refine aa.jR aC fw (rs:=Jp) (.inr ⟨_,rfl⟩) (by kernel_rfl) [0,1,113] ?_;simp[Jp,k50_eq (x:=x) (m:=m),hb,AK];refine⟨⟨by omega,hl⟩, ?_⟩;refine aa.to ⟨DM.look [],aM [(m,cL (cI al (t6 x i)))] f0,N+1000,N,[]⟩ ?_ (by simp[d30res];rfl);refine aa.cond rfl (λh=>?_) (λh=>?_)
  ·rw[QT,Zai h];have hsw2:i<x.aw.length:=by simp[dc]at h;omega
   have hr:=jJ hsw2;obtain⟨c2,gI⟩:=bb (x.aw.getD i default);rw[gI]at hr⊢;have w1:IntKind.i64.wrap (2*(i:Int))=2*i:=aF (by omega);have w2:IntKind.i64.wrap (2*(i:Int)+1)=2*i+1:=aF (by omega);have w3:IntKind.i64.wrap (2*(i:Int)+4)=2*i+4:=aF (by omega);refine aa.pe aC fw (rs:=Jq) (.inr ⟨_,rfl⟩) (by kernel_rfl) [] ?_;simp[Jq,w1,w2,w3,hr,hsw2,cK.enc,k48,hb,df,AK,cL,ga,Nat.add_assoc];refine⟨λn hn=>(by simp[aN]at hn), ?_⟩;rw[jT];refine Le.dV (l:=[]) aT (by omega) (by simp;omega) (by simp[bK]) ⟨⟨_,by simp;exact⟨rfl,rfl⟩,Ha (c:=⟨2*i+1,2*i+4,c2.kind,0,[]⟩) (d:=.aW) ?_,λ_=>by simp[jt]⟩,trivial⟩ (by simp);simp[ia]
  ·rw[QT,Zab (by simp[h])];exact aa.skip ⟨rfl,sQ aT BS (by omega) (by simp) (by simp[cI]) (by simp)⟩
end
def gu(a:cw)(p:Bool×List cw)(b:cw):Bool×List cw:=
 if p.1=false/\aY b a=true then(true,p.2++[if a.aH<b.aH then a else b])
 else if p.1=false/\im a b then(true,p.2++[a]++[b])
 else(p.1,p.2++[b])
def sR(a:cw)(l:List cw):Bool×List cw:=l.foldl (gu a) (false,[])
def xQ(l:List cw)(a:cw):List cw:=
 if 1099511627776<=a.aH then l else if(sR a l).1 then(sR a l).2 else(sR a l).2++[a]
section
variable{α:Type}
@[simp] def decArc_enc'(a b c d:Int)(o:List (Int×Int)):wZ [ti a,ti b,ti c,ti d,.sl (ia o)]=⟨a,b,c,d,o⟩:=w6 ⟨a,b,c,d,o⟩
@[simp] def decArc_nil'(a b c d:Int):wZ [ti a,ti b,ti c,ti d,.sl []]=⟨a,b,c,d,[]⟩:=w6 ⟨a,b,c,d,[]⟩
def ft{α:Type}(f:Nat->List α)(i m:Nat):List α:=(List.range (m-i)).flatMap λe=>f (i+e)
def ft_succ(f:Nat->List α){i m:Nat}(h:i<=m):ft f i (m+1)=ft f i m++f m:=by
 unfold ft;rw[show m+1-i=(m-i)+1 by omega,ZaR,Zcv];simp[show i+(m-i)=m by omega]
def ft_nil(f:Nat->List α)(i:Nat):ft f i i=[]:=by simp[ft]
def NS(x:Input)(m t:Nat):Int:=(x.aw.getD m default).read.getD t default
def rA(x:Input)(i m t:Nat):List cw:=if m<x.aw.length/\0<=NS x m t then [⟨2*i,2*m+2,t,zS (og x i m) (NS x m t),gz (m-i)++[(1,(t:Int))]⟩]else []
def rS(x:Input)(i m:Nat):List cw:=if dc x m then [⟨2*i,2*m+1,(x.aw.getD (m+1) default).kind,zS (og x i m) x.swap,gz (m-i)++[(4,0)]⟩]else []
def rM(x:Input)(i m:Nat):List cw:=ft (rA x i m) 0 x.insert.length++rS x i m
def rT(x:Input)(i:Nat):List cw:=if dc x i then [⟨2*i+1,2*i+4,(x.aw.getD i default).kind,0,[]⟩]else []
def rI(x:Input)(i:Nat):List cw:=ft (rM x i) i (x.aw.length+1)++rT x i
def iT(x:Input)(i m t:Nat):List cw:=[⟨2*i,2*m,t,zS (og x i m) (x.insert.getD t default),gz (m-i)++[(3,(t:Int))]⟩]
def iM(x:Input)(i m:Nat):List cw:=ft (iT x i m) 0 x.insert.length
def iI(x:Input)(i:Nat):List cw:=ft (iM x i) i (x.aw.length+1)
def kJ(l cs:List cw):List cw:=cs.foldl xQ l
def vY(l cs ds:List cw):kJ l (cs++ds)=kJ (kJ l cs) ds:=by simp[kJ]
def jo(x:Input):List cw:=kJ (kJ [] (ft (rI x) 0 (x.aw.length+1))) (ft (iI x) 0 (x.aw.length+1))
def zU(x:Input)(k:Nat):bO:=(List.range (2*x.aw.length+1)).map λs=>if s<k then(if s % 2=0 then og x (s/2) x.aw.length else 1099511627776)else 0
def ci(x:Input):aV:=⟨2*x.aw.length+1,jo x,zU x (2*x.aw.length+1)⟩
def Jy(a:cw)(p:Bool×List cw)(b:cw):(gu a p b).2.length+p.1.toNat<=p.2.length+1+(gu a p b).1.toNat:=by
 unfold gu;cases hp:p.1 with
 |true=>simp
 |false=>
  simp only[true_and,Bool.toNat_false];split
  ·simp
  ·split<;>simp
def MA(a:cw)(l:List cw):(sR a l).2.length<=l.length+(sR a l).1.toNat:=by
 have key:∀(l:List cw) (p:Bool×List cw),(l.foldl (gu a) p).2.length+p.1.toNat<=p.2.length+l.length+(l.foldl (gu a) p).1.toNat:=by
  intro l;induction l with
  |nil=>intro p;simp
  |cons b l ih=>
   intro p;simp only[ZaN,Za5];have h:=ih (gu a p b);have hs:=Jy a p b;omega
 have h:=key l (false,[]);simpa [sR]using h
def putL_len(l:List cw)(a:cw):(xQ l a).length<=l.length+1:=by
 have h:=MA a l;unfold xQ;split
 ·omega
 ·split
  ·rename_i hd;rw[hd]at h;simpa using h
  ·rename_i hd;simp only[Zc3]at hd;rw[hd]at h;simp at h⊢;omega
def Fv(cs:List cw):∀l:List cw,(kJ l cs).length<=l.length+cs.length:=by
 induction cs with
 |nil=>intro l;simp[kJ]
 |cons c cs ih=>
  intro l;have h1:=ih (xQ l c);have h2:=putL_len l c;have e:kJ l (c::cs)=kJ (xQ l c) cs:=rfl;rw[e];simp only[Za5];omega
def rA_len(x:Input)(i m t:Nat):(rA x i m t).length<=1:=by unfold rA;split<;>simp
def rS_len(x:Input)(i m:Nat):(rS x i m).length<=1:=by unfold rS;split<;>simp
def rT_len(x:Input)(i:Nat):(rT x i).length<=1:=by unfold rT;split<;>simp
def AR{f:Nat->List α}{B:Nat}(h:∀k,(f k).length<=B)(i m:Nat):(ft f i m).length<=(m-i)*B:=by
 unfold ft;have:∀k,((List.range k).flatMap λe=>f (i+e)).length<=k*B:=by
  intro k;induction k with
  |zero=>simp
  |succ k ih=>
   rw[ZaR,Zcv,ZaK,Nat.succ_mul];have:=h (i+k);simp only[Zbt,List.flatMap_nil,ZaC];omega
 exact this _
def rM_len(x:Input)(i m:Nat)(h:x.insert.length<=100):(rM x i m).length<=101:=by
 unfold rM;have h1:=AR (rA_len x i m) 0 x.insert.length;have h2:=rS_len x i m;rw[ZaK];omega
def rI_len(x:Input)(i:Nat)(h:x.insert.length<=100)(hn:x.aw.length<=60):(rI x i).length<=7000:=by
 unfold rI;have h1:=AR (f:=rM x i) (B:=101) (λk=>rM_len x i k h) i (x.aw.length+1);have h2:=rT_len x i;rw[ZaK];omega
def iM_len(x:Input)(i m:Nat)(h:x.insert.length<=100):(iM x i m).length<=100:=by
 unfold iM;have h1:=AR (f:=iT x i m) (B:=1) (λk=>by simp[iT]) 0 x.insert.length;omega
def iI_len(x:Input)(i:Nat)(h:x.insert.length<=100)(hn:x.aw.length<=60):(iI x i).length<=7000:=by
 unfold iI;have h1:=AR (f:=iM x i) (B:=100) (λk=>iM_len x i k h) i (x.aw.length+1);omega
end
open Go.DM Go.DM.Ve
section
variable(good:aK->Prop)(cmpF:aK->aK->Int)
abbrev zR(x y:aK):Bool:=decide (cmpF x y<0)
variable{good cmpF}
end
def qY:Nat:=1000000000
section
variable{al:List cw}
def cN(a:cw):aK:=[ti a.f,ti a.t,ti a.term]
def tu(r:aK):Prop:=∃f t x:Int,r=[ti f,ti t,ti x]
def ko(r:aK):Int×Int×Int:=(dH (r.getD 0 (ti 0)),dH (r.getD 1 (ti 0)),dH (r.getD 2 (ti 0)))
def lt3(a b:Int×Int×Int):Prop:=a.1<b.1\/(a.1=b.1/\(a.2.1<b.2.1\/(a.2.1=b.2.1/\a.2.2<b.2.2)))
def or3(a b c d e f:Int):UP [tG a d,tG b e,tG c f]<0↔lt3 (a,b,c) (d,e,f):=by
 simp only[UP,tG,lt3];by_cases h1:a<d
 ·simp[h1]
 ·by_cases h2:d<a
  ·have:a≠d:=by omega
   simp[h1,h2,this]
  ·have:a=d:=by omega
   subst this;by_cases h3:b<e
   ·simp[h3]
   ·by_cases h4:e<b
    ·have:b≠e:=by omega
     simp[h3,h4,this]
    ·have:b=e:=by omega
     subst this;by_cases h5:c<f
     ·simp[h5]
     ·by_cases h6:f<c
      ·have:¬c<f:=by omega
       simp[h5,h6]
      ·simp[h5,h6]
def UQ(x y:aK):zR fa x y=true↔lt3 (ko x) (ko y):=by
 simp only[zR,Zau];exact or3 _ _ _ _ _ _
def u7(x y:aK):zR fa x y=false↔¬lt3 (ko x) (ko y):=by
 rw[<-UQ];simp
def Kh:SWO (zR fa):=by
 refine⟨λx=>?_,λx y z h1 h2=>?_,λx y z h1 h2=>?_⟩
 ·rw[u7];unfold lt3;omega
 ·rw[UQ]at h1 h2⊢;unfold lt3 at h1 h2⊢;omega
 ·rw[u7]at h1 h2⊢;unfold lt3 at h1 h2⊢;omega
def eqvK{x y:aK}(h:rR (zR fa) x y=true):ko x=ko y:=by
 simp only[rR,Zam,Zbf,u7]at h;unfold lt3 at h;generalize ko x=p at h⊢;generalize ko y=q at h⊢;obtain⟨a1,a2,a3⟩:=p;obtain⟨b1,b2,b3⟩:=q;simp only[Zav]at h⊢;omega
def AQ{x y:aK}(hx:tu x)(hy:tu y)(h:ko x=ko y):x=y:=by
 obtain⟨a,b,c,rfl⟩:=hx;obtain⟨d,e,f,rfl⟩:=hy;simp[ko,dH]at h;simp[h]
def Jx{l:List (aK)}(hg:∀x∈l,tu x)(hn:l.Nodup)(z:aK):(l.filter (rR (zR fa) z)).length<=1:=by
 have Gf:(l.filter (rR (zR fa) z)).Nodup:=hn.filter _;have d0:∀x∈l.filter (rR (zR fa) z),tu x/\ko x=ko z:=by
  intro x hx;rw[Zbj]at hx;exact⟨hg x hx.1,(eqvK hx.2).symm⟩
 match hl:l.filter (rR (zR fa) z),Gf,d0 with
 |[],_,_=>simp
 |[a],_,_=>simp
 |a::b::l,Gf,d0=>
  exfalso;have h1:=d0 a (by simp);have h2:=d0 b (by simp);have:=AQ h1.1 h2.1 (h1.2.trans h2.2.symm);subst this;simp at Gf
def Py{l1 l2:List (aK)}(hp:l1.Perm l2)(hg:∀x∈l2,tu x)(hn:l2.Nodup):kj (zR fa) l1=kj (zR fa) l2:=by
 refine KS Kh (rY Kh l2) λx=>?_;rw[yy Kh];have h1:=hp.filter (rR (zR fa) x);have h2:=Jx hg hn x;cases h:l2.filter (rR (zR fa) x)with
 |nil=>rw[h]at h1;exact(List.Perm.eq_nil h1).symm
 |cons a t=>
  rw[h]at h1 h2;have:t=[]:=by cases t with
   |nil=>rfl
   |cons b t=>simp at h2
  subst this;exact(List.perm_singleton.1 h1).symm
def rX{a b:cw}:cN a=cN b↔aY a b=true:=by simp[cN,aY]
def PA(h:(al.map cN).Nodup)(a:cw):((wv al a).map cN).Nodup:=by
 unfold wv;split
 ·cases hf:al.findIdx? (aY a)with
  |none=>
   simp only;rw[ZaZ,Zb7];refine⟨h,by simp, ?_⟩;intro x hx y hy;simp only[ZaA,ZbL,Zan]at hy;subst hy;obtain⟨b,hb,rfl⟩:=Zak.1 hx;intro e;rw[Zb9]at hf;have:=hf b hb;rw[rX.1 e.symm]at this;cases this
  |some i=>
   simp only;split
   ·have hi:=vF hf;rw[Zbm]at hf;have hk:cN a=cN al[i]:=rX.2 hf.2.1;rw[Zcd,hk];have:(al.map cN).set i (cN al[i])=al.map cN:=by
     apply Zbw
     ·simp
     ·intro k h1 h2;rw[Zb1];split
      ·rename_i e;subst e;simp
      ·rfl
    rw[this];exact h
   ·exact h
 ·exact h
def xS(cs:List cw):∀{al:List cw},(al.map cN).Nodup->((cI al cs).map cN).Nodup:=by
 induction cs with
 |nil=>intro al h;exact h
 |cons c cs ih=>intro al h;exact ih (PA h c)
def qN(al:List cw)(r:aK):cw:=(al.find? (aY ⟨(ko r).1,(ko r).2.1,(ko r).2.2,0,[]⟩)).getD default
def find_idx{α:Type}(p:α->Bool)(l:List α):l.find? p=(l.findIdx? p).bind λi=>l[i]? :=by
 induction l with
 |nil=>rfl
 |cons x l ih=>
  rw[Za6,Zbh];cases h:p x with
  |true=>simp
  |false=>simp[ih];cases l.findIdx? p<;>simp
def u5{a:cw}(h:a∈al):aY a (qN al (cN a))=true/\qN al (cN a)∈al/\∃i,qP a.key (lc al)=some (i,(qN al (cN a)).key,.v (.agg (qN al (cN a)).enc)):=by
 have e:aY ⟨(ko (cN a)).1,(ko (cN a)).2.1,(ko (cN a)).2.2,0,[]⟩=aY a:=by
  funext b;simp[aY,ko,cN,dH]
 unfold qN;rw[e,yD,TV,find_idx];cases hf:al.findIdx? (aY a)with
 |none=>
  rw[Zb9]at hf;have:=hf a h;simp[aY]at this
 |some i=>
  have hi:=vF hf;rw[Zbm]at hf;simp only[Zcr,gU,Zas hi,Za8,Zbd];exact⟨hf.2.1,Zbe hi,i,rfl⟩
def km(al:List cw):List cw:=(kj (zR fa) (al.map cN)).map (qN al)
def Wl{sn:cO}(h1:sn.Nodup)(h2:∀i∈sn,i<al.length)(h3:∀i,i<al.length->i∈sn):(sn.map λi=>cN (al.getD i default)).Perm (al.map cN):=by
 have hp:sn.Perm (List.range al.length):=(List.perm_ext_iff_of_nodup h1 List.nodup_range).2 λi=>by
  rw[Za2];exact⟨h2 i,h3 i⟩
 have:=hp.map λi=>cN (al.getD i default);refine this.trans (List.Perm.of_eq ?_);apply Zbw
 ·simp
 ·intro k k1 k2;simp at k2;simp[k2]
end
end Go.Proofs
