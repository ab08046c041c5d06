/- Part of the proof. Conditions: none. -/
import Derived.Test.YtnhpkhblghgpdaaGreatDoorXad
import Derived.Shelf.SlSortCmp.NoneTotal
import Derived.ChangeArms
import Derived.ChangeStays
import Derived.ChangeSame
import Derived.RowKit
import Derived.OpenShut
import Derived.Test.YtnhpkhblghgpdaaGreatDoorProg
import Derived.KernelRfl
set_option linter.unusedSectionVars false
set_option linter.unusedSimpArgs false
set_option linter.unusedVariables false
set_option linter.defProp false
set_option maxRecDepth 100000
namespace Go.DM
open Go.RowKit
section
variable{ab:bq}{r:Nat}{P:Program}
variable [bI] [dL]
abbrev tI(n:Int):T:=.int .i64 n
abbrev ov(k:Nat):Type:={l:bO//l.length=k}
instance(k:Nat):Inhabited (ov k):=⟨⟨List.replicate k 0,by simp⟩⟩
def qA{k:Nat}(x:ov k):List Value:=x.1.map (Value.int .i64)
def iN{k:Nat}(x:ov k):aK:=x.1.map tI
def VP{w w':World}(h:vO w.heap.size w w'):∃q os',w'=Go.Sort.grow (w.drewN q) os':=by
 refine⟨w'.drawn-w.drawn,w'.heap.extract w.heap.size w'.heap.size, ?_⟩;obtain⟨⟨h1,h2,h3,h4,h5⟩,h6⟩:=h;cases w with
 |mk heap tape drawn os output=>
  cases w' with
  |mk Yu tape' drawn' os' output'=>
   simp only at h1 h2 h3 h4 h5 h6;subst h1 h2 h3;simp only[Go.Sort.grow,World.drewN,World.mk.injEq,and_true,true_and];refine⟨?_,by omega⟩;apply Array.ext_getElem?;intro k;rw[Array.getElem?_append];split
   ·rename_i hk;exact h5 k hk
   ·rename_i hk;rw[Array.getElem?_extract];split
    ·rw[show heap.size+(k-heap.size)=k by omega]
    ·rename_i h7;rw[Array.getElem?_eq_none (by omega)]
def vo{w:World}{W:fo}:∀l:bO,bf w W (l.map tI) (l.map (Value.int .i64))
 |[]=>by simp[bf]
 |n::l=>by
  simp only[ZaA,bf];exact⟨_,_,rfl,rfl,by simp[bj],vo l⟩
def yu{w:World}{W:fo}:∀{l:bO} {vs:List Value},bf w W (l.map tI) vs->vs=l.map (Value.int .i64)
 |[],vs,h=>by simpa [bf]using h
 |n::l,vs,h=>by
  simp only[ZaA,bf]at h;obtain⟨v,vs',rfl,_,h1,h2⟩:=h;simp only[bj]at h1;rw[h1,yu h2];rfl
def BB{α:Type}{sz:Nat}:∀{av:List (List α)} {j:Nat},(∀r∈av,r.length=sz)->av.flatten[j]? =(av[j/sz]?).bind λr=>r[j % sz]?
 |[],j,_=>by simp
 |r::av,j,h=>by
  have hr:=h r (by simp);by_cases hs:sz=0
  ·subst hs;have:∀x∈r::av,x=[]:=λx hx=>Zc6.1 (h x hx);have h2:(r::av).flatten=[]:=by
    rw[List.flatten_eq_nil_iff];exact this
   rw[h2];simp[this r (by simp)]
  rw[Zbu,ZcM];split
  ·rename_i hj;rw[hr]at hj;rw[Nat.div_eq_of_lt hj,ZcH hj];simp
  ·rename_i hj;rw[hr]at hj;rw[hr,BB λx hx=>h x (by simp[hx])];obtain⟨i,rfl⟩:∃i,j=i+sz:=⟨j-sz,by omega⟩;rw[Zcz,Nat.add_div_right i (by omega),Nat.add_mod_right];rw[Zbb]
def DZ{k:Nat}(D:List (ov k)):(Go.Sort.flatK qA k D.toArray).toList=((D.map (·.1)).flatten).map (Value.int .i64):=by
 have hl:∀r∈D.map (·.1),r.length=k:=by
  intro r hr;obtain⟨x,_,rfl⟩:=Zak.1 hr;exact x.2
 have hflen:(D.map (·.1)).flatten.length=D.length*k:=by
  clear hl;induction D with
  |nil=>simp
  |cons x D ih=>simp only[ZaA,Zbu,ZaK,x.2,ih,Za5,Nat.add_mul];omega
 apply ZbN;intro j;by_cases hj:j<D.length*k
 ·have Cd:0<k:=by
   cases k with
   |zero=>simp at hj
   |succ k=>omega
  have h1:j/k<D.length:=Nat.div_lt_of_lt_mul (by rwa [Nat.mul_comm]);have h2:j % k<k:=Nat.mod_lt _ Cd;have hsz:j<(Go.Sort.flatK qA k D.toArray).size:=by simpa using hj
  rw[Zbx,BB hl,Zbx,Zas h1];simp only[Za8,Zcr];have h3:=Go.Sort.get_flatK qA k D.toArray j (by simpa using hj);rw[Array.getElem?_toList,ZbD hsz];rw[getElem!_pos _ j hsz]at h3;rw[h3];have h4:D.toArray[j/k]! =D[j/k]:=by rw[getElem!_pos _ _ (by simpa using h1)];simp
  rw[h4];have h5:j % k<(D[j/k]).1.length:=by rw[(D[j/k]).2];exact h2
  unfold qA;rw[getElem!_pos _ _ (by simpa using h5)];simp[h5]
 ·rw[Zbs (by simpa using hj),Zbs (by rw[Zbn,hflen];omega)]
def GN{k:Nat}(D:List (ov k)):(D.map iN).flatten=((D.map (·.1)).flatten).map tI:=by
 induction D with
 |nil=>rfl
 |cons x D ih=>simp only[ZaA,Zbu,ih,ZaZ];rfl
def Oz{o:Ob}(h:ab r=some o):ew ab r o=ab:=by
 funext k;rw[OA];split
 ·rename_i e;rw[e,h]
 ·rfl
def Yv{g:FuncId}{k:Nat}{x y:ov k}{c:Int}(hg: @bl bI.none P g [.agg (iN x),.agg (iN y)] (tI c))(w:World):
  Calls P g (#[.agg (qA x).toArray,.agg (qA y).toArray]++ #[]) w λe w'=>e=.returned (.int .i64 c)/\∃q os',w'=Go.Sort.grow (w.drewN q) os':=by
 rw[ZbJ];refine(@bl.calls bI.none Qr P g _ _ hg w #[.agg (qA x).toArray,.agg (qA y).toArray] (F2.empty _ _) ?_).mono ?_
 ·show fN w (λ_=>False) [.agg (iN x),.agg (iN y)] [.agg (qA x).toArray,.agg (qA y).toArray];simp only[fN];exact⟨_,_,rfl,⟨_,rfl,vo x.1⟩,_,_,rfl,⟨_,rfl,vo y.1⟩,rfl⟩
 ·rintro e' w' ⟨v,rfl,hb,hv⟩;simp only[bj]at hv;subst hv;exact⟨rfl,VP hb⟩
def BC{k:Nat}(cf:ov k->ov k->Int)(D:List (ov k)):List (ov k):=D.mergeSort λx y=> !(Go.Proofs.ltOf cf) y x
open Go.Proofs Go.Sort in
def KR{ρ:Go.Shelf.Ren}(Lay:SlLaysF0.n6 P ρ){k:Nat}(hk:0<k)(aE:∀w,(isAgg (ρ.t 24)).run P w=.ok true w)(zE:∀w,(Go.sizeOf (ρ.t 24)).run P w=.ok k w)
  {g:FuncId} {cf:ov k->ov k->Int} (hg:∀x y:ov k, @bl bI.none P g [.agg (iN x),.agg (iN y)] (tI (cf x y))) (hO:Go.Sort.SWO (ltOf cf)) (hT:∀x y,(ltOf cf) x y=false->(ltOf cf) y x=false->x=y)
  (D:List (ov k)) {bD e:Nat} (gH:ab r=some (.arr bD e k (D.map iN))) (dM:D.length<4611686018427387904):
  aR P (ρ.f 6) [.bA r bD,.v (.fn (.func g) [])] ab ⟨True,.v (.eo []),ew ab r (.arr bD e k ((BC cf D).map iN))⟩:=by
 have eg:∀args w,(callFunc g args).run P w=.ok (.enter g args) w:=by
  obtain⟨fn,h1,h2,h3⟩:= @bl.entry bI.none _ _ _ _ (hg default default);cases hb:fn.body with
  |none=>rw[hb]at h3;cases h3
  |some c=>exact enters_of h1 (by simpa using h2) hb
 refine⟨?_,λbase W M w0 w L cA hRO hr=>?_⟩
 ·obtain⟨nm,hn,hf⟩:=Lay.f6;exact⟨_,hf,by simpa using hn,rfl⟩
 obtain⟨sg,xV⟩:=hr;obtain⟨x,f,xM⟩:∃x f,cA.toList=[x,f]:=by
  match xM:cA.toList,sg with
  |[x,f],_=>exact⟨x,f,rfl⟩
 have hvals:cA= #[x,f]:=Array.ext' (by simpa using xM);subst hvals;have hx:=xV 0 _ x rfl rfl;have hf:=xV 1 _ f rfl rfl;simp only[aA,bj]at hf;obtain⟨cv,rfl,hcv⟩:=hf;have hcv:cv= #[]:=by
  simp only[bf]at hcv;exact Array.ext' (by simpa using hcv)
 subst hcv;simp only[aA]at hx;obtain⟨_,cg,e',iG,eN,hob',OB,F5⟩:=hx;rw[gH]at hob';cases hob';have F5:=F5 rfl;subst F5;obtain⟨hsz,eF,hm,hal⟩:=hRO.ob r _ gH;have vP:(BC cf D).length=D.length:=List.length_mergeSort ..;rcases hal with⟨KH,a,ha⟩|⟨g',cap,cur,hv,hp,hh,jy,sc,HN,gQ⟩
 ·rw[ha];refine(AnyF.slices_SortFunc_none Lay a 0 _ w).mono ?_;rintro e' w' ⟨rfl,rfl⟩;have hD:D=[]:=by simpa using KH
  subst hD;have hs:BC cf []=[]:=by simp[BC]
  rw[hs,Oz gH];exact⟨_,L,rfl,hRO,gP.cQ (dg.refl _ _),by simp[aA,bj,fN]⟩
 ·rw[hv];have hgl:g'<w.heap.size:=(Zap.1 hh).1;rw[GN]at gQ;have mE:=yu gQ;rw[<-DZ]at mE;have hcellG:∀j,w.cell? ⟨g',j,none⟩=cur[j]? :=by
   intro j;simp only[World.cell?,hh];rfl
  have hH:HoldsK qA k w g' 0 D.toArray:=by
   intro j hj;refine⟨?_, ?_⟩
   ·rw[Zbi,hcellG];have h1:=congrArg (λl:List Value=>l[j]?) mE;have hj2:j<(D.map iN).length*k:=by simpa using hj
    rw[ZaQ,Zai hj2,Array.getElem?_toList,Array.getElem?_toList,ZbD hj]at h1;rw[h1,getElem!_pos _ j hj];rfl
   ·simp only[World.frozen?,hh];simp
  have hlays:CmpLays P g #[] qA k cf g' 0 D.toArray.size w:=by
   intro m os dk hdk x y;obtain⟨w1,Xd⟩:=bb (sortWorldK qA k w g' 0 m dk os);rw[Xd];exact Yv (hg x y) w1
  have sh:=AnyQ.slices_SortFunc_total Lay k aE zE qA (λx=>by simp[qA,x.2]) (λx v hv=>by
   simp only[qA,Zak]at hv;obtain⟨n,_,rfl⟩:=hv;rfl) cf hO g #[] g' 0 cap D.toArray w eg hlays hH hgl (by simpa using dM) hT
  rw[show(D.map iN).length=D.toArray.size by simp];refine sh.mono ?_;rintro e' w' ⟨rfl,n,os,rfl⟩;refine⟨_,L,rfl, ?_⟩;obtain⟨S,hS⟩:=bb (BC cf D);have NF:(D.toArray.toList.mergeSort λx y=> !(ltOf cf) y x).toArray=S.toArray:=by rw[<-hS];rfl
  rw[NF];rw[hS]at vP⊢;obtain⟨F,hF⟩:=bb (flatK qA k S.toArray);have hFs:F.size=D.length*k:=by rw[<-hF];simp[vP]
  have hFl:F.toList=((S.map (·.1)).flatten).map (Value.int .i64):=by rw[<-hF];exact DZ S
  have oj:(D.map iN).length*k<=cur.size:=by rw[HN];exact Zbk k jy
  have hcs2:D.length*k<=cur.size:=by simpa using oj
  have Yw:∀b:Nat,b<w.heap.size->(sortWorldK qA k w g' 0 n S.toArray os).heap[b]? =if b=g' then some (.cells (Go.Sort.putCells id 0 F cur) e (0,0))else w.heap[b]? :=by
   intro b hb;have fH:b<(putRowK qA k (Go.Sort.ahead w n) g' 0 S.toArray).heap.size:=by
    simp[Go.Sort.putRowK,Go.Sort.putRow,Go.Sort.mapBlock,Go.Sort.ahead,hb]
   simp only[sortWorldK,Go.Sort.grow];rw[ZcZ fH];simp only[putRowK,Go.Sort.putRow,Go.Sort.mapBlock,Go.Sort.ahead,hF,Array.getElem?_modify];by_cases e1:b=g'
   ·subst e1;rw[Zai rfl,Zai rfl,hh];rfl
   ·rw[Zab (λh=>e1 h.symm),Zab e1]
  have v6:w.heap.size<=(sortWorldK qA k w g' 0 n S.toArray os).heap.size:=by
   simp[sortWorldK,Go.Sort.grow,putRowK,Go.Sort.putRow,Go.Sort.mapBlock,Go.Sort.ahead]
  have iu:L.own r (.arr bD e k (D.map iN))=some g':=by simp[Loc.own,hv,aX,ZaJ.1 hp]
  have oV:∀j,(Go.Sort.putCells id 0 F cur)[j]? =if j<F.size then F[j]? else cur[j]? :=by
   intro j;simp only[Go.Sort.putCells,Array.getElem?_mapIdx];by_cases hj:j<F.size
   ·rw[Zai hj,ZbD (show j<cur.size by omega),ZbD hj];simp[hj]
   ·rw[Zab hj];cases cur[j]? with
    |none=>rfl
    |some v=>simp;intro h;omega
  have xK:Fr base M w0 (sortWorldK qA k w g' 0 n S.toArray os):=by
   refine hRO.fr.trans ⟨rfl,rfl,rfl,ZaP hRO.fr.jq hRO.fr.size,v6,λb hb HP=>?_,by simp[sortWorldK,Go.Sort.grow,putRowK,Go.Sort.putRow,Go.Sort.mapBlock,Go.Sort.ahead]⟩;have hbw:b<w.heap.size:=Zbz hb (ZaP hRO.fr.jq hRO.fr.size);rw[Yw b hbw,Zab];rintro rfl;rcases hm b (by simp[hv,aX,ZaJ.1 hp])with h|h
   ·omega
   ·exact HP h
  have VN:=ct.put (r:=r) (o':=.arr bD e k (S.map iN)) (L':=L) hRO xK v6 (λ_ _=>⟨rfl,rfl⟩) rfl
   (λb hb bT=>by rw[Yw b hb,Zab];rintro rfl;exact bT _ gH iu)
   (λb hb=>.inl ⟨_,gH,hb⟩) (λo' iA tU=>by rw[gH]at iA;cases iA;exact Zar rfl tU)
   (λcg e' iG eN h=>by rw[gH]at h;cases h;exact⟨bD,e,k,_,rfl,Zaf _,λ_=>⟨rfl,rfl,by simp[vP]⟩⟩)
   (λeZ=>by
    refine⟨hsz,λx hx=>?_,hm,.inr ⟨g',cap,Go.Sort.putCells id 0 F cur,by rw[hv];simp[vP],hp,by rw[Yw g' hgl,Zai rfl],by simpa [vP]using jy,sc,by simpa [Go.Sort.putCells]using HN, ?_⟩⟩
    ·obtain⟨y,_,rfl⟩:=Zak.1 hx;simp[iN,y.2]
    ·rw[GN];have e1:(Go.Sort.putCells id 0 F cur).toList.take ((S.map iN).length*k)=((S.map (·.1)).flatten).map (Value.int .i64):=by
      rw[<-hFl];apply ZbN;intro j;rw[ZaQ,Zbn,vP,Array.getElem?_toList,Array.getElem?_toList,oV,hFs];by_cases hj:j<D.length*k
      ·simp[hj]
      ·rw[Zab hj,Array.getElem?_eq_none (by omega)]
     rw[e1];exact vo _)
  rw[show cG ab (some (r,.arr bD e k (S.map iN)))=ew ab r (.arr bD e k (S.map iN))from rfl]at VN;exact⟨VN.1,VN.2,by simp[aA,bj,fN]⟩
end
end Go.DM
namespace Go.DM
open Go.RowKit
variable [bI] [dL]
section
variable{P:Program}{nt:Nat}{Γ:pI}{Q:Exit->l8->Prop}{tm:dw}{ob:bq}{aJ low:Nat}{td:List (aK)}
def YS(P:Program)(Γ:pI)(aJ:Nat)(r:RO)(s:RS)(K:RS->Prop):Prop:=
 (s.ab (nm aJ r)=none/\cJ Γ aJ r s/\K (dW Γ aJ r s))\/
 (∃f args dst af N N' Post,r=⟨.call f args,dst,none,af,none⟩/\sE P f (args.map (·.ev s.tmps)) s.ab N N' Post/\∀val nJ,Post val nJ->K ⟨cU s.tmps dst val,nJ,s.todo⟩)
def YS.of{r:RO}{s:RS}{K:RS->Prop}(h:s.ab (nm aJ r)=none)(e:fc Γ aJ [r] s K):YS P Γ aJ r s K:=
 .inl ⟨h,by obtain⟨h1,h2⟩:=iK _ _ _ e;exact⟨h1.1,h2⟩⟩
def K6(D:Nat->Bool)(i:Nat):Nat->Bool:=λj=>if j=i then true else D j
def aa.regI(aC:ay P Γ)(hm:P.follows .mixedOrders=true){draw:Bool}{rs:ai}{d:DC}(hd:d=.region draw (rs.map bare))(H7:rs.all (l9 nt)=true)(ks:cO)(N':Nat)(I:(Nat->Bool)->RS->Prop)
  (h0:(∀t,aJ<=t->ob t=none)->I (λ_=>false) ⟨tm,ob,td⟩)
  (hs:∀D i r s,rs[i]? =some r->D i=false->(∀e∈r.after,D e=true)->(∀j y,rs[j]? =some y->D j=true->∀e∈y.after,D e=true)->I D s->YS P Γ aJ r s (I (K6 D i)))
  (he:∀D s,(∀i,i<rs.length->D i=true)->I D s->(∀t,N'<=t->s.ab t=none)/\Q .normal ⟨look (nR ks s.tmps),s.ab,N',low,s.todo⟩)
  (hdraw:draw=true):aa P nt d Q ⟨tm,ob,aJ,low,td⟩:=by
 subst hd hdraw;refine⟨λc hc=>?_⟩;obtain⟨id,ops,rfl,oj,hok⟩:=o8 hc;have hcs':fO P ops=some (rs.map bare):=oj;obtain⟨dM,mF⟩:=lL hcs';simp only[ee,Zam,Zcs,Bool.false_or]at hok;obtain⟨⟨d0,Vx⟩,hpr⟩:=hok;obtain⟨hlt,_⟩:=DI hpr
 let g:Nat->RO:=λi=>(rs[i]?).getD ⟨.qu (.gN .undef),none,none,[],none⟩
 have gg:∀i,i<ops.size->rs[i]? =some (g i):=λi hi=>by
  have:i<rs.length:=by omega
  simp[g,this]
 have hgc:∀(i:Nat) (o:Oper),ops[i]? =some o->d9 P ops o=some (bare (g i)):=λi o ho=>by
  obtain⟨r,h1,h2⟩:=mF i o ho;have hi:i<ops.size:=(Zap.1 ho).1;rw[gg i hi]at h1;rw[ZbU h1];exact h2
 have hro:∀i,i<ops.size->l9 nt (g i)=true:=λi hi=>by
  exact ZaU.1 H7 _ (Zax (gg i hi))
 have Ai:∀(i:Nat) (listed:Array Bool),i∈Region.ready .any ops listed↔listed.getD i true=false/\i<ops.size/\∀e∈(g i).after,listed.getD e false=true:=by
  intro i listed;rw[mem_ready];constructor
  ·rintro⟨h0,o,ho,h⟩;refine⟨h0,(Zap.1 ho).1,λe he=>?_⟩;have h4:(g i).after=_:=(fQ (hgc i o ho)).2.2.2;rw[h4]at he;simp only[Zak,Zbj]at he;obtain⟨x,⟨hx,hb⟩,rfl⟩:=he;exact h x (by simpa using hx) hb
  ·rintro⟨h0,hi,h⟩;have ho:ops[i]? =some ops[i]:=by simp[hi]
   refine⟨h0,ops[i],ho,λe he hb=>h e.on ?_⟩;have h4:(g i).after=_:=(fQ (hgc i _ ho)).2.2.2;rw[h4];exact Zak.2 ⟨e,Zbj.2 ⟨by simpa using he,hb⟩,rfl⟩
 have hlt':∀i,i<ops.size->∀e∈(g i).after,e<i:=λi hi e he=>hlt i (bare (g i)) (by rw[Zbx,gg i hi];rfl) e he;intro n κ Xg w L yb r;have wS:∀t,aJ<=t->ob t=none:=λt ht=>r.fresh t ht;have setT:∀{l:Array Bool} {i j:Nat} {b:Bool},l.size=ops.size->i<ops.size->(l.setIfInBounds i true).getD j b=if j=i then true else l.getD j b:=λ{l i j b} hs hi=>by
  rw[ZaH,ZbZ,ZaH];by_cases e:j=i
  ·subst e;simp[hs,hi]
  ·have:¬i=j:=λh=>e h.symm;simp[e,this]
 have NA:∀i (hi:i<ops.size),ops[i]? =some ops[i]:=λi hi=>by simp[hi]
 have main:∀(fuel:Nat) (l:Array Bool),l.size=ops.size->(rem ops.size l).length=fuel->(∀j,j<ops.size->l.getD j false=true->∀e∈(g j).after,l.getD e false=true)->∀(s:RS) (a:Act) (w:World) (L:Loc),I (λj=>l.getD j false) s->eP κ nt s a w L->
   wpAnyIn (iV κ.ro) n P .any ops (λe a w=>∃dm L',Q e dm/\Ie κ nt dm a w L') fuel l a w:=by
  intro fuel;have bZ:∀(l:Array Bool),l.size=ops.size->Region.ready .any ops l=[]->∀(s:RS) (a:Act) (w:World) (L:Loc),I (λj=>l.getD j false) s->eP κ nt s a w L->∃dm L',Q .normal dm/\Ie κ nt dm a w L':=by
   intro l hl hr s a w L hI hR;have d0:∀i,i<ops.size->l.getD i false=true:=by
    intro i;induction i using Nat.strongRecOn with
    |_ i ih=>
     intro hi;cases hv:l.getD i false with
     |true=>rfl
     |false=>
      have:i∈Region.ready .any ops l:=(Ai i l).2 ⟨by rw[<-YN (by omega) false true];exact hv,hi,λe he=>ih e (hlt' i hi e he) (by have:=hlt' i hi e he;omega)⟩;rw[hr]at this;cases this
   obtain⟨xK,hQ⟩:=he _ s (λi hi=>d0 i (by omega)) hI;obtain⟨L4,R4⟩:=Le.we (st:=⟨s.tmps,s.ab,N',low,s.todo⟩) (mG s.tmps ks) κ nt a w L ⟨hR,xK,r.low,r.it⟩;exact⟨_,L4,hQ,R4⟩
  induction fuel with
  |zero=>
   intro l hl hrem aT s a w L hI hR;have YT:Region.ready .any ops l=[]:=by
    cases hr:Region.ready .any ops l with
    |nil=>rfl
    |cons i t=>
     have hi:i∈Region.ready .any ops l:=by rw[hr];simp
     obtain⟨h1,h2,_⟩:=(Ai i l).1 hi;have:i∈rem ops.size l:=by unfold rem;rw[Zbj];exact⟨Za2.2 h2,by rw[h1];rfl⟩
     rw[Zc6.1 hrem]at this;cases this
   exact⟨YT,bZ l hl YT s a w L hI hR⟩
  |succ fuel ih=>
   intro l hl hrem aT s a w L hI hR;refine⟨λhr=>bZ l hl hr s a w L hI hR,λi hi=>?_⟩;obtain⟨h1,h2,h3⟩:=(Ai i l).1 hi;have Nz:l.getD i false=false:=by rw[YN (by omega) false true];exact h1
   have hl':(l.setIfInBounds i true).size=ops.size:=by simpa using hl
   have hrem':(rem ops.size (l.setIfInBounds i true)).length=fuel:=by
    have key:∀m,m<=ops.size->((List.range m).filter λj=> !(l.setIfInBounds i true).getD j true).length+(if i<m then 1 else 0)=((List.range m).filter λj=> !l.getD j true).length:=by
     intro m;induction m with
     |zero=>intro _;simp
     |succ m ihm=>
      intro hm;have:=ihm (by omega);rw[ZaR,List.filter_append,List.filter_append,ZaK,ZaK];by_cases e:i=m
      ·subst e;have c1:(l.setIfInBounds i true).getD i true=true:=by rw[setT hl h2];simp
       rw[Zab (Nat.lt_irrefl i)]at this;rw[Zai (Zcc i)];simp only[Za4,List.filter_nil,c1,h1,Zcs,Bool.not_false,ZaW,if_false,if_true,Zcj,Za5];omega
      ·have c1:(l.setIfInBounds i true).getD m true=l.getD m true:=by rw[setT hl h2,Zab (λh=>e h.symm)]
       simp only[Za4,List.filter_nil,c1];obtain⟨X,hX⟩:=bb ((if(!l.getD m true)=true then [m]else []).length);rw[hX];by_cases h:i<m
       ·rw[Zai h]at this;rw[Zai (by omega)];omega
       ·rw[Zab h]at this;rw[Zab (by omega)];omega
    have:=key ops.size (Zaf _);rw[Zai h2]at this;unfold rem at hrem⊢;omega
   have hD:(λj=>(l.setIfInBounds i true).getD j false)=K6 (λj=>l.getD j false) i:=by
    funext j;rw[setT hl h2];rfl
   have hcl':∀j,j<ops.size->(l.setIfInBounds i true).getD j false=true->∀e∈(g j).after,(l.setIfInBounds i true).getD e false=true:=by
    intro j hj hv e he;rw[setT hl h2]at hv⊢;by_cases e1:j=i
    ·subst e1;split
     ·rfl
     ·exact h3 e he
    ·rw[Zab e1]at hv;split
     ·rfl
     ·exact aT j hj hv e he
   rcases hs (λj=>l.getD j false) i (g i) s (gg i h2) Nz h3 (λj y hj hv e he=>by
     have hjs:j<ops.size:=by have:=(Zaw.1 hj).1;omega
     have:y=g j:=by rw[gg j hjs]at hj;exact(ZbU hj).symm
     rw[this]at he;exact aT j hjs hv e he) hI with⟨hf,hok,hK⟩|⟨f,args,dst,af,N,N2,Post,hr,hcl2,hK⟩
   ·refine pZ aC yb (NA i h2) (hgc i _ (NA i h2)) (hro i h2) hR hf hok λa' w' L' hR'=>?_;exact ih _ hl' hrem' hcl' _ a' w' L' (by rw[hD];exact hK) hR'
   ·refine OF yb (NA i h2) (by rw[hgc i _ (NA i h2),hr];rfl) (by rw[<-hr];exact hro i h2) hR hcl2 λa' w' L' val nJ hP hR'=>?_;exact ih _ hl' hrem' hcl' _ a' w' L' (by rw[hD];exact hK val nJ hP) hR'
 have hh:eP κ nt ⟨tm,ob,td⟩ Xg {w with drawn:=w.drawn+1} L:=by
  have hb:vO w.heap.size w {w with drawn:=w.drawn+1}:=⟨⟨rfl,rfl,rfl,Zaf _,λ_ _=>rfl⟩,Zdb _⟩;obtain⟨W,base,M,w0,dP,h0⟩:=r.r.ex;obtain⟨hO,hA⟩:=ct.grow h0.o hb;obtain⟨Ds,h1,h2,h3,h4⟩:=r.r.defers;exact⟨⟨W,base,M,w0,dP,h0.size,λt=>aA.eZ hA _ _ (h0.tmps t),hO⟩,r.r.eZ.comp hA (dP.H3 _) dP.sub.2,⟨Ds,h1,h2,λD hD=>⟨hA.dx.W8 D (h3 D hD).1,(h3 D hD).2⟩,h4⟩,r.r.bg,r.r.bZ⟩
 have xN:∀i b,i<ops.size->(Array.replicate ops.size false).getD i b=false:=λi b hi=>by rw[ZaH];simp[hi]
 have hD0:(λj=>(Array.replicate ops.size false).getD j false)=λ_=>false:=by
  funext j;rw[ZaH];by_cases h:j<ops.size
  ·simp[h]
  ·simp[h]
 refine wpIn_region_any hm (main ops.size _ (by simp) ?_ (λj hj hv=>?_) _ _ _ _ (by rw[hD0];exact h0 wS) hh)
 ·have:rem ops.size (Array.replicate ops.size false)=List.range ops.size:=by
   unfold rem;rw[List.filter_eq_self];intro i hi;rw[xN i true (Za2.1 hi)];rfl
  rw[this,Zb5]
 ·rw[xN j false hj]at hv;cases hv
end
end Go.DM
namespace Go.DM
open Go.RowKit
section
variable{f:FuncId}
variable [bI]
def OG(k:bB->bq->fI):Prop:=∀args ab,(k args ab).ok->∀x,ab x=none->(k args ab).ab x=none
abbrev yk(l:Nat)(k:bB->bq->fI)(h:OG k):dL:=⟨some (l,k),λl' k' e=>by cases e;exact h⟩
structure OH(P:Program)(f:FuncId)(args:bB)(ab:bq)(k:bB->bq->fI)(aI:bq):Prop where
 entry:Dq P f
 run:∀(l:Nat) (r s:Loop) (base:Nat) (W M:fo) (w0 w:World) (L:Loc) (cA:Array Value),H2 P l r s k base W M w0 ab L w->base<=l->w.heap[l]? =some (.loop r)->ct base W M w0 ab w L->jD w W ab L args cA.toList->
  Calls P f (#[.func (.yield l) #[] #[]]++cA) w λe B=>(∃v,e=.returned v)/\∃L' r',(r'=r\/r'=s)/\ct base W M w0 aI B L'/\gP W ab L (w.putObj l (.loop r')) aI L' B
def YO(l:Nat)(args:bB)(ab:bq)(N:Nat):l8:=⟨λj=>match j with|0=>.v (.mg (.func (.yield l) #[] #[]))|j+1=>Cc args[j]?,ab,N,N,[[]]⟩
section
variable{P:Program}{nt:Nat}
def aB.okY{d:DC}(h:aB P f nt d []){args:bB}{ab aI:bq}{k:bB->bq->fI}(hnm:OG k){N:Nat}(hN:∀r,N<=r->ab r=none)(dM:args.length+1<=nt)
  (kk:∀l, @aa _ (yk l k hnm) P nt d (λe st=>(e=.normal\/e=.ret)/\st.ab=aI) (YO l args ab N)):OH P f args ab k aI:=by
 have Aj:=h.entry;obtain⟨fn,hfn,rfl,h3,hr,_⟩:=h;obtain⟨c,hb,hc⟩:=Zac.1 h3;refine⟨Aj,λl rl sl base W M w0 w L cA hy Ox hlp hO B9=>?_⟩
 letI:=yk l k hnm
 have kk:=kk l;have hl:=B9.1;simp only[Za3]at hl;have uB:Ie ⟨W,ab,L,w,base,M,w0,none,none,some (l,rl,sl)⟩ fn.ntmps (YO l args ab N) {tmps:=(#[.func (.yield l) #[] #[]]++cA)++Array.replicate (fn.ntmps-(#[Value.func (.yield l) #[] #[]]++cA).size) Go.undef,defers:=[]} w L:=by
  refine⟨⟨⟨W,base,M,w0,⟨(λh=>by cases h),rfl,rfl,rfl,rfl⟩,by simp;omega,λj=>?_,hO⟩,
   (by
    show gP W ab L (w.putObj l (.loop rl)) ab L w;rw[World.uo hlp];exact gP.cQ (dg.refl _ _)),⟨[],rfl,Zb0,(λ_ h=>by cases h),λ_=>rfl⟩,λ_=>ZaP hO.fr.jq hO.fr.size,⟨N,hN⟩⟩,hN,hN,λh=>by cases h⟩
  simp only[YO];cases j with
  |zero=>simp only[aA,bj];exact pb (by simp)
  |succ j=>
   simp only;cases hk:args[j]? with
   |some x=>
    have hv:∃v,cA.toList[j]? =some v:=by
     have:j<cA.size:=by rw[hl];exact(Zaw.1 hk).1
     exact⟨cA[j],by simp[this]⟩
    obtain⟨v,hv⟩:=hv;have tp:(#[Value.func (.yield l) #[] #[]]++cA).toList[j+1]? =some v:=by simpa using hv
    simp only[pb tp,Cc];exact B9.2 j x v hk hv
   |none=>
    have xL:(#[Value.func (.yield l) #[] #[]]++cA).size<=j+1:=by
     have:=ZbE.1 hk;simp;omega
    simp only[Cc,aA,oG xL]
 refine callsIn_wide.1 (callsIn_of_wp_marks (n:=0) hfn hb trivial ?_);refine wpIn_mono (kk.run c hc 0 _ _ _ _ ⟨λJ hJ=>(by cases hJ),λl' r' s' hY=>(by cases hY;exact⟨Ox,hlp,k,rfl,hy⟩),λl hl=>(by cases hl)⟩ uB) ?_;rintro e a' w' ⟨dm,L',⟨he,hq⟩,r'⟩;have done:LeavesInM Fence.wide 0 P fn a'.tmps (λe B=>(∃v,e=.returned v)/\∃L' r',(r'=rl\/r'=sl)/\ct base W M w0 aI B L'/\gP W ab L (w.putObj l (.loop r')) aI L' B) a'.defers .returning w':=by
  obtain⟨Ds,h1,h2,h3,_⟩:=r'.r.defers;rw[h1];refine uA (κ:=⟨W,ab,L,w,base,M,w0,none,none,some (l,rl,sl)⟩) rfl ?_ Ds a' w' L' r'.r h1 h2 h3;intro a2 w2 L2 h4;obtain⟨W',KL,M',w0',dP,h0⟩:=h4.ex;obtain⟨_,e1,e2,e3,e4⟩:=dP
  replace h0:R0 base W M w0 fn.ntmps dm.tmps dm.ab a2 w2 L2:=by rw[e1,e2,e3,e4]at h0;exact h0
  obtain⟨v,k1,_⟩:=uy (st:=dm) h0 (fY:=true) (W':=λ_=>False) (λ_ _ _ _ _ _ h=>h) (λ_ h=>h.elim) hr ⟨(trivial:lM true dm []),rfl⟩;have NE:=h0.o;have tC:gP W ab L (w.putObj l (.loop (match dm.todo with|[]=>sl|_=>rl))) dm.ab L2 w2:=h4.eZ;rw[hq]at NE tC;refine⟨v,k1,⟨v,rfl⟩,L2,_, ?_,NE,tC⟩;cases dm.todo with
  |nil=>exact .inr rfl
  |cons _ _=>exact .inl rfl
 rcases he with rfl|rfl
 ·exact done
 ·exact done
def Ea(f:dw):cO->bB->Nat->DV
 |p::ps,x::xs=>Ea (cU f (some p) x) ps xs
 |_,_=>f
def GU{A:World}{W:fo}{ab:bq}{L:Loc}:∀(ps:cO) (x:bB) (cA:List Value) (f:dw) (tm:Array Value),(∀p∈ps,p<nt)->tm.size=nt->x.length=ps.length->jD A W ab L x cA->
  (∀t,aA A W ab L (f t) (tm.getD t Go.undef))->
  ((ps.zip cA).foldl (λt (pv:Nat×Value)=>t.setIfInBounds pv.1 pv.2) tm).size=nt/\∀t,aA A W ab L (Ea f ps x t) (((ps.zip cA).foldl (λt (pv:Nat×Value)=>t.setIfInBounds pv.1 pv.2) tm).getD t Go.undef)
 |[],x,cA,f,tm,_,hs,hl,hr,hf=>by
  have:x=[]:=ZaD (by simpa using hl);subst this;exact⟨by simpa using hs,by simpa [Ea]using hf⟩
 |p::ps,[],cA,f,tm,_,_,hl,_,_=>by simp at hl
 |p::ps,y::x,[],f,tm,_,_,_,hr,_=>by have:=hr.1;simp at this
 |p::ps,y::x,v::vs',f,tm,hp,hs,hl,hr,hf=>by
  simp only[List.zip_cons_cons,ZaN,Ea];refine GU ps x vs' _ _ (λq hq=>hp q (Zbg _ hq)) (by simpa using hs) (by simpa using hl) ⟨by simpa using hr.1,λi d v' h1 h2=>hr.2 (i+1) d v' (by simpa using h1) (by simpa using h2)⟩ λt=>?_;rw[Dt _ _ _ _ (by rw[hs];exact hp p (Zbl ..))];simp only[cU];by_cases ht:t=p
  ·simp only[ht,if_true];exact hr.2 0 y v rfl rfl
  ·simp only[ht,if_false];exact hf t
def aa.rangeFS [dL]{Q:Exit->l8->Prop}{st:l8}{g:bQ}{ps:cO}{aS bS:DC}{bY:bB}{k:bB->bq->fI}{bZ:bq}(id:Nat)(hit:OH P f bY st.ab k bZ)(Dw:0<st.low)
  (hg:g.ev st.tmps=.nG (.func f) bY) (lr:∀r,st.aJ<=r->bZ r=none)
  (round:∀args ab N,0<N->(k args ab).ok->yIs (k args ab).val->(∀r,N<=r->ab r=none)->args.length=ps.length/\
   aa P nt aS (λe s1=>e=.normal/\aa P nt bS (λe s2=>((yGo (k args ab).val=true/\e=.normal)\/(yGo (k args ab).val=false/\e=.exit id))/\∃N',Le s2 ⟨λ_=>.undef,(k args ab).ab,N',N,[]⟩) s1) ⟨Ea st.tmps ps args,ab,N,N,[]⟩)
  (done:Q .normal ⟨st.tmps,bZ,st.aJ,st.low,st.todo⟩) (stop:Q (.exit id) ⟨st.tmps,bZ,st.aJ,st.low,st.todo⟩):aa P nt (.Id g ps aS bS) Q st:=by
 refine⟨λc hc=>?_⟩;obtain⟨g',qs,y,z,rfl,hg',rfl,hlt,hy,hz⟩:=Oj hc;intro n κ a w L gd r;have hJ:κ.J=none:=by
  cases hj:κ.J with
  |none=>rfl
  |some J=>have:=r.it (by rw[hj];rfl);omega
 obtain⟨W,base,M,w0,dP,h0⟩:=r.r.ex;have Dv:=dP;unfold oX.At at Dv;simp only[hJ]at Dv;obtain⟨htd,rfl,rfl,rfl,rfl⟩:=Dv;have hgv:=bQ.bP h0.o.gl h0.tmps hg';rw[hg]at hgv;simp only[aA]at hgv;obtain⟨vs,hgv,GJ⟩:=hgv;have jy:κ.base<=w.heap.size:=ZaP h0.o.fr.jq h0.o.fr.size;refine wpIn_rangeFunc ?_;intro fn hfn;obtain⟨l,Ds0,W1,rec,Aj,tV,hlw,Xj,r1,r2,r3,r4,r5,r6,r7,yd,hDs⟩:=VQ (P:=P) (ro:=κ.ro) (w:=w) (fn:=fn) (tm:=a.tmps) (ps:=qs) (y:=y) (z:=z) (λl hl=>by
  obtain⟨rc,hrc⟩:=gd.rd l hl;obtain⟨rc',hrc'⟩:=oX.XS st.todo hrc;exact⟨rc',r.r.eZ.dx.Xy l rc' hrc'⟩)
 obtain⟨fnE,hfnE,bT,Bv⟩:=hit.entry;have hDl:∀D∈Ds0,D≠l:=λD hD e=>by
  have:=(hDs D hD).1;rw[e,Xj]at this;cases this
 obtain⟨wi,hA1⟩:=ct.grow h0.o tV;have hlb:κ.base<=l:=ZaP jy hlw;obtain⟨QW,YP⟩:=bb (({rec with state:=.done,pending:=some (.exit id)}:Loop):Loop);have hrec:({rec with state:=.ready,pending:=none}:Loop)=rec:=by cases rec;simp_all
 have XB:∀x:Loop,¬Obj.plain (.loop x):=λx e=>e;have hYield:H2 P l rec QW k κ.base κ.W κ.M κ.w0 st.ab L W1:=by
  refine⟨λA L' ab args cA hok hyi hfi h5 hAd hO hDA=>?_⟩;obtain⟨N,hN⟩:=hfi;have hN1:∀x,N+1<=x->ab x=none:=λx hx=>hN x (by omega);obtain⟨dM,hr⟩:=round args ab (N+1) (by omega) hok hyi hN1;have xM:cA.size=rec.params.size:=by
   have:=hDA.1;rw[r5];simpa [dM]using this
  have KD:=run_yield (P:=P) (args:=cA) h5 xM;rw[r3,r4,r5,r6,r7]at KD;refine⟨_,_,_,_,KD, ?_⟩;have hleA:κ.base<=A.heap.size:=ZaP hO.fr.jq hO.fr.size;have hlA:=(Zap.1 h5).1;have ik:∀t,aA A κ.W ab L' (st.tmps t) (a.tmps.getD t Go.undef):=λt=>aA.eZ (hA1.comp hAd (λ_ h=>.inl h) (λ_ h=>h)) _ _ (h0.tmps t);have Vo:=GU (nt:=nt) qs.toList args cA.toList st.tmps a.tmps hlt h0.size dM hDA ik;rw[<-OC]at Vo
  let κ1:oX:=⟨κ.W,ab,L',A,κ.base,κ.M,κ.w0,none,some l,none⟩
  have good1:κ1.Good P:=⟨λJ hJ=>(by cases hJ),λl r s hY=>(by cases hY),λl' hl'=>by cases hl';exact⟨rec,h5⟩⟩;have rel1:Ie κ1 nt ⟨Ea st.tmps qs.toList args,ab,N+1,N+1,[]⟩ {tmps:=(qs.zip cA).foldl (λt (p,v)=>t.setIfInBounds p v) a.tmps,defers:=[]} A L':=
   ⟨⟨⟨κ.W,κ.base,κ.M,κ.w0,⟨λ_=>rfl,rfl,rfl,rfl,rfl⟩,Vo.1,Vo.2,hO⟩,gP.cQ (dg.refl _ _),⟨[],rfl,Zb0,(λ_ h=>by cases h),λ_=>rfl⟩,λ_=>hleA,⟨N+1,hN1⟩⟩,hN1,hN1,λh=>by cases h⟩
  refine roundIn_of_wpIn trivial ?_;refine wpIn_mono (hr.run y hy 0 κ1 _ A L' good1 rel1) ?_;rintro e a' w' ⟨s1,L1,⟨rfl,hbody⟩,VZ⟩;have had1:gP κ.W ab L' A s1.ab L1 w':=VZ.r.eZ;have Bl:w'.heap[l]? =some (.loop rec):=had1.dx.Xy l rec h5;have hlw':=(Zap.1 Bl).1;refine⟨_,run_beginRound Bl r1, ?_⟩
  let busy:Loop:={rec with state:=.busy}
  let κ2:oX:=⟨κ.W,ab,L',A.putObj l (.loop busy),κ.base,κ.M,κ.w0,none,some l,none⟩
  have hsA:(A.putObj l (.loop busy)).heap.size=A.heap.size:=by simp[World.putObj]
  have Nx:(w'.putObj l (.loop busy)).heap.size=w'.heap.size:=by simp[World.putObj]
  have gA:(A.putObj l (.loop busy)).heap[l]? =some (.loop busy):=World.putObj_heap_same hlA;have good2:κ2.Good P:=⟨λJ hJ=>(by cases hJ),λl r s hY=>(by cases hY),λl' hl'=>by cases hl';exact⟨busy,gA⟩⟩;have adv2:gP κ.W ab L' (A.putObj l (.loop busy)) s1.ab L1 (w'.putObj l (.loop busy)):=gP.Cp (r:=rec) hlA (by rw[World.uo h5];exact had1);have rel3:Ie κ2 nt s1 a' (w'.putObj l (.loop busy)) L1:=by
   obtain⟨W2,base2,M2,w02,Yh,h02⟩:=VZ.r.ex;obtain⟨e0,e1,e2,e3,e4⟩:=Yh
   replace h02:R0 κ.base κ.W κ.M κ.w0 nt s1.tmps s1.ab a' w' L1:=by rw[e1,e2,e3,e4]at h02;exact h02
   have B8:KeepsC (WW κ.W s1.ab L1) w' (w'.putObj l (.loop busy)):=⟨by rw[Nx];exact Zaf _,λb c e fr hb _=>ou Bl (XB _) b _ trivial hb⟩;obtain⟨Ds,d1,d2,d3,d4⟩:=VZ.r.defers;refine⟨⟨⟨κ.W,κ.base,κ.M,κ.w0,⟨e0,rfl,rfl,rfl,rfl⟩,h02.size,λt=>(oZ B8 (SizeOf.sizeOf (s1.tmps t)+1)).1 (s1.tmps t) _ (Zcc _) (h02.tmps t),uq h02.o Bl (XB _) hlb⟩,adv2,⟨Ds,d1,d2,λD hD=>?_,d4⟩,λ_=>by rw[hsA];exact hleA,VZ.r.bZ⟩,VZ.fresh,VZ.low,λh=>by cases h⟩;have:=d3 D hD;refine⟨?_,by rw[hsA];exact this.2⟩;rw[World.putObj_heap_other (by rintro rfl;rw[Bl]at this;cases this.1)];exact this.1
  refine wpIn_mono (hbody.run z hz 0 κ2 a' _ L1 good2 rel3) ?_;rintro e a3 w3 ⟨s3,L3,⟨hcase,N',hLe⟩,rel4⟩;obtain⟨L4,rel5⟩:=hLe κ2 nt a3 w3 L3 rel4;have had4:gP κ.W ab L' (A.putObj l (.loop busy)) (k args ab).ab L4 w3:=rel5.r.eZ;have hl3:w3.heap[l]? =some (.loop busy):=had4.dx.Xy l busy gA;obtain⟨W5,base5,M5,w05,hat5,h05⟩:=rel5.r.ex;obtain⟨_,e1,e2,e3,e4⟩:=hat5
  replace h05:ct κ.base κ.W κ.M κ.w0 (k args ab).ab w3 L4:=by have:=h05.o;rw[e1,e2,e3,e4]at this;exact this
  have fin2:∀rf:Loop,ct κ.base κ.W κ.M κ.w0 (k args ab).ab (w3.putObj l (.loop rf)) L4/\gP κ.W ab L' (A.putObj l (.loop rf)) (k args ab).ab L4 (w3.putObj l (.loop rf)):=
   λrf=>⟨uq h05 hl3 (XB _) hlb,gP.Cp hlA had4⟩
  rcases hcase with⟨XU,rfl⟩|⟨XU,rfl⟩
  ·have Av:=run_endRound (P:=P) none hl3;simp only[Option.isNone_none,if_true]at Av;have YQ:({busy with state:=.ready,pending:=none}:Loop)=rec:=by rw[<-hrec]
   rw[YQ]at Av;refine⟨_,_,Av,by rw[XU],L4, ?_⟩;rw[XU];exact fin2 rec
  ·have Av:=run_endRound (P:=P) (some (.exit id)) hl3;simp only[Option.isNone_some,ZaW,if_false]at Av;have YQ:({busy with state:=.done,pending:=some (.exit id)}:Loop)=QW:=by rw[<-YP]
   rw[YQ]at Av;refine⟨_,_,Av,by rw[XU],L4, ?_⟩;rw[XU];exact fin2 QW
 refine⟨l,Ds0.map mark,W1,{target:=.fn (.func f) vs,args:= #[.func (.yield l) #[] #[]]},W1,f, #[.func (.yield l) #[] #[]]++vs,W1,Aj, ?_,λ_ _=>trivial, ?_,(λh=>by cases h), ?_⟩
 ·simp only[resolve,hgv,Deferred.ofValue];simp[Act.eval]
 ·simp[invoke,callFunc,hfnE,bT];intro mi;simp[mi]at Bv
 ·have hcaps1:jD W1 κ.W st.ab L bY vs.toList:=by
   have h:=Bu GJ;exact⟨h.1,λi d v h1 h2=>aA.eZ hA1 _ _ (h.2 i d v h1 h2)⟩
  refine eQ ((hit.run l rec QW κ.base κ.W κ.M κ.w0 W1 L vs hYield hlb Xj wi hcaps1).mono ?_);rintro e B ⟨⟨v,rfl⟩,L',r',gD,hO',hA'⟩;have hlW:=(Zap.1 Xj).1;have hlB:B.heap[l]? =some (.loop r'):=hA'.dx.Xy _ _ (World.putObj_heap_same hlW);have hnb:r'.state≠ .busy:=by
   rcases gD with rfl|rfl
   ·rw[r1];simp
   ·rw[<-YP];simp
  have K3:=run_endLoop (P:=P) hlB hnb;obtain⟨off,Ce⟩:=bb (({r' with state:=.exhausted}:Loop):Loop);rw[Ce]at K3;have B8:KeepsC (WW κ.W bZ L') B (B.putObj l (.loop off)):=⟨by simp[World.putObj],λb c e fr hb _=>ou hlB (XB _) b _ trivial hb⟩;have hgrow:∀x:Loop,gP κ.W st.ab L w st.ab L (W1.putObj l (.loop x)):=λx=>by
   have hbx:vO w.heap.size w (W1.putObj l (.loop x)):=by
    refine⟨⟨tV.os,tV.tape,tV.output, ?_,λb hb=>?_⟩,tV.drawn⟩
    ·have:=tV.size;simpa [World.putObj]using this
    ·rw[World.putObj_heap_other (by omega)];exact tV.block b hb
   exact(ct.grow h0.o hbx).2
  have tC:gP κ.W st.ab L w bZ L' (B.putObj l (.loop off)):=(hgrow off).comp (gP.Cp hlW hA') (λ_ h=>.inl h) (λ_ h=>h);have hA3:gP κ.W st.ab L w bZ L' B:=(hgrow r').comp hA' (λ_ h=>.inl h) (λ_ h=>h);obtain⟨Ds,d1,d2,d3,d4⟩:=r.r.defers;have hgw:κ.gw.heap.size<=w.heap.size:=by have:=r.r.eZ.dx.size;rw[oX.ya]at this;exact this
  have hR:Ie κ nt ⟨st.tmps,bZ,st.aJ,st.low,st.todo⟩ {a with defers:=Ds0.map mark++a.defers} (B.putObj l (.loop off)) L':=by
   refine⟨⟨⟨κ.W,κ.base,κ.M,κ.w0,dP,h0.size,λt=>aA.eZ tC _ _ (h0.tmps t),uq hO' hlB (XB _) hlb⟩,r.r.eZ.comp tC (dP.H3 _) dP.sub.2,⟨Ds0++Ds,by rw[ZaZ,<-d1], ?_,λD hD=>?_,λh=>by rw[hJ]at h;cases h⟩,r.r.bg,⟨st.aJ,lr⟩⟩,lr,r.low,r.it⟩
   ·rw[Zb7];refine⟨yd,d2,λD hD D' hD' e=>?_⟩;subst e;have k1:=(hDs D hD).2;have k2:=(Zap.1 (d3 D hD').1).1;omega
   ·rcases Zaq.1 hD with hD|hD
    ·refine⟨?_,ZaP hgw (hDs D hD).2⟩;rw[World.putObj_heap_other (hDl D hD)];exact hA'.dx.W8 D (by rw[World.putObj_heap_other (hDl D hD)];exact(hDs D hD).1)
    ·exact⟨tC.dx.W8 D (d3 D hD).1,(d3 D hD).2⟩
  rcases gD with rfl|rfl
  ·rw[r2]at K3;exact⟨none,_,K3,_,L',done,hR⟩
  ·have:r'.pending=some (.exit id):=by rw[<-YP]
   rw[this]at K3;exact⟨some (.exit id),_,K3,wpIn_exit ⟨_,L',stop,hR⟩⟩
end
end
section
variable{base nt:Nat}{W M:fo}{w0:World}{st:l8}{rs:List bV}
variable [bI] [dL]{P:Program}
def Eb(st:l8)(rs:List bV):bB:=rs.map λr=>(r.oq st).val
def K4(st:l8)(rs:List bV):DV:=match Eb st rs with
 |[x]=>x
 |ds=>.eo ds
def YR{w:World}{a:Act}{L:Loc}(h:R0 base W M w0 nt st.tmps st.ab a w L){rv:ResultVar}{r:bV}(hr:nQ P rv=some r)(hok:(r.oq st).ok):
  ∃v,((match rv with|.tmp t=>pure (a.tmps.getD t Go.undef)|.cell b t=>do loadVar t (<-asAddr (a.tmps.getD b Go.undef))):Sem Value).run P w=.ok v w/\aA w W st.ab L (r.oq st).val v:=by
 cases rv with
 |tmp t=>
  simp only[nQ,Zaa]at hr;subst hr;exact⟨_,rfl,h.tmps t⟩
 |cell b t=>
  simp only[nQ]at hr;split at hr
  ·rename_i d i hd hi;simp only[Zaa]at hr;subst hr;simp only[bV.oq]at hok;obtain⟨hp,v,bW,hv⟩:=wF h.o hd hi (h.tmps b) hok;refine⟨v, ?_,hv⟩;have hpt:∃p,a.tmps.getD b Go.undef=.pointer (some p):=by
    have hx:=h.tmps b;have ho:=hok;cases hq:st.tmps b with
    |ptr r off=>rw[hq]at hx;simp only[aA]at hx;exact⟨_,hx.2⟩
    |l7 av j off=>rw[hq]at hx;simp only[aA]at hx;obtain⟨_,_,_,hx,_⟩:=hx;exact⟨_,hx⟩
    |iD cs off=>rw[hq]at hx;simp only[aA]at hx;obtain⟨_,_,hx,_⟩:=hx;exact⟨_,hx⟩
    |ka r bD j off=>rw[hq]at hx;simp only[aA]at hx;obtain⟨⟨_,_,hx⟩,_⟩:=hx;exact⟨_,hx⟩
    |v t'=>
     rw[hq]at hx ho;cases t' with
     |box cs=>simp only[aA,bj]at hx;obtain⟨_,_,hx,_⟩:=hx;exact⟨_,hx⟩
     |_=>exact ho.elim
    |_=>rw[hq]at ho;exact ho.elim
   obtain⟨p,hp⟩:=hpt;show Sem.run P (do loadVar t (<-asAddr (a.tmps.getD b Go.undef))) w=_;rw[hp]at bW⊢;simpa [Instr.loadAt,Instr.sureAddr,asAddr]using bW
  ·cases hr
def K5{base:Nat}{W M:fo}{w0 w:World}{nt:Nat}{st:l8}{a:Act}{L:Loc}(h:R0 base W M w0 nt st.tmps st.ab a w L):∀{rvs:List ResultVar} {rs:List bV},rvs.mapM (nQ P)=some rs->(∀r∈rs,(r.oq st).ok)->
  ∃vs,(rvs.mapM (λrv=>((match rv with|.tmp t=>pure (a.tmps.getD t Go.undef)|.cell b t=>do loadVar t (<-asAddr (a.tmps.getD b Go.undef))):Sem Value))).run P w=.ok vs w/\eE w W st.ab L (Eb st rs) vs
 |[],rs,hr,_=>by simp at hr;subst hr;exact⟨[],by simp,by simp[Eb,eE]⟩
 |rv::rvs,rs,hr,hok=>by
  simp only[Za7,Zao,Zaj,Zad,Zaa]at hr;obtain⟨r,sg,rs',mt,rfl⟩:=hr;obtain⟨v,h1,h2⟩:=YR h sg (hok r (by simp));obtain⟨vs,h3,h4⟩:=K5 h mt λx hx=>hok x (by simp[hx]);refine⟨v::vs, ?_, ?_⟩
  ·rw[Za7];simp only[Sem.run_bind,h1,Result.andThen_ok,h3,Sem.run_pure]
  ·simp only[Eb,ZaA,eE];exact⟨v,vs,rfl,h2,h4⟩
def eE.length{w:World}{W:fo}{ab:bq}{L:Loc}:∀{ds:bB} {vs:List Value},eE w W ab L ds vs->vs.length=ds.length
 |[],vs,h=>by simp only[eE]at h;subst h;rfl
 |d::ds,vs,h=>by
  simp only[eE]at h;obtain⟨x,vs',rfl,_,h2⟩:=h;simp[eE.length h2]
def Ir{w:World}{a:Act}{L:Loc}(h:R0 base W M w0 nt st.tmps st.ab a w L){fn:Func}(hr:fn.results.toList.mapM (nQ P)=some rs)(hok:∀r∈rs,(r.oq st).ok):
  ∃v,(results fn a.tmps).run P w=.ok v w/\aA w W st.ab L (K4 st rs) v:=by
 obtain⟨vs,h2,h3⟩:=K5 h hr hok;have hm:(fn.results.mapM (λrv=>((match rv with|.tmp t=>pure (a.tmps.getD t Go.undef)|.cell b t=>do loadVar t (<-asAddr (a.tmps.getD b Go.undef))):Sem Value))).run P w=.ok vs.toArray w:=by
  rw[Zcx];simp only[Sem.run_map,h2,Result.andThen_ok]
 have hl:vs.length=(Eb st rs).length:=eE.length h3;refine⟨if h:vs.toArray.size=1 then vs.toArray[0]else .tuple vs.toArray, ?_, ?_⟩
 ·have B7:(results fn a.tmps)=(do
   let vs<-fn.results.mapM (λrv=>((match rv with|.tmp t=>pure (a.tmps.getD t Go.undef)|.cell b t=>do loadVar t (<-asAddr (a.tmps.getD b Go.undef))):Sem Value))
   pure (if h:vs.size=1 then vs[0]else .tuple vs)):=rfl
  rw[B7];simp only[Sem.run_bind,hm,Result.andThen_ok,Sem.run_pure]
 ·unfold K4;cases Kr:Eb st rs with
  |nil=>
   rw[Kr]at hl h3;have:vs=[]:=ZaD (by simpa using hl);subst this;simp only[aA];exact⟨#[],by simp,by simp[eE]⟩
  |cons x ds=>
   rw[Kr]at hl h3;cases ds with
   |nil=>
    simp only[eE]at h3;obtain⟨y,vs',rfl,h4,rfl⟩:=h3;simpa using h4
   |cons y ds=>
    have:vs.toArray.size≠1:=by simp at hl⊢;omega
    rw[ZcT this];simp only[aA];exact⟨vs.toArray,rfl,by simpa using h3⟩
def finD(rs:List bV)(r:fI):Exit->l8->Prop
 |.normal,st|.ret,st=>(∀x∈rs,(x.oq st).ok)/\Le ⟨look [(0,K4 st rs)],st.ab,st.aJ,st.low,st.todo⟩ ⟨look [(0,r.val)],r.ab,st.aJ,st.low,st.todo⟩
 |_,_=>False
def aB.okD{f:FuncId}{d:DC}(h:aB P f nt d rs){args:bB}{ab:bq}{r:fI}{N:Nat}(hN:∀r,N<=r->ab r=none)(dM:args.length<=nt)(hnt:0<nt)
  (k:dh ab N->aa P nt d (finD rs r) ⟨look (args.zipIdx.map λp=>(p.2,p.1)),aM [] ab,N,N,[]⟩):aR P f args ab r:=by
 have Aj:=h.entry;obtain⟨fn,hfn,rfl,h3,hr,_⟩:=h;obtain⟨c,hb,hc⟩:=Zac.1 h3;refine⟨Aj,λbase W M w0 w L cA hO B9=>?_⟩;have k:=Al (k (Au hO hN));have hl:=B9.1;simp only[Za3]at hl;have uB:Ie ⟨W,ab,L,w,base,M,w0,none,none,none⟩ fn.ntmps (wd args ab N) {tmps:=cA++Array.replicate (fn.ntmps-cA.size) Go.undef,defers:=[]} w L:=by
  refine⟨⟨⟨W,base,M,w0,⟨λ_=>rfl,rfl,rfl,rfl,rfl⟩,by simp;omega,λk=>?_,hO⟩,
   gP.cQ (dg.refl _ _),⟨[],rfl,Zb0,(λ_ h=>by cases h),λ_=>rfl⟩,λ_=>ZaP hO.fr.jq hO.fr.size,⟨N,hN⟩⟩,hN,hN,λh=>by cases h⟩
  simp only[wd];cases hk:args[k]? with
  |some x=>
   have hv:∃v,cA.toList[k]? =some v:=by
    have:k<cA.size:=by rw[hl];exact(Zaw.1 hk).1
    exact⟨cA[k],by simp[this]⟩
   obtain⟨v,hv⟩:=hv;simp only[pb hv,Cc];exact B9.2 k x v hk hv
  |none=>
   have xL:cA.size<=k:=by
    have:=ZbE.1 hk;omega
   simp only[Cc,aA,oG xL]
 refine callsIn_wide.1 (callsIn_of_wp_marks (n:=0) hfn hb trivial ?_);refine wpIn_mono (k.run c hc 0 _ _ _ _ ⟨λJ hJ=>(by cases hJ),λl r s hY=>(by cases hY),λl hl=>(by cases hl)⟩ uB) ?_;rintro e a' w' ⟨dm,L',q,r'⟩;have done:((∀x∈rs,(x.oq dm).ok)/\Le ⟨look [(0,K4 dm rs)],dm.ab,dm.aJ,dm.low,dm.todo⟩ ⟨look [(0,r.val)],r.ab,dm.aJ,dm.low,dm.todo⟩)->LeavesInM Fence.wide 0 P fn a'.tmps (λe w'=>∃v L',e=.returned v/\ct base W M w0 r.ab w' L'/\gP W ab L w r.ab L' w'/\aA w' W r.ab L' r.val v) a'.defers .returning w':=by
  rintro⟨hq1,Xh⟩;obtain⟨Ds,h1,h2,h3,_⟩:=r'.r.defers;rw[h1];refine uA (κ:=⟨W,ab,L,w,base,M,w0,none,none,none⟩) rfl ?_ Ds a' w' L' r'.r h1 h2 h3;intro a2 w2 L2 h4;obtain⟨W',KL,M',w0',dP,h0⟩:=h4.ex;obtain⟨v,k1,k2⟩:=Ir (st:=dm) h0 hr hq1;have h5:=eP.put h4 dP h0 (some 0) (λd hd=>by cases hd;exact hnt) h0.o (gP.cQ (dg.refl _ _)) k2 h4.bZ;have h6:Ie ⟨W,ab,L,w,base,M,w0,none,none,none⟩ fn.ntmps ⟨cU dm.tmps (some 0) (K4 dm rs),dm.ab,dm.aJ,dm.low,dm.todo⟩ (a2.put (some 0) v) w2 L2:=⟨h5,r'.fresh,r'.low,r'.it⟩;obtain⟨L3,h7⟩:=(Le.we (st:=⟨cU dm.tmps (some 0) (K4 dm rs),dm.ab,dm.aJ,dm.low,dm.todo⟩) (tm:=look [(0,K4 dm rs)]) (λk=>by
   by_cases hk:k=0
   ·subst hk;right;rfl
   ·left;simp[look,hk])) _ _ _ _ _ h6
  obtain⟨L4,h8⟩:=Xh _ _ _ _ _ h7;obtain⟨W'',base'',M'',w0'',Yh,h9⟩:=h8.r.ex;obtain⟨_,e1,e2,e3,e4⟩:=Yh;rw[e1,e2,e3,e4]at h9;have hv:=h9.tmps 0;have hsz:0<a2.tmps.size:=by rw[h0.size];exact hnt
  refine⟨v,k1,v,L4,rfl,h9.o,h8.r.eZ, ?_⟩;have:(a2.put (some 0) v).tmps.getD 0 Go.undef=v:=by simp[Act.put,hsz]
  rw[this]at hv;simpa [look]using hv
 cases e with
 |normal=>exact done q
 |ret=>exact done q
 |_=>exact q.elim
end
open Go.RowKit Go.ChangeShapes Go.WideShapes
section
variable{sp:Nat->Bool}{held:Bool}{base:Nat}
variable [bI]
def ni(P:Program)(L:List TypeId):Nat->List Field->Nat->Bool
 |o,[],n=>o==n
 |o,f::fs,n=>f.offset==o&&L.contains f.type&&ni P L (o+P.cellsOf f.type) fs n
def vj(P:Program)(L:List TypeId)(t:TypeId):Bool:=
 match P.underlying t with
 |some .bool|some (.int _)|some .string=>true
 |some (.slice e)=>L.contains e&&decide (0<P.cellsOf e)
 |some (.struct fs)=>ni P L 0 fs.toList (P.cellsOf t)
 |some (.array n e)=>L.contains e&&P.cellsOf t==n*P.cellsOf e
 |_=>false
def nj(P:Program)(L:List TypeId):Bool:=L.all (vj P L)
def pf(q:TypeId->aK->Prop):List TypeId->aK->Prop
 |[],ts=>ts=[]
 |t::vQ,ts=>∃a b,ts=a++b/\q t a/\pf q vQ b
def j6(P:Program):Nat->TypeId->aK->Prop
 |0,_,_=>False
 |n+1,t,ts=>
  match P.underlying t with
  |some .bool=>∃b,ts=[.bool b]
  |some (.int k)=>∃x,ts=[.int k x]/\(Lit.int k x).wf=true
  |some .string=>∃s,ts=[.str s]/\s.size<=maxLen
  |some (.slice e)=>∃av,ts=[.sl av]/\av.length<=maxLen/\∀r∈av,j6 P n e r
  |some (.struct fs)=>pf (j6 P n) (fs.toList.map (·.type)) ts
  |some (.array k e)=>pf (j6 P n) (List.replicate k e) ts
  |_=>False
def qz(P:Program)(n:Nat)(t:TypeId)(x:T):Prop:=
 match P.underlying t with
 |some (.struct _)|some (.array _ _)=>∃ts,x=.agg ts/\j6 P n t ts
 |_=>j6 P n t [x]
def Ct(P:Program):List TypeId->aK->Prop
 |[],xs=>xs=[]
 |t::ts,xs=>∃x lz,xs=x::lz/\(∃n,qz P n t x)/\Ct P ts lz
section
variable{P:Program}{L:List TypeId}
def vk(h:nj P L=true){t:TypeId}(ht:t∈L):vj P L t=true:=ZaU.1 h t ht
def wg:∀(fs:List Field) (o n:Nat),ni P L o fs n=true->(∀f∈fs,f.type∈L)/\n=o+(fs.map λf=>P.cellsOf f.type).sum/\∀(j:Nat) f,fs[j]? =some f->f.offset=o+((fs.take j).map λf=>P.cellsOf f.type).sum
 |[],o,n,h=>by
  simp only[ni,beq_iff_eq]at h;exact⟨λ_ h=>(by cases h),by simp[h],λj f h=>by simp at h⟩
 |f::fs,o,n,h=>by
  simp only[ni,Zam,beq_iff_eq,ZbT]at h;obtain⟨⟨h1,h2⟩,h3⟩:=h;obtain⟨k1,k2,k3⟩:=wg fs _ n h3;refine⟨λg hg=>?_, ?_,λj g hg=>?_⟩
  ·rcases Zah.1 hg with rfl|hg
   ·exact h2
   ·exact k1 g hg
  ·rw[k2];simp;omega
  ·cases j with
   |zero=>simp at hg;subst hg;simp[h1]
   |succ j=>
    have:=k3 j g (by simpa using hg);rw[this];simp;omega
def Ov(h:nj P L=true):Kids P (·∈L):=by
 refine⟨λ{t e} ht hu=>?_,λ{t e} ht hu=>?_,λ{t e n} ht hu=>?_,λ{t fs} ht hu=>?_,λ{t k e} ht hu=>?_⟩;all_goals
  have:=vk h ht;simp only[vj,hu]at this
 ·cases this
 ·simp only[Zam,ZbT]at this;exact this.1
 ·simp only[Zam,ZbT,beq_iff_eq]at this;exact this
 ·obtain⟨k1,k2,k3⟩:=wg _ _ _ this;exact⟨k1,by simpa using k2,λj f hf=>by simpa using k3 j f hf⟩
 ·cases this
def DR{H:Type}{enc:TypeId×Value->H}{w:World}{n:Nat}{sp:Nat->Bool}{held:Bool}{cs:List Value}
  (ih:∀t cs x,t∈L->DataW.trod enc P w 0 sp held n t cs=some x->∃ts,bf w (λ_=>False) ts cs/\j6 P n t ts):
  ∀(fs:List Field) (o N:Nat),ni P L o fs N=true->(∀f∈fs,∃x,DataW.trod enc P w 0 sp held n f.type ((cs.drop f.offset).take (P.cellsOf f.type))=some x)->cs.length=N->
   ∃ts,bf w (λ_=>False) ts (cs.drop o)/\pf (j6 P n) (fs.map (·.type)) ts
 |[],o,N,h,_,hl=>by
  simp only[ni,beq_iff_eq]at h;exact⟨[],by simp only[bf];rw[Zbv (by omega)],rfl⟩
 |f::fs,o,N,h,hx,hl=>by
  simp only[ni,Zam,beq_iff_eq,ZbT]at h;obtain⟨⟨h1,h2⟩,h3⟩:=h;obtain⟨x,Ow⟩:=hx f (Zbl ..);obtain⟨a,ha,hta⟩:=ih _ _ _ h2 Ow;obtain⟨b,hb,htb⟩:=DR ih fs _ N h3 (λg hg=>hx g (Zbg _ hg)) hl;refine⟨a++b, ?_,a,b,rfl,hta,htb⟩;have:=bf.append ha hb;rw[h1,<-List.drop_drop,Zbr]at this;exact this
def QI{H:Type}{enc:TypeId×Value->H}{w:World}{n:Nat}{sp:Nat->Bool}{held:Bool}{cs:List Value}{e:TypeId}(he:e∈L)
  (ih:∀t cs x,t∈L->DataW.trod enc P w 0 sp held n t cs=some x->∃ts,bf w (λ_=>False) ts cs/\j6 P n t ts):
  ∀(k i:Nat),(∀j,i<=j->j<i+k->∃x,DataW.trod enc P w 0 sp held n e ((cs.drop (j*P.cellsOf e)).take (P.cellsOf e))=some x)->cs.length=(i+k)*P.cellsOf e->
   ∃ts,bf w (λ_=>False) ts (cs.drop (i*P.cellsOf e))/\pf (j6 P n) (List.replicate k e) ts
 |0,i,_,hl=>by
  exact⟨[],by simp only[bf];rw[Zbv (by rw[hl];simp)],rfl⟩
 |k+1,i,hx,hl=>by
  obtain⟨x,Ow⟩:=hx i (Zaf _) (by omega);obtain⟨a,ha,hta⟩:=ih _ _ _ he Ow;obtain⟨b,hb,htb⟩:=QI he ih k (i+1) (λj h1 h2=>hx j (by omega) (by omega)) (by rw[hl];congr 1;omega);refine⟨a++b, ?_,a,b,rfl,hta,htb⟩;have:=bf.append ha hb;rw[show(i+1)*P.cellsOf e=i*P.cellsOf e+P.cellsOf e by rw[Nat.add_mul];omega,<-List.drop_drop,Zbr]at this;exact this
def Bz{α:Type}{q:Nat->α->Prop}:∀(n:Nat),(∀i,i<n->∃x,q i x)->∃l:List α,l.length=n/\∀i x,l[i]? =some x->q i x
 |0,_=>⟨[],rfl,λi x h=>by simp at h⟩
 |n+1,h=>by
  obtain⟨l,hl,hq⟩:=Bz n λi hi=>h i (by omega);obtain⟨x,hx⟩:=h n (by omega);refine⟨l++[x],by simp[hl],λi y hy=>?_⟩;by_cases hi:i<l.length
  ·rw[Zbc hi]at hy;exact hq i y hy
  ·rw[Za9 (by omega)]at hy;have:i=n:=by
    have:=(Zaw.1 hy).1;simp at this;omega
   subst this;simp[hl]at hy;subst hy;exact hx
def vm{w:World}{a:Addr}{n:Nat}{cs:List Value}(h:w.cells? 0 a n=some cs):cs.length=n/\∀j v,cs[j]? =some v->w.cell? (a.add j)=some v:=by
 simp only[World.cells?,ZbB,if_true]at h;refine⟨by simpa using mapM_some_length h,λj v hj=>?_⟩;have hlt:j<n:=by
  have:=(Zaw.1 hj).1;have h2:=mapM_some_length h;simp at h2;omega
 have:=mapM_some_get h j j (by simp[hlt]);rw[hj]at this;simpa using this.symm
where
 mapM_some_length {α β:Type} {f:α->Option β} {l:List α} {r:List β} (h:l.mapM f=some r):r.length=l.length:=by
  induction l generalizing r with
  |nil=>simp at h;simp[h]
  |cons x l ih=>
   simp only[Za7,Zao,Zaj,Zad,Zaa]at h;obtain⟨y,_,ys,pM,rfl⟩:=h;simp[ih pM]
 mapM_some_get {α β:Type} {f:α->Option β} {l:List α} {r:List β} (h:l.mapM f=some r) (i:Nat) (x:α) (hx:l[i]? =some x):r[i]? =f x:=by
  induction l generalizing r i with
  |nil=>simp at hx
  |cons y l ih=>
   simp only[Za7,Zao,Zaj,Zad,Zaa]at h;obtain⟨z,hz,ys,pM,rfl⟩:=h;cases i with
   |zero=>simp at hx;subst hx;simp[hz]
   |succ i=>simpa using ih pM i (by simpa using hx)
def QJ{w:World}{a:Addr}{v:Value}(h:w.cell? a=some v):a.block<w.heap.size/\a.spot=none:=by
 unfold World.cell? at h;split at h
 ·rename_i c e f hb;split at h
  ·cases h
  ·rename_i hs;exact⟨(Zap.1 hb).1,by simpa using hs⟩
 ·cases h
def add_zero(a:Addr):a.add 0=a:=by simp[Addr.add]
def KM(b o k:Nat):(⟨b,o,none⟩:Addr).add k=⟨b,o+k,none⟩:=by
 unfold Addr.add;by_cases h:k=0<;>simp[h]
def Yq{H:Type}{enc:TypeId×Value->H}{w:World}(hL:nj P L=true):∀(n:Nat) (t:TypeId) (cs:List Value) (x:DataW H×List MemPlace),t∈L->
  DataW.trod enc P w 0 sp held n t cs=some x->∃ts,bf w (λ_=>False) ts cs/\j6 P n t ts:=by
 intro n;induction n with
 |zero=>intro t cs x _ h;simp[DataW.trod]at h
 |succ n ih=>
  intro t cs x ht h;have hp:=vk hL ht;have one:∀{y:T} {v:Value},v.oneCell'=true->bj w (λ_=>False) y v->bf w (λ_=>False) [y] [v]:=λh1 h2=>by simp only[bf];exact⟨_,_,rfl,h1,h2,rfl⟩
  unfold vj at hp;split at hp
  ·rename_i hu;obtain⟨b,rfl,rfl⟩:∃b,cs=[.bool b]/\x=(.lit (.bool b),[]):=by
    unfold DataW.trod at h;rw[hu]at h;split at h<;>simp_all
   exact⟨[.bool b],one rfl (by simp[bj]),by simp[j6,hu]⟩
  ·rename_i k hu;obtain⟨m,rfl,rfl,hw⟩:=DataW.trod_int hu h;exact⟨[.int k m],one rfl (by simp[bj]),by simp[j6,hu,hw]⟩
  ·rename_i hu;obtain⟨s,rfl,rfl,hs⟩:=DataW.trod_string hu h;exact⟨[.str s],one rfl (by simp[bj]),by simp[j6,hu,hs]⟩
  ·rename_i e hu;simp only[Zam,ZbT,Zau]at hp;obtain⟨he,Gc⟩:=hp;rcases DataW.trod_slice hu h with⟨rfl,rfl⟩|⟨a,len,cap,elems,rest,m,hm,rfl,rfl,_,hlc,sc,hel,mF,_,_⟩
   ·exact⟨[.sl []],one rfl (by simp[bj]),by simp[j6,hu]⟩
   ·obtain rfl:n=m:=by omega
    have hrow:∀i,i<len->∃r:aK,(∃cs',w.cells? 0 (a.add (i*P.cellsOf e)) (P.cellsOf e)=some cs'/\bf w (λ_=>False) r cs')/\j6 P n e r:=by
     intro i hi;have h1:=mF i hi;have h2:∃y,elems[i]? =some y:=⟨elems[i],Zas (by omega)⟩;obtain⟨y,hy⟩:=h2;rw[hy]at h1;obtain⟨cs',h3,h4⟩:=Zad.1 h1;obtain⟨ts,h5,h6⟩:=ih e cs' y he h4;exact⟨ts,⟨cs',h3,h5⟩,h6⟩
    obtain⟨av,dM,hq⟩:=Bz len hrow;refine⟨[.sl av], ?_, ?_⟩
    ·simp only[bf];refine⟨_,[],rfl,rfl, ?_,rfl⟩;simp only[bj];cases av with
     |nil=>
      simp at dM;subst dM;exact .inl ⟨rfl,_,_,rfl⟩
     |cons r0 av=>
      right;obtain⟨⟨cs0,h3,h4⟩,_⟩:=hq 0 r0 rfl;obtain⟨h5,h6⟩:=vm h3;have Xa:∃v,cs0[0]? =some v:=⟨cs0[0],Zas (by omega)⟩;obtain⟨v0,hv0⟩:=Xa;have h60:=h6 0 v0 hv0;simp only[ZcK,add_zero]at h60;obtain⟨hb,hs⟩:=QJ h60;obtain⟨b,o,sp'⟩:=a;simp only at hb hs;subst hs;have dP:∀i r,(r0::av)[i]? =some r->r.length=P.cellsOf e/\ed w (λ_=>False) b (o+i*P.cellsOf e) r:=by
       intro i r hr;obtain⟨⟨cs',h3,h4⟩,_⟩:=hq i r hr;obtain⟨h5,h6⟩:=vm h3;refine⟨by rw[<-bf.length h4,h5],ed.sa h4 λj v hj=>?_⟩;have h7:=h6 j v hj;rw[KM,KM]at h7;exact h7
      exact⟨b,o,cap,P.cellsOf e,by rw[dM],hb,λh=>h,by omega,bw.Ck _ _ dP⟩
    ·simp only[j6,hu];refine⟨av,rfl,by omega,λr hr=>?_⟩;obtain⟨i,hi⟩:=ZbY hr;exact(hq i r hi).2
  ·rename_i fs hu;obtain⟨xs,m,hm,rfl,hl,Gb,hf⟩:=DataW.trod_struct hu h;obtain rfl:n=m:=by omega
   obtain⟨ts,h1,h2⟩:=DR (cs:=cs) ih fs.toList 0 _ hp (λf hfm=>by
    obtain⟨i,hi⟩:=ZbY hfm;have pW:fs[i]? =some f:=by simpa using hi
    have:=hf i f pW;have hlt:i<xs.length:=by rw[Gb];exact(Zap.1 pW).1
    rw[Zas hlt]at this;exact⟨_,this⟩) hl
   exact⟨ts,by simpa using h1,by simpa [j6,hu]using h2⟩
  ·rename_i k e hu;simp only[Zam,ZbT,beq_iff_eq]at hp;have key:cs.length=P.cellsOf t/\∀i,i<k->∃y,DataW.trod enc P w 0 sp held n e ((cs.drop (i*P.cellsOf e)).take (P.cellsOf e))=some y:=by
    unfold DataW.trod at h;rw[hu]at h;split at h<;>simp_all
    obtain⟨hl,xs,z7,_⟩:=h;intro i hi;have:=vm.mapM_some_get z7 i i (by simp[hi]);have hlt:i<xs.length:=by rw[vm.mapM_some_length z7];simp[hi]
    rw[Zas hlt]at this;exact⟨_,_,this.symm⟩
   obtain⟨ts,h1,h2⟩:=QI (cs:=cs) hp.1 ih k 0 (λj _ hj=>key.2 j (by omega)) (by rw[key.1,hp.2];simp);exact⟨ts,by simpa using h1,by simpa [j6,hu]using h2⟩
  ·cases hp
def arg_rel{H:Type}{enc:TypeId×Value->H}{w:World}(hL:nj P L=true){t:TypeId}(ht:t∈L){v:Value}(hv:Value.okWide P w .any base t v){d:DataW H}{ps:List MemPlace}
  (h:DataW.Trod enc P w 0 sp held t v d ps):∃x,bj w (λ_=>False) x v/\∃n,qz P n t x:=by
 obtain⟨n,h⟩:=h;obtain⟨ts,h1,h2⟩:=Yq hL n t _ _ ht h;have hp:=vk hL ht;have If:(∀cs,v≠ .agg cs)->∃x,ts=[x]/\bj w (λ_=>False) x v:=by
  intro bT;have hc:v.cells.toList=[v]:=by cases v<;>first|rfl|exact Zar rfl (bT _)
  rw[hc]at h1;cases ts with
  |nil=>simp only[bf]at h1;cases h1
  |cons x xs=>
   simp only[bf]at h1;obtain⟨_,_,e,_,hr,mt⟩:=h1;simp only[Za1]at e;obtain⟨rfl,rfl⟩:=e;have:=bf.length mt;simp at this;have e:xs=[]:=ZaD this.symm;exact⟨x,by rw[e],hr⟩
 have agg:(∃cs,v=.agg cs)->∃x,x=T.agg ts/\bj w (λ_=>False) x v:=by
  rintro⟨cs,rfl⟩;exact⟨_,rfl,by simp only[bj];exact⟨cs,rfl,by simpa [Value.cells]using h1⟩⟩
 unfold vj at hp;split at hp
 ·rename_i hu;obtain⟨b,rfl⟩:=okWide_bool hu hv;obtain⟨x,rfl,hr⟩:=If (λ_ h=>by cases h);exact⟨x,hr,n,by simp only[qz,hu];exact h2⟩
 ·rename_i k hu;obtain⟨b,rfl⟩:=okWide_int hu hv;obtain⟨x,rfl,hr⟩:=If (λ_ h=>by cases h);exact⟨x,hr,n,by simp only[qz,hu];exact h2⟩
 ·rename_i hu;obtain⟨b,rfl⟩:=okWide_string hu hv;obtain⟨x,rfl,hr⟩:=If (λ_ h=>by cases h);exact⟨x,hr,n,by simp only[qz,hu];exact h2⟩
 ·rename_i e hu;obtain⟨a,l,c,rfl⟩:=okWide_slice hu hv;obtain⟨x,rfl,hr⟩:=If (λ_ h=>by cases h);exact⟨x,hr,n,by simp only[qz,hu];exact h2⟩
 ·rename_i fs hu;obtain⟨cs,rfl,_⟩:=okWide_struct hu hv;obtain⟨x,rfl,hr⟩:=agg ⟨_,rfl⟩;exact⟨_,hr,n,by simp only[qz,hu];exact⟨_,rfl,h2⟩⟩
 ·rename_i k e hu;have:∃cs,v=.agg cs:=by
   simp only[Value.okWide,hu]at hv;cases v<;>simp_all
  obtain⟨cs,rfl⟩:=this;obtain⟨x,rfl,hr⟩:=agg ⟨_,rfl⟩;exact⟨_,hr,n,by simp only[qz,hu];exact⟨_,rfl,h2⟩⟩
 ·cases hp
def KO{H:Type}{enc:TypeId×Value->H}{w:World}{sp:Nat->Bool}{held:Bool}(hL:nj P L=true){base:Nat}:∀{vQ:List TypeId} {vs:List Value} {ds:List (DataW H)} {ps:List MemPlace},(∀t∈vQ,t∈L)->
  (∀(j:Nat) t v,vQ[j]? =some t->vs[j]? =some v->Value.okWide P w .any base t v)->DataW.TrodAll enc P w 0 sp held vQ vs ds ps->∃xs,fN w (λ_=>False) xs vs/\Ct P vQ xs
 |[],vs,ds,ps,_,_,h=>by
  obtain⟨rfl,rfl,rfl⟩:=trodAll_nil h;exact⟨[],by simp[fN],rfl⟩
 |t::vQ,vs,ds,ps,ht,hv,h=>by
  obtain⟨v,vs1,d,ds1,a,b,rfl,rfl,rfl,h1,h2⟩:=trodAll_cons h;obtain⟨x,k1,k2⟩:=arg_rel hL (ht t (Zbl ..)) (hv 0 t v rfl rfl) h1;obtain⟨xs,k3,k4⟩:=KO hL (λu hu=>ht u (Zbg _ hu)) (λj u y h1 h2=>hv (j+1) u y (by simpa using h1) (by simpa using h2)) h2;exact⟨x::xs,by simp only[fN];exact⟨v,vs1,rfl,k1,k3⟩,x,xs,rfl,k2,k4⟩
def DS{H:Type}{enc:TypeId×Value->H}{w w':World}{sp':Nat->Bool}{held:Bool}(hL:nj P L=true)(hheld:held=true):∀{vQ:List TypeId} {vs:List Value} {ds:List (DataW H)} {ps:List MemPlace},(∀t∈vQ,t∈L)->
  DataW.TrodAll enc P w 0 (λ_=>true) held vQ vs ds ps->(∀p∈ps,w.sameAt w' p)->(∀p∈ps,sp' p.block=true)->DataW.TrodAll enc P w' 0 sp' held vQ vs ds ps
 |[],vs,ds,ps,_,h,_,_=>by
  obtain⟨rfl,rfl,rfl⟩:=trodAll_nil h;exact trodAll_mk0
 |t::vQ,vs,ds,ps,ht,h,h1,h2=>by
  obtain⟨v,vs1,d,ds1,a,b,rfl,rfl,rfl,⟨n,k1⟩,k2⟩:=trodAll_cons h;refine trodAll_cons_mk ⟨n,DataW.trod_stays (Ov hL) (λ{t e} ht hu=>?_) (λh=>by rw[hheld]at h;cases h) (ht t (Zbl ..)) k1 (λp hp=>h1 p (List.mem_append_left _ hp)) (λp hp=>h2 p (List.mem_append_left _ hp))⟩
   (DS hL hheld (λu hu=>ht u (Zbg _ hu)) k2 (λp hp=>h1 p (Zb3 _ hp)) (λp hp=>h2 p (Zb3 _ hp)))
  have:=vk hL ht;simp only[vj,hu,Zam,Zau]at this;exact this.2
def KP{H:Type}{enc:TypeId×Value->H}{w:World}{b:Nat}{sp:Nat->Bool}{held:Bool}:∀{vQ:List TypeId} {vs:List Value} {ds:List (DataW H)} {ps:List MemPlace},DataW.TrodAll enc P w b sp held vQ vs ds ps->ds.length=vQ.length
 |[],vs,ds,ps,h=>by
  obtain⟨rfl,rfl,rfl⟩:=trodAll_nil h;rfl
 |t::vQ,vs,ds,ps,h=>by
  obtain⟨v,vs1,d,ds1,a,b,rfl,rfl,rfl,h1,h2⟩:=trodAll_cons h;simp[KP h2]
def Ig{H:Type}{enc:TypeId×Value->H}{W:World}{args:Array Value}{ds gs:List (DataW H)}{before:List MemPlace}{f:FuncId}{fn:Func}{s:ChangeSpec}{tb:TypeId}{apart fresh handsOn again:Bool}
  (hL:nj P L=true) (ym:∀t∈fn.params.toList,t∈L) (VN:fn.resultTypes= #[tb]) (hb:P.underlying tb=some .bool) (hvars:s.vars=[]) (hfn:∀ds:List (DataW H),ds.length=fn.params.size->s.fn H ds={results:=[.lit (.bool true)],args:=ds})
  (sh:∀xs,Ct P fn.params.toList xs->bl P f xs (.bool true))
  (c7:∀(j:Nat) t v,fn.params[j]? =some t->args[j]? =some v->Value.okWide P W .any base t v)
  (hW:DataW.Whole enc P fn.params.toList s.vars apart W args.toList ds gs before) (hg:F2 W λ_=>False):
  Calls P f args W λe W'=>∃v,e=.returned v/\s.post enc P fn apart fresh handsOn again W args v W':=by
 have hW':=hW;obtain⟨p,q,hA,hV,rfl,hfz,yd⟩:=hW;rw[hvars]at hV;obtain⟨rfl,rfl⟩:=trodVars_none hV;obtain⟨xs,hr,hx⟩:=KO hL ym (λj t v h1 h2=>c7 j t v (by simpa using h1) (by simpa using h2)) hA;have dM:ds.length=fn.params.size:=by
  have:=KP hA;simpa using this
 refine((sh xs hx).calls hg hr).mono ?_;rintro e w' ⟨v,rfl,Ox,hv⟩;simp only[bj]at hv;subst hv;have hlt:=hW'.lt;have x9:∀sp:Nat->Bool,(∀x∈p,sp x.block=true)->DataW.TrodAll enc P w' 0 sp true fn.params.toList args.toList ds p:=λsp hsp=>
  DS hL rfl ym hA (λx hx=>Ox.same (hlt x (by simpa using hx))) hsp
 have mt:∀(b:Nat) (sp:Nat->Bool) (hd:Bool),DataW.TrodAll enc P w' b sp hd fn.resultTypes.toList ((Value.bool true).resultList fn.resultTypes.size) [.lit (.bool true)] []:=λb sp hd=>by
  rw[VN];exact trodAll_cons_mk (shut_bool hb _) trodAll_mk0
 have he:s.fn H (ds++[])={results:=[.lit (.bool true)],args:=ds}:=by rw[ZaC];exact hfn ds dM
 have hv0:∀sp:Nat->Bool,DataW.TrodVars enc P w' sp s.vars [] []:=λsp=>by rw[hvars];rfl
 have hev:(s.fn H (ds++[])).vars=[]:=by rw[he]
 refine⟨_,rfl,ds,[],p++[],[],p,[],hW',by rw[he];exact mt _ _ _,by rw[he];exact x9 _ (λx hx=>by simpa using hlt x (by simpa using hx)),by rw[hev];exact hv0 _,Ox.frame _,λ_=>?_⟩;refine⟨ok_one VN rfl (okWide_bool_mk hb _),_,_,([]++p)++[],⟨[]++p,[],trodAll_append (x9 _ (λ_ _=>rfl)) (mt _ _ _),hv0 _,rfl, ?_, ?_⟩, ?_⟩
 ·intro b off hp;rw[Ox.frozen (hlt _ (by simpa using hp))];exact hfz b off (by simpa using hp)
 ·intro ha;simpa using yd ha
 ·intro x hx _;simpa using hx
end
inductive Ty where
 |bool|int (k:IntKind)|str
 |slice (e:Ty)
 |seq (fs:List Ty)
mutual
def Ty.pO:Ty->aK->Prop
 |.bool,ts=>∃b,ts=[.bool b]
 |.int k,ts=>∃x,ts=[.int k x]/\(Lit.int k x).wf=true
 |.str,ts=>∃s,ts=[.str s]/\s.size<=maxLen
 |.slice e,ts=>∃av,ts=[.sl av]/\av.length<=maxLen/\∀r∈av,e.pO r
 |.seq fs,ts=>Ty.kL fs ts
def Ty.kL:List Ty->aK->Prop
 |[],ts=>ts=[]
 |t::vQ,ts=>∃a b,ts=a++b/\t.pO a/\Ty.kL vQ b
end
def Ty.arg:Ty->T->Prop
 |.seq fs,x=>∃ts,x=.agg ts/\Ty.kL fs ts
 |ty,x=>ty.pO [x]
def Ty.args:List Ty->aK->Prop
 |[],xs=>xs=[]
 |t::vQ,xs=>∃x lz,xs=x::lz/\t.arg x/\Ty.args vQ lz
def sv(P:Program):Nat->TypeId->Option Ty
 |0,_=>none
 |n+1,t=>
  match P.underlying t with
  |some .bool=>some .bool
  |some (.int k)=>some (.int k)
  |some .string=>some .str
  |some (.slice e)=>(sv P n e).map .slice
  |some (.struct fs)=>(yn (sv P n) (fs.toList.map (·.type))).map .seq
  |some (.array k e)=>(sv P n e).map λx=>.seq (List.replicate k x)
  |_=>none
where
 yn (q:TypeId->Option Ty):List TypeId->Option (List Ty)
 |[]=>some []
 |t::ts=>match q t,yn q ts with
  |some x,some xs=>some (x::xs)
  |_,_=>none
section
variable{P:Program}
def Ak:∀(m n:Nat) (t:TypeId) (ty:Ty) (ts:aK),sv P m t=some ty->j6 P n t ts->ty.pO ts:=by
 intro m;induction m with
 |zero=>intro n t ty ts h;simp[sv]at h
 |succ m ih=>
  intro n t ty ts h hs;cases n with
  |zero=>exact hs.elim
  |succ n=>
   unfold sv at h;unfold j6 at hs;split at h
   ·rename_i hu;rw[hu]at hs;cases h;simpa [Ty.pO]using hs
   ·rename_i hu;rw[hu]at hs;cases h;simpa [Ty.pO]using hs
   ·rename_i hu;rw[hu]at hs;cases h;simpa [Ty.pO]using hs
   ·rename_i e hu;rw[hu]at hs;obtain⟨x,hx,rfl⟩:=Zac.1 h;obtain⟨av,rfl,h1,h2⟩:=hs;simp only[Ty.pO];exact⟨av,rfl,h1,λr hr=>ih n e x r hx (h2 r hr)⟩
   ·rename_i fs hu;rw[hu]at hs;obtain⟨x,hx,rfl⟩:=Zac.1 h;simp only[Ty.pO];have key:∀(vQ:List TypeId) (xs:List Ty) (ts:aK),sv.yn (sv P m) vQ=some xs->pf (j6 P n) vQ ts->Ty.kL xs ts:=by
     intro vQ;induction vQ with
     |nil=>intro xs ts h hs;simp only[sv.yn,Zaa]at h;subst h;simpa [Ty.kL,pf]using hs
     |cons u vQ ih2=>
      intro xs ts h hs;simp only[sv.yn]at h;split at h
      ·rename_i y ys hy pM;cases h;simp only[pf]at hs;obtain⟨a,b,rfl,h1,h2⟩:=hs;simp only[Ty.kL];exact⟨a,b,rfl,ih n u y a hy h1,ih2 ys b pM h2⟩
      ·cases h
    exact key _ _ _ hx hs
   ·rename_i k e hu;rw[hu]at hs;obtain⟨x,hx,rfl⟩:=Zac.1 h;simp only[Ty.pO];have key:∀(k:Nat) (ts:aK),pf (j6 P n) (List.replicate k e) ts->Ty.kL (List.replicate k x) ts:=by
     intro k;induction k with
     |zero=>intro ts hs;simpa [Ty.kL,pf]using hs
     |succ k ih2=>
      intro ts hs;simp only[ZaY,pf]at hs;obtain⟨a,b,rfl,h1,h2⟩:=hs;simp only[ZaY,Ty.kL];exact⟨a,b,rfl,ih n e x a hx h1,ih2 b h2⟩
    exact key k ts hs
   ·cases h
def arg_of{m n:Nat}{t:TypeId}{ty:Ty}{x:T}(h:sv P m t=some ty)(hs:qz P n t x):ty.arg x:=by
 cases m with
 |zero=>simp[sv]at h
 |succ m=>
  have h0:=h;unfold sv at h;unfold qz at hs;split at h
  ·rename_i hu;rw[hu]at hs;cases h;exact Ak _ _ _ _ _ h0 hs
  ·rename_i hu;rw[hu]at hs;cases h;exact Ak _ _ _ _ _ h0 hs
  ·rename_i hu;rw[hu]at hs;cases h;exact Ak _ _ _ _ _ h0 hs
  ·rename_i e hu;rw[hu]at hs;obtain⟨y,hy,rfl⟩:=Zac.1 h;exact Ak _ _ _ _ _ h0 hs
  ·rename_i fs hu;rw[hu]at hs;obtain⟨y,hy,rfl⟩:=Zac.1 h;obtain⟨ts,rfl,h2⟩:=hs;have:=Ak _ _ _ _ _ h0 h2;simp only[Ty.pO]at this;exact⟨ts,rfl,this⟩
  ·rename_i k e hu;rw[hu]at hs;obtain⟨y,hy,rfl⟩:=Zac.1 h;obtain⟨ts,rfl,h2⟩:=hs;have:=Ak _ _ _ _ _ h0 h2;simp only[Ty.pO]at this;exact⟨ts,rfl,this⟩
  ·cases h
def QK{m:Nat}:∀{vQ:List TypeId} {l:List Ty} {xs:aK},sv.yn (sv P m) vQ=some l->Ct P vQ xs->Ty.args l xs
 |[],l,xs,h,hs=>by simp only[sv.yn,Zaa]at h;subst h;exact hs
 |t::vQ,l,xs,h,hs=>by
  simp only[sv.yn]at h;split at h
  ·rename_i y ys hy pM;cases h;obtain⟨x,lz,rfl,⟨n,h1⟩,h2⟩:=hs;exact⟨x,lz,rfl,arg_of hy h1,QK pM h2⟩
  ·cases h
end
end
end Go.DM
namespace Go.Proofs
open Go.DM
noncomputable abbrev aj:=Tryz.prog
instance seatLaid:bI:=⟨[(0,[.int .i64 (1099511627776),.int .i64 (0),.int .i64 (-1),.int .i64 (0)])]⟩
def d12r0:ai:=[
 B 0 1,
 o (.alloc [V 0,.aW,.aW]) 2 []]
def d12r1:ai:=[
 L 3 1 11 [],
 o (.mkMap [(.int .i64),(.int .i64),(.int .i64)] true) 12 [],
 o (.build [.aW,.aW,V 0,(.v (.mg (Go.Value.map Option.none)))] [(0,3,(t 11)),(3,1,(t 12))]) 13 [0,1],
 o (.box (t 13)) 14 [2],
 m 14 3 [3,0,1,2,3]]
def d12r2:ai:=[
 a 0 1 15 [],
 l 15 16 [0],
 N 16 17 [1],
 m 17 4 [2,0,1,2]]
def Pi:ai:=[
 n 4 18,
 o (.bin .mul (i 2) (t 18)) 19 [0],
 C .add 19 1 20 [1],
 o (.bslice 1 1 [V 0] [(0,1,(i 1099511627776))]) 21 [],
 n 4 22,
 o (.bin .mul (i 2) (t 22)) 23 [4],
 C .add 23 1 24 [5],
 o (.callF 46 [(t 21),(t 24)]) 25 [3,6],
 o (.build [V 0,.aW,.aW] [(0,1,(t 20)),(2,1,(t 25))]) 26 [2,7],
 o (.alloc [V 0,.aW,.aW]) 5 [],
 S 3 5 26 (k [9,8,7] 9)]
def d12r3:ai:=Pi.map bare
def d12r4:ai:=[
 n 4 27,
 C .add 27 1 28 [0],
 I 0 29]
def d12r5:ai:=[
 b .lss 29 28 30 []]
def d12r6:ai:=[
 n 29 31,
 m 31 6 [0,0]]
def Pj:ai:=[
 n 3 32,
 n 6 33,
 o (.callS 47 [(t 32),(t 33)]) 34 [0,1]]
def d12r7:ai:=Pj.map bare
def d12r8:ai:=[
 a 2 5 36 [],
 l 36 37 [0],
 n 6 38,
 o (.bin .mul (i 2) (t 38)) 39 [2],
 n 3 40,
 n 6 41,
 n 4 42,
 o (.call 48 [(t 40),(t 41),(t 42)]) 43 [4,5,6],
 m 43 35 [7],
 e 0 35 44 [8],
 e 1 35 45 [8],
 x 1 37 39 46 (k [1,3] 9),
 S 1 46 44 (k [11,9,7] 9)]
def d12r9:ai:=[
 C .add 29 1 47 [],
 m 47 29 [0]]
def d12r10:ai:=[
 Z 7]
def d12r11:ai:=[
 n 3 48,
 c 48 49 [0],
 a 3 49 50 [1],
 l 50 51 [2],
 o (.rangeM (t 51)) 52 [3]]
def d12r12:ai:=[
 o (.entryM (t 52)) 55 [],
 e 0 55 56 [0],
 o (.alloc [V 0,V 0,V 0]) 8 [],
 S 3 8 56 [2,1,0,1,2]]
def d12r13:ai:=[
 n 7 57,
 L 3 8 58 [],
 o (.bslice 1 3 [V 0,V 0,V 0] [(0,3,(t 58))]) 59 [1],
 o (.append 104 3 24 (t 57) (t 59)) 60 [0,2],
 m 60 7 [3,3,0,1,2,3]]
def Jl:ai:=[
 n 7 61,
 o (.callS 49 [(t 61),(.gN (.v (.fn (.func 50) [])))]) 62 [0]]
def d12r14:ai:=Jl.map bare
def d12r15:ai:=[
 n 7 63,
 N 63 64 [0],
 I 0 65]
def d12r16:ai:=[
 b .lss 65 64 66 []]
def d12r17:ai:=[
 x 3 63 65 67 [],
 L 3 67 68 [0],
 o (.alloc [V 0,V 0,V 0]) 10 [],
 S 3 10 68 [2,1,0,1,2]]
def d12r18:ai:=[
 a 1 5 69 [],
 l 69 70 [0],
 n 3 71,
 c 71 72 [2],
 a 3 72 73 [3],
 l 73 74 [4],
 L 3 10 75 [],
 o (.lookup [(.int .i64),(.int .i64),(.int .i64)] true (.agg [(.v (.int .i64 0)),(.v (.int .i64 0)),(.v (.int .i64 0)),(.v (.int .i64 0)),.aW]) false (t 74) (t 75)) 76 [5,6],
 o (.bslice 1 5 [V 0,V 0,V 0,V 0,.aW] [(0,5,(t 76))]) 77 [7],
 o (.append 108 5 56 (t 70) (t 77)) 78 [1,8],
 a 1 5 79 (k [] 9),
 S 1 79 78 (k [10,9,9] 9)]
def d12r19:ai:=[
 C .add 65 1 80 [],
 m 80 65 [0]]
def d12r20:ai:=[
 L 3 5 81 [],
 S 3 2 81 [0,0]]
def d12:DC:=(j (y d12r0) (j (y d12r1) (j (y d12r2) (j (y d12r3) (j (j (y d12r4) (.block 0 (.loop (j (y d12r5) (j (.cond (.tmp 30) .skip (.exit 0)) (j (.block 1 (j (y d12r6) (j (y d12r7) (Y d12r8)))) (y d12r9))))))) (j (y d12r10) (j (j (y d12r11) (.block 2 (.loop (j (.QE (.tmp 52) 53 54) (j (.cond (.tmp 54) .skip (.exit 2)) (.block 3 (j (y d12r12) (y d12r13)))))))) (j (y d12r14) (j (j (y d12r15) (.block 4 (.loop (j (y d12r16) (j (.cond (.tmp 66) .skip (.exit 4)) (j (.block 5 (j (y d12r17) (Y d12r18))) (y d12r19))))))) (j (y d12r20) .ret))))))))))
def d12res:List bV:=[.cell 2 3 true]
def c12 [bI]:aB aj 29 82 d12 d12res:=aB.of Tryz.f29 (by kernel_rfl)
def d30r0:ai:=[
 n 0 12,
 c 12 13 [0],
 a 0 13 14 [1],
 a 0 14 15 [2],
 l 15 16 [3],
 N 16 17 [4],
 m 17 4 (k [5] 5)]
def d30r1:ai:=[
 n 1 18,
 m 18 5 [0,0]]
def d30r2:ai:=[
 n 5 19,
 n 4 20,
 b .leq 19 20 21 [0,1]]
def Pk:ai:=[
 n 0 25,
 n 1 26,
 n 5 27,
 o (.callS 48 [(t 25),(t 26),(t 27)]) 28 [0,1,2],
 m 28 24 [3],
 e 0 24 29 [4],
 e 1 24 30 [4],
 m 29 6 (k [5,3] 5),
 m 30 7 (k [6,7] 7)]
def d30r3:ai:=Pk.map bare
def d30r4:ai:=[
 n 5 31,
 n 1 32,
 b .gtr 31 32 33 [0,1]]
def Pm:ai:=[
 n 0 35,
 n 1 36,
 n 5 37,
 C .sub 37 1 38 [2],
 o (.callS 48 [(t 35),(t 36),(t 38)]) 39 [0,1,3],
 m 39 34 [4],
 e 0 34 40 [5],
 e 1 34 41 [5],
 m 40 8 (k [6,4] 6),
 m 41 9 (k [7,8] 8)]
def d30r5:ai:=Pm.map bare
def Pn:ai:=[
 n 0 42,
 n 1 43,
 n 5 44,
 C .sub 44 1 45 [2],
 n 8 46,
 n 9 47,
 o (.callS 74 [(t 42),(t 43),(t 45),(t 46),(t 47)]) 48 [0,1,3,4,5]]
def d30r6:ai:=Pn.map bare
def d30r7:ai:=[
 n 0 49,
 c 49 50 [0],
 a 0 50 51 [1],
 a 1 51 52 [2],
 l 52 53 [3],
 N 53 54 [4],
 I 0 55]
def d30r8:ai:=[
 b .lss 55 54 56 []]
def d30r9:ai:=[
 n 55 57,
 x 1 53 55 58 [],
 l 58 59 [1],
 m 57 10 [0,0,1,2],
 m 59 11 [2,3,0,1,2,3]]
def Jm:ai:=[
 n 0 60,
 n 1 61,
 o (.bin .mul (i 2) (t 61)) 62 [1],
 n 5 63,
 o (.bin .mul (i 2) (t 63)) 64 [3],
 n 10 65,
 n 6 66,
 n 11 67,
 b .add 66 67 68 [6,7],
 n 7 69,
 o (.callF 76 [(t 69)]) 70 [9],
 n 10 71,
 o (.build [V 0,V 0] [(0,1,(i 3)),(1,1,(t 71))]) 72 [11],
 o (.bslice 1 2 [V 0,V 0] [(0,2,(t 72))]) 73 [12],
 o (.append 117 2 16 (t 70) (t 73)) 74 [10,13,10],
 o (.build [V 0,V 0,V 0,V 0,.aW] [(0,1,(t 62)),(1,1,(t 64)),(2,1,(t 65)),(3,1,(t 68)),(4,1,(t 74))]) 75 [2,4,5,8,14],
 o (.callS 75 [(t 60),(t 75)]) 76 [0,15,14]]
def d30r10:ai:=Jm.map bare
def d30r11:ai:=[
 C .add 55 1 77 [],
 m 77 55 [0]]
def Jn:ai:=[
 n 0 78,
 n 5 79,
 o (.callS 77 [(t 78),(t 79)]) 80 [0,1]]
def d30r12:ai:=Jn.map bare
def Jo:ai:=[
 n 0 81,
 n 1 82,
 o (.bin .mul (i 2) (t 82)) 83 [1],
 n 5 84,
 o (.bin .mul (i 2) (t 84)) 85 [3],
 C .add 85 1 86 [4],
 n 0 87,
 c 87 88 [6],
 a 0 88 89 [7],
 a 0 89 90 [8],
 l 90 91 [9],
 n 5 92,
 C .add 92 1 93 [11],
 x 3 91 93 94 [10,12],
 a 0 94 95 [13],
 l 95 96 [14],
 n 6 97,
 n 0 98,
 c 98 99 [17],
 a 0 99 100 [18],
 a 2 100 101 [19],
 l 101 102 [20],
 b .add 97 102 103 [16,21],
 n 7 104,
 o (.callF 76 [(t 104)]) 105 [23],
 o (.build [V 0,V 0] [(0,1,(i 4))]) 106 [],
 o (.bslice 1 2 [V 0,V 0] [(0,2,(t 106))]) 107 [25],
 o (.append 117 2 16 (t 105) (t 107)) 108 [24,26,24],
 o (.build [V 0,V 0,V 0,V 0,.aW] [(0,1,(t 83)),(1,1,(t 86)),(2,1,(t 96)),(3,1,(t 103)),(4,1,(t 108))]) 109 [2,5,15,22,27],
 o (.callS 75 [(t 81),(t 109)]) 110 [0,28,27]]
def d30r13:ai:=Jo.map bare
def d30r14:ai:=[
 n 5 22,
 C .add 22 1 23 [0],
 m 23 5 [1,0,1]]
def Jp:ai:=[
 n 0 111,
 n 1 112,
 o (.callS 77 [(t 111),(t 112)]) 113 [0,1]]
def d30r15:ai:=Jp.map bare
def Jq:ai:=[
 n 0 114,
 n 1 115,
 o (.bin .mul (i 2) (t 115)) 116 [1],
 C .add 116 1 117 [2],
 n 1 118,
 o (.bin .mul (i 2) (t 118)) 119 [4],
 C .add 119 4 120 [5],
 n 0 121,
 c 121 122 [7],
 a 0 122 123 [8],
 a 0 123 124 [9],
 l 124 125 [10],
 n 1 126,
 x 3 125 126 127 [11,12],
 a 0 127 128 [13],
 l 128 129 [14],
 o (.build [V 0,V 0,V 0,V 0,.aW] [(0,1,(t 117)),(1,1,(t 120)),(2,1,(t 129))]) 130 [3,6,15],
 o (.callS 75 [(t 114),(t 130)]) 131 [0,16]]
def d30r16:ai:=Jq.map bare
def d30:DC:=(j (y d30r0) (j (j (y d30r1) (.block 0 (.loop (j (j (y d30r2) (.cond (.tmp 21) .skip (.exit 0))) (j (.block 1 (j (y d30r3) (j (j (y d30r4) (.cond (.tmp 33) (j (y d30r5) (y d30r6)) .skip)) (j (j (y d30r7) (.block 2 (.loop (j (y d30r8) (j (.cond (.tmp 56) .skip (.exit 2)) (j (.block 3 (j (y d30r9) (y d30r10))) (y d30r11))))))) (j (y d30r12) (.cond (.tmp 80) (.jr d30r13) .skip)))))) (y d30r14)))))) (j (y d30r15) (.cond (.tmp 113) (y d30r16) .skip))))
def d30res:List bV:=[]
def c30 [bI]:aB aj 47 132 d30 d30res:=aB.of Tryz.f47 (by kernel_rfl)
def d31r0:ai:=[
 I 0 6,
 o (.qu (.gN .aW)) 7 [0]]
def d31r1:ai:=[
 I 0 8]
def d31r2:ai:=[
 Z 9]
def d31r3:ai:=[
 n 0 12,
 c 12 13 [0],
 a 0 13 14 [1],
 a 0 14 15 [2],
 l 15 16 [3],
 n 1 17,
 n 2 18,
 o (.slice 3 (t 16) (some (t 17)) (some (t 18))) 19 [4,5,6],
 N 19 20 [7],
 I 0 21]
def d31r4:ai:=[
 b .lss 21 20 22 []]
def d31r5:ai:=[
 x 3 19 21 23 [],
 L 3 23 24 [0],
 o (.alloc [V 0,.aW,V 0]) 11 [],
 S 3 11 24 [2,1,0,1,2]]
def d31r6:ai:=[
 n 8 25,
 a 2 11 26 [],
 l 26 27 [1],
 b .add 25 27 28 [0,2],
 o (.minmax false (t 28) (i 1099511627776)) 29 [3],
 m 29 8 (k [4] 4)]
def d31r7:ai:=[
 n 9 30,
 o (.build [V 0,V 0] [(0,1,(i 2))]) 31 [],
 o (.bslice 1 2 [V 0,V 0] [(0,2,(t 31))]) 32 [1],
 o (.append 117 2 16 (t 30) (t 32)) 33 [0,2],
 m 33 9 [3,3,0,1,2,3]]
def d31r8:ai:=[
 C .add 21 1 34 [],
 m 34 21 [0]]
def d31r9:ai:=[
 n 8 35,
 n 9 36,
 m 35 6 [0,0],
 m 36 7 [1,2,0,1,2]]
def d31:DC:=(j (y d31r0) (j (y d31r1) (j (y d31r2) (j (j (y d31r3) (.block 0 (.loop (j (y d31r4) (j (.cond (.tmp 22) .skip (.exit 0)) (j (.block 1 (j (y d31r5) (j (y d31r6) (y d31r7)))) (y d31r8))))))) (j (y d31r9) .ret)))))
def d31res:List bV:=[.da 6,.da 7]
def c31 [bI]:aB aj 48 37 d31 d31res:=aB.of Tryz.f48 (by kernel_rfl)
def d47r0:ai:=[
 n 0 12,
 c 12 13 [0],
 a 0 13 14 [1],
 a 0 14 15 [2],
 l 15 16 [3],
 n 2 17,
 x 3 16 17 18 [4,5],
 a 1 18 19 [6],
 l 19 20 [7],
 N 20 21 [8],
 I 0 22]
def d47r1:ai:=[
 b .lss 22 21 23 []]
def d47r2:ai:=[
 n 22 24,
 x 1 20 22 25 [],
 l 25 26 [1],
 m 24 10 [0,0,1,2],
 m 26 11 [2,3,0,1,2,3]]
def d47r3:ai:=[
 n 11 27,
 C .geq 27 0 28 [0]]
def Po:ai:=[
 n 0 29,
 n 1 30,
 o (.bin .mul (i 2) (t 30)) 31 [1],
 n 2 32,
 o (.bin .mul (i 2) (t 32)) 33 [3],
 C .add 33 2 34 [4],
 n 10 35,
 n 3 36,
 n 11 37,
 b .add 36 37 38 [7,8],
 n 4 39,
 o (.callF 76 [(t 39)]) 40 [10],
 n 10 41,
 o (.build [V 0,V 0] [(0,1,(i 1)),(1,1,(t 41))]) 42 [12],
 o (.bslice 1 2 [V 0,V 0] [(0,2,(t 42))]) 43 [13],
 o (.append 117 2 16 (t 40) (t 43)) 44 [11,14,11],
 o (.build [V 0,V 0,V 0,V 0,.aW] [(0,1,(t 31)),(1,1,(t 34)),(2,1,(t 35)),(3,1,(t 38)),(4,1,(t 44))]) 45 [2,5,6,9,15],
 o (.callS 75 [(t 29),(t 45)]) 46 [0,16,15]]
def d47r4:ai:=Po.map bare
def d47r5:ai:=[
 C .add 22 1 47 [],
 m 47 22 [0]]
def d47:DC:=(j (y d47r0) (.block 0 (.loop (j (y d47r1) (j (.cond (.tmp 23) .skip (.exit 0)) (j (.block 1 (j (y d47r2) (j (y d47r3) (.cond (.tmp 28) (y d47r4) .skip)))) (y d47r5)))))))
def d47res:List bV:=[]
def c47 [bI]:aB aj 74 48 d47 d47res:=aB.of Tryz.f74 (by kernel_rfl)
def d48r0:ai:=[
 B 1 3]
def d48r1:ai:=[
 a 0 3 7 [],
 l 7 8 [0],
 a 1 3 9 [],
 l 9 10 [2],
 a 2 3 11 [],
 l 11 12 [4],
 o (.build [V 0,V 0,V 0] [(0,1,(t 8)),(1,1,(t 10)),(2,1,(t 12))]) 13 [1,3,5],
 o (.alloc [V 0,V 0,V 0]) 4 [],
 S 3 4 13 (k [7,6] 7)]
def d48r2:ai:=[
 n 0 15,
 c 15 16 [0],
 a 3 16 17 [1],
 l 17 18 [2],
 L 3 4 19 [],
 o (.lookup [(.int .i64),(.int .i64),(.int .i64)] true (.agg [(.v (.int .i64 0)),(.v (.int .i64 0)),(.v (.int .i64 0)),(.v (.int .i64 0)),.aW]) true (t 18) (t 19)) 20 [3,4],
 m 20 14 [5],
 e 0 14 21 [6],
 e 1 14 22 [6],
 o (.alloc [V 0,V 0,V 0,V 0,.aW]) 5 [],
 S 5 5 21 [9,7,0,1,2,3,4,5,6,7,9],
 m 22 6 (k [8,10] 10)]
def d48r3:ai:=[
 a 3 3 23 [],
 l 23 24 [0],
 C .lss 24 1099511627776 25 [1],
 m 25 26 [2],
 w 6 27 26 true [3],
 K 27 28 26 true [4,3],
 w 28 29 26 true [5,3,3],
 u 3 3 30 29 false [6],
 v 30 31 29 false [7,6],
 u 3 5 32 29 false [6],
 v 32 33 29 false [9,6],
 D .lss 31 33 34 29 false [8,10,6],
 g (.pick (t 29) (.gN (.v (.bool true))) (t 34)) 35 26 true [6,11,3],
 q 26 35 36 [3,12]]
def d48r4:ai:=[
 n 0 37,
 c 37 38 [0],
 a 3 38 39 [1],
 l 39 40 [2],
 L 3 4 41 [],
 L 5 3 42 [],
 s (.mapUpd [(.int .i64),(.int .i64),(.int .i64)] true (t 40) (t 41) (t 42)) (k [3,4,5] 5)]
def d48:DC:=(j (y d48r0) (j (y d48r1) (j (Y d48r2) (j (y d48r3) (.cond (.tmp 36) (Y d48r4) .skip)))))
def Pp:List bV:=[]
def c48 [bI]:aB aj 75 43 d48 Pp:=aB.of Tryz.f75 (by kernel_rfl)
def d49r0:ai:=[
 Z 2]
def d49r1:ai:=[
 n 0 3,
 o (.isNil 0 false (t 3)) 4 [0]]
def d49r2:ai:=[
 Z 2]
def d49r3:ai:=[
 o (.bslice 0 2 [] []) 5 [],
 n 0 6,
 o (.append 117 2 16 (t 5) (t 6)) 7 [0,1],
 m 7 2 [2,2,0,1,2]]
def d49:DC:=(j (y d49r0) (j (j (y d49r1) (.cond (.tmp 4) (j (y d49r2) .ret) .skip)) (j (y d49r3) .ret)))
def d49res:List bV:=[.da 2]
def c49 [bI]:aB aj 76 8 d49 d49res:=aB.of Tryz.f76 (by kernel_rfl)
def d50r0:ai:=[
 F 4]
def d50r1:ai:=[
 n 0 6,
 c 6 7 [0],
 a 0 7 8 [1],
 a 0 8 9 [2],
 l 9 10 [3],
 m 10 5 (k [4] 4)]
def d50r2:ai:=[
 n 1 11,
 C .add 11 1 12 [0],
 n 5 13,
 N 13 14 [2],
 b .lss 12 14 15 [1,3],
 m 15 16 [4],
 w 0 17 16 true [5],
 g (.nilCheck (t 17)) 18 16 true [6,5],
 u 0 18 19 16 true [7,5],
 u 2 19 20 16 true [8,5],
 v 20 21 16 true [9,5],
 E .gtr 21 0 22 16 true [10,5],
 q 16 22 23 [5,11],
 m 23 24 [12,5],
 w 5 25 24 true [13],
 w 1 26 24 true [13],
 g (.idxAddr 3 (t 25) (t 26)) 27 24 true [14,15,13],
 u 0 27 28 24 true [16,13],
 v 28 29 24 true [17,13],
 E .geq 29 0 30 24 true [18,13],
 q 24 30 31 [13,19],
 m 31 32 [20,13],
 w 5 33 32 true [21],
 w 1 34 32 true [21],
 E .add 34 1 35 32 true [23,21],
 g (.idxAddr 3 (t 33) (t 35)) 36 32 true [22,24,21],
 u 0 36 37 32 true [25,21],
 v 37 38 32 true [26,21],
 E .geq 38 0 39 32 true [27,21],
 q 32 39 40 [21,28],
 m 40 4 (k [29,21] 29)]
def d50:DC:=(j (y d50r0) (j (y d50r1) (j (y d50r2) .ret)))
def d50res:List bV:=[.da 4]
def c50 [bI]:aB aj 77 41 d50 d50res:=aB.of Tryz.f77 (by kernel_rfl)
def d29r0:ai:=[
 Z 4]
def d29r1:ai:=[
 n 1 9,
 C .lss 9 0 10 [0]]
def d29r2:ai:=[
 o (.fail) 11 [],
 s (.fail) [0]]
def d29r3:ai:=[
 n 0 13,
 N 13 14 [0],
 o (.conv .u64 (t 14)) 15 [1],
 n 1 16,
 o (.conv .u64 (t 16)) 17 [3],
 o (.call 73 [(t 15),(t 17)]) 18 [2,4],
 m 18 12 [5],
 e 0 12 19 [6],
 e 1 12 20 [6],
 m 19 5 (k [7,5] 7),
 m 20 6 (k [8,9] 9)]
def d29r4:ai:=[
 n 5 21,
 o (.bin .gtr (t 21) (.gN (.v (.int .u64 0)))) 22 [0],
 m 22 23 [1],
 w 6 24 23 false [2],
 g (.bin .gtr (t 24) (.gN (.v (.int .u64 9223372036854775807)))) 25 23 false [3,2],
 p 23 25 26 [2,4]]
def d29r5:ai:=[
 o (.fail) 27 [],
 s (.fail) [0]]
def d29r6:ai:=[
 n 6 28,
 o (.conv .i64 (t 28)) 29 [0],
 o (.mkSlice 3 1 8 [(.int .i64 0)] (t 29)) 30 [1,1],
 m 30 7 [2,0,1,2]]
def d29r7:ai:=[
 n 7 31,
 n 0 32,
 o (.copy 1 (t 31) (t 32)) 33 [0,1],
 m 33 8 [2,2,0,1,2]]
def d29r8:ai:=[
 n 8 34,
 n 7 35,
 N 35 36 [1],
 b .lss 34 36 37 [0,2]]
def d29r9:ai:=[
 n 8 38,
 n 7 39,
 n 8 40,
 o (.slice 1 (t 39) (some (t 40)) none) 41 [1,2],
 n 7 42,
 n 8 43,
 o (.slice 1 (t 42) none (some (t 43))) 44 [4,5],
 o (.copy 1 (t 41) (t 44)) 45 [3,6],
 b .add 38 45 46 [0,7],
 m 46 8 (k [8,7] 8)]
def d29r10:ai:=[
 n 7 47,
 m 47 4 [0,0]]
def d29:DC:=(j (y d29r0) (j (j (y d29r1) (.cond (.tmp 10) (y d29r2) .skip)) (j (y d29r3) (j (j (y d29r4) (.cond (.tmp 26) (y d29r5) .skip)) (j (y d29r6) (j (y d29r7) (j (.block 0 (.loop (j (j (y d29r8) (.cond (.tmp 37) .skip (.exit 0))) (.block 1 (Y d29r9))))) (j (y d29r10) .ret))))))))
def d29res:List bV:=[.da 4]
def c29 [bI]:aB aj 46 48 d29 d29res:=aB.of Tryz.f46 (by kernel_rfl)
def d33r0:ai:=[
 B 0 2,
 B 1 3,
 I 0 4]
def d33r1:ai:=[
 a 0 2 5 [],
 l 5 6 [0],
 a 0 3 7 [],
 l 7 8 [2],
 o (.call 81 [(t 6),(t 8)]) 9 [1,3],
 a 1 2 10 [],
 l 10 11 [5],
 a 1 3 12 [],
 l 12 13 [7],
 o (.call 81 [(t 11),(t 13)]) 14 [6,8,4],
 a 2 2 15 [],
 l 15 16 [10],
 a 2 3 17 [],
 l 17 18 [12],
 o (.call 81 [(t 16),(t 18)]) 19 [11,13,9],
 o (.bslice 3 1 [V 0,V 0,V 0] [(0,1,(t 9)),(1,1,(t 14)),(2,1,(t 19))]) 20 [4,9,14],
 o (.call 80 [(t 20)]) 21 [15,14],
 m 21 4 (k [16,16] 16)]
def d33:DC:=(j (y d33r0) (j (Y d33r1) .ret))
def d33res:List bV:=[.da 4]
def c33 [bI]:aB aj 50 22 d33 d33res:=aB.of Tryz.f50 (by kernel_rfl)
def d53r0:ai:=[
 I 0 2]
def d53r1:ai:=[
 I 0 3]
def d53r2:ai:=[
 n 0 6,
 N 6 7 [0],
 I 0 8]
def d53r3:ai:=[
 b .lss 8 7 9 []]
def d53r4:ai:=[
 x 1 6 8 10 [],
 l 10 11 [0],
 m 11 5 [1,0,1]]
def d53r5:ai:=[
 n 5 12,
 n 3 13,
 b .neq 12 13 14 [0,1]]
def d53r6:ai:=[
 n 5 15,
 m 15 2 [0,0]]
def d53r7:ai:=[
 C .add 8 1 16 [],
 m 16 8 [0]]
def d53r8:ai:=[
 n 3 17,
 m 17 2 [0,0]]
def d53:DC:=(j (y d53r0) (j (y d53r1) (j (j (y d53r2) (.block 0 (.loop (j (y d53r3) (j (.cond (.tmp 9) .skip (.exit 0)) (j (.block 1 (j (y d53r4) (j (y d53r5) (.cond (.tmp 14) (j (y d53r6) .ret) .skip)))) (y d53r7))))))) (j (y d53r8) .ret))))
def Pq:List bV:=[.da 2]
def c53 [bI]:aB aj 80 18 d53 Pq:=aB.of Tryz.f80 (by kernel_rfl)
def Lf:ai:=[
 I 0 4]
def Lg:ai:=[
 n 0 7,
 o (.call 118 [(t 7)]) 8 [0],
 m 8 5 [1,1,0,1]]
def d54r2:ai:=[
 n 1 9,
 o (.call 118 [(t 9)]) 10 [0],
 m 10 6 [1,1,0,1]]
def d54r3:ai:=[
 n 5 11]
def d54r4:ai:=[
 n 6 12]
def d54r5:ai:=[
 I 0 4]
def d54r6:ai:=[
 I (-1) 4]
def d54r7:ai:=[
 n 6 13]
def d54r8:ai:=[
 I 1 4]
def d54r9:ai:=[
 n 0 14,
 n 1 15,
 b .lss 14 15 16 [0,1]]
def d54r10:ai:=[
 I (-1) 4]
def d54r11:ai:=[
 n 0 17,
 n 1 18,
 b .gtr 17 18 19 [0,1]]
def d54r12:ai:=[
 I 1 4]
def d54r13:ai:=[
 I 0 4]
def d54:DC:=(j (y Lf) (j (y Lg) (j (y d54r2) (j (j (y d54r3) (.cond (.tmp 11) (j (j (y d54r4) (.cond (.tmp 12) (j (y d54r5) .ret) .skip)) (j (y d54r6) .ret)) .skip)) (j (j (y d54r7) (.cond (.tmp 13) (j (y d54r8) .ret) .skip)) (j (j (y d54r9) (.cond (.tmp 16) (j (y d54r10) .ret) .skip)) (j (j (y d54r11) (.cond (.tmp 19) (j (y d54r12) .ret) .skip)) (j (y d54r13) .ret))))))))
def AB:List bV:=[.da 4]
def c54 [bI]:aB aj 81 20 d54 AB:=aB.of Tryz.f81 (by kernel_rfl)
def d71r0:ai:=[
 F 2]
def d71r1:ai:=[
 n 0 3,
 n 0 4,
 b .neq 3 4 5 [0,1],
 m 5 2 [2,0,1,2]]
def d71:DC:=(j (y d71r0) (j (y d71r1) .ret))
def d71res:List bV:=[.da 2]
def c71 [bI]:aB aj 118 6 d71 d71res:=aB.of Tryz.f118 (by kernel_rfl)
def d46r0:ai:=[
 o (.qu (.gN (.v (.int .u64 0)))) 4 [],
 o (.qu (.gN (.v (.int .u64 0)))) 5 [0]]
def d46r1:ai:=[
 n 0 11,
 o (.conv .u32 (t 11)) 12 [0],
 n 1 13,
 o (.conv .u32 (t 13)) 14 [2],
 o (.call 106 [(t 12),(t 14)]) 15 [1,3],
 m 15 10 [4],
 e 0 10 16 [5],
 e 1 10 17 [5],
 m 16 6 (k [6,4] 6),
 m 17 7 (k [7,8] 8)]
def d46r2:ai:=[
 n 6 18,
 o (.conv .u64 (t 18)) 19 [0],
 n 7 20,
 o (.conv .u64 (t 20)) 21 [2],
 m 19 4 [1,0,1],
 m 21 5 (k [3,4] 4)]
def d46r3:ai:=[
 n 0 23,
 n 1 24,
 o (.call 107 [(t 23),(t 24)]) 25 [0,1],
 m 25 22 [2],
 e 0 22 26 [3],
 e 1 22 27 [3],
 m 26 8 (k [4,2] 4),
 m 27 9 (k [5,6] 6)]
def d46r4:ai:=[
 n 8 28,
 n 9 29,
 m 28 4 [0,0],
 m 29 5 [1,2,0,1,2]]
def d46:DC:=(j (y d46r0) (j (.cond (.gN (.v (.bool false))) (j (y d46r1) (j (y d46r2) .ret)) .skip) (j (y d46r3) (j (y d46r4) .ret))))
def d46res:List bV:=[.da 4,.da 5]
def c46 [bI]:aB aj 73 30 d46 d46res:=aB.of Tryz.f73 (by kernel_rfl)
def Lh:ai:=[
 o (.qu (.gN (.v (.int .u64 0)))) 4 [],
 o (.qu (.gN (.v (.int .u64 0)))) 5 [0]]
def BM:ai:=[
 n 0 14,
 o (.bin .and (t 14) (.gN (.v (.int .u64 4294967295)))) 15 [0],
 m 15 6 [1,0,1]]
def Li:ai:=[
 n 0 16,
 o (.bin .shr (t 16) (.gN (.v (.int .u64 32)))) 17 [0],
 m 17 7 [1,0,1]]
def Lj:ai:=[
 n 1 18,
 o (.bin .and (t 18) (.gN (.v (.int .u64 4294967295)))) 19 [0],
 m 19 8 [1,0,1]]
def Re:ai:=[
 n 1 20,
 o (.bin .shr (t 20) (.gN (.v (.int .u64 32)))) 21 [0],
 m 21 9 [1,0,1]]
def Rf:ai:=[
 n 6 22,
 n 8 23,
 b .mul 22 23 24 [0,1],
 m 24 10 [2,0,1,2]]
def d60r6:ai:=[
 n 7 25,
 n 8 26,
 b .mul 25 26 27 [0,1],
 n 10 28,
 o (.bin .shr (t 28) (.gN (.v (.int .u64 32)))) 29 [3],
 b .add 27 29 30 [2,4],
 m 30 11 (k [5] 5)]
def d60r7:ai:=[
 n 11 31,
 o (.bin .and (t 31) (.gN (.v (.int .u64 4294967295)))) 32 [0],
 m 32 12 [1,0,1]]
def d60r8:ai:=[
 n 11 33,
 o (.bin .shr (t 33) (.gN (.v (.int .u64 32)))) 34 [0],
 m 34 13 [1,0,1]]
def d60r9:ai:=[
 n 12 35,
 n 6 36,
 n 9 37,
 b .mul 36 37 38 [1,2],
 b .add 35 38 39 [0,3],
 m 39 12 (k [4] 4)]
def d60r10:ai:=[
 n 7 40,
 n 9 41,
 b .mul 40 41 42 [0,1],
 n 13 43,
 b .add 42 43 44 [2,3],
 n 12 45,
 o (.bin .shr (t 45) (.gN (.v (.int .u64 32)))) 46 [5],
 b .add 44 46 47 [4,6],
 m 47 4 (k [7] 7)]
def d60r11:ai:=[
 n 0 48,
 n 1 49,
 b .mul 48 49 50 [0,1],
 m 50 5 [2,0,1,2]]
def d60:DC:=(j (y Lh) (j (y BM) (j (y Li) (j (y Lj) (j (y Re) (j (y Rf) (j (y d60r6) (j (y d60r7) (j (y d60r8) (j (y d60r9) (j (y d60r10) (j (y d60r11) .ret))))))))))))
def wU:List bV:=[.da 4,.da 5]
def c60 [bI]:aB aj 107 51 d60 wU:=aB.of Tryz.f107 (by kernel_rfl)
def follows:aj.follows .mixedOrders=true:=by kernel_rfl
abbrev fw:=follows
namespace cC
def d92r0:ai:=[
 B 0 2,
 B 1 3,
 F 4]
def K7:ai:=[
 a 0 2 5 [],
 l 5 6 [0],
 a 0 3 7 [],
 l 7 8 [2],
 b .lss 6 8 9 [1,3],
 m 9 10 [4],
 u 0 2 11 10 false [5],
 v 11 12 10 false [6,5],
 u 0 3 13 10 false [5],
 v 13 14 10 false [8,5],
 D .eql 12 14 15 10 false [7,9,5],
 w 15 16 10 false [10,5,5],
 u 1 2 17 16 true [11],
 v 17 18 16 true [12,11],
 u 1 3 19 16 true [11],
 v 19 20 16 true [14,11],
 D .lss 18 20 21 16 true [13,15,11],
 g (.pick (t 16) (t 21) (.gN (.v (.bool false)))) 22 10 false [11,16,5],
 p 10 22 23 [5,17],
 m 23 4 (k [18,11] 18)]
def d92:DC:=(j (y d92r0) (j (y K7) .ret))
def YZ:List bV:=[.da 4]
def c92 [bI]:aB aj 97 24 d92 YZ:=aB.of Tryz.f97 (by kernel_rfl)
def d69r0:ai:=[
 o (.alloc [V 0,V 0]) 4 []]
def d69r1:ai:=[
 n 0 8,
 m 8 5 [0,0],
 o (.qu (i 1)) 6 [1,0,1]]
def d69r2:ai:=[
 I 0 7]
def d69r3:ai:=[
 n 7 9,
 n 1 10,
 N 10 11 [1],
 b .lss 9 11 12 [0,2]]
def d69r4:ai:=[
 n 5 15,
 n 1 16,
 n 7 17,
 x 2 16 17 18 [1,2],
 a 0 18 19 [3],
 l 19 20 [4],
 b .add 15 20 21 [0,5],
 o (.minmax false (t 21) (i 1099511627776)) 22 [6],
 n 6 23,
 n 1 24,
 n 7 25,
 x 2 24 25 26 [9,10],
 a 1 26 27 [11],
 l 27 28 [12],
 b .add 23 28 29 [8,13],
 o (.minmax false (t 29) (i 1099511627776)) 30 [14],
 m 22 5 (k [7] 7),
 m 30 6 (k [15,16] 16)]
def d69r5:ai:=[
 n 7 13,
 C .add 13 1 14 [0],
 m 14 7 [1,0,1]]
def d69r6:ai:=[
 n 5 31,
 C .geq 31 1099511627776 32 [0]]
def d69r7:ai:=[
 o (.build [V 0,V 0] [(0,1,(i 1099511627776))]) 33 [],
 S 2 4 33 [0,0]]
def d69r8:ai:=[
 n 5 34,
 n 6 35,
 o (.build [V 0,V 0] [(0,1,(t 34)),(1,1,(t 35))]) 36 [0,1],
 S 2 4 36 [2,0,1,2]]
def d69:DC:=(j (y d69r0) (j (y d69r1) (j (j (y d69r2) (.block 0 (.loop (j (j (y d69r3) (.cond (.tmp 12) .skip (.exit 0))) (j (.block 1 (Y d69r4)) (y d69r5)))))) (j (j (y d69r6) (.cond (.tmp 32) (j (y d69r7) .ret) .skip)) (j (y d69r8) .ret)))))
def OK:List bV:=[.cell 4 2 true]
def c69 [bI]:aB aj 95 37 d69 OK:=aB.of Tryz.f95 (by kernel_rfl)
def d91r0:ai:=[
 B 0 2,
 Z 4]
def d91r1:ai:=[
 Z 5]
def d91r2:ai:=[
 I 0 6]
def d91r3:ai:=[
 n 6 7,
 a 1 2 8 [],
 l 8 9 [1],
 N 9 10 [2],
 b .lss 7 10 11 [0,3]]
def d91r4:ai:=[
 n 5 14,
 n 1 15,
 a 1 2 16 [],
 l 16 17 [2],
 n 6 18,
 x 1 17 18 19 [3,4],
 l 19 20 [5],
 x 2 15 20 21 [1,6],
 L 2 21 22 [7],
 o (.bslice 1 2 [V 0,V 0] [(0,2,(t 22))]) 23 [8],
 o (.append 63 2 16 (t 14) (t 23)) 24 [0,9],
 m 24 5 (k [10,10] 10)]
def d91r5:ai:=[
 n 6 12,
 C .add 12 1 13 [0],
 m 13 6 [1,0,1]]
def d91r6:ai:=[
 n 5 25,
 m 25 4 [0,0]]
def d91:DC:=(j (y d91r0) (j (y d91r1) (j (j (y d91r2) (.block 0 (.loop (j (j (y d91r3) (.cond (.tmp 11) .skip (.exit 0))) (j (.block 1 (y d91r4)) (y d91r5)))))) (j (y d91r6) .ret))))
def d91res:List bV:=[.da 4]
def c91 [bI]:aB aj 96 26 d91 d91res:=aB.of Tryz.f96 (by kernel_rfl)
def d66r0:ai:=[
 B 0 1,
 Z 2,
 o (.qu (.gN .aW)) 3 [1]]
def d66r1:ai:=[
 a 0 1 14 [],
 l 14 15 [0],
 o (.mkSlice 63 2 16 [(.int .i64 0),(.int .i64 0)] (t 15)) 16 [1,1],
 m 16 4 [2,0,1,2]]
def d66r2:ai:=[
 a 0 1 17 [],
 l 17 18 [0],
 o (.mkSlice 3 1 8 [(.int .i64 0)] (t 18)) 19 [1,1],
 m 19 5 [2,0,1,2]]
def d66r3:ai:=[
 I 0 6]
def d66r4:ai:=[
 n 6 20,
 a 0 1 21 [],
 l 21 22 [1],
 b .lss 20 22 23 [0,2]]
def d66r5:ai:=[
 n 4 26,
 n 6 27,
 n 5 28,
 n 6 29,
 o (.build [V 0,V 0] [(0,1,(i 1099511627776))]) 30 [],
 x 2 26 27 31 [0,1,0,1,4],
 S 2 31 30 [5,4,0,1,4],
 x 1 28 29 32 (k [2,3] 6),
 s (.store 1 (t 32) (i (-1))) (k [7,6] 6)]
def d66r6:ai:=[
 n 6 24,
 C .add 24 1 25 [0],
 m 25 6 [1,0,1]]
def d66r7:ai:=[
 R 7]
def d66r8:ai:=[
 n 7 33]
def d66r9:ai:=[
 F 7]
def Y0:ai:=[
 I 0 8]
def Y1:ai:=[
 n 8 34,
 a 1 1 35 [],
 l 35 36 [1],
 N 36 37 [2],
 b .lss 34 37 38 [0,3]]
def Y2:ai:=[
 a 1 1 41 [],
 l 41 42 [0],
 n 8 43,
 x 5 42 43 44 [1,2],
 L 5 44 45 [3],
 o (.alloc [V 0,.aW,V 0,V 0,V 0]) 9 [],
 S 5 9 45 (k [5,4] 5)]
def Is:ai:=[
 a 2 9 46 [],
 l 46 47 [0],
 L 5 9 48 [],
 n 4 49,
 o (.callF 96 [(t 48),(t 49)]) 50 [2,3],
 o (.call 95 [(t 47),(t 50)]) 51 [1,4,4],
 o (.alloc [V 0,V 0]) 10 [],
 S 2 10 51 (k [6,5,5] 6)]
def d66r13:ai:=Is.map bare
def Y3:ai:=[
 L 2 10 52 [],
 n 4 53,
 a 0 9 54 [],
 l 54 55 [2],
 x 2 53 55 56 [1,3],
 L 2 56 57 [4],
 o (.call 97 [(t 52),(t 57)]) 58 [0,5]]
def Y4:ai:=[
 n 4 59,
 a 0 9 60 [],
 l 60 61 [1],
 L 2 10 62 [],
 x 2 59 61 63 [0,2,0,1,2,3],
 S 2 63 62 [4,3,0,1,2,3]]
def Y5:ai:=[
 R 7]
def OL:ai:=[
 n 8 39,
 C .add 39 1 40 [0],
 m 40 8 [1,0,1]]
def Y6:ai:=[
 a 1 1 64 [],
 l 64 65 [0],
 N 65 66 [1],
 C .sub 66 1 67 [2],
 m 67 11 [3,0,1,2,3]]
def Y7:ai:=[
 n 11 68,
 C .geq 68 0 69 [0]]
def Y8:ai:=[
 a 1 1 72 [],
 l 72 73 [0],
 n 11 74,
 x 5 73 74 75 [1,2],
 L 5 75 76 [3],
 o (.alloc [V 0,.aW,V 0,V 0,V 0]) 12 [],
 S 5 12 76 (k [5,4] 5)]
def Y9:ai:=[
 n 4 77,
 a 0 12 78 [],
 l 78 79 [1],
 x 2 77 79 80 [0,2],
 L 2 80 81 [3],
 o (.alloc [V 0,V 0]) 13 [],
 S 2 13 81 (k [5,4] 5)]
def yL:ai:=[
 a 0 13 82 [],
 l 82 83 [0],
 C .lss 83 1099511627776 84 [1],
 m 84 85 [2],
 u 2 12 86 85 true [3],
 v 86 87 85 true [4,3],
 g (.load 5 true (t 12)) 88 85 true [3],
 w 4 89 85 true [3],
 g (.callF 96 [(t 88),(t 89)]) 90 85 true [6,7,3,3],
 g (.call 95 [(t 87),(t 90)]) 91 85 true [5,8,8,3],
 g (.load 2 true (t 13)) 92 85 true [3],
 g (.eqT false true [(.int .i64),(.int .i64)] (t 91) (t 92)) 93 85 true [9,10,3],
 q 85 93 94 [3,11]]
def d66r22:ai:=yL.map bare
def Za:ai:=[
 n 5 95,
 a 0 12 96 [],
 l 96 97 [1],
 n 11 98,
 x 1 95 97 99 [0,2,0,1,2,3],
 S 1 99 98 [4,3,0,1,2,3]]
def OM:ai:=[
 n 11 70,
 C .sub 70 1 71 [0],
 m 71 11 [1,0,1]]
def Zb:ai:=[
 n 4 100,
 n 5 101,
 m 100 2 [0,0],
 m 101 3 [1,2,0,1,2]]
def d66:DC:=(j (y d66r0) (j (y d66r1) (j (y d66r2) (j (j (y d66r3) (.block 0 (.loop (j (j (y d66r4) (.cond (.tmp 23) .skip (.exit 0))) (j (.block 1 (y d66r5)) (y d66r6)))))) (j (j (y d66r7) (.block 2 (.loop (j (j (y d66r8) (.cond (.tmp 33) .skip (.exit 2))) (.block 3 (j (y d66r9) (j (y Y0) (.block 4 (.loop (j (j (y Y1) (.cond (.tmp 38) .skip (.exit 4))) (j (.block 5 (j (y Y2) (j (Y d66r13) (j (Y Y3) (.cond (.tmp 58) (j (y Y4) (y Y5)) .skip))))) (y OL)))))))))))) (j (j (y Y6) (.block 6 (.loop (j (j (y Y7) (.cond (.tmp 69) .skip (.exit 6))) (j (.block 7 (j (y Y8) (j (y Y9) (j (Y d66r22) (.cond (.tmp 94) (y Za) .skip))))) (y OM)))))) (j (y Zb) .ret)))))))
def Zc:List bV:=[.da 2,.da 3]
def c66 [bI]:aB aj 61 102 d66 Zc:=aB.of Tryz.f61 (by kernel_rfl)
def d93r0:ai:=[
 B 0 1,
 Z 2]
def d93r1:ai:=[
 a 0 1 3 [],
 l 3 4 [0]]
def d93r2:ai:=[
 C .eql 4 3 6 [],
 m 6 5 [0]]
def d93r3:ai:=[
 a 2 1 7 [],
 l 7 8 [0],
 o (.bslice 1 1 [V 0] [(0,1,(t 8))]) 9 [1],
 m 9 2 [2,0,1,2]]
def d93r4:ai:=[
 C .eql 4 4 11 [],
 m 11 10 [0]]
def d93r5:ai:=[
 a 2 1 12 [],
 l 12 13 [0],
 a 3 1 14 [],
 l 14 15 [2],
 o (.bslice 2 1 [V 0,V 0] [(0,1,(t 13)),(1,1,(t 15))]) 16 [1,3],
 m 16 2 (k [4] 4)]
def d93r6:ai:=[
 Z 2]
def d93:DC:=(j (y d93r0) (j (j (y d93r1) (.block 0 (j (y d93r2) (.cond (.tmp 5) (j (y d93r3) .ret) (j (y d93r4) (.cond (.tmp 10) (j (y d93r5) .ret) .skip)))))) (j (y d93r6) .ret)))
def Iu:List bV:=[.da 2]
def c93 [bI]:aB aj 98 17 d93 Iu:=aB.of Tryz.f98 (by kernel_rfl)
def d67r0:ai:=[
 B 0 2,
 o (.alloc [V 0,.aW]) 4 []]
def d67r1:ai:=[
 Z 5]
def d67r2:ai:=[
 I 0 6]
def d67r3:ai:=[
 n 6 9,
 a 3 2 10 [],
 l 10 11 [1],
 N 11 12 [2],
 b .lss 9 12 13 [0,3]]
def d67r4:ai:=[
 a 3 2 16 [],
 l 16 17 [0],
 n 6 18,
 x 6 17 18 19 [1,2],
 L 6 19 20 [3],
 o (.alloc [V 0,V 0,V 0,V 0,V 0,V 0]) 7 [],
 S 6 7 20 (k [5,4] 5)]
def d67r5:ai:=[
 a 4 7 21 [],
 l 21 22 [0],
 m 22 8 [1,0,1]]
def d67r6:ai:=[
 a 0 7 23 [],
 l 23 24 [0],
 C .eql 24 2 25 [1]]
def d67r7:ai:=[
 n 8 26,
 n 1 27,
 a 2 7 28 [],
 l 28 29 [2],
 x 1 27 29 30 [1,3],
 l 30 31 [4],
 b .add 26 31 32 [0,5],
 m 32 8 (k [6] 6)]
def Zd:ai:=[
 n 5 33,
 a 1 7 34 [],
 l 34 35 [1],
 L 6 7 36 [],
 o (.call 98 [(t 36)]) 37 [3],
 n 8 38,
 o (.build [V 0,.aW,V 0,V 0,V 0] [(0,1,(t 35)),(1,1,(t 37)),(2,1,(t 38))]) 39 [2,4,5],
 o (.bslice 1 5 [V 0,.aW,V 0,V 0,V 0] [(0,5,(t 39))]) 40 [6],
 o (.append 157 5 56 (t 33) (t 40)) 41 [0,7,4],
 m 41 5 (k [8,8] 8)]
def Ze:ai:=[
 n 6 14,
 C .add 14 1 15 [0],
 m 15 6 [1,0,1]]
def Zf:ai:=[
 a 1 2 42 [],
 l 42 43 [0],
 n 5 44,
 o (.build [V 0,.aW] [(0,1,(t 43)),(1,1,(t 44))]) 45 [1,2],
 S 2 4 45 [3,0,1,2,3]]
def d67:DC:=(j (y d67r0) (j (y d67r1) (j (j (y d67r2) (.block 0 (.loop (j (j (y d67r3) (.cond (.tmp 13) .skip (.exit 0))) (j (.block 1 (j (y d67r4) (j (y d67r5) (j (j (y d67r6) (.cond (.tmp 25) (y d67r7) .skip)) (Y Zd))))) (y Ze)))))) (j (y Zf) .ret))))
def Zg:List bV:=[.cell 4 2 true]
def c67 [bI]:aB aj 62 46 d67 Zg:=aB.of Tryz.f62 (by kernel_rfl)
def d44r0:ai:=[
 B 0 2,
 F 4]
def d44r1:ai:=[
 n 1 6,
 N 6 7 [0],
 a 0 2 8 [],
 l 8 9 [2],
 b .neq 7 9 10 [1,3]]
def d44r2:ai:=[
 F 4]
def d44r3:ai:=[
 I 0 5]
def d44r4:ai:=[
 n 5 11,
 n 1 12,
 N 12 13 [1],
 b .lss 11 13 14 [0,2]]
def QY:ai:=[
 n 1 17,
 n 5 18,
 x 1 17 18 19 [0,1],
 l 19 20 [2],
 C .lss 20 1 21 [3],
 m 21 22 [4],
 w 1 23 22 false [5],
 w 5 24 22 false [5],
 g (.idxAddr 1 (t 23) (t 24)) 25 22 false [6,7,5],
 v 25 26 22 false [8,5],
 E .gtr 26 60000 27 22 false [9,5],
 p 22 27 28 [5,10]]
def d44r6:ai:=[
 F 4]
def d44r7:ai:=[
 n 5 15,
 C .add 15 1 16 [0],
 m 16 5 [1,0,1]]
def d44r8:ai:=[
 R 4]
def d44:DC:=(j (y d44r0) (j (j (y d44r1) (.cond (.tmp 10) (j (y d44r2) .ret) .skip)) (j (j (y d44r3) (.block 0 (.loop (j (j (y d44r4) (.cond (.tmp 14) .skip (.exit 0))) (j (.block 1 (j (y QY) (.cond (.tmp 28) (j (y d44r6) .ret) .skip))) (y d44r7)))))) (j (y d44r8) .ret))))
def Iv:List bV:=[.da 4]
def c44 [bI]:aB aj 35 29 d44 Iv:=aB.of Tryz.f35 (by kernel_rfl)
def K8:ai:=[
 B 0 2,
 Z 4]
def Ed:ai:=[
 L 4 2 7 [],
 o (.call 34 [(t 7)]) 8 [0],
 U 8 9 [1],
 m 9 10 [2,1],
 g (.load 4 true (t 2)) 11 10 false [3],
 w 1 12 10 false [3],
 g (.call 35 [(t 11),(t 12)]) 13 10 false [4,5,3,3],
 K 13 14 10 false [6,3],
 p 10 14 15 [3,7]]
def K9:ai:=[
 Z 4]
def La:ai:=[
 L 4 2 17 [],
 n 1 18,
 o (.call 62 [(t 17),(t 18)]) 19 [0,1],
 o (.call 61 [(t 19)]) 20 [2,2],
 m 20 16 [3],
 e 0 16 21 [4],
 e 1 16 22 [4],
 m 21 5 (k [5,3] 5),
 m 22 6 (k [6,7] 7)]
def Lb:ai:=[
 n 5 23,
 m 23 4 [0,0]]
def d45:DC:=(j (y K8) (j (j (y Ed) (.cond (.tmp 15) (j (y K9) .ret) .skip)) (j (y La) (j (y Lb) .ret))))
def wT:List bV:=[.da 4]
def c45 [bI]:aB aj 36 24 d45 wT:=aB.of Tryz.f36 (by kernel_rfl)
def d22r0:ai:=[
 B 0 2,
 F 4]
def QZ:ai:=[
 L 4 2 7 [],
 o (.call 34 [(t 7)]) 8 [0],
 U 8 9 [1],
 m 9 10 [2,1],
 g (.load 4 true (t 2)) 11 10 false [3],
 w 1 12 10 false [3],
 g (.call 35 [(t 11),(t 12)]) 13 10 false [4,5,3,3],
 K 13 14 10 false [6,3],
 p 10 14 15 [3,7]]
def d22r2:ai:=[
 F 4]
def d22r3:ai:=[
 L 4 2 16 [],
 n 1 17,
 o (.call 36 [(t 16),(t 17)]) 18 [0,1],
 m 18 5 [2,2,0,1,2]]
def d22r4:ai:=[
 I 0 6]
def d22r5:ai:=[
 n 6 19,
 n 5 20,
 N 20 21 [1],
 b .lss 19 21 22 [0,2]]
def d22r6:ai:=[
 n 5 25,
 n 6 26,
 x 2 25 26 27 [0,1],
 a 1 27 28 [2],
 l 28 29 [3],
 C .gtr 29 1000 30 [4]]
def d22r7:ai:=[
 F 4]
def d22r8:ai:=[
 n 6 23,
 C .add 23 1 24 [0],
 m 24 6 [1,0,1]]
def d22r9:ai:=[
 R 4]
def d22:DC:=(j (y d22r0) (j (j (y QZ) (.cond (.tmp 15) (j (y d22r2) .ret) .skip)) (j (y d22r3) (j (j (y d22r4) (.block 0 (.loop (j (j (y d22r5) (.cond (.tmp 22) .skip (.exit 0))) (j (.block 1 (j (y d22r6) (.cond (.tmp 30) (j (y d22r7) .ret) .skip))) (y d22r8)))))) (j (y d22r9) .ret)))))
def Iw:List bV:=[.da 4]
def c22 [bI]:aB aj 22 31 d22 Iw:=aB.of Tryz.f22 (by kernel_rfl)
def d20r0:ai:=[
 B 0 1,
 F 2]
def yM:ai:=[
 a 0 1 6 [],
 l 6 7 [0],
 C .lss 7 0 8 [1],
 m 8 9 [2],
 u 0 1 10 9 false [3],
 v 10 11 9 false [4,3],
 E .gtr 11 120 12 9 false [5,3],
 p 9 12 13 [3,6],
 m 13 14 [7,3],
 u 1 1 15 14 false [8],
 v 15 16 14 false [9,8],
 E .lss 16 1 17 14 false [10,8],
 p 14 17 18 [8,11],
 m 18 19 [12,8],
 u 1 1 20 19 false [13],
 v 20 21 19 false [14,13],
 E .gtr 21 1000 22 19 false [15,13],
 p 19 22 23 [13,16],
 m 23 24 [17,13],
 u 2 1 25 24 false [18],
 v 25 26 24 false [19,18],
 E .lss 26 0 27 24 false [20,18],
 p 24 27 28 [18,21],
 m 28 29 [22,18],
 u 2 1 30 29 false [23],
 v 30 31 29 false [24,23],
 u 1 1 32 29 false [23],
 v 32 33 29 false [26,23],
 D .geq 31 33 34 29 false [25,27,23],
 p 29 34 35 [23,28],
 m 35 36 [29,23],
 u 3 1 37 36 false [30],
 v 37 38 36 false [31,30],
 H 38 39 36 false [32,30],
 E .gtr 39 600 40 36 false [33,30],
 p 36 40 41 [30,34]]
def d20r2:ai:=[
 F 2]
def d20r3:ai:=[
 I 0 3]
def d20r4:ai:=[
 n 3 42,
 a 3 1 43 [],
 l 43 44 [1],
 N 44 45 [2],
 b .lss 42 45 46 [0,3]]
def d20r5:ai:=[
 a 3 1 49 [],
 l 49 50 [0],
 n 3 51,
 x 6 50 51 52 [1,2],
 L 6 52 53 [3],
 o (.alloc [V 0,V 0,V 0,V 0,V 0,V 0]) 4 [],
 S 6 4 53 (k [5,4] 5)]
def Ee:ai:=[
 a 1 4 54 [],
 l 54 55 [0],
 C .lss 55 0 56 [1],
 m 56 57 [2],
 u 1 4 58 57 false [3],
 v 58 59 57 false [4,3],
 u 1 1 60 57 false [3],
 v 60 61 57 false [6,3],
 D .geq 59 61 62 57 false [5,7,3],
 p 57 62 63 [3,8],
 m 63 64 [9,3],
 u 4 4 65 64 false [10],
 v 65 66 64 false [11,10],
 E .lss 66 0 67 64 false [12,10],
 p 64 67 68 [10,13],
 m 68 69 [14,10],
 u 4 4 70 69 false [15],
 v 70 71 69 false [16,15],
 E .gtr 71 1000 72 69 false [17,15],
 p 69 72 73 [15,18],
 m 73 74 [19,15],
 u 5 4 75 74 false [20],
 v 75 76 74 false [21,20],
 E .lss 76 (-1) 77 74 false [22,20],
 p 74 77 78 [20,23]]
def d20r7:ai:=[
 F 2]
def d20r8:ai:=[
 F 5]
def d20r9:ai:=[
 a 0 4 79 [],
 l 79 80 [0]]
def Zh:ai:=[
 C .eql 80 1 82 [],
 m 82 81 [0]]
def Ix:ai:=[
 a 2 4 83 [],
 l 83 84 [0],
 C .eql 84 0 85 [1],
 m 85 86 [2],
 u 3 4 87 86 true [3],
 v 87 88 86 true [4,3],
 E .eql 88 0 89 86 true [5,3],
 q 86 89 90 [3,6],
 m 90 5 (k [7,3] 7)]
def Zi:ai:=[
 C .eql 80 2 92 [],
 m 92 91 [0]]
def Ef:ai:=[
 a 2 4 93 [],
 l 93 94 [0],
 C .geq 94 0 95 [1],
 m 95 96 [2],
 u 2 4 97 96 true [3],
 v 97 98 96 true [4,3],
 u 0 1 99 96 true [3],
 v 99 100 96 true [6,3],
 D .lss 98 100 101 96 true [5,7,3],
 q 96 101 102 [3,8],
 m 102 103 [9,3],
 u 3 4 104 103 true [10],
 v 104 105 103 true [11,10],
 E .eql 105 0 106 103 true [12,10],
 q 103 106 107 [10,13],
 m 107 5 (k [14,10] 14)]
def Zj:ai:=[
 C .eql 80 3 109 [],
 m 109 108 [0]]
def Eg:ai:=[
 a 2 4 110 [],
 l 110 111 [0],
 C .geq 111 0 112 [1],
 m 112 113 [2],
 u 2 4 114 113 true [3],
 v 114 115 113 true [4,3],
 u 1 1 116 113 true [3],
 v 116 117 113 true [6,3],
 D .lss 115 117 118 113 true [5,7,3],
 q 113 118 119 [3,8],
 m 119 120 [9,3],
 u 3 4 121 120 true [10],
 v 121 122 120 true [11,10],
 E .eql 122 0 123 120 true [12,10],
 q 120 123 124 [10,13],
 m 124 5 (k [14,10] 14)]
def Zk:ai:=[
 C .eql 80 4 126 [],
 m 126 125 [0]]
def Ax:ai:=[
 a 2 4 127 [],
 l 127 128 [0],
 C .geq 128 0 129 [1],
 m 129 130 [2],
 u 2 4 131 130 true [3],
 v 131 132 130 true [4,3],
 u 1 1 133 130 true [3],
 v 133 134 130 true [6,3],
 D .lss 132 134 135 130 true [5,7,3],
 q 130 135 136 [3,8],
 m 136 137 [9,3],
 u 3 4 138 137 true [10],
 v 138 139 137 true [11,10],
 E .geq 139 0 140 137 true [12,10],
 q 137 140 141 [10,13],
 m 141 142 [14,10],
 u 3 4 143 142 true [15],
 v 143 144 142 true [16,15],
 u 1 1 145 142 true [15],
 v 145 146 142 true [18,15],
 D .lss 144 146 147 142 true [17,19,15],
 q 142 147 148 [15,20],
 m 148 5 (k [21,15] 21)]
def Ay:ai:=[
 n 5 149,
 U 149 150 [0]]
def Az:ai:=[
 F 2]
def AA:ai:=[
 n 3 47,
 C .add 47 1 48 [0],
 m 48 3 [1,0,1]]
def Zl:ai:=[
 R 2]
def d20:DC:=(j (y d20r0) (j (j (y yM) (.cond (.tmp 41) (j (y d20r2) .ret) .skip)) (j (j (y d20r3) (.block 0 (.loop (j (j (y d20r4) (.cond (.tmp 46) .skip (.exit 0))) (j (.block 1 (j (y d20r5) (j (j (y Ee) (.cond (.tmp 78) (j (y d20r7) .ret) .skip)) (j (y d20r8) (j (j (y d20r9) (.block 2 (j (y Zh) (.cond (.tmp 81) (y Ix) (j (y Zi) (.cond (.tmp 91) (y Ef) (j (y Zj) (.cond (.tmp 108) (y Eg) (j (y Zk) (.cond (.tmp 125) (y Ax) .skip)))))))))) (j (y Ay) (.cond (.tmp 150) (j (y Az) .ret) .skip))))))) (y AA)))))) (j (y Zl) .ret))))
def sF:List bV:=[.da 2]
def c20 [bI]:aB aj 34 151 d20 sF:=aB.of Tryz.f34 (by kernel_rfl)
end cC
end Go.Proofs
