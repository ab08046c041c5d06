/- Part. Conditions: none. -/
import Derived.Test.YtbmaafemenldnaaGreatDoorYad
import Derived.Shelf.SlSortCmp.NoneTotal
import Derived.ChangeArms
import Derived.ChangeStays
import Derived.ChangeSame
import Derived.RowKit
import Derived.OpenShut
import Derived.Test.YtbmaafemenldnaaGreatDoorProg
set_option linter.all false
set_option maxRecDepth 100000
set_option maxHeartbeats 8000000
namespace Go.DM
open Go.RowKit
section
variable{ab:bS}{r:Nat}{P:Program}
variable [bD] [dF]
abbrev tI(n:Int):T:=.int .i64 n
abbrev og(k:Nat):Type:={l:ba//l.length=k}
instance(k:Nat):Inhabited (og k):=⟨⟨List.replicate k 0,by simp⟩⟩
def p9{k:Nat}(x:og k):List Value:=x.1.map (Value.int .i64)
def iZ{k:Nat}(x:og k):aG:=x.1.map tI
def R5{w w':World}(h:xl w.heap.size w w'):∃q os',w'=Go.Sort.grow (w.drewN q) os':=by
 refine⟨w'.drawn-w.drawn,w'.heap.extract w.heap.size w'.heap.size, ?_⟩;obtain⟨⟨h1,h2,h3,h4,h5⟩,h6⟩:=h;cases w with
 |mk heap tape drawn os output=>
  cases w' with
  |mk av0 av1 at0 os' atq=>
   simp only at h1 h2 h3 h4 h5 h6;subst h1 h2 h3;simp only[Go.Sort.grow,World.drewN,World.mk.injEq,ZI,Em];refine⟨?_,by omega⟩;apply Array.ext_getElem?;intro k;rw[Array.getElem?_append];split
   .rename_i hk;exact h5 k hk
   .rename_i hk;rw[Array.getElem?_extract];split
    .rw[show heap.size+(k-heap.size)=k by omega]
    .rename_i h7;rw[Array.getElem?_eq_none (by omega)]
def uS{w:World}{W:fm}:∀l:ba,dt w W (l.map tI) (l.map (Value.int .i64))
 |[]=>by simp[dt]
 |n::l=>by
  simp only[vG,dt];exact⟨_,_,rfl,rfl,by simp[be],uS l⟩
def xR{w:World}{W:fm}:∀{l:ba} {vs:List Value},dt w W (l.map tI) vs->vs=l.map (Value.int .i64)
 |[],vs,h=>by simpa [dt]using h
 |n::l,vs,h=>by
  simp only[vG,dt]at h;obtain⟨v,jz,rfl,_,h1,h2⟩:=h;simp only[be]at h1;rw[h1,xR h2];rfl
def Ah{α:Type}{sz:Nat}:∀{aC:List (List α)} {j:Nat},(∀r∈aC,r.length=sz)->aC.flatten[j]? =(aC[j/sz]?).bind λr=>r[j % sz]?
 |[],j,_=>by simp
 |r::aC,j,h=>by
  have hr:=h r (by simp);by_cases hs:sz=0
  .subst hs;have:∀x∈r::aC,x=[]:=λx hx=>Zcj.1 (h x hx);have h2:(r::aC).flatten=[]:=by
    rw[List.flatten_eq_nil_iff];exact this
   rw[h2];simp[this r (by simp)]
  rw[Th,Zdf];split
  .rename_i hj;rw[hr]at hj;rw[Nat.div_eq_of_lt hj,Zda hj];simp
  .rename_i hj;rw[hr]at hj;rw[hr,Ah λx hx=>h x (by simp[hx])];obtain⟨i,rfl⟩:∃i,j=i+sz:=⟨j-sz,by omega⟩;rw[ZcZ,Nat.add_div_right i (by omega),Nat.add_mod_right];rw[Ou]
def CK{k:Nat}(D:List (og k)):(Go.Sort.flatK p9 k D.toArray).toList=((D.map (·.1)).flatten).map (Value.int .i64):=by
 have hl:∀r∈D.map (·.1),r.length=k:=by
  intro r hr;obtain⟨x,_,rfl⟩:=sE.1 hr;exact x.2
 have amh:(D.map (·.1)).flatten.length=D.length*k:=by
  clear hl;induction D with
  |nil=>simp
  |cons x D ih=>simp only[vG,Th,nH,x.2,ih,B8,Fb];omega
 apply Zb0;intro j;by_cases hj:j<D.length*k
 .have Fh:0<k:=by
   cases k with
   |zero=>simp at hj
   |succ k=>omega
  have h1:j/k<D.length:=Nat.div_lt_of_lt_mul (by rwa [Nat.mul_comm]);have h2:j % k<k:=Nat.mod_lt _ Fh;have jc:j<(Go.Sort.flatK p9 k D.toArray).size:=by simpa using hj
  rw[ZbH,Ah hl,ZbH,mM h1];simp only[Rp,ZcO];have h3:=Go.Sort.get_flatK p9 k D.toArray j (by simpa using hj);rw[Zb9,ZbV jc];rw[getElem!_pos _ j jc]at h3;rw[h3];have h4:D.toArray[j/k]! =D[j/k]:=by rw[getElem!_pos _ _ (by simpa using h1)];simp
  rw[h4];have h5:j % k<(D[j/k]).1.length:=by rw[(D[j/k]).2];exact h2
  unfold p9;rw[getElem!_pos _ _ (by simpa using h5)];simp[h5]
 .rw[Ls (by simpa using hj),Ls (by rw[we,amh];omega)]
def Fi{k:Nat}(D:List (og k)):(D.map iZ).flatten=((D.map (·.1)).flatten).map tI:=by
 induction D with
 |nil=>rfl
 |cons x D ih=>simp only[vG,Th,ih,Lc];rfl
def qY{o:Ob}(h:ab r=some o):dx ab r o=ab:=by
 funext k;rw[ME];split
 .rename_i e;rw[e,h]
 .rfl
def Vf{g:FuncId}{k:Nat}{x y:og k}{c:Int}(hg: @aJ bD.none P g [.agg (iZ x),.agg (iZ y)] (tI c))(w:World):
  Calls P g (#[.agg (p9 x).toArray,.agg (p9 y).toArray]++ #[]) w λe w'=>e=.returned (.int .i64 c)/\∃q os',w'=Go.Sort.grow (w.drewN q) os':=by
 rw[Zb8];refine(@aJ.aea bD.none OM P g _ _ hg w #[.agg (p9 x).toArray,.agg (p9 y).toArray] (BY.empty _ _) ?_).mono ?_
 .show eS w (λ_=>False) [.agg (iZ x),.agg (iZ y)] [.agg (p9 x).toArray,.agg (p9 y).toArray];simp only[eS];exact⟨_,_,rfl,⟨_,rfl,uS x.1⟩,_,_,rfl,⟨_,rfl,uS y.1⟩,rfl⟩
 .rintro e' w' ⟨v,rfl,hb,hv⟩;simp only[be]at hv;subst hv;exact⟨rfl,R5 hb⟩
def Ai{k:Nat}(cf:og k->og k->Int)(D:List (og k)):List (og k):=D.mergeSort λx y=> !(Go.Proofs.ltOf cf) y x
open Go.Proofs Go.Sort in
def Jq{ρ:Go.Shelf.Ren}(Lay:SlLaysF0.n6 P ρ){k:Nat}(hk:0<k)(aE:∀w,(isAgg (ρ.t 24)).run P w=.ok true w)(zE:∀w,(Go.sizeOf (ρ.t 24)).run P w=.ok k w)
  {g:FuncId} {cf:og k->og k->Int} (hg:∀x y:og k, @aJ bD.none P g [.agg (iZ x),.agg (iZ y)] (tI (cf x y))) (hO:Go.Sort.SWO (ltOf cf)) (hT:∀x y,(ltOf cf) x y=false->(ltOf cf) y x=false->x=y)
  (D:List (og k)) {bG e:Nat} (eH:ab r=some (.bm bG e k (D.map iZ))) (ct:D.length<4611686018427387904):
  ce P (ρ.f 6) [.aW r bG,.v (.fn (.func g) [])] ab ⟨True,.v (.dh []),dx ab r (.bm bG e k ((Ai cf D).map iZ))⟩:=by
 have eg:∀args w,(callFunc g args).run P w=.ok (.enter g args) w:=by
  obtain⟨fn,h1,h2,h3⟩:= @aJ.entry bD.none _ _ _ _ (hg default default);cases hb:fn.body with
  |none=>rw[hb]at h3;cases h3
  |some c=>exact enters_of h1 (by simpa using h2) hb
 refine⟨?_,λbase W M w0 w L cT Tp hr=>?_⟩
 .obtain⟨nm,hn,hf⟩:=Lay.f6;exact⟨_,hf,by simpa using hn,rfl⟩
 obtain⟨ql,qd⟩:=hr;obtain⟨x,f,qN⟩:∃x f,cT.toList=[x,f]:=by
  match qN:cT.toList,ql with
  |[x,f],_=>exact⟨x,f,rfl⟩
 have ami:cT= #[x,f]:=Array.ext' (by simpa using qN);subst ami;have hx:=qd 0 _ x rfl rfl;have hf:=qd 1 _ f rfl rfl;simp only[aD,be]at hf;obtain⟨cv,rfl,sM⟩:=hf;have sM:cv= #[]:=by
  simp only[dt]at sM;exact Array.ext' (by simpa using sM)
 subst sM;simp only[aD]at hx;obtain⟨_,bM,e',jt,eN,amj,av9,ov⟩:=hx;rw[eH]at amj;cases amj;have ov:=ov rfl;subst ov;obtain⟨jc,cK,hm,mE⟩:=Tp.ob r _ eH;have xw:(Ai cf D).length=D.length:=List.length_mergeSort ..;rcases mE with⟨aav,a,ha⟩|⟨g',cap,eJ,hv,hp,hh,io,tN,Gx,ip⟩
 .rw[ha];refine(AnyF.slices_SortFunc_none Lay a 0 _ w).mono ?_;rintro e' w' ⟨rfl,rfl⟩;have hD:D=[]:=by simpa using aav
  subst hD;have hs:Ai cf []=[]:=by simp[Ai]
  rw[hs,qY eH];exact⟨_,L,rfl,Tp,jA.cS (c8.refl _ _),by simp[aD,be,eS]⟩
 .rw[hv];have Z2:g'<w.heap.size:=(cM.1 hh).1;rw[Fi]at ip;have oW:=xR ip;rw[<-CK]at oW;have af0:∀j,w.cell? ⟨g',j,none⟩=eJ[j]? :=by
   intro j;simp only[World.cell?,hh];rfl
  have hH:HoldsK p9 k w g' 0 D.toArray:=by
   intro j hj;refine⟨?_, ?_⟩
   .rw[Ow,af0];have h1:=congrArg (λl:List Value=>l[j]?) oW;have hj2:j<(D.map iZ).length*k:=by simpa using hj
    rw[L7,ee hj2,Zb9,Zb9,ZbV hj]at h1;rw[h1,getElem!_pos _ j hj];rfl
   .simp only[World.frozen?,hh];simp
  have amk:CmpLays P g #[] p9 k cf g' 0 D.toArray.size w:=by
   intro m os dk hdk x y;obtain⟨w1,hw1⟩:=aY (sortWorldK p9 k w g' 0 m dk os);rw[hw1];exact Vf (hg x y) w1
  have rF:=AnyQ.slices_SortFunc_total Lay k aE zE p9 (λx=>by simp[p9,x.2]) (λx v hv=>by
   simp only[p9,sE]at hv;obtain⟨n,_,rfl⟩:=hv;rfl) cf hO g #[] g' 0 cap D.toArray w eg amk hH Z2 (by simpa using ct) hT
  rw[show(D.map iZ).length=D.toArray.size by simp];refine rF.mono ?_;rintro e' w' ⟨rfl,n,os,rfl⟩;refine⟨_,L,rfl, ?_⟩;obtain⟨S,hS⟩:=aY (Ai cf D);have hS2:(D.toArray.toList.mergeSort λx y=> !(ltOf cf) y x).toArray=S.toArray:=by rw[<-hS];rfl
  rw[hS2];rw[hS]at xw⊢;obtain⟨F,hF⟩:=aY (flatK p9 k S.toArray);have hFs:F.size=D.length*k:=by rw[<-hF];simp[xw]
  have hFl:F.toList=((S.map (·.1)).flatten).map (Value.int .i64):=by rw[<-hF];exact CK S
  have mZ:(D.map iZ).length*k<=eJ.size:=by rw[Gx];exact Ec k io
  have awa:D.length*k<=eJ.size:=by simpa using mZ
  have Vg:∀b:Nat,b<w.heap.size->(sortWorldK p9 k w g' 0 n S.toArray os).heap[b]? =if b=g' then some (.cells (Go.Sort.putCells id 0 F eJ) e (0,0))else w.heap[b]? :=by
   intro b hb;have jZ:b<(putRowK p9 k (Go.Sort.ahead w n) g' 0 S.toArray).heap.size:=by
    simp[Go.Sort.putRowK,Go.Sort.putRow,Go.Sort.mapBlock,Go.Sort.ahead,hb]
   simp only[sortWorldK,Go.Sort.grow];rw[Zdu jZ];simp only[putRowK,Go.Sort.putRow,Go.Sort.mapBlock,Go.Sort.ahead,hF,Array.getElem?_modify];by_cases e1:b=g'
   .subst e1;rw[ee rfl,ee rfl,hh];rfl
   .rw[iK (λh=>e1 h.symm),iK e1]
  have vJ:w.heap.size<=(sortWorldK p9 k w g' 0 n S.toArray os).heap.size:=by
   simp[sortWorldK,Go.Sort.grow,putRowK,Go.Sort.putRow,Go.Sort.mapBlock,Go.Sort.ahead]
  have iW:L.own r (.bm bG e k (D.map iZ))=some g':=by simp[Loc.own,hv,bk,Et.1 hp]
  have Cd:∀j,(Go.Sort.putCells id 0 F eJ)[j]? =if j<F.size then F[j]? else eJ[j]? :=by
   intro j;simp only[Go.Sort.putCells,Array.getElem?_mapIdx];by_cases hj:j<F.size
   .rw[ee hj,ZbV (show j<eJ.size by omega),ZbV hj];simp[hj]
   .rw[iK hj];cases eJ[j]? with
    |none=>rfl
    |some v=>simp;intro h;omega
  have kc:Fr base M w0 (sortWorldK p9 k w g' 0 n S.toArray os):=by
   refine Tp.fr.trans ⟨rfl,rfl,rfl,zN Tp.fr.jN Tp.fr.size,vJ,λb hb Rr=>?_,by simp[sortWorldK,Go.Sort.grow,putRowK,Go.Sort.putRow,Go.Sort.mapBlock,Go.Sort.ahead]⟩;have hbw:b<w.heap.size:=ze hb (zN Tp.fr.jN Tp.fr.size);rw[Vg b hbw,iK];rintro rfl;rcases hm b (by simp[hv,bk,Et.1 hp])with h|h
   .omega
   .exact Rr h
  have vu:=ci.put (r:=r) (o':=.bm bG e k (S.map iZ)) (L':=L) Tp kc vJ (λ_ _=>⟨rfl,rfl⟩) rfl
   (λb hb dd=>by rw[Vg b hb,iK];rintro rfl;exact dd _ eH iW)
   (λb hb=>.inl ⟨_,eH,hb⟩) (λo' j5 wi=>by rw[eH]at j5;cases j5;exact qe rfl wi)
   (λbM e' jt eN h=>by rw[eH]at h;cases h;exact⟨bG,e,k,_,rfl,gJ _,λ_=>⟨rfl,rfl,by simp[xw]⟩⟩)
   (λgq=>by
    refine⟨jc,λx hx=>?_,hm,.inr ⟨g',cap,Go.Sort.putCells id 0 F eJ,by rw[hv];simp[xw],hp,by rw[Vg g' Z2,ee rfl],by simpa [xw]using io,tN,by simpa [Go.Sort.putCells]using Gx, ?_⟩⟩
    .obtain⟨y,_,rfl⟩:=sE.1 hx;simp[iZ,y.2]
    .rw[Fi];have e1:(Go.Sort.putCells id 0 F eJ).toList.take ((S.map iZ).length*k)=((S.map (·.1)).flatten).map (Value.int .i64):=by
      rw[<-hFl];apply Zb0;intro j;rw[L7,we,xw,Zb9,Zb9,Cd,hFs];by_cases hj:j<D.length*k
      .simp[hj]
      .rw[iK hj,Array.getElem?_eq_none (by omega)]
     rw[e1];exact uS _)
  rw[show cC ab (some (r,.bm bG e k (S.map iZ)))=dx ab r (.bm bG e k (S.map iZ))from rfl]at vu;exact⟨vu.1,vu.2,by simp[aD,be,eS]⟩
end
open Go.RowKit Go.ChangeShapes Go.WideShapes
section
variable{sp:Nat->Bool}{held:Bool}{base:Nat}
variable [bD]
def ny(P:Program)(L:List TypeId):Nat->List Field->Nat->Bool
 |o,[],n=>o==n
 |o,f::fs,n=>f.offset==o&&L.contains f.type&&ny P L (o+P.cellsOf f.type) fs n
def uO(P:Program)(L:List TypeId)(t:TypeId):Bool:=
 match P.underlying t with
 |some .bool|some (.int _)|some .string=>true
 |some (.slice e)=>L.contains e&&decide (0<P.cellsOf e)
 |some (.struct fs)=>ny P L 0 fs.toList (P.cellsOf t)
 |some (.array n e)=>L.contains e&&P.cellsOf t==n*P.cellsOf e
 |_=>false
def nz(P:Program)(L:List TypeId):Bool:=L.all (uO P L)
def o7(q:TypeId->aG->Prop):List TypeId->aG->Prop
 |[],ts=>ts=[]
 |t::yW,ts=>∃a b,ts=a++b/\q t a/\o7 q yW b
def ko(P:Program):Nat->TypeId->aG->Prop
 |0,_,_=>False
 |n+1,t,ts=>
  match P.underlying t with
  |some .bool=>∃b,ts=[.bool b]
  |some (.int k)=>∃x,ts=[.int k x]/\(Lit.int k x).wf=true
  |some .string=>∃s,ts=[.str s]/\s.size<=maxLen
  |some (.slice e)=>∃aC,ts=[.sl aC]/\aC.length<=maxLen/\∀r∈aC,ko P n e r
  |some (.struct fs)=>o7 (ko P n) (fs.toList.map (·.type)) ts
  |some (.array k e)=>o7 (ko P n) (List.replicate k e) ts
  |_=>False
def p8(P:Program)(n:Nat)(t:TypeId)(x:T):Prop:=
 match P.underlying t with
 |some (.struct _)|some (.array _ _)=>∃ts,x=.agg ts/\ko P n t ts
 |_=>ko P n t [x]
def GW(P:Program):List TypeId->aG->Prop
 |[],xs=>xs=[]
 |t::ts,xs=>∃x nj,xs=x::nj/\(∃n,p8 P n t x)/\GW P ts nj
section
variable{P:Program}{L:List TypeId}
def uP(h:nz P L=true){t:TypeId}(ht:t∈L):uO P L t=true:=Jf.1 h t ht
def vO:∀(fs:List Field) (o n:Nat),ny P L o fs n=true->(∀f∈fs,f.type∈L)/\n=o+(fs.map λf=>P.cellsOf f.type).sum/\∀(j:Nat) f,fs[j]? =some f->f.offset=o+((fs.take j).map λf=>P.cellsOf f.type).sum
 |[],o,n,h=>by
  simp only[ny,Zcu]at h;exact⟨λ_ h=>(by cases h),by simp[h],λj f h=>by simp at h⟩
 |f::fs,o,n,h=>by
  simp only[ny,mA,Zcu,Zca]at h;obtain⟨⟨h1,h2⟩,h3⟩:=h;obtain⟨k1,k2,k3⟩:=vO fs _ n h3;refine⟨λg hg=>?_, ?_,λj g hg=>?_⟩
  .rcases jv.1 hg with rfl|hg
   .exact h2
   .exact k1 g hg
  .rw[k2];simp;omega
  .cases j with
   |zero=>simp at hg;subst hg;simp[h1]
   |succ j=>
    have:=k3 j g (by simpa using hg);rw[this];simp;omega
def MB(h:nz P L=true):Kids P (·∈L):=by
 refine⟨λ{t e} ht hu=>?_,λ{t e} ht hu=>?_,λ{t e n} ht hu=>?_,λ{t fs} ht hu=>?_,λ{t k e} ht hu=>?_⟩;all_goals
  have:=uP h ht;simp only[uO,hu]at this
 .cases this
 .simp only[mA,Zca]at this;exact this.1
 .simp only[mA,Zca,Zcu]at this;exact this
 .obtain⟨k1,k2,k3⟩:=vO _ _ _ this;exact⟨k1,by simpa using k2,λj f hf=>by simpa using k3 j f hf⟩
 .cases this
def CB{H:Type}{enc:TypeId×Value->H}{w:World}{n:Nat}{sp:Nat->Bool}{held:Bool}{cs:List Value}
  (ih:∀t cs x,t∈L->DataW.trod enc P w 0 sp held n t cs=some x->∃ts,dt w (λ_=>False) ts cs/\ko P n t ts):
  ∀(fs:List Field) (o N:Nat),ny P L o fs N=true->(∀f∈fs,∃x,DataW.trod enc P w 0 sp held n f.type ((cs.drop f.offset).take (P.cellsOf f.type))=some x)->cs.length=N->
   ∃ts,dt w (λ_=>False) ts (cs.drop o)/\o7 (ko P n) (fs.map (·.type)) ts
 |[],o,N,h,_,hl=>by
  simp only[ny,Zcu]at h;exact⟨[],by simp only[dt];rw[Zb3 (by omega)],rfl⟩
 |f::fs,o,N,h,hx,hl=>by
  simp only[ny,mA,Zcu,Zca]at h;obtain⟨⟨h1,h2⟩,h3⟩:=h;obtain⟨x,hx0⟩:=hx f (Iu ..);obtain⟨a,ha,hta⟩:=ih _ _ _ h2 hx0;obtain⟨b,hb,htb⟩:=CB ih fs _ N h3 (λg hg=>hx g (Ib _ hg)) hl;refine⟨a++b, ?_,a,b,rfl,hta,htb⟩;have:=dt.append ha hb;rw[h1,<-List.drop_drop,Ek]at this;exact this
def O7{H:Type}{enc:TypeId×Value->H}{w:World}{n:Nat}{sp:Nat->Bool}{held:Bool}{cs:List Value}{e:TypeId}(he:e∈L)
  (ih:∀t cs x,t∈L->DataW.trod enc P w 0 sp held n t cs=some x->∃ts,dt w (λ_=>False) ts cs/\ko P n t ts):
  ∀(k i:Nat),(∀j,i<=j->j<i+k->∃x,DataW.trod enc P w 0 sp held n e ((cs.drop (j*P.cellsOf e)).take (P.cellsOf e))=some x)->cs.length=(i+k)*P.cellsOf e->
   ∃ts,dt w (λ_=>False) ts (cs.drop (i*P.cellsOf e))/\o7 (ko P n) (List.replicate k e) ts
 |0,i,_,hl=>by
  exact⟨[],by simp only[dt];rw[Zb3 (by rw[hl];simp)],rfl⟩
 |k+1,i,hx,hl=>by
  obtain⟨x,hx0⟩:=hx i (gJ _) (by omega);obtain⟨a,ha,hta⟩:=ih _ _ _ he hx0;obtain⟨b,hb,htb⟩:=O7 he ih k (i+1) (λj h1 h2=>hx j (by omega) (by omega)) (by rw[hl];congr 1;omega);refine⟨a++b, ?_,a,b,rfl,hta,htb⟩;have:=dt.append ha hb;rw[show(i+1)*P.cellsOf e=i*P.cellsOf e+P.cellsOf e by rw[Fb];omega,<-List.drop_drop,Ek]at this;exact this
def Ag{α:Type}{q:Nat->α->Prop}:∀(n:Nat),(∀i,i<n->∃x,q i x)->∃l:List α,l.length=n/\∀i x,l[i]? =some x->q i x
 |0,_=>⟨[],rfl,λi x h=>by simp at h⟩
 |n+1,h=>by
  obtain⟨l,hl,hq⟩:=Ag n λi hi=>h i (by omega);obtain⟨x,hx⟩:=h n (by omega);refine⟨l++[x],by simp[hl],λi y hy=>?_⟩;by_cases hi:i<l.length
  .rw[ZbM hi]at hy;exact hq i y hy
  .rw[ZbI (by omega)]at hy;have:i=n:=by
    have:=(tp.1 hy).1;simp at this;omega
   subst this;simp[hl]at hy;subst hy;exact hx
def uQ{w:World}{a:Addr}{n:Nat}{cs:List Value}(h:w.cells? 0 a n=some cs):cs.length=n/\∀j v,cs[j]? =some v->w.cell? (a.add j)=some v:=by
 simp only[World.cells?,ER,Eg]at h;refine⟨by simpa using mapM_some_length h,λj v hj=>?_⟩;have cQ:j<n:=by
  have:=(tp.1 hj).1;have h2:=mapM_some_length h;simp at h2;omega
 have:=mapM_some_get h j j (by simp[cQ]);rw[hj]at this;simpa using this.symm
where
 mapM_some_length {α β:Type} {f:α->Option β} {l:List α} {r:List β} (h:l.mapM f=some r):r.length=l.length:=by
  induction l generalizing r with
  |nil=>simp at h;simp[h]
  |cons x l ih=>
   simp only[Zbw,vj,kw,jE,cq]at h;obtain⟨y,_,ys,qq,rfl⟩:=h;simp[ih qq]
 mapM_some_get {α β:Type} {f:α->Option β} {l:List α} {r:List β} (h:l.mapM f=some r) (i:Nat) (x:α) (hx:l[i]? =some x):r[i]? =f x:=by
  induction l generalizing r i with
  |nil=>simp at hx
  |cons y l ih=>
   simp only[Zbw,vj,kw,jE,cq]at h;obtain⟨z,hz,ys,qq,rfl⟩:=h;cases i with
   |zero=>simp at hx;subst hx;simp[hz]
   |succ i=>simpa using ih qq i (by simpa using hx)
def GX{w:World}{a:Addr}{v:Value}(h:w.cell? a=some v):a.block<w.heap.size/\a.spot=none:=by
 unfold World.cell? at h;split at h
 .rename_i c e f hb;split at h
  .cases h
  .rename_i hs;exact⟨(cM.1 hb).1,by simpa using hs⟩
 .cases h
def add_zero(a:Addr):a.add 0=a:=by simp[Addr.add]
def Jj(b o k:Nat):(⟨b,o,none⟩:Addr).add k=⟨b,o+k,none⟩:=by
 unfold Addr.add;by_cases h:k=0<;>simp[h]
def Vb{H:Type}{enc:TypeId×Value->H}{w:World}(hL:nz P L=true):∀(n:Nat) (t:TypeId) (cs:List Value) (x:DataW H×List MemPlace),t∈L->
  DataW.trod enc P w 0 sp held n t cs=some x->∃ts,dt w (λ_=>False) ts cs/\ko P n t ts:=by
 intro n;induction n with
 |zero=>intro t cs x _ h;simp[DataW.trod]at h
 |succ n ih=>
  intro t cs x ht h;have hp:=uP hL ht;have one:∀{y:T} {v:Value},v.oneCell'=true->be w (λ_=>False) y v->dt w (λ_=>False) [y] [v]:=λh1 h2=>by simp only[dt];exact⟨_,_,rfl,h1,h2,rfl⟩
  unfold uO at hp;split at hp
  .rename_i hu;obtain⟨b,rfl,rfl⟩:∃b,cs=[.bool b]/\x=(.lit (.bool b),[]):=by
    unfold DataW.trod at h;rw[hu]at h;split at h<;>simp_all
   exact⟨[.bool b],one rfl (by simp[be]),by simp[ko,hu]⟩
  .rename_i k hu;obtain⟨m,rfl,rfl,hw⟩:=DataW.trod_int hu h;exact⟨[.int k m],one rfl (by simp[be]),by simp[ko,hu,hw]⟩
  .rename_i hu;obtain⟨s,rfl,rfl,hs⟩:=DataW.trod_string hu h;exact⟨[.str s],one rfl (by simp[be]),by simp[ko,hu,hs]⟩
  .rename_i e hu;simp only[mA,Zca,yN]at hp;obtain⟨he,Uv⟩:=hp;rcases DataW.trod_slice hu h with⟨rfl,rfl⟩|⟨a,len,cap,aeb,rest,m,hm,rfl,rfl,_,hlc,tN,hel,UX,_,_⟩
   .exact⟨[.sl []],one rfl (by simp[be]),by simp[ko,hu]⟩
   .obtain rfl:n=m:=by omega
    have gf:∀i,i<len->∃r:aG,(∃yJ,w.cells? 0 (a.add (i*P.cellsOf e)) (P.cellsOf e)=some yJ/\dt w (λ_=>False) r yJ)/\ko P n e r:=by
     intro i hi;have h1:=UX i hi;have h2:∃y,aeb[i]? =some y:=⟨aeb[i],mM (by omega)⟩;obtain⟨y,hy⟩:=h2;rw[hy]at h1;obtain⟨yJ,h3,h4⟩:=jE.1 h1;obtain⟨ts,h5,h6⟩:=ih e yJ y he h4;exact⟨ts,⟨yJ,h3,h5⟩,h6⟩
    obtain⟨aC,ct,hq⟩:=Ag len gf;refine⟨[.sl aC], ?_, ?_⟩
    .simp only[dt];refine⟨_,[],rfl,rfl, ?_,rfl⟩;simp only[be];cases aC with
     |nil=>
      simp at ct;subst ct;exact .inl ⟨rfl,_,_,rfl⟩
     |cons r0 aC=>
      right;obtain⟨⟨cs0,h3,h4⟩,_⟩:=hq 0 r0 rfl;obtain⟨h5,h6⟩:=uQ h3;have Er:∃v,cs0[0]? =some v:=⟨cs0[0],mM (by omega)⟩;obtain⟨v0,hv0⟩:=Er;have h60:=h6 0 v0 hv0;simp only[ZcH,add_zero]at h60;obtain⟨hb,hs⟩:=GX h60;obtain⟨b,o,sp'⟩:=a;simp only at hb hs;subst hs;have gG:∀i r,(r0::aC)[i]? =some r->r.length=P.cellsOf e/\dY w (λ_=>False) b (o+i*P.cellsOf e) r:=by
       intro i r hr;obtain⟨⟨yJ,h3,h4⟩,_⟩:=hq i r hr;obtain⟨h5,h6⟩:=uQ h3;refine⟨by rw[<-dt.length h4,h5],dY.FI h4 λj v hj=>?_⟩;have h7:=h6 j v hj;rw[Jj,Jj]at h7;exact h7
      exact⟨b,o,cap,P.cellsOf e,by rw[ct],hb,λh=>h,by omega,bw.A9 _ _ gG⟩
    .simp only[ko,hu];refine⟨aC,rfl,by omega,λr hr=>?_⟩;obtain⟨i,hi⟩:=Zcf hr;exact(hq i r hi).2
  .rename_i fs hu;obtain⟨xs,m,hm,rfl,hl,wX,hf⟩:=DataW.trod_struct hu h;obtain rfl:n=m:=by omega
   obtain⟨ts,h1,h2⟩:=CB (cs:=cs) ih fs.toList 0 _ hp (λf hfm=>by
    obtain⟨i,hi⟩:=Zcf hfm;have wY:fs[i]? =some f:=by simpa using hi
    have:=hf i f wY;have cQ:i<xs.length:=by rw[wX];exact(cM.1 wY).1
    rw[mM cQ]at this;exact⟨_,this⟩) hl
   exact⟨ts,by simpa using h1,by simpa [ko,hu]using h2⟩
  .rename_i k e hu;simp only[mA,Zca,Zcu]at hp;have key:cs.length=P.cellsOf t/\∀i,i<k->∃y,DataW.trod enc P w 0 sp held n e ((cs.drop (i*P.cellsOf e)).take (P.cellsOf e))=some y:=by
    unfold DataW.trod at h;rw[hu]at h;split at h<;>simp_all
    obtain⟨hl,xs,IM,_⟩:=h;intro i hi;have:=uQ.mapM_some_get IM i i (by simp[hi]);have cQ:i<xs.length:=by rw[uQ.mapM_some_length IM];simp[hi]
    rw[mM cQ]at this;exact⟨_,_,this.symm⟩
   obtain⟨ts,h1,h2⟩:=O7 (cs:=cs) hp.1 ih k 0 (λj _ hj=>key.2 j (by omega)) (by rw[key.1,hp.2];simp);exact⟨ts,by simpa using h1,by simpa [ko,hu]using h2⟩
  .cases hp
def aaF{H:Type}{enc:TypeId×Value->H}{w:World}(hL:nz P L=true){t:TypeId}(ht:t∈L){v:Value}(hv:Value.okWide P w .any base t v){d:DataW H}{ps:List MemPlace}
  (h:DataW.Trod enc P w 0 sp held t v d ps):∃x,be w (λ_=>False) x v/\∃n,p8 P n t x:=by
 obtain⟨n,h⟩:=h;obtain⟨ts,h1,h2⟩:=Vb hL n t _ _ ht h;have hp:=uP hL ht;have GY:(∀cs,v≠ .agg cs)->∃x,ts=[x]/\be w (λ_=>False) x v:=by
  intro dd;have hc:v.cells.toList=[v]:=by cases v<;>first|rfl|exact qe rfl (dd _)
  rw[hc]at h1;cases ts with
  |nil=>simp only[dt]at h1;cases h1
  |cons x xs=>
   simp only[dt]at h1;obtain⟨_,_,e,_,hr,mK⟩:=h1;simp only[Gf]at e;obtain⟨rfl,rfl⟩:=e;have:=dt.length mK;simp at this;have e:xs=[]:=oK this.symm;exact⟨x,by rw[e],hr⟩
 have agg:(∃cs,v=.agg cs)->∃x,x=T.agg ts/\be w (λ_=>False) x v:=by
  rintro⟨cs,rfl⟩;exact⟨_,rfl,by simp only[be];exact⟨cs,rfl,by simpa [Value.cells]using h1⟩⟩
 unfold uO at hp;split at hp
 .rename_i hu;obtain⟨b,rfl⟩:=okWide_bool hu hv;obtain⟨x,rfl,hr⟩:=GY (λ_ h=>by cases h);exact⟨x,hr,n,by simp only[p8,hu];exact h2⟩
 .rename_i k hu;obtain⟨b,rfl⟩:=okWide_int hu hv;obtain⟨x,rfl,hr⟩:=GY (λ_ h=>by cases h);exact⟨x,hr,n,by simp only[p8,hu];exact h2⟩
 .rename_i hu;obtain⟨b,rfl⟩:=okWide_string hu hv;obtain⟨x,rfl,hr⟩:=GY (λ_ h=>by cases h);exact⟨x,hr,n,by simp only[p8,hu];exact h2⟩
 .rename_i e hu;obtain⟨a,l,c,rfl⟩:=okWide_slice hu hv;obtain⟨x,rfl,hr⟩:=GY (λ_ h=>by cases h);exact⟨x,hr,n,by simp only[p8,hu];exact h2⟩
 .rename_i fs hu;obtain⟨cs,rfl,_⟩:=okWide_struct hu hv;obtain⟨x,rfl,hr⟩:=agg ⟨_,rfl⟩;exact⟨_,hr,n,by simp only[p8,hu];exact⟨_,rfl,h2⟩⟩
 .rename_i k e hu;have:∃cs,v=.agg cs:=by
   simp only[Value.okWide,hu]at hv;cases v<;>simp_all
  obtain⟨cs,rfl⟩:=this;obtain⟨x,rfl,hr⟩:=agg ⟨_,rfl⟩;exact⟨_,hr,n,by simp only[p8,hu];exact⟨_,rfl,h2⟩⟩
 .cases hp
def Jk{H:Type}{enc:TypeId×Value->H}{w:World}{sp:Nat->Bool}{held:Bool}(hL:nz P L=true){base:Nat}:∀{yW:List TypeId} {vs:List Value} {ds:List (DataW H)} {ps:List MemPlace},(∀t∈yW,t∈L)->
  (∀(j:Nat) t v,yW[j]? =some t->vs[j]? =some v->Value.okWide P w .any base t v)->DataW.TrodAll enc P w 0 sp held yW vs ds ps->∃xs,eS w (λ_=>False) xs vs/\GW P yW xs
 |[],vs,ds,ps,_,_,h=>by
  obtain⟨rfl,rfl,rfl⟩:=trodAll_nil h;exact⟨[],by simp[eS],rfl⟩
 |t::yW,vs,ds,ps,ht,hv,h=>by
  obtain⟨v,vs1,d,ds1,a,b,rfl,rfl,rfl,h1,h2⟩:=trodAll_cons h;obtain⟨x,k1,k2⟩:=aaF hL (ht t (Iu ..)) (hv 0 t v rfl rfl) h1;obtain⟨xs,k3,k4⟩:=Jk hL (λu hu=>ht u (Ib _ hu)) (λj u y h1 h2=>hv (j+1) u y (by simpa using h1) (by simpa using h2)) h2;exact⟨x::xs,by simp only[eS];exact⟨v,vs1,rfl,k1,k3⟩,x,xs,rfl,k2,k4⟩
def CC{H:Type}{enc:TypeId×Value->H}{w w':World}{sp':Nat->Bool}{held:Bool}(hL:nz P L=true)(aec:held=true):∀{yW:List TypeId} {vs:List Value} {ds:List (DataW H)} {ps:List MemPlace},(∀t∈yW,t∈L)->
  DataW.TrodAll enc P w 0 (λ_=>true) held yW vs ds ps->(∀p∈ps,w.sameAt w' p)->(∀p∈ps,sp' p.block=true)->DataW.TrodAll enc P w' 0 sp' held yW vs ds ps
 |[],vs,ds,ps,_,h,_,_=>by
  obtain⟨rfl,rfl,rfl⟩:=trodAll_nil h;exact trodAll_mk0
 |t::yW,vs,ds,ps,ht,h,h1,h2=>by
  obtain⟨v,vs1,d,ds1,a,b,rfl,rfl,rfl,⟨n,k1⟩,k2⟩:=trodAll_cons h;refine trodAll_cons_mk ⟨n,DataW.trod_stays (MB hL) (λ{t e} ht hu=>?_) (λh=>by rw[aec]at h;cases h) (ht t (Iu ..)) k1 (λp hp=>h1 p (List.mem_append_left _ hp)) (λp hp=>h2 p (List.mem_append_left _ hp))⟩
   (CC hL aec (λu hu=>ht u (Ib _ hu)) k2 (λp hp=>h1 p (List.mem_append_right _ hp)) (λp hp=>h2 p (List.mem_append_right _ hp)))
  have:=uP hL ht;simp only[uO,hu,mA,yN]at this;exact this.2
def Jl{H:Type}{enc:TypeId×Value->H}{w:World}{b:Nat}{sp:Nat->Bool}{held:Bool}:∀{yW:List TypeId} {vs:List Value} {ds:List (DataW H)} {ps:List MemPlace},DataW.TrodAll enc P w b sp held yW vs ds ps->ds.length=yW.length
 |[],vs,ds,ps,h=>by
  obtain⟨rfl,rfl,rfl⟩:=trodAll_nil h;rfl
 |t::yW,vs,ds,ps,h=>by
  obtain⟨v,vs1,d,ds1,a,b,rfl,rfl,rfl,h1,h2⟩:=trodAll_cons h;simp[Jl h2]
def GZ{H:Type}{enc:TypeId×Value->H}{W:World}{args:Array Value}{ds gs:List (DataW H)}{cb:List MemPlace}{f:FuncId}{fn:Func}{s:ChangeSpec}{tb:TypeId}{apart fresh handsOn again:Bool}
  (hL:nz P L=true) (amg:∀t∈fn.params.toList,t∈L) (vu:fn.resultTypes= #[tb]) (hb:P.underlying tb=some .bool) (aed:s.vars=[]) (yB:∀ds:List (DataW H),ds.length=fn.params.size->s.fn H ds={results:=[.lit (.bool true)],args:=ds})
  (rF:∀xs,GW P fn.params.toList xs->aJ P f xs (.bool true))
  (dB:∀(j:Nat) t v,fn.params[j]? =some t->args[j]? =some v->Value.okWide P W .any base t v)
  (hW:DataW.Whole enc P fn.params.toList s.vars apart W args.toList ds gs cb) (hg:BY W λ_=>False):
  Calls P f args W λe W'=>∃v,e=.returned v/\s.post enc P fn apart fresh handsOn again W args v W':=by
 have hW':=hW;obtain⟨p,q,hA,hV,rfl,hfz,Bg⟩:=hW;rw[aed]at hV;obtain⟨rfl,rfl⟩:=trodVars_none hV;obtain⟨xs,hr,hx⟩:=Jk hL amg (λj t v h1 h2=>dB j t v (by simpa using h1) (by simpa using h2)) hA;have ct:ds.length=fn.params.size:=by
  have:=Jl hA;simpa using this
 refine((rF xs hx).aea hg hr).mono ?_;rintro e w' ⟨v,rfl,Zw,hv⟩;simp only[be]at hv;subst hv;have cQ:=hW'.lt;have xG:∀sp:Nat->Bool,(∀x∈p,sp x.block=true)->DataW.TrodAll enc P w' 0 sp true fn.params.toList args.toList ds p:=λsp Kv=>
  CC hL rfl amg hA (λx hx=>Zw.same (cQ x (by simpa using hx))) Kv
 have mK:∀(b:Nat) (sp:Nat->Bool) (hd:Bool),DataW.TrodAll enc P w' b sp hd fn.resultTypes.toList ((Value.bool true).resultList fn.resultTypes.size) [.lit (.bool true)] []:=λb sp hd=>by
  rw[vu];exact trodAll_cons_mk (shut_bool hb _) trodAll_mk0
 have he:s.fn H (ds++[])={results:=[.lit (.bool true)],args:=ds}:=by rw[Ej];exact yB ds ct
 have hv0:∀sp:Nat->Bool,DataW.TrodVars enc P w' sp s.vars [] []:=λsp=>by rw[aed];rfl
 have ZK:(s.fn H (ds++[])).vars=[]:=by rw[he]
 refine⟨_,rfl,ds,[],p++[],[],p,[],hW',by rw[he];exact mK _ _ _,by rw[he];exact xG _ (λx hx=>by simpa using cQ x (by simpa using hx)),by rw[ZK];exact hv0 _,Zw.frame _,λ_=>?_⟩;refine⟨ok_one vu rfl (okWide_bool_mk hb _),_,_,([]++p)++[],⟨[]++p,[],trodAll_append (xG _ (λ_ _=>rfl)) (mK _ _ _),hv0 _,rfl, ?_, ?_⟩, ?_⟩
 .intro b off hp;rw[Zw.frozen (cQ _ (by simpa using hp))];exact hfz b off (by simpa using hp)
 .intro ha;simpa using Bg ha
 .intro x hx _;simpa using hx
end
inductive Ty where
 |bool|int (k:IntKind)|str
 |slice (e:Ty)
 |seq (fs:List Ty)
mutual
def Ty.CD:Ty->aG->Prop
 |.bool,ts=>∃b,ts=[.bool b]
 |.int k,ts=>∃x,ts=[.int k x]/\(Lit.int k x).wf=true
 |.str,ts=>∃s,ts=[.str s]/\s.size<=maxLen
 |.slice e,ts=>∃aC,ts=[.sl aC]/\aC.length<=maxLen/\∀r∈aC,e.CD r
 |.seq fs,ts=>Ty.kZ fs ts
def Ty.kZ:List Ty->aG->Prop
 |[],ts=>ts=[]
 |t::yW,ts=>∃a b,ts=a++b/\t.CD a/\Ty.kZ yW b
end
def Ty.arg:Ty->T->Prop
 |.seq fs,x=>∃ts,x=.agg ts/\Ty.kZ fs ts
 |ty,x=>ty.CD [x]
def vA(P:Program):Nat->TypeId->Option Ty
 |0,_=>none
 |n+1,t=>
  match P.underlying t with
  |some .bool=>some .bool
  |some (.int k)=>some (.int k)
  |some .string=>some .str
  |some (.slice e)=>(vA P n e).map .slice
  |some (.struct fs)=>(Jm (vA P n) (fs.toList.map (·.type))).map .seq
  |some (.array k e)=>(vA P n e).map λx=>.seq (List.replicate k x)
  |_=>none
where
 Jm (q:TypeId->Option Ty):List TypeId->Option (List Ty)
 |[]=>some []
 |t::ts=>match q t,Jm q ts with
  |some x,some xs=>some (x::xs)
  |_,_=>none
section
variable{P:Program}
def yX:∀(m n:Nat) (t:TypeId) (ty:Ty) (ts:aG),vA P m t=some ty->ko P n t ts->ty.CD ts:=by
 intro m;induction m with
 |zero=>intro n t ty ts h;simp[vA]at h
 |succ m ih=>
  intro n t ty ts h hs;cases n with
  |zero=>exact hs.elim
  |succ n=>
   unfold vA at h;unfold ko at hs;split at h
   .rename_i hu;rw[hu]at hs;cases h;simpa [Ty.CD]using hs
   .rename_i hu;rw[hu]at hs;cases h;simpa [Ty.CD]using hs
   .rename_i hu;rw[hu]at hs;cases h;simpa [Ty.CD]using hs
   .rename_i e hu;rw[hu]at hs;obtain⟨x,hx,rfl⟩:=ju.1 h;obtain⟨aC,rfl,h1,h2⟩:=hs;simp only[Ty.CD];exact⟨aC,rfl,h1,λr hr=>ih n e x r hx (h2 r hr)⟩
   .rename_i fs hu;rw[hu]at hs;obtain⟨x,hx,rfl⟩:=ju.1 h;simp only[Ty.CD];have key:∀(yW:List TypeId) (xs:List Ty) (ts:aG),vA.Jm (vA P m) yW=some xs->o7 (ko P n) yW ts->Ty.kZ xs ts:=by
     intro yW;induction yW with
     |nil=>intro xs ts h hs;simp only[vA.Jm,cq]at h;subst h;simpa [Ty.kZ,o7]using hs
     |cons u yW ZX=>
      intro xs ts h hs;simp only[vA.Jm]at h;split at h
      .rename_i y ys hy qq;cases h;simp only[o7]at hs;obtain⟨a,b,rfl,h1,h2⟩:=hs;simp only[Ty.kZ];exact⟨a,b,rfl,ih n u y a hy h1,ZX ys b qq h2⟩
      .cases h
    exact key _ _ _ hx hs
   .rename_i k e hu;rw[hu]at hs;obtain⟨x,hx,rfl⟩:=ju.1 h;simp only[Ty.CD];have key:∀(k:Nat) (ts:aG),o7 (ko P n) (List.replicate k e) ts->Ty.kZ (List.replicate k x) ts:=by
     intro k;induction k with
     |zero=>intro ts hs;simpa [Ty.kZ,o7]using hs
     |succ k ZX=>
      intro ts hs;simp only[Q5,o7]at hs;obtain⟨a,b,rfl,h1,h2⟩:=hs;simp only[Q5,Ty.kZ];exact⟨a,b,rfl,ih n e x a hx h1,ZX b h2⟩
    exact key k ts hs
   .cases h
def MC{m n:Nat}{t:TypeId}{ty:Ty}{x:T}(h:vA P m t=some ty)(hs:p8 P n t x):ty.arg x:=by
 cases m with
 |zero=>simp[vA]at h
 |succ m=>
  have h0:=h;unfold vA at h;unfold p8 at hs;split at h
  .rename_i hu;rw[hu]at hs;cases h;exact yX _ _ _ _ _ h0 hs
  .rename_i hu;rw[hu]at hs;cases h;exact yX _ _ _ _ _ h0 hs
  .rename_i hu;rw[hu]at hs;cases h;exact yX _ _ _ _ _ h0 hs
  .rename_i e hu;rw[hu]at hs;obtain⟨y,hy,rfl⟩:=ju.1 h;exact yX _ _ _ _ _ h0 hs
  .rename_i fs hu;rw[hu]at hs;obtain⟨y,hy,rfl⟩:=ju.1 h;obtain⟨ts,rfl,h2⟩:=hs;have:=yX _ _ _ _ _ h0 h2;simp only[Ty.CD]at this;exact⟨ts,rfl,this⟩
  .rename_i k e hu;rw[hu]at hs;obtain⟨y,hy,rfl⟩:=ju.1 h;obtain⟨ts,rfl,h2⟩:=hs;have:=yX _ _ _ _ _ h0 h2;simp only[Ty.CD]at this;exact⟨ts,rfl,this⟩
  .cases h
end
end
end Go.DM
namespace Go.DM
open Go.RowKit
variable [bD]
section
variable{P:Program}{nt:Nat}
end
end Go.DM
namespace Go.DM
open Go.RowKit
variable [bD] [dF]{P:Program}
end Go.DM
namespace Go.DM
open Go.RowKit
variable [bD] [dF]
section
variable{P:Program}
end
section
variable{P:Program}{nt:Nat}{Γ:kv}{κ:oT}{ro:Option Nat}{n:Nat}
def acp(AL:κ.Good P){ops:Array Oper}{i:Nat}{o:Oper}{f:FuncId}{args:List bK}{dst:Option Nat}{af:cN}(hi:ops[i]? =some o)(hco:eR P ops o=some ⟨.call f args,dst,none,af,none⟩)(nX:oe nt ⟨.call f args,dst,none,af,none⟩=true)
  {s1:RS} {a1:Act} {w1:World} {L1:Loc} (R1:fz κ nt s1 a1 w1 L1) {N N':Nat} {x8:DV->bS->Prop} (c9:MM P f (args.map (·.ev s1.tmps)) s1.ab N N' x8) {K:Act->World->Prop} {Q:Exit->Act->World->Prop}
  (hK:∀a' w' L' val AQ,x8 val AQ->fz κ nt ⟨cO s1.tmps dst val,AQ,s1.todo⟩ a' w' L'->K a' w'):wpOpIn (vf κ.ro) n P ops Q i K a1 w1:=by
 obtain⟨hd,hgd,lG,_⟩:=kT (r:=⟨.call f args,dst,none,af,none⟩) hco;rw[wpOpIn];simp only[hi];rw[Fc (b:=true) hgd R1 rfl];simp only[Eg];refine⟨oU _ w1 _, ?_⟩;have hd':dq P o=some (.call f args):=hd;have Bg:∀c,o.op≠ .defer c:=sJ hd';rw[show(vf κ.ro).round=κ.ro from rfl,Oper.semAt_eq κ.ro _ _ Bg];obtain⟨c,ho,aS⟩:=fU hd' (.inl ⟨f,args,rfl⟩);obtain⟨fn,kx,yB,afH,Rz,qq⟩:=yx aS;have bO:=lq (P:=P) (w:=w1) (a:=a1) (g:=f) (cz:= #[]) ho (λx hx=>by rw[kx]at hx;cases hx;rfl) ⟨_,kx⟩ ⟨fn,yB,afH,Rz⟩;rw[Zb8]at bO;rw[bO,Oper.uponIn_enter];refine⟨λhx=>(by cases hx),jW ?_⟩;obtain⟨W,base,M,w0,gG,h0⟩:=R1.ex;refine(c9.run base W M w0 w1 L1 (c.args.map a1.eval) h0.o (by simpa using gY h0.o.gl h0.tmps qq)).mono ?_;rintro e w2 ⟨v,L2,val,Z4,rfl,hP,Im,Mw,nk⟩;have JE:∀d,dst=some d->d<nt:=by
  intro d hd;have:=nX;subst hd;simp only[oe,mA,yN]at this;exact this.2
 have R2:=fz.put R1 gG h0 dst JE Im Mw nk ⟨N',(c9.none val Z4 hP).2⟩;have amC:dst=o.dst:=lG;rw[amC]at R2;rw[amC]at hK;exact hK _ _ _ _ _ hP R2
end
section
variable{P:Program}{nt:Nat}{Γ:kv}{Q:Exit->lK->Prop}{tm:dW}{ob:bS}{aP low:Nat}{td:List (aG)}
def ahY{a:Array Bool}{i:Nat}(h:i<a.size)(d e:Bool):a.getD i d=a.getD i e:=by
 rw[vq,vq];simp[h]
end
section
variable{P:Program}{nt:Nat}{Γ:kv}{Q:Exit->lK->Prop}{tm:dW}{ob:bS}{aP low:Nat}{td:List (aG)}
def ahZ(P:Program)(Γ:kv)(aP:Nat)(r:RO)(s:RS)(K:RS->Prop):Prop:=
 (s.ab (nm aP r)=none/\cI Γ aP r s/\K (dX Γ aP r s))\/
 (∃f args dst af N N' x8,r=⟨.call f args,dst,none,af,none⟩/\MM P f (args.map (·.ev s.tmps)) s.ab N N' x8/\∀val AQ,x8 val AQ->K ⟨cO s.tmps dst val,AQ,s.todo⟩)
def ahZ.of{r:RO}{s:RS}{K:RS->Prop}(h:s.ab (nm aP r)=none)(e:eW Γ aP [r] s K):ahZ P Γ aP r s K:=
 .inl ⟨h,by obtain⟨h1,h2⟩:=jS _ _ _ e;exact⟨h1.1,h2⟩⟩
def Zz(D:Nat->Bool)(i:Nat):Nat->Bool:=λj=>if j=i then true else D j
def aa.az7(bb:aw P Γ)(hm:P.follows .mixedOrders=true){iL:Bool}{rs:cA}{d:DC}(hd:d=.region iL (rs.map bare))(Mh:rs.all (oe nt)=true)(ks:cN)(N':Nat)(I:(Nat->Bool)->RS->Prop)
  (h0:(∀t,aP<=t->ob t=none)->I (λ_=>false) ⟨tm,ob,td⟩)
  (hs:∀D i r s,rs[i]? =some r->D i=false->(∀e∈r.after,D e=true)->(∀j y,rs[j]? =some y->D j=true->∀e∈y.after,D e=true)->I D s->ahZ P Γ aP r s (I (Zz D i)))
  (he:∀D s,(∀i,i<rs.length->D i=true)->I D s->(∀t,N'<=t->s.ab t=none)/\Q .normal ⟨look (o5 ks s.tmps),s.ab,N',low,s.todo⟩)
  (axm:iL=true):aa P nt d Q ⟨tm,ob,aP,low,td⟩:=by
 subst hd axm;refine⟨λc hc=>?_⟩;obtain⟨id,ops,rfl,mZ,aN⟩:=rL hc;have aum:fO P ops=some (rs.map bare):=mZ;obtain⟨ct,UX⟩:=oY aum;simp only[eC,mA,ZcT,Bool.false_or]at aN;obtain⟨⟨dJ,AG⟩,hpr⟩:=aN;obtain⟨cQ,_⟩:=Mq hpr
 let g:Nat->RO:=λi=>(rs[i]?).getD ⟨.Lg (.wW .undef),none,none,[],none⟩
 have gg:∀i,i<ops.size->rs[i]? =some (g i):=λi hi=>by
  have:i<rs.length:=by omega
  simp[g,this]
 have ZY:∀(i:Nat) (o:Oper),ops[i]? =some o->eR P ops o=some (bare (g i)):=λi o ho=>by
  obtain⟨r,h1,h2⟩:=UX i o ho;have hi:i<ops.size:=(cM.1 ho).1;rw[gg i hi]at h1;rw[TT h1];exact h2
 have th:∀i,i<ops.size->oe nt (g i)=true:=λi hi=>by
  exact Jf.1 Mh _ (Hf (gg i hi))
 have UV:∀(i:Nat) (listed:Array Bool),i∈Region.ready .any ops listed↔listed.getD i true=false/\i<ops.size/\∀e∈(g i).after,listed.getD e false=true:=by
  intro i listed;rw[mem_ready];constructor
  .rintro⟨h0,o,ho,h⟩;refine⟨h0,(cM.1 ho).1,λe he=>?_⟩;have h4:(g i).after=_:=(kT (ZY i o ho)).2.2.2;rw[h4]at he;simp only[sE,RI]at he;obtain⟨x,⟨hx,hb⟩,rfl⟩:=he;exact h x (by simpa using hx) hb
  .rintro⟨h0,hi,h⟩;have ho:ops[i]? =some ops[i]:=by simp[hi]
   refine⟨h0,ops[i],ho,λe he hb=>h e.on ?_⟩;have h4:(g i).after=_:=(kT (ZY i _ ho)).2.2.2;rw[h4];exact sE.2 ⟨e,RI.2 ⟨by simpa using he,hb⟩,rfl⟩
 have auc:∀i,i<ops.size->∀e∈(g i).after,e<i:=λi hi e he=>cQ i (bare (g i)) (by rw[ZbH,gg i hi];rfl) e he;intro n κ ZZ w L AL r;have C1:∀t,aP<=t->ob t=none:=λt ht=>r.fresh t ht;have an1:∀{l:Array Bool} {i j:Nat} {b:Bool},l.size=ops.size->i<ops.size->(l.setIfInBounds i true).getD j b=if j=i then true else l.getD j b:=λ{l i j b} hs hi=>by
  rw[vq,Zcm,vq];by_cases e:j=i
  .subst e;simp[hs,hi]
  .have:¬i=j:=λh=>e h.symm;simp[e,this]
 have Uy:∀i (hi:i<ops.size),ops[i]? =some ops[i]:=λi hi=>by simp[hi]
 have main:∀(fuel:Nat) (l:Array Bool),l.size=ops.size->(rem ops.size l).length=fuel->(∀j,j<ops.size->l.getD j false=true->∀e∈(g j).after,l.getD e false=true)->∀(s:RS) (a:Act) (w:World) (L:Loc),I (λj=>l.getD j false) s->fz κ nt s a w L->
   wpAnyIn (vf κ.ro) n P .any ops (λe a w=>∃ir L',Q e ir/\Ms κ nt ir a w L') fuel l a w:=by
  intro fuel;have dM:∀(l:Array Bool),l.size=ops.size->Region.ready .any ops l=[]->∀(s:RS) (a:Act) (w:World) (L:Loc),I (λj=>l.getD j false) s->fz κ nt s a w L->∃ir L',Q .normal ir/\Ms κ nt ir a w L':=by
   intro l hl hr s a w L hI hR;have dJ:∀i,i<ops.size->l.getD i false=true:=by
    intro i;induction i using Nat.strongRecOn with
    |_ i ih=>
     intro hi;cases hv:l.getD i false with
     |true=>rfl
     |false=>
      have:i∈Region.ready .any ops l:=(UV i l).2 ⟨by rw[<-ahY (by omega) false true];exact hv,hi,λe he=>ih e (auc i hi e he) (by have:=auc i hi e he;omega)⟩;rw[hr]at this;cases this
   obtain⟨kc,hQ⟩:=he _ s (λi hi=>dJ i (by omega)) hI;obtain⟨L4,R4⟩:=Le.vN (st:=⟨s.tmps,s.ab,N',low,s.todo⟩) (o6 s.tmps ks) κ nt a w L ⟨hR,kc,r.low,r.it⟩;exact⟨_,L4,hQ,R4⟩
  induction fuel with
  |zero=>
   intro l hl avk c9 s a w L hI hR;have ah0:Region.ready .any ops l=[]:=by
    cases hr:Region.ready .any ops l with
    |nil=>rfl
    |cons i t=>
     have hi:i∈Region.ready .any ops l:=by rw[hr];simp
     obtain⟨h1,h2,_⟩:=(UV i l).1 hi;have:i∈rem ops.size l:=by unfold rem;rw[RI];exact⟨I0.2 h2,by rw[h1];rfl⟩
     rw[Zcj.1 avk]at this;cases this
   exact⟨ah0,dM l hl ah0 s a w L hI hR⟩
  |succ fuel ih=>
   intro l hl avk c9 s a w L hI hR;refine⟨λhr=>dM l hl hr s a w L hI hR,λi hi=>?_⟩;obtain⟨h1,h2,h3⟩:=(UV i l).1 hi;have OR:l.getD i false=false:=by rw[ahY (by omega) false true];exact h1
   have hl':(l.setIfInBounds i true).size=ops.size:=by simpa using hl
   have ath:(rem ops.size (l.setIfInBounds i true)).length=fuel:=by
    have key:∀m,m<=ops.size->((List.range m).filter λj=> !(l.setIfInBounds i true).getD j true).length+(if i<m then 1 else 0)=((List.range m).filter λj=> !l.getD j true).length:=by
     intro m;induction m with
     |zero=>intro _;simp
     |succ m ihm=>
      intro hm;have:=ihm (by omega);rw[Gy,LA,LA,nH,nH];by_cases e:i=m
      .subst e;have c1:(l.setIfInBounds i true).getD i true=true:=by rw[an1 hl h2];simp
       rw[iK (Nat.lt_irrefl i)]at this;rw[ee (TZ i)];simp only[Ic,ZdC,c1,h1,ZcT,Bool.not_false,Ig,A0,Eg,ZbJ,B8];omega
      .have c1:(l.setIfInBounds i true).getD m true=l.getD m true:=by rw[an1 hl h2,iK (λh=>e h.symm)]
       simp only[Ic,ZdC,c1];obtain⟨X,hX⟩:=aY ((if(!l.getD m true)=true then [m]else []).length);rw[hX];by_cases h:i<m
       .rw[ee h]at this;rw[ee (by omega)];omega
       .rw[iK h]at this;rw[iK (by omega)];omega
    have:=key ops.size (gJ _);rw[ee h2]at this;unfold rem at avk⊢;omega
   have hD:(λj=>(l.setIfInBounds i true).getD j false)=Zz (λj=>l.getD j false) i:=by
    funext j;rw[an1 hl h2];rfl
   have axn:∀j,j<ops.size->(l.setIfInBounds i true).getD j false=true->∀e∈(g j).after,(l.setIfInBounds i true).getD e false=true:=by
    intro j hj hv e he;rw[an1 hl h2]at hv⊢;by_cases e1:j=i
    .subst e1;split
     .rfl
     .exact h3 e he
    .rw[iK e1]at hv;split
     .rfl
     .exact c9 j hj hv e he
   rcases hs (λj=>l.getD j false) i (g i) s (gg i h2) OR h3 (λj y hj hv e he=>by
     have hjs:j<ops.size:=by have:=(tp.1 hj).1;omega
     have:y=g j:=by rw[gg j hjs]at hj;exact(TT hj).symm
     rw[this]at he;exact c9 j hjs hv e he) hI with⟨hf,aN,hK⟩|⟨f,args,dst,af,N,N2,x8,hr,az8,hK⟩
   .refine t6 bb AL (Uy i h2) (ZY i _ (Uy i h2)) (th i h2) hR hf aN λa' w' L' hR'=>?_;exact ih _ hl' ath axn _ a' w' L' (by rw[hD];exact hK) hR'
   .refine acp AL (Uy i h2) (by rw[ZY i _ (Uy i h2),hr];rfl) (by rw[<-hr];exact th i h2) hR az8 λa' w' L' val AQ hP hR'=>?_;exact ih _ hl' ath axn _ a' w' L' (by rw[hD];exact hK val AQ hP) hR'
 have hh:fz κ nt ⟨tm,ob,td⟩ ZZ {w with drawn:=w.drawn+1} L:=by
  have hb:xl w.heap.size w {w with drawn:=w.drawn+1}:=⟨⟨rfl,rfl,rfl,gJ _,λ_ _=>rfl⟩,ZdD _⟩;obtain⟨W,base,M,w0,gG,h0⟩:=r.r.ex;obtain⟨hO,hA⟩:=ci.grow h0.o hb;obtain⟨Ds,h1,h2,h3,h4⟩:=r.r.defers;exact⟨⟨W,base,M,w0,gG,h0.size,λt=>aD.gq hA _ _ (h0.tmps t),hO⟩,r.r.gq.comp hA (gG.UH _) gG.sub.2,⟨Ds,h1,h2,λD hD=>⟨hA.cL.OI D (h3 D hD).1,(h3 D hD).2⟩,h4⟩,r.r.bg,r.r.dM⟩
 have Zh:∀i b,i<ops.size->(Array.replicate ops.size false).getD i b=false:=λi b hi=>by rw[vq];simp[hi]
 have hD0:(λj=>(Array.replicate ops.size false).getD j false)=λ_=>false:=by
  funext j;rw[vq];by_cases h:j<ops.size
  .simp[h]
  .simp[h]
 refine wpIn_region_any hm (main ops.size _ (by simp) ?_ (λj hj hv=>?_) _ _ _ _ (by rw[hD0];exact h0 C1) hh)
 .have:rem ops.size (Array.replicate ops.size false)=List.range ops.size:=by
   unfold rem;rw[List.filter_eq_self];intro i hi;rw[Zh i true (I0.1 hi)];rfl
  rw[this,ZbF]
 .rw[Zh j false hj]at hv;cases hv
end
section
variable{P:Program}{nt:Nat}{Γ:kv}{Q:Exit->lK->Prop}{tm:dW}{ob:bS}{aP low:Nat}{td:List (aG)}
end
end Go.DM
namespace Go.Proofs
open Go.DM
noncomputable abbrev ak:=Tryz.prog
instance apI:bD:=⟨[(0,[.int .i64 (1099511627776),.int .i64 (0),.int .i64 (-1),.int .i64 (0)]),(1,[.tf .nilFunc,.fn (.func 267) [],.fn (.func 268) [],.fn (.func 269) [],.fn (.func 270) []])]⟩
@[irreducible] noncomputable def yD(f k:Nat):cA:=rg1 ak f k
def rgE{f k:Nat}{l:cA}(h:rg1 ak f k=l):yD f k=l:=by unfold yD;exact h
noncomputable abbrev fo{l:DC}(f:Nat)(h:sk1 (yD f) ak f=l:=by conv=>lhs;reduce):DC:=l
def aB{l:cA}(f k:Nat)(h:rg1 ak f k=l:=by conv=>lhs;reduce;dsimp only[Int.ofNat_eq_natCast,Int.cast_ofNat_Int,Int.reduceNegSucc]):yD f k=l:=rgE h
@[simp] noncomputable abbrev tj{l:cA}(sf:cN)(f k:Nat)(h:atG sf (rg1 ak f k)=l:=by conv=>lhs;reduce;dsimp only[Int.ofNat_eq_natCast,Int.cast_ofNat_Int,Int.reduceNegSucc]):cA:=l
def WI:=aB 21 0
def WJ:=aB 21 1
def WK:=aB 21 2
noncomputable def W6:cA:=tj [100057] 21 3
def WL:=aB 21 4
def WN:=aB 21 5
def WO:=aB 21 6
noncomputable def W7:cA:=tj [58] 21 7
def WP:=aB 21 9
def Ni:=aB 21 10
def Nj:=aB 21 11
def Nk:=aB 21 13
def Nl:=aB 21 14
noncomputable def PF:cA:=tj [60] 21 15
def Nm:=aB 21 16
def No:=aB 21 17
def Np:=aB 21 18
def Nq:=aB 21 19
def Nr:=aB 21 20
def aii:=aB 21 21
noncomputable def d12:DC:=fo 21
def Dv:List cH:=[.cell 2 3 true]
def c12 [bD]:aR ak 21 82 d12 Dv:=.at
def WV:=aB 58 0
def WX:=aB 58 1
def apJ:=aB 58 2
noncomputable def W8:cA:=tj [59] 58 3
def apK:=aB 58 4
noncomputable def W9:cA:=tj [59] 58 5
noncomputable def Xa:cA:=tj [106] 58 6
def apL:=aB 58 7
def apM:=aB 58 8
def apN:=aB 58 9
noncomputable def PG:cA:=tj [100108,107] 58 10
def aij:=aB 58 11
noncomputable def PH:cA:=tj [109] 58 12
noncomputable def adJ:cA:=tj [100108,107] 58 13
def aik:=aB 58 14
noncomputable def PJ:cA:=tj [109] 58 15
noncomputable def PK:cA:=tj [107] 58 16
noncomputable def d30:DC:=(.seq (.region false (yD 58 0))
 (.seq (.seq (.region false (yD 58 1))
 (.block 0 (.loop (.seq (.seq (.region false (yD 58 2))
 (.cond (.tmp 21) .skip
 (.exit 0)))
 (.seq (.block 1 (.seq (.region false (yD 58 3))
 (.seq (.seq (.region false (yD 58 4))
 (.cond (.tmp 33) (.seq (.region false (yD 58 5))
 (.region false (yD 58 6)))
 .skip))
 (.seq (.seq (.region false (yD 58 7))
 (.block 2 (.loop (.seq (.region false (yD 58 8))
 (.seq (.cond (.tmp 56) .skip
 (.exit 2))
 (.seq (.block 3 (.seq (.region false (yD 58 9))
 (.region false (yD 58 10))))
 (.region false (yD 58 11))))))))
 (.seq (.region false (yD 58 12))
 (.cond (.tmp 80) (.rK (yD 58 13))
 .skip))))))
 (.region false (yD 58 14)))))))
 (.seq (.region false (yD 58 15))
 (.cond (.tmp 113) (.region false (yD 58 16))
 .skip))))
def Dx:List cH:=[]
def c30 [bD]:aR ak 58 132 d30 Dx:=.at
def apO:=aB 59 0
def apP:=aB 59 1
def apQ:=aB 59 2
def apR:=aB 59 3
def apS:=aB 59 4
def apT:=aB 59 5
def apU:=aB 59 6
def apV:=aB 59 7
def apW:=aB 59 8
def apX:=aB 59 9
noncomputable def d31:DC:=fo 59
def Xb:List cH:=[.fB 6,.fB 7]
def c31 [bD]:aR ak 59 37 d31 Xb:=.at
def Wn:=aB 106 0
def Wo:=aB 106 1
def Wp:=aB 106 2
def Wq:=aB 106 3
noncomputable def Xc:cA:=tj [100108,107] 106 4
def Wr:=aB 106 5
noncomputable def d47:DC:=fo 106
def Hy:List cH:=[]
def c47 [bD]:aR ak 106 48 d47 Hy:=.at
def Pt:=aB 107 0
def Pu:=aB 107 1
def Ki:=aB 107 2
def apY:=aB 107 3
def Wt:=aB 107 4
noncomputable def d48:DC:=fo 107
def wJ:List cH:=[]
def c48 [bD]:aR ak 107 43 d48 wJ:=.at
def Px:=aB 108 0
def Kj:=aB 108 1
def Wu:=aB 108 2
def Kk:=aB 108 3
noncomputable def d49:DC:=fo 108
def Dr:List cH:=[.fB 2]
def c49 [bD]:aR ak 108 8 d49 Dr:=.at
def Wv:=aB 109 0
def Ww:=aB 109 1
def Py:=aB 109 2
noncomputable def d50:DC:=fo 109
def um:List cH:=[.fB 4]
def c50 [bD]:aR ak 109 41 d50 um:=.at
def apZ:=aB 57 0
def ap0:=aB 57 1
def ap1:=aB 57 3
def ap2:=aB 57 4
def ap3:=aB 57 6
def ap4:=aB 57 7
def ap5:=aB 57 8
def ap6:=aB 57 9
def ail:=aB 57 10
noncomputable def d29:DC:=fo 57
def c29 [bD]:aR ak 57 48 d29 (dI 4):=.at
def WR:=aB 61 0
def WS:=aB 61 1
noncomputable def d33:DC:=fo 61
def Dw:List cH:=[.fB 4]
def c33 [bD]:aR ak 61 22 d33 Dw:=.at
def ap7:=aB 112 0
def ap8:=aB 112 1
def ap9:=aB 112 2
def aqa:=aB 112 3
def aqb:=aB 112 4
def aqc:=aB 112 5
def aqd:=aB 112 6
def aqe:=aB 112 7
def aqf:=aB 112 8
noncomputable def d53:DC:=fo 112
def c53 [bD]:aR ak 112 18 d53 (dI 2):=.at
def aqg:=aB 113 0
def aqh:=aB 113 1
def aqi:=aB 113 2
def aqj:=aB 113 3
def aqk:=aB 113 7
def aql:=aB 113 9
def aim:=aB 113 10
def ain:=aB 113 11
def aio:=aB 113 12
def aip:=aB 113 13
noncomputable def d54:DC:=fo 113
def N8:List cH:=[.fB 4]
def c54 [bD]:aR ak 113 20 d54 N8:=.at
def aqm:=aB 160 0
def aqn:=aB 160 1
noncomputable def d71:DC:=fo 160
def c71 [bD]:aR ak 160 6 d71 (dI 2):=.at
def JP:=aB 105 0
def VR:=aB 105 3
def VS:=aB 105 4
noncomputable def d46:DC:=fo 105
def nP:List cH:=[.fB 4,.fB 5]
def c46 [bD]:aR ak 105 30 d46 nP:=.at
def aqo:=aB 149 0
def aqp:=aB 149 1
def aqq:=aB 149 2
def aqr:=aB 149 3
def aqs:=aB 149 4
def aqt:=aB 149 5
def aqu:=aB 149 6
def aqv:=aB 149 7
def aqw:=aB 149 8
def aqx:=aB 149 9
def aiq:=aB 149 10
def air:=aB 149 11
noncomputable def d60:DC:=fo 149
def Xd:List cH:=[.fB 4,.fB 5]
def c60 [bD]:aR ak 149 51 d60 Xd:=.at
def follows:ak.follows .mixedOrders=true:=by kernel_rfl
abbrev fw:=follows
def aqy:=aB 43 0
def DA:=aB 43 1
def aqz:=aB 43 2
def aqA:=aB 43 3
def aqB:=aB 43 4
def aeF:=aB 43 5
def aqC:=aB 43 6
def aqD:=aB 43 7
def aqE:=aB 43 8
noncomputable def d28:DC:=fo 43
def c28 [bD]:aR ak 43 57 d28 (dI 4):=.at
def VI:=aB 97 0
def JN:=aB 97 1
def VJ:=aB 97 2
def VK:=aB 97 3
def VL:=aB 97 4
def aqF:=aB 97 5
def aqG:=aB 97 6
noncomputable def d45:DC:=fo 97
def c45 [bD]:aR ak 97 19 d45 (dI 4):=.at
def aqH:=aB 141 0
def DB:=aB 141 1
def aqI:=aB 141 2
def aqJ:=aB 141 3
def aqK:=aB 141 4
def aqL:=aB 141 5
def FP:=aB 141 6
def aqM:=aB 141 7
def aqN:=aB 141 8
def aqO:=aB 141 9
noncomputable def d58:DC:=fo 141
def Hj:List cH:=[.fB 4]
def c58 [bD]:aR ak 141 74 d58 Hj:=.at
def axh:=aB 146 0
def axi:=aB 146 1
noncomputable def d72:DC:=fo 146
def c72 [bD]:aR ak 146 9 d72 (dI 4):=.at
def axj:=aB 147 0
def Zv:=aB 147 1
noncomputable def d73:DC:=fo 147
def c73 [bD]:aR ak 147 35 d73 (dI 4):=.at
def ak1:=aB 166 0
def ak2:=aB 166 1
def ak3:=aB 166 2
def ak4:=aB 166 3
def ak5:=aB 166 4
def ak6:=aB 166 6
def ak7:=aB 166 7
noncomputable def d43:DC:=fo 166
def c43 [bD]:aR ak 166 23 d43 (dI 4):=.at
def IL:=aB 167 0
def IN:=aB 167 1
noncomputable def TV:cA:=tj [300026] 167 2
def IP:=aB 167 3
def IQ:=aB 167 4
def BO:=aB 167 5
def IR:=aB 167 6
def IS:=aB 167 7
def BP:=aB 167 8
def TX:=aB 167 9
def LC:=aB 167 10
def LD:=aB 167 11
def LG:=aB 167 12
def Gn:=aB 167 13
def LI:=aB 167 14
def LJ:=aB 167 15
def Gm:=aB 167 16
def LK:=aB 167 17
def LL:=aB 167 18
noncomputable def d44:DC:=fo 167
def mN:List cH:=[.fB 4]
def c44 [bD]:aR ak 167 82 d44 mN:=.at
def T0:=aB 168 0
def EW:=aB 168 1
def alc:=aB 168 2
def Oz:=aB 168 3
def ald:=aB 168 4
def T1:=aB 168 5
def ale:=aB 168 6
def adV:=aB 168 7
def alf:=aB 168 8
def IU:=aB 168 9
def afi:=aB 168 10
def afj:=aB 168 11
noncomputable def d56:DC:=fo 168
def BU:List cH:=[.fB 8]
def c56 [bD]:aR ak 168 145 d56 BU:=.at
def ak9:=aB 169 0
def ala:=aB 169 1
noncomputable def d57:DC:=fo 169
def zB:List cH:=[.fB 4]
def c57 [bD]:aR ak 169 9 d57 zB:=.at
def ak8:=aB 205 0
def IT:=aB 205 1
noncomputable def d74:DC:=fo 205
def c74 [bD]:aR ak 205 35 d74 (dI 4):=.at
def afk:=aB 260 0
def afl:=aB 260 1
noncomputable def auP:DC:=fo 260
def OA:List cH:=[]
def atA [bD]:aR ak 260 16 auP OA:=.at
def T2:=aB 271 0
def T3:=aB 271 1
def ai2:=aB 271 2
def afm:=aB 271 3
noncomputable def auQ:DC:=fo 271
def Gq:List cH:=[.cell 2 3 true,.fB 3]
def alh [bD]:aR ak 271 27 auQ Gq:=.at
def T6:=aB 267 0
noncomputable def A5:cA:=tj [271] 267 1
def BW:=aB 267 2
def ai3:=aB 267 3
def afn:=aB 267 4
noncomputable def OC:cA:=tj [260] 267 5
def afo:=aB 267 6
def afp:=aB 267 7
noncomputable def auR:DC:=fo 267
def alj [bD]:aR ak 267 56 auR (dI 4):=.at
def T7:=aB 268 0
noncomputable def A6:cA:=tj [271] 268 1
def Gs:=aB 268 2
def ai4:=aB 268 3
def afq:=aB 268 4
def afr:=aB 268 5
def afs:=aB 268 6
noncomputable def auS:DC:=fo 268
def alo [bD]:aR ak 268 40 auS (dI 4):=.at
def T8:=aB 269 0
def LO:=aB 269 1
def ai5:=aB 269 2
noncomputable def OD:cA:=tj [260] 269 3
def aft:=aB 269 4
def afu:=aB 269 5
noncomputable def auT:DC:=fo 269
def alq [bD]:aR ak 269 36 auT (dI 4):=.at
def T9:=aB 270 0
def LP:=aB 270 1
def ai6:=aB 270 2
noncomputable def OE:cA:=tj [260] 270 3
noncomputable def OF:cA:=tj [260] 270 4
def afv:=aB 270 5
def afw:=aB 270 6
def afx:=aB 270 7
noncomputable def auU:DC:=fo 270
def als [bD]:aR ak 270 68 auU (dI 4):=.at
def Ub:=aB 103 0
def Uc:=aB 103 1
def Ud:=aB 103 2
def Ue:=aB 103 3
def Uf:=aB 103 4
def lU:=aB 103 5
def ai7:=aB 103 6
def Ug:=aB 103 7
def LR:=aB 103 8
def ai8:=aB 103 9
def OH:=aB 103 10
noncomputable def auV:DC:=fo 103
def xk:List cH:=[.fB 4,.fB 5]
def alv:aR ak 103 47 auV xk:=.at
def Uh:=aB 49 0
def LS:=aB 49 1
def LU:=aB 49 2
def ai9:=aB 49 3
def Ui:=aB 49 4
noncomputable def auW:DC:=fo 49
def A7:List cH:=[.fB 4,.fB 5]
def alA [bD]:aR ak 49 21 auW A7:=.at
def Uj:=aB 50 0
def aiE:=aB 50 1
def LW:=aB 50 2
def aja:=aB 50 3
def Uk:=aB 50 4
noncomputable def auX:DC:=fo 50
def A8:List cH:=[.fB 4,.fB 5]
def alB [bD]:aR ak 50 21 auX A8:=.at
namespace aT
def amD:=aB 129 0
def Pk:=aB 129 1
noncomputable def d92:DC:=fo 129
def c92 [bD]:aR ak 129 24 d92 (dI 4):=.at
def amE:=aB 127 0
def amF:=aB 127 1
def amG:=aB 127 2
def amH:=aB 127 3
def amI:=aB 127 4
def amJ:=aB 127 5
def amK:=aB 127 6
def amL:=aB 127 7
def amM:=aB 127 8
noncomputable def d69:DC:=fo 127
def MN:List cH:=[.cell 4 2 true]
def c69 [bD]:aR ak 127 37 d69 MN:=.at
def amN:=aB 128 0
def amO:=aB 128 1
def amP:=aB 128 2
def amQ:=aB 128 3
def amR:=aB 128 4
def amS:=aB 128 5
def amT:=aB 128 6
noncomputable def d91:DC:=fo 128
def c91 [bD]:aR ak 128 26 d91 (dI 4):=.at
def amU:=aB 91 0
def amV:=aB 91 1
def amW:=aB 91 2
def amX:=aB 91 3
def amY:=aB 91 4
def amZ:=aB 91 5
def am0:=aB 91 6
def am1:=aB 91 7
def am2:=aB 91 8
def am3:=aB 91 9
def af9:=aB 91 10
def aga:=aB 91 11
def agb:=aB 91 12
noncomputable def ady:cA:=tj [100128] 91 13
def agc:=aB 91 14
def agd:=aB 91 15
def age:=aB 91 16
def VD:=aB 91 17
def agf:=aB 91 18
def agh:=aB 91 19
def agi:=aB 91 20
def agj:=aB 91 21
def Bo:cA:=[
 a 0 13 82 [],
 l 82 83 [0],
 C .lss 83 1099511627776 84 [1],
 m 84 85 [2],
 u 2 12 86 85 true [3],
 v 86 87 85 true [4,3],
 g (.load 5 true (t 12)) 88 85 true [3],
 w 4 89 85 true [3],
 g (.callF 128 [(t 88),(t 89)]) 90 85 true [6,7,3,3],
 g (.call 127 [(t 87),(t 90)]) 91 85 true [5,8,8,3],
 g (.load 2 true (t 13)) 92 85 true [3],
 g (.eqT false true [(.int .i64),(.int .i64)] (t 91) (t 92)) 93 85 true [9,10,3],
 q 85 93 94 [3,11]]
def agk:=aB 91 23
def VE:=aB 91 24
def agl:=aB 91 25
noncomputable def d66:DC:=fo 91
def VF:List cH:=[.fB 2,.fB 3]
def c66 [bD]:aR ak 91 102 d66 VF:=.at
def am4:=aB 186 0
def am5:=aB 186 1
def am6:=aB 186 2
def am7:=aB 186 3
def am8:=aB 186 4
def am9:=aB 186 5
def ana:=aB 186 6
noncomputable def d93:DC:=fo 186
def c93 [bD]:aR ak 186 17 d93 (dI 2):=.at
def anb:=aB 142 0
def anc:=aB 142 1
def ane:=aB 142 2
def anf:=aB 142 3
def ang:=aB 142 4
def anh:=aB 142 5
def ani:=aB 142 6
def anj:=aB 142 7
def aej:=aB 142 8
def aek:=aB 142 9
def agm:=aB 142 10
noncomputable def d67:DC:=fo 142
def VG:List cH:=[.cell 4 2 true]
def c67 [bD]:aR ak 142 46 d67 VG:=.at
def IL:=aB 98 0
def IN:=aB 98 1
def VH:=aB 98 2
def IP:=aB 98 3
def IQ:=aB 98 4
def BO:=aB 98 5
def IR:=aB 98 6
def IS:=aB 98 7
def BP:=aB 98 8
noncomputable def d44:DC:=fo 98
def mN:List cH:=[.fB 4]
def c44 [bD]:aR ak 98 29 d44 mN:=.at
def VI:=aB 99 0
def JN:=aB 99 1
def VJ:=aB 99 2
def VK:=aB 99 3
def VL:=aB 99 4
noncomputable def d45:DC:=fo 99
def c45 [bD]:aR ak 99 24 d45 (dI 4):=.at
def ank:=aB 44 0
def VN:=aB 44 1
def anl:=aB 44 2
def anm:=aB 44 3
def ann:=aB 44 4
def ano:=aB 44 5
def anp:=aB 44 6
def anq:=aB 44 7
def anr:=aB 44 8
def ans:=aB 44 9
noncomputable def d22:DC:=fo 44
def c22 [bD]:aR ak 44 31 d22 (dI 4):=.at
def ant:=aB 41 0
def As:=aB 41 1
def anu:=aB 41 2
def anv:=aB 41 3
def anw:=aB 41 4
def anx:=aB 41 5
def Fy:=aB 41 6
def anz:=aB 41 7
def anA:=aB 41 8
def anB:=aB 41 9
def agn:=aB 41 10
def MO:=aB 41 11
def ago:=aB 41 12
def Hh:=aB 41 13
def agp:=aB 41 14
def Hi:=aB 41 15
def agq:=aB 41 16
def C4:=aB 41 17
def C5:=aB 41 18
def C6:=aB 41 19
def C7:=aB 41 20
def agr:=aB 41 21
noncomputable def d20:DC:=fo 41
def c20 [bD]:aR ak 41 151 d20 (dI 2):=.at
def aoj:=aB 95 0
def aok:=aB 95 1
def aol:=aB 95 2
noncomputable def d64:DC:=fo 95
def c64 [bD]:aR ak 95 26 d64 (dI 6):=.at
def JQ:=aB 130 0
def vR:=aB 130 1
def JR:=aB 130 2
def V5:=aB 130 3
def FA:=aB 130 4
def V6:=aB 130 6
def aom:=aB 130 7
def aon:=aB 130 9
noncomputable def d37:DC:=fo 130
def rY:List cH:=[.cell 4 4 true]
def c37:aR ak 130 91 d37 rY:=.at
def T0:=aB 131 0
def EW:=aB 131 1
noncomputable def d56:DC:=fo 131
def BU:List cH:=[.fB 4]
def c56 [bD]:aR ak 131 24 d56 BU:=.at
def aoo:=aB 73 0
def aop:=aB 73 1
def aoq:=aB 73 2
def aor:=aB 73 3
def aos:=aB 73 4
def aot:=aB 73 5
def aou:=aB 73 6
def aov:=aB 73 7
def aow:=aB 73 8
def aox:=aB 73 9
def agH:=aB 73 10
noncomputable def d84:DC:=fo 73
def MV:List cH:=[.cell 4 2 true]
def c84 [bD]:aR ak 73 37 d84 MV:=.at
def axo:=aB 181 0
def XT:=aB 181 1
noncomputable def d86:DC:=fo 181
def c86 [bD]:aR ak 181 31 d86 (dI 4):=.at
def axp:=aB 179 0
def ah1:=aB 179 1
def axq:=aB 179 2
def axr:=aB 179 3
noncomputable def d83:DC:=fo 179
def acq:List cH:=[.cell 8 2 true]
def c83 [bD]:aR ak 179 40 d83 acq:=.at
def ati:=aB 136 0
def atu:=aB 136 1
def atD:=aB 136 2
def axs:=aB 136 3
def ah2:=aB 136 4
def axt:=aB 136 5
def axu:=aB 136 6
def atE:=aB 136 7
noncomputable def d59:DC:=fo 136
def c59 [bD]:aR ak 136 30 d59 (dI 4):=.at
def atF:=aB 138 0
def atT:=aB 138 1
def aul:=aB 138 2
def aun:=aB 138 3
def axv:=aB 138 4
noncomputable def ah3:cA:=tj [179] 138 5
def axw:=aB 138 6
def auo:=aB 138 7
noncomputable def d61:DC:=fo 138
def acr:List cH:=[.cell 6 2 true]
def c61 [bD]:aR ak 138 31 d61 acr:=.at
def axx:=aB 184 0
def axy:=aB 184 1
def axz:=aB 184 2
def axA:=aB 184 3
def ah4:=aB 184 4
def axB:=aB 184 5
def axC:=aB 184 6
def axD:=aB 184 7
noncomputable def d89:DC:=fo 184
def c89 [bD]:aR ak 184 41 d89 (dI 4):=.at
def aqg:=aB 132 0
def aqh:=aB 132 1
noncomputable def d54:DC:=fo 132
def N8:List cH:=[.fB 2]
def c54 [bD]:aR ak 132 7 d54 N8:=.at
def avl:=aB 224 0
def avn:=aB 224 1
def avB:=aB 224 2
def avF:=aB 224 3
def ah5:=aB 224 4
noncomputable def az9:DC:=(.seq (.region false (yD 224 0))
 (.seq (.rK (yD 224 1))
 (.seq (.seq (.region true (yD 224 2))
 (.cond (.tmp 31) (.seq (.region false (yD 224 3))
 .ret)
 .skip))
 (.seq (.region true (yD 224 4))
 .ret))))
def aAa [bD]:aR ak 224 49 az9 (dI 6):=.at
def avG:=aB 211 0
def avH:=aB 211 1
noncomputable def aAb:DC:=fo 211
def adz:List cH:=[]
def aAc [bD]:aR ak 211 62 aAb adz:=.at
noncomputable def QK:cA:=tj [224] 209 0
noncomputable def adA:cA:=tj [211] 209 1
def avI:=aB 209 2
noncomputable def aAd:DC:=fo 209
def YC:List cH:=[]
def aAe [bD]:aR ak 209 23 aAd YC:=.at
def avJ:=aB 210 0
def avK:=aB 210 1
def acs:=aB 210 2
noncomputable def adB:cA:=tj [224] 210 3
def avL:=aB 210 4
def avN:=aB 210 5
def avO:=aB 210 6
noncomputable def adC:cA:=tj [211] 210 7
def avP:=aB 210 8
noncomputable def aAf:DC:=fo 210
def adD:List cH:=[]
def aAg [bD]:aR ak 210 39 aAf adD:=.at
def axE:=aB 178 0
def axF:=aB 178 1
def axG:=aB 178 2
def axH:=aB 178 3
def axI:=aB 178 4
noncomputable def ah6:cA:=tj [209] 178 5
def axJ:=aB 178 6
noncomputable def d82:DC:=fo 178
def c82 [bD]:aR ak 178 58 d82 (dI 4):=.at
def axK:=aB 180 0
def axL:=aB 180 1
def axM:=aB 180 2
def axN:=aB 180 3
noncomputable def ah7:cA:=tj [211] 180 4
def axO:=aB 180 5
def axP:=aB 180 6
noncomputable def ah8:cA:=tj [210] 180 7
def axQ:=aB 180 8
noncomputable def d85:DC:=(.seq (.region false (yD 180 0))
 (.seq (.seq (.region false (yD 180 1))
 (.cond (.tmp 11) (.seq (.region false (yD 180 2))
 .ret)
 .skip))
 (.seq (.rK (yD 180 3))
 (.seq (.region false (yD 180 4))
 (.seq (.region false (yD 180 5))
 (.seq (.region true (yD 180 6))
 (.seq (.region false (yD 180 7))
 (.seq (.region false (yD 180 8))
 .ret))))))))
def acu:List cH:=[.fB 2,.fB 3]
def c85 [bD]:aR ak 180 49 d85 acu:=.at
def axR:=aB 177 0
def axS:=aB 177 1
def axT:=aB 177 2
def axU:=aB 177 4
def axV:=aB 177 5
noncomputable def ah9:cA:=tj [209] 177 6
noncomputable def aia:cA:=tj [210] 177 7
def axW:=aB 177 8
noncomputable def d81:DC:=fo 177
def c81 [bD]:aR ak 177 57 d81 (dI 6):=.at
def aqo:=aB 137 0
def aqp:=aB 137 1
def aqq:=aB 137 2
def aqr:=aB 137 3
noncomputable def aib:cA:=tj [177] 137 4
noncomputable def aic:cA:=tj [178] 137 5
noncomputable def d60:DC:=fo 137
def Xd:List cH:=[]
def c60 [bD]:aR ak 137 70 d60 Xd:=.at
def avQ:=aB 207 0
def avR:=aB 207 1
def avS:=aB 207 2
def av4:=aB 207 3
def awe:=aB 207 4
def awg:=aB 207 5
def awh:=aB 207 6
def awk:=aB 207 7
noncomputable def aAh:DC:=fo 207
def aAi [bD]:aR ak 207 26 aAh (dI 4):=.at
def awl:=aB 208 0
def awn:=aB 208 1
def YE:=aB 208 2
noncomputable def aAj:DC:=fo 208
def aAk [bD]:aR ak 208 38 aAj (dI 3):=.at
def axX:=aB 176 0
noncomputable def aid:cA:=tj [207] 176 1
def axY:=aB 176 2
def adE:=aB 176 3
def axZ:=aB 176 4
def ax0:=aB 176 5
noncomputable def d80:DC:=fo 176
def aih:List cH:=[.fB 2,.fB 3]
def c80 [bD]:aR ak 176 59 d80 aih:=.at
def ak9:=aB 134 0
def ala:=aB 134 1
def ax1:=aB 134 2
def ax2:=aB 134 3
def ax3:=aB 134 4
def ax4:=aB 134 5
noncomputable def ais:cA:=tj [176] 134 6
def ax5:=aB 134 7
def ax6:=aB 134 8
def aup:=aB 134 9
def ait:=aB 134 10
def awo:=aB 134 11
def awp:=aB 134 12
def awq:=aB 134 13
def awr:=aB 134 14
def aws:=aB 134 15
def awt:=aB 134 16
def awu:=aB 134 17
noncomputable def d57:DC:=fo 134
def zB:List cH:=[]
def c57 [bD]:aR ak 134 133 d57 zB:=.at
def ax7:=aB 182 0
def ax8:=aB 182 1
noncomputable def aiu:cA:=tj [134] 182 2
def ax9:=aB 182 3
def aya:=aB 182 4
def ayb:=aB 182 5
def ayc:=aB 182 6
def ayd:=aB 182 7
noncomputable def d87:DC:=fo 182
def acv:List cH:=[]
def c87 [bD]:aR ak 182 52 d87 acv:=.at
def aqH:=aB 135 0
noncomputable def aiv:cA:=tj [136] 135 1
noncomputable def aiw:cA:=tj [138,137] 135 2
def aqJ:=aB 135 3
noncomputable def d58:DC:=fo 135
def Hj:List cH:=[.fB 8]
def c58 [bD]:aR ak 135 21 d58 Hj:=.at
def aye:=aB 183 0
noncomputable def YF:cA:=tj [136,184] 183 1
noncomputable def aix:cA:=tj [138,137] 183 2
def aiy:=aB 183 3
noncomputable def d88:DC:=fo 183
def c88 [bD]:aR ak 183 25 d88 (dI 8):=.at
def ayf:=aB 139 0
noncomputable def YG:cA:=tj [180] 139 1
def auq:=aB 139 2
def ayg:=aB 139 3
def ayh:=aB 139 4
def ayi:=aB 139 5
def ayj:=aB 139 6
def ayk:=aB 139 7
noncomputable def aiz:cA:=tj [182] 139 8
def auu:=aB 139 9
noncomputable def d62:DC:=fo 139
def aiA:List cH:=[]
def c62 [bD]:aR ak 139 41 d62 aiA:=.at
def ayl:=aB 185 0
def aiB:cA:=[
 l 3 11 [],
 n 1 12,
 n 2 13,
 o (.callS 138 [(t 11),(t 12),(t 13)]) 14 [0,1,2],
 L 2 4 15 [],
 o (.eqT true true [(.int .i64),(.int .i64)] (t 14) (t 15)) 16 [3,4]]
def aym:=aB 185 2
def ayn:=aB 185 3
def ayo:=aB 185 4
noncomputable def d90:DC:=fo 185
def c90 [bD]:aR ak 185 21 d90 (dI 10):=.at
def ayp:=aB 140 0
def ayq:=aB 140 1
def ayr:=aB 140 2
def ays:=aB 140 3
def ayt:=aB 140 4
def ayu:=aB 140 5
def adF:=aB 140 6
noncomputable def aiC:cA:=tj [134] 140 7
def auv:=aB 140 8
def ayv:=aB 140 9
noncomputable def d63:DC:=fo 140
def aiD:List cH:=[.cell 4 4 true]
def c63:aR ak 140 48 d63 aiD:=.at
def ayw:=aB 133 0
def ayx:=aB 133 1
noncomputable def d55:DC:=fo 133
def c55 [bD]:aR ak 133 21 d55 (dI 5):=.at
def aq7:=aB 96 0
def aq8:=aB 96 1
def aq9:=aB 96 2
def ara:=aB 96 3
def arb:=aB 96 4
def ard:=aB 96 5
def are:=aB 96 6
def Km:=aB 96 7
def arf:=aB 96 8
def arh:=aB 96 9
def aiU:=aB 96 10
def Nz:=aB 96 11
noncomputable def adG:cA:=tj [134] 96 12
def aiW:=aB 96 13
noncomputable def adH:cA:=tj [139] 96 14
def aiY:=aB 96 15
def aiZ:=aB 96 16
def ai0:=aB 96 17
def ai1:=aB 96 18
noncomputable def adI:cA:=tj [140] 96 19
def awv:=aB 96 20
def aww:=aB 96 21
noncomputable def d35:DC:=fo 96
def wI:List cH:=[.fB 10]
def c35:aR ak 96 88 d35 wI:=.at
end aT
end Go.Proofs
namespace Go.Proofs
open Go.DM
abbrev ti(n:Int):T:=.int .i64 n
def dg:T->Int
 |.int _ n=>n
 |_=>0
structure bF where
 (f t term aA:Int)
 ops:List (Int×Int)
 deriving DecidableEq,Inhabited
structure aF where
 bf:Int
 aK:List bF
 bj:ba
structure bB where
 kind:Int
 read:ba
 delete:Int
 deriving Inhabited
structure Input where
 ag:List bB
 insert:ba
 swap:Int
def ca(l:List (Int×Int)):List (aG):=l.map λo=>[ti o.1,ti o.2]
def bF.enc(a:bF):aG:=[ti a.f,ti a.t,ti a.term,ti a.aA,.sl (ca a.ops)]
def bq(l:List bF):List (aG):=l.map bF.enc
def au(l:ba):List (aG):=l.map λx=>[ti x]
def aF.enc(l:aF):T:=.agg [ti l.bf,.sl (bq l.aK),.sl (au l.bj)]
def bB.enc(c:bB):aG:=[ti c.kind,.sl (au c.read),ti c.delete]
def bd(l:List bB):List (aG):=l.map bB.enc
def Input.enc(x:Input):T:=.agg [.sl (bd x.ag),.sl (au x.insert),ti x.swap]
def ja{α β:Type}{f:α->β}{g:β->α}(h:∀a,g (f a)=a)(l:List α):(l.map f).map g=l:=by
 rw[Zc3];conv=>rhs;rw[<-List.map_id l]
 exact ZbN λa _=>h a
def eM(l:List (aG)):ba:=l.map λx=>dg (x.getD 0 (ti 0))
def v6(l:List (aG)):List (Int×Int):=l.map λx=>(dg (x.getD 0 (ti 0)),dg (x.getD 1 (ti 0)))
def nS:aG->bF
 |[a,b,c,d,.sl o]=>⟨dg a,dg b,dg c,dg d,v6 o⟩
 |_=>default
def Bq(l:List (aG)):List bF:=l.map nS
def DD:aG->bB
 |[a,.sl b,c]=>⟨dg a,eM b,dg c⟩
 |_=>default
def kR(l:List (aG)):List bB:=l.map DD
def sV:T->aF
 |.agg [a,.sl b,.sl c]=>⟨dg a,Bq b,eM c⟩
 |_=>⟨0,[],[]⟩
def xd:T->Input
 |.agg [.sl a,.sl b,c]=>⟨kR a,eM b,dg c⟩
 |_=>⟨[],[],0⟩
@[simp] def Ax(l:ba):eM (au l)=l:=ja (λ_=>rfl) l
@[simp] def NA(l:List (Int×Int)):v6 (ca l)=l:=ja (λ_=>rfl) l
@[simp] def pg(a:bF):nS a.enc=a:=by simp[nS,bF.enc,dg]
@[simp] def aeG(l:List bF):Bq (bq l)=l:=ja pg l
@[simp] def DE(a:bB):DD a.enc=a:=by simp[DD,bB.enc,dg]
@[simp] def aeH(l:List bB):kR (bd l)=l:=ja DE l
@[simp] def akP(a:Int)(l:List bF)(f:ba):sV (.agg [ti a,.sl (bq l),.sl (au f)])=⟨a,l,f⟩:=by simp[sV,dg]
@[simp] def arj(n:aF):sV n.enc=n:=by simp[aF.enc]
@[simp] def akQ(a:List bB)(b:ba)(c:Int):xd (.agg [.sl (bd a),.sl (au b),ti c])=⟨a,b,c⟩:=by simp[xd,dg]
@[simp] def ark(x:Input):xd x.enc=x:=by simp[Input.enc]
def bA{l:ba}{y:Nat}(h:y<l.length):DM.rowAt (au l) y=[ti (l.getD y default)]:=by simp[DM.rowAt,au,h]
def r8{l:List bF}{y:Nat}(h:y<l.length):DM.rowAt (bq l) y=(l.getD y default).enc:=by simp[DM.rowAt,bq,h]
def fg{l:List bB}{y:Nat}(h:y<l.length):DM.rowAt (bd l) y=(l.getD y default).enc:=by simp[DM.rowAt,bd,h]
def EX{l:List (Int×Int)}{y:Nat}(h:y<l.length):DM.rowAt (ca l) y=[ti (l.getD y default).1,ti (l.getD y default).2]:=by simp[DM.rowAt,ca,h]
@[simp] def akR(l:ba):(au l).length=l.length:=by simp[au]
@[simp] def arl(l:List (Int×Int)):(ca l).length=l.length:=by simp[ca]
@[simp] def akS(l:List bF):(bq l).length=l.length:=by simp[bq]
@[simp] def akT(l:List bB):(bd l).length=l.length:=by simp[bd]
abbrev mI:List Sh:=[.int .i64,.int .i64,.int .i64]
def keyOf(f t x:Int):T:=.agg [ti f,ti t,ti x]
def bF.key(a:bF):T:=keyOf a.f a.t a.term
def df(al:List bF):List (Nat×T×DV):=al.zipIdx.map λp=>(p.2,p.1.key,.v (.agg p.1.enc))
def fM(al:List bF):Ob:=.map mI true al.length (df al)
def c7(x:Input)(m:Nat):bW:=[.v (.sl (bd x.ag)),.v (.sl (au x.insert)),.v (ti x.swap),.fH m]
def aV(a b:bF):Bool:=decide (a.f=b.f/\a.t=b.t/\a.term=b.term)
def vU(al:List bF)(a:bF):List bF:=
 if a.aA<1099511627776 then
  match al.findIdx? (aV a)with
  |none=>al++[a]
  |some i=>if a.aA<(al.getD i default).aA then al.set i a else al
 else al
def HD:DV->Int
 |.v (.agg [_,_,_,.int _ c,_])=>c
 |_=>0
def Ky(k:T)(c:Int)(es:List (Nat×T×DV)):Bool:=
 decide (c<1099511627776)&&match pE k es with|none=>true|some e=>decide (c<HD e.2.2)
def qH(k:T)(c:Int)(y:DV)(kB:Nat)(es:List (Nat×T×DV)):List (Nat×T×DV):=if Ky k c es then Gu k y kB es else es
def wL(k:T)(c:Int)(kB:Nat)(es:List (Nat×T×DV)):Nat:=if Ky k c es then rn k kB es else kB
def ajb(a b:bF):gQ a.key b.key=aV a b:=by
 simp[bF.key,keyOf,gQ,F2,aV]
def pR(a:bF)(al:List bF):((df al).findIdx? λe=>gQ a.key e.2.1)=al.findIdx? (aV a):=by
 have h:∀(l:List bF) (i:Nat),(((l.zipIdx i).map λp=>((p.2,p.1.key,DV.v (.agg p.1.enc)):Nat×T×DV)).findIdx? λe=>gQ a.key e.2.1)=l.findIdx? (aV a):=by
  intro l;induction l with
  |nil=>intro i;rfl
  |cons b l ih=>intro i;simp only[ZcM,vG,Rd,ajb,ih (i+1)]
 exact h al 0
def gS(al:List bF)(i:Nat):(df al)[i]? =(al[i]?).map λa=>(i,a.key,.v (.agg a.enc)):=by
 simp[df,ZbH,List.getElem?_zipIdx,Function.comp_def]
def lD(al:List bF):(df al).length=al.length:=by simp[df]
def SC(al:List bF):∀e∈df al,∃a:bF,e.2.2=.v (.agg a.enc):=by
 intro e he;simp only[df,sE]at he;obtain⟨p,_,rfl⟩:=he;exact⟨p.1,rfl⟩
def u6{α:Type}{p:α->Bool}{l:List α}{i:Nat}(h:l.findIdx? p=some i):i<l.length:=by
 rw[Zb4]at h;exact h.1
def DF(a:bF)(al:List bF):Ky a.key a.aA (df al)=(decide (a.aA<1099511627776)&&match al.findIdx? (aV a)with|none=>true|some i=>decide (a.aA<(al.getD i default).aA)):=by
 unfold Ky;rw[x5,pR];cases h:al.findIdx? (aV a)with
 |none=>rfl
 |some i=>
  have hi:=u6 h;simp[gS,hi,HD,bF.enc];rfl
def HF(a:bF)(al:List bF):qH a.key a.aA (.v (.agg a.enc)) al.length (df al)=df (vU al a)/\wL a.key a.aA al.length (df al)=(vU al a).length:=by
 unfold qH wL vU;rw[DF];by_cases hc:a.aA<1099511627776
 .simp only[hc,decide_true,Zc8,Eg];cases h:al.findIdx? (aV a)with
  |none=>
   simp only[Eg,Gu,rn,pR,h];refine⟨?_,by simp⟩;apply Zb0;intro j;rw[gS,Zdf,Zdf,lD,gS];split
   .rfl
   .rename_i hj;by_cases hj2:j=al.length
    .subst hj2;simp
    .rw[Ls (by simp;omega),Ls (by simp;omega)];rfl
  |some i=>
   have hi:=u6 h;have ML:a.key=(al.getD i default).key:=by
    rw[Zb4]at h;obtain⟨_,h1,_⟩:=h;simp only[aV,yN]at h1;simp[bF.key,keyOf,List.getD,hi,h1]
   simp only;by_cases h2:a.aA<(al.getD i default).aA
   .simp only[h2,decide_true,Eg,Gu,rn,pR,h];refine⟨?_,by simp⟩;apply Zb0;intro j;rw[gS,List.getElem?_modify,gS,Zb1];by_cases hj:i=j
    .subst hj;simp[hi,ML,List.getD]
    .simp[hj]
   .simp only[h2,decide_false,Ig,A0];exact⟨trivial,trivial⟩
 .simp[hc]
section
variable [bD]
def EV:aw ak (bz []):=aw.nil
def F7(a b:Int):Int:=if a<b then-1 else if b<a then 1 else 0
def PO(l:ba):Int:=(l.find? λx=>x !=0).getD 0
def eV(x y:aG):Int:=PO [F7 (dg (x.getD 0 (ti 0))) (dg (y.getD 0 (ti 0))),F7 (dg (x.getD 1 (ti 0))) (dg (y.getD 1 (ti 0))),F7 (dg (x.getD 2 (ti 0))) (dg (y.getD 2 (ti 0)))]
def t71(a:Int):aJ ak 160 [ti a] (.bool false):=by
 have bb:=EV;refine c71.ok (by simp) (aH ?_);simp;apply aa.ai bb fw [0];simp[aqm];apply aa.ai bb fw [2];simp[aqn];apply aa.ret;simp[dI]
abbrev ajl:DM.Spec:=bp (λts=>∃a,ts=[ti a]) (λ_=>.bool false) true
def au2:aw ak (bz [(160,ajl)]):=by
 refine aw.cons aw.nil ?_;rintro ts ⟨a,rfl⟩;exact⟨t71 a,λ_=>rfl⟩
def t54(a b:Int):aJ ak 113 [ti a,ti b] (ti (F7 a b)):=by
 have bb:=au2;refine c54.ok (by simp) (aH ?_);simp;apply aa.ai bb fw [0,1];simp[aqg];apply aa.ai bb fw [0,1,5];simp[aqh];apply aa.ai bb fw [0,1,5,6];simp[aqi];apply aa.sq bb fw [0,1,6,11];simp[aqj];refine aa.cond rfl (λh=>by cases h) (λh=>?_);apply aa.skip;simp;apply aa.sq bb fw [0,1,13];simp[aqk];refine aa.cond rfl (λh=>by cases h) (λh=>?_);apply aa.skip;simp;apply aa.sq bb fw [0,1,16];simp[aql];refine aa.cond rfl (λh=>?_) (λh=>?_)
 .simp at h;apply aa.ai bb fw [4];simp[aim];apply aa.ret;simp[N8,F7,h]
 .simp at h;apply aa.skip;simp;apply aa.sq bb fw [0,1,19];simp[ain];refine aa.cond rfl (λh2=>?_) (λh2=>?_)
  .simp at h2;apply aa.ai bb fw [4];simp[aio];apply aa.ret;simp[N8,F7,h2,show ¬a<b by omega]
  .simp at h2;apply aa.skip;simp;apply aa.ai bb fw [4];simp[aip];apply aa.ret;simp[N8,F7,show ¬a<b by omega,show ¬b<a by omega]
def Xm{l:ba}{y:Nat}(hy:y<l.length)(h:l.getD y default=0):PO (l.drop y)=PO (l.drop (y+1)):=by
 rw[If hy];have:l[y]=0:=by simpa [List.getD,hy]using h
 simp[PO,this]
def aaX{l:ba}{y:Nat}(hy:y<l.length)(h:l.getD y default≠0):PO (l.drop y)=l.getD y default:=by
 rw[If hy];have e:l.getD y default=l[y]:=by simp[List.getD,hy]
 rw[e]at h⊢;simp only[PO,Ii,GA,(bne_iff_ne (a:=l[y]) (b:=(0:Int))).2 h]
def t53(l:ba)(hl:l.length<=1000000):aJ ak 112 [.sl (au l)] (ti (PO l)):=by
 have bb:=EV;refine c53.ok (by simp) (aH ?_);simp;apply aa.ai bb fw [0];simp[ap7];apply aa.ai bb fw [0,3];simp[ap8];apply aa.sq bb fw [3,6,7,8];simp[ap9];apply aa.block;refine aa.loop (λy:Nat=>⟨DM.look [(3,.v (ti 0)),(6,.v (.sl (au l))),(7,.v (ti l.length)),(8,.v (ti y))],cR [],2000,1000,[]⟩)
  (λy=>y<=l.length/\PO (l.drop y)=PO l) (λy=>l.length-y) 0 (Le.aL (o:=[]) ?_ ?_ ?_ ?_) (by simp) (λy hy=>?_)
 iterate 4(·simp)
 obtain⟨vy,fI⟩:=hy;apply aa.ai bb fw [3,6,7,8,9];simp[aqa];apply aa.seq;refine aa.cond rfl (λh=>?_) (λh=>?_)
 .simp at h;apply aa.skip;simp;apply aa.seq;apply aa.block;have hr:=bA h;obtain⟨p,hp⟩:=aY (l.getD y default);rw[hp]at hr;apply aa.ai bb fw [3,5,6,7,8];simp[aqb,hr,h];apply aa.ai bb fw [3,5,6,7,8,14];simp[aqc];refine aa.cond rfl (λh2=>?_) (λh2=>?_)
  .simp at h2;apply aa.ai bb fw [2];simp[aqd];apply aa.ret;rw[aaX h (by rw[hp];exact h2),hp]at fI;simp[dI,fI]
  .simp at h2;apply aa.skip;simp;apply aa.cZ bb fw [3,6,7,8];simp[aqe];rw[av (by omega)];refine⟨y+1,Le.aL (o:=[]) ?_ ?_ ?_ ?_,⟨by omega, ?_⟩,by omega⟩;iterate 4(·simp)
   .rw[<-fI,Xm h (by rw[hp];exact h2)]
 .simp at h;apply aa.exit;simp;apply aa.ai bb fw [2];simp[aqf];apply aa.ret;have:l.drop y=[]:=Zb3 (by omega);rw[this]at fI;simp only[dI];rw[<-fI];simp[PO]
abbrev ajm:DM.Spec:=bp (λts=>∃a b,ts=[ti a,ti b]) (fun|[.int _ a,.int _ b]=>ti (F7 a b)|_=>.bool false) true
abbrev ajn:DM.Spec:=bp (λts=>∃l:ba,ts=[.sl (au l)]/\l.length<=1000000) (fun|[.sl l]=>ti (PO (eM l))|_=>.bool false) true
def au3:aw ak (bz [(113,ajm),(112,ajn)]):=by
 refine aw.cons (aw.cons aw.nil ?_) ?_
 .rintro ts ⟨l,rfl,h⟩;have:=t53 l h;rw[<-Ax l]at this;exact⟨by simpa using t53 l h,λ_=>rfl⟩
 .rintro ts ⟨a,b,rfl⟩;exact⟨t54 a b,λ_=>rfl⟩
def t33(a b c d e f:Int):aJ ak 61 [.agg [ti a,ti b,ti c],.agg [ti d,ti e,ti f]] (ti (PO [F7 a d,F7 b e,F7 c f])):=by
 have bb:=au3;refine c33.ok (by simp) (aH ?_);simp;apply aa.ai bb fw [2,3];simp[WR];apply aa.ai bb fw [4];simp[WS];refine⟨⟨[F7 a d,F7 b e,F7 c f],rfl,by simp⟩, ?_⟩;apply aa.ret;simp[Dw];rfl
end
def C3(s aX:Int)(a:bF):Prop:=¬(a.f<0\/a.f>a.t\/a.t>=s\/a.term<0\/a.term>=aX\/a.aA<0\/a.aA>=1099511627776\/(a.f=a.t/\a.aA=0))
instance(s aX:Int)(a:bF):Decidable (C3 s aX a):=by unfold C3;infer_instance
def cb(a b:bF):Prop:=a.f<b.f\/(a.f=b.f/\(a.t<b.t\/(a.t=b.t/\a.term<b.term)))
instance(a b:bF):Decidable (cb a b):=by unfold cb;infer_instance
def JL(f:ba)(i:Nat):Prop:=0<=f.getD i default/\f.getD i default<=1099511627776
def NN(l:aF)(aX:Int)(i:Nat):Prop:=C3 l.bf aX (l.aK.getD i default)/\(i=0\/cb (l.aK.getD (i-1) default) (l.aK.getD i default))
def eG(l:aF)(aX:Int):Prop:=(1<=l.bf/\(l.bj.length:Int)=l.bf)/\(∀i,i<l.bj.length->JL l.bj i)/\∀i,i<l.aK.length->NN l aX i
instance(f:ba)(i:Nat):Decidable (JL f i):=by unfold JL;infer_instance
instance(l:aF)(aX:Int)(i:Nat):Decidable (NN l aX i):=by unfold NN;infer_instance
instance(l:aF)(aX:Int):Decidable (eG l aX):=by unfold eG;infer_instance
def zt{n:Int}(h:0<=n/\n<18446744073709551616):IntKind.u64.wrap n=n:=by
 unfold IntKind.wrap;simp[IntKind.bits,IntKind.signed];omega
def NK{n:Nat}(h:n<4294967296):n % 2^IntKind.u64.bits&&&4294967295 % 2^IntKind.u64.bits=n:=by
 have e:IntKind.u64.bits=64:=rfl;rw[e,Zda (show n<2^64 by omega),show 4294967295 % 2^64=2^32-1 by decide,Nat.and_two_pow_sub_one_eq_mod,Zda (by omega)]
def t60(x y:Nat)(hx:x<4294967296)(hy:y<4294967296):aJ ak 149 [.int .u64 x,.int .u64 y] (.dh [.int .u64 0,.int .u64 ((x*y:Nat):Int)]):=by
 have bb:=EV;refine c60.ok (by simp) (aH ?_);simp;apply aa.ai bb fw [0,1];simp[aqo];obtain⟨p,hp⟩:=aY (x*y);have hpb:p<18446744073709551616:=by
  rw[<-hp]
  calc x*y<=4294967295*4294967295:=ZdG (by omega) (by omega)
   _<_:=by decide
 have Z6:(x:Int)*y=p:=by rw[<-hp];simp
 have e1:=zt (n:=x) (by omega);have e2:=zt (n:=y) (by omega);have e3:=zt (n:=p) (by omega);have b:IntKind.u64.bits=64:=rfl;have e0:IntKind.u64.wrap 0=0:=rfl;have d1:(x:Int)/4294967296=0:=by omega
 have d2:(y:Int)/4294967296=0:=by omega
 have d3:(p:Int)/4294967296<4294967296:=by omega
 obtain⟨q,hq⟩:∃q:Nat,(p:Int)/4294967296=q:=⟨p/4294967296,by omega⟩;have hqb:q<4294967296:=by omega
 have e4:=zt (n:=q) (by omega);have d4:(q:Int)/4294967296=0:=by omega
 rw[Z6];apply aa.ai bb fw [0,1,6];simp[aqp,NK hx,e1];apply aa.ai bb fw [0,1,6,7];simp[aqq,b,d1];apply aa.ai bb fw [0,1,6,7,8];simp[aqr,NK hy,e2];apply aa.ai bb fw [0,1,6,7,8,9];simp[aqs,b,d2];apply aa.ai bb fw [0,1,6,7,8,9,10];simp[aqt,Z6,e3];apply aa.ai bb fw [0,1,6,7,8,9,10,11];simp[aqu,e0,b,hq,e4];apply aa.ai bb fw [0,1,6,7,8,9,10,11,12];simp[aqv,NK hqb,e4];apply aa.ai bb fw [0,1,6,7,8,9,10,11,12,13];simp[aqw,b,d4];apply aa.ai bb fw [0,1,6,7,8,9,10,11,12,13];simp[aqx,e0,e4];apply aa.ai bb fw [0,1,4];simp[aiq,e0,b,d4];apply aa.ai bb fw [4,5];simp[air,Z6,e3];apply aa.ret;simp[Xd]
abbrev ajo:DM.Spec:=bp (λts=>∃x y:Nat,ts=[.int .u64 x,.int .u64 y]/\x<4294967296/\y<4294967296) (fun|[.int _ x,.int _ y]=>.dh [.int .u64 0,.int .u64 (x*y)]|_=>.bool false) false
def au4:aw ak (bz [(149,ajo)]):=by
 refine aw.cons aw.nil ?_;rintro ts ⟨x,y,rfl,h1,h2⟩;exact⟨by simpa using t60 x y h1 h2,λh=>by cases h⟩
def t46(x y:Nat)(hx:x<4294967296)(hy:y<4294967296):aJ ak 105 [.int .u64 x,.int .u64 y] (.dh [.int .u64 0,.int .u64 ((x*y:Nat):Int)]):=by
 have bb:=au4;refine c46.ok (by simp) (aH ?_);simp;apply aa.ai bb fw [0,1];simp[JP];apply aa.seq;refine aa.cond rfl (λh=>by cases h) (λh=>?_);apply aa.skip;simp;apply aa.ai bb fw [8,9];simp[VR];refine⟨⟨x,y,⟨rfl,rfl⟩,hx,hy⟩, ?_⟩;apply aa.ai bb fw [4,5];simp[VS];apply aa.ret;simp[nP]
abbrev ajp:DM.Spec:=bp (λts=>∃x y:Nat,ts=[.int .u64 x,.int .u64 y]/\x<4294967296/\y<4294967296) (fun|[.int _ x,.int _ y]=>.dh [.int .u64 0,.int .u64 (x*y)]|_=>.bool false) false
def au5:aw ak (bz [(105,ajp)]):=by
 refine aw.cons aw.nil ?_;rintro ts ⟨x,y,rfl,h1,h2⟩;exact⟨by simpa using t46 x y h1 h2,λh=>by cases h⟩
def t29(v:Int)(n:Nat)(h1:1<=n)(hn:n<=10000000):oS ak 57 [.sl (au [v]),ti n] 3 1 (au (List.replicate n v)):=by
 have bb:=au5;refine c29.Hc (by simp) (aH ?_);simp;apply aa.ai bb fw [0,1];simp[apZ];apply aa.sq bb fw [0,1,10];simp[ap0];refine aa.cond rfl (λh=>by simp at h;omega) (λh=>?_);apply aa.skip;simp;have e1:=zt (n:=1) (by omega);have e2:=zt (n:=n) (by omega);apply aa.ai bb fw [0,1,5,6];simp[ap1,e1,e2];refine⟨⟨1,n,⟨rfl,rfl⟩,by omega,by omega⟩, ?_⟩;apply aa.sq bb fw [0,6,26];simp[ap2];refine aa.cond rfl (λh=>by simp at h;omega) (λh=>?_);apply aa.skip;simp;apply aa.ai bb fw [0,7];have w1:IntKind.i64.wrap (n:Int)=n:=av (by omega);simp[ap3,w1];refine⟨by simp[cw];omega, ?_⟩;apply aa.ai bb fw [7,8];have hrp:∀(k:Nat),au [v]=[[ti v]]:=λ_=>rfl;obtain⟨n',rfl⟩:∃n',n=n'+1:=⟨n-1,by omega⟩;simp[ap4,au,Q5];apply aa.seq;apply aa.block;refine aa.loop (λy:Nat=>⟨DM.look [(7,.aW 1227 0),(8,.v (ti (y+1:Nat)))],cR [(1227,.bm 0 3 1 (List.replicate (y+1) [ti v]++List.replicate (n'-y) [ti 0]))],3000,1000,[]⟩)
  (λy=>y<=n') (λy=>n'-y) 0 (Le.aL ?_ ?_ ?_ ?_) (by simp) (λy hy=>?_)
 iterate 4(·simp)
 apply aa.sq bb fw [7,8,37];simp[ap5];refine aa.cond rfl (λh=>?_) (λh=>?_)
 .simp at h;apply aa.skip;simp;apply aa.block;apply aa.cZ bb fw [7,8];have q1:((y:Int)+1<=(y:Int)+1+((n'-y:Nat):Int))=True:=by simp;omega
  simp[ap6,q1];obtain⟨k,hk⟩:=aY (min (n'-y) (y+1));have k1:min ((↑y+1+((n'-y:Nat):Int)).toNat-(y+1)) (y+1)=k:=by omega
  have k2:min (y+1) ((↑y+1+((n'-y:Nat):Int)).toNat-(y+1))=k:=by omega
  rw[k1,k2];have e:List.drop (y+1+k) (List.replicate (y+1) [ti v]++List.replicate (n'-y) [ti 0])=List.replicate (n'-(y+k)) [ti 0]:=by
   rw[Zdy];simp;omega
  rw[e];refine⟨by omega,y+k,Le.aL ?_ ?_ ?_ ?_,by omega,by omega⟩
  .simp
  .simp
  .simp;omega
  .simp;rw[av (by omega)];omega
 .simp at h;have:y=n':=by omega
  subst this;apply aa.exit;simp;apply aa.ai bb fw [4];simp[ail];apply aa.ret;exact .inr ⟨1227,0,by simp,by simp[Q5]⟩
def aeI(ts:aG):Prop:=∃(v:Int) (n:Nat),ts=[.sl (au [v]),ti n]/\1<=n/\n<=10000000
def ajh:aG->List (aG)
 |[.sl [[v]],.int _ n]=>List.replicate n.toNat [v]
 |_=>[]
def aeM(S:Nat)(a:bF):Prop:=0<=a.f/\a.f<S/\0<=a.t/\a.t<S/\0<=a.aA/\a.aA<1099511627776
def NO{l:aF}{aX:Int}(h:eG l aX):∀a∈l.aK,aeM l.bj.length a:=by
 intro a ha;obtain⟨i,hi,rfl⟩:=OQ ha;have h1:=(h.2.2 i hi).1;have e:l.aK.getD i default=l.aK[i]:=by simp[List.getD,hi]
 rw[e]at h1;have h2:=h.1.2;unfold C3 at h1;unfold aeM;omega
def BR(l:ba)(i:Nat)(v:Int):(au l).set i [ti v]=au (l.set i v):=by simp[au,Zco]
def kH(a b:Int):Int:=if 1099511627776<=a\/1099511627776<=b\/1099511627776<=a+b then 1099511627776 else a+b
section
variable{f:bS}{low:Nat}
def J2:aw ak (bz []):=aw.nil
def j8{l:fS}{r:Nat}(hf:qX f low)(h:low<=r)(hl:∀p∈l,p.1≠r):gone (dA l f) id r:=by
 intro r' nl e;simp only[id]at e;subst e;cases ho:dA l f r' with
 |none=>exact nl ho
 |some o=>
  rcases uh ho with h1|⟨_,h1⟩
  .exact hl _ h1 rfl
  .have:=(hf r' o h1).1;omega
def fL:List bB->Int->Int
 |[],c=>c
 |x::l,c=>fL l (min (c+x.delete) 1099511627776)
def d6(n:Nat):List (Int×Int):=List.replicate n (2,0)
def qS(l:List bB)(x:bB)(c:Int):fL (l++[x]) c=min (fL l c+x.delete) 1099511627776:=by
 induction l generalizing c with
 |nil=>rfl
 |cons y l ih=>simp[fL,ih]
def qc{l:List bB}(h:∀c∈l,0<=c.delete):∀c,0<=c/\c<=1099511627776->0<=fL l c/\fL l c<=1099511627776:=by
 induction l with
 |nil=>intro c hc;exact hc
 |cons y l ih=>
  intro c hc;have:=h y (by simp);exact ih (λz hz=>h z (by simp[hz])) _ (by omega)
def NB(l:List bB)(n:Nat):(bd l).take n=bd (l.take n):=by simp[bd,Zc9]
def NC(l:List bB)(n:Nat):(bd l).drop n=bd (l.drop n):=by simp[bd,List.map_drop]
def zH(LN:List bB):Prop:=LN.length<=1000000/\∀c∈LN,0<=c.delete/\c.delete<=1099511627776
def t31{b m:Nat}{x:Input}{i j:Nat}{N:Nat}(hN:∀r,N<=r->f r=none)(hb:f b=some (.box (c7 x m)))(To:i<=j)(hj:j<=x.ag.length)(hd:zH x.ag):
  ce ak 59 [.ptr b 0,.v (ti i),.v (ti j)] f ⟨True,.v (.dh [ti (fL ((x.ag.take j).drop i) 0),.sl (ca (d6 (j-i)))]),f⟩:=by
 have bb:=J2;refine c31.Ie hN (by simp) λc9=>?_;have zV:b<N:=(c9 b _ hb).1;obtain⟨part,vS⟩:=aY ((x.ag.take j).drop i);have Ti:part.length=j-i:=by rw[<-vS];simp;omega
 have hpd:∀c∈part,0<=c.delete/\c.delete<=1099511627776:=λc hc=>hd.2 c (by rw[<-vS]at hc;exact yS (Zcd hc));have UD:((bd x.ag).take j).drop i=bd part:=by rw[NB,NC,vS]
 have cK:∀r∈bd x.ag,r.length=3:=by intro r hr;simp only[bd,sE]at hr;obtain⟨c,_,rfl⟩:=hr;rfl
 have ct:=hd.1;rw[vS];clear vS;simp;apply aa.ai bb fw [0,1,2,7];simp[apO];apply aa.ai bb fw [0,1,2,8];simp[apP];apply aa.ai bb fw [0,1,2,8,9];simp[apQ];apply aa.sq bb fw [8,9,19,20,21];simp[apR,hb,c7,To,hj,UD];refine⟨cK, ?_⟩;refine aa.le (Le.iy (l1:=[]) (l:=[(8,.v (ti 0)),(9,.aZ),(19,.v (.sl (bd part))),(20,.v (ti part.length)),(21,.v (ti 0))]) (bn:=N+200) c9 ?_ ?_ ?_ ?_ ?_) ?_
 .omega
 .simp
 .simp[cY]
 .simp[kp]
 .simp
 refine aa.le (Le.j7 (k:=9) 86 (sz:=2) (by omega) (by simp)) ?_;rw[fJ];apply aa.block;refine aa.loop (λy:Nat=>⟨DM.look [(8,.v (ti (fL (part.take y) 0))),(9,.aW (N+200) 0),(19,.v (.sl (bd part))),(20,.v (ti part.length)),(21,.v (ti y))],dA [(N+200,.bm 0 86 2 (ca (d6 y)))] f,N+300,N,[]⟩)
  (λy=>y<=part.length) (λy=>part.length-y) 0 (Le.iy c9 ?_ ?_ ?_ ?_ ?_) (by simp) (λy hy=>?_)
 .omega
 .simp
 .simp[cY]
 .simp[kp,kq,d6,ca]
 .simp[fL]
 apply aa.ai bb fw [8,9,19,20,21,22];simp[apS];apply aa.seq;have yC:=qc (l:=part.take y) (λc hc=>(hpd c (yS hc)).1) 0 (by omega);refine aa.cond rfl (λhc=>?_) (λhc=>?_)
 .simp at hc;apply aa.skip;simp;apply aa.seq;apply aa.block;apply aa.ai bb fw [8,9,11,19,20,21];have gf:=fg hc;obtain⟨c,tg⟩:=aY (part[y]);have Ef:c∈part:=by rw[<-tg];exact MK hc
  have JE:=hpd c Ef;have htk:part.take (y+1)=part.take y++[c]:=by rw[OS,mM hc,tg];rfl
  simp[apT,gf,tg,hc,bB.enc];apply aa.ai bb fw [8,9,11,19,20,21];simp[apU];rw[av (by omega)];apply aa.cZ bb fw [8,9,19,20,21];simp[apV,cw,di];refine⟨by
    have:(d6 y).length=y:=by simp[d6]
    omega, ?_⟩
  apply aa.cZ bb fw [8,9,19,20,21];simp[apW];refine⟨y+1,Le.iy c9 ?_ ?_ ?_ ?_ ?_,by omega,by omega⟩
  .omega
  .simp
  .simp[cY];omega
  .simp[kp,kq,d6,ca,ZcQ]
  .simp[htk,qS];rw[av (by omega)]
 .simp at hc;have sZ:y=part.length:=by omega
  subst sZ;apply aa.exit;simp;apply aa.ai bb fw [6,7];simp[apX];refine aa.le (Le.iy (l1:=[]) (l:=[(6,.v (ti (fL part 0))),(7,.v (.sl (ca (d6 part.length))))]) (bn:=N+1000) c9 ?_ ?_ ?_ ?_ ?_) ?_
  .omega
  .simp
  .simp[cY]
  .simp[kp]
  .simp;exact j8 c9 (by omega) (by simp)
  apply aa.ret;simp[Xb,Ti];rfl
def cG(x:Input)(m:Nat):Bool:=
 decide (m+1<x.ag.length/\0<x.swap/\0<=(x.ag.getD m default).kind/\0<=(x.ag.getD (m+1) default).kind)
def t50{b m:Nat}{x:Input}{i:Nat}{N:Nat}(hN:∀r,N<=r->f r=none)(hb:f b=some (.box (c7 x m)))(hi:i<=1000000)(hl:x.ag.length<=1000000):
  ce ak 109 [.ptr b 0,.v (ti i)] f ⟨True,.v (.bool (cG x i)),f⟩:=by
 have bb:=J2;refine c50.Ie hN (by simp) λc9=>?_;simp;apply aa.ai bb fw [0,1,4];simp[Wv];apply aa.ai bb fw [0,1,5];simp[Ww,hb,c7];have hw:IntKind.i64.wrap ((i:Int)+1)=i+1:=av (by omega);refine aa.bL bb fw [(4,.v (.bool (cG x i)))] ?_ ?_
 .by_cases h1:i+1<x.ag.length
  .have ql:=fg (l:=x.ag) (y:=i) (by omega);have qd:DM.rowAt (bd x.ag) ((i:Int)+1)=(x.ag.getD (i+1) default).enc:=fg (l:=x.ag) h1;obtain⟨c1,bN⟩:=aY (x.ag.getD i default);obtain⟨c2,gD⟩:=aY (x.ag.getD (i+1) default);rw[bN]at ql;rw[gD]at qd;have RG:((i:Int)+1<x.ag.length)=True:=by simp;omega
   have hd2:((i:Int)<x.ag.length)=True:=by simp;omega
   have hd3:(0<=(i:Int)+1)=True:=by simp;omega
   have hd4:i<x.ag.length:=by omega
   have pB:cG x i=(decide (0<x.swap)&&(decide (0<=c1.kind)&&decide (0<=c2.kind))):=by
    unfold cG;rw[bN,gD];simp[h1]
   by_cases s1:0<x.swap<;>by_cases s2:0<=c1.kind<;>by_cases s3:0<=c2.kind<;>simp[Py,hb,c7,hw,ql,qd,RG,hd2,hd3,bB.enc,s1,s2,s3,pB]
  .have RG:((i:Int)+1<x.ag.length)=False:=by simp;omega
   simp[Py,hw,RG];simp[cG]
   intros;omega
 apply aa.ret;simp[um];rfl
def Le.SD{tm:dW}{ob:bS}{aP:Nat}{td:List (aG)}{P:Program}{nt:Nat}{d:DC}{Q:Exit->lK->Prop}{k:Nat}(hk:tm k=.v (.sl []))
  (h:∀(p:Option Addr) (c:Nat),aa P nt d Q ⟨cO tm (some k) (.v (.tf (.slice p 0 c))),ob,aP,low,td⟩):aa P nt d Q ⟨tm,ob,aP,low,td⟩:=by
 refine⟨λc hc n κ a w L g r=>?_⟩;obtain⟨W,base,M,w0,gG,h0⟩:=r.r.ex;have hx:=h0.tmps k;simp only[hk,aD,be]at hx;have nK:∃(p:Option Addr) (cp:Nat),a.tmps.getD k Go.undef=.slice p 0 cp:=by
  rcases hx with⟨_,p,cp,hx⟩|⟨b,o,cp,sz,hx,_⟩
  .exact⟨p,cp,hx⟩
  .exact⟨_,cp,hx⟩
 obtain⟨p,cp,hx⟩:=nK;refine(h p cp).run c hc n κ a w L g ⟨⟨⟨W,base,M,w0,gG,h0.size,λt=>?_,h0.o⟩,r.r.gq,r.r.defers,r.r.bg,r.r.dM⟩,r.fresh,r.low,r.it⟩;simp only[cO];by_cases ht:t=k
 .subst ht;simp only[Eg,aD,be];exact hx
 .simp only[ht,A0];exact h0.tmps t
def t49(l:List (Int×Int))(hl:l.length<=1000000):oS ak 108 [.sl (ca l)] 86 2 (ca l):=by
 have bb:=J2;refine c49.Hc (by simp) (aH ?_);simp;have cK:∀r∈ca l,r.length=2:=by intro r hr;simp only[ca,sE]at hr;obtain⟨c,_,rfl⟩:=hr;rfl
 apply aa.ai bb fw [0,2];simp[Px];cases l with
 |nil=>
  refine Le.SD (k:=0) (by simp[ca]) λp c=>?_;apply aa.sq bb fw [0,2,4];simp[Kj];refine aa.cond rfl (λh=>?_) (λh=>?_)
  .apply aa.ai bb fw [2];simp[Wu];apply aa.ret;exact .inl ⟨by simp,by simp[ca],by omega⟩
  .apply aa.skip;simp;apply aa.ai bb fw [2];simp[Kk,cw];apply aa.ret;exact .inr ⟨1026,0,by simp,by simp[ca]⟩
 |cons o l=>
  apply aa.sq bb fw [0,2,4];simp[Kj];refine⟨by simp[ca], ?_⟩;refine aa.cond rfl (λh=>by cases h) (λh=>?_);apply aa.skip;simp;apply aa.ai bb fw [2];simp[Kk,cw];refine⟨⟨cK,by simp at hl⊢;omega⟩, ?_⟩;apply aa.ret;exact .inr ⟨1026,0,by simp,by simp⟩
end
def Pj{a b:Int}(ha:0<=a)(hb:0<=b):0<=kH a b:=by unfold kH;split<;>omega
section
variable{kB:Nat}{es:List (Nat×T×DV)}
def Kn(es:List (Nat×T×DV)):Prop:=∀e∈es,∃a:bF,e.2.2=.v (.agg a.enc)
def Xf{f:bS}{N n:Nat}{l0 l1:fS}(c9:qX f N)(h0:∀p∈l0,N<=p.1)(h1:∀p∈l1,N<=p.1)(hn:f n≠none):sameAt (dA l0 f) (dA l1 f) n:=by
 obtain⟨o,ho⟩:=Zcr.1 hn;have cQ:=(c9 n o ho).1;refine⟨o,o, ?_, ?_,ej o⟩
 .rw[ui λo' h=>by have:=h0 _ h;simp only at this;omega];exact ho
 .rw[ui λo' h=>by have:=h1 _ h;simp only at this;omega];exact ho
def Xg{k:T}{c:Int}{y:DV}{e:Nat×T×DV}(h:e∈qH k c y kB es):e.2.2=y\/∃e'∈es,e.2.2=e'.2.2:=by
 unfold qH at h;split at h
 .rename_i hbt;clear hbt;unfold Gu at h;split at h
  .rename_i i hi;clear hi;induction es generalizing i with
   |nil=>simp at h
   |cons e0 es ih=>
    cases i with
    |zero=>
     simp only[ZcK,jv]at h;rcases h with rfl|h
     .exact .inl rfl
     .exact .inr ⟨e,by simp[h],rfl⟩
    |succ i=>
     simp only[Zcp,jv]at h;rcases h with rfl|h
     .exact .inr ⟨e,by simp,rfl⟩
     .rcases ih i h with h|⟨e',h1,h2⟩
      .exact .inl h
      .exact .inr ⟨e',by simp[h1],h2⟩
  .rcases lF.1 h with h|h
   .exact .inr ⟨e,h,rfl⟩
   .simp only[uy]at h;subst h;exact .inl rfl
 .exact .inr ⟨e,h,rfl⟩
def In:bW->bS->iw
 |[.ptr b 0,.agg [.v (.int .i64 f),.v (.int .i64 t),.v (.int .i64 x),.v (.int .i64 c),d]],ab=>
  match ab b with
  |some (.box [_,_,_,.fH m])=>match ab m with
   |some (.map bZ agg kB es)=>⟨bZ=mI/\agg=true/\Kn es/\kK d/\∀n∈br d,ab n≠none,.v (.dh []),
     dx ab m (.map mI true (wL (keyOf f t x) c kB es) (qH (keyOf f t x) c (.agg [.v (ti f),.v (ti t),.v (ti x),.v (ti c),d]) kB es))⟩
   |_=>⟨False,.undef,ab⟩
  |_=>⟨False,.undef,ab⟩
 |_,ab=>⟨False,.undef,ab⟩
def t48{f0:bS}{b m:Nat}{c1 c2 c3:DV}{f t x c:Int}{d:DV}{N:Nat}(hN:∀r,N<=r->f0 r=none)(hb:f0 b=some (.box [c1,c2,c3,.fH m]))(hm:f0 m=some (.map mI true kB es))(he:Kn es)(hd:kK d)(AG:∀n∈br d,f0 n≠none):
  ce ak 107 [.ptr b 0,.agg [.v (ti f),.v (ti t),.v (ti x),.v (ti c),d]] f0 ⟨True,.v (.dh []),dx f0 m (.map mI true (wL (keyOf f t x) c kB es) (qH (keyOf f t x) c (.agg [.v (ti f),.v (ti t),.v (ti x),.v (ti c),d]) kB es))⟩:=by
 have bb:=J2;refine c48.Ie hN (by simp) λc9=>?_;have zV:b<N:=(c9 b _ hb).1;have PL:m<N:=(c9 m _ hm).1;have zm:b≠m:=λe=>by rw[e,hm]at hb;cases hb
 have nb:∀k,b≠N+k:=λk=>by omega
 have nm:∀k,m≠N+k:=λk=>by omega
 simp;apply aa.ai bb fw [0,3];simp[Pt];apply aa.ai bb fw [0,3,4];simp[Pu];obtain⟨k,hk⟩:=aY (keyOf f t x);have sI:T.agg [ti f,ti t,ti x]=k:=hk;rw[hk];refine aa.le (Le.iy (l1:=[(N+49,.box [.v (ti f),.v (ti t),.v (ti x)]),(N+4,.box [.v (ti f),.v (ti t),.v (ti x),.v (ti c),d])]) (l:=[(0,.ptr b 0),(3,.ptr (N+4) 0),(4,.ptr (N+49) 0)]) (bn:=N+100) c9 ?_ ?_ ?_ ?_ ?_) ?_
 .omega
 .simp
 .simp[cY]
 .refine⟨⟨.box [.v (ti f),.v (ti t),.v (ti x)],by simp[pn],.inl (by simp),by omega⟩,⟨.box [.v (ti f),.v (ti t),.v (ti x),.v (ti c),d],by simp[pn],.inr ⟨rfl,λn hn=>?_⟩,by omega⟩,trivial⟩;refine Xf c9 ?_ ?_ (AG n (by simpa [jy,da,br]using hn))
  .simp;omega
  .simp
 .simp[hb,nb,pn]
 have hko:d9 mI true k:=by rw[<-hk];simp[keyOf]
 have H:∀(q1 q2 q3 q5:DV) (oc:Int) (fnd:Bool),fnd=(pE k es).isSome->(∀e,pE k es=some e->oc=HD e.2.2)->
   aa ak 43 ((DC.region false (yD 107 3)).seq (DC.cond (bK.tmp 36) (DC.region true (yD 107 4)) DC.skip))
    (aaz wJ ⟨True,.v (.dh []),dx f0 m (.map mI true (wL k c kB es) (qH k c (.agg [.v (ti f),.v (ti t),.v (ti x),.v (ti c),d]) kB es))⟩)
    ⟨DM.look [(0,.ptr b 0),(3,.ptr (N+4) 0),(4,.ptr (N+49) 0),(5,.ptr (N+106) 0),(6,.v (.bool fnd))],
     dA [(N+106,.box [q1,q2,q3,.v (ti oc),q5]),(N+106,.box [.v (ti 0),.v (ti 0),.v (ti 0),.v (ti 0),.aZ]),(N+49,.box [.v (ti f),.v (ti t),.v (ti x)]),(N+4,.box [.v (ti f),.v (ti t),.v (ti x),.v (ti c),d])] f0,N+144,N,[]⟩:=by
  intro q1 q2 q3 q5 oc fnd aaV hoc;have auY:Ky k c es=(decide (c<1099511627776)&&(!fnd||decide (c<oc))):=by
   unfold Ky;cases hf:pE k es with
   |none=>simp[hf]at aaV;simp[aaV]
   |some e=>simp[hf]at aaV;simp[aaV,hoc e hf]
  obtain⟨y,hy⟩:=aY (DV.agg [.v (ti f),.v (ti t),.v (ti x),.v (ti c),d]);have hyn:∀n∈br y,f0 n≠none:=by
   intro n hn;refine AG n ?_;rw[<-hy]at hn;simpa [br,da]using hn
  have nN:∀e∈es,br e.2.2=[]:=λe PM=>by obtain⟨a,ha⟩:=he e PM;rw[ha];rfl
  rw[hy];refine aa.to ⟨DM.look [],dA [(m,.map mI true (wL k c kB es) (qH k c y kB es))] f0,N+1000,N,[]⟩ ?_ (by simp[wJ];rfl);refine aa.bL bb fw [(0,.ptr b 0),(3,.ptr (N+4) 0),(4,.ptr (N+49) 0),(36,.v (.bool (Ky k c es)))] ?_ ?_
  .by_cases s1:c<1099511627776<;>cases fnd<;>by_cases s2:c<oc<;>simp[apY,s1,s2,auY]
  refine aa.cond rfl (λh=>?_) (λh=>?_)
  .apply aa.cZ bb fw [];simp[-d9,Wt,pn,nb,nm,hb,hm,sI,hko];refine Le.iy (l:=[]) c9 ?_ ?_ ?_ ?_ ?_
   .omega
   .simp;omega
   .simp[cY];omega
   .refine⟨⟨.map mI true (wL k c kB es) (qH k c y kB es),by simp[wL,qH,h,hy],.inr ⟨rfl,λn hn=>?_⟩,λ_=>ej _⟩,trivial⟩
    .simp only[jy,ZT]at hn;obtain⟨e,PM,hn⟩:=hn;rcases Xg PM with h'|⟨e',h',h''⟩
     .rw[h']at hn;obtain⟨o,ho⟩:=Zcr.1 (hyn n hn);have cQ:=(c9 n o ho).1;by_cases hnm:n=m
      .subst hnm;exact⟨.map mI true (wL k c kB es) (qH k c y kB es),.map mI true (wL k c kB es) (qH k c y kB es),by simp[wL,qH,h,hy],by simp,ej _⟩
      .refine⟨o,o, ?_, ?_,ej o⟩
       .simp[hnm,show n≠N+106 by omega,show n≠N+49 by omega,show n≠N+4 by omega,ho]
       .simp[hnm,ho]
     .rw[h'',nN e' h']at hn;cases hn
   .simp
  .refine aa.skip ⟨rfl,Le.iy (l:=[]) c9 ?_ ?_ ?_ ?_ ?_⟩
   .omega
   .simp;omega
   .simp[cY];omega
   .refine⟨⟨.map mI true kB es,by simp[nm,hm],.inr ⟨by simp[wL,qH,h],λn hn=>?_⟩,λ_=>by simp[jC]⟩,trivial⟩
    .simp only[jy,ZT]at hn;obtain⟨e,PM,hn⟩:=hn;rw[nN e PM]at hn;cases hn
   .simp
 apply aa.ai bb fw [0,3,4,5,6];cases hf:pE k es with
 |none=>
  simp[-d9,Ki,pn,nb,nm,hb,hm,sI,hko,hf];exact H _ _ _ _ 0 false (by simp[hf]) (by simp[hf])
 |some e=>
  obtain⟨a,ha⟩:=he e (Zcb hf);simp[-d9,Ki,pn,nb,nm,hb,hm,sI,hko,hf,ha,bF.enc];exact H _ _ _ _ a.aA true (by simp[hf]) (by intro e' PM;rw[hf]at PM;cases PM;simp[ha,bF.enc,HD])
end
section
variable{al:List bF}{f0:bS}
def Ko(ts:aG):Prop:=∃l:List (Int×Int),ts=[.sl (ca l)]/\l.length<=1000000
def Xh:aG->List (aG)
 |[.sl aC]=>aC
 |_=>[]
abbrev Γ4:kv:=bz [(107,fl In),(108,xP Ko Xh 86 2)]
def ok4:aw ak Γ4:=by
 refine aw.il (aw.Va aw.nil ?_) ?_
 .rintro ts ⟨l,rfl,h⟩;exact t49 l h
 .intro args ab h;unfold In at h⊢;split at h
  .rename_i b f t x c d aM;split at h
   .rename_i c1 c2 c3 m hb;split at h
    .rename_i bZ agg kB es hm;obtain⟨rfl,rfl,he,hd,AG⟩:=h;refine⟨λN hN=>?_,λr hr=>?_⟩
     .exact ce.of (t48 hN hb hm he hd AG) (by simp[]) (by simp[])
     .simp only[];exact fj hm hr
    .exact h.elim
   .exact h.elim
  .exact h.elim
def ND{a b:bS}{k:T}{c:Int}{y y':DV}{kB:Nat}{es:List (Nat×T×DV)}(hy:jJ a b id y y')(he:Kn es):iD a b id (qH k c y kB es) (qH k c y' kB es):=by
 have self:∀{l:List (Nat×T×DV)},Kn l->iD a b id l l:=λ{l} hl=>o8 λe h=>by obtain⟨x,hx⟩:=hl e h;rw[hx];simp
 unfold qH;split
 .rename_i hbt;clear hbt;unfold Gu;split
  .rename_i i hi;clear hi;induction es generalizing i with
   |nil=>simp[iD]
   |cons e es ih=>
    cases i with
    |zero=>simp only[ZcK,iD];exact⟨trivial,trivial,hy,self λe' h=>he e' (by simp[h])⟩
    |succ i=>
     simp only[Zcp,iD];obtain⟨x,hx⟩:=he e (by simp);exact⟨trivial,trivial,by rw[hx];simp,ih (λe' h=>he e' (by simp[h])) i⟩
  .rename_i hn;clear hn;induction es with
   |nil=>simp only[jB,iD];exact⟨trivial,trivial,hy,trivial⟩
   |cons e es ih=>
    simp only[IW,iD];obtain⟨x,hx⟩:=he e (by simp);exact⟨trivial,trivial,by rw[hx];simp,ih λe' h=>he e' (by simp[h])⟩
 .exact self he
def fY(al:List bF):Kn (df al):=SC al
def FQ{a b:bS}{c:bF}{d:DV}(hd:jJ a b id d (.v (.sl (ca c.ops)))):
  kq a b (.map mI true (wL c.key c.aA al.length (df al)) (qH c.key c.aA (.agg [.v (ti c.f),.v (ti c.t),.v (ti c.term),.v (ti c.aA),d]) al.length (df al))) (fM (vU al c)):=by
 obtain⟨h1,h2⟩:=HF c al;refine .inl ?_;unfold fM;rw[<-h1,<-h2];simp only[jx];refine⟨trivial,trivial,trivial,ND ?_ (fY al)⟩;simp[bF.enc,hd]
def zn(l:List (Int×Int))(a b:Int):ca l++[[ti a,ti b]]=ca (l++[(a,b)]):=by simp[ca]
def NE{N m r r2 aP bn v:Nat}{tm:dW}{l:pe}{o2:Ob}(c:bF){aC:List (aG)}(c9:qX f0 N)(hm:m<N)(hr:N<=r)(qd:N<=r2)(hn:N<=bn)(cK:aC=ca c.ops)
  (nJ:oM (dA [(m,.map mI true (wL c.key c.aA al.length (df al)) (qH c.key c.aA (.agg [.v (ti c.f),.v (ti c.t),.v (ti c.term),.v (ti c.aA),.aW r v]) al.length (df al))),(r,.bm v 86 2 aC),(r2,o2),(m,.map mI true al.length (df al))] f0) (dA [(m,fM (vU al c))] f0) id tm l):
  Le ⟨tm,dx (dA [(r,.bm v 86 2 aC),(r2,o2),(m,.map mI true al.length (df al))] f0) m (.map mI true (wL c.key c.aA al.length (df al)) (qH c.key c.aA (.agg [.v (ti c.f),.v (ti c.t),.v (ti c.term),.v (ti c.aA),.aW r v]) al.length (df al))),aP,N,[]⟩
   ⟨DM.look l,dA [(m,fM (vU al c))] f0,bn,N,[]⟩:=by
 subst cK;rw[fJ];refine Le.iy c9 hn ?_ ?_ ?_ nJ
 .simp;omega
 .simp[cY];omega
 .refine⟨⟨_,by simp,FQ (d:=.aW r v) ?_,λ_=>by simp[jC,fM]⟩,trivial⟩;simp[show r≠m by omega];exact j8 c9 hr (by simp;omega)
def SE(al:List bF):jy (fM al)=[]:=by
 simp only[fM,jy,List.flatMap_eq_nil_iff];intro e he;obtain⟨a,ha⟩:=fY al e he;rw[ha];rfl
def qI{a b:bS}(al:List bF):kq a b (fM al) (fM al):=.inr ⟨rfl,λn hn=>by rw[SE]at hn;cases hn⟩
def cy(al:List bF)(cs:List bF):List bF:=cs.foldl vU al
def ia(al cs ds:List bF):cy al (cs++ds)=cy (cy al cs) ds:=by simp[cy]
def mz(read:ba)(i m aA:Int)(ops:List (Int×Int))(n:Nat):List bF:=
 (List.range n).flatMap λt=>if 0<=read.getD t 0 then [⟨2*i,2*m+2,t,aA+read.getD t 0,ops++[(1,(t:Int))]⟩]else []
def NF(read:ba)(i m aA:Int)(ops:List (Int×Int))(n:Nat):mz read i m aA ops (n+1)=mz read i m aA ops n++(if 0<=read.getD n 0 then [⟨2*i,2*m+2,n,aA+read.getD n 0,ops++[(1,(n:Int))]⟩]else []):=by
 simp[mz,Gy]
def PN(c:bB):Prop:=c.read.length<=1000000/\∀p∈c.read,p<=1099511627776
def t47{b m:Nat}{x:Input}{i j:Nat}{aA:Int}{ops:List (Int×Int)}{N:Nat}(hN:∀r,N<=r->f0 r=none)(hb:f0 b=some (.box (c7 x m)))(hm:f0 m=some (fM al))
  (hi:i<=1000000) (hj:j<x.ag.length) (hl:x.ag.length<=1000000) (hc:PN (x.ag.getD j default)) (nU:0<=aA/\aA<=1099511627776) (afK:ops.length<=1000000):
  ce ak 106 [.ptr b 0,.v (ti i),.v (ti j),.v (ti aA),.v (.sl (ca ops))] f0 ⟨True,.v (.dh []),dx f0 m (fM (cy al (mz (x.ag.getD j default).read i j aA ops (x.ag.getD j default).read.length)))⟩:=by
 have bb:=ok4;refine c47.Ie hN (by simp) λc9=>?_;have zV:b<N:=(c9 b _ hb).1;have PL:m<N:=(c9 m _ hm).1;have zm:b≠m:=λe=>by rw[e,hm]at hb;cases hb
 have nb:∀k,b≠N+k:=λk=>by omega
 have nm:∀k,m≠N+k:=λk=>by omega
 have gf:=fg hj;obtain⟨col,Q7⟩:=aY (x.ag.getD j default);rw[Q7]at gf hc⊢;obtain⟨kd,read,Ep⟩:=col;simp only at hc⊢;obtain⟨bN,gD⟩:=hc;simp only at bN gD;have cK:∀r∈ca ops,r.length=2:=by intro r hr;simp only[ca,sE]at hr;obtain⟨c,_,rfl⟩:=hr;rfl
 simp;apply aa.ai bb fw [0,1,2,3,4,20,21,22];simp[Wn,hb,c7,hj,gf,bB.enc];refine aa.to ⟨DM.look [],dA [(m,fM (cy al (mz read i j aA ops read.length)))] f0,N+1000,N,[]⟩ ?_ (by simp[Hy];rfl);apply aa.block;refine aa.loop (λy:Nat=>⟨DM.look [(0,.ptr b 0),(1,.v (ti i)),(2,.v (ti j)),(3,.v (ti aA)),(4,.v (.sl (ca ops))),(20,.v (.sl (au read))),(21,.v (ti read.length)),(22,.v (ti y))],dA [(m,fM (cy al (mz read i j aA ops y)))] f0,N+200,N,[]⟩)
  (λy=>y<=read.length) (λy=>read.length-y) 0 (Le.iy c9 ?_ ?_ ?_ ?_ ?_) (by simp) (λy hy=>?_)
 .omega
 .simp;omega
 .simp[cY]
 .exact⟨⟨fM al,by simp[hm],by simpa [mz,cy]using qI al,λ_=>trivial⟩,trivial⟩
 .simp[hb,zm]
 apply aa.ai bb fw [0,1,2,3,4,20,21,22,23];simp[Wo];apply aa.seq;refine aa.cond rfl (λaS=>?_) (λaS=>?_)
 .simp at aS;apply aa.skip;simp;apply aa.seq;apply aa.block;have qd:=bA aS;obtain⟨p,hp⟩:=aY (read.getD y default);have hp0:read.getD y 0=p:=hp;have hpm:p<=1099511627776:=gD p (by rw[<-hp];simp[List.getD,aS]);rw[hp]at qd;apply aa.ai bb fw [0,1,2,3,4,10,11,20,21,22];simp[Wp,qd,aS];apply aa.ai bb fw [0,1,2,3,4,10,11,20,21,22,28];simp[Wq];have gh:=NF read i j aA ops y;rw[hp0]at gh;obtain⟨Z7,SF⟩:=aY (cy al (mz read i j aA ops y));rw[SF];refine aa.to ⟨DM.look [(0,.ptr b 0),(1,.v (ti i)),(2,.v (ti j)),(3,.v (ti aA)),(4,.v (.sl (ca ops))),(20,.v (.sl (au read))),(21,.v (ti read.length)),(22,.v (ti y))],dA [(m,fM (cy al (mz read i j aA ops (y+1))))] f0,N+1000,N,[]⟩ ?_ ?_
  .refine aa.cond rfl (λhd=>?_) (λhd=>?_)
   .simp at hd;refine aa.rP bb fw (rs:=Xc) (.inr ⟨_,pV⟩) (by kernel_rfl) [0,1,2,3,4,20,21,22] ?_;have w1:IntKind.i64.wrap (2*(i:Int))=2*i:=av (by omega);have w2:IntKind.i64.wrap (2*(j:Int))=2*j:=av (by omega);have w3:IntKind.i64.wrap (2*(j:Int)+2)=2*j+2:=av (by omega);have w4:IntKind.i64.wrap (aA+p)=aA+p:=av (by omega);simp[Xc,w1,w2,w3,w4,Xh,Ko,di,cw,In,hb,c7,zm,fM,fY,pn,nb,nm];refine⟨⟨ops,rfl,afK⟩,by omega,λn hn=>?_, ?_⟩
    .simp only[br,uy]at hn;subst hn;simp
    .have e:cy al (mz read i j aA ops (y+1))=vU Z7 ⟨2*i,2*j+2,y,aA+p,ops++[(1,(y:Int))]⟩:=by
      rw[gh,ee hd,ia,SF];rfl
     rw[e];refine NE ⟨2*i,2*j+2,y,aA+p,ops++[(1,(y:Int))]⟩ c9 PL ?_ ?_ ?_ (zn _ _ _) ?_
     .omega
     .omega
     .omega
     .simp[hb,zm]
   .simp at hd;have e:cy al (mz read i j aA ops (y+1))=Z7:=by
     rw[gh,iK (by omega),Ej,SF]
    rw[e];refine aa.skip ⟨rfl,Le.iy c9 ?_ ?_ ?_ ?_ ?_⟩
    .omega
    .simp;omega
    .simp[cY]
    .exact⟨⟨fM Z7,by simp[fM],qI _,λ_=>ej _⟩,trivial⟩
    .simp[hb,zm]
  .apply aa.cZ bb fw [0,1,2,3,4,20,21,22];simp[Wr];rw[av (by omega)];refine⟨y+1,Le.iy c9 ?_ ?_ ?_ ?_ ?_,by omega,by omega⟩
   .omega
   .simp;omega
   .simp[cY]
   .exact⟨⟨_,by simp,qI _,λ_=>ej _⟩,trivial⟩
   .simp[hb,zm]
 .simp at aS;have:y=read.length:=by omega
  subst this;apply aa.exit;refine⟨rfl, ?_⟩;refine Le.iy (l:=[]) c9 ?_ ?_ ?_ ?_ ?_
  .omega
  .simp;omega
  .simp[cY]
  .exact⟨⟨_,by simp,qI _,λ_=>ej _⟩,trivial⟩
  .simp
end
section
variable{ab:bS}{al:List bF}
def lg(ab:bS)(b:Nat):Input×Nat:=
 match ab b with
 |some (.box [.v (.sl c),.v (.sl i),.v (.int .i64 s),.fH m])=>(⟨kR c,eM i,s⟩,m)
 |_=>(⟨[],[],0⟩,0)
def Bw{b m:Nat}{x:Input}(h:ab b=some (.box (c7 x m))):lg ab b=(x,m):=by
 simp[lg,h,c7]
def zo(ab:bS)(m:Nat):List bF:=
 match ab m with
 |some (.map _ _ _ es)=>es.map λe=>match e.2.2 with|.v (.agg r)=>nS r|_=>default
 |_=>[]
def FR{m:Nat}(h:ab m=some (fM al)):zo ab m=al:=by
 simp only[zo,h,fM,df,Zc3];rw[show(List.map ((λe=>match e.2.2 with|DV.v (T.agg r)=>nS r|_=>default)∘λp=>(p.2,p.1.key,DV.v (T.agg p.1.enc))) al.zipIdx)=al.zipIdx.map Prod.fst from ZbN λp _=>by simp];simp
def k31:bW->bS->iw
 |[.ptr b 0,.v (.int .i64 i),.v (.int .i64 j)],ab=>⟨ab b=some (.box (c7 (lg ab b).1 (lg ab b).2))/\0<=i/\i<=j/\j<=(lg ab b).1.ag.length/\zH (lg ab b).1.ag,
   .v (.dh [ti (fL (((lg ab b).1.ag.take j.toNat).drop i.toNat) 0),.sl (ca (d6 (j.toNat-i.toNat)))]),ab⟩
 |_,ab=>⟨False,.undef,ab⟩
def zp{b m:Nat}{x:Input}{i j:Nat}(h:ab b=some (.box (c7 x m))):
  k31 [.ptr b 0,.v (ti i),.v (ti j)] ab=⟨i<=j/\j<=x.ag.length/\zH x.ag,.v (.dh [ti (fL ((x.ag.take j).drop i) 0),.sl (ca (d6 (j-i)))]),ab⟩:=by
 simp only[k31,Bw h,h,gN,Em,Int.ofNat_le,Zc4];try omega
def SG:bW->bS->iw
 |[.ptr b 0,.v (.int .i64 i)],ab=>⟨ab b=some (.box (c7 (lg ab b).1 (lg ab b).2))/\0<=i/\i<=1000000/\(lg ab b).1.ag.length<=1000000,.v (.bool (cG (lg ab b).1 i.toNat)),ab⟩
 |_,ab=>⟨False,.undef,ab⟩
def Xi{b m:Nat}{x:Input}{i:Nat}(h:ab b=some (.box (c7 x m))):
  SG [.ptr b 0,.v (ti i)] ab=⟨i<=1000000/\x.ag.length<=1000000,.v (.bool (cG x i)),ab⟩:=by
 simp only[SG,Bw h,h,gN,iw.mk.injEq,and_self,ZI,Em,eq_iff_iff,Zc4];try omega
def k47:bW->bS->iw
 |[.ptr b 0,.v (.int .i64 i),.v (.int .i64 j),.v (.int .i64 aA),.v (.sl ops)],ab=>
  ⟨ab b=some (.box (c7 (lg ab b).1 (lg ab b).2))/\ab (lg ab b).2=some (fM (zo ab (lg ab b).2))/\ops=ca (v6 ops)/\0<=i/\i<=1000000/\0<=j/\j<(lg ab b).1.ag.length/\(lg ab b).1.ag.length<=1000000/\PN ((lg ab b).1.ag.getD j.toNat default)/\0<=aA/\aA<=1099511627776/\(v6 ops).length<=1000000,.v (.dh []),
   dx ab (lg ab b).2 (fM (cy (zo ab (lg ab b).2) (mz ((lg ab b).1.ag.getD j.toNat default).read i.toNat j.toNat aA (v6 ops) ((lg ab b).1.ag.getD j.toNat default).read.length)))⟩
 |_,ab=>⟨False,.undef,ab⟩
def ajc{b m:Nat}{x:Input}{i j:Nat}{aA:Int}{ops:List (Int×Int)}(h:ab b=some (.box (c7 x m)))(hm:ab m=some (fM al)):
  k47 [.ptr b 0,.v (ti i),.v (ti j),.v (ti aA),.v (.sl (ca ops))] ab=⟨i<=1000000/\j<x.ag.length/\x.ag.length<=1000000/\PN (x.ag.getD j default)/\0<=aA/\aA<=1099511627776/\ops.length<=1000000,.v (.dh []),
   dx ab m (fM (cy al (mz (x.ag.getD j default).read i j aA ops (x.ag.getD j default).read.length)))⟩:=by
 simp only[k47,Bw h,h,FR hm,hm,gN,NA,Em,Int.ofNat_lt,Zc4,show((i:Int)<=1000000)=(i<=1000000)from propext ⟨λh=>by omega,λh=>by omega⟩]
abbrev Γ5:kv:=bz [(107,fl In),(106,fl k47),(59,fl k31),(109,fl SG),(108,xP Ko Xh 86 2)]
def ok5:aw ak Γ5:=by
 refine aw.il (aw.il (aw.il (aw.il (aw.Va aw.nil ?_) ?_) ?_) ?_) ?_
 .rintro ts ⟨l,rfl,h⟩;exact t49 l h
 .intro args ab h;unfold SG at h⊢;split at h
  .rename_i aM b i;obtain⟨hb,h1,h2,h3⟩:=h;obtain⟨i,rfl⟩:=bX h1;refine⟨λN hN=>?_,λr hr=>hr⟩;exact ce.of (t50 hN hb (by omega) h3) (by simp) (by simp)
  .exact h.elim
 .intro args ab h;unfold k31 at h⊢;split at h
  .rename_i aM b i j;obtain⟨hb,h1,h2,h3,h4⟩:=h;obtain⟨i,rfl⟩:=bX h1;obtain⟨j,rfl⟩:=bX (show 0<=j by omega);refine⟨λN hN=>?_,λr hr=>hr⟩;exact ce.of (t31 hN hb (by omega) (by omega) h4) (by simp) (by simp)
  .exact h.elim
 .intro args ab h;unfold k47 at h⊢;split at h
  .rename_i aM b i j aA ops;obtain⟨hb,hm,ho,h1,h2,h3,h4,h5,h6,h7,h8,h9⟩:=h;obtain⟨i,rfl⟩:=bX h1;obtain⟨j,rfl⟩:=bX h3;refine⟨λN hN=>?_,λr hr=>fj hm hr⟩;rw[ho];exact ce.of (t47 hN hb hm (by omega) (by omega) h5 h6 ⟨h7,h8⟩ h9) (by simp) (by simp)
  .exact h.elim
 .intro args ab h;exact(ok4 107 (fl In) rfl).st In rfl args ab h
end
section
variable{f0:bS}{al:List bF}
def ez(x:Input)(i m:Nat):Int:=fL ((x.ag.take m).drop i) 0
def tu(dm:ba)(i m aA:Int)(ops:List (Int×Int))(n:Nat):List bF:=
 (List.range n).map λ(t:Nat)=>⟨2*i,2*m,(t:Int),aA+dm.getD t 0,ops++[(3,(t:Int))]⟩
def SH(dm:ba)(i m aA:Int)(ops:List (Int×Int))(n:Nat):tu dm i m aA ops (n+1)=tu dm i m aA ops n++[⟨2*i,2*m,n,aA+dm.getD n 0,ops++[(3,(n:Int))]⟩]:=by
 simp[tu,Gy]
def zS(x:Input)(i m:Nat):List bF:=mz (x.ag.getD m default).read i m (ez x i m) (d6 (m-i)) (x.ag.getD m default).read.length
def sC(x:Input)(i m:Nat):List bF:=
 (if i<m then zS x i (m-1)else [])++(tu x.insert i m (ez x i m) (d6 (m-i)) x.insert.length++
  (if cG x m then [⟨2*i,2*m+1,(x.ag.getD (m+1) default).kind,ez x i m+x.swap,d6 (m-i)++[(4,0)]⟩]else []))
def ye(x:Input)(i m:Nat):List bF:=(List.range (m-i)).flatMap λe=>sC x i (i+e)
def tw(x:Input)(i:Nat):List bF:=ye x i (x.ag.length+1)++(if cG x i then [⟨2*i+1,2*i+4,(x.ag.getD i default).kind,0,[]⟩]else [])
def NG(x:Input){i m:Nat}(h:i<=m):ye x i (m+1)=ye x i m++sC x i m:=by
 unfold ye;rw[show m+1-i=(m-i)+1 by omega,Gy,Zdo];simp[show i+(m-i)=m by omega]
def Sg(x:Input):Prop:=zH x.ag/\(∀c∈x.ag,PN c)/\x.insert.length<=1000000/\(∀p∈x.insert,0<=p/\p<=1099511627776)/\0<=x.swap/\x.swap<=1099511627776
def cm{x:Input}(h:zH x.ag)(i m:Nat):0<=ez x i m/\ez x i m<=1099511627776:=
 qc (λc hc=>(h.2 c (yS (Zcd hc))).1) 0 (by omega)
def sh{N m aP bn:Nat}{tm:dW}{l:pe}{L:fS}(c9:qX f0 N)(hm:m<N)(hn:N<=bn)(hL:∀p∈L,p.1=m\/N<=p.1)(ho:dA L f0 m=some (fM al))
  (nJ:oM (dA L f0) (dA [(m,fM al)] f0) id tm l):
  Le ⟨tm,dA L f0,aP,N,[]⟩ ⟨DM.look l,dA [(m,fM al)] f0,bn,N,[]⟩:=by
 refine Le.iy c9 hn ?_ ?_ ?_ nJ
 .simp;omega
 .induction L with
  |nil=>trivial
  |cons p L ih=>
   have:∀(L:fS),(∀p∈L,p.1=m\/N<=p.1)->cY N [(m,fM al)] L:=by
    intro L;induction L with
    |nil=>intro _;trivial
    |cons q L ih=>
     intro h;refine⟨λhq=>?_,ih λp hp=>h p (by simp[hp])⟩;rcases h q (by simp)with h|h
     .exact⟨fM al,by simp[h]⟩
     .omega
   exact this _ hL
 .exact⟨⟨fM al,ho,qI al,λ_=>ej _⟩,trivial⟩
def t30{b m:Nat}{x:Input}{i:Nat}{N:Nat}(hN:∀r,N<=r->f0 r=none)(hb:f0 b=some (.box (c7 x m)))(hm:f0 m=some (fM al))
  (hi:i<=x.ag.length) (hx:Sg x):
  ce ak 58 [.ptr b 0,.v (ti i)] f0 ⟨True,.v (.dh []),dx f0 m (fM (cy al (tw x i)))⟩:=by
 have bb:=ok5;refine c30.Ie hN (by simp) λc9=>?_;have zV:b<N:=(c9 b _ hb).1;have PL:m<N:=(c9 m _ hm).1;have zm:b≠m:=λe=>by rw[e,hm]at hb;cases hb
 have nb:∀k,b≠N+k:=λk=>by omega
 have nm:∀k,m≠N+k:=λk=>by omega
 obtain⟨hd,mZ,HG,NH,Xj,pB⟩:=hx;have hl:=hd.1;simp;apply aa.ai bb fw [0,1,4];simp[WV,hb,c7];apply aa.sq bb fw [0,1,4,5];simp[WX];refine aa.to ⟨DM.look [(0,.ptr b 0),(1,.v (ti i))],dA [(m,fM (cy al (ye x i (x.ag.length+1))))] f0,N+1000,N,[]⟩ ?_ ?_
 .apply aa.block;refine aa.loop (λy:Nat=>⟨DM.look [(0,.ptr b 0),(1,.v (ti i)),(4,.v (ti x.ag.length)),(5,.v (ti y))],dA [(m,fM (cy al (ye x i y)))] f0,N+1000,N,[]⟩)
   (λy=>i<=y/\y<=x.ag.length+1) (λy=>x.ag.length+1-y) i (Le.iy c9 ?_ ?_ ?_ ?_ ?_) (by omega) (λy hy=>?_)
  .omega
  .simp;omega
  .simp[cY]
  .exact⟨⟨fM al,by simp[hm],by simpa [ye,cy]using qI al,λ_=>trivial⟩,trivial⟩
  .simp[hb,zm]
  obtain⟨vy,fI⟩:=hy;apply aa.sq bb fw [0,1,4,5,21];simp[apJ];refine aa.cond rfl (λaS=>?_) (λaS=>?_)
  .simp at aS;apply aa.skip;simp;obtain⟨aA,nU⟩:=aY (ez x i y);have wg:0<=aA/\aA<=1099511627776:=by rw[<-nU];exact cm hd i y
   have ajd:fL ((x.ag.take y).drop i) 0=aA:=nU;obtain⟨Z7,SF⟩:=aY (cy al (ye x i y));rw[SF];apply aa.seq;refine aa.to ⟨DM.look [(0,.ptr b 0),(1,.v (ti i)),(4,.v (ti x.ag.length)),(5,.v (ti y))],dA [(m,fM (cy Z7 (sC x i y)))] f0,N+1000,N,[]⟩ ?_ ?_
   .apply aa.block;apply aa.seq;refine aa.rP bb fw (rs:=W8) (.inr ⟨_,pV⟩) (by kernel_rfl) [0,1,4,5,6,7] ?_;simp[W8,zp (x:=x) (m:=m),hb,zm,vy,aS,hd,ajd];apply aa.seq;obtain⟨Kp,NI⟩:=aY (cy Z7 (if i<y then zS x i (y-1)else []));refine aa.to ⟨DM.look [(0,.ptr b 0),(1,.v (ti i)),(4,.v (ti x.ag.length)),(5,.v (ti y)),(6,.v (ti aA)),(7,.v (.sl (ca (d6 (y-i)))))],dA [(m,fM Kp)] f0,N+1000,N,[]⟩ ?_ ?_
    .apply aa.ai bb fw [0,1,4,5,6,7,33];simp[apK];refine aa.cond rfl (λh=>?_) (λh=>?_)
     .simp at h;obtain⟨q,hq⟩:∃q,y=q+1:=⟨y-1,by omega⟩;have hwq:IntKind.i64.wrap ((y:Int)-1)=(q:Int):=by rw[av (by omega)];omega
      have hiq:i<=q:=by omega
      have hql:q<=x.ag.length:=by omega
      have aje:q<x.ag.length:=by omega
      obtain⟨c2,gD⟩:=aY (ez x i q);have arm:0<=c2/\c2<=1099511627776:=by rw[<-gD];exact cm hd i q
      have auZ:fL ((x.ag.take q).drop i) 0=c2:=gD;refine aa.seq (aa.rP bb fw (rs:=W9) (.inr ⟨_,pV⟩) (by kernel_rfl) [0,1,4,5,6,7,8,9] ?_);simp[W9,zp (x:=x) (m:=m),hb,zm,hwq,hiq,hql,hd,auZ];refine aa.rP bb fw (rs:=Xa) (.inr ⟨_,pV⟩) (by kernel_rfl) [0,1,4,5,6,7] ?_;simp[Xa,ajc (x:=x) (m:=m) (al:=Z7),hb,zm,hwq];refine⟨⟨by omega,aje,hl, ?_,arm.1,arm.2,by simp[d6];omega⟩, ?_⟩
      .rw[mM aje];exact mZ _ (MK aje)
      .rw[fJ];have e:cy Z7 (mz (x.ag[q]?.getD default).read i q c2 (d6 (q-i)) (x.ag[q]?.getD default).read.length)=Kp:=by
        rw[<-NI,ee h];simp[zS,show y-1=q by omega,gD]
       rw[e];exact sh c9 PL (by omega) (by simp) (by simp) (by simp[hb,zm])
     .simp at h;have e:Z7=Kp:=by rw[<-NI,iK (by omega)];rfl
      rw[e];exact aa.skip ⟨rfl,sh c9 PL (by omega) (by simp) (by simp) (by simp[hb,zm])⟩
    apply aa.seq;obtain⟨Lo,zq⟩:=aY (cy Kp (tu x.insert i y aA (d6 (y-i)) x.insert.length));refine aa.to ⟨DM.look [(0,.ptr b 0),(1,.v (ti i)),(4,.v (ti x.ag.length)),(5,.v (ti y)),(6,.v (ti aA)),(7,.v (.sl (ca (d6 (y-i)))))],dA [(m,fM Lo)] f0,N+1000,N,[]⟩ ?_ ?_
    .apply aa.ai bb fw [0,1,4,5,6,7,53,54,55];simp[apL,hb,zm,c7];apply aa.block;refine aa.loop (λz:Nat=>⟨DM.look [(0,.ptr b 0),(1,.v (ti i)),(4,.v (ti x.ag.length)),(5,.v (ti y)),(6,.v (ti aA)),(7,.v (.sl (ca (d6 (y-i))))),(53,.v (.sl (au x.insert))),(54,.v (ti x.insert.length)),(55,.v (ti z))],dA [(m,fM (cy Kp (tu x.insert i y aA (d6 (y-i)) z)))] f0,N+1000,N,[]⟩)
      (λz=>z<=x.insert.length) (λz=>x.insert.length-z) 0 ?_ (by omega) (λz hz=>?_)
     .exact sh c9 PL (by omega) (by simp) (by simp[tu,cy]) (by simp[hb,zm])
     apply aa.ai bb fw [0,1,4,5,6,7,53,54,55,56];simp[apM];apply aa.seq;refine aa.cond rfl (λh=>?_) (λh=>?_)
     .simp at h;apply aa.skip;simp;apply aa.seq;apply aa.block;obtain⟨p,hp⟩:=aY (x.insert.getD z default);have hr:=bA h;have hpb:=NH p (by rw[<-hp];simp[List.getD,h]);have hp0:x.insert.getD z 0=p:=hp;have gh:=SH x.insert i y aA (d6 (y-i)) z;rw[hp0]at gh;rw[hp]at hr;apply aa.ai bb fw [0,1,4,5,6,7,10,11,53,54,55];simp[apN,hr,h];obtain⟨alz,arn⟩:=aY (cy Kp (tu x.insert i y aA (d6 (y-i)) z));rw[arn];refine aa.to ⟨DM.look [(0,.ptr b 0),(1,.v (ti i)),(4,.v (ti x.ag.length)),(5,.v (ti y)),(6,.v (ti aA)),(7,.v (.sl (ca (d6 (y-i))))),(53,.v (.sl (au x.insert))),(54,.v (ti x.insert.length)),(55,.v (ti z))],dA [(m,fM (cy Kp (tu x.insert i y aA (d6 (y-i)) (z+1))))] f0,N+1000,N,[]⟩ ?_ ?_
      .refine aa.rP bb fw (rs:=PG) (.inr ⟨_,pV⟩) (by kernel_rfl) [0,1,4,5,6,7,53,54,55] ?_;have w1:IntKind.i64.wrap (2*(i:Int))=2*i:=av (by omega);have w2:IntKind.i64.wrap (2*(y:Int))=2*y:=av (by omega);have w4:IntKind.i64.wrap (aA+p)=aA+p:=av (by omega);have u7:(d6 (y-i)).length=y-i:=by simp[d6]
       simp[PG,w1,w2,w4,Xh,Ko,di,cw,In,hb,c7,zm,fM,fY,pn,nb,nm];refine⟨⟨_,rfl,by omega⟩,by omega,λn hn=>?_, ?_⟩
       .simp only[br,uy]at hn;subst hn;simp
       .have e:cy Kp (tu x.insert i y aA (d6 (y-i)) (z+1))=vU alz ⟨2*i,2*y,z,aA+p,d6 (y-i)++[(3,(z:Int))]⟩:=by
         rw[gh,ia,arn];rfl
        rw[e];refine NE ⟨2*i,2*y,z,aA+p,d6 (y-i)++[(3,(z:Int))]⟩ c9 PL ?_ ?_ ?_ (zn _ _ _) ?_
        .omega
        .omega
        .omega
        .simp[hb,zm]
      .apply aa.cZ bb fw [0,1,4,5,6,7,53,54,55];simp[aij];rw[av (by omega)];exact⟨z+1,sh c9 PL (by omega) (by simp) (by simp) (by simp[hb,zm]),by omega,by omega⟩
     .simp at h;have:z=x.insert.length:=by omega
      subst this;refine aa.exit ⟨rfl, ?_⟩;rw[zq];exact sh c9 PL (by omega) (by simp) (by simp) (by simp[hb,zm])
    refine aa.fR bb fw (rs:=PH) (.inr ⟨_,pV⟩) (by kernel_rfl) [0,1,4,5,6,7,80] ?_;simp[PH,Xi (x:=x) (m:=m),hb,zm];refine⟨⟨by omega,hl⟩, ?_⟩;have JE:cy Z7 (sC x i y)=cy Lo (if cG x y then [⟨2*i,2*y+1,(x.ag.getD (y+1) default).kind,aA+x.swap,d6 (y-i)++[(4,0)]⟩]else []):=by
     rw[<-zq,<-NI,<-ia,<-ia];simp[sC,nU]
    refine aa.cond rfl (λh=>?_) (λh=>?_)
    .rw[JE,ee h];have Kq:y+1<x.ag.length:=by simp[cG]at h;exact h.1
     have hr:DM.rowAt (bd x.ag) ((y:Int)+1)=_:=fg Kq;obtain⟨c2,gD⟩:=aY (x.ag.getD (y+1) default);rw[gD]at hr⊢;have w0:IntKind.i64.wrap ((y:Int)+1)=y+1:=av (by omega);have w1:IntKind.i64.wrap (2*(i:Int))=2*i:=av (by omega);have w2:IntKind.i64.wrap (2*(y:Int))=2*y:=av (by omega);have w3:IntKind.i64.wrap (2*(y:Int)+1)=2*y+1:=av (by omega);have w4:IntKind.i64.wrap (aA+x.swap)=aA+x.swap:=av (by omega);have u7:(d6 (y-i)).length=y-i:=by simp[d6]
     have ajf:((y:Int)+1<x.ag.length)=True:=by simp;omega
     have AV:(0<=(y:Int)+1)=True:=by simp;omega
     refine aa.rP bb fw (rs:=kX (JC b N) (xK adJ [none,none,none,none,none,none,none,none,none,none,some [0],none,none,some [],none,some [],none,none,none,none,none,some [0],none,none,some [],none,none,some [1239]])) (.inl (by first|exact congrArg DC.rK (by kernel_rfl)|exact pV)) (by rw[He (Sf zV)];kernel_rfl) [0,1,4,5] ?_;simp[kX,qz,xK,dN,bT,br,da,JC,adJ,w0,w1,w2,w3,w4,hr,ajf,AV,bB.enc,Xh,Ko,di,cw,In,hb,c7,zm,fM,fY,pn,nb,nm];refine⟨⟨_,rfl,by omega⟩,by omega, ?_⟩;refine NE ⟨2*i,2*y+1,c2.kind,aA+x.swap,d6 (y-i)++[(4,0)]⟩ c9 PL ?_ ?_ ?_ (zn _ _ _) ?_
     .omega
     .omega
     .omega
     .simp[hb,zm]
    .rw[JE,iK (by simp[h])];exact aa.skip ⟨rfl,sh c9 PL (by omega) (by simp) (by simp[cy]) (by simp[hb,zm])⟩
   .apply aa.cZ bb fw [0,1,4,5];simp[aik];rw[av (by omega)];refine⟨y+1,sh c9 PL (by omega) (by simp) (by simp;rw[NG x vy,ia,SF]) (by simp[hb,zm]),⟨by omega,by omega⟩,by omega⟩
  .simp at aS;have:y=x.ag.length+1:=by omega
   subst this;refine aa.exit ⟨rfl, ?_⟩;exact sh c9 PL (by omega) (by simp) (by simp) (by simp[hb,zm])
 .obtain⟨al3,SI⟩:=aY (cy al (ye x i (x.ag.length+1)));have JE:cy al (tw x i)=cy al3 (if cG x i then [⟨2*i+1,2*i+4,(x.ag.getD i default).kind,0,[]⟩]else []):=by
   rw[<-SI,<-ia];rfl
  rw[SI];refine aa.fR bb fw (rs:=PJ) (.inr ⟨_,pV⟩) (by kernel_rfl) [0,1,113] ?_;simp[PJ,Xi (x:=x) (m:=m),hb,zm];refine⟨⟨by omega,hl⟩, ?_⟩;refine aa.to ⟨DM.look [],dA [(m,fM (cy al (tw x i)))] f0,N+1000,N,[]⟩ ?_ (by simp[Dx];rfl);refine aa.cond rfl (λh=>?_) (λh=>?_)
  .rw[JE,ee h];have Kq:i<x.ag.length:=by simp[cG]at h;omega
   have hr:=fg Kq;obtain⟨c2,gD⟩:=aY (x.ag.getD i default);rw[gD]at hr⊢;have w1:IntKind.i64.wrap (2*(i:Int))=2*i:=av (by omega);have w2:IntKind.i64.wrap (2*(i:Int)+1)=2*i+1:=av (by omega);have w3:IntKind.i64.wrap (2*(i:Int)+4)=2*i+4:=av (by omega);refine aa.rP bb fw (rs:=PK) (.inr ⟨_,pV⟩) (by kernel_rfl) [] ?_;simp[PK,w1,w2,w3,hr,Kq,bB.enc,In,hb,c7,zm,fM,fY,pn];refine⟨λn hn=>(by simp[br]at hn), ?_⟩;rw[fJ];refine Le.iy (l:=[]) c9 (by omega) (by simp;omega) (by simp[cY]) ⟨⟨_,by simp;exact⟨rfl,rfl⟩,FQ (c:=⟨2*i+1,2*i+4,c2.kind,0,[]⟩) (d:=.aZ) ?_,λ_=>by simp[jC]⟩,trivial⟩ (by simp);simp[ca]
  .rw[JE,iK (by simp[h])];exact aa.skip ⟨rfl,sh c9 PL (by omega) (by simp) (by simp[cy]) (by simp)⟩
end
def fp(a:bF)(p:Bool×List bF)(b:bF):Bool×List bF:=
 if p.1=false/\aV b a=true then(true,p.2++[if a.aA<b.aA then a else b])
 else if p.1=false/\cb a b then(true,p.2++[a]++[b])
 else(p.1,p.2++[b])
def gU(a:bF)(l:List bF):Bool×List bF:=l.foldl (fp a) (false,[])
def vo(l:List bF)(a:bF):List bF:=
 if 1099511627776<=a.aA then l else if(gU a l).1 then(gU a l).2 else(gU a l).2++[a]
@[simp] def aeO(a b c d:Int)(o:List (Int×Int)):nS [ti a,ti b,ti c,ti d,.sl (ca o)]=⟨a,b,c,d,o⟩:=pg ⟨a,b,c,d,o⟩
@[simp] def aeP(a b c d:Int):nS [ti a,ti b,ti c,ti d,.sl []]=⟨a,b,c,d,[]⟩:=pg ⟨a,b,c,d,[]⟩
def ft{α:Type}(f:Nat->List α)(i m:Nat):List α:=(List.range (m-i)).flatMap λe=>f (i+e)
def pA{α:Type}(f:Nat->List α){i m:Nat}(h:i<=m):ft f i (m+1)=ft f i m++f m:=by
 unfold ft;rw[show m+1-i=(m-i)+1 by omega,Gy,Zdo];simp[show i+(m-i)=m by omega]
def vX{α:Type}(f:Nat->List α)(i:Nat):ft f i i=[]:=by simp[ft]
def cV(x:Input)(m t:Nat):Int:=(x.ag.getD m default).read.getD t default
def rA(x:Input)(i m t:Nat):List bF:=if m<x.ag.length/\0<=cV x m t then [⟨2*i,2*m+2,t,kH (ez x i m) (cV x m t),d6 (m-i)++[(1,(t:Int))]⟩]else []
def rS(x:Input)(i m:Nat):List bF:=if cG x m then [⟨2*i,2*m+1,(x.ag.getD (m+1) default).kind,kH (ez x i m) x.swap,d6 (m-i)++[(4,0)]⟩]else []
def rM(x:Input)(i m:Nat):List bF:=ft (rA x i m) 0 x.insert.length++rS x i m
def rT(x:Input)(i:Nat):List bF:=if cG x i then [⟨2*i+1,2*i+4,(x.ag.getD i default).kind,0,[]⟩]else []
def rI(x:Input)(i:Nat):List bF:=ft (rM x i) i (x.ag.length+1)++rT x i
def iT(x:Input)(i m t:Nat):List bF:=[⟨2*i,2*m,t,kH (ez x i m) (x.insert.getD t default),d6 (m-i)++[(3,(t:Int))]⟩]
def iM(x:Input)(i m:Nat):List bF:=ft (iT x i m) 0 x.insert.length
def iI(x:Input)(i:Nat):List bF:=ft (iM x i) i (x.ag.length+1)
def bE(l cs:List bF):List bF:=cs.foldl vo l
def d7(l cs ds:List bF):bE l (cs++ds)=bE (bE l cs) ds:=by simp[bE]
def eK(x:Input):List bF:=bE (bE [] (ft (rI x) 0 (x.ag.length+1))) (ft (iI x) 0 (x.ag.length+1))
def fe(x:Input)(k:Nat):ba:=(List.range (2*x.ag.length+1)).map λs=>if s<k then(if s % 2=0 then ez x (s/2) x.ag.length else 1099511627776)else 0
def aI(x:Input):aF:=⟨2*x.ag.length+1,eK x,fe x (2*x.ag.length+1)⟩
def HL(a:bF)(p:Bool×List bF)(b:bF):(fp a p b).2.length+p.1.toNat<=p.2.length+1+(fp a p b).1.toNat:=by
 unfold fp;cases hp:p.1 with
 |true=>simp
 |false=>
  simp only[Em,Bool.toNat_false];split
  .simp
  .split<;>simp
def Kw(a:bF)(l:List bF):(gU a l).2.length<=l.length+(gU a l).1.toNat:=by
 have key:∀(l:List bF) (p:Bool×List bF),(l.foldl (fp a) p).2.length+p.1.toNat<=p.2.length+l.length+(l.foldl (fp a) p).1.toNat:=by
  intro l;induction l with
  |nil=>intro p;simp
  |cons b l ih=>
   intro p;simp only[Br,B8];have h:=ih (fp a p b);have hs:=HL a p b;omega
 have h:=key l (false,[]);simpa [gU]using h
def Xt(l:List bF)(a:bF):(vo l a).length<=l.length+1:=by
 have h:=Kw a l;unfold vo;split
 .omega
 .split
  .rename_i hd;rw[hd]at h;simpa using h
  .rename_i hd;simp only[ZcP]at hd;rw[hd]at h;simp at h⊢;omega
def ib(cs:List bF):∀l:List bF,(bE l cs).length<=l.length+cs.length:=by
 induction cs with
 |nil=>intro l;simp[bE]
 |cons c cs ih=>
  intro l;have h1:=ih (vo l c);have h2:=Xt l c;have e:bE l (c::cs)=bE (vo l c) cs:=rfl;rw[e];simp only[B8];omega
def NP(x:Input)(i m t:Nat):(rA x i m t).length<=1:=by unfold rA;split<;>simp
def Xu(x:Input)(i m:Nat):(rS x i m).length<=1:=by unfold rS;split<;>simp
def Xv(x:Input)(i:Nat):(rT x i).length<=1:=by unfold rT;split<;>simp
def kz{α:Type}{f:Nat->List α}{B:Nat}(h:∀k,(f k).length<=B)(i m:Nat):(ft f i m).length<=(m-i)*B:=by
 unfold ft;have:∀k,((List.range k).flatMap λe=>f (i+e)).length<=k*B:=by
  intro k;induction k with
  |zero=>simp
  |succ k ih=>
   rw[Gy,Zdo,nH,Nat.succ_mul];have:=h (i+k);simp only[ZbS,List.flatMap_nil,Ej];omega
 exact this _
def Xw(x:Input)(i m:Nat)(h:x.insert.length<=100):(rM x i m).length<=101:=by
 unfold rM;have h1:=kz (NP x i m) 0 x.insert.length;have h2:=Xu x i m;rw[nH];omega
def Xx(x:Input)(i:Nat)(h:x.insert.length<=100)(hn:x.ag.length<=60):(rI x i).length<=7000:=by
 unfold rI;have h1:=kz (f:=rM x i) (B:=101) (λk=>Xw x i k h) i (x.ag.length+1);have h2:=Xv x i;rw[nH];omega
def Xy(x:Input)(i m:Nat)(h:x.insert.length<=100):(iM x i m).length<=100:=by
 unfold iM;have h1:=kz (f:=iT x i m) (B:=1) (λk=>by simp[iT]) 0 x.insert.length;omega
def Xz(x:Input)(i:Nat)(h:x.insert.length<=100)(hn:x.ag.length<=60):(iI x i).length<=7000:=by
 unfold iI;have h1:=kz (f:=iM x i) (B:=100) (λk=>Xy x i k h) i (x.ag.length+1);omega
def BK(y:ba)(aX:Int):Prop:=∀i,i<y.length->0<=y.getD i default/\y.getD i default<aX
instance(y:ba)(aX:Int):Decidable (BK y aX):=by unfold BK;infer_instance
def pN(c:bB)(t:Nat):Prop:=¬(((t:Int)=c.kind/\c.read.getD t default≠0)\/((t:Int)≠c.kind/\c.read.getD t default≠-1/\(c.read.getD t default<1\/c.read.getD t default>60000)))
def AT(c:bB)(aX:Int):Prop:=(¬(c.kind< -1\/c.kind>=aX\/(c.read.length:Int)≠aX\/c.delete<1\/(c.delete>60000/\c.delete≠1099511627776)))/\∀t,t<aX.toNat->pN c t
instance(c:bB)(t:Nat):Decidable (pN c t):=by unfold pN;infer_instance
instance(c:bB)(aX:Int):Decidable (AT c aX):=by unfold AT;infer_instance
def pM(l:List bB)(aX:Int):Prop:=∀i,i<l.length->AT (l.getD i default) aX
instance(l:List bB)(aX:Int):Decidable (pM l aX):=by unfold pM;infer_instance
def Hg(l:ba)(t:Nat):Prop:=¬(l.getD t default<1\/l.getD t default>60000)
instance(l:ba)(t:Nat):Decidable (Hg l t):=by unfold Hg;infer_instance
def inV(x:Input)(aX:Int):Prop:=(¬(aX<0\/(x.ag.length:Int)>60\/(x.insert.length:Int)≠aX\/x.swap<0\/x.swap>60000\/¬pM x.ag aX))/\∀t,t<aX.toNat->Hg x.insert t
instance(x:Input)(aX:Int):Decidable (inV x aX):=by unfold inV;infer_instance
def t58(c:bB)(aX:Int)(h:aX<=1000000000000):aJ ak 141 [.agg c.enc,ti aX] (.bool (decide (AT c aX))):=by
 have bb:=EV;obtain⟨v,hv⟩:=aY (decide (AT c aX));rw[hv];have cW:¬AT c aX->v=false:=λh=>by rw[<-hv];simp[h]
 have dB:AT c aX↔(¬(c.kind< -1\/c.kind>=aX\/(c.read.length:Int)≠aX\/c.delete<1\/(c.delete>60000/\c.delete≠1099511627776)))/\∀t,t<aX.toNat->pN c t:=Iff.rfl;refine c58.ok (by simp) (aH ?_);simp[bB.enc];apply aa.ai bb fw [1,2];simp[aqH];refine aa.lk (o:=[]) (l:=[(1,.v (ti aX)),(2,.v (.box [ti c.kind,.sl (au c.read),ti c.delete]))]) (bn:=1200) (by simp) ?_;apply aa.seq;obtain⟨b,hb⟩:=aY (decide (c.kind< -1\/c.kind>=aX\/(c.read.length:Int)≠aX\/c.delete<1\/(c.delete>60000/\c.delete≠1099511627776)):Bool);refine aa.bL bb fw [(1,.v (ti aX)),(2,.v (.box [ti c.kind,.sl (au c.read),ti c.delete])),(37,.v (.bool b))] ?_ ?_
 .by_cases q1:c.kind< -1
  .have nI:b=true:=by rw[<-hb];simp[q1]
   simp[DB,q1,nI]
  .by_cases q2:aX<=c.kind
   .have nI:b=true:=by rw[<-hb];simp[q2]
    simp[DB,q1,q2,nI]
   .by_cases q3:(c.read.length:Int)=aX
    .by_cases q4:c.delete<1
     .have nI:b=true:=by rw[<-hb];simp[q4]
      simp[DB,q1,q2,q3,q4,nI]
     .by_cases q5:60000<c.delete
      .by_cases q6:c.delete=1099511627776
       .have nI:b=false:=by rw[<-hb];simp only[mD];omega
        simp[DB,q1,q2,q3,q4,q5,q6,nI]
       .have nI:b=true:=by rw[<-hb];simp[q5,q6]
        simp[DB,q1,q2,q3,q4,q5,q6,nI]
      .have nI:b=false:=by rw[<-hb];simp only[mD];omega
       simp[DB,q1,q2,q3,q4,q5,nI]
    .have nI:b=true:=by rw[<-hb];simp[q3]
     simp[DB,q1,q2,q3,nI]
 refine aa.cond rfl (λh=>?_) (λh=>?_)
 .rw[h]at hb;simp only[yN]at hb;apply aa.ai bb fw [4];simp[aqI];apply aa.ret;rw[cW λe=>(dB.1 e).1 hb];simp[Hj]
 rw[h]at hb;simp only[mD]at hb;obtain⟨n,hn⟩:=aY c.read.length;have JH:aX=(n:Int):=by omega
 subst JH;apply aa.skip;simp;apply aa.sq bb fw [1,2,5];simp[aqJ];apply aa.block;refine aa.loop (λy:Nat=>⟨DM.look [(1,.v (ti n)),(2,.v (.box [ti c.kind,.sl (au c.read),ti c.delete])),(5,.v (ti y))],cR [],2000,1000,[]⟩)
  (λy=>y<=n/\∀t,t<y->pN c t) (λy=>n-y) 0 (Le.aL (o:=[]) ?_ ?_ ?_ ?_) (by simp) (λy hy=>?_)
 iterate 4(·simp)
 obtain⟨vy,fI⟩:=hy;apply aa.sq bb fw [1,2,5,40];simp[aqK];refine aa.cond rfl (λaS=>?_) (λaS=>?_)
 .simp at aS;have OX:y<c.read.length:=by omega
  have r1:=bA OX;obtain⟨u,hu⟩:=aY (c.read.getD y default);rw[hu]at r1;have th:pN c y↔¬(((y:Int)=c.kind/\u≠0)\/((y:Int)≠c.kind/\u≠-1/\(u<1\/u>60000))):=by unfold pN;rw[hu]
  obtain⟨kd,hkd⟩:=aY c.kind;rw[hkd]at th⊢;apply aa.skip;simp;apply aa.seq;apply aa.block;apply aa.ai bb fw [1,2,5,6];simp[aqL,r1,OX];obtain⟨b2,jZ⟩:=aY (decide (((y:Int)=kd/\u≠0)\/((y:Int)≠kd/\u≠-1/\(u<1\/u>60000))):Bool);refine aa.bL bb fw [(1,.v (ti n)),(2,.v (.box [ti kd,.sl (au c.read),ti c.delete])),(5,.v (ti y)),(73,.v (.bool b2))] ?_ ?_
  .by_cases q1:(y:Int)=kd
   .by_cases q2:u=0
    .have nI:b2=false:=by rw[<-jZ];simp[q1,q2]
     simp[FP,q1,q2,nI]
    .have nI:b2=true:=by rw[<-jZ];simp[q1,q2]
     simp[FP,q1,q2,nI]
   .by_cases q2:u= -1
    .have nI:b2=false:=by rw[<-jZ];simp[q1,q2]
     simp[FP,q1,q2,nI]
    .by_cases q3:u<1
     .have nI:b2=true:=by rw[<-jZ];simp[q1,q2,q3]
      simp[FP,q1,q2,q3,nI]
     .by_cases q4:60000<u
      .have nI:b2=true:=by rw[<-jZ];simp[q1,q2,q4]
       simp[FP,q1,q2,q3,q4,nI]
      .have nI:b2=false:=by rw[<-jZ];simp only[mD];omega
       simp[FP,q1,q2,q3,q4,nI]
  refine aa.cond rfl (λh=>?_) (λh=>?_)
  .rw[h]at jZ;simp only[yN]at jZ;apply aa.ai bb fw [4];simp[aqM];apply aa.ret;rw[cW λe=>th.1 ((dB.1 e).2 y (by simpa using aS)) jZ];simp[Hj]
  .rw[h]at jZ;simp only[mD]at jZ;apply aa.skip;simp;apply aa.cZ bb fw [1,2,5];simp[aqN];rw[av (by omega)];refine⟨y+1,Le.aL (o:=[]) ?_ ?_ ?_ ?_,⟨by omega,λi hi=>?_⟩,by omega⟩;iterate 4(·simp)
   .by_cases e:i=y
    .subst e;exact th.2 jZ
    .exact fI i (by omega)
 simp at aS;apply aa.exit;simp;apply aa.ai bb fw [4];simp[aqO];apply aa.ret;have:v=true:=by
  rw[<-hv,yN];exact dB.2 ⟨by omega,λi hi=>fI i (by simp at hi;omega)⟩
 rw[this];simp[Hj]
abbrev ajr:DM.Spec:=bp (λts=>∃(c:bB) (t:Int),ts=[.agg c.enc,ti t]/\t<=1000000000000) (fun|[.agg c,.int _ t]=>.bool (decide (AT (DD c) t))|_=>.bool false) true
def au8:aw ak (bz [(141,ajr)]):=by
 refine aw.cons aw.nil ?_;rintro ts ⟨c,t,rfl,h⟩;exact⟨by simpa using t58 c t h,λ_=>rfl⟩
def t45(l:List bB)(aX:Int)(h1:l.length<=1000000000000)(h2:aX<=1000000000000):aJ ak 97 [.sl (bd l),ti aX] (.bool (decide (pM l aX))):=by
 have bb:=au8;obtain⟨v,hv⟩:=aY (decide (pM l aX));rw[hv];have cW:¬pM l aX->v=false:=λh=>by rw[<-hv];simp[h]
 refine c45.ok (by simp) (aH ?_);simp;apply aa.ai bb fw [0,1];simp[VI];apply aa.sq bb fw [0,1,5];simp[JN];apply aa.block;refine aa.loop (λj:Nat=>⟨DM.look [(0,.v (.sl (bd l))),(1,.v (ti aX)),(5,.v (ti j))],cR [],2000,1000,[]⟩)
  (λj=>j<=l.length/\∀i,i<j->AT (l.getD i default) aX) (λj=>l.length-j) 0 (Le.aL (o:=[]) ?_ ?_ ?_ ?_) (by simp) (λj hj=>?_)
 iterate 4(·simp)
 obtain⟨vy,fI⟩:=hj;apply aa.sq bb fw [0,1,5,9];simp[VJ];refine aa.cond rfl (λaS=>?_) (λaS=>?_)
 .simp at aS;have r1:=fg aS;apply aa.skip;simp;apply aa.seq;apply aa.block;obtain⟨u,hu⟩:=aY (l.getD j default);rw[hu]at r1;apply aa.ai bb fw [0,1,5,18];obtain⟨a,b,c⟩:=u;simp[VK,aS,r1,bB.enc];rw[show DD [ti a,T.sl (au b),ti c]=⟨a,b,c⟩from DE ⟨a,b,c⟩];refine⟨⟨⟨a,b,c⟩,aX,⟨⟨rfl,rfl,rfl⟩,rfl⟩,h2⟩, ?_⟩;refine aa.cond rfl (λh=>?_) (λh=>?_)
  .simp at h;apply aa.ai bb fw [4];simp[VL];apply aa.ret;rw[cW λe=>h (by have:=e j aS;rw[hu]at this;exact this)];simp[dI]
  .simp at h;apply aa.skip;simp;apply aa.cZ bb fw [0,1,5];simp[aqF];rw[av (by omega)];refine⟨j+1,Le.aL (o:=[]) ?_ ?_ ?_ ?_,⟨by omega,λi hi=>?_⟩,by omega⟩;iterate 4(·simp)
   .by_cases e:i=j
    .subst e;show AT (l.getD i default) aX;rw[hu];exact h
    .exact fI i (by omega)
 simp at aS;apply aa.exit;simp;apply aa.ai bb fw [4];simp[aqG];apply aa.ret;have:v=true:=by
  rw[<-hv,yN];exact λi hi=>fI i (by omega)
 rw[this];simp[dI]
abbrev ajs:DM.Spec:=bp (λts=>∃(l:List bB) (t:Int),ts=[.sl (bd l),ti t]/\l.length<=1000000000000/\t<=1000000000000) (fun|[.sl c,.int _ t]=>.bool (decide (pM (kR c) t))|_=>.bool false) true
def au9:aw ak (bz [(97,ajs)]):=by
 refine aw.cons aw.nil ?_;rintro ts ⟨c,t,rfl,h1,h2⟩;exact⟨by simpa using t45 c t h1 h2,λ_=>rfl⟩
def t28(x:Input)(aX:Int)(ht:aX<=1000000000000):aJ ak 43 [x.enc,ti aX] (.bool (decide (inV x aX))):=by
 have bb:=au9;obtain⟨v,hv⟩:=aY (decide (inV x aX));rw[hv];have cW:¬inV x aX->v=false:=λh=>by rw[<-hv];simp[h]
 have dB:inV x aX↔(¬(aX<0\/(x.ag.length:Int)>60\/(x.insert.length:Int)≠aX\/x.swap<0\/x.swap>60000\/¬pM x.ag aX))/\∀t,t<aX.toNat->Hg x.insert t:=Iff.rfl;refine c28.ok (by simp) (aH ?_);simp[Input.enc];apply aa.ai bb fw [1,2];simp[aqy];refine aa.lk (o:=[]) (l:=[(1,.v (ti aX)),(2,.v (.box [.sl (bd x.ag),.sl (au x.insert),ti x.swap]))]) (bn:=1200) (by simp) ?_;apply aa.seq;obtain⟨b,hb⟩:=aY (decide (aX<0\/(x.ag.length:Int)>60\/(x.insert.length:Int)≠aX\/x.swap<0\/x.swap>60000\/¬pM x.ag aX):Bool);refine aa.bL bb fw [(1,.v (ti aX)),(2,.v (.box [.sl (bd x.ag),.sl (au x.insert),ti x.swap])),(37,.v (.bool b))] ?_ ?_
 .by_cases q1:aX<0
  .have nI:b=true:=by rw[<-hb];simp[q1]
   simp[DA,q1,nI]
  .by_cases q2:60<(x.ag.length:Int)
   .have nI:b=true:=by rw[<-hb];simp[q2]
    simp[DA,q1,q2,nI]
   .by_cases q3:(x.insert.length:Int)=aX
    .by_cases q4:x.swap<0
     .have nI:b=true:=by rw[<-hb];simp[q4]
      simp[DA,q1,q2,q3,q4,nI]
     .by_cases q5:60000<x.swap
      .have nI:b=true:=by rw[<-hb];simp[q5]
       simp[DA,q1,q2,q3,q4,q5,nI]
      .by_cases q6:pM x.ag aX
       .have nI:b=false:=by rw[<-hb];simp only[mD];rintro(h|h|h|h|h|h)<;>first|omega|exact h q6
        simp[DA,q1,q2,q3,q4,q5,q6,nI];exact⟨x.ag,aX,⟨rfl,rfl⟩,by omega,ht⟩
       .have nI:b=true:=by rw[<-hb];simp[q6]
        simp[DA,q1,q2,q3,q4,q5,q6,nI];exact⟨x.ag,aX,⟨rfl,rfl⟩,by omega,ht⟩
    .have nI:b=true:=by rw[<-hb];simp[q3]
     simp[DA,q1,q2,q3,nI]
 refine aa.cond rfl (λh=>?_) (λh=>?_)
 .rw[h]at hb;simp only[yN]at hb;apply aa.ai bb fw [4];simp[aqz];apply aa.ret;rw[cW λe=>(dB.1 e).1 hb];simp[dI]
 rw[h]at hb;simp only[mD]at hb;have Eu:(x.insert.length:Int)=aX:=by
  by_cases e:(x.insert.length:Int)=aX
  .exact e
  .exact qe (.inr (.inr (.inl e))) hb
 obtain⟨n,hn⟩:=aY x.insert.length;rw[hn]at Eu;subst Eu;apply aa.skip;simp;apply aa.sq bb fw [1,2,5];simp[aqA];apply aa.block;refine aa.loop (λy:Nat=>⟨DM.look [(1,.v (ti n)),(2,.v (.box [.sl (bd x.ag),.sl (au x.insert),ti x.swap])),(5,.v (ti y))],cR [],2000,1000,[]⟩)
  (λy=>y<=n/\∀t,t<y->Hg x.insert t) (λy=>n-y) 0 (Le.aL (o:=[]) ?_ ?_ ?_ ?_) (by simp) (λy hy=>?_)
 iterate 4(·simp)
 obtain⟨vy,fI⟩:=hy;apply aa.sq bb fw [1,2,5,40];simp[aqB];refine aa.cond rfl (λaS=>?_) (λaS=>?_)
 .simp at aS;have OX:y<x.insert.length:=by omega
  have r1:=bA OX;obtain⟨u,hu⟩:=aY (x.insert.getD y default);rw[hu]at r1;have th:Hg x.insert y↔¬(u<1\/u>60000):=by unfold Hg;rw[hu]
  apply aa.skip;simp;apply aa.seq;apply aa.block;refine aa.bL bb fw [(1,.v (ti n)),(2,.v (.box [.sl (bd x.ag),.sl (au x.insert),ti x.swap])),(5,.v (ti y)),(56,.v (.bool (decide (u<1\/60000<u))))] ?_ ?_
  .by_cases q1:u<1
   .simp[aeF,r1,OX,q1]
   .by_cases q2:60000<u<;>simp[aeF,r1,OX,q1,q2]
  refine aa.cond rfl (λh=>?_) (λh=>?_)
  .simp only[yN]at h;apply aa.ai bb fw [4];simp[aqC];apply aa.ret;rw[cW λe=>th.1 ((dB.1 e).2 y (by simpa using aS)) h];simp[dI]
  .simp only[mD]at h;apply aa.skip;simp;apply aa.cZ bb fw [1,2,5];simp[aqD];rw[av (by omega)];refine⟨y+1,Le.aL (o:=[]) ?_ ?_ ?_ ?_,⟨by omega,λi hi=>?_⟩,by omega⟩;iterate 4(·simp)
   .by_cases e:i=y
    .subst e;exact th.2 h
    .exact fI i (by omega)
 simp at aS;apply aa.exit;simp;apply aa.ai bb fw [4];simp[aqE];apply aa.ret;have:v=true:=by
  rw[<-hv,yN];exact dB.2 ⟨hb,λi hi=>fI i (by simp at hi;omega)⟩
 rw[this];simp[dI]
open Go.DM Go.DM.iN
section
variable(dj:aG->Prop)(dK:aG->aG->Int)
abbrev my(x y:aG):Bool:=decide (dK x y<0)
variable{dj dK}
end
def qA:Nat:=1000000000
section
variable{al:List bF}
def cF(a:bF):aG:=[ti a.f,ti a.t,ti a.term]
def sT(r:aG):Prop:=∃f t x:Int,r=[ti f,ti t,ti x]
def kF(r:aG):Int×Int×Int:=(dg (r.getD 0 (ti 0)),dg (r.getD 1 (ti 0)),dg (r.getD 2 (ti 0)))
def ZJ(a b:Int×Int×Int):Prop:=a.1<b.1\/(a.1=b.1/\(a.2.1<b.2.1\/(a.2.1=b.2.1/\a.2.2<b.2.2)))
def or3(a b c d e f:Int):PO [F7 a d,F7 b e,F7 c f]<0↔ZJ (a,b,c) (d,e,f):=by
 simp only[PO,F7,ZJ];by_cases h1:a<d
 .simp[h1]
 .by_cases h2:d<a
  .have:a≠d:=by omega
   simp[h1,h2,this]
  .have:a=d:=by omega
   subst this;by_cases h3:b<e
   .simp[h3]
   .by_cases h4:e<b
    .have:b≠e:=by omega
     simp[h3,h4,this]
    .have:b=e:=by omega
     subst this;by_cases h5:c<f
     .simp[h5]
     .by_cases h6:f<c
      .have:¬c<f:=by omega
       simp[h5,h6]
      .simp[h5,h6]
def PP(x y:aG):my eV x y=true↔ZJ (kF x) (kF y):=by
 simp only[my,yN];exact or3 _ _ _ _ _ _
def uB(x y:aG):my eV x y=false↔¬ZJ (kF x) (kF y):=by
 rw[<-PP];simp
def Iy:SWO (my eV):=by
 refine⟨λx=>?_,λx y z h1 h2=>?_,λx y z h1 h2=>?_⟩
 .rw[uB];unfold ZJ;omega
 .rw[PP]at h1 h2⊢;unfold ZJ at h1 h2⊢;omega
 .rw[uB]at h1 h2⊢;unfold ZJ at h1 h2⊢;omega
def aaY{x y:aG}(h:lN (my eV) x y=true):kF x=kF y:=by
 simp only[lN,mA,AF,uB]at h;unfold ZJ at h;generalize kF x=p at h⊢;generalize kF y=q at h⊢;obtain⟨a1,a2,a3⟩:=p;obtain⟨b1,b2,b3⟩:=q;simp only[eX]at h⊢;omega
def zu{x y:aG}(hx:sT x)(hy:sT y)(h:kF x=kF y):x=y:=by
 obtain⟨a,b,c,rfl⟩:=hx;obtain⟨d,e,f,rfl⟩:=hy;simp[kF,dg]at h;simp[h]
def HJ{l:List (aG)}(hg:∀x∈l,sT x)(hn:l.Nodup)(z:aG):(l.filter (lN (my eV) z)).length<=1:=by
 have Ck:(l.filter (lN (my eV) z)).Nodup:=hn.filter _;have dJ:∀x∈l.filter (lN (my eV) z),sT x/\kF x=kF z:=by
  intro x hx;rw[RI]at hx;exact⟨hg x hx.1,(aaY hx.2).symm⟩
 match hl:l.filter (lN (my eV) z),Ck,dJ with
 |[],_,_=>simp
 |[a],_,_=>simp
 |a::b::l,Ck,dJ=>
  exfalso;have h1:=dJ a (by simp);have h2:=dJ b (by simp);have:=zu h1.1 h2.1 (h1.2.trans h2.2.symm);subst this;simp at Ck
def NJ{l1 l2:List (aG)}(hp:l1.Perm l2)(hg:∀x∈l2,sT x)(hn:l2.Nodup):dP (my eV) l1=dP (my eV) l2:=by
 refine nA Iy (fq Iy l2) λx=>?_;rw[ma Iy];have h1:=hp.filter (lN (my eV) x);have h2:=HJ hg hn x;cases h:l2.filter (lN (my eV) x)with
 |nil=>rw[h]at h1;exact(List.Perm.eq_nil h1).symm
 |cons a t=>
  rw[h]at h1 h2;have:t=[]:=by cases t with
   |nil=>rfl
   |cons b t=>simp at h2
  subst this;exact(List.perm_singleton.1 h1).symm
def qQ{a b:bF}:cF a=cF b↔aV a b=true:=by simp[cF,aV]
def NL(h:(al.map cF).Nodup)(a:bF):((vU al a).map cF).Nodup:=by
 unfold vU;split
 .cases hf:al.findIdx? (aV a)with
  |none=>
   simp only;rw[Lc,Zct];refine⟨h,by simp, ?_⟩;intro x hx y hy;simp only[vG,Zcg,uy]at hy;subst hy;obtain⟨b,hb,rfl⟩:=sE.1 hx;intro e;rw[Zdw]at hf;have:=hf b hb;rw[qQ.1 e.symm]at this;cases this
  |some i=>
   simp only;split
   .have hi:=u6 hf;rw[Zb4]at hf;have hk:cF a=cF al[i]:=qQ.2 hf.2.1;rw[Zco,hk];have:(al.map cF).set i (cF al[i])=al.map cF:=by
     apply Jc
     .simp
     .intro k h1 h2;rw[ZcL];split
      .rename_i e;subst e;simp
      .rfl
    rw[this];exact h
   .exact h
 .exact h
def w9(cs:List bF):∀{al:List bF},(al.map cF).Nodup->((cy al cs).map cF).Nodup:=by
 induction cs with
 |nil=>intro al h;exact h
 |cons c cs ih=>intro al h;exact ih (NL h c)
def qh(al:List bF)(r:aG):bF:=(al.find? (aV ⟨(kF r).1,(kF r).2.1,(kF r).2.2,0,[]⟩)).getD default
def Xn{α:Type}(p:α->Bool)(l:List α):l.find? p=(l.findIdx? p).bind λi=>l[i]? :=by
 induction l with
 |nil=>rfl
 |cons x l ih=>
  rw[Ii,Rd];cases h:p x with
  |true=>simp
  |false=>simp[ih];cases l.findIdx? p<;>simp
def uA{a:bF}(h:a∈al):aV a (qh al (cF a))=true/\qh al (cF a)∈al/\∃i,pE a.key (df al)=some (i,(qh al (cF a)).key,.v (.agg (qh al (cF a)).enc)):=by
 have e:aV ⟨(kF (cF a)).1,(kF (cF a)).2.1,(kF (cF a)).2.2,0,[]⟩=aV a:=by
  funext b;simp[aV,kF,cF,dg]
 unfold qh;rw[e,x5,pR,Xn];cases hf:al.findIdx? (aV a)with
 |none=>
  rw[Zdw]at hf;have:=hf a h;simp[aV]at this
 |some i=>
  have hi:=u6 hf;rw[Zb4]at hf;simp only[ZcO,gS,mM hi,Rp,GA];exact⟨hf.2.1,MK hi,i,rfl⟩
def kD(al:List bF):List bF:=(dP (my eV) (al.map cF)).map (qh al)
def SL{sn:cN}(h1:sn.Nodup)(h2:∀i∈sn,i<al.length)(h3:∀i,i<al.length->i∈sn):(sn.map λi=>cF (al.getD i default)).Perm (al.map cF):=by
 have hp:sn.Perm (List.range al.length):=(List.perm_ext_iff_of_nodup h1 List.nodup_range).2 λi=>by
  rw[I0];exact⟨h2 i,h3 i⟩
 have:=hp.map λi=>cF (al.getD i default);refine this.trans (List.Perm.of_eq ?_);apply Jc
 .simp
 .intro k k1 k2;simp at k2;simp[k2]
end
open Go.Shelf
def Ku:Go.Shelf.Ren:=⟨fun|6=>60|15=>111|14=>110|28=>158|29=>159|20=>150|21=>151|22=>152|23=>153|24=>154|25=>155|26=>156|27=>157|46=>187|47=>188|48=>189|49=>190|50=>191|57=>212|n=>n,fun|22=>109|24=>111|25=>113|3=>3|39=>176|0=>0|53=>229|55=>232|4=>4|46=>238|45=>237|50=>99|5=>5|9=>9|66=>281|70=>285|76=>309|77=>275|n=>n,fun|n=>n⟩
def aaZ:SlLaysF0.n6 ak Ku where
 mixed:=by kernel_rfl
 f6:=⟨Tryz.f60.name,by decide+kernel,Tryz.func60.trans (congrArg some (by kernel_rfl))⟩
 f14:=⟨Tryz.f110.name,by decide+kernel,Tryz.func110.trans (congrArg some (by kernel_rfl))⟩
 f15:=Tryz.func111.trans (congrArg some (by kernel_rfl))
 f20:=⟨Tryz.f150.name,by decide+kernel,Tryz.func150.trans (congrArg some (by kernel_rfl))⟩
 f21:=⟨Tryz.f151.name,by decide+kernel,Tryz.func151.trans (congrArg some (by kernel_rfl))⟩
 f22:=⟨Tryz.f152.name,by decide+kernel,Tryz.func152.trans (congrArg some (by kernel_rfl))⟩
 f23:=⟨Tryz.f153.name,by decide+kernel,Tryz.func153.trans (congrArg some (by kernel_rfl))⟩
 f24:=⟨Tryz.f154.name,by decide+kernel,Tryz.func154.trans (congrArg some (by kernel_rfl))⟩
 f25:=⟨Tryz.f155.name,by decide+kernel,Tryz.func155.trans (congrArg some (by kernel_rfl))⟩
 f26:=⟨Tryz.f156.name,by decide+kernel,Tryz.func156.trans (congrArg some (by kernel_rfl))⟩
 f27:=⟨Tryz.f157.name,by decide+kernel,Tryz.func157.trans (congrArg some (by kernel_rfl))⟩
 f28:=Tryz.func158.trans (congrArg some (by kernel_rfl))
 f29:=Tryz.func159.trans (congrArg some (by kernel_rfl))
 f46:=⟨Tryz.f187.name,by decide+kernel,Tryz.func187.trans (congrArg some (by kernel_rfl))⟩
 f47:=Tryz.func188.trans (congrArg some (by kernel_rfl))
 f48:=Tryz.func189.trans (congrArg some (by kernel_rfl))
 f49:=⟨Tryz.f190.name,by decide+kernel,Tryz.func190.trans (congrArg some (by kernel_rfl))⟩
 f50:=⟨Tryz.f191.name,by decide+kernel,Tryz.func191.trans (congrArg some (by kernel_rfl))⟩
 f57:=⟨Tryz.f212.name,by decide+kernel,Tryz.func212.trans (congrArg some (by kernel_rfl))⟩
 t0:=Tryz.underlying0
 a0:=Tryz.isAgg0
 z0:=Tryz.sizeOf0
 v0:=Tryz.zeroValue0
 t3:=Tryz.underlying3
 a3:=Tryz.isAgg3
 z3:=Tryz.sizeOf3
 v3:=Tryz.zeroValue3
 t4:=Tryz.underlying4
 a4:=Tryz.isAgg4
 z4:=Tryz.sizeOf4
 v4:=Tryz.zeroValue4
 t5:=Tryz.underlying5
 a5:=Tryz.isAgg5
 z5:=Tryz.sizeOf5
 v5:=Tryz.zeroValue5
 t9:=Tryz.underlying9
 a9:=Tryz.isAgg9
 z9:=Tryz.sizeOf9
 v9:=Tryz.zeroValue9
 t22:=Tryz.underlying109
 a22:=Tryz.isAgg109
 z22:=Tryz.sizeOf109
 v22:=Tryz.zeroValue109
 t25:=Tryz.underlying113
 a25:=Tryz.isAgg113
 z25:=Tryz.sizeOf113
 v25:=Tryz.zeroValue113
 t39:=Tryz.underlying176
 a39:=Tryz.isAgg176
 z39:=Tryz.sizeOf176
 v39:=Tryz.zeroValue176
 t45:=Tryz.underlying237
 a45:=Tryz.isAgg237
 z45:=Tryz.sizeOf237
 v45:=Tryz.zeroValue237
 t46:=Tryz.underlying238
 a46:=Tryz.isAgg238
 z46:=Tryz.sizeOf238
 v46:=Tryz.zeroValue238
 t50:=Tryz.underlying99
 a50:=Tryz.isAgg99
 z50:=Tryz.sizeOf99
 v50:=Tryz.zeroValue99
 t53:=Tryz.underlying229
 a53:=Tryz.isAgg229
 z53:=Tryz.sizeOf229
 v53:=Tryz.zeroValue229
 t55:=Tryz.underlying232
 a55:=Tryz.isAgg232
 z55:=Tryz.sizeOf232
 v55:=Tryz.zeroValue232
 t66:=Tryz.underlying281
 a66:=Tryz.isAgg281
 z66:=Tryz.sizeOf281
 v66:=Tryz.zeroValue281
 t70:=Tryz.underlying285
 a70:=Tryz.isAgg285
 z70:=Tryz.sizeOf285
 v70:=Tryz.zeroValue285
 t76:=Tryz.underlying309
 a76:=Tryz.isAgg309
 z76:=Tryz.sizeOf309
 v76:=Tryz.zeroValue309
 t77:=Tryz.underlying275
 a77:=Tryz.isAgg275
 z77:=Tryz.sizeOf275
 v77:=Tryz.zeroValue275
def Tu(x y:og 3):Int:=eV (iZ x) (iZ y)
def au6(x:og 3):∃a b c:Int,x.1=[a,b,c]:=by
 obtain⟨l,hl⟩:=x
 match l,hl with
 |[a,b,c],_=>exact⟨a,b,c,rfl⟩
def good_row(x:og 3):sT (iZ x):=by
 obtain⟨a,b,c,h⟩:=au6 x;exact⟨a,b,c,by unfold iZ;rw[h];rfl⟩
def Xo{r:aG}(h:sT r):∃x:og 3,iZ x=r:=by
 obtain⟨a,b,c,rfl⟩:=h;exact⟨⟨[a,b,c],rfl⟩,rfl⟩
def FT:∀{D:List (aG)},(∀x∈D,sT x)->∃E:List (og 3),E.map iZ=D
 |[],_=>⟨[],rfl⟩
 |r::D,h=>by
  obtain⟨x,hx⟩:=Xo (h r (by simp));obtain⟨E,hE⟩:=FT λy hy=>h y (Ib _ hy);exact⟨x::E,by simp[hx,hE]⟩
def ajq(x y:og 3):ltOf Tu x y=my eV (iZ x) (iZ y):=rfl
def Bx:Go.Sort.SWO (ltOf Tu):=
 ⟨λx=>Iy.irrefl _,λx y z=>Iy.trans _ _ _,λx y z=>Iy.ntrans _ _ _⟩
def Xp{k:Nat}{x y:og k}(h:iZ x=iZ y):x=y:=by
 apply Subtype.ext;unfold iZ at h;have key:∀(l m:ba),l.map tI=m.map tI->l=m:=by
  intro l;induction l with
  |nil=>intro m h;cases m with
   |nil=>rfl
   |cons b m=>cases h
  |cons a l ih=>intro m h;cases m with
   |nil=>cases h
   |cons b m=>
    simp only[vG,Gf,T.int.injEq,Em]at h;rw[h.1,ih m h.2]
 exact key _ _ h
def aa0(x y:og 3)(h1:ltOf Tu x y=false)(h2:ltOf Tu y x=false):x=y:=by
 rw[ajq]at h1 h2;exact Xp (zu (good_row x) (good_row y) (aaY (by simp[lN,h1,h2])))
def Xq(E:List (og 3)):dP (my eV) (E.map iZ)=(Ai Tu E).map iZ:=by
 refine nA Iy ?_ λz=>?_
 .unfold dU;rw[Zc6];have h:=List.pairwise_mergeSort (le:=λx y=> !(ltOf Tu) y x) (λa b c h1 h2=>by
   simp only[AF]at h1 h2⊢;exact Bx.ntrans _ _ _ h2 h1) (λa b=>by
   cases e:ltOf Tu b a with
   |false=>rfl
   |true=>
    cases e2:ltOf Tu a b with
    |false=>rfl
    |true=>
     have:=Bx.trans _ _ _ e e2;rw[Bx.irrefl]at this;cases this) E
  exact h.imp λ{a b} ik=>by rw[AF]at ik;exact ik
 .have hp:((Ai Tu E).map iZ).Perm (E.map iZ):=(List.mergeSort_perm E _).map _;have h1:=hp.filter (lN (my eV) z);have dJ:∀w∈(E.map iZ).filter (lN (my eV) z),∀u∈(E.map iZ).filter (lN (my eV) z),w=u:=by
   intro w hw u hu;rw[RI]at hw hu;obtain⟨x,_,rfl⟩:=sE.1 hw.1;obtain⟨y,_,rfl⟩:=sE.1 hu.1;exact zu (good_row x) (good_row y) ((aaY hw.2).symm.trans (aaY hu.2))
  generalize (E.map iZ).filter (lN (my eV) z)=l at h1 dJ;generalize ((Ai Tu E).map iZ).filter (lN (my eV) z)=l' at h1;apply Jc h1.length_eq;intro i q1 q2;exact dJ _ (h1.subset (MK q1)) _ (MK q2)
theorem NM [bD](x y:og 3):aJ ak 61 [.agg (iZ x),.agg (iZ y)] (tI (Tu x y)):=by
 obtain⟨a,b,c,h⟩:=good_row x;obtain⟨d,e,f,k⟩:=good_row y;unfold Tu;rw[h,k];exact t33 a b c d e f
def t32(D:List (aG)){ab:bS}{r bG e:Nat}(eH:ab r=some (.bm bG e 3 D))(cK:∀x∈D,sT x)(h4:D.length<=qA):
  ce ak 60 [.aW r bG,.v (.fn (.func 61) [])] ab ⟨True,.v (.dh []),dx ab r (.bm bG e 3 (dP (my eV) D))⟩:=by
 obtain⟨E,rfl⟩:=FT cK;rw[Xq];unfold qA at h4;exact Jq (k:=3) aaZ (by omega) (λw=>Tryz.isAgg111 w) (λw=>Tryz.sizeOf111 w) (@NM bD.none) Bx aa0 E eH (by simp at h4;omega)
def k32(dj:aG->Prop)(dK:aG->aG->Int):bW->bS->iw
 |[.aW r bG,.v (.fn (.func c) cz)],ab=>match ab r with
  |some (.bm bM e sz D)=>⟨bG=bM/\sz=3/\c=61/\cz=[]/\(∀x∈D,dj x)/\D.length<=qA/\D.length<=1000000000,
    .v (.dh []),dx ab r (.bm bG e 3 (dP (my dK) D))⟩
  |_=>⟨False,.undef,ab⟩
 |_,ab=>⟨False,.undef,ab⟩
def au0{l:List (Nat×DM.Spec)}(h:aw ak (bz l)):aw ak (bz ((60,fl (k32 sT eV))::l)):=by
 refine aw.il h ?_;intro args ab h;unfold k32 at h⊢;split at h
 .split at h
  .rename_i c cz _ bM e sz D eH;obtain⟨rfl,rfl,rfl,rfl,h1,h4,h5⟩:=h;refine⟨λN hN=>?_,λk hk=>fj eH hk⟩;simp only[];exact(t32 D eH h1 h4).of rfl rfl
  .exact h.elim
 .exact h.elim
end Go.Proofs
