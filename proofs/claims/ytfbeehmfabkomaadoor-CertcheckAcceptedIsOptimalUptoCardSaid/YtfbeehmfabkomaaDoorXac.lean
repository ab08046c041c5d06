/- Part. Conditions: none. -/
import Derived.Test.YtfbeehmfabkomaaDoorXab
import Derived.Shelf.SlSortCmp.NoneTotal
import Derived.ChangeArms
import Derived.ChangeStays
import Derived.ChangeSame
import Derived.RowKit
import Derived.OpenShut
import Derived.Test.YtfbeehmfabkomaaDoorProg
import Derived.KernelRfl
set_option linter.all false
set_option maxRecDepth 100000
set_option maxHeartbeats 16000000
namespace Go.DM
open Go.RowKit
section
variable{ab:bA}{r:Nat}{P:Program}
variable [bh] [cG]
abbrev tI(n:Int):T:=.int .i64 n
abbrev kz(k:Nat):Type:={l:b8//l.length=k}
instance(k:Nat):Inhabited (kz k):=⟨⟨List.replicate k 0,by simp⟩⟩
def ml{k:Nat}(x:kz k):List Value:=x.1.map (Value.int .i64)
def fB{k:Nat}(x:kz k):ar:=x.1.map tI
def Lw{w w':World}(h:qZ w.heap.size w w'):∃q SM,w'=Go.Sort.grow (w.drewN q) SM:=by
 refine⟨w'.drawn-w.drawn,w'.heap.extract w.heap.size w'.heap.size, ?_⟩;obtain⟨⟨h1,h2,h3,h4,h5⟩,h6⟩:=h;cases w with
 |mk heap tape drawn os output=>
  cases w' with
  |mk ajC ajD ahO SM ag6=>
   simp only at h1 h2 h3 h4 h5 h6;subst h1 h2 h3;simp only[Go.Sort.grow,World.drewN,World.mk.injEq,QM,E4];refine⟨?_,by omega⟩;apply Array.ext_getElem?;intro k;rw[Array.getElem?_append];split
   ·rename_i hk;exact h5 k hk
   ·rename_i hk;rw[Array.getElem?_extract];split
    ·rw[show heap.size+(k-heap.size)=k by omega]
    ·rename_i h7;rw[Array.getElem?_eq_none (by omega)]
def pq{w:World}{W:dJ}:∀l:b8,aN w W (l.map tI) (l.map (Value.int .i64))
 |[]=>by simp[aN]
 |n::l=>by
  simp only[l8,aN];exact⟨_,_,rfl,rfl,by simp[aO],pq l⟩
def rU{w:World}{W:dJ}:∀{l:b8} {vs:List Value},aN w W (l.map tI) vs->vs=l.map (Value.int .i64)
 |[],vs,h=>by simpa [aN]using h
 |n::l,vs,h=>by
  simp only[l8,aN]at h;obtain⟨v,fW,rfl,_,h1,h2⟩:=h;simp only[aO]at h1;rw[h1,rU h2];rfl
def uv{α:Type}{sz:Nat}:∀{an:List (List α)} {j:Nat},(∀r∈an,r.length=sz)->an.flatten[j]? =(an[j/sz]?).bind λr=>r[j % sz]?
 |[],j,_=>by simp
 |r::an,j,h=>by
  have hr:=h r (by simp);by_cases hs:sz=0
  ·subst hs;have:∀x∈r::an,x=[]:=λx hx=>ZcD.1 (h x hx);have h2:(r::an).flatten=[]:=by
    rw[List.flatten_eq_nil_iff];exact this
   rw[h2];simp[this r (by simp)]
  rw[TC,Sk];split
  ·rename_i hj;rw[hr]at hj;rw[Nat.div_eq_of_lt hj,Sx hj];simp
  ·rename_i hj;rw[hr]at hj;rw[hr,uv λx hx=>h x (by simp[hx])];obtain⟨i,rfl⟩:∃i,j=i+sz:=⟨j-sz,by omega⟩;rw[Tm,Nat.add_div_right i (by omega),Nat.add_mod_right];rw[EN]
def wX{k:Nat}(D:List (kz k)):(Go.Sort.flatK ml k D.toArray).toList=((D.map (·.1)).flatten).map (Value.int .i64):=by
 have hl:∀r∈D.map (·.1),r.length=k:=by
  intro r hr;obtain⟨x,_,rfl⟩:=kL.1 hr;exact x.2
 have aeK:(D.map (·.1)).flatten.length=D.length*k:=by
  clear hl;induction D with
  |nil=>simp
  |cons x D ih=>simp only[l8,TC,pb,x.2,ih,pc,TE];omega
 apply xX;intro j;by_cases hj:j<D.length*k
 ·have zf:0<k:=by
   cases k with
   |zero=>simp at hj
   |succ k=>omega
  have h1:j/k<D.length:=Nat.div_lt_of_lt_mul (by rwa [Nat.mul_comm]);have h2:j % k<k:=Nat.mod_lt _ zf;have fG:j<(Go.Sort.flatK ml k D.toArray).size:=by simpa using hj
  rw[vA,uv hl,vA,fq h1];simp only[V1,Hc];have h3:=Go.Sort.get_flatK ml k D.toArray j (by simpa using hj);rw[Wy,E2 fG];rw[getElem!_pos _ j fG]at h3;rw[h3];have h4:D.toArray[j/k]! =D[j/k]:=by rw[getElem!_pos _ _ (by simpa using h1)];simp
  rw[h4];have h5:j % k<(D[j/k]).1.length:=by rw[(D[j/k]).2];exact h2
  unfold ml;rw[getElem!_pos _ _ (by simpa using h5)];simp[h5]
 ·rw[MI (by simpa using hj),MI (by rw[GP,aeK];omega)]
def zg{k:Nat}(D:List (kz k)):(D.map fB).flatten=((D.map (·.1)).flatten).map tI:=by
 induction D with
 |nil=>rfl
 |cons x D ih=>simp only[l8,TC,ih,qQ];rfl
def qg{o:Ob}(h:ab r=some o):bI ab r o=ab:=by
 funext k;rw[Ge];split
 ·rename_i e;rw[e,h]
 ·rfl
def OF{g:FuncId}{k:Nat}{x y:kz k}{c:Int}(hg: @aI bh.none P g [.agg (fB x),.agg (fB y)] (tI c))(w:World):
  Calls P g (#[.agg (ml x).toArray,.agg (ml y).toArray]++ #[]) w λe w'=>e=.returned (.int .i64 c)/\∃q SM,w'=Go.Sort.grow (w.drewN q) SM:=by
 rw[BG];refine(@aI.Wu bh.none HJ P g _ _ hg w #[.agg (ml x).toArray,.agg (ml y).toArray] (vT.empty _ _) ?_).mono ?_
 ·show dq w (λ_=>False) [.agg (fB x),.agg (fB y)] [.agg (ml x).toArray,.agg (ml y).toArray];simp only[dq];exact⟨_,_,rfl,⟨_,rfl,pq x.1⟩,_,_,rfl,⟨_,rfl,pq y.1⟩,rfl⟩
 ·rintro e' w' ⟨v,rfl,hb,hv⟩;simp only[aO]at hv;subst hv;exact⟨rfl,Lw hb⟩
def uw{k:Nat}(cf:kz k->kz k->Int)(D:List (kz k)):List (kz k):=D.mergeSort λx y=> !(Go.Proofs.ltOf cf) y x
open Go.Proofs Go.Sort in
def CQ{ρ:Go.Shelf.Ren}(Lay:SlLaysF0.n6 P ρ){k:Nat}(hk:0<k)(aE:∀w,(isAgg (ρ.t 24)).run P w=.ok true w)(zE:∀w,(Go.sizeOf (ρ.t 24)).run P w=.ok k w)
  {g:FuncId} {cf:kz k->kz k->Int} (hg:∀x y:kz k, @aI bh.none P g [.agg (fB x),.agg (fB y)] (tI (cf x y))) (hO:Go.Sort.SWO (ltOf cf)) (hT:∀x y,(ltOf cf) x y=false->(ltOf cf) y x=false->x=y)
  (D:List (kz k)) {aX e:Nat} (c9:ab r=some (.aR aX e k (D.map fB))) (dI:D.length<4611686018427387904):
  b9 P (ρ.f 6) [.aQ r aX,.v (.fn (.func g) [])] ab ⟨True,.v (.dh []),bI ab r (.aR aX e k ((uw cf D).map fB))⟩:=by
 have eg:∀args w,(callFunc g args).run P w=.ok (.enter g args) w:=by
  obtain⟨fn,h1,h2,h3⟩:= @aI.entry bh.none _ _ _ _ (hg default default);cases hb:fn.body with
  |none=>rw[hb]at h3;cases h3
  |some c=>exact enters_of h1 (by simpa using h2) hb
 refine⟨?_,λbase W M w0 w L anM Wz hr=>?_⟩
 ·obtain⟨nm,hn,hf⟩:=Lay.f6;exact⟨_,hf,by simpa using hn,rfl⟩
 obtain⟨mU,nS⟩:=hr;obtain⟨x,f,sI⟩:∃x f,anM.toList=[x,f]:=by
  match sI:anM.toList,mU with
  |[x,f],_=>exact⟨x,f,rfl⟩
 have aeL:anM= #[x,f]:=Array.ext' (by simpa using sI);subst aeL;have hx:=nS 0 _ x rfl rfl;have hf:=nS 1 _ f rfl rfl;simp only[ap,aO]at hf;obtain⟨cv,rfl,SU⟩:=hf;have SU:cv= #[]:=by
  simp only[aN]at SU;exact Array.ext' (by simpa using SU)
 subst SU;simp only[ap]at hx;obtain⟨_,bi,e',fS,di,aeM,ajK,qY⟩:=hx;rw[c9]at aeM;cases aeM;have qY:=qY rfl;subst qY;obtain⟨fG,bX,hm,ln⟩:=Wz.ob r _ c9;have qR:(uw cf D).length=D.length:=List.length_mergeSort ..;rcases ln with⟨Uy,a,ha⟩|⟨g',cap,dg,hv,hp,hh,iU,ol,Ap,eZ⟩
 ·rw[ha];refine(AnyF.slices_SortFunc_none Lay a 0 _ w).mono ?_;rintro e' w' ⟨rfl,rfl⟩;have hD:D=[]:=by simpa using Uy
  subst hD;have hs:uw cf []=[]:=by simp[uw]
  rw[hs,qg c9];exact⟨_,L,rfl,Wz,fX.bZ (ch.refl _ _),by simp[ap,aO,dq]⟩
 ·rw[hv];have TO:g'<w.heap.size:=(kf.1 hh).1;rw[zg]at eZ;have kV:=rU eZ;rw[<-wX]at kV;have abH:∀j,w.cell? ⟨g',j,none⟩=dg[j]? :=by
   intro j;simp only[World.cell?,hh];rfl
  have hH:HoldsK ml k w g' 0 D.toArray:=by
   intro j hj;refine⟨?_, ?_⟩
   ·rw[Cf,abH];have h1:=congrArg (λl:List Value=>l[j]?) kV;have QT:j<(D.map fB).length*k:=by simpa using hj
    rw[Fo,uV QT,Wy,Wy,E2 hj]at h1;rw[h1,getElem!_pos _ j hj];rfl
   ·simp only[World.frozen?,hh];simp
  have aeN:CmpLays P g #[] ml k cf g' 0 D.toArray.size w:=by
   intro m os dk hdk x y;obtain⟨w1,Up⟩:=ba (sortWorldK ml k w g' 0 m dk os);rw[Up];exact OF (hg x y) w1
  have m9:=AnyQ.slices_SortFunc_total Lay k aE zE ml (λx=>by simp[ml,x.2]) (λx v hv=>by
   simp only[ml,kL]at hv;obtain⟨n,_,rfl⟩:=hv;rfl) cf hO g #[] g' 0 cap D.toArray w eg aeN hH TO (by simpa using dI) hT
  rw[show(D.map fB).length=D.toArray.size by simp];refine m9.mono ?_;rintro e' w' ⟨rfl,n,os,rfl⟩;refine⟨_,L,rfl, ?_⟩;obtain⟨S,hS⟩:=ba (uw cf D);have QU:(D.toArray.toList.mergeSort λx y=> !(ltOf cf) y x).toArray=S.toArray:=by rw[<-hS];rfl
  rw[QU];rw[hS]at qR⊢;obtain⟨F,hF⟩:=ba (flatK ml k S.toArray);have hFs:F.size=D.length*k:=by rw[<-hF];simp[qR]
  have hFl:F.toList=((S.map (·.1)).flatten).map (Value.int .i64):=by rw[<-hF];exact wX S
  have pR:(D.map fB).length*k<=dg.size:=by rw[Ap];exact B7 k iU
  have ajL:D.length*k<=dg.size:=by simpa using pR
  have OG:∀b:Nat,b<w.heap.size->(sortWorldK ml k w g' 0 n S.toArray os).heap[b]? =if b=g' then some (.cells (Go.Sort.putCells id 0 F dg) e (0,0))else w.heap[b]? :=by
   intro b hb;have i7:b<(putRowK ml k (Go.Sort.ahead w n) g' 0 S.toArray).heap.size:=by
    simp[Go.Sort.putRowK,Go.Sort.putRow,Go.Sort.mapBlock,Go.Sort.ahead,hb]
   simp only[sortWorldK,Go.Sort.grow];rw[ZcY i7];simp only[putRowK,Go.Sort.putRow,Go.Sort.mapBlock,Go.Sort.ahead,hF,Array.getElem?_modify];by_cases e1:b=g'
   ·subst e1;rw[uV rfl,uV rfl,hh];rfl
   ·rw[mL (λh=>e1 h.symm),mL e1]
  have pS:w.heap.size<=(sortWorldK ml k w g' 0 n S.toArray os).heap.size:=by
   simp[sortWorldK,Go.Sort.grow,putRowK,Go.Sort.putRow,Go.Sort.mapBlock,Go.Sort.ahead]
  have hZ:L.own r (.aR aX e k (D.map fB))=some g':=by simp[Loc.own,hv,aP,Fz.1 hp]
  have wj:∀j,(Go.Sort.putCells id 0 F dg)[j]? =if j<F.size then F[j]? else dg[j]? :=by
   intro j;simp only[Go.Sort.putCells,Array.getElem?_mapIdx];by_cases hj:j<F.size
   ·rw[uV hj,E2 (show j<dg.size by omega),E2 hj];simp[hj]
   ·rw[mL hj];cases dg[j]? with
    |none=>rfl
    |some v=>simp;intro h;omega
  have fY:Fr base M w0 (sortWorldK ml k w g' 0 n S.toArray os):=by
   refine Wz.fr.trans ⟨rfl,rfl,rfl,wB Wz.fr.gz Wz.fr.size,pS,λb hb FA=>?_,by simp[sortWorldK,Go.Sort.grow,putRowK,Go.Sort.putRow,Go.Sort.mapBlock,Go.Sort.ahead]⟩;have hbw:b<w.heap.size:=MG hb (wB Wz.fr.gz Wz.fr.size);rw[OG b hbw,mL];rintro rfl;rcases hm b (by simp[hv,aP,Fz.1 hp])with h|h
   ·omega
   ·exact FA h
  have vQ:=bJ.put (r:=r) (o':=.aR aX e k (S.map fB)) (L':=L) Wz fY pS (λ_ _=>⟨rfl,rfl⟩) rfl
   (λb hb cZ=>by rw[OG b hb,mL];rintro rfl;exact cZ _ c9 hZ)
   (λb hb=>.inl ⟨_,c9,hb⟩) (λo' jM wn=>by rw[c9]at jM;cases jM;exact yV rfl wn)
   (λbi e' fS di h=>by rw[c9]at h;cases h;exact⟨aX,e,k,_,rfl,iV _,λ_=>⟨rfl,rfl,by simp[qR]⟩⟩)
   (λer=>by
    refine⟨fG,λx hx=>?_,hm,.inr ⟨g',cap,Go.Sort.putCells id 0 F dg,by rw[hv];simp[qR],hp,by rw[OG g' TO,uV rfl],by simpa [qR]using iU,ol,by simpa [Go.Sort.putCells]using Ap, ?_⟩⟩
    ·obtain⟨y,_,rfl⟩:=kL.1 hx;simp[fB,y.2]
    ·rw[zg];have e1:(Go.Sort.putCells id 0 F dg).toList.take ((S.map fB).length*k)=((S.map (·.1)).flatten).map (Value.int .i64):=by
      rw[<-hFl];apply xX;intro j;rw[Fo,GP,qR,Wy,Wy,wj,hFs];by_cases hj:j<D.length*k
      ·simp[hj]
      ·rw[mL hj,Array.getElem?_eq_none (by omega)]
     rw[e1];exact pq _)
  rw[show bQ ab (some (r,.aR aX e k (S.map fB)))=bI ab r (.aR aX e k (S.map fB))from rfl]at vQ;exact⟨vQ.1,vQ.2,by simp[ap,aO,dq]⟩
end
end Go.DM
namespace Go.DM
open Go.RowKit Go.ChangeShapes Go.WideShapes
variable [bh]
section
def mP(P:Program)(L:List TypeId):Nat->List Field->Nat->Bool
 |o,[],n=>o==n
 |o,f::fs,n=>f.offset==o&&L.contains f.type&&mP P L (o+P.cellsOf f.type) fs n
def pk(P:Program)(L:List TypeId)(t:TypeId):Bool:=
 match P.underlying t with
 |some .bool|some (.int _)|some .string=>true
 |some (.slice e)=>L.contains e&&decide (0<P.cellsOf e)
 |some (.struct fs)=>mP P L 0 fs.toList (P.cellsOf t)
 |some (.array n e)=>L.contains e&&P.cellsOf t==n*P.cellsOf e
 |_=>false
def j2(P:Program)(L:List TypeId):Bool:=L.all (pk P L)
def jI(q:TypeId->ar->Prop):List TypeId->ar->Prop
 |[],ts=>ts=[]
 |t::s5,ts=>∃a b,ts=a++b/\q t a/\jI q s5 b
def fh(P:Program):Nat->TypeId->ar->Prop
 |0,_,_=>False
 |n+1,t,ts=>
  match P.underlying t with
  |some .bool=>∃b,ts=[.bool b]
  |some (.int k)=>∃x,ts=[.int k x]/\(Lit.int k x).wf=true
  |some .string=>∃s,ts=[.str s]/\s.size<=maxLen
  |some (.slice e)=>∃an,ts=[.sl an]/\an.length<=maxLen/\∀r∈an,fh P n e r
  |some (.struct fs)=>jI (fh P n) (fs.toList.map (·.type)) ts
  |some (.array k e)=>jI (fh P n) (List.replicate k e) ts
  |_=>False
def mi(P:Program)(n:Nat)(t:TypeId)(x:T):Prop:=
 match P.underlying t with
 |some (.struct _)|some (.array _ _)=>∃ts,x=.agg ts/\fh P n t ts
 |_=>fh P n t [x]
def AM(P:Program):List TypeId->ar->Prop
 |[],xs=>xs=[]
 |t::ts,xs=>∃x jU,xs=x::jU/\(∃n,mi P n t x)/\AM P ts jU
section
variable{P:Program}{L:List TypeId}
def pm(h:j2 P L=true){t:TypeId}(ht:t∈L):pk P L t=true:=yJ.1 h t ht
def pY:∀(fs:List Field) (o n:Nat),mP P L o fs n=true->(∀f∈fs,f.type∈L)/\n=o+(fs.map λf=>P.cellsOf f.type).sum/\∀(j:Nat) f,fs[j]? =some f->f.offset=o+((fs.take j).map λf=>P.cellsOf f.type).sum
 |[],o,n,h=>by
  simp only[mP,PL]at h;exact⟨λ_ h=>(by cases h),by simp[h],λj f h=>by simp at h⟩
 |f::fs,o,n,h=>by
  simp only[mP,iS,PL,TQ]at h;obtain⟨⟨h1,h2⟩,h3⟩:=h;obtain⟨k1,k2,k3⟩:=pY fs _ n h3;refine⟨λg hg=>?_, ?_,λj g hg=>?_⟩
  ·rcases pH.1 hg with rfl|hg
   ·exact h2
   ·exact k1 g hg
  ·rw[k2];simp;omega
  ·cases j with
   |zero=>simp at hg;subst hg;simp[h1]
   |succ j=>
    have:=k3 j g (by simpa using hg);rw[this];simp;omega
def Gc(h:j2 P L=true):Kids P (·∈L):=by
 refine⟨λ{t e} ht hu=>?_,λ{t e} ht hu=>?_,λ{t e n} ht hu=>?_,λ{t fs} ht hu=>?_,λ{t k e} ht hu=>?_⟩;all_goals
  have:=pm h ht;simp only[pk,hu]at this
 ·cases this
 ·simp only[iS,TQ]at this;exact this.1
 ·simp only[iS,TQ,PL]at this;exact this
 ·obtain⟨k1,k2,k3⟩:=pY _ _ _ this;exact⟨k1,by simpa using k2,λj f hf=>by simpa using k3 j f hf⟩
 ·cases this
def uu{α:Type}{q:Nat->α->Prop}:∀(n:Nat),(∀i,i<n->∃x,q i x)->∃l:List α,l.length=n/\∀i x,l[i]? =some x->q i x
 |0,_=>⟨[],rfl,λi x h=>by simp at h⟩
 |n+1,h=>by
  obtain⟨l,hl,hq⟩:=uu n λi hi=>h i (by omega);obtain⟨x,hx⟩:=h n (by omega);refine⟨l++[x],by simp[hl],λi y hy=>?_⟩;by_cases hi:i<l.length
  ·rw[V8 hi]at hy;exact hq i y hy
  ·rw[MH (by omega)]at hy;have:i=n:=by
    have:=(E9.1 hy).1;simp at this;omega
   subst this;simp[hl]at hy;subst hy;exact hx
def pn{w:World}{a:Addr}{n:Nat}{cs:List Value}(h:w.cells? 0 a n=some cs):cs.length=n/\∀j v,cs[j]? =some v->w.cell? (a.add j)=some v:=by
 simp only[World.cells?,Hb,yh]at h;refine⟨by simpa using mapM_some_length h,λj v hj=>?_⟩;have dR:j<n:=by
  have:=(E9.1 hj).1;have h2:=mapM_some_length h;simp at h2;omega
 have:=mapM_some_get h j j (by simp[dR]);rw[hj]at this;simpa using this.symm
where
 mapM_some_length {α β:Type} {f:α->Option β} {l:List α} {r:List β} (h:l.mapM f=some r):r.length=l.length:=by
  induction l generalizing r with
  |nil=>simp at h;simp[h]
  |cons x l ih=>
   simp only[LQ,I7,gV,fO,bN]at h;obtain⟨y,_,ys,mB,rfl⟩:=h;simp[ih mB]
 mapM_some_get {α β:Type} {f:α->Option β} {l:List α} {r:List β} (h:l.mapM f=some r) (i:Nat) (x:α) (hx:l[i]? =some x):r[i]? =f x:=by
  induction l generalizing r i with
  |nil=>simp at hx
  |cons y l ih=>
   simp only[LQ,I7,gV,fO,bN]at h;obtain⟨z,hz,ys,mB,rfl⟩:=h;cases i with
   |zero=>simp at hx;subst hx;simp[hz]
   |succ i=>simpa using ih mB i (by simpa using hx)
def H5{w:World}{a:Addr}{v:Value}(h:w.cell? a=some v):a.block<w.heap.size/\a.spot=none:=by
 unfold World.cell? at h;split at h
 ·rename_i c e f hb;split at h
  ·cases h
  ·rename_i hs;exact⟨(kf.1 hb).1,by simpa using hs⟩
 ·cases h
def add_zero(a:Addr):a.add 0=a:=by simp[Addr.add]
def CJ(b o k:Nat):(⟨b,o,none⟩:Addr).add k=⟨b,o+k,none⟩:=by
 unfold Addr.add;by_cases h:k=0<;>simp[h]
def wP{H:Type}{enc:TypeId×Value->H}{w w':World}{sp':Nat->Bool}{held:Bool}(hL:j2 P L=true)(Ww:held=true):∀{s5:List TypeId} {vs:List Value} {ds:List (DataW H)} {ps:List MemPlace},(∀t∈s5,t∈L)->
  DataW.TrodAll enc P w 0 (λ_=>true) held s5 vs ds ps->(∀p∈ps,w.sameAt w' p)->(∀p∈ps,sp' p.block=true)->DataW.TrodAll enc P w' 0 sp' held s5 vs ds ps
 |[],vs,ds,ps,_,h,_,_=>by
  obtain⟨rfl,rfl,rfl⟩:=trodAll_nil h;exact trodAll_mk0
 |t::s5,vs,ds,ps,ht,h,h1,h2=>by
  obtain⟨v,vs1,d,ds1,a,b,rfl,rfl,rfl,⟨n,k1⟩,k2⟩:=trodAll_cons h;refine trodAll_cons_mk ⟨n,DataW.trod_stays (Gc hL) (λ{t e} ht hu=>?_) (λh=>by rw[Ww]at h;cases h) (ht t (KY ..)) k1 (λp hp=>h1 p (List.mem_append_left _ hp)) (λp hp=>h2 p (List.mem_append_left _ hp))⟩
   (wP hL Ww (λu hu=>ht u (Cq _ hu)) k2 (λp hp=>h1 p (List.mem_append_right _ hp)) (λp hp=>h2 p (List.mem_append_right _ hp)))
  have:=pm hL ht;simp only[pk,hu,iS,o5]at this;exact this.2
def CL{H:Type}{enc:TypeId×Value->H}{w:World}{b:Nat}{sp:Nat->Bool}{held:Bool}:∀{s5:List TypeId} {vs:List Value} {ds:List (DataW H)} {ps:List MemPlace},DataW.TrodAll enc P w b sp held s5 vs ds ps->ds.length=s5.length
 |[],vs,ds,ps,h=>by
  obtain⟨rfl,rfl,rfl⟩:=trodAll_nil h;rfl
 |t::s5,vs,ds,ps,h=>by
  obtain⟨v,vs1,d,ds1,a,b,rfl,rfl,rfl,h1,h2⟩:=trodAll_cons h;simp[CL h2]
end
inductive Ty where
 |bool|int (k:IntKind)|str
 |slice (e:Ty)
 |seq (fs:List Ty)
mutual
def Ty.yk:Ty->ar->Prop
 |.bool,ts=>∃b,ts=[.bool b]
 |.int k,ts=>∃x,ts=[.int k x]/\(Lit.int k x).wf=true
 |.str,ts=>∃s,ts=[.str s]/\s.size<=maxLen
 |.slice e,ts=>∃an,ts=[.sl an]/\an.length<=maxLen/\∀r∈an,e.yk r
 |.seq fs,ts=>Ty.iy fs ts
def Ty.iy:List Ty->ar->Prop
 |[],ts=>ts=[]
 |t::s5,ts=>∃a b,ts=a++b/\t.yk a/\Ty.iy s5 b
end
def Ty.arg:Ty->T->Prop
 |.seq fs,x=>∃ts,x=.agg ts/\Ty.iy fs ts
 |ty,x=>ty.yk [x]
def rQ(P:Program):Nat->TypeId->Option Ty
 |0,_=>none
 |n+1,t=>
  match P.underlying t with
  |some .bool=>some .bool
  |some (.int k)=>some (.int k)
  |some .string=>some .str
  |some (.slice e)=>(rQ P n e).map .slice
  |some (.struct fs)=>(CM (rQ P n) (fs.toList.map (·.type))).map .seq
  |some (.array k e)=>(rQ P n e).map λx=>.seq (List.replicate k x)
  |_=>none
where
 CM (q:TypeId->Option Ty):List TypeId->Option (List Ty)
 |[]=>some []
 |t::ts=>match q t,CM q ts with
  |some x,some xs=>some (x::xs)
  |_,_=>none
section
variable{P:Program}
def wQ:∀(m n:Nat) (t:TypeId) (ty:Ty) (ts:ar),rQ P m t=some ty->fh P n t ts->ty.yk ts:=by
 intro m;induction m with
 |zero=>intro n t ty ts h;simp[rQ]at h
 |succ m ih=>
  intro n t ty ts h hs;cases n with
  |zero=>exact hs.elim
  |succ n=>
   unfold rQ at h;unfold fh at hs;split at h
   ·rename_i hu;rw[hu]at hs;cases h;simpa [Ty.yk]using hs
   ·rename_i hu;rw[hu]at hs;cases h;simpa [Ty.yk]using hs
   ·rename_i hu;rw[hu]at hs;cases h;simpa [Ty.yk]using hs
   ·rename_i e hu;rw[hu]at hs;obtain⟨x,hx,rfl⟩:=fE.1 h;obtain⟨an,rfl,h1,h2⟩:=hs;simp only[Ty.yk];exact⟨an,rfl,h1,λr hr=>ih n e x r hx (h2 r hr)⟩
   ·rename_i fs hu;rw[hu]at hs;obtain⟨x,hx,rfl⟩:=fE.1 h;simp only[Ty.yk];have key:∀(s5:List TypeId) (xs:List Ty) (ts:ar),rQ.CM (rQ P m) s5=some xs->jI (fh P n) s5 ts->Ty.iy xs ts:=by
     intro s5;induction s5 with
     |nil=>intro xs ts h hs;simp only[rQ.CM,bN]at h;subst h;simpa [Ty.iy,jI]using hs
     |cons u s5 QN=>
      intro xs ts h hs;simp only[rQ.CM]at h;split at h
      ·rename_i y ys hy mB;cases h;simp only[jI]at hs;obtain⟨a,b,rfl,h1,h2⟩:=hs;simp only[Ty.iy];exact⟨a,b,rfl,ih n u y a hy h1,QN ys b mB h2⟩
      ·cases h
    exact key _ _ _ hx hs
   ·rename_i k e hu;rw[hu]at hs;obtain⟨x,hx,rfl⟩:=fE.1 h;simp only[Ty.yk];have key:∀(k:Nat) (ts:ar),jI (fh P n) (List.replicate k e) ts->Ty.iy (List.replicate k x) ts:=by
     intro k;induction k with
     |zero=>intro ts hs;simpa [Ty.iy,jI]using hs
     |succ k QN=>
      intro ts hs;simp only[V5,jI]at hs;obtain⟨a,b,rfl,h1,h2⟩:=hs;simp only[V5,Ty.iy];exact⟨a,b,rfl,ih n e x a hx h1,QN b h2⟩
    exact key k ts hs
   ·cases h
end
end
open Go.RowKit
section
variable{P:Program}{nt:Nat}
end
end Go.DM
namespace Go.DM
open Go.RowKit
section
variable{base nt:Nat}{W M:dJ}{w0:World}{st:nO}
variable [bh] [cG]{P:Program}
def xn(st:nO)(rs:List cV):bD:=rs.map λr=>(r.kw st).val
def C4(st:nO)(rs:List cV):DV:=match xn st rs with
 |[x]=>x
 |ds=>.dh ds
def OY{w:World}{a:Act}{L:Loc}(h:R0 base W M w0 nt st.tmps st.ab a w L){rv:ResultVar}{r:cV}(hr:kj P rv=some r)(aB:(r.kw st).ok):
  ∃v,((match rv with|.tmp t=>pure (a.tmps.getD t Go.undef)|.cell b t=>do loadVar t (<-asAddr (a.tmps.getD b Go.undef))):Sem Value).run P w=.ok v w/\ap w W st.ab L (r.kw st).val v:=by
 cases rv with
 |tmp t=>
  simp only[kj,bN]at hr;subst hr;exact⟨_,rfl,h.tmps t⟩
 |cell b t=>
  simp only[kj]at hr;split at hr
  ·rename_i d i hd hi;simp only[bN]at hr;subst hr;simp only[cV.kw]at aB;obtain⟨hp,v,bq,hv⟩:=ql h.o hd hi (h.tmps b) aB;refine⟨v, ?_,hv⟩;have hpt:∃p,a.tmps.getD b Go.undef=.pointer (some p):=by
    have hx:=h.tmps b;have ho:=aB;cases hq:st.tmps b with
    |ptr r off=>rw[hq]at hx;simp only[ap]at hx;exact⟨_,hx.2⟩
    |jr an j off=>rw[hq]at hx;simp only[ap]at hx;obtain⟨_,_,_,hx,_⟩:=hx;exact⟨_,hx⟩
    |gq cs off=>rw[hq]at hx;simp only[ap]at hx;obtain⟨_,_,hx,_⟩:=hx;exact⟨_,hx⟩
    |gU r aX j off=>rw[hq]at hx;simp only[ap]at hx;obtain⟨⟨_,_,hx⟩,_⟩:=hx;exact⟨_,hx⟩
    |v t'=>
     rw[hq]at hx ho;cases t' with
     |box cs=>simp only[ap,aO]at hx;obtain⟨_,_,hx,_⟩:=hx;exact⟨_,hx⟩
     |_=>exact ho.elim
    |_=>rw[hq]at ho;exact ho.elim
   obtain⟨p,hp⟩:=hpt;show Sem.run P (do loadVar t (<-asAddr (a.tmps.getD b Go.undef))) w=_;rw[hp]at bq⊢;simpa [Instr.loadAt,Instr.sureAddr,asAddr]using bq
  ·cases hr
def C5{base:Nat}{W M:dJ}{w0 w:World}{nt:Nat}{st:nO}{a:Act}{L:Loc}(h:R0 base W M w0 nt st.tmps st.ab a w L):∀{EP:List ResultVar} {rs:List cV},EP.mapM (kj P)=some rs->(∀r∈rs,(r.kw st).ok)->
  ∃vs,(EP.mapM (λrv=>((match rv with|.tmp t=>pure (a.tmps.getD t Go.undef)|.cell b t=>do loadVar t (<-asAddr (a.tmps.getD b Go.undef))):Sem Value))).run P w=.ok vs w/\db w W st.ab L (xn st rs) vs
 |[],rs,hr,_=>by simp at hr;subst hr;exact⟨[],by simp,by simp[xn,db]⟩
 |rv::EP,rs,hr,aB=>by
  simp only[LQ,I7,gV,fO,bN]at hr;obtain⟨r,mU,QL,jy,rfl⟩:=hr;obtain⟨v,h1,h2⟩:=OY h mU (aB r (by simp));obtain⟨vs,h3,h4⟩:=C5 h jy λx hx=>aB x (by simp[hx]);refine⟨v::vs, ?_, ?_⟩
  ·rw[LQ];simp only[Sem.run_bind,h1,Result.andThen_ok,h3,Sem.run_pure]
  ·simp only[xn,l8,db];exact⟨v,vs,rfl,h2,h4⟩
def db.length{w:World}{W:dJ}{ab:bA}{L:Loc}:∀{ds:bD} {vs:List Value},db w W ab L ds vs->vs.length=ds.length
 |[],vs,h=>by simp only[db]at h;subst h;rfl
 |d::ds,vs,h=>by
  simp only[db]at h;obtain⟨x,fW,rfl,_,h2⟩:=h;simp[db.length h2]
def A4{w:World}{a:Act}{L:Loc}(h:R0 base W M w0 nt st.tmps st.ab a w L){fn:Func}{rs:List cV}(hr:fn.results.toList.mapM (kj P)=some rs)(aB:∀r∈rs,(r.kw st).ok):
  ∃v,(results fn a.tmps).run P w=.ok v w/\ap w W st.ab L (C4 st rs) v:=by
 obtain⟨vs,h2,h3⟩:=C5 h hr aB;have hm:(fn.results.mapM (λrv=>((match rv with|.tmp t=>pure (a.tmps.getD t Go.undef)|.cell b t=>do loadVar t (<-asAddr (a.tmps.getD b Go.undef))):Sem Value))).run P w=.ok vs.toArray w:=by
  rw[Sb];simp only[Sem.run_map,h2,Result.andThen_ok]
 have hl:vs.length=(xn st rs).length:=db.length h3;refine⟨if h:vs.toArray.size=1 then vs.toArray[0]else .tuple vs.toArray, ?_, ?_⟩
 ·have nT:(results fn a.tmps)=(do
   let vs<-fn.results.mapM (λrv=>((match rv with|.tmp t=>pure (a.tmps.getD t Go.undef)|.cell b t=>do loadVar t (<-asAddr (a.tmps.getD b Go.undef))):Sem Value))
   pure (if h:vs.size=1 then vs[0]else .tuple vs)):=rfl
  rw[nT];simp only[Sem.run_bind,hm,Result.andThen_ok,Sem.run_pure]
 ·unfold C4;cases uW:xn st rs with
  |nil=>
   rw[uW]at hl h3;have:vs=[]:=kx (by simpa using hl);subst this;simp only[ap];exact⟨#[],by simp,by simp[db]⟩
  |cons x ds=>
   rw[uW]at hl h3;cases ds with
   |nil=>
    simp only[db]at h3;obtain⟨y,fW,rfl,h4,rfl⟩:=h3;simpa using h4
   |cons y ds=>
    have:vs.toArray.size≠1:=by simp at hl⊢;omega
    rw[dif_neg this];simp only[ap];exact⟨vs.toArray,rfl,by simpa using h3⟩
end
end Go.DM
namespace Go.DM
open Go.RowKit
variable [bh] [cG]
section
variable{P:Program}
def WF(rs:List cV)(se:DV->bA->Prop):Exit->nO->Prop
 |.normal,st|.ret,st=>(∀x∈rs,(x.kw st).ok)/\∃val JV,Le ⟨look [(0,C4 st rs)],st.ab,st.az,st.low,st.todo⟩ ⟨look [(0,val)],JV,st.az,st.low,st.todo⟩/\se val JV
 |_,_=>False
def av.aic{f:FuncId}{nt:Nat}{d:DC}{rs:List cV}(h:av P f nt d rs){args:bD}{ab:bA}{se:DV->bA->Prop}{N:Nat}(hN:∀r,N<=r->ab r=none)(dI:args.length<=nt)(TT:0<nt)
  {N':Nat} (iU:N<=N') (rF:∀val ay,se val ay->(∀r,r<N->ab r=none->ay r=none)/\∀r,N'<=r->ay r=none)
  (k:mV ab N->aa P nt d (WF rs se) ⟨look (args.zipIdx.map λp=>(p.2,p.1)),cB [] ab,N,N,[]⟩):Gm P f args ab N N' se:=by
 have wK:=h.entry;obtain⟨fn,sK,rfl,h3,hr,_⟩:=h;obtain⟨c,hb,hc⟩:=fE.1 h3;refine⟨wK,iU,rF,λbase W M w0 w L anM hO FM=>?_⟩;have k:=fk (k (zt hO hN));have hl:=FM.1;simp only[HM]at hl;have rL:F1 ⟨W,ab,L,w,base,M,w0,none,none,none⟩ fn.ntmps (ut args ab N) {tmps:=anM++Array.replicate (fn.ntmps-anM.size) Go.undef,defers:=[]} w L:=by
  refine⟨⟨⟨W,base,M,w0,⟨λ_=>rfl,rfl,rfl,rfl,rfl⟩,by simp;omega,λk=>?_,hO⟩,
   fX.bZ (ch.refl _ _),⟨[],rfl,QY,(λ_ h=>by cases h),λ_=>rfl⟩,λ_=>wB hO.fr.gz hO.fr.size,⟨N,hN⟩⟩,hN,hN,λh=>by cases h⟩
  simp only[ut];cases hk:args[k]? with
  |some x=>
   have hv:∃v,anM.toList[k]? =some v:=by
    have:k<anM.size:=by rw[hl];exact(E9.1 hk).1
    exact⟨anM[k],by simp[this]⟩
   obtain⟨v,hv⟩:=hv;simp only[mG hv,F4];exact FM.2 k x v hk hv
  |none=>
   have yx:anM.size<=k:=by
    have:=EO.1 hk;omega
   simp only[F4,ap,mH yx]
 refine callsIn_wide.1 (callsIn_of_wp_marks (n:=0) sK hb trivial ?_);refine wpIn_mono (k.run c hc 0 _ _ _ _ ⟨λJ hJ=>(by cases hJ),λl r s hY=>(by cases hY),λl hl=>(by cases hl)⟩ rL) ?_;rintro e a' w' ⟨dD,L',q,r'⟩;have done:((∀x∈rs,(x.kw dD).ok)/\∃val JV,Le ⟨look [(0,C4 dD rs)],dD.ab,dD.az,dD.low,dD.todo⟩ ⟨look [(0,val)],JV,dD.az,dD.low,dD.todo⟩/\se val JV)->LeavesInM Fence.wide 0 P fn a'.tmps (λe w'=>∃v L' val ay,e=.returned v/\se val ay/\bJ base W M w0 ay w' L'/\fX W ab L w ay L' w'/\ap w' W ay L' val v) a'.defers .returning w':=by
  rintro⟨hq1,val,JV,QS,hq3⟩;obtain⟨Ds,h1,h2,h3,_⟩:=r'.r.defers;rw[h1];refine leaves (κ:=⟨W,ab,L,w,base,M,w0,none,none,none⟩) rfl ?_ Ds a' w' L' r'.r h1 h2 h3;intro a2 w2 L2 h4;obtain⟨W',H1,M',QR,fF,h0⟩:=h4.ex;obtain⟨v,k1,k2⟩:=A4 (st:=dD) h0 hr hq1;have h5:=dL.put h4 fF h0 (some 0) (λd hd=>by cases hd;exact TT) h0.o (fX.bZ (ch.refl _ _)) k2 h4.je;have h6:F1 ⟨W,ab,L,w,base,M,w0,none,none,none⟩ fn.ntmps ⟨bW dD.tmps (some 0) (C4 dD rs),dD.ab,dD.az,dD.low,dD.todo⟩ (a2.put (some 0) v) w2 L2:=⟨h5,r'.fresh,r'.low,r'.it⟩;obtain⟨L3,h7⟩:=(Le.pX (st:=⟨bW dD.tmps (some 0) (C4 dD rs),dD.ab,dD.az,dD.low,dD.todo⟩) (tm:=look [(0,C4 dD rs)]) (λk=>by
   by_cases hk:k=0
   ·subst hk;right;rfl
   ·left;simp[look,hk])) _ _ _ _ _ h6
  obtain⟨L4,h8⟩:=QS _ _ _ _ _ h7;obtain⟨W'',aid,M'',ajP,Ll,h9⟩:=h8.r.ex;obtain⟨_,e1,e2,e3,e4⟩:=Ll;rw[e1,e2,e3,e4]at h9;have hv:=h9.tmps 0;have fG:0<a2.tmps.size:=by rw[h0.size];exact TT
  have ht:(a2.put (some 0) v).tmps.getD 0 Go.undef=v:=by simp[Act.put,fG]
  rw[ht]at hv;exact⟨v,k1,v,L4,val,JV,rfl,hq3,h9.o,h8.r.er,by simpa [look]using hv⟩
 cases e with
 |normal=>exact done q
 |ret=>exact done q
 |_=>exact q.elim
end
section
variable{P:Program}{nt:Nat}{Γ:gP}{κ:kS}{ro:Option Nat}{n:Nat}
end
section
variable{P:Program}{nt:Nat}{Γ:gP}{Q:Exit->nO->Prop}{tm:cQ}{ob:bA}{az low:Nat}{td:List (ar)}
end
section
variable{P:Program}{nt:Nat}{Γ:gP}{Q:Exit->nO->Prop}{tm:cQ}{ob:bA}{az low:Nat}{td:List (ar)}
end
section
variable{P:Program}{nt:Nat}{Γ:gP}{Q:Exit->nO->Prop}{tm:cQ}{ob:bA}{az low:Nat}{td:List (ar)}
end
end Go.DM
namespace Go.DM
open Go.RowKit Go.ChangeShapes Go.WideShapes
variable [bh]
section
mutual
def szT:T->Nat
 |.sl an=>szR an+1
 |.agg cs=>Hr cs
 |_=>1
def Hr:ar->Nat
 |[]=>0
 |t::ts=>szT t+Hr ts
def szR:List (ar)->Nat
 |[]=>0
 |r::rs=>Hr r+szR rs
end
def aod:∀a b:ar,Hr (a++b)=Hr a+Hr b
 |[],b=>by simp[Hr]
 |x::a,b=>by simp only[CE,Hr,aod a b];omega
structure ai1{H:Type}(f:DataW H->Nat):Prop where
 one:∀d,1<=f d
 agg:∀l,(l.map f).sum<=f (.agg l)
 slice:∀l r,(l.map f).sum+1<=f (.slice l r)
section
variable{P:Program}{L:List TypeId}{H:Type}{enc:TypeId×Value->H}{w:World}{sp:Nat->Bool}{held:Bool}{f:DataW H->Nat}
def aaD{n:Nat}{cs:List Value}(ih:∀t cs x,t∈L->DataW.trod enc P w 0 sp held n t cs=some x->∃ts,aN w (λ_=>False) ts cs/\fh P n t ts/\Hr ts<=f x.1):
  ∀(fs:List Field) (xs:List (DataW H×List MemPlace)) (o N:Nat),mP P L o fs N=true->xs.length=fs.length->(∀(j:Nat) g,fs[j]? =some g->DataW.trod enc P w 0 sp held n g.type ((cs.drop g.offset).take (P.cellsOf g.type))=xs[j]?)->cs.length=N->
   ∃ts,aN w (λ_=>False) ts (cs.drop o)/\jI (fh P n) (fs.map (·.type)) ts/\Hr ts<=(xs.map λx=>f x.1).sum
 |[],xs,o,N,h,hn,_,hl=>by
  simp only[mP,PL]at h;exact⟨[],by simp only[aN];rw[zN (by omega)],rfl,by simp[Hr]⟩
 |g::fs,[],o,N,h,hn,_,hl=>by simp at hn
 |g::fs,x::xs,o,N,h,hn,hx,hl=>by
  simp only[mP,iS,PL,TQ]at h;obtain⟨⟨h1,h2⟩,h3⟩:=h;have hx0:=hx 0 g rfl;simp only[pd]at hx0;obtain⟨a,ha,hta,hsa⟩:=ih _ _ _ h2 hx0;obtain⟨b,hb,htb,hsb⟩:=aaD ih fs xs _ N h3 (by simpa using hn) (λj k hk=>by simpa using hx (j+1) k (by simpa using hk)) hl;refine⟨a++b, ?_,⟨a,b,rfl,hta,htb⟩, ?_⟩
  ·have:=aN.append ha hb;rw[h1,<-List.drop_drop,wb]at this;exact this
  ·rw[aod];simp only[l8,Sj];omega
def ai2{n:Nat}{cs:List Value}{e:TypeId}(he:e∈L)(ih:∀t cs x,t∈L->DataW.trod enc P w 0 sp held n t cs=some x->∃ts,aN w (λ_=>False) ts cs/\fh P n t ts/\Hr ts<=f x.1):
  ∀(k i:Nat) (xs:List (DataW H×List MemPlace)),xs.length=k->(∀j,j<k->DataW.trod enc P w 0 sp held n e ((cs.drop ((i+j)*P.cellsOf e)).take (P.cellsOf e))=xs[j]?)->cs.length=(i+k)*P.cellsOf e->
   ∃ts,aN w (λ_=>False) ts (cs.drop (i*P.cellsOf e))/\jI (fh P n) (List.replicate k e) ts/\Hr ts<=(xs.map λx=>f x.1).sum
 |0,i,xs,hn,_,hl=>by
  exact⟨[],by simp only[aN];rw[zN (by rw[hl];simp)],rfl,by simp[Hr]⟩
 |k+1,i,[],hn,hx,hl=>by simp at hn
 |k+1,i,x::xs,hn,hx,hl=>by
  have hx0:=hx 0 (by omega);simp only[pd,ET]at hx0;obtain⟨a,ha,hta,hsa⟩:=ih _ _ _ he hx0;obtain⟨b,hb,htb,hsb⟩:=ai2 he ih k (i+1) xs (by simpa using hn) (λj hj=>by have:=hx (j+1) (by omega);rw[show i+(j+1)=i+1+j by omega]at this;simpa using this) (by rw[hl];congr 1;omega);refine⟨a++b, ?_,⟨a,b,rfl,hta,htb⟩, ?_⟩
  ·have:=aN.append ha hb;rw[show(i+1)*P.cellsOf e=i*P.cellsOf e+P.cellsOf e by rw[TE];omega,<-List.drop_drop,wb]at this;exact this
  ·rw[aod];simp only[l8,Sj];omega
def aez:∀(an:List (ar)) (xs:List (DataW H×List MemPlace)),an.length<=xs.length->(∀(i:Nat) (r:ar),an[i]? =some r->∃x:DataW H×List MemPlace,xs[i]? =some x/\Hr r<=f x.1)->szR an<=(xs.map λx=>f x.1).sum
 |[],xs,_,_=>by simp[szR]
 |r::an,[],hn,_=>by simp at hn
 |r::an,x::xs,hn,h=>by
  obtain⟨y,hy,hs⟩:=h 0 r rfl;simp only[pd,bN]at hy;subst hy;have:=aez an xs (by simpa using hn) λi q hq=>by simpa using h (i+1) q (by simpa using hq)
  simp only[szR,l8,Sj];omega
def ajS(hL:j2 P L=true)(hf:ai1 f):∀(n:Nat) (t:TypeId) (cs:List Value) (x:DataW H×List MemPlace),t∈L->
  DataW.trod enc P w 0 sp held n t cs=some x->∃ts,aN w (λ_=>False) ts cs/\fh P n t ts/\Hr ts<=f x.1:=by
 intro n;induction n with
 |zero=>intro t cs x _ h;simp[DataW.trod]at h
 |succ n ih=>
  intro t cs x ht h;have hp:=pm hL ht;have one:∀{y:T} {v:Value},v.oneCell'=true->aO w (λ_=>False) y v->aN w (λ_=>False) [y] [v]:=λh1 h2=>by simp only[aN];exact⟨_,_,rfl,h1,h2,rfl⟩
  have h1x:=hf.one x.1;unfold pk at hp;split at hp
  ·rename_i hu;obtain⟨b,rfl,rfl⟩:∃b,cs=[.bool b]/\x=(.lit (.bool b),[]):=by
    unfold DataW.trod at h;rw[hu]at h;split at h<;>simp_all
   exact⟨[.bool b],one rfl (by simp[aO]),by simp[fh,hu],by simpa [Hr,szT]using h1x⟩
  ·rename_i k hu;obtain⟨m,rfl,rfl,hw⟩:=DataW.trod_int hu h;exact⟨[.int k m],one rfl (by simp[aO]),by simp[fh,hu,hw],by simpa [Hr,szT]using h1x⟩
  ·rename_i hu;obtain⟨s,rfl,rfl,hs⟩:=DataW.trod_string hu h;exact⟨[.str s],one rfl (by simp[aO]),by simp[fh,hu,hs],by simpa [Hr,szT]using h1x⟩
  ·rename_i e hu;simp only[iS,TQ,o5]at hp;obtain⟨he,Uh⟩:=hp;rcases DataW.trod_slice hu h with⟨rfl,rfl⟩|⟨a,len,cap,Wv,rest,m,hm,rfl,rfl,_,hlc,ol,OB,Oi,_,_⟩
   ·exact⟨[.sl []],one rfl (by simp[aO]),by simp[fh,hu],by simpa [Hr,szT,szR]using h1x⟩
   ·obtain rfl:n=m:=by omega
    have fz:∀i,i<len->∃r:ar,(∃sN,w.cells? 0 (a.add (i*P.cellsOf e)) (P.cellsOf e)=some sN/\aN w (λ_=>False) r sN)/\fh P n e r/\∃y,Wv[i]? =some y/\Hr r<=f y.1:=by
     intro i hi;have h1:=Oi i hi;have h2:∃y,Wv[i]? =some y:=⟨Wv[i],fq (by omega)⟩;obtain⟨y,hy⟩:=h2;rw[hy]at h1;obtain⟨sN,h3,h4⟩:=fO.1 h1;obtain⟨ts,h5,h6,h7⟩:=ih e sN y he h4;exact⟨ts,⟨sN,h3,h5⟩,h6,y,hy,h7⟩
    obtain⟨an,dI,hq⟩:=uu len fz;refine⟨[.sl an], ?_, ?_, ?_⟩
    ·simp only[aN];refine⟨_,[],rfl,rfl, ?_,rfl⟩;simp only[aO];cases an with
     |nil=>
      simp at dI;subst dI;exact .inl ⟨rfl,_,_,rfl⟩
     |cons r0 an=>
      right;obtain⟨⟨Sz,h3,h4⟩,_⟩:=hq 0 r0 rfl;obtain⟨h5,h6⟩:=pn h3;have Ue:∃v,Sz[0]? =some v:=⟨Sz[0],fq (by omega)⟩;obtain⟨v0,UK⟩:=Ue;have h60:=h6 0 v0 UK;simp only[UL,add_zero]at h60;obtain⟨hb,hs⟩:=H5 h60;obtain⟨b,o,sp'⟩:=a;simp only at hb hs;subst hs;have fF:∀i r,(r0::an)[i]? =some r->r.length=P.cellsOf e/\cS w (λ_=>False) b (o+i*P.cellsOf e) r:=by
       intro i r hr;obtain⟨⟨sN,h3,h4⟩,_⟩:=hq i r hr;obtain⟨h5,h6⟩:=pn h3;refine⟨by rw[<-aN.length h4,h5],cS.m5 h4 λj v hj=>?_⟩;have h7:=h6 j v hj;rw[CJ,CJ]at h7;exact h7
      exact⟨b,o,cap,P.cellsOf e,by rw[dI],hb,λh=>h,by omega,aT.vf _ _ fF⟩
    ·simp only[fh,hu];refine⟨an,rfl,by omega,λr hr=>?_⟩;obtain⟨i,hi⟩:=Kv hr;exact(hq i r hi).2.1
    ·have h1:=aez (f:=f) an Wv (by omega) λi r hr=>(hq i r hr).2.2;have h2:=hf.slice (Wv.map (·.1)) (rest.map (·.1));rw[x5]at h2;simp only[Hr,szT];simp only[Function.comp_def]at h2⊢;omega
  ·rename_i fs hu;obtain⟨xs,m,hm,rfl,hl,vh,hg⟩:=DataW.trod_struct hu h;obtain rfl:n=m:=by omega
   obtain⟨ts,h1,h2,h3⟩:=aaD (cs:=cs) (f:=f) ih fs.toList xs 0 _ hp (by simpa using vh) (λj g hj=>hg j g (by simpa using hj)) hl;refine⟨ts,by simpa using h1,by simpa [fh,hu]using h2, ?_⟩;have:=hf.agg (xs.map (·.1));rw[x5]at this;simp only[Function.comp_def]at this⊢;omega
  ·rename_i k e hu;simp only[iS,TQ,PL]at hp;obtain⟨xs,m,hm,rfl,hl,vh,hg⟩:=DataW.trod_array hu h;obtain rfl:n=m:=by omega
   obtain⟨ts,h1,h2,h3⟩:=ai2 (cs:=cs) (f:=f) hp.1 ih k 0 xs vh (λj hj=>by rw[Cf];exact hg j hj) (by rw[hl,hp.2];simp);refine⟨ts,by simpa using h1,by simpa [fh,hu]using h2, ?_⟩;have:=hf.agg (xs.map (·.1));rw[x5]at this;simp only[Function.comp_def]at this⊢;omega
  ·cases hp
def akA(hL:j2 P L=true)(hf:ai1 f){t:TypeId}(ht:t∈L){v:Value}{base:Nat}(hv:Value.okWide P w .any base t v){d:DataW H}{ps:List MemPlace}
  (h:DataW.Trod enc P w 0 sp held t v d ps):∃x,aO w (λ_=>False) x v/\(∃n,mi P n t x)/\szT x<=f d:=by
 obtain⟨n,h⟩:=h;obtain⟨ts,h1,h2,h3⟩:=ajS hL hf n t _ _ ht h;have hp:=pm hL ht;have AN:(∀cs,v≠ .agg cs)->∃x,ts=[x]/\aO w (λ_=>False) x v/\szT x<=f d:=by
  intro cZ;have hc:v.cells.toList=[v]:=by cases v<;>first|rfl|exact yV rfl (cZ _)
  rw[hc]at h1;cases ts with
  |nil=>simp only[aN]at h1;cases h1
  |cons x xs=>
   simp only[aN]at h1;obtain⟨_,_,e,_,hr,jy⟩:=h1;simp only[BE]at e;obtain⟨rfl,rfl⟩:=e;have:=aN.length jy;simp at this;have e:xs=[]:=kx this.symm;subst e;exact⟨x,rfl,hr,by simpa [Hr]using h3⟩
 have agg:(∃cs,v=.agg cs)->∃x,x=T.agg ts/\aO w (λ_=>False) x v/\szT x<=f d:=by
  rintro⟨cs,rfl⟩;exact⟨_,rfl,by simp only[aO];exact⟨cs,rfl,by simpa [Value.cells]using h1⟩,by simpa [szT]using h3⟩
 unfold pk at hp;split at hp
 ·rename_i hu;obtain⟨b,rfl⟩:=okWide_bool hu hv;obtain⟨x,rfl,hr,hs⟩:=AN (λ_ h=>by cases h);exact⟨x,hr,⟨n,by simp only[mi,hu];exact h2⟩,hs⟩
 ·rename_i k hu;obtain⟨b,rfl⟩:=okWide_int hu hv;obtain⟨x,rfl,hr,hs⟩:=AN (λ_ h=>by cases h);exact⟨x,hr,⟨n,by simp only[mi,hu];exact h2⟩,hs⟩
 ·rename_i hu;obtain⟨b,rfl⟩:=okWide_string hu hv;obtain⟨x,rfl,hr,hs⟩:=AN (λ_ h=>by cases h);exact⟨x,hr,⟨n,by simp only[mi,hu];exact h2⟩,hs⟩
 ·rename_i e hu;obtain⟨a,l,c,rfl⟩:=okWide_slice hu hv;obtain⟨x,rfl,hr,hs⟩:=AN (λ_ h=>by cases h);exact⟨x,hr,⟨n,by simp only[mi,hu];exact h2⟩,hs⟩
 ·rename_i fs hu;obtain⟨cs,rfl,_⟩:=okWide_struct hu hv;obtain⟨x,rfl,hr,hs⟩:=agg ⟨_,rfl⟩;exact⟨_,hr,⟨n,by simp only[mi,hu];exact⟨_,rfl,h2⟩⟩,hs⟩
 ·rename_i k e hu;have:∃cs,v=.agg cs:=by
   simp only[Value.okWide,hu]at hv;cases v<;>simp_all
  obtain⟨cs,rfl⟩:=this;obtain⟨x,rfl,hr,hs⟩:=agg ⟨_,rfl⟩;exact⟨_,hr,⟨n,by simp only[mi,hu];exact⟨_,rfl,h2⟩⟩,hs⟩
 ·cases hp
def afe(hL:j2 P L=true)(hf:ai1 f){base:Nat}:∀{s5:List TypeId} {vs:List Value} {ds:List (DataW H)} {ps:List MemPlace},(∀t∈s5,t∈L)->
  (∀(j:Nat) t v,s5[j]? =some t->vs[j]? =some v->Value.okWide P w .any base t v)->DataW.TrodAll enc P w 0 sp held s5 vs ds ps->∃xs,dq w (λ_=>False) xs vs/\AM P s5 xs/\Hr xs<=(ds.map f).sum
 |[],vs,ds,ps,_,_,h=>by
  obtain⟨rfl,rfl,rfl⟩:=trodAll_nil h;exact⟨[],by simp[dq],rfl,by simp[Hr]⟩
 |t::s5,vs,ds,ps,ht,hv,h=>by
  obtain⟨v,vs1,d,ds1,a,b,rfl,rfl,rfl,h1,h2⟩:=trodAll_cons h;obtain⟨x,k1,k2,k5⟩:=akA hL hf (ht t (KY ..)) (hv 0 t v rfl rfl) h1;obtain⟨xs,k3,k4,k6⟩:=afe hL hf (λu hu=>ht u (Cq _ hu)) (λj u y h1 h2=>hv (j+1) u y (by simpa using h1) (by simpa using h2)) h2;exact⟨x::xs,by simp only[dq];exact⟨v,vs1,rfl,k1,k3⟩,⟨x,xs,rfl,k2,k4⟩,by simp only[Hr,l8,Sj];omega⟩
def aar{W:World}{base B:Nat}{args:Array Value}{ds gs:List (DataW H)}{bF:List MemPlace}{g:FuncId}{fn:Func}{s:ChangeSpec}{tb:TypeId}{apart fresh handsOn again:Bool}
  (hL:j2 P L=true) (aeJ:∀t∈fn.params.toList,t∈L) (vQ:fn.resultTypes= #[tb]) (hb:P.underlying tb=some .bool) (Wx:s.vars=[]) (sK:∀ds:List (DataW H),ds.length=fn.params.size->s.fn H ds={results:=[.lit (.bool true)],args:=ds})
  (hf:ai1 f) (hB:((ds++gs).map f).sum<=B) (m9:∀xs,AM P fn.params.toList xs->Hr xs<=B->aI P g xs (.bool true))
  (dt:∀(j:Nat) t v,fn.params[j]? =some t->args[j]? =some v->Value.okWide P W .any base t v)
  (hW:DataW.Whole enc P fn.params.toList s.vars apart W args.toList ds gs bF) (hg:vT W λ_=>False):
  Calls P g args W λe W'=>∃v,e=.returned v/\s.post enc P fn apart fresh handsOn again W args v W':=by
 have hW':=hW;obtain⟨p,q,hA,hV,rfl,hfz,wu⟩:=hW;rw[Wx]at hV;obtain⟨rfl,rfl⟩:=trodVars_none hV;obtain⟨xs,hr,hx,fG⟩:=afe hL hf aeJ (λj t v h1 h2=>dt j t v (by simpa using h1) (by simpa using h2)) hA;rw[F5]at hB;have dI:ds.length=fn.params.size:=by
  have:=CL hA;simpa using this
 refine((m9 xs hx (by omega)).Wu hg hr).mono ?_;rintro e w' ⟨v,rfl,hbl,hv⟩;simp only[aO]at hv;subst hv;have dR:=hW'.lt;have rD:∀sp:Nat->Bool,(∀x∈p,sp x.block=true)->DataW.TrodAll enc P w' 0 sp true fn.params.toList args.toList ds p:=λsp Mw=>
  wP hL rfl aeJ hA (λx hx=>hbl.same (dR x (by simpa using hx))) Mw
 have jy:∀(b:Nat) (sp:Nat->Bool) (hd:Bool),DataW.TrodAll enc P w' b sp hd fn.resultTypes.toList ((Value.bool true).resultList fn.resultTypes.size) [.lit (.bool true)] []:=λb sp hd=>by
  rw[vQ];exact trodAll_cons_mk (shut_bool hb _) trodAll_mk0
 have he:s.fn H (ds++[])={results:=[.lit (.bool true)],args:=ds}:=by rw[F5];exact sK ds dI
 have UK:∀sp:Nat->Bool,DataW.TrodVars enc P w' sp s.vars [] []:=λsp=>by rw[Wx];rfl
 have E1:(s.fn H (ds++[])).vars=[]:=by rw[he]
 refine⟨_,rfl,ds,[],p++[],[],p,[],hW',by rw[he];exact jy _ _ _,by rw[he];exact rD _ (λx hx=>by simpa using dR x (by simpa using hx)),by rw[E1];exact UK _,hbl.frame _,λ_=>?_⟩;refine⟨ok_one vQ rfl (okWide_bool_mk hb _),_,_,([]++p)++[],⟨[]++p,[],trodAll_append (rD _ (λ_ _=>rfl)) (jy _ _ _),UK _,rfl, ?_, ?_⟩, ?_⟩
 ·intro b off hp;rw[hbl.frozen (dR _ (by simpa using hp))];exact hfz b off (by simpa using hp)
 ·intro ha;simpa using wu ha
 ·intro x hx _;simpa using hx
end
end
end Go.DM
namespace Go.Proofs
open Go.DM
instance afi:bh:=⟨[(0,[.mb .nilFunc,.fn (.func 138) [],.fn (.func 139) [],.fn (.func 140) [],.fn (.func 141) []])]⟩
def DT:ah:=[
 B 0 1,
 o (.alloc [V 0,.aF,.aF]) 2 []]
def DU:ah:=[
 L 3 1 11 [],
 o (.mkMap [(.int .i64),(.int .i64),(.int .i64)] true) 12 [],
 o (.build [.aF,.aF,V 0,(.v (.mb (Go.Value.map Option.none)))] [(0,3,(t 11)),(3,1,(t 12))]) 13 [0,1],
 o (.box (t 13)) 14 [2],
 m 14 3 [3,0,1,2,3]]
def DW:ah:=[
 a 0 1 15 [],
 l 15 16 [0],
 N 16 17 [1],
 m 17 4 [2,0,1,2]]
def Iu:ah:=[
 n 4 18,
 o (.bin .mul (i 2) (t 18)) 19 [0],
 C .add 19 1 20 [1],
 o (.bslice 1 1 [V 0] [(0,1,(i 1099511627776))]) 21 [],
 n 4 22,
 o (.bin .mul (i 2) (t 22)) 23 [4],
 C .add 23 1 24 [5],
 o (.call 54 [(t 21),(t 24)]) 25 [3,6],
 o (.build [V 0,.aF,.aF] [(0,1,(t 20)),(2,1,(t 25))]) 26 [2,7],
 o (.alloc [V 0,.aF,.aF]) 5 [],
 S 3 5 26 (k [9,8,7] 9)]
def RA:ah:=[
 n 4 18,
 o (.bin .mul (i 2) (t 18)) 19 [0],
 C .add 19 1 20 [1],
 o (.bslice 1 1 [V 0] [(0,1,(i 1099511627776))]) 21 [],
 n 4 22,
 o (.bin .mul (i 2) (t 22)) 23 [4],
 C .add 23 1 24 [5],
 o (.callF 54 [(t 21),(t 24)]) 25 [3,6],
 o (.build [V 0,.aF,.aF] [(0,1,(t 20)),(2,1,(t 25))]) 26 [2,7],
 o (.alloc [V 0,.aF,.aF]) 5 [],
 S 3 5 26 (k [9,8,7] 9)]
def DX:ah:=[
 n 4 27,
 C .add 27 1 28 [0],
 I 0 29]
def DY:ah:=[
 b .lss 29 28 30 []]
def DZ:ah:=[
 n 29 31,
 m 31 6 [0,0]]
def Iv:ah:=[
 n 3 32,
 n 6 33,
 o (.call 55 [(t 32),(t 33)]) 34 [0,1]]
def RB:ah:=[
 n 3 32,
 n 6 33,
 o (.callS 55 [(t 32),(t 33)]) 34 [0,1]]
def Iw:ah:=[
 a 2 5 36 [],
 l 36 37 [0],
 n 6 38,
 o (.bin .mul (i 2) (t 38)) 39 [2],
 n 3 40,
 n 6 41,
 n 4 42,
 o (.call 56 [(t 40),(t 41),(t 42)]) 43 [4,5,6],
 m 43 35 [7],
 e 0 35 44 [8],
 e 1 35 45 [8],
 x 1 37 39 46 (k [1,3] 9),
 S 1 46 44 (k [11,9,7] 9)]
def D0:ah:=[
 C .add 29 1 47 [],
 m 47 29 [0]]
def xH:ah:=[
 Z 7]
def xI:ah:=[
 n 3 48,
 c 48 49 [0],
 a 3 49 50 [1],
 l 50 51 [2],
 o (.rangeM (t 51)) 52 [3]]
def xJ:ah:=[
 o (.entryM (t 52)) 55 [],
 e 0 55 56 [0],
 o (.alloc [V 0,V 0,V 0]) 8 [],
 S 3 8 56 [2,1,0,1,2]]
def xK:ah:=[
 n 7 57,
 L 3 8 58 [],
 o (.bslice 1 3 [V 0,V 0,V 0] [(0,3,(t 58))]) 59 [1],
 o (.append 125 3 24 (t 57) (t 59)) 60 [0,2],
 m 60 7 [3,3,0,1,2,3]]
def Bm:ah:=[
 n 7 61,
 o (.call 57 [(t 61),(.eD (.v (.fn (.func 58) [])))]) 62 [0]]
def Iz:ah:=[
 n 7 61,
 o (.callS 57 [(t 61),(.eD (.v (.fn (.func 58) [])))]) 62 [0]]
def xL:ah:=[
 n 7 63,
 N 63 64 [0],
 I 0 65]
def xM:ah:=[
 b .lss 65 64 66 []]
def xN:ah:=[
 x 3 63 65 67 [],
 L 3 67 68 [0],
 o (.alloc [V 0,V 0,V 0]) 10 [],
 S 3 10 68 [2,1,0,1,2]]
def xO:ah:=[
 a 1 5 69 [],
 l 69 70 [0],
 n 3 71,
 c 71 72 [2],
 a 3 72 73 [3],
 l 73 74 [4],
 L 3 10 75 [],
 o (.lookup [(.int .i64),(.int .i64),(.int .i64)] true (.agg [(.v (.int .i64 0)),(.v (.int .i64 0)),(.v (.int .i64 0)),(.v (.int .i64 0)),.aF]) false (t 74) (t 75)) 76 [5,6],
 o (.bslice 1 5 [V 0,V 0,V 0,V 0,.aF] [(0,5,(t 76))]) 77 [7],
 o (.append 97 5 56 (t 70) (t 77)) 78 [1,8],
 a 1 5 79 (k [] 9),
 S 1 79 78 (k [10,9,9] 9)]
def xP:ah:=[
 C .add 65 1 80 [],
 m 80 65 [0]]
def RC:ah:=[
 L 3 5 81 [],
 S 3 2 81 [0,0]]
def d12:DC:=(j (y DT) (j (y DU) (j (y DW) (j (y Iu) (j (j (y DX) (.block 0 (.loop (j (y DY) (j (.cond (.tmp 30) .skip (.exit 0)) (j (.block 1 (j (y DZ) (j (y Iv) (Y Iw)))) (y D0))))))) (j (y xH) (j (j (y xI) (.block 2 (.loop (j (.HY (.tmp 52) 53 54) (j (.cond (.tmp 54) .skip (.exit 2)) (.block 3 (j (y xJ) (y xK)))))))) (j (y Bm) (j (j (y xL) (.block 4 (.loop (j (y xM) (j (.cond (.tmp 66) .skip (.exit 4)) (j (.block 5 (j (y xN) (Y xO))) (y xP))))))) (j (y RC) .ret))))))))))
def xQ:List cV:=[.cell 2 3 true]
def c12 [bh]:av Tryd.prog 26 82 d12 xQ:=av.of Tryd.f26 (by kernel_rfl)
def Ed:ah:=[
 n 0 12,
 c 12 13 [0],
 a 0 13 14 [1],
 a 0 14 15 [2],
 l 15 16 [3],
 N 16 17 [4],
 m 17 4 (k [5] 5)]
def Ee:ah:=[
 n 1 18,
 m 18 5 [0,0]]
def Zd:ah:=[
 n 5 19,
 n 4 20,
 b .leq 19 20 21 [0,1]]
def GR:ah:=[
 n 0 25,
 n 1 26,
 n 5 27,
 o (.callS 56 [(t 25),(t 26),(t 27)]) 28 [0,1,2],
 m 28 24 [3],
 e 0 24 29 [4],
 e 1 24 30 [4],
 m 29 6 (k [5,3] 5),
 m 30 7 (k [6,7] 7)]
def afj:ah:=GR.map bare
def Ze:ah:=[
 n 5 31,
 n 1 32,
 b .gtr 31 32 33 [0,1]]
def GS:ah:=[
 n 0 35,
 n 1 36,
 n 5 37,
 C .sub 37 1 38 [2],
 o (.callS 56 [(t 35),(t 36),(t 38)]) 39 [0,1,3],
 m 39 34 [4],
 e 0 34 40 [5],
 e 1 34 41 [5],
 m 40 8 (k [6,4] 6),
 m 41 9 (k [7,8] 8)]
def afk:ah:=GS.map bare
def GU:ah:=[
 n 0 42,
 n 1 43,
 n 5 44,
 C .sub 44 1 45 [2],
 n 8 46,
 n 9 47,
 o (.callS 82 [(t 42),(t 43),(t 45),(t 46),(t 47)]) 48 [0,1,3,4,5]]
def afl:ah:=GU.map bare
def Zf:ah:=[
 n 0 49,
 c 49 50 [0],
 a 0 50 51 [1],
 a 1 51 52 [2],
 l 52 53 [3],
 N 53 54 [4],
 I 0 55]
def Zg:ah:=[
 b .lss 55 54 56 []]
def Zh:ah:=[
 n 55 57,
 x 1 53 55 58 [],
 l 58 59 [1],
 m 57 10 [0,0,1,2],
 m 59 11 [2,3,0,1,2,3]]
def Bq:ah:=[
 n 0 60,
 n 1 61,
 o (.bin .mul (i 2) (t 61)) 62 [1],
 n 5 63,
 o (.bin .mul (i 2) (t 63)) 64 [3],
 n 10 65,
 n 6 66,
 n 11 67,
 b .add 66 67 68 [6,7],
 n 7 69,
 o (.callF 84 [(t 69)]) 70 [9],
 n 10 71,
 o (.build [V 0,V 0] [(0,1,(i 3)),(1,1,(t 71))]) 72 [11],
 o (.bslice 1 2 [V 0,V 0] [(0,2,(t 72))]) 73 [12],
 o (.append 68 2 16 (t 70) (t 73)) 74 [10,13,10],
 o (.build [V 0,V 0,V 0,V 0,.aF] [(0,1,(t 62)),(1,1,(t 64)),(2,1,(t 65)),(3,1,(t 68)),(4,1,(t 74))]) 75 [2,4,5,8,14],
 o (.callS 83 [(t 60),(t 75)]) 76 [0,15,14]]
def ab6:ah:=Bq.map bare
def RD:ah:=[
 C .add 55 1 77 [],
 m 77 55 [0]]
def Br:ah:=[
 n 0 78,
 n 5 79,
 o (.callS 85 [(t 78),(t 79)]) 80 [0,1]]
def ab7:ah:=Br.map bare
def Bs:ah:=[
 n 0 81,
 n 1 82,
 o (.bin .mul (i 2) (t 82)) 83 [1],
 n 5 84,
 o (.bin .mul (i 2) (t 84)) 85 [3],
 C .add 85 1 86 [4],
 n 0 87,
 c 87 88 [6],
 a 0 88 89 [7],
 a 0 89 90 [8],
 l 90 91 [9],
 n 5 92,
 C .add 92 1 93 [11],
 x 3 91 93 94 [10,12],
 a 0 94 95 [13],
 l 95 96 [14],
 n 6 97,
 n 0 98,
 c 98 99 [17],
 a 0 99 100 [18],
 a 2 100 101 [19],
 l 101 102 [20],
 b .add 97 102 103 [16,21],
 n 7 104,
 o (.callF 84 [(t 104)]) 105 [23],
 o (.build [V 0,V 0] [(0,1,(i 4))]) 106 [],
 o (.bslice 1 2 [V 0,V 0] [(0,2,(t 106))]) 107 [25],
 o (.append 68 2 16 (t 105) (t 107)) 108 [24,26,24],
 o (.build [V 0,V 0,V 0,V 0,.aF] [(0,1,(t 83)),(1,1,(t 86)),(2,1,(t 96)),(3,1,(t 103)),(4,1,(t 108))]) 109 [2,5,15,22,27],
 o (.callS 83 [(t 81),(t 109)]) 110 [0,28,27]]
def ab8:ah:=Bs.map bare
def RE:ah:=[
 n 5 22,
 C .add 22 1 23 [0],
 m 23 5 [1,0,1]]
def Bt:ah:=[
 n 0 111,
 n 1 112,
 o (.callS 85 [(t 111),(t 112)]) 113 [0,1]]
def ab9:ah:=Bt.map bare
def Bu:ah:=[
 n 0 114,
 n 1 115,
 o (.bin .mul (i 2) (t 115)) 116 [1],
 C .add 116 1 117 [2],
 n 1 118,
 o (.bin .mul (i 2) (t 118)) 119 [4],
 C .add 119 4 120 [5],
 n 0 121,
 c 121 122 [7],
 a 0 122 123 [8],
 a 0 123 124 [9],
 l 124 125 [10],
 n 1 126,
 x 3 125 126 127 [11,12],
 a 0 127 128 [13],
 l 128 129 [14],
 o (.build [V 0,V 0,V 0,V 0,.aF] [(0,1,(t 117)),(1,1,(t 120)),(2,1,(t 129))]) 130 [3,6,15],
 o (.callS 83 [(t 114),(t 130)]) 131 [0,16]]
def aca:ah:=Bu.map bare
def d30:DC:=(j (y Ed) (j (j (y Ee) (.block 0 (.loop (j (j (y Zd) (.cond (.tmp 21) .skip (.exit 0))) (j (.block 1 (j (y afj) (j (j (y Ze) (.cond (.tmp 33) (j (y afk) (y afl)) .skip)) (j (j (y Zf) (.block 2 (.loop (j (y Zg) (j (.cond (.tmp 56) .skip (.exit 2)) (j (.block 3 (j (y Zh) (y ab6))) (y RD))))))) (j (y ab7) (.cond (.tmp 80) (.pj ab8) .skip)))))) (y RE)))))) (j (y ab9) (.cond (.tmp 113) (y aca) .skip))))
def ajZ:List cV:=[]
def c30 [bh]:av Tryd.prog 55 132 d30 ajZ:=av.of Tryd.f55 (by kernel_rfl)
def Zi:ah:=[
 I 0 6,
 o (.jS (.eD .aF)) 7 [0]]
def Zj:ah:=[
 I 0 8]
def Zk:ah:=[
 Z 9]
def Zl:ah:=[
 n 0 12,
 c 12 13 [0],
 a 0 13 14 [1],
 a 0 14 15 [2],
 l 15 16 [3],
 n 1 17,
 n 2 18,
 o (.slice 3 (t 16) (some (t 17)) (some (t 18))) 19 [4,5,6],
 N 19 20 [7],
 I 0 21]
def Zm:ah:=[
 b .lss 21 20 22 []]
def Zn:ah:=[
 x 3 19 21 23 [],
 L 3 23 24 [0],
 o (.alloc [V 0,.aF,V 0]) 11 [],
 S 3 11 24 [2,1,0,1,2]]
def Zo:ah:=[
 n 8 25,
 a 2 11 26 [],
 l 26 27 [1],
 b .add 25 27 28 [0,2],
 o (.minmax false (t 28) (i 1099511627776)) 29 [3],
 m 29 8 (k [4] 4)]
def Zp:ah:=[
 n 9 30,
 o (.build [V 0,V 0] [(0,1,(i 2))]) 31 [],
 o (.bslice 1 2 [V 0,V 0] [(0,2,(t 31))]) 32 [1],
 o (.append 68 2 16 (t 30) (t 32)) 33 [0,2],
 m 33 9 [3,3,0,1,2,3]]
def Zq:ah:=[
 C .add 21 1 34 [],
 m 34 21 [0]]
def Zr:ah:=[
 n 8 35,
 n 9 36,
 m 35 6 [0,0],
 m 36 7 [1,2,0,1,2]]
def d31:DC:=(j (y Zi) (j (y Zj) (j (y Zk) (j (j (y Zl) (.block 0 (.loop (j (y Zm) (j (.cond (.tmp 22) .skip (.exit 0)) (j (.block 1 (j (y Zn) (j (y Zo) (y Zp)))) (y Zq))))))) (j (y Zr) .ret)))))
def RF:List cV:=[.iZ 6,.iZ 7]
def c31 [bh]:av Tryd.prog 56 37 d31 RF:=av.of Tryd.f56 (by kernel_rfl)
def DD:ah:=[
 n 0 12,
 c 12 13 [0],
 a 0 13 14 [1],
 a 0 14 15 [2],
 l 15 16 [3],
 n 2 17,
 x 3 16 17 18 [4,5],
 a 1 18 19 [6],
 l 19 20 [7],
 N 20 21 [8],
 I 0 22]
def DE:ah:=[
 b .lss 22 21 23 []]
def DF:ah:=[
 n 22 24,
 x 1 20 22 25 [],
 l 25 26 [1],
 m 24 10 [0,0,1,2],
 m 26 11 [2,3,0,1,2,3]]
def DG:ah:=[
 n 11 27,
 C .geq 27 0 28 [0]]
def Is:ah:=[
 n 0 29,
 n 1 30,
 o (.bin .mul (i 2) (t 30)) 31 [1],
 n 2 32,
 o (.bin .mul (i 2) (t 32)) 33 [3],
 C .add 33 2 34 [4],
 n 10 35,
 n 3 36,
 n 11 37,
 b .add 36 37 38 [7,8],
 n 4 39,
 o (.call 84 [(t 39)]) 40 [10],
 n 10 41,
 o (.build [V 0,V 0] [(0,1,(i 1)),(1,1,(t 41))]) 42 [12],
 o (.bslice 1 2 [V 0,V 0] [(0,2,(t 42))]) 43 [13],
 o (.append 68 2 16 (t 40) (t 43)) 44 [11,14,11],
 o (.build [V 0,V 0,V 0,V 0,.aF] [(0,1,(t 31)),(1,1,(t 34)),(2,1,(t 35)),(3,1,(t 38)),(4,1,(t 44))]) 45 [2,5,6,9,15],
 o (.call 83 [(t 29),(t 45)]) 46 [0,16,15]]
def RG:ah:=[
 n 0 29,
 n 1 30,
 o (.bin .mul (i 2) (t 30)) 31 [1],
 n 2 32,
 o (.bin .mul (i 2) (t 32)) 33 [3],
 C .add 33 2 34 [4],
 n 10 35,
 n 3 36,
 n 11 37,
 b .add 36 37 38 [7,8],
 n 4 39,
 o (.callF 84 [(t 39)]) 40 [10],
 n 10 41,
 o (.build [V 0,V 0] [(0,1,(i 1)),(1,1,(t 41))]) 42 [12],
 o (.bslice 1 2 [V 0,V 0] [(0,2,(t 42))]) 43 [13],
 o (.append 68 2 16 (t 40) (t 43)) 44 [11,14,11],
 o (.build [V 0,V 0,V 0,V 0,.aF] [(0,1,(t 31)),(1,1,(t 34)),(2,1,(t 35)),(3,1,(t 38)),(4,1,(t 44))]) 45 [2,5,6,9,15],
 o (.callS 83 [(t 29),(t 45)]) 46 [0,16,15]]
def DH:ah:=[
 C .add 22 1 47 [],
 m 47 22 [0]]
def d47:DC:=(j (y DD) (.block 0 (.loop (j (y DE) (j (.cond (.tmp 23) .skip (.exit 0)) (j (.block 1 (j (y DF) (j (y DG) (.cond (.tmp 28) (y Is) .skip)))) (y DH)))))))
def Bg:List cV:=[]
def c47 [bh]:av Tryd.prog 82 48 d47 Bg:=av.of Tryd.f82 (by kernel_rfl)
def zH:ah:=[
 B 1 3]
def zI:ah:=[
 a 0 3 7 [],
 l 7 8 [0],
 a 1 3 9 [],
 l 9 10 [2],
 a 2 3 11 [],
 l 11 12 [4],
 o (.build [V 0,V 0,V 0] [(0,1,(t 8)),(1,1,(t 10)),(2,1,(t 12))]) 13 [1,3,5],
 o (.alloc [V 0,V 0,V 0]) 4 [],
 S 3 4 13 (k [7,6] 7)]
def xD:ah:=[
 n 0 15,
 c 15 16 [0],
 a 3 16 17 [1],
 l 17 18 [2],
 L 3 4 19 [],
 o (.lookup [(.int .i64),(.int .i64),(.int .i64)] true (.agg [(.v (.int .i64 0)),(.v (.int .i64 0)),(.v (.int .i64 0)),(.v (.int .i64 0)),.aF]) true (t 18) (t 19)) 20 [3,4],
 m 20 14 [5],
 e 0 14 21 [6],
 e 1 14 22 [6],
 o (.alloc [V 0,V 0,V 0,V 0,.aF]) 5 [],
 S 5 5 21 [9,7,0,1,2,3,4,5,6,7,9],
 m 22 6 (k [8,10] 10)]
def DI:ah:=[
 a 3 3 23 [],
 l 23 24 [0],
 C .lss 24 1099511627776 25 [1],
 m 25 26 [2],
 w 6 27 26 true [3],
 K 27 28 26 true [4,3],
 w 28 29 26 true [5,3,3],
 u 3 3 30 29 false [6],
 v 30 31 29 false [7,6],
 u 3 5 32 29 false [6],
 v 32 33 29 false [9,6],
 D .lss 31 33 34 29 false [8,10,6],
 g (.pick (t 29) (.eD (.v (.bool true))) (t 34)) 35 26 true [6,11,3],
 q 26 35 36 [3,12]]
def zJ:ah:=[
 n 0 37,
 c 37 38 [0],
 a 3 38 39 [1],
 l 39 40 [2],
 L 3 4 41 [],
 L 5 3 42 [],
 s (.mapUpd [(.int .i64),(.int .i64),(.int .i64)] true (t 40) (t 41) (t 42)) (k [3,4,5] 5)]
def d48:DC:=(j (y zH) (j (y zI) (j (Y xD) (j (y DI) (.cond (.tmp 36) (Y zJ) .skip)))))
def qJ:List cV:=[]
def Yu [bh]:av Tryd.prog 83 43 d48 qJ:=av.of Tryd.f83 (by kernel_rfl)
def zK:ah:=[
 Z 2]
def xF:ah:=[
 n 0 3,
 o (.isNil 0 false (t 3)) 4 [0]]
def DJ:ah:=[
 Z 2]
def xG:ah:=[
 o (.bslice 0 2 [] []) 5 [],
 n 0 6,
 o (.append 68 2 16 (t 5) (t 6)) 7 [0,1],
 m 7 2 [2,2,0,1,2]]
def d49:DC:=(j (y zK) (j (j (y xF) (.cond (.tmp 4) (j (y DJ) .ret) .skip)) (j (y xG) .ret)))
def ajU:List cV:=[.iZ 2]
def Yv [bh]:av Tryd.prog 84 8 d49 ajU:=av.of Tryd.f84 (by kernel_rfl)
def DK:ah:=[
 F 4]
def DL:ah:=[
 n 0 6,
 c 6 7 [0],
 a 0 7 8 [1],
 a 0 8 9 [2],
 l 9 10 [3],
 m 10 5 (k [4] 4)]
def zL:ah:=[
 n 1 11,
 C .add 11 1 12 [0],
 n 5 13,
 N 13 14 [2],
 b .lss 12 14 15 [1,3],
 m 15 16 [4],
 w 0 17 16 true [5],
 g (.nilCheck (t 17)) 18 16 true [6,5],
 u 0 18 19 16 true [7,5],
 u 2 19 20 16 true [8,5],
 v 20 21 16 true [9,5],
 E .gtr 21 0 22 16 true [10,5],
 q 16 22 23 [5,11],
 m 23 24 [12,5],
 w 5 25 24 true [13],
 w 1 26 24 true [13],
 g (.idxAddr 3 (t 25) (t 26)) 27 24 true [14,15,13],
 u 0 27 28 24 true [16,13],
 v 28 29 24 true [17,13],
 E .geq 29 0 30 24 true [18,13],
 q 24 30 31 [13,19],
 m 31 32 [20,13],
 w 5 33 32 true [21],
 w 1 34 32 true [21],
 E .add 34 1 35 32 true [23,21],
 g (.idxAddr 3 (t 33) (t 35)) 36 32 true [22,24,21],
 u 0 36 37 32 true [25,21],
 v 37 38 32 true [26,21],
 E .geq 38 0 39 32 true [27,21],
 q 32 39 40 [21,28],
 m 40 4 (k [29,21] 29)]
def d50:DC:=(j (y DK) (j (y DL) (j (y zL) .ret)))
def abT:List cV:=[.iZ 4]
def c50 [bh]:av Tryd.prog 85 41 d50 abT:=av.of Tryd.f85 (by kernel_rfl)
def Zs:ah:=[
 Z 4]
def Zt:ah:=[
 n 1 9,
 C .lss 9 0 10 [0]]
def afm:ah:=[
 o (.fail) 11 [],
 s (.fail) [0]]
def Zu:ah:=[
 n 0 13,
 N 13 14 [0],
 o (.conv .u64 (t 14)) 15 [1],
 n 1 16,
 o (.conv .u64 (t 16)) 17 [3],
 o (.call 81 [(t 15),(t 17)]) 18 [2,4],
 m 18 12 [5],
 e 0 12 19 [6],
 e 1 12 20 [6],
 m 19 5 (k [7,5] 7),
 m 20 6 (k [8,9] 9)]
def Zv:ah:=[
 n 5 21,
 o (.bin .gtr (t 21) (.eD (.v (.int .u64 0)))) 22 [0],
 m 22 23 [1],
 w 6 24 23 false [2],
 g (.bin .gtr (t 24) (.eD (.v (.int .u64 9223372036854775807)))) 25 23 false [3,2],
 p 23 25 26 [2,4]]
def afn:ah:=[
 o (.fail) 27 [],
 s (.fail) [0]]
def Zw:ah:=[
 n 6 28,
 o (.conv .i64 (t 28)) 29 [0],
 o (.mkSlice 3 1 8 [(.int .i64 0)] (t 29)) 30 [1,1],
 m 30 7 [2,0,1,2]]
def Zx:ah:=[
 n 7 31,
 n 0 32,
 o (.copy 1 (t 31) (t 32)) 33 [0,1],
 m 33 8 [2,2,0,1,2]]
def Zy:ah:=[
 n 8 34,
 n 7 35,
 N 35 36 [1],
 b .lss 34 36 37 [0,2]]
def Zz:ah:=[
 n 8 38,
 n 7 39,
 n 8 40,
 o (.slice 1 (t 39) (some (t 40)) none) 41 [1,2],
 n 7 42,
 n 8 43,
 o (.slice 1 (t 42) none (some (t 43))) 44 [4,5],
 o (.copy 1 (t 41) (t 44)) 45 [3,6],
 b .add 38 45 46 [0,7],
 m 46 8 (k [8,7] 8)]
def RH:ah:=[
 n 7 47,
 m 47 4 [0,0]]
def d29:DC:=(j (y Zs) (j (j (y Zt) (.cond (.tmp 10) (y afm) .skip)) (j (y Zu) (j (j (y Zv) (.cond (.tmp 26) (y afn) .skip)) (j (y Zw) (j (y Zx) (j (.block 0 (.loop (j (j (y Zy) (.cond (.tmp 37) .skip (.exit 0))) (.block 1 (Y Zz))))) (j (y RH) .ret))))))))
def c29 [bh]:av Tryd.prog 54 48 d29 (ci 4):=av.of Tryd.f54 (by kernel_rfl)
def D6:ah:=[
 B 0 2,
 B 1 3,
 I 0 4]
def D7:ah:=[
 a 0 2 5 [],
 l 5 6 [0],
 a 0 3 7 [],
 l 7 8 [2],
 o (.call 89 [(t 6),(t 8)]) 9 [1,3],
 a 1 2 10 [],
 l 10 11 [5],
 a 1 3 12 [],
 l 12 13 [7],
 o (.call 89 [(t 11),(t 13)]) 14 [6,8,4],
 a 2 2 15 [],
 l 15 16 [10],
 a 2 3 17 [],
 l 17 18 [12],
 o (.call 89 [(t 16),(t 18)]) 19 [11,13,9],
 o (.bslice 3 1 [V 0,V 0,V 0] [(0,1,(t 9)),(1,1,(t 14)),(2,1,(t 19))]) 20 [4,9,14],
 o (.call 88 [(t 20)]) 21 [15,14],
 m 21 4 (k [16,16] 16)]
def d33:DC:=(j (y D6) (j (Y D7) .ret))
def ajX:List cV:=[.iZ 4]
def c33 [bh]:av Tryd.prog 58 22 d33 ajX:=av.of Tryd.f58 (by kernel_rfl)
def ZA:ah:=[
 I 0 2]
def ZB:ah:=[
 I 0 3]
def ZC:ah:=[
 n 0 6,
 N 6 7 [0],
 I 0 8]
def ZD:ah:=[
 b .lss 8 7 9 []]
def ZE:ah:=[
 x 1 6 8 10 [],
 l 10 11 [0],
 m 11 5 [1,0,1]]
def ZF:ah:=[
 n 5 12,
 n 3 13,
 b .neq 12 13 14 [0,1]]
def ZG:ah:=[
 n 5 15,
 m 15 2 [0,0]]
def ZH:ah:=[
 C .add 8 1 16 [],
 m 16 8 [0]]
def ZI:ah:=[
 n 3 17,
 m 17 2 [0,0]]
def d53:DC:=(j (y ZA) (j (y ZB) (j (j (y ZC) (.block 0 (.loop (j (y ZD) (j (.cond (.tmp 9) .skip (.exit 0)) (j (.block 1 (j (y ZE) (j (y ZF) (.cond (.tmp 14) (j (y ZG) .ret) .skip)))) (y ZH))))))) (j (y ZI) .ret))))
def c53 [bh]:av Tryd.prog 88 18 d53 (ci 2):=av.of Tryd.f88 (by kernel_rfl)
def ZJ:ah:=[
 I 0 4]
def ZK:ah:=[
 n 0 7,
 o (.call 109 [(t 7)]) 8 [0],
 m 8 5 [1,1,0,1]]
def ZL:ah:=[
 n 1 9,
 o (.call 109 [(t 9)]) 10 [0],
 m 10 6 [1,1,0,1]]
def ZM:ah:=[
 n 5 11]
def afo:ah:=[
 n 6 12]
def afp:ah:=[
 I 0 4]
def afq:ah:=[
 I (-1) 4]
def ZN:ah:=[
 n 6 13]
def afr:ah:=[
 I 1 4]
def ZO:ah:=[
 n 0 14,
 n 1 15,
 b .lss 14 15 16 [0,1]]
def RI:ah:=[
 I (-1) 4]
def RJ:ah:=[
 n 0 17,
 n 1 18,
 b .gtr 17 18 19 [0,1]]
def RK:ah:=[
 I 1 4]
def RL:ah:=[
 I 0 4]
def d54:DC:=(j (y ZJ) (j (y ZK) (j (y ZL) (j (j (y ZM) (.cond (.tmp 11) (j (j (y afo) (.cond (.tmp 12) (j (y afp) .ret) .skip)) (j (y afq) .ret)) .skip)) (j (j (y ZN) (.cond (.tmp 13) (j (y afr) .ret) .skip)) (j (j (y ZO) (.cond (.tmp 16) (j (y RI) .ret) .skip)) (j (j (y RJ) (.cond (.tmp 19) (j (y RK) .ret) .skip)) (j (y RL) .ret))))))))
def c54 [bh]:av Tryd.prog 89 20 d54 (ci 4):=av.of Tryd.f89 (by kernel_rfl)
def ZP:ah:=[
 F 2]
def ZQ:ah:=[
 n 0 3,
 n 0 4,
 b .neq 3 4 5 [0,1],
 m 5 2 [2,0,1,2]]
def d71:DC:=(j (y ZP) (j (y ZQ) .ret))
def c71 [bh]:av Tryd.prog 109 6 d71 (ci 2):=av.of Tryd.f109 (by kernel_rfl)
def DB:ah:=[
 o (.jS (.eD (.v (.int .u64 0)))) 4 [],
 o (.jS (.eD (.v (.int .u64 0)))) 5 [0]]
def Ir:ah:=[
 n 0 11,
 o (.conv .u32 (t 11)) 12 [0],
 n 1 13,
 o (.conv .u32 (t 13)) 14 [2],
 o (.call 97 [(t 12),(t 14)]) 15 [1,3],
 m 15 10 [4],
 e 0 10 16 [5],
 e 1 10 17 [5],
 m 16 6 (k [6,4] 6),
 m 17 7 (k [7,8] 8)]
def afs:ah:=[
 n 6 18,
 o (.conv .u64 (t 18)) 19 [0],
 n 7 20,
 o (.conv .u64 (t 20)) 21 [2],
 m 19 4 [1,0,1],
 m 21 5 (k [3,4] 4)]
def ZR:ah:=[
 n 0 23,
 n 1 24,
 o (.call 98 [(t 23),(t 24)]) 25 [0,1],
 m 25 22 [2],
 e 0 22 26 [3],
 e 1 22 27 [3],
 m 26 8 (k [4,2] 4),
 m 27 9 (k [5,6] 6)]
def ZS:ah:=[
 n 8 28,
 n 9 29,
 m 28 4 [0,0],
 m 29 5 [1,2,0,1,2]]
def d46:DC:=(j (y DB) (j (.cond (.eD (.v (.bool false))) (j (y Ir) (j (y afs) .ret)) .skip) (j (y ZR) (j (y ZS) .ret))))
def xC:List cV:=[.iZ 4,.iZ 5]
def c46 [bh]:av Tryd.prog 81 30 d46 xC:=av.of Tryd.f81 (by kernel_rfl)
def ZT:ah:=[
 o (.jS (.eD (.v (.int .u64 0)))) 4 [],
 o (.jS (.eD (.v (.int .u64 0)))) 5 [0]]
def ZU:ah:=[
 n 0 14,
 o (.bin .and (t 14) (.eD (.v (.int .u64 4294967295)))) 15 [0],
 m 15 6 [1,0,1]]
def ZV:ah:=[
 n 0 16,
 o (.bin .shr (t 16) (.eD (.v (.int .u64 32)))) 17 [0],
 m 17 7 [1,0,1]]
def ZW:ah:=[
 n 1 18,
 o (.bin .and (t 18) (.eD (.v (.int .u64 4294967295)))) 19 [0],
 m 19 8 [1,0,1]]
def ZX:ah:=[
 n 1 20,
 o (.bin .shr (t 20) (.eD (.v (.int .u64 32)))) 21 [0],
 m 21 9 [1,0,1]]
def ZY:ah:=[
 n 6 22,
 n 8 23,
 b .mul 22 23 24 [0,1],
 m 24 10 [2,0,1,2]]
def ZZ:ah:=[
 n 7 25,
 n 8 26,
 b .mul 25 26 27 [0,1],
 n 10 28,
 o (.bin .shr (t 28) (.eD (.v (.int .u64 32)))) 29 [3],
 b .add 27 29 30 [2,4],
 m 30 11 (k [5] 5)]
def Z0:ah:=[
 n 11 31,
 o (.bin .and (t 31) (.eD (.v (.int .u64 4294967295)))) 32 [0],
 m 32 12 [1,0,1]]
def Z1:ah:=[
 n 11 33,
 o (.bin .shr (t 33) (.eD (.v (.int .u64 32)))) 34 [0],
 m 34 13 [1,0,1]]
def Z2:ah:=[
 n 12 35,
 n 6 36,
 n 9 37,
 b .mul 36 37 38 [1,2],
 b .add 35 38 39 [0,3],
 m 39 12 (k [4] 4)]
def RM:ah:=[
 n 7 40,
 n 9 41,
 b .mul 40 41 42 [0,1],
 n 13 43,
 b .add 42 43 44 [2,3],
 n 12 45,
 o (.bin .shr (t 45) (.eD (.v (.int .u64 32)))) 46 [5],
 b .add 44 46 47 [4,6],
 m 47 4 (k [7] 7)]
def RN:ah:=[
 n 0 48,
 n 1 49,
 b .mul 48 49 50 [0,1],
 m 50 5 [2,0,1,2]]
def d60:DC:=(j (y ZT) (j (y ZU) (j (y ZV) (j (y ZW) (j (y ZX) (j (y ZY) (j (y ZZ) (j (y Z0) (j (y Z1) (j (y Z2) (j (y RM) (j (y RN) .ret))))))))))))
def RP:List cV:=[.iZ 4,.iZ 5]
def c60 [bh]:av Tryd.prog 98 51 d60 RP:=av.of Tryd.f98 (by kernel_rfl)
def follows:Tryd.prog.follows .mixedOrders=true:=by kernel_rfl
abbrev fw:=follows
def Z3:ah:=[
 B 0 2,
 F 4]
def uN:ah:=[
 n 1 6,
 C .lss 6 0 7 [0],
 m 7 8 [1],
 u 0 2 9 8 false [2],
 v 9 10 8 false [3,2],
 H 10 11 8 false [4,2],
 E .gtr 11 60 12 8 false [5,2],
 p 8 12 13 [2,6],
 m 13 14 [7,2],
 u 1 2 15 14 false [8],
 v 15 16 14 false [9,8],
 H 16 17 14 false [10,8],
 w 1 18 14 false [8],
 D .neq 17 18 19 14 false [11,12,8],
 p 14 19 20 [8,13],
 m 20 21 [14,8],
 u 2 2 22 21 false [15],
 v 22 23 21 false [16,15],
 E .lss 23 0 24 21 false [17,15],
 p 21 24 25 [15,18],
 m 25 26 [19,15],
 u 2 2 27 26 false [20],
 v 27 28 26 false [21,20],
 E .gtr 28 60000 29 26 false [22,20],
 p 26 29 30 [20,23],
 m 30 31 [24,20],
 u 0 2 32 31 false [25],
 v 32 33 31 false [26,25],
 w 1 34 31 false [25],
 g (.call 76 [(t 33),(t 34)]) 35 31 false [27,28,25,25],
 K 35 36 31 false [29,25],
 p 31 36 37 [25,30]]
def Z4:ah:=[
 F 4]
def Z5:ah:=[
 I 0 5]
def Z6:ah:=[
 n 5 38,
 n 1 39,
 b .lss 38 39 40 [0,1]]
def RQ:ah:=[
 a 1 2 43 [],
 l 43 44 [0],
 n 5 45,
 x 1 44 45 46 [1,2],
 l 46 47 [3],
 C .lss 47 1 48 [4],
 m 48 49 [5],
 u 1 2 50 49 false [6],
 v 50 51 49 false [7,6],
 w 5 52 49 false [6],
 g (.idxAddr 1 (t 51) (t 52)) 53 49 false [8,9,6],
 v 53 54 49 false [10,6],
 E .gtr 54 60000 55 49 false [11,6],
 p 49 55 56 [6,12]]
def Z7:ah:=[
 F 4]
def Z8:ah:=[
 n 5 41,
 C .add 41 1 42 [0],
 m 42 5 [1,0,1]]
def Z9:ah:=[
 R 4]
def d28:DC:=(j (y Z3) (j (j (y uN) (.cond (.tmp 37) (j (y Z4) .ret) .skip)) (j (j (y Z5) (.block 0 (.loop (j (j (y Z6) (.cond (.tmp 40) .skip (.exit 0))) (j (.block 1 (j (y RQ) (.cond (.tmp 56) (j (y Z7) .ret) .skip))) (y Z8)))))) (j (y Z9) .ret))))
def c28 [bh]:av Tryd.prog 45 57 d28 (ci 4):=av.of Tryd.f45 (by kernel_rfl)
def Dj:ah:=[
 F 4]
def xq:ah:=[
 I 0 5]
def Dk:ah:=[
 n 5 6,
 n 0 7,
 N 7 8 [1],
 b .lss 6 8 9 [0,2]]
def Dl:ah:=[
 n 0 12,
 n 5 13,
 x 3 12 13 14 [0,1],
 L 3 14 15 [2],
 n 1 16,
 o (.call 95 [(t 15),(t 16)]) 17 [3,4],
 U 17 18 [5]]
def Dm:ah:=[
 F 4]
def aaa:ah:=[
 n 5 10,
 C .add 10 1 11 [0],
 m 11 5 [1,0,1]]
def aab:ah:=[
 R 4]
def d45:DC:=(j (y Dj) (j (j (y xq) (.block 0 (.loop (j (j (y Dk) (.cond (.tmp 9) .skip (.exit 0))) (j (.block 1 (j (y Dl) (.cond (.tmp 18) (j (y Dm) .ret) .skip))) (y aaa)))))) (j (y aab) .ret)))
def c45 [bh]:av Tryd.prog 76 19 d45 (ci 4):=av.of Tryd.f76 (by kernel_rfl)
def aac:ah:=[
 B 0 2,
 F 4]
def uO:ah:=[
 a 0 2 7 [],
 l 7 8 [0],
 C .lss 8 (-1) 9 [1],
 m 9 10 [2],
 u 0 2 11 10 false [3],
 v 11 12 10 false [4,3],
 w 1 13 10 false [3],
 D .geq 12 13 14 10 false [5,6,3],
 p 10 14 15 [3,7],
 m 15 16 [8,3],
 u 1 2 17 16 false [9],
 v 17 18 16 false [10,9],
 H 18 19 16 false [11,9],
 w 1 20 16 false [9],
 D .neq 19 20 21 16 false [12,13,9],
 p 16 21 22 [9,14],
 m 22 23 [15,9],
 u 2 2 24 23 false [16],
 v 24 25 23 false [17,16],
 E .lss 25 1 26 23 false [18,16],
 p 23 26 27 [16,19],
 m 27 28 [20,16],
 u 2 2 29 28 false [21],
 v 29 30 28 false [22,21],
 E .gtr 30 60000 31 28 false [23,21],
 w 31 32 28 false [24,21,21],
 u 2 2 33 32 true [25],
 v 33 34 32 true [26,25],
 E .neq 34 1099511627776 35 32 true [27,25],
 g (.pick (t 32) (t 35) (.eD (.v (.bool false)))) 36 28 false [25,28,21],
 p 28 36 37 [21,29]]
def aad:ah:=[
 F 4]
def aae:ah:=[
 I 0 5]
def aaf:ah:=[
 n 5 38,
 n 1 39,
 b .lss 38 39 40 [0,1]]
def aag:ah:=[
 a 1 2 43 [],
 l 43 44 [0],
 n 5 45,
 x 1 44 45 46 [1,2],
 l 46 47 [3],
 m 47 6 (k [4] 4)]
def xT:ah:=[
 n 5 48,
 a 0 2 49 [],
 l 49 50 [1],
 b .eql 48 50 51 [0,2],
 m 51 52 [3],
 w 6 53 52 true [4],
 E .neq 53 0 54 52 true [5,4],
 q 52 54 55 [4,6],
 m 55 56 [7,4],
 w 5 57 56 false [8],
 u 0 2 58 56 false [8],
 v 58 59 56 false [10,8],
 D .neq 57 59 60 56 false [9,11,8],
 w 60 61 56 false [12,8,8],
 w 6 62 61 true [13],
 E .neq 62 (-1) 63 61 true [14,13],
 g (.pick (t 61) (t 63) (.eD (.v (.bool false)))) 64 56 false [13,15,8],
 w 64 65 56 false [16,13,8],
 w 6 66 65 true [17],
 E .lss 66 1 67 65 true [18,17],
 w 67 68 65 true [19,17,17],
 w 6 69 68 false [20],
 E .gtr 69 60000 70 68 false [21,20],
 g (.pick (t 68) (.eD (.v (.bool true))) (t 70)) 71 65 true [20,22,17],
 g (.pick (t 65) (t 71) (.eD (.v (.bool false)))) 72 56 false [17,23,8],
 p 56 72 73 [8,24]]
def aah:ah:=[
 F 4]
def aai:ah:=[
 n 5 41,
 C .add 41 1 42 [0],
 m 42 5 [1,0,1]]
def aaj:ah:=[
 R 4]
def d58:DC:=(j (y aac) (j (j (y uO) (.cond (.tmp 37) (j (y aad) .ret) .skip)) (j (j (y aae) (.block 0 (.loop (j (j (y aaf) (.cond (.tmp 40) .skip (.exit 0))) (j (.block 1 (j (y aag) (j (y xT) (.cond (.tmp 73) (j (y aah) .ret) .skip)))) (y aai)))))) (j (y aaj) .ret))))
def c58 [bh]:av Tryd.prog 95 74 d58 (ci 4):=av.of Tryd.f95 (by kernel_rfl)
def apr:ah:=[
 B 0 2,
 B 1 3,
 F 4]
def aps:ah:=[
 a 0 2 5 [],
 l 5 6 [0],
 a 0 3 7 [],
 l 7 8 [2],
 b .neq 6 8 9 [1,3]]
def amX:ah:=[
 a 0 2 10 [],
 l 10 11 [0],
 a 0 3 12 [],
 l 12 13 [2],
 b .lss 11 13 14 [1,3],
 m 14 4 (k [4] 4)]
def amY:ah:=[
 a 1 2 15 [],
 l 15 16 [0],
 a 1 3 17 [],
 l 17 18 [2],
 b .neq 16 18 19 [1,3]]
def aso:ah:=[
 a 1 2 20 [],
 l 20 21 [0],
 a 1 3 22 [],
 l 22 23 [2],
 b .lss 21 23 24 [1,3],
 m 24 4 (k [4] 4)]
def asp:ah:=[
 a 2 2 25 [],
 l 25 26 [0],
 a 2 3 27 [],
 l 27 28 [2],
 b .lss 26 28 29 [1,3],
 m 29 4 (k [4] 4)]
def d39:DC:=(j (y apr) (j (j (y aps) (.cond (.tmp 9) (j (y amX) .ret) .skip)) (j (j (y amY) (.cond (.tmp 19) (j (y aso) .ret) .skip)) (j (y asp) .ret))))
def c39 [bh]:av Tryd.prog 71 30 d39 (ci 4):=av.of Tryd.f71 (by kernel_rfl)
def DA:ah:=[
 I 0 4]
def uK:ah:=[
 n 0 5,
 C .geq 5 1099511627776 6 [0],
 m 6 7 [1],
 w 1 8 7 false [2],
 E .geq 8 1099511627776 9 7 false [3,2],
 p 7 9 10 [2,4],
 m 10 11 [5,2],
 w 0 12 11 false [6],
 w 1 13 11 false [6],
 D .add 12 13 14 11 false [7,8,6],
 E .geq 14 1099511627776 15 11 false [9,6],
 p 11 15 16 [6,10]]
def asq:ah:=[
 I 1099511627776 4]
def asr:ah:=[
 n 0 17,
 n 1 18,
 b .add 17 18 19 [0,1],
 m 19 4 [2,0,1,2]]
def d36:DC:=(j (y DA) (j (j (y uK) (.cond (.tmp 16) (j (y asq) .ret) .skip)) (j (y asr) .ret)))
def c36 [bh]:av Tryd.prog 39 20 d36 (ci 4):=av.of Tryd.f39 (by kernel_rfl)
def ass:ah:=[
 B 0 1,
 o (.alloc [V 0,.aF,.aF]) 2 []]
def ast:ah:=[
 a 0 1 15 [],
 l 15 16 [0],
 N 16 17 [1],
 m 17 3 [2,0,1,2]]
def asu:ah:=[
 Z 4]
def asv:ah:=[
 I 0 5]
def asw:ah:=[
 n 5 18,
 n 3 19,
 b .leq 18 19 20 [0,1]]
def asx:ah:=[
 n 5 23,
 m 23 6 [0,0]]
def asy:ah:=[
 n 6 24,
 n 3 25,
 b .leq 24 25 26 [0,1]]
def asz:ah:=[
 L 3 1 29 [],
 n 5 30,
 n 6 31,
 o (.call 37 [(t 29),(t 30),(t 31)]) 32 [0,1,2],
 m 32 7 [3,3,0,1,2,3]]
def asA:ah:=[
 I 0 8]
def asB:ah:=[
 n 8 33,
 a 1 1 34 [],
 l 34 35 [1],
 N 35 36 [2],
 b .lss 33 36 37 [0,3]]
def apk:ah:=[
 n 6 40,
 n 3 41,
 b .lss 40 41 42 [0,1],
 m 42 43 [2],
 u 0 1 44 43 true [3],
 v 44 45 43 true [4,3],
 w 6 46 43 true [3],
 g (.idxAddr 3 (t 45) (t 46)) 47 43 true [5,6,3],
 u 1 47 48 43 true [7,3],
 v 48 49 43 true [8,3],
 w 8 50 43 true [3],
 g (.idxAddr 1 (t 49) (t 50)) 51 43 true [9,10,3],
 v 51 52 43 true [11,3],
 E .geq 52 0 53 43 true [12,3],
 q 43 53 54 [3,13]]
def alq:ah:=[
 n 4 55,
 n 5 56,
 o (.bin .mul (i 2) (t 56)) 57 [1],
 n 6 58,
 o (.bin .mul (i 2) (t 58)) 59 [3],
 C .add 59 2 60 [4],
 n 8 61,
 n 7 62,
 a 0 1 63 [],
 l 63 64 [8],
 n 6 65,
 x 3 64 65 66 [9,10],
 a 1 66 67 [11],
 l 67 68 [12],
 n 8 69,
 x 1 68 69 70 [13,14],
 l 70 71 [15],
 o (.call 39 [(t 62),(t 71)]) 72 [7,16],
 n 6 73,
 n 5 74,
 b .sub 73 74 75 [18,19],
 n 8 76,
 o (.build [V 0,V 0] [(0,1,(i 1)),(1,1,(t 76))]) 77 [21],
 o (.call 40 [(t 75),(t 77)]) 78 [20,22,17],
 o (.build [V 0,V 0,V 0,V 0,.aF] [(0,1,(t 57)),(1,1,(t 60)),(2,1,(t 61)),(3,1,(t 72)),(4,1,(t 78))]) 79 [2,5,6,17,23],
 o (.call 38 [(t 55),(t 79)]) 80 [0,24,23],
 m 80 4 (k [25,25] 25)]
def alr:ah:=[
 n 8 38,
 C .add 38 1 39 [0],
 m 39 8 [1,0,1]]
def als:ah:=[
 L 3 1 81 [],
 n 6 82,
 o (.call 41 [(t 81),(t 82)]) 83 [0,1]]
def alu:ah:=[
 n 4 84,
 n 5 85,
 o (.bin .mul (i 2) (t 85)) 86 [1],
 n 6 87,
 o (.bin .mul (i 2) (t 87)) 88 [3],
 C .add 88 1 89 [4],
 a 0 1 90 [],
 l 90 91 [6],
 n 6 92,
 C .add 92 1 93 [8],
 x 3 91 93 94 [7,9],
 a 0 94 95 [10],
 l 95 96 [11],
 n 7 97,
 a 2 1 98 [],
 l 98 99 [14],
 o (.call 39 [(t 97),(t 99)]) 100 [13,15],
 n 6 101,
 n 5 102,
 b .sub 101 102 103 [17,18],
 o (.build [V 0,V 0] [(0,1,(i 4))]) 104 [],
 o (.call 40 [(t 103),(t 104)]) 105 [19,20,16],
 o (.build [V 0,V 0,V 0,V 0,.aF] [(0,1,(t 86)),(1,1,(t 89)),(2,1,(t 96)),(3,1,(t 100)),(4,1,(t 105))]) 106 [2,5,12,16,21],
 o (.call 38 [(t 84),(t 106)]) 107 [0,22,21],
 m 107 4 (k [23,23] 23)]
def alv:ah:=[
 n 6 27,
 C .add 27 1 28 [0],
 m 28 6 [1,0,1]]
def alw:ah:=[
 L 3 1 108 [],
 n 5 109,
 o (.call 41 [(t 108),(t 109)]) 110 [0,1]]
def alx:ah:=[
 n 4 111,
 n 5 112,
 o (.bin .mul (i 2) (t 112)) 113 [1],
 C .add 113 1 114 [2],
 n 5 115,
 o (.bin .mul (i 2) (t 115)) 116 [4],
 C .add 116 4 117 [5],
 a 0 1 118 [],
 l 118 119 [7],
 n 5 120,
 x 3 119 120 121 [8,9],
 a 0 121 122 [10],
 l 122 123 [11],
 o (.build [V 0,V 0,V 0,V 0,.aF] [(0,1,(t 114)),(1,1,(t 117)),(2,1,(t 123))]) 124 [3,6,12],
 o (.call 38 [(t 111),(t 124)]) 125 [0,13],
 m 125 4 (k [14,14] 14)]
def alA:ah:=[
 n 5 21,
 C .add 21 1 22 [0],
 m 22 5 [1,0,1]]
def alB:ah:=[
 I 0 9]
def alC:ah:=[
 n 9 126,
 n 3 127,
 b .leq 126 127 128 [0,1]]
def alD:ah:=[
 n 9 131,
 m 131 10 [0,0]]
def alE:ah:=[
 n 10 132,
 n 3 133,
 b .leq 132 133 134 [0,1]]
def alF:ah:=[
 I 0 11]
def alG:ah:=[
 n 11 137,
 a 1 1 138 [],
 l 138 139 [1],
 N 139 140 [2],
 b .lss 137 140 141 [0,3]]
def alH:ah:=[
 n 4 144,
 n 9 145,
 o (.bin .mul (i 2) (t 145)) 146 [1],
 n 10 147,
 o (.bin .mul (i 2) (t 147)) 148 [3],
 n 11 149,
 L 3 1 150 [],
 n 9 151,
 n 10 152,
 o (.call 37 [(t 150),(t 151),(t 152)]) 153 [6,7,8],
 a 1 1 154 [],
 l 154 155 [10],
 n 11 156,
 x 1 155 156 157 [11,12],
 l 157 158 [13],
 o (.call 39 [(t 153),(t 158)]) 159 [9,14,9],
 n 10 160,
 n 9 161,
 b .sub 160 161 162 [16,17],
 n 11 163,
 o (.build [V 0,V 0] [(0,1,(i 3)),(1,1,(t 163))]) 164 [19],
 o (.call 40 [(t 162),(t 164)]) 165 [18,20,15],
 o (.build [V 0,V 0,V 0,V 0,.aF] [(0,1,(t 146)),(1,1,(t 148)),(2,1,(t 149)),(3,1,(t 159)),(4,1,(t 165))]) 166 [2,4,5,15,21],
 o (.call 38 [(t 144),(t 166)]) 167 [0,22,21],
 m 167 4 (k [23,23] 23)]
def alI:ah:=[
 n 11 142,
 C .add 142 1 143 [0],
 m 143 11 [1,0,1]]
def alJ:ah:=[
 n 10 135,
 C .add 135 1 136 [0],
 m 136 10 [1,0,1]]
def alK:ah:=[
 n 9 129,
 C .add 129 1 130 [0],
 m 130 9 [1,0,1]]
def alL:ah:=[
 n 3 168,
 o (.bin .mul (i 2) (t 168)) 169 [0],
 C .add 169 1 170 [1],
 n 4 171,
 o (.build [V 0,.aF,.aF] [(0,1,(t 170)),(1,1,(t 171))]) 172 [2,3],
 o (.alloc [V 0,.aF,.aF]) 12 [],
 S 3 12 172 (k [5,4] 5)]
def alM:ah:=[
 n 3 173,
 o (.bin .mul (i 2) (t 173)) 174 [0],
 C .add 174 1 175 [1],
 o (.mkSlice 3 1 8 [(.int .i64 0)] (t 175)) 176 [2,2],
 m 176 13 [3,0,1,2,3]]
def alN:ah:=[
 I 0 14]
def alO:ah:=[
 n 14 177,
 n 13 178,
 N 178 179 [1],
 b .lss 177 179 180 [0,2]]
def alP:ah:=[
 n 13 183,
 n 14 184,
 x 1 183 184 185 [0,1,0,1],
 s (.store 1 (t 185) (i 1099511627776)) [2,0,1]]
def alQ:ah:=[
 n 14 186,
 C .rem 186 2 187 [0],
 C .eql 187 0 188 [1]]
def alR:ah:=[
 n 13 189,
 n 14 190,
 L 3 1 191 [],
 n 14 192,
 C .quo 192 2 193 [3],
 n 3 194,
 o (.call 37 [(t 191),(t 193),(t 194)]) 195 [2,4,5],
 x 1 189 190 196 (k [0,1] 6),
 S 1 196 195 (k [7,6,6] 6)]
def alS:ah:=[
 n 14 181,
 C .add 181 1 182 [0],
 m 182 14 [1,0,1]]
def alT:ah:=[
 n 13 197,
 a 2 12 198 [0],
 S 1 198 197 [1,0,0]]
def alU:ah:=[
 L 3 12 199 [],
 S 3 2 199 [0,0]]
def d14:DC:=(j (y ass) (j (y ast) (j (y asu) (j (j (y asv) (.block 0 (.loop (j (j (y asw) (.cond (.tmp 20) .skip (.exit 0))) (j (.block 1 (j (j (y asx) (.block 2 (.loop (j (j (y asy) (.cond (.tmp 26) .skip (.exit 2))) (j (.block 3 (j (y asz) (j (j (y asA) (.block 4 (.loop (j (j (y asB) (.cond (.tmp 37) .skip (.exit 4))) (j (.block 5 (j (y apk) (.cond (.tmp 54) (y alq) .skip))) (y alr)))))) (j (y als) (.cond (.tmp 83) (Y alu) .skip))))) (y alv)))))) (j (y alw) (.cond (.tmp 110) (y alx) .skip)))) (y alA)))))) (j (j (y alB) (.block 6 (.loop (j (j (y alC) (.cond (.tmp 128) .skip (.exit 6))) (j (.block 7 (j (y alD) (.block 8 (.loop (j (j (y alE) (.cond (.tmp 134) .skip (.exit 8))) (j (.block 9 (j (y alF) (.block 10 (.loop (j (j (y alG) (.cond (.tmp 141) .skip (.exit 10))) (j (.block 11 (Y alH)) (y alI))))))) (y alJ))))))) (y alK)))))) (j (y alL) (j (y alM) (j (j (y alN) (.block 12 (.loop (j (j (y alO) (.cond (.tmp 180) .skip (.exit 12))) (j (.block 13 (j (y alP) (j (y alQ) (.cond (.tmp 188) (y alR) .skip)))) (y alS)))))) (j (y alT) (j (y alU) .ret))))))))))
def alV:List cV:=[.cell 2 3 true]
def c14 [bh]:av Tryd.prog 18 200 d14 alV:=av.of Tryd.f18 (by kernel_rfl)
def DN:ah:=[
 B 0 3,
 I 0 6]
def DO:ah:=[
 I 0 7]
def DP:ah:=[
 n 1 9,
 m 9 8 [0,0]]
def DQ:ah:=[
 n 8 10,
 n 2 11,
 b .lss 10 11 12 [0,1]]
def DR:ah:=[
 n 7 15,
 a 0 3 16 [],
 l 16 17 [1],
 n 8 18,
 x 3 17 18 19 [2,3],
 a 2 19 20 [4],
 l 20 21 [5],
 o (.call 39 [(t 15),(t 21)]) 22 [0,6],
 m 22 7 (k [7,7] 7)]
def asC:ah:=[
 n 8 13,
 C .add 13 1 14 [0],
 m 14 8 [1,0,1]]
def asD:ah:=[
 n 7 23,
 m 23 6 [0,0]]
def d34:DC:=(j (y DN) (j (y DO) (j (j (y DP) (.block 0 (.loop (j (j (y DQ) (.cond (.tmp 12) .skip (.exit 0))) (j (.block 1 (y DR)) (y asC)))))) (j (y asD) .ret))))
def aoW:List cV:=[.iZ 6]
def c34 [bh]:av Tryd.prog 37 24 d34 aoW:=av.of Tryd.f37 (by kernel_rfl)
def Iq:ah:=[
 B 1 3,
 Z 4]
def asE:ah:=[
 a 3 3 8 [],
 l 8 9 [0],
 C .geq 9 1099511627776 10 [1]]
def asF:ah:=[
 n 0 11,
 m 11 4 [0,0]]
def asG:ah:=[
 Z 5]
def asH:ah:=[
 F 6]
def asI:ah:=[
 I 0 7]
def asJ:ah:=[
 n 7 12,
 n 0 13,
 N 13 14 [1],
 b .lss 12 14 15 [0,2]]
def apb:ah:=[
 n 6 18,
 U 18 19 [0],
 m 19 20 [1],
 w 0 21 20 true [2],
 w 7 22 20 true [2],
 g (.idxAddr 5 (t 21) (t 22)) 23 20 true [3,4,2],
 u 0 23 24 20 true [5,2],
 v 24 25 20 true [6,2],
 u 0 3 26 20 true [2],
 v 26 27 20 true [8,2],
 D .eql 25 27 28 20 true [7,9,2],
 q 20 28 29 [2,10],
 m 29 30 [11,2],
 w 0 31 30 true [12],
 w 7 32 30 true [12],
 g (.idxAddr 5 (t 31) (t 32)) 33 30 true [13,14,12],
 u 1 33 34 30 true [15,12],
 v 34 35 30 true [16,12],
 u 1 3 36 30 true [12],
 v 36 37 30 true [18,12],
 D .eql 35 37 38 30 true [17,19,12],
 q 30 38 39 [12,20],
 m 39 40 [21,12],
 w 0 41 40 true [22],
 w 7 42 40 true [22],
 g (.idxAddr 5 (t 41) (t 42)) 43 40 true [23,24,22],
 u 2 43 44 40 true [25,22],
 v 44 45 40 true [26,22],
 u 2 3 46 40 true [22],
 v 46 47 40 true [28,22],
 D .eql 45 47 48 40 true [27,29,22],
 q 40 48 49 [22,30]]
def asK:ah:=[
 R 6]
def asL:ah:=[
 a 3 3 50 [],
 l 50 51 [0],
 n 0 52,
 n 7 53,
 x 5 52 53 54 [2,3],
 a 3 54 55 [4],
 l 55 56 [5],
 b .lss 51 56 57 [1,6]]
def alW:ah:=[
 n 5 58,
 L 5 3 59 [],
 o (.bslice 1 5 [V 0,V 0,V 0,V 0,.aF] [(0,5,(t 59))]) 60 [1],
 o (.append 97 5 56 (t 58) (t 60)) 61 [0,2],
 m 61 5 [3,3,0,1,2,3]]
def apl:ah:=[
 n 6 62,
 U 62 63 [0],
 m 63 64 [1],
 g (.load 5 true (t 3)) 65 64 true [2],
 w 0 66 64 true [2],
 w 7 67 64 true [2],
 g (.idxAddr 5 (t 66) (t 67)) 68 64 true [4,5,2],
 g (.load 5 true (t 68)) 69 64 true [6,2],
 g (.call 71 [(t 65),(t 69)]) 70 64 true [3,7,2,2],
 q 64 70 71 [2,8]]
def alX:ah:=[
 R 6]
def alY:ah:=[
 n 5 72,
 L 5 3 73 [],
 o (.bslice 1 5 [V 0,V 0,V 0,V 0,.aF] [(0,5,(t 73))]) 74 [1],
 o (.append 97 5 56 (t 72) (t 74)) 75 [0,2],
 m 75 5 [3,3,0,1,2,3]]
def aqh:ah:=[
 n 5 76,
 n 0 77,
 n 7 78,
 x 5 77 78 79 [1,2],
 L 5 79 80 [3],
 o (.bslice 1 5 [V 0,V 0,V 0,V 0,.aF] [(0,5,(t 80))]) 81 [4],
 o (.append 97 5 56 (t 76) (t 81)) 82 [0,5],
 m 82 5 (k [6,6] 6)]
def alZ:ah:=[
 n 7 16,
 C .add 16 1 17 [0],
 m 17 7 [1,0,1]]
def al0:ah:=[
 n 6 83,
 U 83 84 [0]]
def al4:ah:=[
 n 5 85,
 L 5 3 86 [],
 o (.bslice 1 5 [V 0,V 0,V 0,V 0,.aF] [(0,5,(t 86))]) 87 [1],
 o (.append 97 5 56 (t 85) (t 87)) 88 [0,2],
 m 88 5 [3,3,0,1,2,3]]
def al5:ah:=[
 n 5 89,
 m 89 4 [0,0]]
def d35:DC:=(j (y Iq) (j (j (y asE) (.cond (.tmp 10) (j (y asF) .ret) .skip)) (j (y asG) (j (y asH) (j (j (y asI) (.block 0 (.loop (j (j (y asJ) (.cond (.tmp 15) .skip (.exit 0))) (j (.block 1 (j (j (Y apb) (.cond (.tmp 49) (j (y asK) (j (Y asL) (.cond (.tmp 57) (j (y alW) (.exit 1)) .skip))) .skip)) (j (j (Y apl) (.cond (.tmp 71) (j (y alX) (y alY)) .skip)) (y aqh)))) (y alZ)))))) (j (j (y al0) (.cond (.tmp 84) (y al4) .skip)) (j (y al5) .ret)))))))
def acJ:List cV:=[.iZ 4]
def c35 [bh]:av Tryd.prog 38 90 d35 acJ:=av.of Tryd.f38 (by kernel_rfl)
def D8:ah:=[
 B 1 3,
 Z 4]
def D9:ah:=[
 Z 5]
def Ea:ah:=[
 I 0 6]
def asM:ah:=[
 n 6 7,
 n 0 8,
 b .lss 7 8 9 [0,1]]
def asN:ah:=[
 n 5 12,
 o (.build [V 0,V 0] [(0,1,(i 2))]) 13 [],
 o (.bslice 1 2 [V 0,V 0] [(0,2,(t 13))]) 14 [1],
 o (.append 68 2 16 (t 12) (t 14)) 15 [0,2],
 m 15 5 [3,3,0,1,2,3]]
def asO:ah:=[
 n 6 10,
 C .add 10 1 11 [0],
 m 11 6 [1,0,1]]
def asP:ah:=[
 n 5 16,
 L 2 3 17 [],
 o (.bslice 1 2 [V 0,V 0] [(0,2,(t 17))]) 18 [1],
 o (.append 68 2 16 (t 16) (t 18)) 19 [0,2],
 m 19 4 [3,3,0,1,2,3]]
def d37:DC:=(j (y D8) (j (y D9) (j (j (y Ea) (.block 0 (.loop (j (j (y asM) (.cond (.tmp 9) .skip (.exit 0))) (j (.block 1 (y asN)) (y asO)))))) (j (y asP) .ret))))
def aoY:List cV:=[.iZ 4]
def c37 [bh]:av Tryd.prog 40 20 d37 aoY:=av.of Tryd.f40 (by kernel_rfl)
def apq:ah:=[
 B 0 2,
 F 4]
def apa:ah:=[
 n 1 5,
 C .add 5 1 6 [0],
 a 0 2 7 [],
 l 7 8 [2],
 N 8 9 [3],
 b .lss 6 9 10 [1,4],
 m 10 11 [5],
 u 2 2 12 11 true [6],
 v 12 13 11 true [7,6],
 E .gtr 13 0 14 11 true [8,6],
 q 11 14 15 [6,9],
 m 15 16 [10,6],
 u 0 2 17 16 true [11],
 v 17 18 16 true [12,11],
 w 1 19 16 true [11],
 g (.idxAddr 3 (t 18) (t 19)) 20 16 true [13,14,11],
 u 0 20 21 16 true [15,11],
 v 21 22 16 true [16,11],
 E .geq 22 0 23 16 true [17,11],
 q 16 23 24 [11,18],
 m 24 25 [19,11],
 u 0 2 26 25 true [20],
 v 26 27 25 true [21,20],
 w 1 28 25 true [20],
 E .add 28 1 29 25 true [23,20],
 g (.idxAddr 3 (t 27) (t 29)) 30 25 true [22,24,20],
 u 0 30 31 25 true [25,20],
 v 31 32 25 true [26,20],
 E .geq 32 0 33 25 true [27,20],
 q 25 33 34 [20,28],
 m 34 4 (k [29,20] 29)]
def d38:DC:=(j (y apq) (j (y apa) .ret))
def aoX:List cV:=[.iZ 4]
def c38 [bh]:av Tryd.prog 41 35 d38 aoX:=av.of Tryd.f41 (by kernel_rfl)
def VY:ah:=[
 I 0 4]
def VZ:ah:=[
 n 0 5,
 n 1 6,
 b .add 5 6 7 [0,1],
 o (.minmax false (t 7) (i 1099511627776)) 8 [2],
 m 8 4 [3,0,1,2,3]]
def d57:DC:=(j (y VY) (j (y VZ) .ret))
def c57 [bh]:av Tryd.prog 143 9 d57 (ci 4):=av.of Tryd.f143 (by kernel_rfl)
def VX:ah:=[
 B 0 2,
 F 4]
def yQ:ah:=[
 a 2 2 5 [],
 l 5 6 [0],
 C .gtr 6 0 7 [1],
 m 7 8 [2],
 w 1 9 8 true [3],
 E .add 9 1 10 8 true [4,3],
 u 0 2 11 8 true [3],
 v 11 12 8 true [6,3],
 H 12 13 8 true [7,3],
 D .lss 10 13 14 8 true [5,8,3],
 q 8 14 15 [3,9],
 m 15 16 [10,3],
 u 0 2 17 16 true [11],
 v 17 18 16 true [12,11],
 w 1 19 16 true [11],
 g (.idxAddr 3 (t 18) (t 19)) 20 16 true [13,14,11],
 u 0 20 21 16 true [15,11],
 v 21 22 16 true [16,11],
 E .geq 22 0 23 16 true [17,11],
 q 16 23 24 [11,18],
 m 24 25 [19,11],
 u 0 2 26 25 true [20],
 v 26 27 25 true [21,20],
 w 1 28 25 true [20],
 E .add 28 1 29 25 true [23,20],
 g (.idxAddr 3 (t 27) (t 29)) 30 25 true [22,24,20],
 u 0 30 31 25 true [25,20],
 v 31 32 25 true [26,20],
 E .geq 32 0 33 25 true [27,20],
 q 25 33 34 [20,28],
 m 34 4 (k [29,20] 29)]
def d74:DC:=(j (y VX) (j (y yQ) .ret))
def c74 [bh]:av Tryd.prog 144 35 d74 (ci 4):=av.of Tryd.f144 (by kernel_rfl)
def MY:ah:=[
 n 0 5,
 c 5 6 [0],
 a 4 6 7 [1],
 l 7 8 [2],
 m 8 4 [3,0,1,2,3]]
def MZ:ah:=[
 n 0 9,
 n 4 10,
 n 1 11,
 o (.bslice 1 1 [V 0] [(0,1,(t 11))]) 12 [2],
 o (.append 3 1 8 (t 10) (t 12)) 13 [1,3],
 c 9 14 (k [0] 4),
 a 4 14 15 (k [5] 4),
 S 1 15 13 (k [6,4,4] 4)]
def aix:DC:=(j (y MY) (y MZ))
def Hx:List cV:=[]
def ahe [bh]:av Tryd.prog 136 16 aix Hx:=av.of Tryd.f136 (by kernel_rfl)
def M0:ah:=[
 o (.alloc [V 0,.aF,V 0]) 2 [],
 F 3]
def M1:ah:=[
 n 0 4,
 c 4 5 [0],
 a 3 5 6 [1],
 l 6 7 [2],
 n 0 8,
 c 8 9 [4],
 a 0 9 10 [5],
 a 0 10 11 [6],
 l 11 12 [7],
 N 12 13 [8],
 b .geq 7 13 14 [3,9]]
def acb:ah:=[
 o (.build [V 0,.aF,V 0] []) 15 [],
 S 3 2 15 [0,0],
 o (.jS (.eD (.v (.bool false)))) 3 [1,0,1]]
def M3:ah:=[
 n 0 16,
 c 16 17 [0],
 a 0 17 18 [1],
 a 0 18 19 [2],
 l 19 20 [3],
 n 0 21,
 c 21 22 [5],
 a 3 22 23 [6],
 l 23 24 [7],
 x 3 20 24 25 [4,8],
 L 3 25 26 [9],
 S 3 2 26 (k [10] 10),
 o (.jS (.eD (.v (.bool true)))) 3 (k [11] 11)]
def aiy:DC:=(j (y M0) (j (j (Y M1) (.cond (.tmp 14) (j (y acb) .ret) .skip)) (j (Y M3) .ret)))
def Hy:List cV:=[.cell 2 3 true,.iZ 3]
def ahg [bh]:av Tryd.prog 142 27 aiy Hy:=av.of Tryd.f142 (by kernel_rfl)
def M6:ah:=[
 F 4]
def Af:ah:=[
 n 0 8,
 o (.callS 142 [(t 8)]) 9 [0],
 m 9 7 [1],
 e 0 7 10 [2],
 e 1 7 11 [2],
 o (.alloc [V 0,.aF,V 0]) 5 [],
 S 3 5 10 [5,3,1,0,1,2,3,5],
 m 11 6 (k [4,6] 6)]
def acd:ah:=Af.map bare
def M7:ah:=[
 n 6 12,
 U 12 13 [0],
 m 13 14 [1],
 w 1 15 14 false [2],
 E .lss 15 0 16 14 false [3,2],
 p 14 16 17 [2,4],
 m 17 18 [5,2],
 w 1 19 18 false [6],
 u 1 5 20 18 false [6],
 v 20 21 18 false [8,6],
 H 21 22 18 false [9,6],
 D .geq 19 22 23 18 false [7,10,6],
 p 18 23 24 [6,11],
 m 24 25 [12,6],
 u 1 5 26 25 false [13],
 v 26 27 25 false [14,13],
 w 1 28 25 false [13],
 g (.idxAddr 1 (t 27) (t 28)) 29 25 false [15,16,13],
 v 29 30 25 false [17,13],
 E .lss 30 0 31 25 false [18,13],
 p 25 31 32 [13,19]]
def ace:ah:=[
 F 4]
def M8:ah:=[
 n 0 33,
 c 33 34 [0],
 a 3 34 35 [1],
 l 35 36 [2],
 C .add 36 1 37 [3],
 c 33 38 (k [0] 4),
 a 3 38 39 (k [5] 4),
 S 1 39 37 (k [6,4] 4)]
def Ag:ah:=[
 n 0 40,
 n 1 41,
 o (.callS 136 [(t 40),(t 41)]) 42 [0,1]]
def acf:ah:=Ag.map bare
def M9:ah:=[
 n 0 43,
 n 0 44,
 c 44 45 [1],
 a 5 45 46 [2],
 l 46 47 [3],
 a 1 5 48 [],
 l 48 49 [5],
 n 1 50,
 x 1 49 50 51 [6,7],
 l 51 52 [8],
 o (.call 143 [(t 47),(t 52)]) 53 [4,9],
 c 43 54 (k [0] 10),
 a 5 54 55 (k [11] 10),
 S 1 55 53 (k [12,10,10] 10)]
def Na:ah:=[
 R 4]
def aiz:DC:=(j (y M6) (j (y acd) (j (j (y M7) (.cond (.tmp 32) (j (y ace) .ret) .skip)) (j (y M8) (j (y acf) (j (Y M9) (j (y Na) .ret)))))))
def ahj [bh]:av Tryd.prog 138 56 aiz (ci 4):=av.of Tryd.f138 (by kernel_rfl)
def Nb:ah:=[
 F 4]
def Ah:ah:=[
 n 0 8,
 o (.callS 142 [(t 8)]) 9 [0],
 m 9 7 [1],
 e 0 7 10 [2],
 e 1 7 11 [2],
 o (.alloc [V 0,.aF,V 0]) 5 [],
 S 3 5 10 [5,3,1,0,1,2,3,5],
 m 11 6 (k [4,6] 6)]
def acg:ah:=Ah.map bare
def Nc:ah:=[
 n 6 12,
 U 12 13 [0],
 m 13 14 [1],
 w 1 15 14 false [2],
 E .neq 15 0 16 14 false [3,2],
 p 14 16 17 [2,4],
 m 17 18 [5,2],
 u 2 5 19 18 false [6],
 v 19 20 18 false [7,6],
 E .geq 20 1099511627776 21 18 false [8,6],
 p 18 21 22 [6,9]]
def ach:ah:=[
 F 4]
def Nd:ah:=[
 n 0 23,
 c 23 24 [0],
 a 3 24 25 [1],
 l 25 26 [2],
 C .add 26 1 27 [3],
 c 23 28 (k [0] 4),
 a 3 28 29 (k [5] 4),
 S 1 29 27 (k [6,4] 4)]
def Nf:ah:=[
 n 0 30,
 n 0 31,
 c 31 32 [1],
 a 5 32 33 [2],
 l 33 34 [3],
 a 2 5 35 [],
 l 35 36 [5],
 o (.call 143 [(t 34),(t 36)]) 37 [4,6],
 c 30 38 (k [0] 7),
 a 5 38 39 (k [8] 7),
 S 1 39 37 (k [9,7,7] 7)]
def Ng:ah:=[
 R 4]
def aiA:DC:=(j (y Nb) (j (y acg) (j (j (y Nc) (.cond (.tmp 22) (j (y ach) .ret) .skip)) (j (y Nd) (j (Y Nf) (j (y Ng) .ret))))))
def ahl [bh]:av Tryd.prog 139 40 aiA (ci 4):=av.of Tryd.f139 (by kernel_rfl)
def Nh:ah:=[
 F 4]
def Ni:ah:=[
 n 1 5,
 C .lss 5 0 6 [0],
 m 6 7 [1],
 w 1 8 7 false [2],
 w 0 9 7 false [2],
 g (.nilCheck (t 9)) 10 7 false [4,2],
 u 0 10 11 7 false [5,2],
 u 1 11 12 7 false [6,2],
 v 12 13 7 false [7,2],
 H 13 14 7 false [8,2],
 D .geq 8 14 15 7 false [3,9,2],
 p 7 15 16 [2,10]]
def aci:ah:=[
 F 4]
def Ai:ah:=[
 n 0 17,
 n 1 18,
 o (.callS 136 [(t 17),(t 18)]) 19 [0,1]]
def acj:ah:=Ai.map bare
def Nj:ah:=[
 n 0 20,
 n 0 21,
 c 21 22 [1],
 a 5 22 23 [2],
 l 23 24 [3],
 n 0 25,
 c 25 26 [5],
 a 0 26 27 [6],
 a 1 27 28 [7],
 l 28 29 [8],
 n 1 30,
 x 1 29 30 31 [9,10],
 l 31 32 [11],
 o (.call 143 [(t 24),(t 32)]) 33 [4,12],
 c 20 34 (k [0] 13),
 a 5 34 35 (k [14] 13),
 S 1 35 33 (k [15,13,13] 13)]
def Nk:ah:=[
 R 4]
def aiB:DC:=(j (y Nh) (j (j (y Ni) (.cond (.tmp 16) (j (y aci) .ret) .skip)) (j (y acj) (j (Y Nj) (j (y Nk) .ret)))))
def ahn [bh]:av Tryd.prog 140 36 aiB (ci 4):=av.of Tryd.f140 (by kernel_rfl)
def Nm:ah:=[
 F 4]
def Nn:ah:=[
 n 1 5,
 C .neq 5 0 6 [0],
 m 6 7 [1],
 w 0 8 7 false [2],
 g (.nilCheck (t 8)) 9 7 false [3,2],
 u 0 9 10 7 false [4,2],
 g (.load 3 true (t 10)) 11 7 false [5,2],
 w 0 12 7 false [2],
 g (.nilCheck (t 12)) 13 7 false [7,2],
 u 3 13 14 7 false [8,2],
 v 14 15 7 false [9,2],
 g (.call 144 [(t 11),(t 15)]) 16 7 false [6,10,2,2],
 K 16 17 7 false [11,2],
 p 7 17 18 [2,12]]
def ack:ah:=[
 F 4]
def Aj:ah:=[
 n 0 19,
 n 0 20,
 c 20 21 [1],
 a 0 21 22 [2],
 a 0 22 23 [3],
 l 23 24 [4],
 n 0 25,
 c 25 26 [6],
 a 3 26 27 [7],
 l 27 28 [8],
 C .add 28 1 29 [9],
 x 3 24 29 30 [5,10],
 a 0 30 31 [11],
 l 31 32 [12],
 o (.callS 136 [(t 19),(t 32)]) 33 [0,13]]
def acl:ah:=Aj.map bare
def Ak:ah:=[
 n 0 34,
 n 0 35,
 c 35 36 [1],
 a 0 36 37 [2],
 a 0 37 38 [3],
 l 38 39 [4],
 n 0 40,
 c 40 41 [6],
 a 3 41 42 [7],
 l 42 43 [8],
 x 3 39 43 44 [5,9],
 a 0 44 45 [10],
 l 45 46 [11],
 o (.callS 136 [(t 34),(t 46)]) 47 [0,12]]
def acm:ah:=Ak.map bare
def No:ah:=[
 n 0 48,
 c 48 49 [0],
 a 3 49 50 [1],
 l 50 51 [2],
 C .add 51 2 52 [3],
 c 48 53 (k [0] 4),
 a 3 53 54 (k [5] 4),
 S 1 54 52 (k [6,4] 4)]
def Np:ah:=[
 n 0 55,
 n 0 56,
 c 56 57 [1],
 a 5 57 58 [2],
 l 58 59 [3],
 n 0 60,
 c 60 61 [5],
 a 0 61 62 [6],
 a 2 62 63 [7],
 l 63 64 [8],
 o (.call 143 [(t 59),(t 64)]) 65 [4,9],
 c 55 66 (k [0] 10),
 a 5 66 67 (k [11] 10),
 S 1 67 65 (k [12,10,10] 10)]
def Nq:ah:=[
 R 4]
def aiC:DC:=(j (y Nm) (j (j (Y Nn) (.cond (.tmp 18) (j (y ack) .ret) .skip)) (j (Y acl) (j (Y acm) (j (y No) (j (Y Np) (j (y Nq) .ret)))))))
def ahp [bh]:av Tryd.prog 141 68 aiC (ci 4):=av.of Tryd.f141 (by kernel_rfl)
def Ns:ah:=[
 B 0 2,
 o (.jS (.eD (.v (.mb (Go.Value.pointer Option.none))))) 4 [],
 o (.jS (i 0)) 5 [1]]
def Nt:ah:=[
 L 3 2 9 [],
 o (.build [.aF,.aF,V 0,V 0,.aF,V 0] [(0,3,(t 9))]) 10 [0],
 o (.box (t 10)) 11 [1],
 m 11 6 [2,0,1,2]]
def Nu:ah:=[
 n 1 12,
 N 12 13 [0],
 I 0 14]
def Nv:ah:=[
 b .lss 14 13 15 []]
def Nw:ah:=[
 x 2 12 14 16 [],
 L 2 16 17 [0],
 o (.alloc [V 0,V 0]) 8 [],
 S 2 8 17 [2,1,0,1,2]]
def vR:ah:=[
 a 0 8 18 [],
 l 18 19 [0],
 C .lss 19 1 20 [1],
 m 20 21 [2],
 u 0 8 22 21 false [3],
 v 22 23 21 false [4,3],
 E .gtr 23 4 24 21 false [5,3],
 p 21 24 25 [3,6],
 m 25 26 [7,3],
 u 0 8 27 26 false [8],
 v 27 28 26 false [9,8],
 g (.arrAddr 5 1 (.eD (.gq [(.mb (Go.Value.nilFunc)),(.fn (.func 138) []),(.fn (.func 139) []),(.fn (.func 140) []),(.fn (.func 141) [])] 0)) (t 28)) 29 26 false [10,8],
 v 29 30 26 false [11,8],
 w 6 31 26 false [8],
 u 1 8 32 26 false [8],
 v 32 33 26 false [14,8],
 g (.callv (t 30) [(t 31),(t 33)]) 34 26 false [12,13,15,8,8],
 K 34 35 26 false [16,8],
 p 26 35 36 [8,17]]
def acn:ah:=[
 o (.jS (.eD (.v (.mb (Go.Value.pointer Option.none))))) 4 [],
 o (.jS (i 1)) 5 [0,0]]
def Nx:ah:=[
 C .add 14 1 37 [],
 m 37 14 [0]]
def Ny:ah:=[
 n 6 38,
 c 38 39 [0],
 a 3 39 40 [1],
 l 40 41 [2],
 a 0 2 42 [],
 l 42 43 [4],
 N 43 44 [5],
 b .neq 41 44 45 [3,6]]
def aco:ah:=[
 o (.jS (.eD (.v (.mb (Go.Value.pointer Option.none))))) 4 [],
 o (.jS (i 1)) 5 [0,0]]
def HC:ah:=[
 n 6 46,
 m 46 4 [0,0],
 o (.jS (i 0)) 5 [1,0,1]]
def aiD:DC:=(j (y Ns) (j (y Nt) (j (j (y Nu) (.block 0 (.loop (j (y Nv) (j (.cond (.tmp 15) .skip (.exit 0)) (j (.block 1 (j (y Nw) (j (Y vR) (.cond (.tmp 36) (j (y acn) .ret) .skip)))) (y Nx))))))) (j (j (Y Ny) (.cond (.tmp 45) (j (y aco) .ret) .skip)) (j (y HC) .ret)))))
def HD:List cV:=[.iZ 4,.iZ 5]
def ahs:av Tryd.prog 80 47 aiD HD:=av.of Tryd.f80 (by kernel_rfl)
def Nz:ah:=[
 B 0 2,
 Z 4,
 o (.jS (i 0)) 5 [1]]
def NA:ah:=[
 L 3 2 9 [],
 n 1 10,
 o (.call 80 [(t 9),(t 10)]) 11 [0,1],
 m 11 8 [2],
 e 0 8 12 [3],
 e 1 8 13 [3],
 m 12 6 (k [4,2] 4),
 m 13 7 (k [5,6] 6)]
def NB:ah:=[
 n 7 14,
 C .neq 14 0 15 [0]]
def acp:ah:=[
 n 7 16,
 Z 4,
 m 16 5 [0,1,0,1]]
def NC:ah:=[
 n 6 17,
 c 17 18 [0],
 a 4 18 19 [1],
 l 19 20 [2],
 m 20 4 [3,0,1,2,3],
 o (.jS (i 0)) 5 (k [4] 4)]
def aiE:DC:=(j (y Nz) (j (y NA) (j (j (y NB) (.cond (.tmp 15) (j (y acp) .ret) .skip)) (j (y NC) .ret))))
def akb:List cV:=[.iZ 4,.iZ 5]
def ahu [bh]:av Tryd.prog 49 21 aiE akb:=av.of Tryd.f49 (by kernel_rfl)
def ND:ah:=[
 B 0 2,
 I 0 4,
 o (.jS (i 0)) 5 [1]]
def NE:ah:=[
 L 3 2 9 [],
 n 1 10,
 o (.call 80 [(t 9),(t 10)]) 11 [0,1],
 m 11 8 [2],
 e 0 8 12 [3],
 e 1 8 13 [3],
 m 12 6 (k [4,2] 4),
 m 13 7 (k [5,6] 6)]
def NF:ah:=[
 n 7 14,
 C .neq 14 0 15 [0]]
def acq:ah:=[
 n 7 16,
 I 0 4,
 m 16 5 [0,1,0,1]]
def NG:ah:=[
 n 6 17,
 c 17 18 [0],
 a 5 18 19 [1],
 l 19 20 [2],
 m 20 4 [3,0,1,2,3],
 o (.jS (i 0)) 5 (k [4] 4)]
def aiF:DC:=(j (y ND) (j (y NE) (j (j (y NF) (.cond (.tmp 15) (j (y acq) .ret) .skip)) (j (y NG) .ret))))
def HF:List cV:=[.iZ 4,.iZ 5]
def ahw [bh]:av Tryd.prog 52 21 aiF HF:=av.of Tryd.f52 (by kernel_rfl)
namespace vu
def WH:ah:=[
 B 0 2,
 B 1 3,
 F 4]
def C9:ah:=[
 a 0 2 5 [],
 l 5 6 [0],
 a 0 3 7 [],
 l 7 8 [2],
 b .lss 6 8 9 [1,3],
 m 9 10 [4],
 u 0 2 11 10 false [5],
 v 11 12 10 false [6,5],
 u 0 3 13 10 false [5],
 v 13 14 10 false [8,5],
 D .eql 12 14 15 10 false [7,9,5],
 w 15 16 10 false [10,5,5],
 u 1 2 17 16 true [11],
 v 17 18 16 true [12,11],
 u 1 3 19 16 true [11],
 v 19 20 16 true [14,11],
 D .lss 18 20 21 16 true [13,15,11],
 g (.pick (t 16) (t 21) (.eD (.v (.bool false)))) 22 10 false [11,16,5],
 p 10 22 23 [5,17],
 m 23 4 (k [18,11] 18)]
def d92:DC:=(j (y WH) (j (y C9) .ret))
def c92 [bh]:av Tryd.prog 74 24 d92 (ci 4):=av.of Tryd.f74 (by kernel_rfl)
def WI:ah:=[
 o (.alloc [V 0,V 0]) 4 []]
def WJ:ah:=[
 n 0 8,
 m 8 5 [0,0],
 o (.jS (i 1)) 6 [1,0,1]]
def WK:ah:=[
 I 0 7]
def WL:ah:=[
 n 7 9,
 n 1 10,
 N 10 11 [1],
 b .lss 9 11 12 [0,2]]
def WM:ah:=[
 n 5 15,
 n 1 16,
 n 7 17,
 x 2 16 17 18 [1,2],
 a 0 18 19 [3],
 l 19 20 [4],
 b .add 15 20 21 [0,5],
 o (.minmax false (t 21) (i 1099511627776)) 22 [6],
 n 6 23,
 n 1 24,
 n 7 25,
 x 2 24 25 26 [9,10],
 a 1 26 27 [11],
 l 27 28 [12],
 b .add 23 28 29 [8,13],
 o (.minmax false (t 29) (i 1099511627776)) 30 [14],
 m 22 5 (k [7] 7),
 m 30 6 (k [15,16] 16)]
def WN:ah:=[
 n 7 13,
 C .add 13 1 14 [0],
 m 14 7 [1,0,1]]
def WO:ah:=[
 n 5 31,
 C .geq 31 1099511627776 32 [0]]
def WP:ah:=[
 o (.build [V 0,V 0] [(0,1,(i 1099511627776))]) 33 [],
 S 2 4 33 [0,0]]
def WQ:ah:=[
 n 5 34,
 n 6 35,
 o (.build [V 0,V 0] [(0,1,(t 34)),(1,1,(t 35))]) 36 [0,1],
 S 2 4 36 [2,0,1,2]]
def d69:DC:=(j (y WI) (j (y WJ) (j (j (y WK) (.block 0 (.loop (j (j (y WL) (.cond (.tmp 12) .skip (.exit 0))) (j (.block 1 (Y WM)) (y WN)))))) (j (j (y WO) (.cond (.tmp 32) (j (y WP) .ret) .skip)) (j (y WQ) .ret)))))
def Gp:List cV:=[.cell 4 2 true]
def c69 [bh]:av Tryd.prog 72 37 d69 Gp:=av.of Tryd.f72 (by kernel_rfl)
def WR:ah:=[
 B 0 2,
 Z 4]
def WS:ah:=[
 Z 5]
def WT:ah:=[
 I 0 6]
def WU:ah:=[
 n 6 7,
 a 1 2 8 [],
 l 8 9 [1],
 N 9 10 [2],
 b .lss 7 10 11 [0,3]]
def WV:ah:=[
 n 5 14,
 n 1 15,
 a 1 2 16 [],
 l 16 17 [2],
 n 6 18,
 x 1 17 18 19 [3,4],
 l 19 20 [5],
 x 2 15 20 21 [1,6],
 L 2 21 22 [7],
 o (.bslice 1 2 [V 0,V 0] [(0,2,(t 22))]) 23 [8],
 o (.append 103 2 16 (t 14) (t 23)) 24 [0,9],
 m 24 5 (k [10,10] 10)]
def WX:ah:=[
 n 6 12,
 C .add 12 1 13 [0],
 m 13 6 [1,0,1]]
def WY:ah:=[
 n 5 25,
 m 25 4 [0,0]]
def d91:DC:=(j (y WR) (j (y WS) (j (j (y WT) (.block 0 (.loop (j (j (y WU) (.cond (.tmp 11) .skip (.exit 0))) (j (.block 1 (y WV)) (y WX)))))) (j (y WY) .ret))))
def c91 [bh]:av Tryd.prog 73 26 d91 (ci 4):=av.of Tryd.f73 (by kernel_rfl)
def WZ:ah:=[
 B 0 1,
 Z 2,
 o (.jS (.eD .aF)) 3 [1]]
def W0:ah:=[
 a 0 1 14 [],
 l 14 15 [0],
 o (.mkSlice 103 2 16 [(.int .i64 0),(.int .i64 0)] (t 15)) 16 [1,1],
 m 16 4 [2,0,1,2]]
def W3:ah:=[
 a 0 1 17 [],
 l 17 18 [0],
 o (.mkSlice 3 1 8 [(.int .i64 0)] (t 18)) 19 [1,1],
 m 19 5 [2,0,1,2]]
def W4:ah:=[
 I 0 6]
def W6:ah:=[
 n 6 20,
 a 0 1 21 [],
 l 21 22 [1],
 b .lss 20 22 23 [0,2]]
def W7:ah:=[
 n 4 26,
 n 6 27,
 n 5 28,
 n 6 29,
 o (.build [V 0,V 0] [(0,1,(i 1099511627776))]) 30 [],
 x 2 26 27 31 [0,1,0,1,4],
 S 2 31 30 [5,4,0,1,4],
 x 1 28 29 32 (k [2,3] 6),
 s (.store 1 (t 32) (i (-1))) (k [7,6] 6)]
def W8:ah:=[
 n 6 24,
 C .add 24 1 25 [0],
 m 25 6 [1,0,1]]
def W9:ah:=[
 R 7]
def Xa:ah:=[
 n 7 33]
def Xb:ah:=[
 F 7]
def O3:ah:=[
 I 0 8]
def O4:ah:=[
 n 8 34,
 a 1 1 35 [],
 l 35 36 [1],
 N 36 37 [2],
 b .lss 34 37 38 [0,3]]
def O5:ah:=[
 a 1 1 41 [],
 l 41 42 [0],
 n 8 43,
 x 5 42 43 44 [1,2],
 L 5 44 45 [3],
 o (.alloc [V 0,.aF,V 0,V 0,V 0]) 9 [],
 S 5 9 45 (k [5,4] 5)]
def A6:ah:=[
 a 2 9 46 [],
 l 46 47 [0],
 L 5 9 48 [],
 n 4 49,
 o (.callF 73 [(t 48),(t 49)]) 50 [2,3],
 o (.call 72 [(t 47),(t 50)]) 51 [1,4,4],
 o (.alloc [V 0,V 0]) 10 [],
 S 2 10 51 (k [6,5,5] 6)]
def abQ:ah:=A6.map bare
def O6:ah:=[
 L 2 10 52 [],
 n 4 53,
 a 0 9 54 [],
 l 54 55 [2],
 x 2 53 55 56 [1,3],
 L 2 56 57 [4],
 o (.call 74 [(t 52),(t 57)]) 58 [0,5]]
def O7:ah:=[
 n 4 59,
 a 0 9 60 [],
 l 60 61 [1],
 L 2 10 62 [],
 x 2 59 61 63 [0,2,0,1,2,3],
 S 2 63 62 [4,3,0,1,2,3]]
def O8:ah:=[
 R 7]
def Gq:ah:=[
 n 8 39,
 C .add 39 1 40 [0],
 m 40 8 [1,0,1]]
def O9:ah:=[
 a 1 1 64 [],
 l 64 65 [0],
 N 65 66 [1],
 C .sub 66 1 67 [2],
 m 67 11 [3,0,1,2,3]]
def Pa:ah:=[
 n 11 68,
 C .geq 68 0 69 [0]]
def Pb:ah:=[
 a 1 1 72 [],
 l 72 73 [0],
 n 11 74,
 x 5 73 74 75 [1,2],
 L 5 75 76 [3],
 o (.alloc [V 0,.aF,V 0,V 0,V 0]) 12 [],
 S 5 12 76 (k [5,4] 5)]
def Pc:ah:=[
 n 4 77,
 a 0 12 78 [],
 l 78 79 [1],
 x 2 77 79 80 [0,2],
 L 2 80 81 [3],
 o (.alloc [V 0,V 0]) 13 [],
 S 2 13 81 (k [5,4] 5)]
def sf:ah:=[
 a 0 13 82 [],
 l 82 83 [0],
 C .lss 83 1099511627776 84 [1],
 m 84 85 [2],
 u 2 12 86 85 true [3],
 v 86 87 85 true [4,3],
 g (.load 5 true (t 12)) 88 85 true [3],
 w 4 89 85 true [3],
 g (.callF 73 [(t 88),(t 89)]) 90 85 true [6,7,3,3],
 g (.call 72 [(t 87),(t 90)]) 91 85 true [5,8,8,3],
 g (.load 2 true (t 13)) 92 85 true [3],
 g (.eqT false true [(.int .i64),(.int .i64)] (t 91) (t 92)) 93 85 true [9,10,3],
 q 85 93 94 [3,11]]
def abR:ah:=sf.map bare
def Pd:ah:=[
 n 5 95,
 a 0 12 96 [],
 l 96 97 [1],
 n 11 98,
 x 1 95 97 99 [0,2,0,1,2,3],
 S 1 99 98 [4,3,0,1,2,3]]
def Gr:ah:=[
 n 11 70,
 C .sub 70 1 71 [0],
 m 71 11 [1,0,1]]
def Pe:ah:=[
 n 4 100,
 n 5 101,
 m 100 2 [0,0],
 m 101 3 [1,2,0,1,2]]
def d66:DC:=(j (y WZ) (j (y W0) (j (y W3) (j (j (y W4) (.block 0 (.loop (j (j (y W6) (.cond (.tmp 23) .skip (.exit 0))) (j (.block 1 (y W7)) (y W8)))))) (j (j (y W9) (.block 2 (.loop (j (j (y Xa) (.cond (.tmp 33) .skip (.exit 2))) (.block 3 (j (y Xb) (j (y O3) (.block 4 (.loop (j (j (y O4) (.cond (.tmp 38) .skip (.exit 4))) (j (.block 5 (j (y O5) (j (Y abQ) (j (Y O6) (.cond (.tmp 58) (j (y O7) (y O8)) .skip))))) (y Gq)))))))))))) (j (j (y O9) (.block 6 (.loop (j (j (y Pa) (.cond (.tmp 69) .skip (.exit 6))) (j (.block 7 (j (y Pb) (j (y Pc) (j (Y abR) (.cond (.tmp 94) (y Pd) .skip))))) (y Gr)))))) (j (y Pe) .ret)))))))
def Pf:List cV:=[.iZ 2,.iZ 3]
def c66 [bh]:av Tryd.prog 42 102 d66 Pf:=av.of Tryd.f42 (by kernel_rfl)
def Xc:ah:=[
 B 0 1,
 Z 2]
def Xd:ah:=[
 a 0 1 3 [],
 l 3 4 [0]]
def Xe:ah:=[
 C .eql 4 3 6 [],
 m 6 5 [0]]
def Xf:ah:=[
 a 2 1 7 [],
 l 7 8 [0],
 o (.bslice 1 1 [V 0] [(0,1,(t 8))]) 9 [1],
 m 9 2 [2,0,1,2]]
def Xg:ah:=[
 C .eql 4 4 11 [],
 m 11 10 [0]]
def Xh:ah:=[
 a 2 1 12 [],
 l 12 13 [0],
 a 3 1 14 [],
 l 14 15 [2],
 o (.bslice 2 1 [V 0,V 0] [(0,1,(t 13)),(1,1,(t 15))]) 16 [1,3],
 m 16 2 (k [4] 4)]
def Xi:ah:=[
 Z 2]
def d93:DC:=(j (y Xc) (j (j (y Xd) (.block 0 (j (y Xe) (.cond (.tmp 5) (j (y Xf) .ret) (j (y Xg) (.cond (.tmp 10) (j (y Xh) .ret) .skip)))))) (j (y Xi) .ret)))
def c93 [bh]:av Tryd.prog 112 17 d93 (ci 2):=av.of Tryd.f112 (by kernel_rfl)
def Xj:ah:=[
 B 0 2,
 o (.alloc [V 0,.aF]) 4 []]
def Xk:ah:=[
 Z 5]
def Xl:ah:=[
 I 0 6]
def Xm:ah:=[
 n 6 9,
 a 3 2 10 [],
 l 10 11 [1],
 N 11 12 [2],
 b .lss 9 12 13 [0,3]]
def Xn:ah:=[
 a 3 2 16 [],
 l 16 17 [0],
 n 6 18,
 x 6 17 18 19 [1,2],
 L 6 19 20 [3],
 o (.alloc [V 0,V 0,V 0,V 0,V 0,V 0]) 7 [],
 S 6 7 20 (k [5,4] 5)]
def Xo:ah:=[
 a 4 7 21 [],
 l 21 22 [0],
 m 22 8 [1,0,1]]
def Xp:ah:=[
 a 0 7 23 [],
 l 23 24 [0],
 C .eql 24 2 25 [1]]
def Xq:ah:=[
 n 8 26,
 n 1 27,
 a 2 7 28 [],
 l 28 29 [2],
 x 1 27 29 30 [1,3],
 l 30 31 [4],
 b .add 26 31 32 [0,5],
 m 32 8 (k [6] 6)]
def Pg:ah:=[
 n 5 33,
 a 1 7 34 [],
 l 34 35 [1],
 L 6 7 36 [],
 o (.call 112 [(t 36)]) 37 [3],
 n 8 38,
 o (.build [V 0,.aF,V 0,V 0,V 0] [(0,1,(t 35)),(1,1,(t 37)),(2,1,(t 38))]) 39 [2,4,5],
 o (.bslice 1 5 [V 0,.aF,V 0,V 0,V 0] [(0,5,(t 39))]) 40 [6],
 o (.append 79 5 56 (t 33) (t 40)) 41 [0,7,4],
 m 41 5 (k [8,8] 8)]
def Ph:ah:=[
 n 6 14,
 C .add 14 1 15 [0],
 m 15 6 [1,0,1]]
def Pi:ah:=[
 a 1 2 42 [],
 l 42 43 [0],
 n 5 44,
 o (.build [V 0,.aF] [(0,1,(t 43)),(1,1,(t 44))]) 45 [1,2],
 S 2 4 45 [3,0,1,2,3]]
def d67:DC:=(j (y Xj) (j (y Xk) (j (j (y Xl) (.block 0 (.loop (j (j (y Xm) (.cond (.tmp 13) .skip (.exit 0))) (j (.block 1 (j (y Xn) (j (y Xo) (j (j (y Xp) (.cond (.tmp 25) (y Xq) .skip)) (Y Pg))))) (y Ph)))))) (j (y Pi) .ret))))
def Pj:List cV:=[.cell 4 2 true]
def c67 [bh]:av Tryd.prog 96 46 d67 Pj:=av.of Tryd.f96 (by kernel_rfl)
def Da:ah:=[
 B 0 2,
 F 4]
def Db:ah:=[
 n 1 6,
 N 6 7 [0],
 a 0 2 8 [],
 l 8 9 [2],
 b .neq 7 9 10 [1,3]]
def Dd:ah:=[
 F 4]
def De:ah:=[
 I 0 5]
def Df:ah:=[
 n 5 11,
 n 1 12,
 N 12 13 [1],
 b .lss 11 13 14 [0,2]]
def xp:ah:=[
 n 1 17,
 n 5 18,
 x 1 17 18 19 [0,1],
 l 19 20 [2],
 C .lss 20 1 21 [3],
 m 21 22 [4],
 w 1 23 22 false [5],
 w 5 24 22 false [5],
 g (.idxAddr 1 (t 23) (t 24)) 25 22 false [6,7,5],
 v 25 26 22 false [8,5],
 E .gtr 26 60000 27 22 false [9,5],
 p 22 27 28 [5,10]]
def Dg:ah:=[
 F 4]
def Dh:ah:=[
 n 5 15,
 C .add 15 1 16 [0],
 m 16 5 [1,0,1]]
def Di:ah:=[
 R 4]
def d44:DC:=(j (y Da) (j (j (y Db) (.cond (.tmp 10) (j (y Dd) .ret) .skip)) (j (j (y De) (.block 0 (.loop (j (j (y Df) (.cond (.tmp 14) .skip (.exit 0))) (j (.block 1 (j (y xp) (.cond (.tmp 28) (j (y Dg) .ret) .skip))) (y Dh)))))) (j (y Di) .ret))))
def aa2:List cV:=[.iZ 4]
def c44 [bh]:av Tryd.prog 77 29 d44 aa2:=av.of Tryd.f77 (by kernel_rfl)
def Dj:ah:=[
 B 0 2,
 Z 4]
def xq:ah:=[
 L 4 2 7 [],
 o (.call 75 [(t 7)]) 8 [0],
 U 8 9 [1],
 m 9 10 [2,1],
 g (.load 4 true (t 2)) 11 10 false [3],
 w 1 12 10 false [3],
 g (.call 77 [(t 11),(t 12)]) 13 10 false [4,5,3,3],
 K 13 14 10 false [6,3],
 p 10 14 15 [3,7]]
def Dk:ah:=[
 Z 4]
def Dl:ah:=[
 L 4 2 17 [],
 n 1 18,
 o (.call 96 [(t 17),(t 18)]) 19 [0,1],
 o (.call 42 [(t 19)]) 20 [2,2],
 m 20 16 [3],
 e 0 16 21 [4],
 e 1 16 22 [4],
 m 21 5 (k [5,3] 5),
 m 22 6 (k [6,7] 7)]
def Dm:ah:=[
 n 5 23,
 m 23 4 [0,0]]
def d45:DC:=(j (y Dj) (j (j (y xq) (.cond (.tmp 15) (j (y Dk) .ret) .skip)) (j (y Dl) (j (y Dm) .ret))))
def c45 [bh]:av Tryd.prog 78 24 d45 (ci 4):=av.of Tryd.f78 (by kernel_rfl)
def Xr:ah:=[
 B 0 2,
 F 4]
def Ii:ah:=[
 L 4 2 7 [],
 o (.call 75 [(t 7)]) 8 [0],
 U 8 9 [1],
 m 9 10 [2,1],
 g (.load 4 true (t 2)) 11 10 false [3],
 w 1 12 10 false [3],
 g (.call 77 [(t 11),(t 12)]) 13 10 false [4,5,3,3],
 K 13 14 10 false [6,3],
 p 10 14 15 [3,7]]
def Xs:ah:=[
 F 4]
def Xt:ah:=[
 L 4 2 16 [],
 n 1 17,
 o (.call 78 [(t 16),(t 17)]) 18 [0,1],
 m 18 5 [2,2,0,1,2]]
def Xu:ah:=[
 I 0 6]
def Xv:ah:=[
 n 6 19,
 n 5 20,
 N 20 21 [1],
 b .lss 19 21 22 [0,2]]
def Xw:ah:=[
 n 5 25,
 n 6 26,
 x 2 25 26 27 [0,1],
 a 1 27 28 [2],
 l 28 29 [3],
 C .gtr 29 1000 30 [4]]
def Xx:ah:=[
 F 4]
def Xy:ah:=[
 n 6 23,
 C .add 23 1 24 [0],
 m 24 6 [1,0,1]]
def Xz:ah:=[
 R 4]
def d22:DC:=(j (y Xr) (j (j (y Ii) (.cond (.tmp 15) (j (y Xs) .ret) .skip)) (j (y Xt) (j (j (y Xu) (.block 0 (.loop (j (j (y Xv) (.cond (.tmp 22) .skip (.exit 0))) (j (.block 1 (j (y Xw) (.cond (.tmp 30) (j (y Xx) .ret) .skip))) (y Xy)))))) (j (y Xz) .ret)))))
def c22 [bh]:av Tryd.prog 46 31 d22 (ci 4):=av.of Tryd.f46 (by kernel_rfl)
def XA:ah:=[
 B 0 1,
 F 2]
def sg:ah:=[
 a 0 1 6 [],
 l 6 7 [0],
 C .lss 7 0 8 [1],
 m 8 9 [2],
 u 0 1 10 9 false [3],
 v 10 11 9 false [4,3],
 E .gtr 11 120 12 9 false [5,3],
 p 9 12 13 [3,6],
 m 13 14 [7,3],
 u 1 1 15 14 false [8],
 v 15 16 14 false [9,8],
 E .lss 16 1 17 14 false [10,8],
 p 14 17 18 [8,11],
 m 18 19 [12,8],
 u 1 1 20 19 false [13],
 v 20 21 19 false [14,13],
 E .gtr 21 1000 22 19 false [15,13],
 p 19 22 23 [13,16],
 m 23 24 [17,13],
 u 2 1 25 24 false [18],
 v 25 26 24 false [19,18],
 E .lss 26 0 27 24 false [20,18],
 p 24 27 28 [18,21],
 m 28 29 [22,18],
 u 2 1 30 29 false [23],
 v 30 31 29 false [24,23],
 u 1 1 32 29 false [23],
 v 32 33 29 false [26,23],
 D .geq 31 33 34 29 false [25,27,23],
 p 29 34 35 [23,28],
 m 35 36 [29,23],
 u 3 1 37 36 false [30],
 v 37 38 36 false [31,30],
 H 38 39 36 false [32,30],
 E .gtr 39 600 40 36 false [33,30],
 p 36 40 41 [30,34]]
def XB:ah:=[
 F 2]
def XC:ah:=[
 I 0 3]
def XD:ah:=[
 n 3 42,
 a 3 1 43 [],
 l 43 44 [1],
 N 44 45 [2],
 b .lss 42 45 46 [0,3]]
def XE:ah:=[
 a 3 1 49 [],
 l 49 50 [0],
 n 3 51,
 x 6 50 51 52 [1,2],
 L 6 52 53 [3],
 o (.alloc [V 0,V 0,V 0,V 0,V 0,V 0]) 4 [],
 S 6 4 53 (k [5,4] 5)]
def xr:ah:=[
 a 1 4 54 [],
 l 54 55 [0],
 C .lss 55 0 56 [1],
 m 56 57 [2],
 u 1 4 58 57 false [3],
 v 58 59 57 false [4,3],
 u 1 1 60 57 false [3],
 v 60 61 57 false [6,3],
 D .geq 59 61 62 57 false [5,7,3],
 p 57 62 63 [3,8],
 m 63 64 [9,3],
 u 4 4 65 64 false [10],
 v 65 66 64 false [11,10],
 E .lss 66 0 67 64 false [12,10],
 p 64 67 68 [10,13],
 m 68 69 [14,10],
 u 4 4 70 69 false [15],
 v 70 71 69 false [16,15],
 E .gtr 71 1000 72 69 false [17,15],
 p 69 72 73 [15,18],
 m 73 74 [19,15],
 u 5 4 75 74 false [20],
 v 75 76 74 false [21,20],
 E .lss 76 (-1) 77 74 false [22,20],
 p 74 77 78 [20,23]]
def XF:ah:=[
 F 2]
def XG:ah:=[
 F 5]
def XH:ah:=[
 a 0 4 79 [],
 l 79 80 [0]]
def Pk:ah:=[
 C .eql 80 1 82 [],
 m 82 81 [0]]
def A7:ah:=[
 a 2 4 83 [],
 l 83 84 [0],
 C .eql 84 0 85 [1],
 m 85 86 [2],
 u 3 4 87 86 true [3],
 v 87 88 86 true [4,3],
 E .eql 88 0 89 86 true [5,3],
 q 86 89 90 [3,6],
 m 90 5 (k [7,3] 7)]
def Pl:ah:=[
 C .eql 80 2 92 [],
 m 92 91 [0]]
def xu:ah:=[
 a 2 4 93 [],
 l 93 94 [0],
 C .geq 94 0 95 [1],
 m 95 96 [2],
 u 2 4 97 96 true [3],
 v 97 98 96 true [4,3],
 u 0 1 99 96 true [3],
 v 99 100 96 true [6,3],
 D .lss 98 100 101 96 true [5,7,3],
 q 96 101 102 [3,8],
 m 102 103 [9,3],
 u 3 4 104 103 true [10],
 v 104 105 103 true [11,10],
 E .eql 105 0 106 103 true [12,10],
 q 103 106 107 [10,13],
 m 107 5 (k [14,10] 14)]
def Pm:ah:=[
 C .eql 80 3 109 [],
 m 109 108 [0]]
def xw:ah:=[
 a 2 4 110 [],
 l 110 111 [0],
 C .geq 111 0 112 [1],
 m 112 113 [2],
 u 2 4 114 113 true [3],
 v 114 115 113 true [4,3],
 u 1 1 116 113 true [3],
 v 116 117 113 true [6,3],
 D .lss 115 117 118 113 true [5,7,3],
 q 113 118 119 [3,8],
 m 119 120 [9,3],
 u 3 4 121 120 true [10],
 v 121 122 120 true [11,10],
 E .eql 122 0 123 120 true [12,10],
 q 120 123 124 [10,13],
 m 124 5 (k [14,10] 14)]
def Pn:ah:=[
 C .eql 80 4 126 [],
 m 126 125 [0]]
def tj:ah:=[
 a 2 4 127 [],
 l 127 128 [0],
 C .geq 128 0 129 [1],
 m 129 130 [2],
 u 2 4 131 130 true [3],
 v 131 132 130 true [4,3],
 u 1 1 133 130 true [3],
 v 133 134 130 true [6,3],
 D .lss 132 134 135 130 true [5,7,3],
 q 130 135 136 [3,8],
 m 136 137 [9,3],
 u 3 4 138 137 true [10],
 v 138 139 137 true [11,10],
 E .geq 139 0 140 137 true [12,10],
 q 137 140 141 [10,13],
 m 141 142 [14,10],
 u 3 4 143 142 true [15],
 v 143 144 142 true [16,15],
 u 1 1 145 142 true [15],
 v 145 146 142 true [18,15],
 D .lss 144 146 147 142 true [17,19,15],
 q 142 147 148 [15,20],
 m 148 5 (k [21,15] 21)]
def tp:ah:=[
 n 5 149,
 U 149 150 [0]]
def tq:ah:=[
 F 2]
def tr:ah:=[
 n 3 47,
 C .add 47 1 48 [0],
 m 48 3 [1,0,1]]
def Po:ah:=[
 R 2]
def d20:DC:=(j (y XA) (j (j (y sg) (.cond (.tmp 41) (j (y XB) .ret) .skip)) (j (j (y XC) (.block 0 (.loop (j (j (y XD) (.cond (.tmp 46) .skip (.exit 0))) (j (.block 1 (j (y XE) (j (j (y xr) (.cond (.tmp 78) (j (y XF) .ret) .skip)) (j (y XG) (j (j (y XH) (.block 2 (j (y Pk) (.cond (.tmp 81) (y A7) (j (y Pl) (.cond (.tmp 91) (y xu) (j (y Pm) (.cond (.tmp 108) (y xw) (j (y Pn) (.cond (.tmp 125) (y tj) .skip)))))))))) (j (y tp) (.cond (.tmp 150) (j (y tq) .ret) .skip))))))) (y tr)))))) (j (y Po) .ret))))
def c20 [bh]:av Tryd.prog 75 151 d20 (ci 2):=av.of Tryd.f75 (by kernel_rfl)
end vu
end Go.Proofs
namespace Go.Proofs
open Go.DM
abbrev ti(n:Int):T:=.int .i64 n
def cN:T->Int
 |.int _ n=>n
 |_=>0
structure bk where
 (f t term aG:Int)
 ops:List (Int×Int)
 deriving DecidableEq,Inhabited
structure aM where
 aj:Int
 aL:List bk
 bK:b8
structure bz where
 kind:Int
 read:b8
 delete:Int
 deriving Inhabited
structure Input where
 ai:List bz
 insert:b8
 swap:Int
def ce(l:List (Int×Int)):List (ar):=l.map λo=>[ti o.1,ti o.2]
def bk.enc(a:bk):ar:=[ti a.f,ti a.t,ti a.term,ti a.aG,.sl (ce a.ops)]
def aV(l:List bk):List (ar):=l.map bk.enc
def aw(l:b8):List (ar):=l.map λx=>[ti x]
def aM.enc(l:aM):T:=.agg [ti l.aj,.sl (aV l.aL),.sl (aw l.bK)]
def bz.enc(c:bz):ar:=[ti c.kind,.sl (aw c.read),ti c.delete]
def bj(l:List bz):List (ar):=l.map bz.enc
def Input.enc(x:Input):T:=.agg [.sl (bj x.ai),.sl (aw x.insert),ti x.swap]
def fD{α β:Type}{f:α->β}{g:β->α}(h:∀a,g (f a)=a)(l:List α):(l.map f).map g=l:=by
 rw[x5];conv=>rhs;rw[<-List.map_id l]
 exact QQ λa _=>h a
def dS(l:List (ar)):b8:=l.map λx=>cN (x.getD 0 (ti 0))
def qh(l:List (ar)):List (Int×Int):=l.map λx=>(cN (x.getD 0 (ti 0)),cN (x.getD 1 (ti 0)))
def ke:ar->bk
 |[a,b,c,d,.sl o]=>⟨cN a,cN b,cN c,cN d,qh o⟩
 |_=>default
def vv(l:List (ar)):List bk:=l.map ke
def xU:ar->bz
 |[a,.sl b,c]=>⟨cN a,dS b,cN c⟩
 |_=>default
def kr(l:List (ar)):List bz:=l.map xU
def qb:T->aM
 |.agg [a,.sl b,.sl c]=>⟨cN a,vv b,dS c⟩
 |_=>⟨0,[],[]⟩
def yr:T->Input
 |.agg [.sl a,.sl b,c]=>⟨kr a,dS b,cN c⟩
 |_=>⟨[],[],0⟩
@[simp] def uM(l:b8):dS (aw l)=l:=fD (λ_=>rfl) l
@[simp] def GW(l:List (Int×Int)):qh (ce l)=l:=fD (λ_=>rfl) l
@[simp] def lh(a:bk):ke a.enc=a:=by simp[ke,bk.enc,cN]
@[simp] def aaO(l:List bk):vv (aV l)=l:=fD lh l
@[simp] def xV(a:bz):xU a.enc=a:=by simp[xU,bz.enc,cN]
@[simp] def aaP(l:List bz):kr (bj l)=l:=fD xV l
@[simp] def adS(a:Int)(l:List bk)(f:b8):qb (.agg [ti a,.sl (aV l),.sl (aw f)])=⟨a,l,f⟩:=by simp[qb,cN]
@[simp] def aft(n:aM):qb n.enc=n:=by simp[aM.enc]
@[simp] def adT(a:List bz)(b:b8)(c:Int):yr (.agg [.sl (bj a),.sl (aw b),ti c])=⟨a,b,c⟩:=by simp[yr,cN]
@[simp] def afu(x:Input):yr x.enc=x:=by simp[Input.enc]
def bS{l:b8}{y:Nat}(h:y<l.length):DM.rowAt (aw l) y=[ti (l.getD y default)]:=by simp[DM.rowAt,aw,h]
def qK{l:List bk}{y:Nat}(h:y<l.length):DM.rowAt (aV l) y=(l.getD y default).enc:=by simp[DM.rowAt,aV,h]
def cu{l:List bz}{y:Nat}(h:y<l.length):DM.rowAt (bj l) y=(l.getD y default).enc:=by simp[DM.rowAt,bj,h]
def KS{l:List (Int×Int)}{y:Nat}(h:y<l.length):DM.rowAt (ce l) y=[ti (l.getD y default).1,ti (l.getD y default).2]:=by simp[DM.rowAt,ce,h]
@[simp] def adU(l:b8):(aw l).length=l.length:=by simp[aw]
@[simp] def afv(l:List (Int×Int)):(ce l).length=l.length:=by simp[ce]
@[simp] def adV(l:List bk):(aV l).length=l.length:=by simp[aV]
@[simp] def adW(l:List bz):(bj l).length=l.length:=by simp[bj]
abbrev jx:List Sh:=[.int .i64,.int .i64,.int .i64]
def keyOf(f t x:Int):T:=.agg [ti f,ti t,ti x]
def bk.key(a:bk):T:=keyOf a.f a.t a.term
def ct(al:List bk):List (Nat×T×DV):=al.zipIdx.map λp=>(p.2,p.1.key,.v (.agg p.1.enc))
def bM(al:List bk):Ob:=.map jx true al.length (ct al)
def b7(x:Input)(m:Nat):bD:=[.v (.sl (bj x.ai)),.v (.sl (aw x.insert)),.v (ti x.swap),.dQ m]
def aJ(a b:bk):Bool:=decide (a.f=b.f/\a.t=b.t/\a.term=b.term)
def qc(al:List bk)(a:bk):List bk:=
 if a.aG<1099511627776 then
  match al.findIdx? (aJ a)with
  |none=>al++[a]
  |some i=>if a.aG<(al.getD i default).aG then al.set i a else al
 else al
def Bx:DV->Int
 |.v (.agg [_,_,_,.int _ c,_])=>c
 |_=>0
def qL(k:T)(c:Int)(es:List (Nat×T×DV)):Bool:=
 decide (c<1099511627776)&&match sF k es with|none=>true|some e=>decide (c<Bx e.2.2)
def mM(k:T)(c:Int)(y:DV)(gY:Nat)(es:List (Nat×T×DV)):List (Nat×T×DV):=if qL k c es then Am k y gY es else es
def qM(k:T)(c:Int)(gY:Nat)(es:List (Nat×T×DV)):Nat:=if qL k c es then mZ k gY es else gY
def acr(a b:bk):eF a.key b.key=aJ a b:=by
 simp[bk.key,keyOf,eF,mz,aJ]
def lV(a:bk)(al:List bk):((ct al).findIdx? λe=>eF a.key e.2.1)=al.findIdx? (aJ a):=by
 have h:∀(l:List bk) (i:Nat),(((l.zipIdx i).map λp=>((p.2,p.1.key,DV.v (.agg p.1.enc)):Nat×T×DV)).findIdx? λe=>eF a.key e.2.1)=l.findIdx? (aJ a):=by
  intro l;induction l with
  |nil=>intro i;rfl
  |cons b l ih=>intro i;simp only[ZbG,l8,YE,acr,ih (i+1)]
 exact h al 0
def eJ(al:List bk)(i:Nat):(ct al)[i]? =(al[i]?).map λa=>(i,a.key,.v (.agg a.enc)):=by
 simp[ct,vA,List.getElem?_zipIdx,Function.comp_def]
def iQ(al:List bk):(ct al).length=al.length:=by simp[ct]
def L8(al:List bk):∀e∈ct al,∃a:bk,e.2.2=.v (.agg a.enc):=by
 intro e he;simp only[ct,kL]at he;obtain⟨p,_,rfl⟩:=he;exact⟨p.1,rfl⟩
def py{α:Type}{p:α->Bool}{l:List α}{i:Nat}(h:l.findIdx? p=some i):i<l.length:=by
 rw[Eu]at h;exact h.1
def xW(a:bk)(al:List bk):qL a.key a.aG (ct al)=(decide (a.aG<1099511627776)&&match al.findIdx? (aJ a)with|none=>true|some i=>decide (a.aG<(al.getD i default).aG)):=by
 unfold qL;rw[sb,lV];cases h:al.findIdx? (aJ a)with
 |none=>rfl
 |some i=>
  have hi:=py h;simp[eJ,hi,Bx,bk.enc];rfl
def By(a:bk)(al:List bk):mM a.key a.aG (.v (.agg a.enc)) al.length (ct al)=ct (qc al a)/\qM a.key a.aG al.length (ct al)=(qc al a).length:=by
 unfold mM qM qc;rw[xW];by_cases hc:a.aG<1099511627776
 ·simp only[hc,decide_true,R8,yh];cases h:al.findIdx? (aJ a)with
  |none=>
   simp only[yh,Am,mZ,lV,h];refine⟨?_,by simp⟩;apply xX;intro j;rw[eJ,Sk,Sk,iQ,eJ];split
   ·rfl
   ·rename_i hj;by_cases QT:j=al.length
    ·subst QT;simp
    ·rw[MI (by simp;omega),MI (by simp;omega)];rfl
  |some i=>
   have hi:=py h;have Gk:a.key=(al.getD i default).key:=by
    rw[Eu]at h;obtain⟨_,h1,_⟩:=h;simp only[aJ,o5]at h1;simp[bk.key,keyOf,List.getD,hi,h1]
   simp only;by_cases h2:a.aG<(al.getD i default).aG
   ·simp only[h2,decide_true,yh,Am,mZ,lV,h];refine⟨?_,by simp⟩;apply xX;intro j;rw[eJ,List.getElem?_modify,eJ,Kt];by_cases hj:i=j
    ·subst hj;simp[hi,Gk,List.getD]
    ·simp[hj]
   ·simp only[h2,decide_false,TP,Lg];exact⟨trivial,trivial⟩
 ·simp[hc]
section
variable [bh]
def MC:au Tryd.prog (bG []):=au.nil
def nV(a b:Int):Int:=if a<b then-1 else if b<a then 1 else 0
def ID(l:b8):Int:=(l.find? λx=>x !=0).getD 0
def dx(x y:ar):Int:=ID [nV (cN (x.getD 0 (ti 0))) (cN (y.getD 0 (ti 0))),nV (cN (x.getD 1 (ti 0))) (cN (y.getD 1 (ti 0))),nV (cN (x.getD 2 (ti 0))) (cN (y.getD 2 (ti 0)))]
def t71(a:Int):aI Tryd.prog 109 [ti a] (.bool false):=by
 have am:=MC;refine c71.ok (by simp) (aC ?_);simp;apply aa.ag am fw [0];simp[ZP];apply aa.ag am fw [2];simp[ZQ];apply aa.ret;simp[ci]
abbrev acD:DM.Spec:=bp (λts=>∃a,ts=[ti a]) (λ_=>.bool false) true
def aiL:au Tryd.prog (bG [(109,acD)]):=by
 refine au.cons au.nil ?_;rintro ts ⟨a,rfl⟩;exact⟨t71 a,λ_=>rfl⟩
def t54(a b:Int):aI Tryd.prog 89 [ti a,ti b] (ti (nV a b)):=by
 have am:=aiL;refine c54.ok (by simp) (aC ?_);simp;apply aa.ag am fw [0,1];simp[ZJ];apply aa.ag am fw [0,1,5];simp[ZK];apply aa.ag am fw [0,1,5,6];simp[ZL];apply aa.sq am fw [0,1,6,11];simp[ZM];refine aa.cond rfl (λh=>by cases h) (λh=>?_);apply aa.skip;simp;apply aa.sq am fw [0,1,13];simp[ZN];refine aa.cond rfl (λh=>by cases h) (λh=>?_);apply aa.skip;simp;apply aa.sq am fw [0,1,16];simp[ZO];refine aa.cond rfl (λh=>?_) (λh=>?_)
 ·simp at h;apply aa.ag am fw [4];simp[RI];apply aa.ret;simp[ci,nV,h]
 ·simp at h;apply aa.skip;simp;apply aa.sq am fw [0,1,19];simp[RJ];refine aa.cond rfl (λh2=>?_) (λh2=>?_)
  ·simp at h2;apply aa.ag am fw [4];simp[RK];apply aa.ret;simp[ci,nV,h2,show ¬a<b by omega]
  ·simp at h2;apply aa.skip;simp;apply aa.ag am fw [4];simp[RL];apply aa.ret;simp[ci,nV,show ¬a<b by omega,show ¬b<a by omega]
def SG{l:b8}{y:Nat}(hy:y<l.length)(h:l.getD y default=0):ID (l.drop y)=ID (l.drop (y+1)):=by
 rw[Hd hy];have:l[y]=0:=by simpa [List.getD,hy]using h
 simp[ID,this]
def U5{l:b8}{y:Nat}(hy:y<l.length)(h:l.getD y default≠0):ID (l.drop y)=l.getD y default:=by
 rw[Hd hy];have e:l.getD y default=l[y]:=by simp[List.getD,hy]
 rw[e]at h⊢;simp only[ID,E3,TB,(Zdm (a:=l[y]) (b:=(0:Int))).2 h]
def t53(l:b8)(hl:l.length<=1000000):aI Tryd.prog 88 [.sl (aw l)] (ti (ID l)):=by
 have am:=MC;refine c53.ok (by simp) (aC ?_);simp;apply aa.ag am fw [0];simp[ZA];apply aa.ag am fw [0,3];simp[ZB];apply aa.sq am fw [3,6,7,8];simp[ZC];apply aa.block;refine aa.loop (λy:Nat=>⟨DM.look [(3,.v (ti 0)),(6,.v (.sl (aw l))),(7,.v (ti l.length)),(8,.v (ti y))],cC [],2000,1000,[]⟩)
  (λy=>y<=l.length/\ID (l.drop y)=ID l) (λy=>l.length-y) 0 (Le.aD (o:=[]) ?_ ?_ ?_ ?_) (by simp) (λy hy=>?_)
 iterate 4(·simp)
 obtain⟨pT,eG⟩:=hy;apply aa.ag am fw [3,6,7,8,9];simp[ZD];apply aa.seq;refine aa.cond rfl (λh=>?_) (λh=>?_)
 ·simp at h;apply aa.skip;simp;apply aa.seq;apply aa.block;have hr:=bS h;obtain⟨p,hp⟩:=ba (l.getD y default);rw[hp]at hr;apply aa.ag am fw [3,5,6,7,8];simp[ZE,hr,h];apply aa.ag am fw [3,5,6,7,8,14];simp[ZF];refine aa.cond rfl (λh2=>?_) (λh2=>?_)
  ·simp at h2;apply aa.ag am fw [2];simp[ZG];apply aa.ret;rw[U5 h (by rw[hp];exact h2),hp]at eG;simp[ci,eG]
  ·simp at h2;apply aa.skip;simp;apply aa.cX am fw [3,6,7,8];simp[ZH];rw[aq (by omega)];refine⟨y+1,Le.aD (o:=[]) ?_ ?_ ?_ ?_,⟨by omega, ?_⟩,by omega⟩;iterate 4(·simp)
   ·rw[<-eG,SG h (by rw[hp];exact h2)]
 ·simp at h;apply aa.exit;simp;apply aa.ag am fw [2];simp[ZI];apply aa.ret;have:l.drop y=[]:=zN (by omega);rw[this]at eG;simp only[ci];rw[<-eG];simp[ID]
abbrev acE:DM.Spec:=bp (λts=>∃a b,ts=[ti a,ti b]) (fun|[.int _ a,.int _ b]=>ti (nV a b)|_=>.bool false) true
abbrev acF:DM.Spec:=bp (λts=>∃l:b8,ts=[.sl (aw l)]/\l.length<=1000000) (fun|[.sl l]=>ti (ID (dS l))|_=>.bool false) true
def aiM:au Tryd.prog (bG [(89,acE),(88,acF)]):=by
 refine au.cons (au.cons au.nil ?_) ?_
 ·rintro ts ⟨l,rfl,h⟩;have:=t53 l h;rw[<-uM l]at this;exact⟨by simpa using t53 l h,λ_=>rfl⟩
 ·rintro ts ⟨a,b,rfl⟩;exact⟨t54 a b,λ_=>rfl⟩
def t33(a b c d e f:Int):aI Tryd.prog 58 [.agg [ti a,ti b,ti c],.agg [ti d,ti e,ti f]] (ti (ID [nV a d,nV b e,nV c f])):=by
 have am:=aiM;refine c33.ok (by simp) (aC ?_);simp;apply aa.ag am fw [2,3];simp[D6];apply aa.ag am fw [4];simp[D7];refine⟨⟨[nV a d,nV b e,nV c f],rfl,by simp⟩, ?_⟩;apply aa.ret;simp[ajX];rfl
end
def zu(s aK:Int)(a:bk):Prop:=¬(a.f<0\/a.f>a.t\/a.t>=s\/a.term<0\/a.term>=aK\/a.aG<0\/a.aG>=1099511627776\/(a.f=a.t/\a.aG=0))
instance(s aK:Int)(a:bk):Decidable (zu s aK a):=by unfold zu;infer_instance
def bF(a b:bk):Prop:=a.f<b.f\/(a.f=b.f/\(a.t<b.t\/(a.t=b.t/\a.term<b.term)))
instance(a b:bk):Decidable (bF a b):=by unfold bF;infer_instance
def C7(f:b8)(i:Nat):Prop:=0<=f.getD i default/\f.getD i default<=1099511627776
def G9(l:aM)(aK:Int)(i:Nat):Prop:=zu l.aj aK (l.aL.getD i default)/\(i=0\/bF (l.aL.getD (i-1) default) (l.aL.getD i default))
def xo(l:aM)(aK:Int):Prop:=(1<=l.aj/\(l.bK.length:Int)=l.aj)/\(∀i,i<l.bK.length->C7 l.bK i)/\∀i,i<l.aL.length->G9 l aK i
instance(f:b8)(i:Nat):Decidable (C7 f i):=by unfold C7;infer_instance
instance(l:aM)(aK:Int)(i:Nat):Decidable (G9 l aK i):=by unfold G9;infer_instance
instance(l:aM)(aK:Int):Decidable (xo l aK):=by unfold xo;infer_instance
def t39(a b:bk):aI Tryd.prog 71 [.agg a.enc,.agg b.enc] (.bool (decide (bF a b))):=by
 have am:=MC;obtain⟨v,hv⟩:=ba (decide (bF a b));rw[hv];refine c39.ok (by simp) (aC ?_);simp[bk.enc];apply aa.ag am fw [2,3];simp[apr];apply aa.sq am fw [2,3,9];simp[aps];refine aa.cond rfl (λh=>?_) (λh=>?_)
 ·simp at h;apply aa.ag am fw [4];simp[amX];apply aa.ret;simp[ci,<-hv,bF,h]
 ·simp at h;apply aa.skip;simp;apply aa.sq am fw [2,3,19];simp[amY];refine aa.cond rfl (λh2=>?_) (λh2=>?_)
  ·simp at h2;apply aa.ag am fw [4];simp[aso];apply aa.ret;simp[ci,<-hv,bF,h,h2]
  ·simp at h2;apply aa.skip;simp;apply aa.ag am fw [4];simp[asp];apply aa.ret;simp[ci,<-hv,bF,h,h2]
abbrev aoZ:DM.Spec:=bp (λts=>∃a b:bk,ts=[.agg a.enc,.agg b.enc]) (fun|[.agg x,.agg y]=>.bool (decide (bF (ke x) (ke y)))|_=>.bool false) true
def atB:au Tryd.prog (bG [(71,aoZ)]):=by
 refine au.cons au.nil ?_;rintro ts ⟨a,b,rfl⟩;exact⟨by simpa using t39 a b,λ_=>rfl⟩
def tN{n:Int}(h:0<=n/\n<18446744073709551616):IntKind.u64.wrap n=n:=by
 unfold IntKind.wrap;simp[IntKind.bits,IntKind.signed];omega
def G6{n:Nat}(h:n<4294967296):n % 2^IntKind.u64.bits&&&4294967295 % 2^IntKind.u64.bits=n:=by
 have e:IntKind.u64.bits=64:=rfl;rw[e,Sx (show n<2^64 by omega),show 4294967295 % 2^64=2^32-1 by decide,Nat.and_two_pow_sub_one_eq_mod,Sx (by omega)]
def t60(x y:Nat)(hx:x<4294967296)(hy:y<4294967296):aI Tryd.prog 98 [.int .u64 x,.int .u64 y] (.dh [.int .u64 0,.int .u64 ((x*y:Nat):Int)]):=by
 have am:=MC;refine c60.ok (by simp) (aC ?_);simp;apply aa.ag am fw [0,1];simp[ZT];obtain⟨p,hp⟩:=ba (x*y);have Mx:p<18446744073709551616:=by
  rw[<-hp]
  calc x*y<=4294967295*4294967295:=Nat.mul_le_mul (by omega) (by omega)
   _<_:=by decide
 have Fh:(x:Int)*y=p:=by rw[<-hp];simp
 have e1:=tN (n:=x) (by omega);have e2:=tN (n:=y) (by omega);have e3:=tN (n:=p) (by omega);have b:IntKind.u64.bits=64:=rfl;have e0:IntKind.u64.wrap 0=0:=rfl;have d1:(x:Int)/4294967296=0:=by omega
 have d2:(y:Int)/4294967296=0:=by omega
 have d3:(p:Int)/4294967296<4294967296:=by omega
 obtain⟨q,hq⟩:∃q:Nat,(p:Int)/4294967296=q:=⟨p/4294967296,by omega⟩;have hqb:q<4294967296:=by omega
 have e4:=tN (n:=q) (by omega);have d4:(q:Int)/4294967296=0:=by omega
 rw[Fh];apply aa.ag am fw [0,1,6];simp[ZU,G6 hx,e1];apply aa.ag am fw [0,1,6,7];simp[ZV,b,d1];apply aa.ag am fw [0,1,6,7,8];simp[ZW,G6 hy,e2];apply aa.ag am fw [0,1,6,7,8,9];simp[ZX,b,d2];apply aa.ag am fw [0,1,6,7,8,9,10];simp[ZY,Fh,e3];apply aa.ag am fw [0,1,6,7,8,9,10,11];simp[ZZ,e0,b,hq,e4];apply aa.ag am fw [0,1,6,7,8,9,10,11,12];simp[Z0,G6 hqb,e4];apply aa.ag am fw [0,1,6,7,8,9,10,11,12,13];simp[Z1,b,d4];apply aa.ag am fw [0,1,6,7,8,9,10,11,12,13];simp[Z2,e0,e4];apply aa.ag am fw [0,1,4];simp[RM,e0,b,d4];apply aa.ag am fw [4,5];simp[RN,Fh,e3];apply aa.ret;simp[RP]
abbrev acG:DM.Spec:=bp (λts=>∃x y:Nat,ts=[.int .u64 x,.int .u64 y]/\x<4294967296/\y<4294967296) (fun|[.int _ x,.int _ y]=>.dh [.int .u64 0,.int .u64 (x*y)]|_=>.bool false) false
def aiN:au Tryd.prog (bG [(98,acG)]):=by
 refine au.cons au.nil ?_;rintro ts ⟨x,y,rfl,h1,h2⟩;exact⟨by simpa using t60 x y h1 h2,λh=>by cases h⟩
def t46(x y:Nat)(hx:x<4294967296)(hy:y<4294967296):aI Tryd.prog 81 [.int .u64 x,.int .u64 y] (.dh [.int .u64 0,.int .u64 ((x*y:Nat):Int)]):=by
 have am:=aiN;refine c46.ok (by simp) (aC ?_);simp;apply aa.ag am fw [0,1];simp[DB];apply aa.seq;refine aa.cond rfl (λh=>by cases h) (λh=>?_);apply aa.skip;simp;apply aa.ag am fw [8,9];simp[ZR];refine⟨⟨x,y,⟨rfl,rfl⟩,hx,hy⟩, ?_⟩;apply aa.ag am fw [4,5];simp[ZS];apply aa.ret;simp[xC]
abbrev acH:DM.Spec:=bp (λts=>∃x y:Nat,ts=[.int .u64 x,.int .u64 y]/\x<4294967296/\y<4294967296) (fun|[.int _ x,.int _ y]=>.dh [.int .u64 0,.int .u64 (x*y)]|_=>.bool false) false
def aiO:au Tryd.prog (bG [(81,acH)]):=by
 refine au.cons au.nil ?_;rintro ts ⟨x,y,rfl,h1,h2⟩;exact⟨by simpa using t46 x y h1 h2,λh=>by cases h⟩
def t29(v:Int)(n:Nat)(h1:1<=n)(hn:n<=10000000):mf Tryd.prog 54 [.sl (aw [v]),ti n] 3 1 (aw (List.replicate n v)):=by
 have am:=aiO;refine c29.B2 (by simp) (aC ?_);simp;apply aa.ag am fw [0,1];simp[Zs];apply aa.sq am fw [0,1,10];simp[Zt];refine aa.cond rfl (λh=>by simp at h;omega) (λh=>?_);apply aa.skip;simp;have e1:=tN (n:=1) (by omega);have e2:=tN (n:=n) (by omega);apply aa.ag am fw [0,1,5,6];simp[Zu,e1,e2];refine⟨⟨1,n,⟨rfl,rfl⟩,by omega,by omega⟩, ?_⟩;apply aa.sq am fw [0,6,26];simp[Zv];refine aa.cond rfl (λh=>by simp at h;omega) (λh=>?_);apply aa.skip;simp;apply aa.ag am fw [0,7];have w1:IntKind.i64.wrap (n:Int)=n:=aq (by omega);simp[Zw,w1];refine⟨by simp[cw];omega, ?_⟩;apply aa.ag am fw [7,8];have hrp:∀(k:Nat),aw [v]=[[ti v]]:=λ_=>rfl;obtain⟨n',rfl⟩:∃n',n=n'+1:=⟨n-1,by omega⟩;simp[Zx,aw,V5];apply aa.seq;apply aa.block;refine aa.loop (λy:Nat=>⟨DM.look [(7,.aQ 1227 0),(8,.v (ti (y+1:Nat)))],cC [(1227,.aR 0 3 1 (List.replicate (y+1) [ti v]++List.replicate (n'-y) [ti 0]))],3000,1000,[]⟩)
  (λy=>y<=n') (λy=>n'-y) 0 (Le.aD ?_ ?_ ?_ ?_) (by simp) (λy hy=>?_)
 iterate 4(·simp)
 apply aa.sq am fw [7,8,37];simp[Zy];refine aa.cond rfl (λh=>?_) (λh=>?_)
 ·simp at h;apply aa.skip;simp;apply aa.block;apply aa.cX am fw [7,8];have q1:((y:Int)+1<=(y:Int)+1+((n'-y:Nat):Int))=True:=by simp;omega
  simp[Zz,q1];obtain⟨k,hk⟩:=ba (min (n'-y) (y+1));have k1:min ((↑y+1+((n'-y:Nat):Int)).toNat-(y+1)) (y+1)=k:=by omega
  have k2:min (y+1) ((↑y+1+((n'-y:Nat):Int)).toNat-(y+1))=k:=by omega
  rw[k1,k2];have e:List.drop (y+1+k) (List.replicate (y+1) [ti v]++List.replicate (n'-y) [ti 0])=List.replicate (n'-(y+k)) [ti 0]:=by
   rw[NU];simp;omega
  rw[e];refine⟨by omega,y+k,Le.aD ?_ ?_ ?_ ?_,by omega,by omega⟩
  ·simp
  ·simp
  ·simp;omega
  ·simp;rw[aq (by omega)];omega
 ·simp at h;have:y=n':=by omega
  subst this;apply aa.exit;simp;apply aa.ag am fw [4];simp[RH];apply aa.ret;exact .inr ⟨1227,0,by simp,by simp[V5]⟩
def aaQ(ts:ar):Prop:=∃(v:Int) (n:Nat),ts=[.sl (aw [v]),ti n]/\1<=n/\n<=10000000
def acz:ar->List (ar)
 |[.sl [[v]],.int _ n]=>List.replicate n.toNat [v]
 |_=>[]
def aaF(l:b8)(i:Nat)(v:Int):(aw l).set i [ti v]=aw (l.set i v):=by simp[aw,Zc8]
def kq(a b:Int):Int:=if 1099511627776<=a\/1099511627776<=b\/1099511627776<=a+b then 1099511627776 else a+b
def t36(a b:Int)(ha: -1000000000000000000<=a)(hb: -1000000000000000000<=b):aI Tryd.prog 39 [ti a,ti b] (ti (kq a b)):=by
 have am:=MC;refine c36.ok (by simp) (aC ?_);simp;apply aa.ag am fw [0,1];simp[DA];apply aa.seq;refine aa.co am fw [(0,.v (ti a)),(1,.v (ti b)),(16,.v (.bool (decide (1099511627776<=a\/1099511627776<=b\/1099511627776<=a+b))))] ?_ ?_
 ·by_cases q1:1099511627776<=a
  ·simp[uK,q1]
  ·by_cases q2:1099511627776<=b
   ·simp[uK,q1,q2]
   ·have w:IntKind.i64.wrap (a+b)=a+b:=aq (by omega);by_cases q3:1099511627776<=a+b
    ·simp[uK,q1,q2,w,q3]
    ·simp[uK,q1,q2,w,q3]
 refine aa.cond rfl (λh=>?_) (λh=>?_)
 ·simp only[o5]at h;apply aa.ag am fw [4];simp[asq];apply aa.ret;simp[ci,kq,h]
 ·simp only[nX]at h;apply aa.skip;simp;apply aa.ag am fw [4];simp[asr];apply aa.ret;rw[aq (by omega)];simp only[kq,h,Lg];simp[ci]
abbrev al6:DM.Spec:=bp (λts=>∃a b:Int,ts=[ti a,ti b]/\-1000000000000000000<=a/\-1000000000000000000<=b) (fun|[.int _ a,.int _ b]=>ti (kq a b)|_=>.bool false) true
def atd:au Tryd.prog (bG [(39,al6)]):=by
 refine au.cons au.nil ?_;rintro ts ⟨a,b,rfl,h1,h2⟩;exact⟨t36 a b h1 h2,λ_=>rfl⟩
section
variable{f:bA}{low:Nat}
def Pp:au Tryd.prog (bG []):=au.nil
def mw{l:d0}{r:Nat}(hf:mV f low)(h:low<=r)(hl:∀p∈l,p.1≠r):gone (cB l f) id r:=by
 intro r' jV e;simp only[id]at e;subst e;cases ho:cB l f r' with
 |none=>exact jV ho
 |some o=>
  rcases oU ho with h1|⟨_,h1⟩
  ·exact hl _ h1 rfl
  ·have:=(hf r' o h1).1;omega
def dU:List bz->Int->Int
 |[],c=>c
 |x::l,c=>dU l (min (c+x.delete) 1099511627776)
def dB(n:Nat):List (Int×Int):=List.replicate n (2,0)
def sk(l:List bz)(x:bz)(c:Int):dU (l++[x]) c=min (dU l c+x.delete) 1099511627776:=by
 induction l generalizing c with
 |nil=>rfl
 |cons y l ih=>simp[dU,ih]
def mo{l:List bz}(h:∀c∈l,0<=c.delete):∀c,0<=c/\c<=1099511627776->0<=dU l c/\dU l c<=1099511627776:=by
 induction l with
 |nil=>intro c hc;exact hc
 |cons y l ih=>
  intro c hc;have:=h y (by simp);exact ih (λz hz=>h z (by simp[hz])) _ (by omega)
def GX(l:List bz)(n:Nat):(bj l).take n=bj (l.take n):=by simp[bj,T0]
def GY(l:List bz)(n:Nat):(bj l).drop n=bj (l.drop n):=by simp[bj,List.map_drop]
def lz(abf:List bz):Prop:=abf.length<=1000000/\∀c∈abf,0<=c.delete/\c.delete<=1099511627776
def t31{b m:Nat}{x:Input}{i j:Nat}{N:Nat}(hN:∀r,N<=r->f r=none)(hb:f b=some (.box (b7 x m)))(TK:i<=j)(hj:j<=x.ai.length)(hd:lz x.ai):
  b9 Tryd.prog 56 [.ptr b 0,.v (ti i),.v (ti j)] f ⟨True,.v (.dh [ti (dU ((x.ai.take j).drop i) 0),.sl (ce (dB (j-i)))]),f⟩:=by
 have am:=Pp;refine c31.KQ hN (by simp) λcD=>?_;have yq:b<N:=(cD b _ hb).1;obtain⟨part,p8⟩:=ba ((x.ai.take j).drop i);have MJ:part.length=j-i:=by rw[<-p8];simp;omega
 have hpd:∀c∈part,0<=c.delete/\c.delete<=1099511627776:=λc hc=>hd.2 c (by rw[<-p8]at hc;exact ud (EK hc));have NY:((bj x.ai).take j).drop i=bj part:=by rw[GX,GY,p8]
 have bX:∀r∈bj x.ai,r.length=3:=by intro r hr;simp only[bj,kL]at hr;obtain⟨c,_,rfl⟩:=hr;rfl
 have dI:=hd.1;rw[p8];clear p8;simp;apply aa.ag am fw [0,1,2,7];simp[Zi];apply aa.ag am fw [0,1,2,8];simp[Zj];apply aa.ag am fw [0,1,2,8,9];simp[Zk];apply aa.sq am fw [8,9,19,20,21];simp[Zl,hb,b7,TK,hj,NY];refine⟨bX, ?_⟩;refine aa.le (Le.gk (l1:=[]) (l:=[(8,.v (ti 0)),(9,.aF),(19,.v (.sl (bj part))),(20,.v (ti part.length)),(21,.v (ti 0))]) (bC:=N+200) cD ?_ ?_ ?_ ?_ ?_) ?_
 ·omega
 ·simp
 ·simp[cx]
 ·simp[kb]
 ·simp
 refine aa.le (Le.lK (k:=9) 68 (sz:=2) (by omega) (by simp)) ?_;rw[ez];apply aa.block;refine aa.loop (λy:Nat=>⟨DM.look [(8,.v (ti (dU (part.take y) 0))),(9,.aQ (N+200) 0),(19,.v (.sl (bj part))),(20,.v (ti part.length)),(21,.v (ti y))],cB [(N+200,.aR 0 68 2 (ce (dB y)))] f,N+300,N,[]⟩)
  (λy=>y<=part.length) (λy=>part.length-y) 0 (Le.gk cD ?_ ?_ ?_ ?_ ?_) (by simp) (λy hy=>?_)
 ·omega
 ·simp
 ·simp[cx]
 ·simp[kb,jA,dB,ce]
 ·simp[dU]
 apply aa.ag am fw [8,9,19,20,21,22];simp[Zm];apply aa.seq;have u3:=mo (l:=part.take y) (λc hc=>(hpd c (ud hc)).1) 0 (by omega);refine aa.cond rfl (λhc=>?_) (λhc=>?_)
 ·simp at hc;apply aa.skip;simp;apply aa.seq;apply aa.block;apply aa.ag am fw [8,9,11,19,20,21];have fz:=cu hc;obtain⟨c,uf⟩:=ba (part[y]);have Ar:c∈part:=by rw[<-uf];exact ME hc
  have TS:=hpd c Ar;have V3:part.take (y+1)=part.take y++[c]:=by rw[CB,fq hc,uf];rfl
  simp[Zn,fz,uf,hc,bz.enc];apply aa.ag am fw [8,9,11,19,20,21];simp[Zo];rw[aq (by omega)];apply aa.cX am fw [8,9,19,20,21];simp[Zp,cw,dW];refine⟨by
    have:(dB y).length=y:=by simp[dB]
    omega, ?_⟩
  apply aa.cX am fw [8,9,19,20,21];simp[Zq];refine⟨y+1,Le.gk cD ?_ ?_ ?_ ?_ ?_,by omega,by omega⟩
  ·omega
  ·simp
  ·simp[cx];omega
  ·simp[kb,jA,dB,ce,ZcQ]
  ·simp[V3,sk];rw[aq (by omega)]
 ·simp at hc;have sH:y=part.length:=by omega
  subst sH;apply aa.exit;simp;apply aa.ag am fw [6,7];simp[Zr];refine aa.le (Le.gk (l1:=[]) (l:=[(6,.v (ti (dU part 0))),(7,.v (.sl (ce (dB part.length))))]) (bC:=N+1000) cD ?_ ?_ ?_ ?_ ?_) ?_
  ·omega
  ·simp
  ·simp[cx]
  ·simp[kb]
  ·simp;exact mw cD (by omega) (by simp)
  apply aa.ret;simp[RF,MJ];rfl
def cz(x:Input)(m:Nat):Bool:=
 decide (m+1<x.ai.length/\0<x.swap/\0<=(x.ai.getD m default).kind/\0<=(x.ai.getD (m+1) default).kind)
def t50{b m:Nat}{x:Input}{i:Nat}{N:Nat}(hN:∀r,N<=r->f r=none)(hb:f b=some (.box (b7 x m)))(hi:i<=1000000)(hl:x.ai.length<=1000000):
  b9 Tryd.prog 85 [.ptr b 0,.v (ti i)] f ⟨True,.v (.bool (cz x i)),f⟩:=by
 have am:=Pp;refine c50.KQ hN (by simp) λcD=>?_;simp;apply aa.ag am fw [0,1,4];simp[DK];apply aa.ag am fw [0,1,5];simp[DL,hb,b7];have hw:IntKind.i64.wrap ((i:Int)+1)=i+1:=aq (by omega);refine aa.co am fw [(4,.v (.bool (cz x i)))] ?_ ?_
 ·by_cases h1:i+1<x.ai.length
  ·have mU:=cu (l:=x.ai) (y:=i) (by omega);have nS:DM.rowAt (bj x.ai) ((i:Int)+1)=(x.ai.getD (i+1) default).enc:=cu (l:=x.ai) h1;obtain⟨c1,cn⟩:=ba (x.ai.getD i default);obtain⟨c2,fg⟩:=ba (x.ai.getD (i+1) default);rw[cn]at mU;rw[fg]at nS;have Ld:((i:Int)+1<x.ai.length)=True:=by simp;omega
   have Hi:((i:Int)<x.ai.length)=True:=by simp;omega
   have hd3:(0<=(i:Int)+1)=True:=by simp;omega
   have hd4:i<x.ai.length:=by omega
   have vO:cz x i=(decide (0<x.swap)&&(decide (0<=c1.kind)&&decide (0<=c2.kind))):=by
    unfold cz;rw[cn,fg];simp[h1]
   by_cases s1:0<x.swap<;>by_cases s2:0<=c1.kind<;>by_cases s3:0<=c2.kind<;>simp[zL,hb,b7,hw,mU,nS,Ld,Hi,hd3,bz.enc,s1,s2,s3,vO]
  ·have Ld:((i:Int)+1<x.ai.length)=False:=by simp;omega
   simp[zL,hw,Ld];simp[cz]
   intros;omega
 apply aa.ret;simp[abT];rfl
def Le.L9{tm:cQ}{ob:bA}{az:Nat}{td:List (ar)}{P:Program}{nt:Nat}{d:DC}{Q:Exit->nO->Prop}{k:Nat}(hk:tm k=.v (.sl []))
  (h:∀(p:Option Addr) (c:Nat),aa P nt d Q ⟨bW tm (some k) (.v (.mb (.slice p 0 c))),ob,az,low,td⟩):aa P nt d Q ⟨tm,ob,az,low,td⟩:=by
 refine⟨λc hc n κ a w L g r=>?_⟩;obtain⟨W,base,M,w0,fF,h0⟩:=r.r.ex;have hx:=h0.tmps k;simp only[hk,ap,aO]at hx;have lq:∃(p:Option Addr) (cp:Nat),a.tmps.getD k Go.undef=.slice p 0 cp:=by
  rcases hx with⟨_,p,cp,hx⟩|⟨b,o,cp,sz,hx,_⟩
  ·exact⟨p,cp,hx⟩
  ·exact⟨_,cp,hx⟩
 obtain⟨p,cp,hx⟩:=lq;refine(h p cp).run c hc n κ a w L g ⟨⟨⟨W,base,M,w0,fF,h0.size,λt=>?_,h0.o⟩,r.r.er,r.r.defers,r.r.bg,r.r.je⟩,r.fresh,r.low,r.it⟩;simp only[bW];by_cases ht:t=k
 ·subst ht;simp only[yh,ap,aO];exact hx
 ·simp only[ht,Lg];exact h0.tmps t
def YF(l:List (Int×Int))(hl:l.length<=1000000):mf Tryd.prog 84 [.sl (ce l)] 68 2 (ce l):=by
 have am:=Pp;refine Yv.B2 (by simp) (aC ?_);simp;have bX:∀r∈ce l,r.length=2:=by intro r hr;simp only[ce,kL]at hr;obtain⟨c,_,rfl⟩:=hr;rfl
 apply aa.ag am fw [0,2];simp[zK];cases l with
 |nil=>
  refine Le.L9 (k:=0) (by simp[ce]) λp c=>?_;apply aa.sq am fw [0,2,4];simp[xF];refine aa.cond rfl (λh=>?_) (λh=>?_)
  ·apply aa.ag am fw [2];simp[DJ];apply aa.ret;exact .inl ⟨by simp,by simp[ce],by omega⟩
  ·apply aa.skip;simp;apply aa.ag am fw [2];simp[xG,cw];apply aa.ret;exact .inr ⟨1026,0,by simp,by simp[ce]⟩
 |cons o l=>
  apply aa.sq am fw [0,2,4];simp[xF];refine⟨by simp[ce], ?_⟩;refine aa.cond rfl (λh=>by cases h) (λh=>?_);apply aa.skip;simp;apply aa.ag am fw [2];simp[xG,cw];refine⟨⟨bX,by simp at hl⊢;omega⟩, ?_⟩;apply aa.ret;exact .inr ⟨1026,0,by simp,by simp⟩
end
def Ih{a b:Int}(ha:0<=a)(hb:0<=b):0<=kq a b:=by unfold kq;split<;>omega
section
variable{gY:Nat}{es:List (Nat×T×DV)}
def Eg(es:List (Nat×T×DV)):Prop:=∀e∈es,∃a:bk,e.2.2=.v (.agg a.enc)
def SA{f:bA}{N n:Nat}{l0 l1:d0}(cD:mV f N)(h0:∀p∈l0,N<=p.1)(h1:∀p∈l1,N<=p.1)(hn:f n≠none):sameAt (cB l0 f) (cB l1 f) n:=by
 obtain⟨o,ho⟩:=JR.1 hn;have dR:=(cD n o ho).1;refine⟨o,o, ?_, ?_,cY o⟩
 ·rw[oV λo' h=>by have:=h0 _ h;simp only at this;omega];exact ho
 ·rw[oV λo' h=>by have:=h1 _ h;simp only at this;omega];exact ho
def SB{k:T}{c:Int}{y:DV}{e:Nat×T×DV}(h:e∈mM k c y gY es):e.2.2=y\/∃e'∈es,e.2.2=e'.2.2:=by
 unfold mM at h;split at h
 ·rename_i hbt;clear hbt;unfold Am at h;split at h
  ·rename_i i hi;clear hi;induction es generalizing i with
   |nil=>simp at h
   |cons e0 es ih=>
    cases i with
    |zero=>
     simp only[YI,pH]at h;rcases h with rfl|h
     ·exact .inl rfl
     ·exact .inr ⟨e,by simp[h],rfl⟩
    |succ i=>
     simp only[pC,pH]at h;rcases h with rfl|h
     ·exact .inr ⟨e,by simp,rfl⟩
     ·rcases ih i h with h|⟨e',h1,h2⟩
      ·exact .inl h
      ·exact .inr ⟨e',by simp[h1],h2⟩
  ·rcases dP.1 h with h|h
   ·exact .inr ⟨e,h,rfl⟩
   ·simp only[ic]at h;subst h;exact .inl rfl
 ·exact .inr ⟨e,h,rfl⟩
def IA:bD->bA->fp
 |[.ptr b 0,.agg [.v (.int .i64 f),.v (.int .i64 t),.v (.int .i64 x),.v (.int .i64 c),d]],ab=>
  match ab b with
  |some (.box [_,_,_,.dQ m])=>match ab m with
   |some (.map bB agg gY es)=>⟨bB=jx/\agg=true/\Eg es/\an2 d/\∀n∈aS d,ab n≠none,.v (.dh []),
     bI ab m (.map jx true (qM (keyOf f t x) c gY es) (mM (keyOf f t x) c (.agg [.v (ti f),.v (ti t),.v (ti x),.v (ti c),d]) gY es))⟩
   |_=>⟨False,.undef,ab⟩
  |_=>⟨False,.undef,ab⟩
 |_,ab=>⟨False,.undef,ab⟩
def t48{f0:bA}{b m:Nat}{c1 c2 c3:DV}{f t x c:Int}{d:DV}{N:Nat}(hN:∀r,N<=r->f0 r=none)(hb:f0 b=some (.box [c1,c2,c3,.dQ m]))(hm:f0 m=some (.map jx true gY es))(he:Eg es)(hd:an2 d)(Fe:∀n∈aS d,f0 n≠none):
  b9 Tryd.prog 83 [.ptr b 0,.agg [.v (ti f),.v (ti t),.v (ti x),.v (ti c),d]] f0 ⟨True,.v (.dh []),bI f0 m (.map jx true (qM (keyOf f t x) c gY es) (mM (keyOf f t x) c (.agg [.v (ti f),.v (ti t),.v (ti x),.v (ti c),d]) gY es))⟩:=by
 have am:=Pp;refine Yu.KQ hN (by simp) λcD=>?_;have yq:b<N:=(cD b _ hb).1;have IB:m<N:=(cD m _ hm).1;have tG:b≠m:=λe=>by rw[e,hm]at hb;cases hb
 have nb:∀k,b≠N+k:=λk=>by omega
 have nm:∀k,m≠N+k:=λk=>by omega
 simp;apply aa.ag am fw [0,3];simp[zH];apply aa.ag am fw [0,3,4];simp[zI];obtain⟨k,hk⟩:=ba (keyOf f t x);have qo:T.agg [ti f,ti t,ti x]=k:=hk;rw[hk];refine aa.le (Le.gk (l1:=[(N+49,.box [.v (ti f),.v (ti t),.v (ti x)]),(N+4,.box [.v (ti f),.v (ti t),.v (ti x),.v (ti c),d])]) (l:=[(0,.ptr b 0),(3,.ptr (N+4) 0),(4,.ptr (N+49) 0)]) (bC:=N+100) cD ?_ ?_ ?_ ?_ ?_) ?_
 ·omega
 ·simp
 ·simp[cx]
 ·refine⟨⟨.box [.v (ti f),.v (ti t),.v (ti x)],by simp[ym],.inl (by simp),by omega⟩,⟨.box [.v (ti f),.v (ti t),.v (ti x),.v (ti c),d],by simp[ym],.inr ⟨rfl,λn hn=>?_⟩,by omega⟩,trivial⟩;refine SA cD ?_ ?_ (Fe n (by simpa [gI,ca,aS]using hn))
  ·simp;omega
  ·simp
 ·simp[hb,nb,ym]
 have hko:cU jx true k:=by rw[<-hk];simp[keyOf]
 have H:∀(q1 q2 q3 q5:DV) (oc:Int) (Rb:Bool),Rb=(sF k es).isSome->(∀e,sF k es=some e->oc=Bx e.2.2)->
   aa Tryd.prog 43 ((DC.region false DI).seq (DC.cond (be.tmp 36) (DC.region true zJ) DC.skip))
    (UD qJ ⟨True,.v (.dh []),bI f0 m (.map jx true (qM k c gY es) (mM k c (.agg [.v (ti f),.v (ti t),.v (ti x),.v (ti c),d]) gY es))⟩)
    ⟨DM.look [(0,.ptr b 0),(3,.ptr (N+4) 0),(4,.ptr (N+49) 0),(5,.ptr (N+106) 0),(6,.v (.bool Rb))],
     cB [(N+106,.box [q1,q2,q3,.v (ti oc),q5]),(N+106,.box [.v (ti 0),.v (ti 0),.v (ti 0),.v (ti 0),.aF]),(N+49,.box [.v (ti f),.v (ti t),.v (ti x)]),(N+4,.box [.v (ti f),.v (ti t),.v (ti x),.v (ti c),d])] f0,N+144,N,[]⟩:=by
  intro q1 q2 q3 q5 oc Rb U2 hoc;have aiG:qL k c es=(decide (c<1099511627776)&&(!Rb||decide (c<oc))):=by
   unfold qL;cases hf:sF k es with
   |none=>simp[hf]at U2;simp[U2]
   |some e=>simp[hf]at U2;simp[U2,hoc e hf]
  obtain⟨y,hy⟩:=ba (DV.agg [.v (ti f),.v (ti t),.v (ti x),.v (ti c),d]);have UW:∀n∈aS y,f0 n≠none:=by
   intro n hn;refine Fe n ?_;rw[<-hy]at hn;simpa [aS,ca]using hn
  have lc:∀e∈es,aS e.2.2=[]:=λe MQ=>by obtain⟨a,ha⟩:=he e MQ;rw[ha];rfl
  rw[hy];refine aa.to ⟨DM.look [],cB [(m,.map jx true (qM k c gY es) (mM k c y gY es))] f0,N+1000,N,[]⟩ ?_ (by simp[qJ];rfl);refine aa.co am fw [(0,.ptr b 0),(3,.ptr (N+4) 0),(4,.ptr (N+49) 0),(36,.v (.bool (qL k c es)))] ?_ ?_
  ·by_cases s1:c<1099511627776<;>cases Rb<;>by_cases s2:c<oc<;>simp[DI,s1,s2,aiG]
  refine aa.cond rfl (λh=>?_) (λh=>?_)
  ·apply aa.cX am fw [];simp[-cU,zJ,ym,nb,nm,hb,hm,qo,hko];refine Le.gk (l:=[]) cD ?_ ?_ ?_ ?_ ?_
   ·omega
   ·simp;omega
   ·simp[cx];omega
   ·refine⟨⟨.map jx true (qM k c gY es) (mM k c y gY es),by simp[qM,mM,h,hy],.inr ⟨rfl,λn hn=>?_⟩,λ_=>cY _⟩,trivial⟩
    ·simp only[gI,yf]at hn;obtain⟨e,MQ,hn⟩:=hn;rcases SB MQ with h'|⟨e',h',h''⟩
     ·rw[h']at hn;obtain⟨o,ho⟩:=JR.1 (UW n hn);have dR:=(cD n o ho).1;by_cases Q3:n=m
      ·subst Q3;exact⟨.map jx true (qM k c gY es) (mM k c y gY es),.map jx true (qM k c gY es) (mM k c y gY es),by simp[qM,mM,h,hy],by simp,cY _⟩
      ·refine⟨o,o, ?_, ?_,cY o⟩
       ·simp[Q3,show n≠N+106 by omega,show n≠N+49 by omega,show n≠N+4 by omega,ho]
       ·simp[Q3,ho]
     ·rw[h'',lc e' h']at hn;cases hn
   ·simp
  ·refine aa.skip ⟨rfl,Le.gk (l:=[]) cD ?_ ?_ ?_ ?_ ?_⟩
   ·omega
   ·simp;omega
   ·simp[cx];omega
   ·refine⟨⟨.map jx true gY es,by simp[nm,hm],.inr ⟨by simp[qM,mM,h],λn hn=>?_⟩,λ_=>by simp[ga]⟩,trivial⟩
    ·simp only[gI,yf]at hn;obtain⟨e,MQ,hn⟩:=hn;rw[lc e MQ]at hn;cases hn
   ·simp
 apply aa.ag am fw [0,3,4,5,6];cases hf:sF k es with
 |none=>
  simp[-cU,xD,ym,nb,nm,hb,hm,qo,hko,hf];exact H _ _ _ _ 0 false (by simp[hf]) (by simp[hf])
 |some e=>
  obtain⟨a,ha⟩:=he e (YG hf);simp[-cU,xD,ym,nb,nm,hb,hm,qo,hko,hf,ha,bk.enc];exact H _ _ _ _ a.aG true (by simp[hf]) (by intro e' MQ;rw[hf]at MQ;cases MQ;simp[ha,bk.enc,Bx])
end
section
variable{al:List bk}{f0:bA}
def Eh(ts:ar):Prop:=∃l:List (Int×Int),ts=[.sl (ce l)]/\l.length<=1000000
def SC:ar->List (ar)
 |[.sl an]=>an
 |_=>[]
abbrev Yy:gP:=bG [(83,ee IA),(84,rP Eh SC 68 2)]
def Wf:au Tryd.prog Yy:=by
 refine au.gm (au.Oz au.nil ?_) ?_
 ·rintro ts ⟨l,rfl,h⟩;exact YF l h
 ·intro args ab h;unfold IA at h⊢;split at h
  ·rename_i b f t x c d ay;split at h
   ·rename_i c1 c2 c3 m hb;split at h
    ·rename_i bB agg gY es hm;obtain⟨rfl,rfl,he,hd,Fe⟩:=h;refine⟨λN hN=>?_,λr hr=>?_⟩
     ·exact b9.of (t48 hN hb hm he hd Fe) (by simp[]) (by simp[])
     ·simp only[];exact dE hm hr
    ·exact h.elim
   ·exact h.elim
  ·exact h.elim
def GZ{a b:bA}{k:T}{c:Int}{y y':DV}{gY:Nat}{es:List (Nat×T×DV)}(hy:iz a b id y y')(he:Eg es):fj a b id (mM k c y gY es) (mM k c y' gY es):=by
 have self:∀{l:List (Nat×T×DV)},Eg l->fj a b id l l:=λ{l} hl=>lb λe h=>by obtain⟨x,hx⟩:=hl e h;rw[hx];simp
 unfold mM;split
 ·rename_i hbt;clear hbt;unfold Am;split
  ·rename_i i hi;clear hi;induction es generalizing i with
   |nil=>simp[fj]
   |cons e es ih=>
    cases i with
    |zero=>simp only[YI,fj];exact⟨trivial,trivial,hy,self λe' h=>he e' (by simp[h])⟩
    |succ i=>
     simp only[pC,fj];obtain⟨x,hx⟩:=he e (by simp);exact⟨trivial,trivial,by rw[hx];simp,ih (λe' h=>he e' (by simp[h])) i⟩
  ·rename_i hn;clear hn;induction es with
   |nil=>simp only[z6,fj];exact⟨trivial,trivial,hy,trivial⟩
   |cons e es ih=>
    simp only[CE,fj];obtain⟨x,hx⟩:=he e (by simp);exact⟨trivial,trivial,by rw[hx];simp,ih λe' h=>he e' (by simp[h])⟩
 ·exact self he
def d9(al:List bk):Eg (ct al):=L8 al
def zO{a b:bA}{c:bk}{d:DV}(hd:iz a b id d (.v (.sl (ce c.ops)))):
  jA a b (.map jx true (qM c.key c.aG al.length (ct al)) (mM c.key c.aG (.agg [.v (ti c.f),.v (ti c.t),.v (ti c.term),.v (ti c.aG),d]) al.length (ct al))) (bM (qc al c)):=by
 obtain⟨h1,h2⟩:=By c al;refine .inl ?_;unfold bM;rw[<-h1,<-h2];simp only[kn];refine⟨trivial,trivial,trivial,GZ ?_ (d9 al)⟩;simp[bk.enc,hd]
def tH(l:List (Int×Int))(a b:Int):ce l++[[ti a,ti b]]=ce (l++[(a,b)]):=by simp[ce]
def G0{N m r r2 az bC v:Nat}{tm:cQ}{l:iE}{o2:Ob}(c:bk){an:List (ar)}(cD:mV f0 N)(hm:m<N)(hr:N<=r)(nS:N<=r2)(hn:N<=bC)(bX:an=ce c.ops)
  (pP:kM (cB [(m,.map jx true (qM c.key c.aG al.length (ct al)) (mM c.key c.aG (.agg [.v (ti c.f),.v (ti c.t),.v (ti c.term),.v (ti c.aG),.aQ r v]) al.length (ct al))),(r,.aR v 68 2 an),(r2,o2),(m,.map jx true al.length (ct al))] f0) (cB [(m,bM (qc al c))] f0) id tm l):
  Le ⟨tm,bI (cB [(r,.aR v 68 2 an),(r2,o2),(m,.map jx true al.length (ct al))] f0) m (.map jx true (qM c.key c.aG al.length (ct al)) (mM c.key c.aG (.agg [.v (ti c.f),.v (ti c.t),.v (ti c.term),.v (ti c.aG),.aQ r v]) al.length (ct al))),az,N,[]⟩
   ⟨DM.look l,cB [(m,bM (qc al c))] f0,bC,N,[]⟩:=by
 subst bX;rw[ez];refine Le.gk cD hn ?_ ?_ ?_ pP
 ·simp;omega
 ·simp[cx];omega
 ·refine⟨⟨_,by simp,zO (d:=.aQ r v) ?_,λ_=>by simp[ga,bM]⟩,trivial⟩;simp[show r≠m by omega];exact mw cD hr (by simp;omega)
def Ma(al:List bk):gI (bM al)=[]:=by
 simp only[bM,gI,List.flatMap_eq_nil_iff];intro e he;obtain⟨a,ha⟩:=d9 al e he;rw[ha];rfl
def mN{a b:bA}(al:List bk):jA a b (bM al) (bM al):=.inr ⟨rfl,λn hn=>by rw[Ma]at hn;cases hn⟩
def bO(al:List bk)(cs:List bk):List bk:=cs.foldl qc al
def eV(al cs ds:List bk):bO al (cs++ds)=bO (bO al cs) ds:=by simp[bO]
def ju(read:b8)(i m aG:Int)(ops:List (Int×Int))(n:Nat):List bk:=
 (List.range n).flatMap λt=>if 0<=read.getD t 0 then [⟨2*i,2*m+2,t,aG+read.getD t 0,ops++[(1,(t:Int))]⟩]else []
def G1(read:b8)(i m aG:Int)(ops:List (Int×Int))(n:Nat):ju read i m aG ops (n+1)=ju read i m aG ops n++(if 0<=read.getD n 0 then [⟨2*i,2*m+2,n,aG+read.getD n 0,ops++[(1,(n:Int))]⟩]else []):=by
 simp[ju,E7]
def IC(c:bz):Prop:=c.read.length<=1000000/\∀p∈c.read,p<=1099511627776
def t47{b m:Nat}{x:Input}{i j:Nat}{aG:Int}{ops:List (Int×Int)}{N:Nat}(hN:∀r,N<=r->f0 r=none)(hb:f0 b=some (.box (b7 x m)))(hm:f0 m=some (bM al))
  (hi:i<=1000000) (hj:j<x.ai.length) (hl:x.ai.length<=1000000) (hc:IC (x.ai.getD j default)) (uH:0<=aG/\aG<=1099511627776) (abs:ops.length<=1000000):
  b9 Tryd.prog 82 [.ptr b 0,.v (ti i),.v (ti j),.v (ti aG),.v (.sl (ce ops))] f0 ⟨True,.v (.dh []),bI f0 m (bM (bO al (ju (x.ai.getD j default).read i j aG ops (x.ai.getD j default).read.length)))⟩:=by
 have am:=Wf;refine c47.KQ hN (by simp) λcD=>?_;have yq:b<N:=(cD b _ hb).1;have IB:m<N:=(cD m _ hm).1;have tG:b≠m:=λe=>by rw[e,hm]at hb;cases hb
 have nb:∀k,b≠N+k:=λk=>by omega
 have nm:∀k,m≠N+k:=λk=>by omega
 have fz:=cu hj;obtain⟨col,abd⟩:=ba (x.ai.getD j default);rw[abd]at fz hc⊢;obtain⟨kd,read,del⟩:=col;simp only at hc⊢;obtain⟨cn,fg⟩:=hc;simp only at cn fg;have bX:∀r∈ce ops,r.length=2:=by intro r hr;simp only[ce,kL]at hr;obtain⟨c,_,rfl⟩:=hr;rfl
 simp;apply aa.ag am fw [0,1,2,3,4,20,21,22];simp[DD,hb,b7,hj,fz,bz.enc];refine aa.to ⟨DM.look [],cB [(m,bM (bO al (ju read i j aG ops read.length)))] f0,N+1000,N,[]⟩ ?_ (by simp[Bg];rfl);apply aa.block;refine aa.loop (λy:Nat=>⟨DM.look [(0,.ptr b 0),(1,.v (ti i)),(2,.v (ti j)),(3,.v (ti aG)),(4,.v (.sl (ce ops))),(20,.v (.sl (aw read))),(21,.v (ti read.length)),(22,.v (ti y))],cB [(m,bM (bO al (ju read i j aG ops y)))] f0,N+200,N,[]⟩)
  (λy=>y<=read.length) (λy=>read.length-y) 0 (Le.gk cD ?_ ?_ ?_ ?_ ?_) (by simp) (λy hy=>?_)
 ·omega
 ·simp;omega
 ·simp[cx]
 ·exact⟨⟨bM al,by simp[hm],by simpa [ju,bO]using mN al,λ_=>trivial⟩,trivial⟩
 ·simp[hb,tG]
 apply aa.ag am fw [0,1,2,3,4,20,21,22,23];simp[DE];apply aa.seq;refine aa.cond rfl (λaZ=>?_) (λaZ=>?_)
 ·simp at aZ;apply aa.skip;simp;apply aa.seq;apply aa.block;have nS:=bS aZ;obtain⟨p,hp⟩:=ba (read.getD y default);have Sn:read.getD y 0=p:=hp;have hpm:p<=1099511627776:=fg p (by rw[<-hp];simp[List.getD,aZ]);rw[hp]at nS;apply aa.ag am fw [0,1,2,3,4,10,11,20,21,22];simp[DF,nS,aZ];apply aa.ag am fw [0,1,2,3,4,10,11,20,21,22,28];simp[DG];have gO:=G1 read i j aG ops y;rw[Sn]at gO;obtain⟨TV,Mb⟩:=ba (bO al (ju read i j aG ops y));rw[Mb];refine aa.to ⟨DM.look [(0,.ptr b 0),(1,.v (ti i)),(2,.v (ti j)),(3,.v (ti aG)),(4,.v (.sl (ce ops))),(20,.v (.sl (aw read))),(21,.v (ti read.length)),(22,.v (ti y))],cB [(m,bM (bO al (ju read i j aG ops (y+1))))] f0,N+1000,N,[]⟩ ?_ ?_
  ·refine aa.cond rfl (λhd=>?_) (λhd=>?_)
   ·simp at hd;refine aa.nj am fw (rs:=RG) (.inr ⟨_,rfl⟩) (by kernel_rfl) [0,1,2,3,4,20,21,22] ?_;have w1:IntKind.i64.wrap (2*(i:Int))=2*i:=aq (by omega);have w2:IntKind.i64.wrap (2*(j:Int))=2*j:=aq (by omega);have w3:IntKind.i64.wrap (2*(j:Int)+2)=2*j+2:=aq (by omega);have w4:IntKind.i64.wrap (aG+p)=aG+p:=aq (by omega);simp[RG,w1,w2,w3,w4,SC,Eh,dW,cw,IA,hb,b7,tG,bM,d9,ym,nb,nm];refine⟨⟨ops,rfl,abs⟩,by omega,λn hn=>?_, ?_⟩
    ·simp only[aS,ic]at hn;subst hn;simp
    ·have e:bO al (ju read i j aG ops (y+1))=qc TV ⟨2*i,2*j+2,y,aG+p,ops++[(1,(y:Int))]⟩:=by
      rw[gO,uV hd,eV,Mb];rfl
     rw[e];refine G0 ⟨2*i,2*j+2,y,aG+p,ops++[(1,(y:Int))]⟩ cD IB ?_ ?_ ?_ (tH _ _ _) ?_
     ·omega
     ·omega
     ·omega
     ·simp[hb,tG]
   ·simp at hd;have e:bO al (ju read i j aG ops (y+1))=TV:=by
     rw[gO,mL (by omega),F5,Mb]
    rw[e];refine aa.skip ⟨rfl,Le.gk cD ?_ ?_ ?_ ?_ ?_⟩
    ·omega
    ·simp;omega
    ·simp[cx]
    ·exact⟨⟨bM TV,by simp[bM],mN _,λ_=>cY _⟩,trivial⟩
    ·simp[hb,tG]
  ·apply aa.cX am fw [0,1,2,3,4,20,21,22];simp[DH];rw[aq (by omega)];refine⟨y+1,Le.gk cD ?_ ?_ ?_ ?_ ?_,by omega,by omega⟩
   ·omega
   ·simp;omega
   ·simp[cx]
   ·exact⟨⟨_,by simp,mN _,λ_=>cY _⟩,trivial⟩
   ·simp[hb,tG]
 ·simp at aZ;have:y=read.length:=by omega
  subst this;apply aa.exit;refine⟨rfl, ?_⟩;refine Le.gk (l:=[]) cD ?_ ?_ ?_ ?_ ?_
  ·omega
  ·simp;omega
  ·simp[cx]
  ·exact⟨⟨_,by simp,mN _,λ_=>cY _⟩,trivial⟩
  ·simp
end
section
variable{ab:bA}{al:List bk}
def iC(ab:bA)(b:Nat):Input×Nat:=
 match ab b with
 |some (.box [.v (.sl c),.v (.sl i),.v (.int .i64 s),.dQ m])=>(⟨kr c,dS i,s⟩,m)
 |_=>(⟨[],[],0⟩,0)
def vx{b m:Nat}{x:Input}(h:ab b=some (.box (b7 x m))):iC ab b=(x,m):=by
 simp[iC,h,b7]
def tJ(ab:bA)(m:Nat):List bk:=
 match ab m with
 |some (.map _ _ _ es)=>es.map λe=>match e.2.2 with|.v (.agg r)=>ke r|_=>default
 |_=>[]
def zP{m:Nat}(h:ab m=some (bM al)):tJ ab m=al:=by
 simp only[tJ,h,bM,ct,x5];rw[show(List.map ((λe=>match e.2.2 with|DV.v (T.agg r)=>ke r|_=>default)∘λp=>(p.2,p.1.key,DV.v (T.agg p.1.enc))) al.zipIdx)=al.zipIdx.map Prod.fst from QQ λp _=>by simp];simp
def U3:bD->bA->fp
 |[.ptr b 0,.v (.int .i64 i),.v (.int .i64 j)],ab=>⟨ab b=some (.box (b7 (iC ab b).1 (iC ab b).2))/\0<=i/\i<=j/\j<=(iC ab b).1.ai.length/\lz (iC ab b).1.ai,
   .v (.dh [ti (dU (((iC ab b).1.ai.take j.toNat).drop i.toNat) 0),.sl (ce (dB (j.toNat-i.toNat)))]),ab⟩
 |_,ab=>⟨False,.undef,ab⟩
def tK{b m:Nat}{x:Input}{i j:Nat}(h:ab b=some (.box (b7 x m))):
  U3 [.ptr b 0,.v (ti i),.v (ti j)] ab=⟨i<=j/\j<=x.ai.length/\lz x.ai,.v (.dh [ti (dU ((x.ai.take j).drop i) 0),.sl (ce (dB (j-i)))]),ab⟩:=by
 simp only[U3,vx h,h,ib,E4,Int.ofNat_le,ZcC];try omega
def Mc:bD->bA->fp
 |[.ptr b 0,.v (.int .i64 i)],ab=>⟨ab b=some (.box (b7 (iC ab b).1 (iC ab b).2))/\0<=i/\i<=1000000/\(iC ab b).1.ai.length<=1000000,.v (.bool (cz (iC ab b).1 i.toNat)),ab⟩
 |_,ab=>⟨False,.undef,ab⟩
def SD{b m:Nat}{x:Input}{i:Nat}(h:ab b=some (.box (b7 x m))):
  Mc [.ptr b 0,.v (ti i)] ab=⟨i<=1000000/\x.ai.length<=1000000,.v (.bool (cz x i)),ab⟩:=by
 simp only[Mc,vx h,h,ib,fp.mk.injEq,and_self,QM,E4,eq_iff_iff,ZcC];try omega
def YH:bD->bA->fp
 |[.ptr b 0,.v (.int .i64 i),.v (.int .i64 j),.v (.int .i64 aG),.v (.sl ops)],ab=>
  ⟨ab b=some (.box (b7 (iC ab b).1 (iC ab b).2))/\ab (iC ab b).2=some (bM (tJ ab (iC ab b).2))/\ops=ce (qh ops)/\0<=i/\i<=1000000/\0<=j/\j<(iC ab b).1.ai.length/\(iC ab b).1.ai.length<=1000000/\IC ((iC ab b).1.ai.getD j.toNat default)/\0<=aG/\aG<=1099511627776/\(qh ops).length<=1000000,.v (.dh []),
   bI ab (iC ab b).2 (bM (bO (tJ ab (iC ab b).2) (ju ((iC ab b).1.ai.getD j.toNat default).read i.toNat j.toNat aG (qh ops) ((iC ab b).1.ai.getD j.toNat default).read.length)))⟩
 |_,ab=>⟨False,.undef,ab⟩
def acs{b m:Nat}{x:Input}{i j:Nat}{aG:Int}{ops:List (Int×Int)}(h:ab b=some (.box (b7 x m)))(hm:ab m=some (bM al)):
  YH [.ptr b 0,.v (ti i),.v (ti j),.v (ti aG),.v (.sl (ce ops))] ab=⟨i<=1000000/\j<x.ai.length/\x.ai.length<=1000000/\IC (x.ai.getD j default)/\0<=aG/\aG<=1099511627776/\ops.length<=1000000,.v (.dh []),
   bI ab m (bM (bO al (ju (x.ai.getD j default).read i j aG ops (x.ai.getD j default).read.length)))⟩:=by
 simp only[YH,vx h,h,zP hm,hm,ib,GW,E4,Int.ofNat_lt,ZcC,show((i:Int)<=1000000)=(i<=1000000)from propext ⟨λh=>by omega,λh=>by omega⟩]
abbrev Γ5:gP:=bG [(83,ee IA),(82,ee YH),(56,ee U3),(85,ee Mc),(84,rP Eh SC 68 2)]
def ok5:au Tryd.prog Γ5:=by
 refine au.gm (au.gm (au.gm (au.gm (au.Oz au.nil ?_) ?_) ?_) ?_) ?_
 ·rintro ts ⟨l,rfl,h⟩;exact YF l h
 ·intro args ab h;unfold Mc at h⊢;split at h
  ·rename_i ay b i;obtain⟨hb,h1,h2,h3⟩:=h;obtain⟨i,rfl⟩:=eM h1;refine⟨λN hN=>?_,λr hr=>hr⟩;exact b9.of (t50 hN hb (by omega) h3) (by simp) (by simp)
  ·exact h.elim
 ·intro args ab h;unfold U3 at h⊢;split at h
  ·rename_i ay b i j;obtain⟨hb,h1,h2,h3,h4⟩:=h;obtain⟨i,rfl⟩:=eM h1;obtain⟨j,rfl⟩:=eM (show 0<=j by omega);refine⟨λN hN=>?_,λr hr=>hr⟩;exact b9.of (t31 hN hb (by omega) (by omega) h4) (by simp) (by simp)
  ·exact h.elim
 ·intro args ab h;unfold YH at h⊢;split at h
  ·rename_i ay b i j aG ops;obtain⟨hb,hm,ho,h1,h2,h3,h4,h5,h6,h7,h8,h9⟩:=h;obtain⟨i,rfl⟩:=eM h1;obtain⟨j,rfl⟩:=eM h3;refine⟨λN hN=>?_,λr hr=>dE hm hr⟩;rw[ho];exact b9.of (t47 hN hb hm (by omega) (by omega) h5 h6 ⟨h7,h8⟩ h9) (by simp) (by simp)
  ·exact h.elim
 ·intro args ab h;exact(Wf 83 (ee IA) rfl).st IA rfl args ab h
end
section
variable{f0:bA}{al:List bk}
def iR(x:Input)(i m:Nat):Int:=dU ((x.ai.take m).drop i) 0
def nZ(c7:b8)(i m aG:Int)(ops:List (Int×Int))(n:Nat):List bk:=
 (List.range n).map λ(t:Nat)=>⟨2*i,2*m,(t:Int),aG+c7.getD t 0,ops++[(3,(t:Int))]⟩
def Md(c7:b8)(i m aG:Int)(ops:List (Int×Int))(n:Nat):nZ c7 i m aG ops (n+1)=nZ c7 i m aG ops n++[⟨2*i,2*m,n,aG+c7.getD n 0,ops++[(3,(n:Int))]⟩]:=by
 simp[nZ,E7]
def ua(x:Input)(i m:Nat):List bk:=ju (x.ai.getD m default).read i m (iR x i m) (dB (m-i)) (x.ai.getD m default).read.length
def nD(x:Input)(i m:Nat):List bk:=
 (if i<m then ua x i (m-1)else [])++(nZ x.insert i m (iR x i m) (dB (m-i)) x.insert.length++
  (if cz x m then [⟨2*i,2*m+1,(x.ai.getD (m+1) default).kind,iR x i m+x.swap,dB (m-i)++[(4,0)]⟩]else []))
def so(x:Input)(i m:Nat):List bk:=(List.range (m-i)).flatMap λe=>nD x i (i+e)
def n7(x:Input)(i:Nat):List bk:=so x i (x.ai.length+1)++(if cz x i then [⟨2*i+1,2*i+4,(x.ai.getD i default).kind,0,[]⟩]else [])
def G2(x:Input){i m:Nat}(h:i<=m):so x i (m+1)=so x i m++nD x i m:=by
 unfold so;rw[show m+1-i=(m-i)+1 by omega,E7,Zci];simp[show i+(m-i)=m by omega]
def LK(x:Input):Prop:=lz x.ai/\(∀c∈x.ai,IC c)/\x.insert.length<=1000000/\(∀p∈x.insert,0<=p/\p<=1099511627776)/\0<=x.swap/\x.swap<=1099511627776
def eN{x:Input}(h:lz x.ai)(i m:Nat):0<=iR x i m/\iR x i m<=1099511627776:=
 mo (λc hc=>(h.2 c (ud (EK hc))).1) 0 (by omega)
def nB{N m az bC:Nat}{tm:cQ}{l:iE}{L:d0}(cD:mV f0 N)(hm:m<N)(hn:N<=bC)(hL:∀p∈L,p.1=m\/N<=p.1)(ho:cB L f0 m=some (bM al))
  (pP:kM (cB L f0) (cB [(m,bM al)] f0) id tm l):
  Le ⟨tm,cB L f0,az,N,[]⟩ ⟨DM.look l,cB [(m,bM al)] f0,bC,N,[]⟩:=by
 refine Le.gk cD hn ?_ ?_ ?_ pP
 ·simp;omega
 ·induction L with
  |nil=>trivial
  |cons p L ih=>
   have:∀(L:d0),(∀p∈L,p.1=m\/N<=p.1)->cx N [(m,bM al)] L:=by
    intro L;induction L with
    |nil=>intro _;trivial
    |cons q L ih=>
     intro h;refine⟨λhq=>?_,ih λp hp=>h p (by simp[hp])⟩;rcases h q (by simp)with h|h
     ·exact⟨bM al,by simp[h]⟩
     ·omega
   exact this _ hL
 ·exact⟨⟨bM al,ho,mN al,λ_=>cY _⟩,trivial⟩
def t30{b m:Nat}{x:Input}{i:Nat}{N:Nat}(hN:∀r,N<=r->f0 r=none)(hb:f0 b=some (.box (b7 x m)))(hm:f0 m=some (bM al))
  (hi:i<=x.ai.length) (hx:LK x):
  b9 Tryd.prog 55 [.ptr b 0,.v (ti i)] f0 ⟨True,.v (.dh []),bI f0 m (bM (bO al (n7 x i)))⟩:=by
 have am:=ok5;refine c30.KQ hN (by simp) λcD=>?_;have yq:b<N:=(cD b _ hb).1;have IB:m<N:=(cD m _ hm).1;have tG:b≠m:=λe=>by rw[e,hm]at hb;cases hb
 have nb:∀k,b≠N+k:=λk=>by omega
 have nm:∀k,m≠N+k:=λk=>by omega
 obtain⟨hd,pR,G3,acu,aiH,vO⟩:=hx;have hl:=hd.1;simp;apply aa.ag am fw [0,1,4];simp[Ed,hb,b7];apply aa.sq am fw [0,1,4,5];simp[Ee];refine aa.to ⟨DM.look [(0,.ptr b 0),(1,.v (ti i))],cB [(m,bM (bO al (so x i (x.ai.length+1))))] f0,N+1000,N,[]⟩ ?_ ?_
 ·apply aa.block;refine aa.loop (λy:Nat=>⟨DM.look [(0,.ptr b 0),(1,.v (ti i)),(4,.v (ti x.ai.length)),(5,.v (ti y))],cB [(m,bM (bO al (so x i y)))] f0,N+1000,N,[]⟩)
   (λy=>i<=y/\y<=x.ai.length+1) (λy=>x.ai.length+1-y) i (Le.gk cD ?_ ?_ ?_ ?_ ?_) (by omega) (λy hy=>?_)
  ·omega
  ·simp;omega
  ·simp[cx]
  ·exact⟨⟨bM al,by simp[hm],by simpa [so,bO]using mN al,λ_=>trivial⟩,trivial⟩
  ·simp[hb,tG]
  obtain⟨pT,eG⟩:=hy;apply aa.sq am fw [0,1,4,5,21];simp[Zd];refine aa.cond rfl (λaZ=>?_) (λaZ=>?_)
  ·simp at aZ;apply aa.skip;simp;obtain⟨aG,uH⟩:=ba (iR x i y);have sS:0<=aG/\aG<=1099511627776:=by rw[<-uH];exact eN hd i y
   have acv:dU ((x.ai.take y).drop i) 0=aG:=uH;obtain⟨TV,Mb⟩:=ba (bO al (so x i y));rw[Mb];apply aa.seq;refine aa.to ⟨DM.look [(0,.ptr b 0),(1,.v (ti i)),(4,.v (ti x.ai.length)),(5,.v (ti y))],cB [(m,bM (bO TV (nD x i y)))] f0,N+1000,N,[]⟩ ?_ ?_
   ·apply aa.block;apply aa.seq;refine aa.nj am fw (rs:=GR) (.inr ⟨_,rfl⟩) (by kernel_rfl) [0,1,4,5,6,7] ?_;simp[GR,tK (x:=x) (m:=m),hb,tG,pT,aZ,hd,acv];apply aa.seq;obtain⟨Ei,G4⟩:=ba (bO TV (if i<y then ua x i (y-1)else []));refine aa.to ⟨DM.look [(0,.ptr b 0),(1,.v (ti i)),(4,.v (ti x.ai.length)),(5,.v (ti y)),(6,.v (ti aG)),(7,.v (.sl (ce (dB (y-i)))))],cB [(m,bM Ei)] f0,N+1000,N,[]⟩ ?_ ?_
    ·apply aa.ag am fw [0,1,4,5,6,7,33];simp[Ze];refine aa.cond rfl (λh=>?_) (λh=>?_)
     ·simp at h;obtain⟨q,hq⟩:∃q,y=q+1:=⟨y-1,by omega⟩;have hwq:IntKind.i64.wrap ((y:Int)-1)=(q:Int):=by rw[aq (by omega)];omega
      have R9:i<=q:=by omega
      have hql:q<=x.ai.length:=by omega
      have acw:q<x.ai.length:=by omega
      obtain⟨c2,fg⟩:=ba (iR x i q);have afw:0<=c2/\c2<=1099511627776:=by rw[<-fg];exact eN hd i q
      have aiI:dU ((x.ai.take q).drop i) 0=c2:=fg;refine aa.seq (aa.nj am fw (rs:=GS) (.inr ⟨_,rfl⟩) (by kernel_rfl) [0,1,4,5,6,7,8,9] ?_);simp[GS,tK (x:=x) (m:=m),hb,tG,hwq,R9,hql,hd,aiI];refine aa.nj am fw (rs:=GU) (.inr ⟨_,rfl⟩) (by kernel_rfl) [0,1,4,5,6,7] ?_;simp[GU,acs (x:=x) (m:=m) (al:=TV),hb,tG,hwq];refine⟨⟨by omega,acw,hl, ?_,afw.1,afw.2,by simp[dB];omega⟩, ?_⟩
      ·rw[fq acw];exact pR _ (ME acw)
      ·rw[ez];have e:bO TV (ju (x.ai[q]?.getD default).read i q c2 (dB (q-i)) (x.ai[q]?.getD default).read.length)=Ei:=by
        rw[<-G4,uV h];simp[ua,show y-1=q by omega,fg]
       rw[e];exact nB cD IB (by omega) (by simp) (by simp) (by simp[hb,tG])
     ·simp at h;have e:TV=Ei:=by rw[<-G4,mL (by omega)];rfl
      rw[e];exact aa.skip ⟨rfl,nB cD IB (by omega) (by simp) (by simp) (by simp[hb,tG])⟩
    apply aa.seq;obtain⟨Fi,tL⟩:=ba (bO Ei (nZ x.insert i y aG (dB (y-i)) x.insert.length));refine aa.to ⟨DM.look [(0,.ptr b 0),(1,.v (ti i)),(4,.v (ti x.ai.length)),(5,.v (ti y)),(6,.v (ti aG)),(7,.v (.sl (ce (dB (y-i)))))],cB [(m,bM Fi)] f0,N+1000,N,[]⟩ ?_ ?_
    ·apply aa.ag am fw [0,1,4,5,6,7,53,54,55];simp[Zf,hb,tG,b7];apply aa.block;refine aa.loop (λz:Nat=>⟨DM.look [(0,.ptr b 0),(1,.v (ti i)),(4,.v (ti x.ai.length)),(5,.v (ti y)),(6,.v (ti aG)),(7,.v (.sl (ce (dB (y-i))))),(53,.v (.sl (aw x.insert))),(54,.v (ti x.insert.length)),(55,.v (ti z))],cB [(m,bM (bO Ei (nZ x.insert i y aG (dB (y-i)) z)))] f0,N+1000,N,[]⟩)
      (λz=>z<=x.insert.length) (λz=>x.insert.length-z) 0 ?_ (by omega) (λz hz=>?_)
     ·exact nB cD IB (by omega) (by simp) (by simp[nZ,bO]) (by simp[hb,tG])
     apply aa.ag am fw [0,1,4,5,6,7,53,54,55,56];simp[Zg];apply aa.seq;refine aa.cond rfl (λh=>?_) (λh=>?_)
     ·simp at h;apply aa.skip;simp;apply aa.seq;apply aa.block;obtain⟨p,hp⟩:=ba (x.insert.getD z default);have hr:=bS h;have Mx:=acu p (by rw[<-hp];simp[List.getD,h]);have Sn:x.insert.getD z 0=p:=hp;have gO:=Md x.insert i y aG (dB (y-i)) z;rw[Sn]at gO;rw[hp]at hr;apply aa.ag am fw [0,1,4,5,6,7,10,11,53,54,55];simp[Zh,hr,h];obtain⟨alz,afx⟩:=ba (bO Ei (nZ x.insert i y aG (dB (y-i)) z));rw[afx];refine aa.to ⟨DM.look [(0,.ptr b 0),(1,.v (ti i)),(4,.v (ti x.ai.length)),(5,.v (ti y)),(6,.v (ti aG)),(7,.v (.sl (ce (dB (y-i))))),(53,.v (.sl (aw x.insert))),(54,.v (ti x.insert.length)),(55,.v (ti z))],cB [(m,bM (bO Ei (nZ x.insert i y aG (dB (y-i)) (z+1))))] f0,N+1000,N,[]⟩ ?_ ?_
      ·refine aa.nj am fw (rs:=Bq) (.inr ⟨_,rfl⟩) (by kernel_rfl) [0,1,4,5,6,7,53,54,55] ?_;have w1:IntKind.i64.wrap (2*(i:Int))=2*i:=aq (by omega);have w2:IntKind.i64.wrap (2*(y:Int))=2*y:=aq (by omega);have w4:IntKind.i64.wrap (aG+p)=aG+p:=aq (by omega);have hdl:(dB (y-i)).length=y-i:=by simp[dB]
       simp[Bq,w1,w2,w4,SC,Eh,dW,cw,IA,hb,b7,tG,bM,d9,ym,nb,nm];refine⟨⟨_,rfl,by omega⟩,by omega,λn hn=>?_, ?_⟩
       ·simp only[aS,ic]at hn;subst hn;simp
       ·have e:bO Ei (nZ x.insert i y aG (dB (y-i)) (z+1))=qc alz ⟨2*i,2*y,z,aG+p,dB (y-i)++[(3,(z:Int))]⟩:=by
         rw[gO,eV,afx];rfl
        rw[e];refine G0 ⟨2*i,2*y,z,aG+p,dB (y-i)++[(3,(z:Int))]⟩ cD IB ?_ ?_ ?_ (tH _ _ _) ?_
        ·omega
        ·omega
        ·omega
        ·simp[hb,tG]
      ·apply aa.cX am fw [0,1,4,5,6,7,53,54,55];simp[RD];rw[aq (by omega)];exact⟨z+1,nB cD IB (by omega) (by simp) (by simp) (by simp[hb,tG]),by omega,by omega⟩
     ·simp at h;have:z=x.insert.length:=by omega
      subst this;refine aa.exit ⟨rfl, ?_⟩;rw[tL];exact nB cD IB (by omega) (by simp) (by simp) (by simp[hb,tG])
    refine aa.eC am fw (rs:=Br) (.inr ⟨_,rfl⟩) (by kernel_rfl) [0,1,4,5,6,7,80] ?_;simp[Br,SD (x:=x) (m:=m),hb,tG];refine⟨⟨by omega,hl⟩, ?_⟩;have TS:bO TV (nD x i y)=bO Fi (if cz x y then [⟨2*i,2*y+1,(x.ai.getD (y+1) default).kind,aG+x.swap,dB (y-i)++[(4,0)]⟩]else []):=by
     rw[<-tL,<-G4,<-eV,<-eV];simp[nD,uH]
    refine aa.cond rfl (λh=>?_) (λh=>?_)
    ·rw[TS,uV h];have Ej:y+1<x.ai.length:=by simp[cz]at h;exact h.1
     have hr:DM.rowAt (bj x.ai) ((y:Int)+1)=_:=cu Ej;obtain⟨c2,fg⟩:=ba (x.ai.getD (y+1) default);rw[fg]at hr⊢;have w0:IntKind.i64.wrap ((y:Int)+1)=y+1:=aq (by omega);have w1:IntKind.i64.wrap (2*(i:Int))=2*i:=aq (by omega);have w2:IntKind.i64.wrap (2*(y:Int))=2*y:=aq (by omega);have w3:IntKind.i64.wrap (2*(y:Int)+1)=2*y+1:=aq (by omega);have w4:IntKind.i64.wrap (aG+x.swap)=aG+x.swap:=aq (by omega);have hdl:(dB (y-i)).length=y-i:=by simp[dB]
     have acx:((y:Int)+1<x.ai.length)=True:=by simp;omega
     have Bz:(0<=(y:Int)+1)=True:=by simp;omega
     refine aa.nj am fw (rs:=ir (C2 b N) (rH Bs [none,none,none,none,none,none,none,none,none,none,some [0],none,none,some [],none,some [],none,none,none,none,none,some [0],none,none,some [],none,none,some [1239]])) (.inl rfl) (by rw[A3 (LJ yq)];kernel_rfl) [0,1,4,5] ?_;simp[ir,mI,rH,cL,br,aS,ca,C2,Bs,w0,w1,w2,w3,w4,hr,acx,Bz,bz.enc,SC,Eh,dW,cw,IA,hb,b7,tG,bM,d9,ym,nb,nm];refine⟨⟨_,rfl,by omega⟩,by omega, ?_⟩;refine G0 ⟨2*i,2*y+1,c2.kind,aG+x.swap,dB (y-i)++[(4,0)]⟩ cD IB ?_ ?_ ?_ (tH _ _ _) ?_
     ·omega
     ·omega
     ·omega
     ·simp[hb,tG]
    ·rw[TS,mL (by simp[h])];exact aa.skip ⟨rfl,nB cD IB (by omega) (by simp) (by simp[bO]) (by simp[hb,tG])⟩
   ·apply aa.cX am fw [0,1,4,5];simp[RE];rw[aq (by omega)];refine⟨y+1,nB cD IB (by omega) (by simp) (by simp;rw[G2 x pT,eV,Mb]) (by simp[hb,tG]),⟨by omega,by omega⟩,by omega⟩
  ·simp at aZ;have:y=x.ai.length+1:=by omega
   subst this;refine aa.exit ⟨rfl, ?_⟩;exact nB cD IB (by omega) (by simp) (by simp) (by simp[hb,tG])
 ·obtain⟨al3,Me⟩:=ba (bO al (so x i (x.ai.length+1)));have TS:bO al (n7 x i)=bO al3 (if cz x i then [⟨2*i+1,2*i+4,(x.ai.getD i default).kind,0,[]⟩]else []):=by
   rw[<-Me,<-eV];rfl
  rw[Me];refine aa.eC am fw (rs:=Bt) (.inr ⟨_,rfl⟩) (by kernel_rfl) [0,1,113] ?_;simp[Bt,SD (x:=x) (m:=m),hb,tG];refine⟨⟨by omega,hl⟩, ?_⟩;refine aa.to ⟨DM.look [],cB [(m,bM (bO al (n7 x i)))] f0,N+1000,N,[]⟩ ?_ (by simp[ajZ];rfl);refine aa.cond rfl (λh=>?_) (λh=>?_)
  ·rw[TS,uV h];have Ej:i<x.ai.length:=by simp[cz]at h;omega
   have hr:=cu Ej;obtain⟨c2,fg⟩:=ba (x.ai.getD i default);rw[fg]at hr⊢;have w1:IntKind.i64.wrap (2*(i:Int))=2*i:=aq (by omega);have w2:IntKind.i64.wrap (2*(i:Int)+1)=2*i+1:=aq (by omega);have w3:IntKind.i64.wrap (2*(i:Int)+4)=2*i+4:=aq (by omega);refine aa.nj am fw (rs:=Bu) (.inr ⟨_,rfl⟩) (by kernel_rfl) [] ?_;simp[Bu,w1,w2,w3,hr,Ej,bz.enc,IA,hb,b7,tG,bM,d9,ym];refine⟨λn hn=>(by simp[aS]at hn), ?_⟩;rw[ez];refine Le.gk (l:=[]) cD (by omega) (by simp;omega) (by simp[cx]) ⟨⟨_,by simp;exact⟨rfl,rfl⟩,zO (c:=⟨2*i+1,2*i+4,c2.kind,0,[]⟩) (d:=.aF) ?_,λ_=>by simp[ga]⟩,trivial⟩ (by simp);simp[ce]
  ·rw[TS,mL (by simp[h])];exact aa.skip ⟨rfl,nB cD IB (by omega) (by simp) (by simp[bO]) (by simp)⟩
end
def al7{c d:Int}(hc:0<=c/\c<=1099511627776)(hd:0<=d):kq c d=min (c+d) 1099511627776:=by
 unfold kq;split<;>omega
def t34(x:Input)(i m:Nat)(H4:i<=m)(hm:m<=x.ai.length)(hd:lz x.ai):aI Tryd.prog 37 [x.enc,ti i,ti m] (ti (iR x i m)):=by
 have am:=atd;obtain⟨part,p8⟩:=ba ((x.ai.take m).drop i);have MJ:part.length=m-i:=by rw[<-p8];simp;omega
 have hpd:∀c∈part,0<=c.delete/\c.delete<=1099511627776:=λc hc=>hd.2 c (by rw[<-p8]at hc;exact ud (EK hc));have hpg:∀k,i+k<m->part.getD k default=x.ai.getD (i+k) default:=by
  intro k hk;rw[<-p8];have:i+k<x.ai.length:=by omega
  simp[List.getD,TU,hk]
 have dI:=hd.1;unfold iR;rw[p8];refine c34.ok (by simp) (aC ?_);simp[Input.enc];apply aa.ag am fw [1,2,3];simp[DN];refine aa.lk (o:=[]) (l:=[(1,.v (ti i)),(2,.v (ti m)),(3,.v (.box [.sl (bj x.ai),.sl (aw x.insert),ti x.swap]))]) (bC:=1200) (by simp) ?_;apply aa.ag am fw [1,2,3,7];simp[DO];apply aa.sq am fw [2,3,7,8];simp[DP];apply aa.block;refine aa.loop (λy:Nat=>⟨DM.look [(2,.v (ti m)),(3,.v (.box [.sl (bj x.ai),.sl (aw x.insert),ti x.swap])),(7,.v (ti (dU (part.take y) 0))),(8,.v (ti ((i+y:Nat):Int)))],cC [],2000,1000,[]⟩)
  (λy=>y<=part.length) (λy=>part.length-y) 0 (Le.aD (o:=[]) ?_ ?_ ?_ ?_) (by simp) (λy hy=>?_)
 iterate 3(·simp)
 ·simp[dU]
 obtain⟨k,hk⟩:=ba (i+y);rw[hk];have Sr:=mo (l:=part.take y) (λc hc=>(hpd c (ud hc)).1) 0 (by omega);apply aa.sq am fw [2,3,7,8,12];simp[DQ];refine aa.cond rfl (λaZ=>?_) (λaZ=>?_)
 ·simp at aZ;have hyp:y<part.length:=by omega
  have hkl:k<x.ai.length:=by omega
  have hr:=cu hkl;have hg:=hpg y (by omega);rw[hk]at hg;obtain⟨c,hc⟩:=ba (x.ai.getD k default);rw[hc]at hr hg;have hpy:part[y]=c:=by simpa [List.getD,hyp]using hg
  have TS:=hpd c (by rw[<-hpy];exact ME hyp);have V3:part.take (y+1)=part.take y++[c]:=by rw[CB,fq hyp,hpy];rfl
  obtain⟨u,hu⟩:=ba (dU (part.take y) 0);rw[hu]at Sr⊢;apply aa.skip;simp;apply aa.seq;apply aa.block;apply aa.cX am fw [2,3,7,8];simp[DR,hkl,hr,bz.enc];refine⟨⟨u,c.delete,⟨rfl,rfl⟩,by omega,by omega⟩, ?_⟩;apply aa.cX am fw [2,3,7,8];simp[asC];rw[aq (by omega)];refine⟨y+1,Le.aD (o:=[]) ?_ ?_ ?_ ?_,by omega,by omega⟩;iterate 3(·simp)
  ·simp[V3,sk,hu,al7 Sr TS.1];omega
 ·simp at aZ;have sH:y=part.length:=by omega
  subst sH;apply aa.exit;simp;apply aa.ag am fw [6];simp[asD];apply aa.ret;simp[aoW]
def t38(x:Input)(m:Nat)(hm:m<=1000000)(hl:x.ai.length<=1000000):aI Tryd.prog 41 [x.enc,ti m] (.bool (cz x m)):=by
 have am:=MC;obtain⟨v,hv⟩:=ba (cz x m);rw[hv];refine c38.ok (by simp) (aC ?_);simp[Input.enc];apply aa.ag am fw [1,2];simp[apq];refine aa.lk (o:=[]) (l:=[(1,.v (ti m)),(2,.v (.box [.sl (bj x.ai),.sl (aw x.insert),ti x.swap]))]) (bC:=1200) (by simp) ?_;have hw:IntKind.i64.wrap ((m:Int)+1)=m+1:=aq (by omega);refine aa.co am fw [(4,.v (.bool v))] ?_ ?_
 ·by_cases h1:m+1<x.ai.length
  ·have mU:=cu (l:=x.ai) (y:=m) (by omega);have nS:DM.rowAt (bj x.ai) ((m:Int)+1)=(x.ai.getD (m+1) default).enc:=cu (l:=x.ai) h1;obtain⟨c1,cn⟩:=ba (x.ai.getD m default);obtain⟨c2,fg⟩:=ba (x.ai.getD (m+1) default);rw[cn]at mU;rw[fg]at nS;have Ld:((m:Int)+1<x.ai.length)=True:=by simp;omega
   have hd3:(0<=(m:Int)+1)=True:=by simp;omega
   have hd4:m<x.ai.length:=by omega
   have vO:v=(decide (0<x.swap)&&(decide (0<=c1.kind)&&decide (0<=c2.kind))):=by
    rw[<-hv];unfold cz;rw[cn,fg];simp[h1]
   by_cases s1:0<x.swap<;>by_cases s2:0<=c1.kind<;>by_cases s3:0<=c2.kind<;>simp[apa,hw,mU,nS,Ld,hd3,hd4,bz.enc,s1,s2,s3,vO]
  ·have Ld:((m:Int)+1<x.ai.length)=False:=by simp;omega
   have vO:v=false:=by rw[<-hv];simp[cz];intros;omega
   simp[apa,hw,Ld,vO]
 apply aa.ret;simp[aoX]
def t37(n:Nat)(a b:Int)(hn:n<=1000000):aI Tryd.prog 40 [ti n,.agg [ti a,ti b]] (.sl (ce (dB n++[(a,b)]))):=by
 have am:=MC;refine c37.ok (by simp) (aC ?_);simp;apply aa.ag am fw [0,3];simp[D8];apply aa.ag am fw [0,3,5];simp[D9];apply aa.seq;refine aa.lk (o:=[]) (l:=[(0,.v (ti n)),(3,.v (.box [ti a,ti b])),(5,.aF)]) (bC:=1200) (by simp) ?_;refine aa.le (Le.lK (k:=5) 68 (sz:=2) (by omega) (by simp)) ?_;rw[gn];apply aa.ag am fw [0,3,5,6];simp[Ea];apply aa.block;refine aa.loop (λy:Nat=>⟨DM.look [(0,.v (ti n)),(3,.v (.box [ti a,ti b])),(5,.aQ 1200 0),(6,.v (ti y))],cC [(1200,.aR 0 68 2 (ce (dB y)))],2000,1000,[]⟩)
  (λy=>y<=n) (λy=>n-y) 0 (Le.aD ?_ ?_ ?_ ?_) (by simp) (λy hy=>?_)
 ·simp
 ·simp
 ·simp[dB,ce]
 ·simp
 apply aa.sq am fw [0,3,5,6,9];simp[asM];have hd:(dB y).length=y:=by simp[dB]
 refine aa.cond rfl (λaZ=>?_) (λaZ=>?_)
 ·simp at aZ;apply aa.skip;simp;apply aa.seq;apply aa.block;apply aa.cX am fw [0,3,5,6];simp[asN,cw,dW,hd];refine⟨by omega, ?_⟩;apply aa.cX am fw [0,3,5,6];simp[asO];rw[aq (by omega)];refine⟨y+1,Le.aD ?_ ?_ ?_ ?_,by omega,by omega⟩
  ·simp
  ·simp
  ·simp[ce,dB,ZcQ]
  ·simp
 ·simp at aZ;have sH:y=n:=by omega
  subst sH;apply aa.exit;simp;apply aa.ag am fw [4];simp[asP,cw,dW,hd];refine⟨by omega, ?_⟩;apply aa.ret;simp[aoY,ce]
def dG(a:bk)(p:Bool×List bk)(b:bk):Bool×List bk:=
 if p.1=false/\aJ b a=true then(true,p.2++[if a.aG<b.aG then a else b])
 else if p.1=false/\bF a b then(true,p.2++[a]++[b])
 else(p.1,p.2++[b])
def eL(a:bk)(l:List bk):Bool×List bk:=l.foldl (dG a) (false,[])
def pG(l:List bk)(a:bk):List bk:=
 if 1099511627776<=a.aG then l else if(eL a l).1 then(eL a l).2 else(eL a l).2++[a]
def apm{a:bk}{l:List bk}{y:Nat}(h:y<l.length):eL a (l.take (y+1))=dG a (eL a (l.take y)) (l.getD y default):=by
 unfold eL;rw[CB,fq h,LV];simp[List.getD,h]
def apt(a:bk)(p:Bool×List bk)(b:bk):(dG a p b).2.length<=p.2.length+2:=by
 unfold dG;split
 ·simp
 ·split<;>simp
def aoj(l:List bk)(a:bk):aV (l++[a])=aV l++[a.enc]:=by simp[aV]
def t35(l:List bk)(a:bk)(hl:l.length<=1000000000):aI Tryd.prog 38 [.sl (aV l),.agg a.enc] (.sl (aV (pG l a))):=by
 have am:=atB;obtain⟨R,hR⟩:=ba (pG l a);rw[hR];unfold pG at hR;obtain⟨af,fQ,ax,ac,ao⟩:=a;obtain⟨a,ha⟩:=ba ((⟨af,fQ,ax,ac,ao⟩:bk):bk);have haf:a.f=af:=by rw[<-ha]
 have fF:a.t=fQ:=by rw[<-ha]
 have hax:a.term=ax:=by rw[<-ha]
 have Y0:a.aG=ac:=by rw[<-ha]
 have aml:a.enc=[ti af,ti fQ,ti ax,ti ac,.sl (ce ao)]:=by rw[<-ha];rfl
 refine c35.ok (by simp) (aC ?_);rw[ha]at hR;simp[bk.enc];apply aa.ag am fw [0,3];simp[Iq];refine aa.lk (o:=[]) (l:=[(0,.v (.sl (aV l))),(3,.v (.box [ti af,ti fQ,ti ax,ti ac,.sl (ce ao)]))]) (bC:=1200) (by simp) ?_;apply aa.sq am fw [0,3,10];simp[asE];refine aa.cond rfl (λh=>?_) (λh=>?_)
 ·simp at h;rw[uV (by rw[Y0];exact h)]at hR;subst hR;apply aa.ag am fw [4];simp[asF];apply aa.ret;simp[acJ]
 simp at h;rw[mL (by rw[Y0];omega)]at hR;apply aa.skip;simp;apply aa.ag am fw [0,3,5];simp[asG];refine aa.lk (o:=[]) (l:=[(0,.v (.sl (aV l))),(3,.v (.box [ti af,ti fQ,ti ax,ti ac,.sl (ce ao)])),(5,.aF)]) (bC:=1500) (by simp) ?_;refine aa.le (Le.lK (k:=5) 97 (sz:=5) (by omega) (by simp)) ?_;rw[gn];apply aa.ag am fw [0,3,5,6];simp[asH];apply aa.sq am fw [0,3,5,6,7];simp[asI];obtain⟨L,hL⟩:=ba l.length;rw[hL]at hl;apply aa.block;refine aa.loop (λy:Nat=>⟨DM.look [(0,.v (.sl (aV l))),(3,.v (.box [ti af,ti fQ,ti ax,ti ac,.sl (ce ao)])),(5,.aQ 1500 0),(6,.v (.bool (eL a (l.take y)).1)),(7,.v (ti y))],cC [(1500,.aR 0 97 5 (aV (eL a (l.take y)).2))],2000,1000,[]⟩)
  (λy=>y<=L/\(eL a (l.take y)).2.length<=2*y) (λy=>L-y) 0 (Le.aD ?_ ?_ ?_ ?_) (by simp[eL]) (λy hy=>?_)
 ·simp
 ·simp
 ·simp[eL,aV]
 ·simp[eL]
 obtain⟨pT,eG⟩:=hy;apply aa.sq am fw [0,3,5,6,7,15];simp[asJ,hL];refine aa.cond rfl (λaZ=>?_) (λaZ=>?_)
 ·simp at aZ;have sH:y<l.length:=by omega
  have hr:=qK sH;have gO:=apm (a:=a) sH;obtain⟨b,hb⟩:=ba (l.getD y default);rw[hb]at hr gO;obtain⟨p,hp⟩:=ba (eL a (l.take y));rw[hp]at gO eG⊢;have asQ:=apt a p b;obtain⟨dn,out⟩:=p;simp only at eG asQ⊢;obtain⟨bf,bt,bx,bc,bo⟩:=b;have hsk:aJ ⟨bf,bt,bx,bc,bo⟩ a=decide (bf=af/\bt=fQ/\bx=ax):=by simp only[aJ,haf,fF,hax]
  apply aa.skip;simp;apply aa.seq;obtain⟨q,hq⟩:=ba (dG a (dn,out) ⟨bf,bt,bx,bc,bo⟩);rw[hq]at gO asQ;unfold dG at hq;simp only[hsk]at hq;refine aa.to ⟨DM.look [(0,.v (.sl (aV l))),(3,.v (.box [ti af,ti fQ,ti ax,ti ac,.sl (ce ao)])),(5,.aQ 1500 0),(6,.v (.bool q.1)),(7,.v (ti y))],cC [(1500,.aR 0 97 5 (aV q.2))],3000,1000,[]⟩ ?_ ?_
  ·apply aa.block;apply aa.seq;have amj:[ti bf,ti bt,ti bx,ti bc,.sl (ce bo)]=(⟨bf,bt,bx,bc,bo⟩:bk).enc:=rfl;obtain⟨c1,cn⟩:=ba (decide (dn=false/\(bf=af/\bt=fQ/\bx=ax)):Bool);refine aa.co am fw [(0,.v (.sl (aV l))),(3,.v (.box [ti af,ti fQ,ti ax,ti ac,.sl (ce ao)])),(5,.aQ 1500 0),(6,.v (.bool dn)),(7,.v (ti y)),(49,.v (.bool c1))] ?_ ?_
   ·cases dn with
    |true=>
     have:c1=false:=by rw[<-cn];simp
     simp[apb,this]
    |false=>
     by_cases q1:bf=af
     ·by_cases q2:bt=fQ
      ·by_cases q3:bx=ax
       ·have:c1=true:=by rw[<-cn];simp[q1,q2,q3]
        simp[apb,hr,aZ,hL,bk.enc,q1,q2,q3,this]
       ·have:c1=false:=by rw[<-cn];simp[q3]
        simp[apb,hr,aZ,hL,bk.enc,q1,q2,q3,this]
      ·have:c1=false:=by rw[<-cn];simp[q2]
       simp[apb,hr,aZ,hL,bk.enc,q1,q2,this]
     ·have:c1=false:=by rw[<-cn];simp[q1]
      simp[apb,hr,aZ,hL,bk.enc,q1,this]
   have tail:∀(dn':Bool) (amm:List bk),amm.length<=out.length+1->q=(dn',amm++[⟨bf,bt,bx,bc,bo⟩])->∀nx,aa Tryd.prog 90 (.region false aqh) (mg 1 λe s=>e=Exit.normal/\Le s ⟨DM.look [(0,.v (.sl (aV l))),(3,.v (.box [ti af,ti fQ,ti ax,ti ac,.sl (ce ao)])),(5,.aQ 1500 0),(6,.v (.bool q.1)),(7,.v (ti y))],cC [(1500,.aR 0 97 5 (aV q.2))],3000,1000,[]⟩)
     ⟨DM.look [(0,.v (.sl (aV l))),(3,.v (.box [ti af,ti fQ,ti ax,ti ac,.sl (ce ao)])),(5,.aQ 1500 0),(6,.v (.bool dn')),(7,.v (ti y))],cC [(1500,.aR 0 97 5 (aV amm))],nx,1000,[]⟩:=by
    intro dn' amm ho hqq nx;apply aa.cX am fw [0,3,5,6,7];simp[aqh,hr,aZ,hL,bk.enc,cw,dW];refine⟨by omega,Le.aD ?_ ?_ ?_ ?_⟩
    ·simp
    ·simp
    ·simp[hqq,aoj,bk.enc]
    ·simp[hqq]
   refine aa.cond rfl (λh1=>?_) (λh1=>?_)
   ·rw[h1]at cn;simp only[o5]at cn;obtain⟨Fe,KT⟩:=cn;subst Fe;rw[uV ⟨rfl,by simpa using KT⟩]at hq;apply aa.ag am fw [0,3,5,6,7];simp[asK];apply aa.ag am fw [0,3,5,6,7,57];simp[asL,hr,aZ,hL,bk.enc];refine aa.cond rfl (λh2=>?_) (λh2=>?_)
    ·simp at h2;apply aa.ag am fw [0,3,5,6,7];simp[alW,cw,dW];refine⟨by omega, ?_⟩;apply aa.exit;simp;rw[uV (by rw[Y0];exact h2)]at hq;subst hq;refine Le.aD ?_ ?_ ?_ ?_
     ·simp
     ·simp
     ·simp[aoj,aml]
     ·simp
    ·simp at h2;rw[mL (by rw[Y0];omega)]at hq;apply aa.skip;simp;refine aa.lk (o:=[(1500,.aR 0 97 5 (aV out))]) (l:=[(0,.v (.sl (aV l))),(3,.v (.box [ti af,ti fQ,ti ax,ti ac,.sl (ce ao)])),(5,.aQ 1500 0),(6,.v (.bool true)),(7,.v (ti y))]) (bC:=4000) (by simp) ?_;apply aa.seq;refine aa.co am fw [(0,.v (.sl (aV l))),(3,.v (.box [ti af,ti fQ,ti ax,ti ac,.sl (ce ao)])),(5,.aQ 1500 0),(6,.v (.bool true)),(7,.v (ti y)),(71,.v (.bool false))] (by simp[apl]) ?_;refine aa.cond rfl (λh=>by cases h) (λ_=>?_);apply aa.skip;simp;refine aa.lk (o:=[(1500,.aR 0 97 5 (aV out))]) (l:=[(0,.v (.sl (aV l))),(3,.v (.box [ti af,ti fQ,ti ax,ti ac,.sl (ce ao)])),(5,.aQ 1500 0),(6,.v (.bool true)),(7,.v (ti y))]) (bC:=5000) (by simp) ?_;exact tail true out (by omega) hq.symm 5000
   ·rw[h1]at cn;simp only[nX]at cn;rw[mL (λh=>cn ⟨h.1,by simpa using h.2⟩)]at hq;apply aa.skip;simp;refine aa.lk (o:=[(1500,.aR 0 97 5 (aV out))]) (l:=[(0,.v (.sl (aV l))),(3,.v (.box [ti af,ti fQ,ti ax,ti ac,.sl (ce ao)])),(5,.aQ 1500 0),(6,.v (.bool dn)),(7,.v (ti y))]) (bC:=4000) (by simp) ?_;apply aa.seq;obtain⟨c2,fg⟩:=ba (decide (dn=false/\bF a ⟨bf,bt,bx,bc,bo⟩):Bool);refine aa.co am fw [(0,.v (.sl (aV l))),(3,.v (.box [ti af,ti fQ,ti ax,ti ac,.sl (ce ao)])),(5,.aQ 1500 0),(6,.v (.bool dn)),(7,.v (ti y)),(71,.v (.bool c2))] ?_ ?_
    ·cases dn with
     |true=>
      have:c2=false:=by rw[<-fg];simp
      simp[apl,this]
     |false=>
      have:c2=decide (bF a ⟨bf,bt,bx,bc,bo⟩):=by rw[<-fg];simp
      simp[apl,hr,aZ,hL,bk.enc,this];rw[show ke [ti bf,ti bt,ti bx,ti bc,T.sl (ce bo)]=⟨bf,bt,bx,bc,bo⟩from lh ⟨bf,bt,bx,bc,bo⟩,show ke [ti af,ti fQ,ti ax,ti ac,T.sl (ce ao)]=a by rw[<-aml];exact lh a];exact⟨⟨⟨⟨af,fQ,ax,ac,ao⟩,rfl,rfl,rfl,rfl,rfl⟩,⟨⟨bf,bt,bx,bc,bo⟩,rfl,rfl,rfl,rfl,rfl⟩⟩,Iff.rfl⟩
    refine aa.cond rfl (λh2=>?_) (λh2=>?_)
    ·rw[h2]at fg;simp only[o5]at fg;obtain⟨Fe,yi⟩:=fg;subst Fe;rw[uV ⟨rfl,yi⟩]at hq;apply aa.ag am fw [0,3,5,6,7];simp[alX];apply aa.cX am fw [0,3,5,6,7];simp[alY,cw,dW];refine⟨by omega, ?_⟩;refine aa.le (Le.aD (o:=[(1500,.aR 0 97 5 (aV (out++[a])))]) (l:=[(0,.v (.sl (aV l))),(3,.v (.box [ti af,ti fQ,ti ax,ti ac,.sl (ce ao)])),(5,.aQ 1500 0),(6,.v (.bool true)),(7,.v (ti y))]) (bC:=5000) ?_ ?_ ?_ ?_) ?_
     ·simp
     ·simp
     ·simp[aoj,aml]
     ·simp
     exact tail true (out++[a]) (by simp) hq.symm 5000
    ·rw[h2]at fg;simp only[nX]at fg;rw[mL fg]at hq;apply aa.skip;simp;refine aa.lk (o:=[(1500,.aR 0 97 5 (aV out))]) (l:=[(0,.v (.sl (aV l))),(3,.v (.box [ti af,ti fQ,ti ax,ti ac,.sl (ce ao)])),(5,.aQ 1500 0),(6,.v (.bool dn)),(7,.v (ti y))]) (bC:=5000) (by simp) ?_;exact tail dn out (by omega) hq.symm 5000
  ·apply aa.cX am fw [0,3,5,6,7];simp[alZ];rw[aq (by omega)];refine⟨y+1,Le.aD ?_ ?_ ?_ ?_,⟨by omega,by rw[gO];omega⟩,by omega⟩
   ·simp
   ·simp
   ·simp[gO]
   ·simp[gO]
 simp at aZ;have sH:y=l.length:=by omega
 subst sH;rw[ZbH]at eG⊢;obtain⟨p,hp⟩:=ba (eL a l);rw[hp]at hR eG⊢;obtain⟨dn,out⟩:=p;simp only at hR eG⊢;apply aa.exit;simp;apply aa.sq am fw [3,5,84];simp[al0];refine aa.to ⟨DM.look [(5,.aQ 1500 0)],cC [(1500,.aR 0 97 5 (aV R))],9000,1000,[]⟩ ?_ ?_
 ·refine aa.cond rfl (λh3=>?_) (λh3=>?_)
  ·simp at h3;subst h3;rw[mL (by simp)]at hR;apply aa.cX am fw [5];simp[al4,cw,dW];refine⟨by omega,Le.aD ?_ ?_ ?_ ?_⟩
   ·simp
   ·simp
   ·simp[<-hR,aoj,aml]
   ·simp
  ·simp at h3;subst h3;rw[uV rfl]at hR;subst hR;refine aa.skip ⟨rfl,Le.aD ?_ ?_ ?_ ?_⟩;iterate 3(·simp)
   ·simp
 apply aa.ag am fw [4];simp[al5];apply aa.ret;simp[acJ]
@[simp] def aaV(a b c d:Int)(o:List (Int×Int)):ke [ti a,ti b,ti c,ti d,.sl (ce o)]=⟨a,b,c,d,o⟩:=lh ⟨a,b,c,d,o⟩
@[simp] def aaW(a b c d:Int):ke [ti a,ti b,ti c,ti d,.sl []]=⟨a,b,c,d,[]⟩:=lh ⟨a,b,c,d,[]⟩
def ft{α:Type}(f:Nat->List α)(i m:Nat):List α:=(List.range (m-i)).flatMap λe=>f (i+e)
def lw{α:Type}(f:Nat->List α){i m:Nat}(h:i<=m):ft f i (m+1)=ft f i m++f m:=by
 unfold ft;rw[show m+1-i=(m-i)+1 by omega,E7,Zci];simp[show i+(m-i)=m by omega]
def qf{α:Type}(f:Nat->List α)(i:Nat):ft f i i=[]:=by simp[ft]
def j9(x:Input)(m t:Nat):Int:=(x.ai.getD m default).read.getD t default
def rA(x:Input)(i m t:Nat):List bk:=if m<x.ai.length/\0<=j9 x m t then [⟨2*i,2*m+2,t,kq (iR x i m) (j9 x m t),dB (m-i)++[(1,(t:Int))]⟩]else []
def rS(x:Input)(i m:Nat):List bk:=if cz x m then [⟨2*i,2*m+1,(x.ai.getD (m+1) default).kind,kq (iR x i m) x.swap,dB (m-i)++[(4,0)]⟩]else []
def rM(x:Input)(i m:Nat):List bk:=ft (rA x i m) 0 x.insert.length++rS x i m
def rT(x:Input)(i:Nat):List bk:=if cz x i then [⟨2*i+1,2*i+4,(x.ai.getD i default).kind,0,[]⟩]else []
def rI(x:Input)(i:Nat):List bk:=ft (rM x i) i (x.ai.length+1)++rT x i
def iT(x:Input)(i m t:Nat):List bk:=[⟨2*i,2*m,t,kq (iR x i m) (x.insert.getD t default),dB (m-i)++[(3,(t:Int))]⟩]
def iM(x:Input)(i m:Nat):List bk:=ft (iT x i m) 0 x.insert.length
def iI(x:Input)(i:Nat):List bk:=ft (iM x i) i (x.ai.length+1)
def aW(l cs:List bk):List bk:=cs.foldl pG l
def df(l cs ds:List bk):aW l (cs++ds)=aW (aW l cs) ds:=by simp[aW]
def fx(x:Input):List bk:=aW (aW [] (ft (rI x) 0 (x.ai.length+1))) (ft (iI x) 0 (x.ai.length+1))
def dN(x:Input)(k:Nat):b8:=(List.range (2*x.ai.length+1)).map λs=>if s<k then(if s % 2=0 then iR x (s/2) x.ai.length else 1099511627776)else 0
def bn(x:Input):aM:=⟨2*x.ai.length+1,fx x,dN x (2*x.ai.length+1)⟩
def BF(a:bk)(p:Bool×List bk)(b:bk):(dG a p b).2.length+p.1.toNat<=p.2.length+1+(dG a p b).1.toNat:=by
 unfold dG;cases hp:p.1 with
 |true=>simp
 |false=>
  simp only[E4,Bool.toNat_false];split
  ·simp
  ·split<;>simp
def Ep(a:bk)(l:List bk):(eL a l).2.length<=l.length+(eL a l).1.toNat:=by
 have key:∀(l:List bk) (p:Bool×List bk),(l.foldl (dG a) p).2.length+p.1.toNat<=p.2.length+l.length+(l.foldl (dG a) p).1.toNat:=by
  intro l;induction l with
  |nil=>intro p;simp
  |cons b l ih=>
   intro p;simp only[F6,pc];have h:=ih (dG a p b);have hs:=BF a p b;omega
 have h:=key l (false,[]);simpa [eL]using h
def SN(l:List bk)(a:bk):(pG l a).length<=l.length+1:=by
 have h:=Ep a l;unfold pG;split
 ·omega
 ·split
  ·rename_i hd;rw[hd]at h;simpa using h
  ·rename_i hd;simp only[He]at hd;rw[hd]at h;simp at h⊢;omega
def eW(cs:List bk):∀l:List bk,(aW l cs).length<=l.length+cs.length:=by
 induction cs with
 |nil=>intro l;simp[aW]
 |cons c cs ih=>
  intro l;have h1:=ih (pG l c);have h2:=SN l c;have e:aW l (c::cs)=aW (pG l c) cs:=rfl;rw[e];simp only[pc];omega
def Ha(x:Input)(i m t:Nat):(rA x i m t).length<=1:=by unfold rA;split<;>simp
def SO(x:Input)(i m:Nat):(rS x i m).length<=1:=by unfold rS;split<;>simp
def SP(x:Input)(i:Nat):(rT x i).length<=1:=by unfold rT;split<;>simp
def gX{α:Type}{f:Nat->List α}{B:Nat}(h:∀k,(f k).length<=B)(i m:Nat):(ft f i m).length<=(m-i)*B:=by
 unfold ft;have:∀k,((List.range k).flatMap λe=>f (i+e)).length<=k*B:=by
  intro k;induction k with
  |zero=>simp
  |succ k ih=>
   rw[E7,Zci,pb,Nat.succ_mul];have:=h (i+k);simp only[KO,Zda,F5];omega
 exact this _
def SQ(x:Input)(i m:Nat)(h:x.insert.length<=100):(rM x i m).length<=101:=by
 unfold rM;have h1:=gX (Ha x i m) 0 x.insert.length;have h2:=SO x i m;rw[pb];omega
def SR(x:Input)(i:Nat)(h:x.insert.length<=100)(hn:x.ai.length<=60):(rI x i).length<=7000:=by
 unfold rI;have h1:=gX (f:=rM x i) (B:=101) (λk=>SQ x i k h) i (x.ai.length+1);have h2:=SP x i;rw[pb];omega
def SS(x:Input)(i m:Nat)(h:x.insert.length<=100):(iM x i m).length<=100:=by
 unfold iM;have h1:=gX (f:=iT x i m) (B:=1) (λk=>by simp[iT]) 0 x.insert.length;omega
def ST(x:Input)(i:Nat)(h:x.insert.length<=100)(hn:x.ai.length<=60):(iI x i).length<=7000:=by
 unfold iI;have h1:=gX (f:=iM x i) (B:=100) (λk=>SS x i k h) i (x.ai.length+1);omega
abbrev s34(x:Input):DM.Spec:=bp (λts=>∃i m:Nat,ts=[x.enc,ti i,ti m]/\i<=m/\m<=x.ai.length) (fun|[_,.int _ i,.int _ m]=>ti (iR x i.toNat m.toNat)|_=>.bool false) true
abbrev s38(x:Input):DM.Spec:=bp (λts=>∃m:Nat,ts=[x.enc,ti m]/\m<=1000000) (fun|[_,.int _ m]=>.bool (cz x m.toNat)|_=>.bool false) true
abbrev s37:DM.Spec:=bp (λts=>∃(n:Nat) (a b:Int),ts=[ti n,.agg [ti a,ti b]]/\n<=1000000) (fun|[.int _ n,.agg [.int _ a,.int _ b]]=>.sl (ce (dB n.toNat++[(a,b)]))|_=>.bool false) false
abbrev s35:DM.Spec:=bp (λts=>∃(l:List bk) (a:bk),ts=[.sl (aV l),.agg a.enc]/\l.length<=1000000000) (fun|[.sl l,.agg a]=>.sl (aV (pG (vv l) (ke a)))|_=>.bool false) false
abbrev atC(x:Input):gP:=bG [(37,s34 x),(41,s38 x),(40,s37),(38,s35),(39,al6)]
def atD(x:Input)(hd:lz x.ai):au Tryd.prog (atC x):=by
 refine au.cons (au.cons (au.cons (au.cons atd ?_) ?_) ?_) ?_
 ·rintro ts ⟨l,a,rfl,h⟩;exact⟨by simpa using t35 l a h,λh=>by cases h⟩
 ·rintro ts ⟨n,a,b,rfl,h⟩;exact⟨by simpa using t37 n a b h,λh=>by cases h⟩
 ·rintro ts ⟨m,rfl,h⟩;exact⟨by simpa using t38 x m h hd.1,λ_=>rfl⟩
 ·rintro ts ⟨i,m,rfl,h1,h2⟩;exact⟨by simpa using t34 x i m h1 h2 hd,λ_=>rfl⟩
def t14(x:Input)(hx:LK x)(ate:x.ai.length<=60)(ht:x.insert.length<=100)(atf:∀c∈x.ai,c.read.length=x.insert.length):aI Tryd.prog 18 [x.enc] (bn x).enc:=by
 have am:=atD x hx.1;have qY:T.agg [.sl (bj x.ai),.sl (aw x.insert),ti x.swap]=x.enc:=rfl;obtain⟨hd,pR,G3,acu,aiH,vO⟩:=hx;obtain⟨n,hn⟩:=ba x.ai.length;obtain⟨tm,pP⟩:=ba x.insert.length;have hdb:=eN hd;have atg:∀y,y<=n+1->(aW [] (ft (rI x) 0 y)).length<=430000:=by
  intro y hy;have h1:=eW (ft (rI x) 0 y) [];have h2:=gX (f:=rI x) (B:=7000) (λk=>SR x k ht ate) 0 y;simp at h1;omega
 obtain⟨R,hR⟩:=ba ((bn x).enc);refine c14.ok (by simp) (aC ?_);rw[hR];simp only[bn,fx]at hR;simp[Input.enc];apply aa.ag am fw [1,2];simp[ass];refine aa.lk (o:=[(1003,.box [.v (ti 0),.aF,.aF])]) (l:=[(1,.v (.box [.sl (bj x.ai),.sl (aw x.insert),ti x.swap])),(2,.ptr 1003 0)]) (bC:=1500) (by simp) ?_;apply aa.ag am fw [1,2,3];simp[ast,hn];apply aa.ag am fw [1,2,3,4];simp[asu];apply aa.seq;refine aa.le (Le.aD (o:=[(1003,.box [.v (ti 0),.aF,.aF])]) (l:=[(1,.v (.box [.sl (bj x.ai),.sl (aw x.insert),ti x.swap])),(2,.ptr 1003 0),(3,.v (ti n)),(4,.v (.sl (aV [])))]) (bC:=2500) ?_ ?_ ?_ ?_) ?_;iterate 3(·simp)
 ·simp[aV]
 apply aa.ag am fw [1,2,3,4,5];simp[asv];obtain⟨Ei,G4⟩:=ba (aW [] (ft (rI x) 0 (n+1)));have amk:Ei.length<=430000:=by rw[<-G4];exact atg _ (by omega)
 refine aa.to ⟨DM.look [(1,.v (.box [.sl (bj x.ai),.sl (aw x.insert),ti x.swap])),(2,.ptr 1003 0),(3,.v (ti n)),(4,.v (.sl (aV Ei)))],cC [(1003,.box [.v (ti 0),.aF,.aF])],100000,1000,[]⟩ ?_ ?_
 ·apply aa.block;refine aa.loop (λy:Nat=>⟨DM.look [(1,.v (.box [.sl (bj x.ai),.sl (aw x.insert),ti x.swap])),(2,.ptr 1003 0),(3,.v (ti n)),(4,.v (.sl (aV (aW [] (ft (rI x) 0 y))))),(5,.v (ti y))],cC [(1003,.box [.v (ti 0),.aF,.aF])],10000,1000,[]⟩)
   (λy=>y<=n+1) (λy=>n+1-y) 0 (Le.aD ?_ ?_ ?_ ?_) (by simp) (λy hy=>?_)
  iterate 3(·simp)
  ·simp[qf,aW]
  have lal:=atg y hy;have aqi:=lw (rI x) (Hb y);obtain⟨al,ln⟩:=ba (aW [] (ft (rI x) 0 y));have al8:aW [] (ft (rI x) 0 (y+1))=aW al (rI x y):=by rw[aqi,df,ln]
  rw[ln]at lal⊢;apply aa.sq am fw [1,2,3,4,5,20];simp[asw];refine aa.cond rfl (λaZ=>?_) (λaZ=>?_)
  ·simp at aZ;have w2y:IntKind.i64.wrap (2*(y:Int))=2*y:=aq (by omega);apply aa.skip;simp;apply aa.seq;refine aa.to ⟨DM.look [(1,.v (.box [.sl (bj x.ai),.sl (aw x.insert),ti x.swap])),(2,.ptr 1003 0),(3,.v (ti n)),(4,.v (.sl (aV (aW al (rI x y))))),(5,.v (ti y))],cC [(1003,.box [.v (ti 0),.aF,.aF])],50000,1000,[]⟩ ?_ ?_
   ·apply aa.block;apply aa.sq am fw [1,2,3,4,5,6];simp[asx];obtain⟨Fi,tL⟩:=ba (aW al (ft (rM x y) y (n+1)));have lB:∀m,m<=n+1->(aW al (ft (rM x y) y m)).length<=440000:=by
     intro m hm;have h1:=eW (ft (rM x y) y m) al;have h2:=gX (f:=rM x y) (B:=101) (λk=>SQ x y k ht) y m;omega
    have atE:Fi.length<=440000:=by rw[<-tL];exact lB _ (by omega)
    have iv:aW al (rI x y)=aW Fi (rT x y):=by rw[<-tL,<-df];unfold rI;rw[hn]
    refine aa.to ⟨DM.look [(1,.v (.box [.sl (bj x.ai),.sl (aw x.insert),ti x.swap])),(2,.ptr 1003 0),(3,.v (ti n)),(4,.v (.sl (aV Fi))),(5,.v (ti y))],cC [(1003,.box [.v (ti 0),.aF,.aF])],40000,1000,[]⟩ ?_ ?_
    ·apply aa.block;refine aa.loop (λm:Nat=>⟨DM.look [(1,.v (.box [.sl (bj x.ai),.sl (aw x.insert),ti x.swap])),(2,.ptr 1003 0),(3,.v (ti n)),(4,.v (.sl (aV (aW al (ft (rM x y) y m))))),(5,.v (ti y)),(6,.v (ti m))],cC [(1003,.box [.v (ti 0),.aF,.aF])],20000,1000,[]⟩)
      (λm=>y<=m/\m<=n+1) (λm=>n+1-m) y (Le.aD ?_ ?_ ?_ ?_) (by omega) (λm hm=>?_)
     iterate 3(·simp)
     ·simp[qf,aW]
     obtain⟨Fu,Ud⟩:=hm;have asW:=lB m Ud;have aqj:=lw (rM x y) Fu;obtain⟨Bo,aqk⟩:=ba (aW al (ft (rM x y) y m));have aql:aW al (ft (rM x y) y (m+1))=aW Bo (rM x y m):=by rw[aqj,df,aqk]
     rw[aqk]at asW⊢;apply aa.sq am fw [1,2,3,4,5,6,26];simp[asy];refine aa.cond rfl (λAr=>?_) (λAr=>?_)
     ·simp at Ar;have w2m:IntKind.i64.wrap (2*(m:Int))=2*m:=aq (by omega);have atF:IntKind.i64.wrap (2*(m:Int)+1)=2*m+1:=aq (by omega);have alk:IntKind.i64.wrap (2*(m:Int)+2)=2*m+2:=aq (by omega);have wm1:IntKind.i64.wrap ((m:Int)+1)=m+1:=aq (by omega);have wmy:IntKind.i64.wrap ((m:Int)-y)=((m-y:Nat):Int):=by rw[aq (by omega)];omega
      obtain⟨d,hdd⟩:=ba (iR x y m);have asX:=hdb y m;rw[hdd]at asX;apply aa.skip;simp;apply aa.seq;refine aa.to ⟨DM.look [(1,.v (.box [.sl (bj x.ai),.sl (aw x.insert),ti x.swap])),(2,.ptr 1003 0),(3,.v (ti n)),(4,.v (.sl (aV (aW Bo (rM x y m))))),(5,.v (ti y)),(6,.v (ti m))],cC [(1003,.box [.v (ti 0),.aF,.aF])],40000,1000,[]⟩ ?_ ?_
      ·apply aa.block;apply aa.ag am fw [1,2,3,4,5,6,7];simp[asz,qY,hdd];refine⟨⟨y,m,⟨rfl,rfl⟩,Fu,by omega⟩, ?_⟩;apply aa.sq am fw [1,2,3,4,5,6,7,8];simp[asA];obtain⟨al3,Me⟩:=ba (aW Bo (ft (rA x y m) 0 tm));have lC:∀t,t<=tm->(aW Bo (ft (rA x y m) 0 t)).length<=450000:=by
        intro t Um;have h1:=eW (ft (rA x y m) 0 t) Bo;have h2:=gX (f:=rA x y m) (B:=1) (λk=>Ha x y m k) 0 t;omega
       have amr:al3.length<=450000:=by rw[<-Me];exact lC _ (by omega)
       have ath:aW Bo (rM x y m)=aW al3 (rS x y m):=by rw[<-Me,<-df];unfold rM;rw[pP]
       refine aa.to ⟨DM.look [(1,.v (.box [.sl (bj x.ai),.sl (aw x.insert),ti x.swap])),(2,.ptr 1003 0),(3,.v (ti n)),(4,.v (.sl (aV al3))),(5,.v (ti y)),(6,.v (ti m)),(7,.v (ti d))],cC [(1003,.box [.v (ti 0),.aF,.aF])],40000,1000,[]⟩ ?_ ?_
       ·apply aa.block;refine aa.loop (λt:Nat=>⟨DM.look [(1,.v (.box [.sl (bj x.ai),.sl (aw x.insert),ti x.swap])),(2,.ptr 1003 0),(3,.v (ti n)),(4,.v (.sl (aV (aW Bo (ft (rA x y m) 0 t))))),(5,.v (ti y)),(6,.v (ti m)),(7,.v (ti d)),(8,.v (ti t))],cC [(1003,.box [.v (ti 0),.aF,.aF])],30000,1000,[]⟩)
         (λt=>t<=tm) (λt=>tm-t) 0 (Le.aD ?_ ?_ ?_ ?_) (by simp) (λt Um=>?_)
        iterate 3(·simp)
        ·simp[qf,aW]
        have asY:=lC t Um;have aqm:=lw (rA x y m) (Hb t);obtain⟨alt,halt⟩:=ba (aW Bo (ft (rA x y m) 0 t));have ao0:aW Bo (ft (rA x y m) 0 (t+1))=aW alt (rA x y m t):=by rw[aqm,df,halt]
        rw[halt]at asY⊢;apply aa.sq am fw [1,2,3,4,5,6,7,8,37];simp[asB,pP];refine aa.cond rfl (λhct=>?_) (λhct=>?_)
        ·simp at hct;apply aa.skip;simp;apply aa.seq;obtain⟨q,hq⟩:=ba (rA x y m t);rw[hq]at ao0;unfold rA at hq;rw[hdd,hn]at hq;refine aa.to ⟨DM.look [(1,.v (.box [.sl (bj x.ai),.sl (aw x.insert),ti x.swap])),(2,.ptr 1003 0),(3,.v (ti n)),(4,.v (.sl (aV (aW alt q)))),(5,.v (ti y)),(6,.v (ti m)),(7,.v (ti d)),(8,.v (ti t))],cC [(1003,.box [.v (ti 0),.aF,.aF])],40000,1000,[]⟩ ?_ ?_
         ·apply aa.block;obtain⟨c,hc⟩:=ba (decide (m<n/\0<=j9 x m t):Bool);by_cases UU:m<n
          ·have hmc:m<x.ai.length:=by omega
           have Fg:=cu hmc;obtain⟨cl,cD⟩:=ba (x.ai.getD m default);have ati:cl∈x.ai:=by rw[<-cD];simp[List.getD,hmc]
           have Fa:=atf cl ati;have aln:=pR cl ati;rw[cD]at Fg;have htr:t<cl.read.length:=by omega
           have nT:=bS htr;have Ae:j9 x m t=cl.read.getD t default:=by unfold j9;rw[cD]
           rw[Ae]at hq hc;obtain⟨u,hu⟩:=ba (cl.read.getD t default);rw[hu]at nT hq hc;refine aa.co am fw [(1,.v (.box [.sl (bj x.ai),.sl (aw x.insert),ti x.swap])),(2,.ptr 1003 0),(3,.v (ti n)),(4,.v (.sl (aV alt))),(5,.v (ti y)),(6,.v (ti m)),(7,.v (ti d)),(8,.v (ti t)),(54,.v (.bool c))] ?_ ?_
           ·by_cases q2:0<=u
            ·have V9:c=true:=by rw[<-hc];simp[UU,q2]
             simp[apk,UU,hn,Fg,bz.enc,htr,nT,q2,V9]
            ·have V9:c=false:=by rw[<-hc];simp[q2]
             simp[apk,UU,hn,Fg,bz.enc,htr,nT,q2,V9]
           refine aa.cond rfl (λh=>?_) (λh=>?_)
           ·rw[h]at hc;simp only[o5]at hc;rw[uV hc]at hq;have hub:u<=1099511627776:=aln.2 u (by rw[<-hu];simp[List.getD,htr]);subst hq;apply aa.cX am fw [1,2,3,4,5,6,7,8];simp[alq,w2y,w2m,alk,wmy,UU,hn,Fg,bz.enc,htr,nT];refine⟨⟨d,u,⟨rfl,rfl⟩,by omega,by omega⟩,⟨m-y,rfl,by omega⟩,⟨alt,⟨rfl,⟨⟨2*y,2*m+2,t,kq d u,dB (m-y)++[(1,(t:Int))]⟩,rfl⟩⟩,by omega⟩,Le.aD ?_ ?_ ?_ ?_⟩;iterate 3(·simp)
            ·simp[aW]
           ·rw[h]at hc;simp only[nX]at hc;rw[mL hc]at hq;subst hq;refine aa.skip ⟨rfl,Le.aD ?_ ?_ ?_ ?_⟩;iterate 3(·simp)
            ·simp[aW]
          ·have V9:c=false:=by rw[<-hc];simp[UU]
           rw[mL (λh=>UU h.1)]at hq;subst hq;refine aa.co am fw [(1,.v (.box [.sl (bj x.ai),.sl (aw x.insert),ti x.swap])),(2,.ptr 1003 0),(3,.v (ti n)),(4,.v (.sl (aV alt))),(5,.v (ti y)),(6,.v (ti m)),(7,.v (ti d)),(8,.v (ti t)),(54,.v (.bool false))] ?_ ?_
           ·simp[apk,UU]
           refine aa.cond rfl (λh=>by cases h) (λ_=>?_);refine aa.skip ⟨rfl,Le.aD ?_ ?_ ?_ ?_⟩;iterate 3(·simp)
           ·simp[aW]
         ·apply aa.cX am fw [1,2,3,4,5,6,7,8];simp[alr];rw[aq (by omega)];refine⟨t+1,Le.aD ?_ ?_ ?_ ?_,by omega,by omega⟩;iterate 3(·simp)
          ·simp[ao0]
        ·simp at hct;have:t=tm:=by omega
         subst this;refine aa.exit ⟨rfl,Le.aD ?_ ?_ ?_ ?_⟩;iterate 3(·simp)
         ·simp[<-Me,halt]
       simp;apply aa.ag am fw [1,2,3,4,5,6,7,83];simp[als,qY];refine⟨⟨m,rfl,by omega⟩, ?_⟩;rw[ath];obtain⟨q,hq⟩:=ba (rS x y m);rw[hq];unfold rS at hq;rw[hdd]at hq;refine aa.cond rfl (λh=>?_) (λh=>?_)
       ·rw[uV h]at hq;have Ej:m+1<x.ai.length:=by simp[cz]at h;exact h.1
        have Fg:DM.rowAt (bj x.ai) ((m:Int)+1)=_:=cu Ej;obtain⟨cl,cD⟩:=ba (x.ai.getD (m+1) default);rw[cD]at Fg hq;have acx:((m:Int)+1<n)=True:=by simp;omega
        have Bz:(0<=(m:Int)+1)=True:=by simp;omega
        subst hq;apply aa.cX am fw [1,2,3,4,5,6];simp[alu,w2y,w2m,atF,wm1,wmy,hn,Fg,acx,Bz,bz.enc];refine⟨⟨d,x.swap,⟨rfl,rfl⟩,by omega,by omega⟩,⟨m-y,rfl,by omega⟩,⟨al3,⟨rfl,⟨⟨2*y,2*m+1,cl.kind,kq d x.swap,dB (m-y)++[(4,0)]⟩,rfl⟩⟩,by omega⟩,Le.aD ?_ ?_ ?_ ?_⟩;iterate 3(·simp)
        ·simp[aW]
       ·rw[mL (by simp[h])]at hq;subst hq;refine aa.skip ⟨rfl,Le.aD ?_ ?_ ?_ ?_⟩;iterate 3(·simp)
        ·simp[aW]
      ·apply aa.cX am fw [1,2,3,4,5,6];simp[alv];rw[aq (by omega)];refine⟨m+1,Le.aD ?_ ?_ ?_ ?_,by omega,by omega⟩;iterate 3(·simp)
       ·simp[aql]
     ·simp at Ar;have:m=n+1:=by omega
      subst this;refine aa.exit ⟨rfl,Le.aD ?_ ?_ ?_ ?_⟩;iterate 3(·simp)
      ·simp[<-tL,aqk]
    simp;apply aa.ag am fw [1,2,3,4,5,110];simp[alw,qY];refine⟨⟨y,rfl,by omega⟩, ?_⟩;rw[iv];obtain⟨q,hq⟩:=ba (rT x y);rw[hq];unfold rT at hq;refine aa.cond rfl (λh=>?_) (λh=>?_)
    ·rw[uV h]at hq;have Ej:y<x.ai.length:=by simp[cz]at h;omega
     have Fg:=cu Ej;obtain⟨cl,cD⟩:=ba (x.ai.getD y default);rw[cD]at Fg hq;have alo:IntKind.i64.wrap (2*(y:Int)+1)=2*y+1:=aq (by omega);have alp:IntKind.i64.wrap (2*(y:Int)+4)=2*y+4:=aq (by omega);have UW:y<n:=by omega
     subst hq;apply aa.cX am fw [1,2,3,4,5];simp[alx,w2y,alo,alp,hn,Fg,UW,bz.enc];refine⟨⟨Fi,⟨rfl,⟨⟨2*y+1,2*y+4,cl.kind,0,[]⟩,rfl⟩⟩,by omega⟩,Le.aD ?_ ?_ ?_ ?_⟩;iterate 3(·simp)
     ·simp[aW]
    ·rw[mL (by simp[h])]at hq;subst hq;refine aa.skip ⟨rfl,Le.aD ?_ ?_ ?_ ?_⟩;iterate 3(·simp)
     ·simp[aW]
   ·apply aa.cX am fw [1,2,3,4,5];simp[alA];rw[aq (by omega)];refine⟨y+1,Le.aD ?_ ?_ ?_ ?_,by omega,by omega⟩;iterate 3(·simp)
    ·simp[al8]
  ·simp at aZ;have:y=n+1:=by omega
   subst this;refine aa.exit ⟨rfl,Le.aD ?_ ?_ ?_ ?_⟩;iterate 3(·simp)
   ·simp[<-G4,ln]
 simp;apply aa.sq am fw [1,2,3,4,9];simp[alB];obtain⟨Fi,tL⟩:=ba (aW Ei (ft (iI x) 0 (n+1)));have atj:∀y,y<=n+1->(aW Ei (ft (iI x) 0 y)).length<=900000:=by
  intro y hy;have h1:=eW (ft (iI x) 0 y) Ei;have h2:=gX (f:=iI x) (B:=7000) (λk=>ST x k ht ate) 0 y;omega
 refine aa.to ⟨DM.look [(1,.v (.box [.sl (bj x.ai),.sl (aw x.insert),ti x.swap])),(2,.ptr 1003 0),(3,.v (ti n)),(4,.v (.sl (aV Fi)))],cC [(1003,.box [.v (ti 0),.aF,.aF])],100000,1000,[]⟩ ?_ ?_
 ·apply aa.block;refine aa.loop (λy:Nat=>⟨DM.look [(1,.v (.box [.sl (bj x.ai),.sl (aw x.insert),ti x.swap])),(2,.ptr 1003 0),(3,.v (ti n)),(4,.v (.sl (aV (aW Ei (ft (iI x) 0 y))))),(9,.v (ti y))],cC [(1003,.box [.v (ti 0),.aF,.aF])],110000,1000,[]⟩)
   (λy=>y<=n+1) (λy=>n+1-y) 0 (Le.aD ?_ ?_ ?_ ?_) (by simp) (λy hy=>?_)
  iterate 3(·simp)
  ·simp[qf,aW]
  have lal:=atj y hy;have aqi:=lw (iI x) (Hb y);obtain⟨al,ln⟩:=ba (aW Ei (ft (iI x) 0 y));have al8:aW Ei (ft (iI x) 0 (y+1))=aW al (iI x y):=by rw[aqi,df,ln]
  rw[ln]at lal⊢;apply aa.sq am fw [1,2,3,4,9,128];simp[alC];refine aa.cond rfl (λaZ=>?_) (λaZ=>?_)
  ·simp at aZ;have w2y:IntKind.i64.wrap (2*(y:Int))=2*y:=aq (by omega);apply aa.skip;simp;apply aa.seq;refine aa.to ⟨DM.look [(1,.v (.box [.sl (bj x.ai),.sl (aw x.insert),ti x.swap])),(2,.ptr 1003 0),(3,.v (ti n)),(4,.v (.sl (aV (aW al (iI x y))))),(9,.v (ti y))],cC [(1003,.box [.v (ti 0),.aF,.aF])],150000,1000,[]⟩ ?_ ?_
   ·apply aa.block;apply aa.ag am fw [1,2,3,4,9,10];simp[alD];have lB:∀m,m<=n+1->(aW al (ft (iM x y) y m)).length<=910000:=by
     intro m hm;have h1:=eW (ft (iM x y) y m) al;have h2:=gX (f:=iM x y) (B:=100) (λk=>SS x y k ht) y m;omega
    apply aa.block;refine aa.loop (λm:Nat=>⟨DM.look [(1,.v (.box [.sl (bj x.ai),.sl (aw x.insert),ti x.swap])),(2,.ptr 1003 0),(3,.v (ti n)),(4,.v (.sl (aV (aW al (ft (iM x y) y m))))),(9,.v (ti y)),(10,.v (ti m))],cC [(1003,.box [.v (ti 0),.aF,.aF])],120000,1000,[]⟩)
     (λm=>y<=m/\m<=n+1) (λm=>n+1-m) y (Le.aD ?_ ?_ ?_ ?_) (by omega) (λm hm=>?_)
    iterate 3(·simp)
    ·simp[qf,aW]
    obtain⟨Fu,Ud⟩:=hm;have asW:=lB m Ud;have aqj:=lw (iM x y) Fu;obtain⟨Bo,aqk⟩:=ba (aW al (ft (iM x y) y m));have aql:aW al (ft (iM x y) y (m+1))=aW Bo (iM x y m):=by rw[aqj,df,aqk]
    rw[aqk]at asW⊢;apply aa.sq am fw [1,2,3,4,9,10,134];simp[alE];refine aa.cond rfl (λAr=>?_) (λAr=>?_)
    ·simp at Ar;have w2m:IntKind.i64.wrap (2*(m:Int))=2*m:=aq (by omega);have wmy:IntKind.i64.wrap ((m:Int)-y)=((m-y:Nat):Int):=by rw[aq (by omega)];omega
     obtain⟨d,hdd⟩:=ba (iR x y m);have asX:=hdb y m;rw[hdd]at asX;apply aa.skip;simp;apply aa.seq;refine aa.to ⟨DM.look [(1,.v (.box [.sl (bj x.ai),.sl (aw x.insert),ti x.swap])),(2,.ptr 1003 0),(3,.v (ti n)),(4,.v (.sl (aV (aW Bo (iM x y m))))),(9,.v (ti y)),(10,.v (ti m))],cC [(1003,.box [.v (ti 0),.aF,.aF])],140000,1000,[]⟩ ?_ ?_
     ·apply aa.block;apply aa.ag am fw [1,2,3,4,9,10,11];simp[alF];have lC:∀t,t<=tm->(aW Bo (ft (iT x y m) 0 t)).length<=920000:=by
       intro t Um;have h1:=eW (ft (iT x y m) 0 t) Bo;have h2:=gX (f:=iT x y m) (B:=1) (λk=>by simp[iT]) 0 t;omega
      apply aa.block;refine aa.loop (λt:Nat=>⟨DM.look [(1,.v (.box [.sl (bj x.ai),.sl (aw x.insert),ti x.swap])),(2,.ptr 1003 0),(3,.v (ti n)),(4,.v (.sl (aV (aW Bo (ft (iT x y m) 0 t))))),(9,.v (ti y)),(10,.v (ti m)),(11,.v (ti t))],cC [(1003,.box [.v (ti 0),.aF,.aF])],130000,1000,[]⟩)
       (λt=>t<=tm) (λt=>tm-t) 0 (Le.aD ?_ ?_ ?_ ?_) (by simp) (λt Um=>?_)
      iterate 3(·simp)
      ·simp[qf,aW]
      have asY:=lC t Um;have aqm:=lw (iT x y m) (Hb t);obtain⟨alt,halt⟩:=ba (aW Bo (ft (iT x y m) 0 t));have ao0:aW Bo (ft (iT x y m) 0 (t+1))=aW alt (iT x y m t):=by rw[aqm,df,halt]
      rw[halt]at asY⊢;apply aa.sq am fw [1,2,3,4,9,10,11,141];simp[alG,pP];refine aa.cond rfl (λhct=>?_) (λhct=>?_)
      ·simp at hct;apply aa.skip;simp;apply aa.seq;apply aa.block;have htx:t<x.insert.length:=by omega
       have nT:=bS htx;obtain⟨u,hu⟩:=ba (x.insert.getD t default);have hub:=acu u (by rw[<-hu];simp[List.getD,htx]);have hiT:iT x y m t=[⟨2*y,2*m,t,kq d u,dB (m-y)++[(3,(t:Int))]⟩]:=by unfold iT;rw[hdd,hu]
       rw[hu]at nT;apply aa.cX am fw [1,2,3,4,9,10,11];simp[alH,qY,hdd,w2y,w2m,wmy,pP,nT,hct];refine⟨⟨y,m,⟨rfl,rfl⟩,Fu,by omega⟩,⟨d,u,⟨rfl,rfl⟩,by omega,by omega⟩,⟨m-y,rfl,by omega⟩,⟨alt,⟨rfl,⟨⟨2*y,2*m,t,kq d u,dB (m-y)++[(3,(t:Int))]⟩,rfl⟩⟩,by omega⟩, ?_⟩;apply aa.cX am fw [1,2,3,4,9,10,11];simp[alI];rw[aq (by omega)];refine⟨t+1,Le.aD ?_ ?_ ?_ ?_,by omega,by omega⟩;iterate 3(·simp)
       ·rw[hiT]at ao0;have Fj:aW Bo (ft (iT x y m) 0 (t+1))=pG alt ⟨2*y,2*m,t,kq d u,dB (m-y)++[(3,(t:Int))]⟩:=ao0;simp[Fj]
      ·simp at hct;have:t=tm:=by omega
       subst this;refine aa.exit ⟨rfl,Le.aD ?_ ?_ ?_ ?_⟩;iterate 3(·simp)
       ·simp[<-halt,iM,pP]
     ·apply aa.cX am fw [1,2,3,4,9,10];simp[alJ];rw[aq (by omega)];refine⟨m+1,Le.aD ?_ ?_ ?_ ?_,by omega,by omega⟩;iterate 3(·simp)
      ·simp[aql]
    ·simp at Ar;have:m=n+1:=by omega
     subst this;refine aa.exit ⟨rfl,Le.aD ?_ ?_ ?_ ?_⟩;iterate 3(·simp)
     ·simp[<-aqk,iI,hn]
   ·apply aa.cX am fw [1,2,3,4,9];simp[alK];rw[aq (by omega)];refine⟨y+1,Le.aD ?_ ?_ ?_ ?_,by omega,by omega⟩;iterate 3(·simp)
    ·simp[al8]
  ·simp at aZ;have:y=n+1:=by omega
   subst this;refine aa.exit ⟨rfl,Le.aD ?_ ?_ ?_ ?_⟩;iterate 3(·simp)
   ·simp[<-tL,ln]
 simp;have atE:Fi.length<=900000:=by rw[<-tL];exact atj _ (by omega)
 obtain⟨N,hN⟩:=ba (2*n+1);have w2n:IntKind.i64.wrap (2*(n:Int))=2*n:=aq (by omega);have atk:IntKind.i64.wrap (2*(n:Int)+1)=(N:Int):=by rw[aq (by omega)];omega
 apply aa.ag am fw [1,2,3,12];simp[alL,w2n,atk];apply aa.ag am fw [1,2,3,12,13];simp[alM,w2n,atk];refine⟨by simp[cw];omega, ?_⟩;apply aa.sq am fw [1,2,3,12,13,14];simp[alN];have Fa:(dN x 0).length=N:=by simp[dN,hn,hN]
 have apu:∀k,(dN x k).length=N:=λk=>by simp[dN,hn,hN]
 have hF0:List.replicate N [T.int IntKind.i64 0]=aw (dN x 0):=by
  rw[<-hN,<-hn];apply Uc
  ·simp[dN,aw]
  ·intro i h1 h2;simp[dN,aw]
 have hFs:∀k,k<N->(dN x k).set k (if k % 2=0 then iR x (k/2) n else 1099511627776)=dN x (k+1):=by
  intro k hk;rw[<-hn];apply Uc
  ·simp[dN]
  ·intro i h1 h2;rw[ZcI];simp only[dN,Zc9,TW];by_cases e:k=i
   ·subst e;simp
   ·rw[mL e];have hq:(i<k+1)=(i<k):=propext ⟨λh=>by omega,λh=>by omega⟩;simp only[hq]
 rw[hF0];apply aa.block;refine aa.loop (λk:Nat=>⟨DM.look [(1,.v (.box [.sl (bj x.ai),.sl (aw x.insert),ti x.swap])),(2,.ptr 1003 0),(3,.v (ti n)),(12,.ptr 100013 0),(13,.aQ 100378 0),(14,.v (ti k))],cC [(1003,.box [.v (ti 0),.aF,.aF]),(100013,.box [.v (ti N),.v (.sl (aV Fi)),.aF]),(100378,.aR 0 3 1 (aw (dN x k)))],200000,1000,[]⟩)
  (λk=>k<=N) (λk=>N-k) 0 (Le.aD ?_ ?_ ?_ ?_) (by simp) (λk hk=>?_)
 iterate 4(·simp)
 apply aa.sq am fw [1,2,3,12,13,14,180];simp[alO,apu];refine aa.cond rfl (λzr=>?_) (λzr=>?_)
 ·simp at zr;have hrw:DM.rowAt (aw (dN x k)) (k:Int)=[ti ((dN x k).getD k default)]:=bS (by rw[apu];exact zr);have amd:DM.rowAt (aw ((dN x k).set k 1099511627776)) (k:Int)=[ti (((dN x k).set k 1099511627776).getD k default)]:=bS (by rw[Zdc,apu];exact zr);have hs:=hFs k zr;apply aa.skip;simp;apply aa.seq;refine aa.to ⟨DM.look [(1,.v (.box [.sl (bj x.ai),.sl (aw x.insert),ti x.swap])),(2,.ptr 1003 0),(3,.v (ti n)),(12,.ptr 100013 0),(13,.aQ 100378 0),(14,.v (ti k))],cC [(1003,.box [.v (ti 0),.aF,.aF]),(100013,.box [.v (ti N),.v (.sl (aV Fi)),.aF]),(100378,.aR 0 3 1 (aw (dN x (k+1))))],300000,1000,[]⟩ ?_ ?_
  ·apply aa.block;apply aa.ag am fw [1,2,3,12,13,14];simp[alP,apu,zr,hrw];rw[show(aw (dN x k)).set k [T.int IntKind.i64 1099511627776]=aw ((dN x k).set k 1099511627776)from aaF _ _ _];refine aa.lk (o:=[(1003,.box [.v (ti 0),.aF,.aF]),(100013,.box [.v (ti N),.v (.sl (aV Fi)),.aF]),(100378,.aR 0 3 1 (aw ((dN x k).set k 1099511627776)))]) (l:=[(1,.v (.box [.sl (bj x.ai),.sl (aw x.insert),ti x.swap])),(2,.ptr 1003 0),(3,.v (ti n)),(12,.ptr 100013 0),(13,.aQ 100378 0),(14,.v (ti k))]) (bC:=210000) (by simp) ?_;have wm:(k:Int).tmod 2=k % 2:=ata (by omega);have wd:(k:Int).tdiv 2=((k/2:Nat):Int):=by rw[as9 (by omega)];omega
   have ww:IntKind.i64.wrap ((k:Int) % 2)=k % 2:=aq (by omega);have ww2:IntKind.i64.wrap ((k/2:Nat):Int)=((k/2:Nat):Int):=aq (by omega);obtain⟨h2,hh2⟩:=ba (k/2);rw[hh2]at wd ww2 hs;apply aa.ag am fw [1,2,3,12,13,14,188];simp[alQ,wm];refine aa.cond rfl (λh=>?_) (λh=>?_)
   ·simp at h;have qo:k % 2=0:=by omega
    rw[uV qo]at hs;apply aa.cX am fw [1,2,3,12,13,14];simp[alR,qY,wd,ww2,apu,zr,amd];refine⟨⟨h2,n,⟨rfl,rfl⟩,by omega,by omega⟩,Le.aD ?_ ?_ ?_ ?_⟩
    ·simp
    ·simp
    ·simp[<-hs,<-aaF]
    ·simp
   ·simp at h;have qo:¬k % 2=0:=by omega
    rw[mL qo]at hs;refine aa.skip ⟨rfl,Le.aD ?_ ?_ ?_ ?_⟩
    ·simp
    ·simp
    ·simp[hs]
    ·simp
  ·apply aa.cX am fw [1,2,3,12,13,14];simp[alS];rw[aq (by omega)];refine⟨k+1,Le.aD ?_ ?_ ?_ ?_,by omega,by omega⟩;iterate 3(·simp)
   ·simp
 ·simp at zr;have:k=N:=by omega
  subst this;apply aa.exit;simp;apply aa.ag am fw [2,12];simp[alT];apply aa.ag am fw [2];simp[alU];apply aa.ret;subst hR;rw[hn,hN,G4,tL];simp[alV,aM.enc];omega
def lR(c:bz)(t:Nat):Prop:=¬(((t:Int)=c.kind/\c.read.getD t default≠0)\/((t:Int)≠c.kind/\c.read.getD t default≠-1/\(c.read.getD t default<1\/c.read.getD t default>60000)))
def u5(c:bz)(aK:Int):Prop:=(¬(c.kind< -1\/c.kind>=aK\/(c.read.length:Int)≠aK\/c.delete<1\/(c.delete>60000/\c.delete≠1099511627776)))/\∀t,t<aK.toNat->lR c t
instance(c:bz)(t:Nat):Decidable (lR c t):=by unfold lR;infer_instance
instance(c:bz)(aK:Int):Decidable (u5 c aK):=by unfold u5;infer_instance
def lO(l:List bz)(aK:Int):Prop:=∀i,i<l.length->u5 (l.getD i default) aK
instance(l:List bz)(aK:Int):Decidable (lO l aK):=by unfold lO;infer_instance
def A5(l:b8)(t:Nat):Prop:=¬(l.getD t default<1\/l.getD t default>60000)
instance(l:b8)(t:Nat):Decidable (A5 l t):=by unfold A5;infer_instance
def US(x:Input)(aK:Int):Prop:=(¬(aK<0\/(x.ai.length:Int)>60\/(x.insert.length:Int)≠aK\/x.swap<0\/x.swap>60000\/¬lO x.ai aK))/\∀t,t<aK.toNat->A5 x.insert t
instance(x:Input)(aK:Int):Decidable (US x aK):=by unfold US;infer_instance
def t58(c:bz)(aK:Int)(h:aK<=1000000000000):aI Tryd.prog 95 [.agg c.enc,ti aK] (.bool (decide (u5 c aK))):=by
 have am:=MC;obtain⟨v,hv⟩:=ba (decide (u5 c aK));rw[hv];have cb:¬u5 c aK->v=false:=λh=>by rw[<-hv];simp[h]
 have dt:u5 c aK↔(¬(c.kind< -1\/c.kind>=aK\/(c.read.length:Int)≠aK\/c.delete<1\/(c.delete>60000/\c.delete≠1099511627776)))/\∀t,t<aK.toNat->lR c t:=Iff.rfl;refine c58.ok (by simp) (aC ?_);simp[bz.enc];apply aa.ag am fw [1,2];simp[aac];refine aa.lk (o:=[]) (l:=[(1,.v (ti aK)),(2,.v (.box [ti c.kind,.sl (aw c.read),ti c.delete]))]) (bC:=1200) (by simp) ?_;apply aa.seq;obtain⟨b,hb⟩:=ba (decide (c.kind< -1\/c.kind>=aK\/(c.read.length:Int)≠aK\/c.delete<1\/(c.delete>60000/\c.delete≠1099511627776)):Bool);refine aa.co am fw [(1,.v (ti aK)),(2,.v (.box [ti c.kind,.sl (aw c.read),ti c.delete])),(37,.v (.bool b))] ?_ ?_
 ·by_cases q1:c.kind< -1
  ·have ls:b=true:=by rw[<-hb];simp[q1]
   simp[uO,q1,ls]
  ·by_cases q2:aK<=c.kind
   ·have ls:b=true:=by rw[<-hb];simp[q2]
    simp[uO,q1,q2,ls]
   ·by_cases q3:(c.read.length:Int)=aK
    ·by_cases q4:c.delete<1
     ·have ls:b=true:=by rw[<-hb];simp[q4]
      simp[uO,q1,q2,q3,q4,ls]
     ·by_cases q5:60000<c.delete
      ·by_cases q6:c.delete=1099511627776
       ·have ls:b=false:=by rw[<-hb];simp only[nX];omega
        simp[uO,q1,q2,q3,q4,q5,q6,ls]
       ·have ls:b=true:=by rw[<-hb];simp[q5,q6]
        simp[uO,q1,q2,q3,q4,q5,q6,ls]
      ·have ls:b=false:=by rw[<-hb];simp only[nX];omega
       simp[uO,q1,q2,q3,q4,q5,ls]
    ·have ls:b=true:=by rw[<-hb];simp[q3]
     simp[uO,q1,q2,q3,ls]
 refine aa.cond rfl (λh=>?_) (λh=>?_)
 ·rw[h]at hb;simp only[o5]at hb;apply aa.ag am fw [4];simp[aad];apply aa.ret;rw[cb λe=>(dt.1 e).1 hb];simp[ci]
 rw[h]at hb;simp only[nX]at hb;obtain⟨n,hn⟩:=ba c.read.length;have TT:aK=(n:Int):=by omega
 subst TT;apply aa.skip;simp;apply aa.sq am fw [1,2,5];simp[aae];apply aa.block;refine aa.loop (λy:Nat=>⟨DM.look [(1,.v (ti n)),(2,.v (.box [ti c.kind,.sl (aw c.read),ti c.delete])),(5,.v (ti y))],cC [],2000,1000,[]⟩)
  (λy=>y<=n/\∀t,t<y->lR c t) (λy=>n-y) 0 (Le.aD (o:=[]) ?_ ?_ ?_ ?_) (by simp) (λy hy=>?_)
 iterate 4(·simp)
 obtain⟨pT,eG⟩:=hy;apply aa.sq am fw [1,2,5,40];simp[aaf];refine aa.cond rfl (λaZ=>?_) (λaZ=>?_)
 ·simp at aZ;have HU:y<c.read.length:=by omega
  have r1:=bS HU;obtain⟨u,hu⟩:=ba (c.read.getD y default);rw[hu]at r1;have B1:lR c y↔¬(((y:Int)=c.kind/\u≠0)\/((y:Int)≠c.kind/\u≠-1/\(u<1\/u>60000))):=by unfold lR;rw[hu]
  obtain⟨kd,hkd⟩:=ba c.kind;rw[hkd]at B1⊢;apply aa.skip;simp;apply aa.seq;apply aa.block;apply aa.ag am fw [1,2,5,6];simp[aag,r1,HU];obtain⟨b2,i7⟩:=ba (decide (((y:Int)=kd/\u≠0)\/((y:Int)≠kd/\u≠-1/\(u<1\/u>60000))):Bool);refine aa.co am fw [(1,.v (ti n)),(2,.v (.box [ti kd,.sl (aw c.read),ti c.delete])),(5,.v (ti y)),(73,.v (.bool b2))] ?_ ?_
  ·by_cases q1:(y:Int)=kd
   ·by_cases q2:u=0
    ·have ls:b2=false:=by rw[<-i7];simp[q1,q2]
     simp[xT,q1,q2,ls]
    ·have ls:b2=true:=by rw[<-i7];simp[q1,q2]
     simp[xT,q1,q2,ls]
   ·by_cases q2:u= -1
    ·have ls:b2=false:=by rw[<-i7];simp[q1,q2]
     simp[xT,q1,q2,ls]
    ·by_cases q3:u<1
     ·have ls:b2=true:=by rw[<-i7];simp[q1,q2,q3]
      simp[xT,q1,q2,q3,ls]
     ·by_cases q4:60000<u
      ·have ls:b2=true:=by rw[<-i7];simp[q1,q2,q4]
       simp[xT,q1,q2,q3,q4,ls]
      ·have ls:b2=false:=by rw[<-i7];simp only[nX];omega
       simp[xT,q1,q2,q3,q4,ls]
  refine aa.cond rfl (λh=>?_) (λh=>?_)
  ·rw[h]at i7;simp only[o5]at i7;apply aa.ag am fw [4];simp[aah];apply aa.ret;rw[cb λe=>B1.1 ((dt.1 e).2 y (by simpa using aZ)) i7];simp[ci]
  ·rw[h]at i7;simp only[nX]at i7;apply aa.skip;simp;apply aa.cX am fw [1,2,5];simp[aai];rw[aq (by omega)];refine⟨y+1,Le.aD (o:=[]) ?_ ?_ ?_ ?_,⟨by omega,λi hi=>?_⟩,by omega⟩;iterate 4(·simp)
   ·by_cases e:i=y
    ·subst e;exact B1.2 i7
    ·exact eG i (by omega)
 simp at aZ;apply aa.exit;simp;apply aa.ag am fw [4];simp[aaj];apply aa.ret;have:v=true:=by
  rw[<-hv,o5];exact dt.2 ⟨by omega,λi hi=>eG i (by simp at hi;omega)⟩
 rw[this];simp[ci]
abbrev acK:DM.Spec:=bp (λts=>∃(c:bz) (t:Int),ts=[.agg c.enc,ti t]/\t<=1000000000000) (fun|[.agg c,.int _ t]=>.bool (decide (u5 (xU c) t))|_=>.bool false) true
def aiR:au Tryd.prog (bG [(95,acK)]):=by
 refine au.cons au.nil ?_;rintro ts ⟨c,t,rfl,h⟩;exact⟨by simpa using t58 c t h,λ_=>rfl⟩
def t45(l:List bz)(aK:Int)(h1:l.length<=1000000000000)(h2:aK<=1000000000000):aI Tryd.prog 76 [.sl (bj l),ti aK] (.bool (decide (lO l aK))):=by
 have am:=aiR;obtain⟨v,hv⟩:=ba (decide (lO l aK));rw[hv];have cb:¬lO l aK->v=false:=λh=>by rw[<-hv];simp[h]
 refine c45.ok (by simp) (aC ?_);simp;apply aa.ag am fw [0,1];simp[Dj];apply aa.sq am fw [0,1,5];simp[xq];apply aa.block;refine aa.loop (λj:Nat=>⟨DM.look [(0,.v (.sl (bj l))),(1,.v (ti aK)),(5,.v (ti j))],cC [],2000,1000,[]⟩)
  (λj=>j<=l.length/\∀i,i<j->u5 (l.getD i default) aK) (λj=>l.length-j) 0 (Le.aD (o:=[]) ?_ ?_ ?_ ?_) (by simp) (λj hj=>?_)
 iterate 4(·simp)
 obtain⟨pT,eG⟩:=hj;apply aa.sq am fw [0,1,5,9];simp[Dk];refine aa.cond rfl (λaZ=>?_) (λaZ=>?_)
 ·simp at aZ;have r1:=cu aZ;apply aa.skip;simp;apply aa.seq;apply aa.block;obtain⟨u,hu⟩:=ba (l.getD j default);rw[hu]at r1;apply aa.ag am fw [0,1,5,18];obtain⟨a,b,c⟩:=u;simp[Dl,aZ,r1,bz.enc];rw[show xU [ti a,T.sl (aw b),ti c]=⟨a,b,c⟩from xV ⟨a,b,c⟩];refine⟨⟨⟨a,b,c⟩,aK,⟨⟨rfl,rfl,rfl⟩,rfl⟩,h2⟩, ?_⟩;refine aa.cond rfl (λh=>?_) (λh=>?_)
  ·simp at h;apply aa.ag am fw [4];simp[Dm];apply aa.ret;rw[cb λe=>h (by have:=e j aZ;rw[hu]at this;exact this)];simp[ci]
  ·simp at h;apply aa.skip;simp;apply aa.cX am fw [0,1,5];simp[aaa];rw[aq (by omega)];refine⟨j+1,Le.aD (o:=[]) ?_ ?_ ?_ ?_,⟨by omega,λi hi=>?_⟩,by omega⟩;iterate 4(·simp)
   ·by_cases e:i=j
    ·subst e;show u5 (l.getD i default) aK;rw[hu];exact h
    ·exact eG i (by omega)
 simp at aZ;apply aa.exit;simp;apply aa.ag am fw [4];simp[aab];apply aa.ret;have:v=true:=by
  rw[<-hv,o5];exact λi hi=>eG i (by omega)
 rw[this];simp[ci]
abbrev acL:DM.Spec:=bp (λts=>∃(l:List bz) (t:Int),ts=[.sl (bj l),ti t]/\l.length<=1000000000000/\t<=1000000000000) (fun|[.sl c,.int _ t]=>.bool (decide (lO (kr c) t))|_=>.bool false) true
def aiS:au Tryd.prog (bG [(76,acL)]):=by
 refine au.cons au.nil ?_;rintro ts ⟨c,t,rfl,h1,h2⟩;exact⟨by simpa using t45 c t h1 h2,λ_=>rfl⟩
def t28(x:Input)(aK:Int)(ht:aK<=1000000000000):aI Tryd.prog 45 [x.enc,ti aK] (.bool (decide (US x aK))):=by
 have am:=aiS;obtain⟨v,hv⟩:=ba (decide (US x aK));rw[hv];have cb:¬US x aK->v=false:=λh=>by rw[<-hv];simp[h]
 have dt:US x aK↔(¬(aK<0\/(x.ai.length:Int)>60\/(x.insert.length:Int)≠aK\/x.swap<0\/x.swap>60000\/¬lO x.ai aK))/\∀t,t<aK.toNat->A5 x.insert t:=Iff.rfl;refine c28.ok (by simp) (aC ?_);simp[Input.enc];apply aa.ag am fw [1,2];simp[Z3];refine aa.lk (o:=[]) (l:=[(1,.v (ti aK)),(2,.v (.box [.sl (bj x.ai),.sl (aw x.insert),ti x.swap]))]) (bC:=1200) (by simp) ?_;apply aa.seq;obtain⟨b,hb⟩:=ba (decide (aK<0\/(x.ai.length:Int)>60\/(x.insert.length:Int)≠aK\/x.swap<0\/x.swap>60000\/¬lO x.ai aK):Bool);refine aa.co am fw [(1,.v (ti aK)),(2,.v (.box [.sl (bj x.ai),.sl (aw x.insert),ti x.swap])),(37,.v (.bool b))] ?_ ?_
 ·by_cases q1:aK<0
  ·have ls:b=true:=by rw[<-hb];simp[q1]
   simp[uN,q1,ls]
  ·by_cases q2:60<(x.ai.length:Int)
   ·have ls:b=true:=by rw[<-hb];simp[q2]
    simp[uN,q1,q2,ls]
   ·by_cases q3:(x.insert.length:Int)=aK
    ·by_cases q4:x.swap<0
     ·have ls:b=true:=by rw[<-hb];simp[q4]
      simp[uN,q1,q2,q3,q4,ls]
     ·by_cases q5:60000<x.swap
      ·have ls:b=true:=by rw[<-hb];simp[q5]
       simp[uN,q1,q2,q3,q4,q5,ls]
      ·by_cases q6:lO x.ai aK
       ·have ls:b=false:=by rw[<-hb];simp only[nX];rintro(h|h|h|h|h|h)<;>first|omega|exact h q6
        simp[uN,q1,q2,q3,q4,q5,q6,ls];exact⟨x.ai,aK,⟨rfl,rfl⟩,by omega,ht⟩
       ·have ls:b=true:=by rw[<-hb];simp[q6]
        simp[uN,q1,q2,q3,q4,q5,q6,ls];exact⟨x.ai,aK,⟨rfl,rfl⟩,by omega,ht⟩
    ·have ls:b=true:=by rw[<-hb];simp[q3]
     simp[uN,q1,q2,q3,ls]
 refine aa.cond rfl (λh=>?_) (λh=>?_)
 ·rw[h]at hb;simp only[o5]at hb;apply aa.ag am fw [4];simp[Z4];apply aa.ret;rw[cb λe=>(dt.1 e).1 hb];simp[ci]
 rw[h]at hb;simp only[nX]at hb;have yu:(x.insert.length:Int)=aK:=by
  by_cases e:(x.insert.length:Int)=aK
  ·exact e
  ·exact yV (.inr (.inr (.inl e))) hb
 obtain⟨n,hn⟩:=ba x.insert.length;rw[hn]at yu;subst yu;apply aa.skip;simp;apply aa.sq am fw [1,2,5];simp[Z5];apply aa.block;refine aa.loop (λy:Nat=>⟨DM.look [(1,.v (ti n)),(2,.v (.box [.sl (bj x.ai),.sl (aw x.insert),ti x.swap])),(5,.v (ti y))],cC [],2000,1000,[]⟩)
  (λy=>y<=n/\∀t,t<y->A5 x.insert t) (λy=>n-y) 0 (Le.aD (o:=[]) ?_ ?_ ?_ ?_) (by simp) (λy hy=>?_)
 iterate 4(·simp)
 obtain⟨pT,eG⟩:=hy;apply aa.sq am fw [1,2,5,40];simp[Z6];refine aa.cond rfl (λaZ=>?_) (λaZ=>?_)
 ·simp at aZ;have HU:y<x.insert.length:=by omega
  have r1:=bS HU;obtain⟨u,hu⟩:=ba (x.insert.getD y default);rw[hu]at r1;have B1:A5 x.insert y↔¬(u<1\/u>60000):=by unfold A5;rw[hu]
  apply aa.skip;simp;apply aa.seq;apply aa.block;refine aa.co am fw [(1,.v (ti n)),(2,.v (.box [.sl (bj x.ai),.sl (aw x.insert),ti x.swap])),(5,.v (ti y)),(56,.v (.bool (decide (u<1\/60000<u))))] ?_ ?_
  ·by_cases q1:u<1
   ·simp[RQ,r1,HU,q1]
   ·by_cases q2:60000<u<;>simp[RQ,r1,HU,q1,q2]
  refine aa.cond rfl (λh=>?_) (λh=>?_)
  ·simp only[o5]at h;apply aa.ag am fw [4];simp[Z7];apply aa.ret;rw[cb λe=>B1.1 ((dt.1 e).2 y (by simpa using aZ)) h];simp[ci]
  ·simp only[nX]at h;apply aa.skip;simp;apply aa.cX am fw [1,2,5];simp[Z8];rw[aq (by omega)];refine⟨y+1,Le.aD (o:=[]) ?_ ?_ ?_ ?_,⟨by omega,λi hi=>?_⟩,by omega⟩;iterate 4(·simp)
   ·by_cases e:i=y
    ·subst e;exact B1.2 h
    ·exact eG i (by omega)
 simp at aZ;apply aa.exit;simp;apply aa.ag am fw [4];simp[Z9];apply aa.ret;have:v=true:=by
  rw[<-hv,o5];exact dt.2 ⟨hb,λi hi=>eG i (by simp at hi;omega)⟩
 rw[this];simp[ci]
open Go.DM Go.DM.kC
section
variable(dz:ar->Prop)(cK:ar->ar->Int)
abbrev jt(x y:ar):Bool:=decide (cK x y<0)
variable{dz cK}
end
def mJ:Nat:=1000000000
section
variable{al:List bk}
def bR(a:bk):ar:=[ti a.f,ti a.t,ti a.term]
def nN(r:ar):Prop:=∃f t x:Int,r=[ti f,ti t,ti x]
def g5(r:ar):Int×Int×Int:=(cN (r.getD 0 (ti 0)),cN (r.getD 1 (ti 0)),cN (r.getD 2 (ti 0)))
def Tz(a b:Int×Int×Int):Prop:=a.1<b.1\/(a.1=b.1/\(a.2.1<b.2.1\/(a.2.1=b.2.1/\a.2.2<b.2.2)))
def or3(a b c d e f:Int):ID [nV a d,nV b e,nV c f]<0↔Tz (a,b,c) (d,e,f):=by
 simp only[ID,nV,Tz];by_cases h1:a<d
 ·simp[h1]
 ·by_cases h2:d<a
  ·have:a≠d:=by omega
   simp[h1,h2,this]
  ·have:a=d:=by omega
   subst this;by_cases h3:b<e
   ·simp[h3]
   ·by_cases h4:e<b
    ·have:b≠e:=by omega
     simp[h3,h4,this]
    ·have:b=e:=by omega
     subst this;by_cases h5:c<f
     ·simp[h5]
     ·by_cases h6:f<c
      ·have:¬c<f:=by omega
       simp[h5,h6]
      ·simp[h5,h6]
def IE(x y:ar):jt dx x y=true↔Tz (g5 x) (g5 y):=by
 simp only[jt,o5];exact or3 _ _ _ _ _ _
def o7(x y:ar):jt dx x y=false↔¬Tz (g5 x) (g5 y):=by
 rw[<-IE];simp
def Cb:SWO (jt dx):=by
 refine⟨λx=>?_,λx y z h1 h2=>?_,λx y z h1 h2=>?_⟩
 ·rw[o7];unfold Tz;omega
 ·rw[IE]at h1 h2⊢;unfold Tz at h1 h2⊢;omega
 ·rw[o7]at h1 h2⊢;unfold Tz at h1 h2⊢;omega
def U6{x y:ar}(h:i4 (jt dx) x y=true):g5 x=g5 y:=by
 simp only[i4,iS,Fm,o7]at h;unfold Tz at h;generalize g5 x=p at h⊢;generalize g5 y=q at h⊢;obtain⟨a1,a2,a3⟩:=p;obtain⟨b1,b2,b3⟩:=q;simp only[l7]at h⊢;omega
def tO{x y:ar}(hx:nN x)(hy:nN y)(h:g5 x=g5 y):x=y:=by
 obtain⟨a,b,c,rfl⟩:=hx;obtain⟨d,e,f,rfl⟩:=hy;simp[g5,cN]at h;simp[h]
def BC{l:List (ar)}(hg:∀x∈l,nN x)(hn:l.Nodup)(z:ar):(l.filter (i4 (jt dx) z)).length<=1:=by
 have wt:(l.filter (i4 (jt dx) z)).Nodup:=hn.filter _;have cJ:∀x∈l.filter (i4 (jt dx) z),nN x/\g5 x=g5 z:=by
  intro x hx;rw[QZ]at hx;exact⟨hg x hx.1,(U6 hx.2).symm⟩
 match hl:l.filter (i4 (jt dx) z),wt,cJ with
 |[],_,_=>simp
 |[a],_,_=>simp
 |a::b::l,wt,cJ=>
  exfalso;have h1:=cJ a (by simp);have h2:=cJ b (by simp);have:=tO h1.1 h2.1 (h1.2.trans h2.2.symm);subst this;simp at wt
def G5{l1 l2:List (ar)}(hp:l1.Perm l2)(hg:∀x∈l2,nN x)(hn:l2.Nodup):bE (jt dx) l1=bE (jt dx) l2:=by
 refine j3 Cb (dH Cb l2) λx=>?_;rw[jl Cb];have h1:=hp.filter (i4 (jt dx) x);have h2:=BC hg hn x;cases h:l2.filter (i4 (jt dx) x)with
 |nil=>rw[h]at h1;exact(List.Perm.eq_nil h1).symm
 |cons a t=>
  rw[h]at h1 h2;have:t=[]:=by cases t with
   |nil=>rfl
   |cons b t=>simp at h2
  subst this;exact(List.perm_singleton.1 h1).symm
def mT{a b:bk}:bR a=bR b↔aJ a b=true:=by simp[bR,aJ]
def G7(h:(al.map bR).Nodup)(a:bk):((qc al a).map bR).Nodup:=by
 unfold qc;split
 ·cases hf:al.findIdx? (aJ a)with
  |none=>
   simp only;rw[qQ,Rc];refine⟨h,by simp, ?_⟩;intro x hx y hy;simp only[l8,Ui,ic]at hy;subst hy;obtain⟨b,hb,rfl⟩:=kL.1 hx;intro e;rw[EY]at hf;have:=hf b hb;rw[mT.1 e.symm]at this;cases this
  |some i=>
   simp only;split
   ·have hi:=py hf;rw[Eu]at hf;have hk:bR a=bR al[i]:=mT.2 hf.2.1;rw[Zc8,hk];have:(al.map bR).set i (bR al[i])=al.map bR:=by
     apply Uc
     ·simp
     ·intro k h1 h2;rw[ZcI];split
      ·rename_i e;subst e;simp
      ·rfl
    rw[this];exact h
   ·exact h
 ·exact h
def qW(cs:List bk):∀{al:List bk},(al.map bR).Nodup->((bO al cs).map bR).Nodup:=by
 induction cs with
 |nil=>intro al h;exact h
 |cons c cs ih=>intro al h;exact ih (G7 h c)
def mu(al:List bk)(r:ar):bk:=(al.find? (aJ ⟨(g5 r).1,(g5 r).2.1,(g5 r).2.2,0,[]⟩)).getD default
def SH{α:Type}(p:α->Bool)(l:List α):l.find? p=(l.findIdx? p).bind λi=>l[i]? :=by
 induction l with
 |nil=>rfl
 |cons x l ih=>
  rw[E3,YE];cases h:p x with
  |true=>simp
  |false=>simp[ih];cases l.findIdx? p<;>simp
def o6{a:bk}(h:a∈al):aJ a (mu al (bR a))=true/\mu al (bR a)∈al/\∃i,sF a.key (ct al)=some (i,(mu al (bR a)).key,.v (.agg (mu al (bR a)).enc)):=by
 have e:aJ ⟨(g5 (bR a)).1,(g5 (bR a)).2.1,(g5 (bR a)).2.2,0,[]⟩=aJ a:=by
  funext b;simp[aJ,g5,bR,cN]
 unfold mu;rw[e,sb,lV,SH];cases hf:al.findIdx? (aJ a)with
 |none=>
  rw[EY]at hf;have:=hf a h;simp[aJ]at this
 |some i=>
  have hi:=py hf;rw[Eu]at hf;simp only[Hc,eJ,fq hi,V1,TB];exact⟨hf.2.1,ME hi,i,rfl⟩
def g0(al:List bk):List bk:=(bE (jt dx) (al.map bR)).map (mu al)
def Mh{sn:bY}(h1:sn.Nodup)(h2:∀i∈sn,i<al.length)(h3:∀i,i<al.length->i∈sn):(sn.map λi=>bR (al.getD i default)).Perm (al.map bR):=by
 have hp:sn.Perm (List.range al.length):=(List.perm_ext_iff_of_nodup h1 List.nodup_range).2 λi=>by
  rw[o8];exact⟨h2 i,h3 i⟩
 have:=hp.map λi=>bR (al.getD i default);refine this.trans (List.Perm.of_eq ?_);apply Uc
 ·simp
 ·intro k k1 k2;simp at k2;simp[k2]
end
open Go.Shelf
def En:Go.Shelf.Ren:=⟨fun|6=>57|15=>87|14=>86|28=>107|29=>108|20=>99|21=>100|22=>101|23=>102|24=>103|25=>104|26=>105|27=>106|46=>113|47=>114|48=>115|49=>116|50=>117|57=>119|n=>n,fun|22=>123|24=>125|25=>127|3=>3|39=>152|0=>0|53=>169|55=>172|4=>4|46=>178|45=>177|50=>69|5=>5|9=>9|66=>187|70=>191|76=>193|77=>194|n=>n,fun|n=>n⟩
def U7:SlLaysF0.n6 Tryd.prog En where
 mixed:=by kernel_rfl
 f6:=⟨Tryd.f57.name,by decide+kernel,Tryd.func57.trans (congrArg some (by kernel_rfl))⟩
 f14:=⟨Tryd.f86.name,by decide+kernel,Tryd.func86.trans (congrArg some (by kernel_rfl))⟩
 f15:=Tryd.func87.trans (congrArg some (by kernel_rfl))
 f20:=⟨Tryd.f99.name,by decide+kernel,Tryd.func99.trans (congrArg some (by kernel_rfl))⟩
 f21:=⟨Tryd.f100.name,by decide+kernel,Tryd.func100.trans (congrArg some (by kernel_rfl))⟩
 f22:=⟨Tryd.f101.name,by decide+kernel,Tryd.func101.trans (congrArg some (by kernel_rfl))⟩
 f23:=⟨Tryd.f102.name,by decide+kernel,Tryd.func102.trans (congrArg some (by kernel_rfl))⟩
 f24:=⟨Tryd.f103.name,by decide+kernel,Tryd.func103.trans (congrArg some (by kernel_rfl))⟩
 f25:=⟨Tryd.f104.name,by decide+kernel,Tryd.func104.trans (congrArg some (by kernel_rfl))⟩
 f26:=⟨Tryd.f105.name,by decide+kernel,Tryd.func105.trans (congrArg some (by kernel_rfl))⟩
 f27:=⟨Tryd.f106.name,by decide+kernel,Tryd.func106.trans (congrArg some (by kernel_rfl))⟩
 f28:=Tryd.func107.trans (congrArg some (by kernel_rfl))
 f29:=Tryd.func108.trans (congrArg some (by kernel_rfl))
 f46:=⟨Tryd.f113.name,by decide+kernel,Tryd.func113.trans (congrArg some (by kernel_rfl))⟩
 f47:=Tryd.func114.trans (congrArg some (by kernel_rfl))
 f48:=Tryd.func115.trans (congrArg some (by kernel_rfl))
 f49:=⟨Tryd.f116.name,by decide+kernel,Tryd.func116.trans (congrArg some (by kernel_rfl))⟩
 f50:=⟨Tryd.f117.name,by decide+kernel,Tryd.func117.trans (congrArg some (by kernel_rfl))⟩
 f57:=⟨Tryd.f119.name,by decide+kernel,Tryd.func119.trans (congrArg some (by kernel_rfl))⟩
 t0:=Tryd.underlying0
 a0:=Tryd.isAgg0
 z0:=Tryd.sizeOf0
 v0:=Tryd.zeroValue0
 t3:=Tryd.underlying3
 a3:=Tryd.isAgg3
 z3:=Tryd.sizeOf3
 v3:=Tryd.zeroValue3
 t4:=Tryd.underlying4
 a4:=Tryd.isAgg4
 z4:=Tryd.sizeOf4
 v4:=Tryd.zeroValue4
 t5:=Tryd.underlying5
 a5:=Tryd.isAgg5
 z5:=Tryd.sizeOf5
 v5:=Tryd.zeroValue5
 t9:=Tryd.underlying9
 a9:=Tryd.isAgg9
 z9:=Tryd.sizeOf9
 v9:=Tryd.zeroValue9
 t22:=Tryd.underlying123
 a22:=Tryd.isAgg123
 z22:=Tryd.sizeOf123
 v22:=Tryd.zeroValue123
 t25:=Tryd.underlying127
 a25:=Tryd.isAgg127
 z25:=Tryd.sizeOf127
 v25:=Tryd.zeroValue127
 t39:=Tryd.underlying152
 a39:=Tryd.isAgg152
 z39:=Tryd.sizeOf152
 v39:=Tryd.zeroValue152
 t45:=Tryd.underlying177
 a45:=Tryd.isAgg177
 z45:=Tryd.sizeOf177
 v45:=Tryd.zeroValue177
 t46:=Tryd.underlying178
 a46:=Tryd.isAgg178
 z46:=Tryd.sizeOf178
 v46:=Tryd.zeroValue178
 t50:=Tryd.underlying69
 a50:=Tryd.isAgg69
 z50:=Tryd.sizeOf69
 v50:=Tryd.zeroValue69
 t53:=Tryd.underlying169
 a53:=Tryd.isAgg169
 z53:=Tryd.sizeOf169
 v53:=Tryd.zeroValue169
 t55:=Tryd.underlying172
 a55:=Tryd.isAgg172
 z55:=Tryd.sizeOf172
 v55:=Tryd.zeroValue172
 t66:=Tryd.underlying187
 a66:=Tryd.isAgg187
 z66:=Tryd.sizeOf187
 v66:=Tryd.zeroValue187
 t70:=Tryd.underlying191
 a70:=Tryd.isAgg191
 z70:=Tryd.sizeOf191
 v70:=Tryd.zeroValue191
 t76:=Tryd.underlying193
 a76:=Tryd.isAgg193
 z76:=Tryd.sizeOf193
 v76:=Tryd.zeroValue193
 t77:=Tryd.underlying194
 a77:=Tryd.isAgg194
 z77:=Tryd.sizeOf194
 v77:=Tryd.zeroValue194
def MR(x y:kz 3):Int:=dx (fB x) (fB y)
def aiP(x:kz 3):∃a b c:Int,x.1=[a,b,c]:=by
 obtain⟨l,hl⟩:=x
 match l,hl with
 |[a,b,c],_=>exact⟨a,b,c,rfl⟩
def good_row(x:kz 3):nN (fB x):=by
 obtain⟨a,b,c,h⟩:=aiP x;exact⟨a,b,c,by unfold fB;rw[h];rfl⟩
def SI{r:ar}(h:nN r):∃x:kz 3,fB x=r:=by
 obtain⟨a,b,c,rfl⟩:=h;exact⟨⟨[a,b,c],rfl⟩,rfl⟩
def zQ:∀{D:List (ar)},(∀x∈D,nN x)->∃E:List (kz 3),E.map fB=D
 |[],_=>⟨[],rfl⟩
 |r::D,h=>by
  obtain⟨x,hx⟩:=SI (h r (by simp));obtain⟨E,hE⟩:=zQ λy hy=>h y (Cq _ hy);exact⟨x::E,by simp[hx,hE]⟩
def acI(x y:kz 3):ltOf MR x y=jt dx (fB x) (fB y):=rfl
def vy:Go.Sort.SWO (ltOf MR):=
 ⟨λx=>Cb.irrefl _,λx y z=>Cb.trans _ _ _,λx y z=>Cb.ntrans _ _ _⟩
def SJ{k:Nat}{x y:kz k}(h:fB x=fB y):x=y:=by
 apply Subtype.ext;unfold fB at h;have key:∀(l m:b8),l.map tI=m.map tI->l=m:=by
  intro l;induction l with
  |nil=>intro m h;cases m with
   |nil=>rfl
   |cons b m=>cases h
  |cons a l ih=>intro m h;cases m with
   |nil=>cases h
   |cons b m=>
    simp only[l8,BE,T.int.injEq,E4]at h;rw[h.1,ih m h.2]
 exact key _ _ h
def U8(x y:kz 3)(h1:ltOf MR x y=false)(h2:ltOf MR y x=false):x=y:=by
 rw[acI]at h1 h2;exact SJ (tO (good_row x) (good_row y) (U6 (by simp[i4,h1,h2])))
def SK(E:List (kz 3)):bE (jt dx) (E.map fB)=(uw MR E).map fB:=by
 refine j3 Cb ?_ λz=>?_
 ·unfold cP;rw[Sd];have h:=List.pairwise_mergeSort (le:=λx y=> !(ltOf MR) y x) (λa b c h1 h2=>by
   simp only[Fm]at h1 h2⊢;exact vy.ntrans _ _ _ h2 h1) (λa b=>by
   cases e:ltOf MR b a with
   |false=>rfl
   |true=>
    cases e2:ltOf MR a b with
    |false=>rfl
    |true=>
     have:=vy.trans _ _ _ e e2;rw[vy.irrefl]at this;cases this) E
  exact h.imp λ{a b} gi=>by rw[Fm]at gi;exact gi
 ·have hp:((uw MR E).map fB).Perm (E.map fB):=(List.mergeSort_perm E _).map _;have h1:=hp.filter (i4 (jt dx) z);have cJ:∀w∈(E.map fB).filter (i4 (jt dx) z),∀u∈(E.map fB).filter (i4 (jt dx) z),w=u:=by
   intro w hw u hu;rw[QZ]at hw hu;obtain⟨x,_,rfl⟩:=kL.1 hw.1;obtain⟨y,_,rfl⟩:=kL.1 hu.1;exact tO (good_row x) (good_row y) ((U6 hw.2).symm.trans (U6 hu.2))
  generalize (E.map fB).filter (i4 (jt dx) z)=l at h1 cJ;generalize ((uw MR E).map fB).filter (i4 (jt dx) z)=l' at h1;apply Uc h1.length_eq;intro i q1 q2;exact cJ _ (h1.subset (ME q1)) _ (ME q2)
theorem G8 [bh](x y:kz 3):aI Tryd.prog 58 [.agg (fB x),.agg (fB y)] (tI (MR x y)):=by
 obtain⟨a,b,c,h⟩:=good_row x;obtain⟨d,e,f,k⟩:=good_row y;unfold MR;rw[h,k];exact t33 a b c d e f
def t32(D:List (ar)){ab:bA}{r aX e:Nat}(c9:ab r=some (.aR aX e 3 D))(bX:∀x∈D,nN x)(h4:D.length<=mJ):
  b9 Tryd.prog 57 [.aQ r aX,.v (.fn (.func 58) [])] ab ⟨True,.v (.dh []),bI ab r (.aR aX e 3 (bE (jt dx) D))⟩:=by
 obtain⟨E,rfl⟩:=zQ bX;rw[SK];unfold mJ at h4;exact CQ (k:=3) U7 (by omega) (λw=>Tryd.isAgg125 w) (λw=>Tryd.sizeOf125 w) (@G8 bh.none) vy U8 E c9 (by simp at h4;omega)
def YK(dz:ar->Prop)(cK:ar->ar->Int):bD->bA->fp
 |[.aQ r aX,.v (.fn (.func c) bP)],ab=>match ab r with
  |some (.aR bi e sz D)=>⟨aX=bi/\sz=3/\c=58/\bP=[]/\(∀x∈D,dz x)/\D.length<=mJ/\D.length<=1000000000,
    .v (.dh []),bI ab r (.aR aX e 3 (bE (jt cK) D))⟩
  |_=>⟨False,.undef,ab⟩
 |_,ab=>⟨False,.undef,ab⟩
def aiJ{l:List (Nat×DM.Spec)}(h:au Tryd.prog (bG l)):au Tryd.prog (bG ((57,ee (YK nN dx))::l)):=by
 refine au.gm h ?_;intro args ab h;unfold YK at h⊢;split at h
 ·split at h
  ·rename_i c bP _ bi e sz D c9;obtain⟨rfl,rfl,rfl,rfl,h1,h4,h5⟩:=h;refine⟨λN hN=>?_,λk hk=>dE c9 hk⟩;simp only[];exact(t32 D c9 h1 h4).of rfl rfl
  ·exact h.elim
 ·exact h.elim
section
variable{ab:bA}{al:List bk}
def YJ:bD->bA->fp
 |[.ptr b 0,.v (.int .i64 i)],ab=>
  ⟨ab b=some (.box (b7 (iC ab b).1 (iC ab b).2))/\ab (iC ab b).2=some (bM (tJ ab (iC ab b).2))/\0<=i/\i<=(iC ab b).1.ai.length/\LK (iC ab b).1,.v (.dh []),
   bI ab (iC ab b).2 (bM (bO (tJ ab (iC ab b).2) (n7 (iC ab b).1 i.toNat)))⟩
 |_,ab=>⟨False,.undef,ab⟩
def acy{b m:Nat}{x:Input}{i:Nat}(h:ab b=some (.box (b7 x m)))(hm:ab m=some (bM al)):
  YJ [.ptr b 0,.v (ti i)] ab=⟨i<=x.ai.length/\LK x,.v (.dh []),bI ab m (bM (bO al (n7 x i)))⟩:=by
 simp only[YJ,vx h,h,zP hm,hm,ib,E4,Int.ofNat_le,ZcC]
abbrev Γ7:gP:=bG [(55,ee YJ),(57,ee (YK nN dx)),(56,ee U3),(54,rP aaQ acz 3 1)]
def ok7:au Tryd.prog Γ7:=by
 refine au.gm (aiJ (au.gm (au.Oz au.nil ?_) ?_)) ?_
 ·rintro ts ⟨v,n,rfl,h1,h2⟩;have:=t29 v n h1 h2;simpa [acz,aw]using this
 ·exact(ok5 56 (ee U3) rfl).st U3 rfl
 ·intro args ab h;unfold YJ at h⊢;split at h
  ·rename_i ay b i;obtain⟨hb,hm,h1,h2,h3⟩:=h;obtain⟨i,rfl⟩:=eM h1;refine⟨λN hN=>?_,λr hr=>dE hm hr⟩;exact b9.of (t30 hN hb hm (by omega) h3) (by simp) (by simp)
  ·exact h.elim
def SE:ah:=[
 a 2 5 36 [],
 l 36 37 [0],
 n 6 38,
 o (.bin .mul (i 2) (t 38)) 39 [2],
 n 3 40,
 n 6 41,
 n 4 42,
 o (.callR 56 [(t 40),(t 41),(t 42)]) 43 [4,5,6],
 m 43 35 [7],
 e 0 35 44 [8],
 e 1 35 45 [8],
 x 1 37 39 46 (k [1,3] 9),
 S 1 46 44 (k [11,9,7] 9)]
def SF{b m:Nat}{x:Input}{i j:Nat}(h:ab b=some (.box (b7 x m))):
  m4 U3 [.ptr b 0,.v (ti i),.v (ti j)] ab=(i<=j/\j<=x.ai.length/\lz x.ai)/\
   (U3 [.ptr b 0,.v (ti i),.v (ti j)] (kO ab [.ptr b 0,.v (ti i),.v (ti j)])).val=.v (.dh [ti (dU ((x.ai.take j).drop i) 0),.sl (ce (dB (j-i)))]):=by
 have hr:kO ab [.ptr b 0,.v (ti i),.v (ti j)] b=some (.box (b7 x m)):=by simp[kO,ca,aS,h]
 refine⟨?_,by rw[tK hr]⟩;unfold m4;apply propext;constructor
 ·intro H;have:=H ab (λ_ _=>rfl);rw[tK h]at this;exact this.1
 ·intro H o ho;have hb:o b=some (.box (b7 x m)):=by rw[ho b (by simp[ca,aS]),h]
  rw[tK hb,tK hr];exact⟨H,rfl,rfl⟩
def qV(x:Input)(y:Nat):List bk:=(List.range y).flatMap (n7 x)
def Mf(x:Input)(y:Nat):qV x (y+1)=qV x y++n7 x y:=by simp[qV,E7]
def eK(x:Input)(n y:Nat):List (ar):=(List.range n).map λs=>[ti (if s % 2=0/\s/2<y then iR x (s/2) x.ai.length else 1099511627776)]
def Ek(x:Input){n y:Nat}(h:2*y<n):(eK x n y).set (2*y) [ti (iR x y x.ai.length)]=eK x n (y+1):=by
 apply Uc
 ·simp[eK]
 ·intro k h1 h2;rw[ZcI];simp only[eK,Zc9,TW];split
  ·rename_i e;subst e;rw[uV (by omega),show 2*y/2=y by omega]
  ·rename_i e;by_cases hk:k % 2=0/\k/2<y
   ·rw[uV hk,uV (by omega)]
   ·rw[mL hk,mL (by omega)]
def El(x:Input)(n y:Nat):(eK x n y).length=n:=by simp[eK]
def BA(x:Input)(n:Nat):eK x n 0=List.replicate n [ti 1099511627776]:=by
 apply Uc
 ·simp[eK]
 ·intro k h1 h2;simp[eK]
def pz(a b:bA)(σ:Nat->Nat)(cs sN:bD):kn a b σ (.box cs) (.box sN)=km a b σ cs sN:=rfl
def pA(a b:bA)(σ:Nat->Nat)(v v' e e' sz fS:Nat)(an di:List (ar)):kn a b σ (.aR v e sz an) (.aR v' e' fS di)=(e=e'/\sz=fS/\an=di):=rfl
def lW(a b:bA)(al:List bk):kn a b id (bM al) (bM al):=by
 simp only[bM,kn];exact⟨trivial,trivial,trivial,lb λe he=>by obtain⟨x,hx⟩:=d9 al e he;rw[hx];simp⟩
def uP{e:Nat×T×DV}(h:e∈ct al):∃i,i<al.length/\e=(i,(al.getD i default).key,.v (.agg (al.getD i default).enc)):=by
 obtain⟨i,hi,rfl⟩:=T1 h;rw[iQ]at hi;refine⟨i,hi, ?_⟩;have:=eJ al i;rw[fq (by rw[iQ];exact hi),fq hi]at this;simp only[V1,bN]at this;rw[this];simp[List.getD,hi]
def BB{i:Nat}(h:i<al.length):(ct al).find? (λe=>e.1==i)=some (i,(al.getD i default).key,.v (.agg (al.getD i default).enc)):=by
 rw[List.find?_eq_some_iff_getElem];have hg:∀(j:Nat) (hj:j<(ct al).length),(ct al)[j]=(j,(al.getD j default).key,.v (.agg (al.getD j default).enc)):=by
  intro j hj;rw[iQ]at hj;have:=eJ al j;rw[fq (by rw[iQ];exact hj),fq hj]at this;simp only[V1,bN]at this;rw[this];simp[List.getD,hj]
 refine⟨by simp,i,by rw[iQ];exact h,hg _ _,λj hj=>?_⟩;rw[hg];simp;omega
def tM:∀(n:Nat) {l:bY},l.Nodup->(∀i∈l,i<n)->l.length<=n
 |0,l,_,h=>by cases l with
  |nil=>simp
  |cons a l=>exact yV (h a (by simp)) (by omega)
 |n+1,l,hn,h=>by
  by_cases hm:n∈l
  ·have h1:=List.length_erase_of_mem hm;have h2:=tM n (l:=l.erase n) (hn.erase n) (λi hi=>by
    have:=h i (List.mem_of_mem_erase hi);have cZ:i≠n:=λe=>by subst e;exact(List.Nodup.not_mem_erase hn) hi
    omega)
   omega
  ·have:=tM n hn (λi hi=>by
    have:=h i hi;have cZ:i≠n:=λe=>hm (e▸hi);omega)
   omega
def jQ(a b:bA)(al:List bk):fj a b id (ct al) (ct al):=lb λe he=>by obtain⟨x,hx⟩:=d9 al e he;rw[hx];simp
def Mg{α:Type}{f:α->ar}{l:List α}{y:Nat}{a:α}(h:y<l.length)(ha:l[y]=a):(l.take (y+1)).map f=(l.take y).map f++[f a]:=by
 rw[CB,fq h,ha];simp
def jc(x:Input):List bk:=bO [] (qV x (x.ai.length+1))
def sM(x:Input):b8:=(List.range (2*x.ai.length+1)).map λs=>if s % 2=0 then iR x (s/2) x.ai.length else 1099511627776
def vP(x:Input):aM:=⟨2*x.ai.length+1,g0 (jc x),sM x⟩
def Em(x:Input):eK x (2*x.ai.length+1) (x.ai.length+1)=aw (sM x):=by
 simp only[eK,sM,aw,x5];apply QQ;intro s hs;simp only[o8]at hs;by_cases h:s % 2=0
 ·simp only[Function.comp_apply,h,yh,E4];rw[uV (by omega)]
 ·simp[h]
@[simp] def aaR(al:List bk):gF (some (bM al)):=by simp[gF,bM]
def t12(x:Input)(hx:LK x)(u3:(jc x).length<=mJ)(i7:(jc x).length<=1000000000):aI Tryd.prog 26 [x.enc] (vP x).enc:=by
 have am:=ok7;have hl:=hx.1.1;refine c12.ok (by simp) (aC ?_);simp[Input.enc];apply aa.ag am fw [1,2];simp[DT];apply aa.ag am fw [1,2,3];simp[DU];apply aa.ag am fw [2,3,4];simp[DW];obtain⟨n2,Fj⟩:=ba (2*x.ai.length+1);have w1:IntKind.i64.wrap (2*(x.ai.length:Int))=2*x.ai.length:=aq (by omega);have w2:IntKind.i64.wrap (2*(x.ai.length:Int)+1)=(n2:Int):=by rw[aq (by omega)];omega
 refine aa.eC am fw (rs:=RA) (.inr ⟨_,rfl⟩) (by kernel_rfl) [2,3,4,5] ?_;simp[RA,w1,w2,aaQ,acz,dW];refine⟨⟨1099511627776,n2,⟨rfl,rfl⟩,by omega,by omega⟩, ?_⟩;obtain⟨n,hn⟩:=ba x.ai.length;rw[hn]at Fj hl;apply aa.seq;have w3:IntKind.i64.wrap ((n:Int)+1)=((n+1:Nat):Int):=by rw[aq (by omega)];omega
 apply aa.ag am fw [2,3,4,5,28,29];simp[DX,hn,w3];obtain⟨n1,hn1⟩:=ba (n+1);rw[show((n:Int)+1)=(n1:Int)by omega];refine aa.to ⟨DM.look [(2,.ptr 1003 0),(3,.ptr 1098 0),(5,.ptr 1255 0)],cC [(1003,.box [.v (ti 0),.aF,.aF]),(1098,.box (b7 x 1096)),(1096,bM (bO [] (qV x n1))),(1255,.box [.v (ti n2),.aF,.aQ 1275 0]),(1275,.aR 0 3 1 (eK x n2 n1))],3000,1000,[]⟩ ?_ ?_
 ·apply aa.block;refine aa.loop (λy:Nat=>⟨DM.look [(2,.ptr 1003 0),(3,.ptr 1098 0),(4,.v (ti n)),(5,.ptr 1255 0),(28,.v (ti n1)),(29,.v (ti y))],cC [(1003,.box [.v (ti 0),.aF,.aF]),(1098,.box (b7 x 1096)),(1096,bM (bO [] (qV x y))),(1255,.box [.v (ti n2),.aF,.aQ 1275 0]),(1275,.aR 0 3 1 (eK x n2 y))],3000,1000,[]⟩)
   (λy=>y<=n1) (λy=>n1-y) 0 (Le.aD ?_ ?_ ?_ ?_) (by simp) (λy hy=>?_)
  ·simp
  ·simp[]
  ·simp[b7,bM,ct,qV,bO,BA,fT,fj,gF]
  ·simp
  apply aa.ag am fw [2,3,4,5,28,29,30];simp[DY];apply aa.seq;refine aa.cond rfl (λaZ=>?_) (λaZ=>?_)
  ·simp at aZ;apply aa.skip;simp;apply aa.seq;apply aa.block;apply aa.ag am fw [2,3,4,5,6,28,29];simp[DZ];refine aa.eC am fw (rs:=RB) (.inr ⟨_,rfl⟩) (by kernel_rfl) [2,3,4,5,6,28,29] ?_;simp[RB,acy (x:=x) (m:=1096) (al:=bO [] (qV x y))];refine⟨⟨by omega,hx⟩, ?_⟩;obtain⟨Fi,tL⟩:=ba (bO (bO [] (qV x y)) (n7 x y));have afy:bO [] (qV x (y+1))=Fi:=by rw[Mf,eV,tL]
   rw[tL,gn];refine aa.le (Le.aD (o:=[(1003,.box [.v (ti 0),.aF,.aF]),(1098,.box (b7 x 1096)),(1096,bM Fi),(1255,.box [.v (ti n2),.aF,.aQ 1275 0]),(1275,.aR 0 3 1 (eK x n2 y))]) (l:=[(2,.ptr 1003 0),(3,.ptr 1098 0),(4,.v (ti n)),(5,.ptr 1255 0),(6,.v (ti y)),(28,.v (ti n1)),(29,.v (ti y))]) (bC:=4000) ?_ ?_ ?_ ?_) ?_
   ·simp
   ·simp
   ·simp[-kn,pz,pA,lW,b7,fT]
   ·simp
   have UW:y<=n:=by omega
   have w4:IntKind.i64.wrap (2*(y:Int))=((2*y:Nat):Int):=by rw[aq (by omega)];omega
   obtain⟨y2,eG⟩:=ba (2*y);rw[eG]at w4;have sH:y2<n2:=by omega
   have hdc:dU ((x.ai.take n).drop y) 0=iR x y n:=rfl;have Ae:DM.rowAt (eK x n2 y) (y2:Int)=[ti 1099511627776]:=by
    have e:(2*(y:Int)).toNat=y2:=by omega
    subst eG;simp[DM.rowAt,eK,e,sH]
   have fY:=Ek x (n:=n2) (y:=y) (by omega);rw[eG,hn]at fY;have hd:=hx.1;refine aa.nj am fw (rs:=SE) (.inr ⟨_,rfl⟩) (by kernel_rfl) [2,3,4,5,28,29] ?_;simp[SE,SF (x:=x) (m:=1096),hn,w4,hd,UW,El,sH,hdc,Ae,fY];apply aa.cX am fw [2,3,4,5,28,29];simp[D0];rw[aq (by omega)];refine⟨y+1,Le.aD ?_ ?_ ?_ ?_,by omega,by omega⟩
   ·simp
   ·simp
   ·simp[-kn,pz,pA,lW,b7,fT,afy]
   ·simp
  ·simp at aZ;have:y=n1:=by omega
   subst this;refine aa.exit ⟨rfl,Le.aD ?_ ?_ ?_ ?_⟩
   ·simp
   ·simp
   ·simp[-kn,pz,pA,lW,b7,fT]
   ·simp
 ·obtain⟨al,ln⟩:=ba (bO [] (qV x n1));obtain⟨fr,fY⟩:=ba (eK x n2 n1);rw[ln,fY];apply aa.ag am fw [2,3,5,7];simp[xH];apply aa.sq am fw [2,3,5,7,52];simp[xI,b7,bM];refine aa.le (Le.lK (k:=7) 125 (sz:=3) (by omega) (by simp)) ?_;rw[gn];apply aa.block;refine aa.loop (λsn:bY=>⟨DM.look [(2,.ptr 1003 0),(3,.ptr 1098 0),(5,.ptr 1255 0),(7,.aQ 3166 0),(52,.c8 3136)],cC [(1003,.box [.v (ti 0),.aF,.aF]),(1098,.box (b7 x 1096)),(1096,bM al),(1255,.box [.v (ti n2),.aF,.aQ 1275 0]),(1275,.aR 0 3 1 fr),(3166,.aR 0 125 3 (sn.map λi=>bR (al.getD i default))),(3136,.c8 1096 al.length sn al.length)],4000,1000,[]⟩)
   (λsn=>sn.Nodup/\∀i∈sn,i<al.length) (λsn=>al.length-sn.length) [] (Le.aD ?_ ?_ ?_ ?_) (by simp) (λsn hs=>?_)
  ·simp
  ·simp
  ·simp[-kn,pz,pA,b7,fT];simp[kn,bM,gF];exact lb λe he=>by obtain⟨x,hx⟩:=d9 al e he;rw[hx];simp
  ·simp[OD,wR]
  obtain⟨E5,Uk⟩:=hs;apply aa.seq;refine aa.next (r:=3136) (m:=1096) (s:=al.length) (l:=al.length) (c:=al.length) (sn:=sn) (bB:=jx) (agg:=true) (es:=ct al) (by simp) (by simp) (by simp[bM]) (λe he=>?_) (iV _) (λOo=>?_) (λe he cZ=>?_)
  ·obtain⟨i,hi,rfl⟩:=uP he;exact hi
  ·simp;have hp:=Mh E5 Uk λi hi=>Oo _ (zM (by rw[eJ,fq hi];rfl:(ct al)[i]? =some (i,al[i].key,.v (.agg al[i].enc))));have jw:∀r∈sn.map (λi=>bR (al.getD i default)),nN r:=by
    intro r hr;obtain⟨i,_,rfl⟩:=kL.1 hr;exact⟨_,_,_,rfl⟩
   have dI:(sn.map (λi=>bR (al.getD i default))).length=al.length:=by rw[hp.length_eq];simp
   have wu:(al.map bR).Nodup:=by rw[<-ln];exact qW _ (by simp)
   have VT:bE (jt dx) (sn.map (λi=>bR (al.getD i default)))=bE (jt dx) (al.map bR):=G5 hp (λr hr=>by
    obtain⟨a,_,rfl⟩:=kL.1 hr;exact⟨_,_,_,rfl⟩) wu
   have U4:jc x=al:=by unfold jc;rw[hn,hn1,ln]
   rw[U4]at u3 i7;rw[<-dI]at u3 i7;obtain⟨an,bX⟩:=ba (sn.map (λi=>bR (al.getD i default)));have acA:sn.map (λi=>bR (al[i]?.getD default))=an:=bX;rw[bX]at u3 i7 jw VT dI;rw[acA];apply aa.seq;refine aa.cond rfl (λh=>by cases h) (λ_=>?_);apply aa.exit;simp;refine aa.eC am fw (rs:=Iz) (.inr ⟨_,rfl⟩) (by kernel_rfl) [2,3,5,7] ?_;simp[Iz,YK,VT,u3,i7];refine⟨jw, ?_⟩;obtain⟨ks,YL⟩:=ba (bE (jt dx) (al.map bR));have acB:ks.length=al.length:=by rw[<-YL,fy];simp
   have aiK:∀r∈ks,∃a∈al,bR a=r:=by
    intro r hr;rw[<-YL,iD]at hr;obtain⟨a,ha,rfl⟩:=kL.1 hr;exact⟨a,ha,rfl⟩
   rw[YL,gn];refine aa.le (Le.aD (o:=[(1003,.box [.v (ti 0),.aF,.aF]),(1098,.box (b7 x 1096)),(1096,bM al),(1255,.box [.v (ti n2),.aF,.aQ 1275 0]),(1275,.aR 0 3 1 fr),(3166,.aR 0 125 3 ks)]) (l:=[(2,.ptr 1003 0),(3,.ptr 1098 0),(5,.ptr 1255 0),(7,.aQ 3166 0)]) (bC:=4500) ?_ ?_ ?_ ?_) ?_
   ·simp
   ·simp
   ·simp[b7,fT,gF,jQ,bM]
   ·simp
   refine aa.le (Le.ve 1255 1 97 (sz:=5) (cs:=[.v (ti n2),.aF,.aQ 1275 0]) (by omega) (by simp) (by simp)) ?_;rw[gn,gn];apply aa.sq am fw [2,3,5,63,64,65];simp[xL,acB];refine aa.to ⟨DM.look [(2,.ptr 1003 0),(5,.ptr 1255 0)],cC [(1003,.box [.v (ti 0),.aF,.aF]),(1255,.box [.v (ti n2),.aQ 4500 0,.aQ 1275 0]),(1275,.aR 0 3 1 fr),(4500,.aR 0 97 5 (aV (g0 al)))],6000,1000,[]⟩ ?_ ?_
   ·apply aa.block;refine aa.loop (λy:Nat=>⟨DM.look [(2,.ptr 1003 0),(3,.ptr 1098 0),(5,.ptr 1255 0),(63,.aQ 3166 0),(64,.v (ti al.length)),(65,.v (ti y))],cC [(1003,.box [.v (ti 0),.aF,.aF]),(1098,.box (b7 x 1096)),(1096,bM al),(1255,.box [.v (ti n2),.aQ 4500 0,.aQ 1275 0]),(1275,.aR 0 3 1 fr),(3166,.aR 0 125 3 ks),(4500,.aR 0 97 5 (aV ((ks.take y).map (mu al))))],6000,1000,[]⟩)
     (λy=>y<=al.length) (λy=>al.length-y) 0 (Le.aD ?_ ?_ ?_ ?_) (by simp) (λy hy=>?_)
    ·simp
    ·simp
    ·simp[b7,fT,gF,jQ,bM,aV]
    ·simp
    apply aa.ag am fw [2,3,5,63,64,65,66];simp[xM];apply aa.seq;refine aa.cond rfl (λaZ=>?_) (λaZ=>?_)
    ·simp at aZ;apply aa.skip;simp;apply aa.seq;apply aa.block;obtain⟨r,hr⟩:=ba (ks[y]'(by omega));obtain⟨a,ha,hak⟩:=aiK r (by rw[<-hr];exact ME _);have fz:DM.rowAt ks y=bR a:=by rw[hak,<-hr];simp[DM.rowAt,acB,aZ]
     obtain⟨l1,l2,i,l3⟩:=o6 ha;have aaS:=Mg (f:=λr=>(mu al r).enc) (by omega) hr;obtain⟨c,hc⟩:=ba (mu al (bR a));rw[hc]at l3;rw[<-hak,hc]at aaS;have acC:aV (List.take (y+1) (List.map (mu al) ks))=aV (List.take y (List.map (mu al) ks))++[[ti c.f,ti c.t,ti c.term,ti c.aG,.sl (ce c.ops)]]:=by
      have:=aaS;simp only[aV,T0,x5]at this⊢;exact this
     simp only[bk.key,keyOf]at l3;apply aa.ag am fw [2,3,5,10,63,64,65];simp[xN,fz,acB,aZ,bR];apply aa.cX am fw [2,3,5,63,64,65];simp[xO,b7,bM,l3,bk.enc,cw,dW];refine⟨⟨by omega,by omega⟩, ?_⟩;apply aa.cX am fw [2,3,5,63,64,65];simp[xP];rw[aq (by omega)];refine⟨y+1,Le.aD ?_ ?_ ?_ ?_,by omega,by omega⟩
     ·simp
     ·simp
     ·simp[fT,gF,jQ,acC]
     ·simp
    ·simp at aZ;have:y=al.length:=by omega
     subst this;refine aa.exit ⟨rfl,Le.aD ?_ ?_ ?_ ?_⟩
     ·simp
     ·simp
     ·simp[g0,YL];rw[IN (by simp;omega)]
     ·simp
   ·apply aa.ag am fw [2];simp[RC];apply aa.ret;have iv:fr=aw (sM x):=by rw[<-fY,<-hn1,<-Fj,<-hn];exact Em x
    simp[xQ,vP,aM.enc,U4,iv,hn];omega
  ·obtain⟨i,hi,rfl⟩:=uP he;have aaT:=BB hi;obtain⟨a,ha⟩:=ba (al.getD i default);rw[ha]at aaT;simp only at cZ;simp;apply aa.seq;refine aa.cond rfl (λ_=>?_) (λh=>by cases h);apply aa.skip;simp;apply aa.block;apply aa.ag am fw [2,3,5,7,8,52];simp[xJ,bM,aaT,bk.key,keyOf];apply aa.cX am fw [2,3,5,7,52];simp[xK,cw,dW];have dI:=tM al.length (l:=i::sn) (by simp[cZ,E5]) (by simp;exact⟨hi,Uk⟩);simp at dI;have U4:jc x=al:=by unfold jc;rw[hn,hn1,ln]
   rw[U4]at i7;have ha':al[i]?.getD default=a:=ha;refine⟨⟨by omega,by omega⟩,sn++[i],Le.aD ?_ ?_ ?_ ?_,⟨?_, ?_⟩, ?_⟩
   ·simp
   ·simp
   ·simp[b7,fT,gF,jQ,ha',bR]
   ·simp[OD,wR]
   ·rw[Rc];exact⟨E5,by simp,by simp;intro q hq e;subst e;exact cZ hq⟩
   ·intro j hj;rw[dP,ic]at hj;rcases hj with h|h
    ·exact Uk j h
    ·omega
   ·simp;omega
end
def gT{α:Type}{f:Nat->List α}{i m:Nat}{a:α}(h:a∈ft f i m):∃k,i<=k/\k<m/\a∈f k:=by
 unfold ft at h;obtain⟨e,he,ha⟩:=yf.1 h;rw[o8]at he;exact⟨i+e,by omega,by omega,ha⟩
def Gn(x:Input)(k:Nat):(dN x k).length=2*x.ai.length+1:=by simp[dN]
def C8{x:Input}(ht:x.insert.length<=100)(hn:x.ai.length<=60):(fx x).length<=900000:=by
 unfold fx;have h1:=eW (ft (iI x) 0 (x.ai.length+1)) (aW [] (ft (rI x) 0 (x.ai.length+1)));have h2:=eW (ft (rI x) 0 (x.ai.length+1)) [];have h3:=gX (f:=iI x) (B:=7000) (λk=>ST x k ht hn) 0 (x.ai.length+1);have h4:=gX (f:=rI x) (B:=7000) (λk=>SR x k ht hn) 0 (x.ai.length+1);simp at h2;omega
section
variable{al:List bk}
def eB{a b:bk}:aJ a b=true↔a.f=b.f/\a.t=b.t/\a.term=b.term:=by simp[aJ]
def zY(a:bk):aJ a a=true:=by simp[aJ]
def i6(a b:bk):aJ a b=aJ b a:=by
 simp only[aJ,decide_eq_decide];omega
def mS{a b:bk}(h:aJ a b=true)(k:bk):aJ k a=aJ k b:=by
 rw[eB]at h;simp only[aJ,decide_eq_decide];omega
def before_irrefl(a:bk):¬bF a a:=by unfold bF;omega
def before_trans{a b c:bk}(h:bF a b)(h2:bF b c):bF a c:=by unfold bF at*;omega
def zZ{a b:bk}(h:bF a b):¬bF b a:=by unfold bF at*;omega
def vJ{a b:bk}(h:bF a b):aJ a b=false:=by
 cases e:aJ a b with
 |false=>rfl
 |true=>rw[eB]at e;unfold bF at h;omega
def vK{a b:bk}(h1:aJ a b=false)(h2:¬bF a b):bF b a:=by
 have:¬(a.f=b.f/\a.t=b.t/\a.term=b.term):=λe=>by rw[eB.2 e]at h1;cases h1
 unfold bF at*;omega
def B6{a b c:bk}(h:aJ a b=true)(h2:bF a c):bF b c:=by
 rw[eB]at h;unfold bF at*;omega
def nY(k:bk)(o:Option bk)(a:bk):Option bk:=
 if a.aG<1099511627776/\aJ k a=true then
  match o with
  |none=>some a
  |some b=>if a.aG<b.aG then some a else some b
 else o
def Fl(a:bk):List bk->List bk
 |[]=>[a]
 |b::l=>if aJ a b=true then(if a.aG<b.aG then a else b)::l else b::Fl a l
def agY{a:bk}(h:a.aG<1099511627776)(al:List bk):qc al a=Fl a al:=by
 unfold qc;rw[uV h];induction al with
 |nil=>simp[Fl]
 |cons b l ih=>
  rw[YE];unfold Fl;cases e:aJ a b with
  |true=>simp;split<;>rfl
  |false=>
   simp;rw[<-ih];cases hf:l.findIdx? (aJ a)with
   |none=>simp
   |some i=>simp;split<;>rfl
def yG(k a:bk):∀l:List bk,(Fl a l).find? (aJ k)=if aJ k a=true then(match l.find? (aJ k)with|none=>some a|some b=>if a.aG<b.aG then some a else some b)else l.find? (aJ k)
 |[]=>by unfold Fl;rw[E3];cases aJ k a<;>simp
 |b::l=>by
  unfold Fl;split
  ·rename_i e;have h1:=mS e k;have h2:aJ k (if a.aG<b.aG then a else b)=aJ k b:=by split<;>simp[h1]
   rw[E3,E3,h2,h1];cases h3:aJ k b with
   |true=>simp;split<;>rfl
   |false=>simp
  ·rename_i e;rw[E3,E3];cases h3:aJ k b with
   |true=>
    have:aJ k a=false:=by
     cases h4:aJ k a with
     |false=>rfl
     |true=>
      exfalso;apply e;rw[eB]at h3 h4⊢;omega
    simp[this]
   |false=>simp only[];exact yG k a l
def B8(k:bk)(cs:List bk):∀al:List bk,(bO al cs).find? (aJ k)=cs.foldl (nY k) (al.find? (aJ k)):=by
 induction cs with
 |nil=>intro al;rfl
 |cons c cs ih=>
  intro al;show(bO (qc al c) cs).find? (aJ k)=_;rw[ih,F6]
  congr 1
  by_cases hc:c.aG<1099511627776
  ·rw[agY hc,yG];unfold nY;simp[hc]
  ·unfold qc nY;rw[mL hc,mL (λe=>hc e.1)]
def qT(a:bk):List bk->List bk
 |[]=>[a]
 |b::l=>if aJ b a=true then(if a.aG<b.aG then a else b)::l else if bF a b then a::b::l else b::qT a l
def qU(a:bk)(l dw:List bk):l.foldl (dG a) (true,dw)=(true,dw++l):=by
 induction l generalizing dw with
 |nil=>simp
 |cons b l ih=>simp only[F6,dG];simp[ih]
def z7(a:bk)(p:Bool×List bk):List bk:=if p.1=true then p.2 else p.2++[a]
def tX(a:bk):∀(l dw:List bk),z7 a (l.foldl (dG a) (false,dw))=dw++qT a l
 |[],dw=>by simp[qT,z7]
 |b::l,dw=>by
  rw[F6];unfold qT;by_cases h1:aJ b a=true
  ·have:dG a (false,dw) b=(true,dw++[if a.aG<b.aG then a else b]):=by simp[dG,h1]
   rw[this,qU];simp[h1,z7]
  ·by_cases h2:bF a b
   ·have:dG a (false,dw) b=(true,dw++[a]++[b]):=by simp[dG,h1,h2]
    rw[this,qU];simp[h1,h2,z7]
   ·have:dG a (false,dw) b=(false,dw++[b]):=by simp[dG,h1,h2]
    rw[this,tX a l];simp[h1,h2]
def Hw{a:bk}(h:a.aG<1099511627776)(l:List bk):pG l a=qT a l:=by
 unfold pG;rw[mL (by omega)];have:=tX a l [];simp only[z6]at this;exact this
def B9{a c:bk}:∀{l:List bk},c∈qT a l->c=a\/c∈l
 |[],h=>by simp[qT]at h;exact .inl h
 |b::l,h=>by
  unfold qT at h;split at h
  ·rcases pH.1 h with h|h
   ·split at h
    ·exact .inl h
    ·exact .inr (by simp[h])
   ·exact .inr (by simp[h])
  ·split at h
   ·rcases pH.1 h with h|h
    ·exact .inl h
    ·exact .inr h
   ·rcases pH.1 h with h|h
    ·exact .inr (by simp[h])
    ·rcases B9 h with h|h
     ·exact .inl h
     ·exact .inr (by simp[h])
def tY{a:bk}:∀{l:List bk},l.Pairwise bF->(qT a l).Pairwise bF
 |[],_=>by simp[qT]
 |b::l,h=>by
  rw[CG]at h;unfold qT;split
  ·rename_i e;rw[CG];refine⟨λc hc=>?_,h.2⟩;split
   ·exact B6 e (h.1 c hc)
   ·exact h.1 c hc
  ·rename_i e;split
   ·rename_i e2;rw[CG];refine⟨λc hc=>?_,CG.2 h⟩;rcases pH.1 hc with rfl|hc
    ·exact e2
    ·exact before_trans e2 (h.1 c hc)
   ·rename_i e2;rw[CG];refine⟨λc hc=>?_,tY h.2⟩;rcases B9 hc with rfl|hc
    ·exact vK (by rw[i6];simpa using e) e2
    ·exact h.1 c hc
def yH(k a:bk):∀l:List bk,l.Pairwise bF->(qT a l).find? (aJ k)=if aJ k a=true then(match l.find? (aJ k)with|none=>some a|some b=>if a.aG<b.aG then some a else some b)else l.find? (aJ k)
 |[],_=>by unfold qT;rw[E3];cases aJ k a<;>simp
 |b::l,h=>by
  rw[CG]at h;unfold qT;split
  ·rename_i e;rw[i6]at e;have h1:=mS e k;have h2:aJ k (if a.aG<b.aG then a else b)=aJ k b:=by split<;>simp[h1]
   rw[E3,E3,h2,h1];cases h3:aJ k b with
   |true=>simp;split<;>rfl
   |false=>simp
  ·rename_i e;split
   ·rename_i e2;rw[E3];cases h3:aJ k a with
    |true=>
     have:(b::l).find? (aJ k)=none:=by
      rw[List.find?_eq_none];intro c hc hk;have hb:bF a c:=by
       rcases pH.1 hc with rfl|hc
       ·exact e2
       ·exact before_trans e2 (h.1 c hc)
      have:=vJ hb;rw[eB]at h3 hk;rw[eB.2 (by omega)]at this;cases this
     rw[this];rfl
    |false=>rfl
   ·rename_i e2;rw[E3,E3];cases h3:aJ k b with
    |true=>
     have:aJ k a=false:=by
      cases h4:aJ k a with
      |false=>rfl
      |true=>
       exfalso;apply e;rw[eB]at h3 h4⊢;omega
     simp[this]
    |false=>simp only[];exact yH k a l h.2
def tZ{l:List bk}(h:l.Pairwise bF)(a:bk):(pG l a).Pairwise bF:=by
 by_cases hc:a.aG<1099511627776
 ·rw[Hw hc];exact tY h
 ·unfold pG;rw[uV (by omega)];exact h
def pO(cs:List bk):∀{al:List bk},al.Pairwise bF->(aW al cs).Pairwise bF:=by
 induction cs with
 |nil=>intro al h;exact h
 |cons c cs ih=>intro al h;exact ih (tZ h c)
def t6(k:bk)(cs:List bk):∀{al:List bk},al.Pairwise bF->(aW al cs).find? (aJ k)=cs.foldl (nY k) (al.find? (aJ k)):=by
 induction cs with
 |nil=>intro al h;rfl
 |cons c cs ih=>
  intro al h;show(aW (pG al c) cs).find? (aJ k)=_;rw[ih (tZ h c),F6]
  congr 1
  by_cases hc:c.aG<1099511627776
  ·rw[Hw hc,yH k c al h];unfold nY;simp[hc]
  ·unfold pG nY;rw[uV (by omega),mL (λe=>hc e.1)]
def mt:∀{l:List bk},l.Pairwise (λa b=>aJ a b=false)->∀a,a∈l↔l.find? (aJ a)=some a
 |[],_,a=>by simp
 |b::l,h,a=>by
  rw[CG]at h;rw[E3,pH];cases e:aJ a b with
  |true=>
   simp only[bN];constructor
   ·rintro(h2|h2)
    ·exact h2.symm
    ·have:=h.1 a h2;rw[i6,e]at this;cases this
   ·exact λh2=>.inl h2.symm
  |false=>
   rw[<-mt h.2 a];constructor
   ·rintro(h2|h2)
    ·subst h2;rw[zY]at e;cases e
    ·exact h2
   ·exact .inr
def vL:∀{l1 l2:List bk},l1.Pairwise bF->l2.Pairwise bF->(∀a,a∈l1↔a∈l2)->l1=l2
 |[],[],_,_,_=>rfl
 |[],b::t,_,_,h=>yV ((h b).2 (by simp)) (by simp)
 |a::t,[],_,_,h=>yV ((h a).1 (by simp)) (by simp)
 |a::t1,b::t2,h1,h2,h=>by
  rw[CG]at h1 h2;have e:a=b:=by
   have ha:=(h a).1 (by simp);have hb:=(h b).2 (by simp);rcases pH.1 ha with ha|ha
   ·exact ha
   ·rcases pH.1 hb with hb|hb
    ·exact hb.symm
    ·exact yV (h1.1 b hb) (zZ (h2.1 a ha))
  subst e
  congr 1
  refine vL h1.2 h2.2 λx=>?_;constructor
  ·intro hx;rcases pH.1 ((h x).1 (by simp[hx]))with e|e
   ·subst e;exact yV (h1.1 x hx) (before_irrefl x)
   ·exact e
  ·intro hx;rcases pH.1 ((h x).2 (by simp[hx]))with e|e
   ·subst e;exact yV (h2.1 x hx) (before_irrefl x)
   ·exact e
def t7{l:List bk}(h:l.Pairwise bF):l.Pairwise (λa b=>aJ a b=false):=h.imp vJ
def qd{l:List bk}(h:(l.map bR).Nodup):l.Pairwise (λa b=>aJ a b=false):=by
 unfold List.Nodup at h;rw[Sd]at h;refine h.imp λ{a b} gi=>?_;cases e:aJ a b with
 |false=>rfl
 |true=>exact yV (mT.2 e) gi
def yI{α:Type}(lt:α->α->Bool)(x:α):∀l:List α,(gZ lt x l).Perm (x::l)
 |[]=>Zdh _
 |y::ys=>by
  simp only[gZ];split
  ·exact((yI lt x ys).cons y).trans (List.Perm.swap x y ys)
  ·exact Zdh _
def Ca{α:Type}(lt:α->α->Bool)(l:List α):(bE lt l).Perm l:=by
 have key:∀(l dw:List α),(l.foldl (λdw x=>gZ lt x dw) dw).Perm (l++dw):=by
  intro l;induction l with
  |nil=>intro dw;exact Zdh _
  |cons x l ih=>
   intro dw;rw[F6];refine(ih _).trans ?_;refine((yI lt x dw).append_left l).trans ?_;exact List.perm_middle
 unfold bE j8;refine(List.reverse_perm _).trans ?_;simpa using key l []
def qe(h:(al.map bR).Nodup){a:bk}(ha:a∈al):mu al (bR a)=a:=by
 have h1:=(o6 ha).1;have h2:=(o6 ha).2.1;have h3:=(mt (qd h) a).1 ha;have h4:=(mt (qd h) _).1 h2;have e:aJ (mu al (bR a))=aJ a:=by
  funext b;rw[i6 _ b,i6 _ b];exact(mS h1 b).symm
 rw[e,h3]at h4;exact(Zdb h4).symm
def z8(h:(al.map bR).Nodup)(a:bk):a∈g0 al↔a∈al:=by
 unfold g0;rw[kL];constructor
 ·rintro⟨r,hr,rfl⟩;rw[iD]at hr;obtain⟨b,hb,rfl⟩:=kL.1 hr;exact(o6 hb).2.1
 ·intro ha;exact⟨bR a,by rw[iD];exact kL.2 ⟨a,ha,rfl⟩,qe h ha⟩
def uQ(h:(al.map bR).Nodup):(g0 al).Pairwise bF:=by
 unfold g0;rw[Sd];have h1:(bE (jt dx) (al.map bR)).Nodup:=(Ca _ _).symm.nodup h;have h2:=dH Cb (al.map bR);unfold cP at h2;unfold List.Nodup at h1;refine(h1.and h2).imp_of_mem λ{r s} hr hs jy=>?_;rw[iD]at hr hs;obtain⟨a,ha,rfl⟩:=kL.1 hr;obtain⟨b,hb,rfl⟩:=kL.1 hs;rw[qe h ha,qe h hb];have h3:aJ a b=false:=by
  cases e:aJ a b with
  |false=>rfl
  |true=>exact yV (mT.2 e) jy.1
 by_cases i7:bF a b
 ·exact i7
 ·exfalso;have h4:=vK h3 i7;have h5:=jy.2;rw[o7]at h5;apply h5;simp only[bR,g5,cN,Tz,List.getD_cons_zero,EQ];exact h4
end
section
variable{aG:Int}{ops:List (Int×Int)}
def pK(k a:bk):Bool:=aJ k a&&decide (a.aG<1099511627776)
def t8(k:bk)(cs:List bk):∀o,cs.foldl (nY k) o=(cs.filter (pK k)).foldl (nY k) o:=by
 induction cs with
 |nil=>intro o;rfl
 |cons c cs ih=>
  intro o;rw[F6,KN,ih];split
  ·rfl
  ·rename_i h
   congr 1
   unfold nY;rw[mL];rintro⟨h1,h2⟩;apply h;simp[pK,h1,h2]
def gj{α β:Type}(p:β->Bool)(f:α->List β)(l:List α):(l.flatMap f).filter p=l.flatMap λa=>(f a).filter p:=by
 induction l with
 |nil=>rfl
 |cons a l ih=>simp[KO,HH,ih]
def jz{p:bk->Bool}{f:Nat->List bk}{i:Nat}(k0:Nat)(h:∀k,k≠k0->(f k).filter p=[]):∀m,(ft f i m).filter p=if i<=k0/\k0<m then(f k0).filter p else []:=by
 intro m;by_cases H4:m<=i
 ·rw[show ft f i m=[]by unfold ft;rw[show m-i=0 by omega];rfl,mL (by omega)];rfl
 obtain⟨d,rfl⟩:∃d,m=i+d:=⟨m-i,by omega⟩;clear H4;induction d with
 |zero=>rw[ET,qf,mL (by omega)];rfl
 |succ d ih=>
  rw[<-Nat.add_assoc,lw f (by omega),HH,ih];by_cases e:i+d=k0
  ·rw[mL (by omega),uV (by omega),e];rfl
  ·rw[h _ e];by_cases e2:i<=k0/\k0<i+d
   ·rw[uV e2,uV (by omega)];simp
   ·rw[mL e2,mL (by omega)];rfl
def cF{p:bk->Bool}{l:List bk}(h:∀a∈l,p a=false):l.filter p=[]:=by
 rw[IX];intro a ha;simp[h a ha]
def i9{k a:bk}(h:¬(k.f=a.f/\k.t=a.t/\k.term=a.term)):pK k a=false:=by
 have:aJ k a=false:=by
  cases e:aJ k a with
  |false=>rfl
  |true=>exact yV (eB.1 e) h
 simp[pK,this]
def Fp{k:bk}{f t x c d:Int}{o:List (Int×Int)}(hc:0<=c)(hd:0<=d):[(⟨f,t,x,c+d,o⟩:bk)].filter (pK k)=[(⟨f,t,x,kq c d,o⟩:bk)].filter (pK k):=by
 by_cases h:c+d<1099511627776
 ·have:kq c d=c+d:=by unfold kq;rw[mL (by omega)]
  rw[this]
 ·have:kq c d=1099511627776:=by unfold kq;rw[uV (by omega)]
  rw[this];have h1:pK k ⟨f,t,x,c+d,o⟩=false:=by simp[pK,h]
  have h2:pK k ⟨f,t,x,1099511627776,o⟩=false:=by simp[pK]
  simp[h1,h2]
def yK{read:b8}{i m:Int}{n:Nat}{a:bk}(h:a∈ju read i m aG ops n):∃t:Nat,t<n/\0<=read.getD t 0/\a=⟨2*i,2*m+2,t,aG+read.getD t 0,ops++[(1,(t:Int))]⟩:=by
 unfold ju at h;rw[yf]at h;obtain⟨t,ht,h⟩:=h;rw[o8]at ht;split at h
 ·rw[ic]at h;exact⟨t,ht,by assumption,h⟩
 ·simp at h
def MT{c7:b8}{i m:Int}{n:Nat}{a:bk}(h:a∈nZ c7 i m aG ops n):∃t:Nat,t<n/\a=⟨2*i,2*m,(t:Int),aG+c7.getD t 0,ops++[(3,(t:Int))]⟩:=by
 unfold nZ at h;rw[kL]at h;obtain⟨t,ht,h⟩:=h;rw[o8]at ht;exact⟨t,ht,h.symm⟩
def vM(x:Input)(i m:Nat):List bk:=if cz x m then [⟨2*i,2*m+1,(x.ai.getD (m+1) default).kind,iR x i m+x.swap,dB (m-i)++[(4,0)]⟩]else []
def yL{x:Input}{i m:Nat}{a:bk}(h:a∈vM x i m):cz x m=true/\a=⟨2*i,2*m+1,(x.ai.getD (m+1) default).kind,iR x i m+x.swap,dB (m-i)++[(4,0)]⟩:=by
 unfold vM at h;split at h
 ·exact⟨by assumption,by simpa using h⟩
 ·simp at h
def MU{x:Input}{i m:Nat}{a:bk}(h:a∈rS x i m):cz x m=true/\a.f=2*i/\a.t=2*m+1:=by
 unfold rS at h;split at h
 ·simp at h;subst h;exact⟨by assumption,rfl,rfl⟩
 ·simp at h
def Aa{x:Input}{i:Nat}{a:bk}(h:a∈rT x i):cz x i=true/\a=⟨2*i+1,2*i+4,(x.ai.getD i default).kind,0,[]⟩:=by
 unfold rT at h;split at h
 ·exact⟨by assumption,by simpa using h⟩
 ·simp at h
def Fq{x:Input}{i m t:Nat}{a:bk}(h:a∈rA x i m t):m<x.ai.length/\a.f=2*i/\a.t=2*m+2/\a.term=t:=by
 unfold rA at h;split at h
 ·rename_i h2;simp at h;subst h;exact⟨h2.1,rfl,rfl,rfl⟩
 ·simp at h
def abc{x:Input}{i m t:Nat}{a:bk}(h:a∈iT x i m t):a.f=2*i/\a.t=2*m/\a.term=t:=by
 simp[iT]at h;subst h;exact⟨rfl,rfl,rfl⟩
def Cc(x:Input)(i:Nat):n7 x i=ft (nD x i) i (x.ai.length+1)++rT x i:=rfl
def KP{x:Input}{i m:Nat}{a:bk}(h:a∈nD x i m):(i<m/\a∈ua x i (m-1))\/a∈nZ x.insert i m (iR x i m) (dB (m-i)) x.insert.length\/a∈vM x i m:=by
 unfold nD at h;rw[dP,dP]at h;rcases h with h|h|h
 ·split at h
  ·exact .inl ⟨by assumption,h⟩
  ·simp at h
 ·exact .inr (.inl h)
 ·exact .inr (.inr h)
def Ab{x:Input}{i m:Nat}{a:bk}(h:a∈nD x i m):a.f=2*i/\(a.t=2*m\/a.t=2*m+1):=by
 rcases KP h with⟨h1,h⟩|h|h
 ·obtain⟨t,_,_,rfl⟩:=yK h;exact⟨rfl,.inl (by simp only;omega)⟩
 ·obtain⟨t,_,rfl⟩:=MT h;exact⟨rfl,.inl rfl⟩
 ·obtain⟨_,rfl⟩:=yL h;exact⟨rfl,.inr rfl⟩
def T2{x:Input}{i:Nat}{a:bk}(h:a∈n7 x i):a.f=2*i\/a.f=2*i+1:=by
 rw[Cc,dP]at h;rcases h with h|h
 ·obtain⟨m,_,_,h⟩:=gT h;exact .inl (Ab h).1
 ·obtain⟨_,rfl⟩:=Aa h;exact .inr rfl
def T3{x:Input}{i m:Nat}{a:bk}(h:a∈rM x i m):a.f=2*i/\(a.t=2*m+2/\m<x.ai.length\/a.t=2*m+1):=by
 unfold rM at h;rw[dP]at h;rcases h with h|h
 ·obtain⟨t,_,_,h⟩:=gT h;have:=Fq h;exact⟨this.2.1,.inl ⟨this.2.2.1,this.1⟩⟩
 ·have:=MU h;exact⟨this.2.1,.inr this.2.2⟩
def ahb{x:Input}{i:Nat}{a:bk}(h:a∈rI x i):a.f=2*i\/a.f=2*i+1:=by
 unfold rI at h;rw[dP]at h;rcases h with h|h
 ·obtain⟨m,_,_,h⟩:=gT h;exact .inl (T3 h).1
 ·obtain⟨_,rfl⟩:=Aa h;exact .inr rfl
def T4{x:Input}{i m:Nat}{a:bk}(h:a∈iM x i m):a.f=2*i/\a.t=2*m:=by
 unfold iM at h;obtain⟨t,_,_,h⟩:=gT h;have:=abc h;exact⟨this.1,this.2.1⟩
def ahc{x:Input}{i:Nat}{a:bk}(h:a∈iI x i):a.f=2*i:=by
 unfold iI at h;obtain⟨m,_,_,h⟩:=gT h;exact(T4 h).1
def Ks(x:Input):Prop:=(∀p∈x.insert,0<=p)/\0<=x.swap
def Cd{x:Input}(hn:Ks x)(hd:lz x.ai)(k:bk)(i m:Nat):(vM x i m).filter (pK k)=(rS x i m).filter (pK k):=by
 unfold vM rS;split
 ·exact Fp (eN hd i m).1 hn.2
 ·rfl
def Ce{x:Input}(hd:lz x.ai)(hr:∀c∈x.ai,c.read.length=x.insert.length)(k:bk){i m:Nat}(hm:m<x.ai.length):(ua x i m).filter (pK k)=(ft (rA x i m) 0 x.insert.length).filter (pK k):=by
 have hc:(x.ai.getD m default).read.length=x.insert.length:=hr _ (by simp[List.getD,hm]);unfold ua ju ft;rw[hc,gj,gj,Mm]
 congr 1
 funext t;rw[Cf];unfold rA j9;have abd:(default:Int)=0:=rfl;rw[abd];by_cases h:0<=(x.ai.getD m default).read.getD t 0
 ·rw[uV h,uV ⟨hm,h⟩];exact Fp (eN hd i m).1 h
 ·rw[mL h,mL (λe=>h e.2)]
def vN{x:Input}(hn:Ks x)(hd:lz x.ai)(k:bk)(i m:Nat):(nZ x.insert i m (iR x i m) (dB (m-i)) x.insert.length).filter (pK k)=(iM x i m).filter (pK k):=by
 unfold nZ iM ft;rw[gj,Mm];have:∀l:bY,(∀t∈l,t<x.insert.length)->(l.map λ(t:Nat)=>(⟨2*i,2*m,(t:Int),iR x i m+x.insert.getD t 0,dB (m-i)++[(3,(t:Int))]⟩:bk)).filter (pK k)=l.flatMap λt=>(iT x i m (0+t)).filter (pK k):=by
  intro l;induction l with
  |nil=>intro _;rfl
  |cons t l ih=>
   intro ht;rw[l8,KO,<-ih λt h=>ht t (by simp[h])];have e:iT x i m (0+t)=[⟨2*i,2*m,t,kq (iR x i m) (x.insert.getD t default),dB (m-i)++[(3,(t:Int))]⟩]:=by rw[Cf];rfl
   have ja:=ht t (by simp);have hp:0<=x.insert.getD t 0:=hn.1 _ (by simp[List.getD,ja]);rw[e,<-List.singleton_append (l:=List.map _ l),HH]
   congr 1
   exact Fp (eN hd i m).1 hp
 exact this _ λt ht=>o8.1 ht
def Fs{x:Input}(hn:Ks x)(hd:lz x.ai)(hr:∀c∈x.ai,c.read.length=x.insert.length)(k:bk):
  (qV x (x.ai.length+1)).filter (pK k)=(ft (rI x) 0 (x.ai.length+1)++ft (iI x) 0 (x.ai.length+1)).filter (pK k):=by
 have e1:qV x (x.ai.length+1)=ft (n7 x) 0 (x.ai.length+1):=by simp[qV,ft]
 obtain⟨n,hN⟩:=ba x.ai.length;rw[e1,HH];have out:∀(f:Nat->List bk),(∀i,∀a∈f i,a.f=2*i\/a.f=2*i+1)->∀j,j≠(k.f/2).toNat->(f j).filter (pK k)=[]:=by
  intro f hf j hj;refine cF λa ha=>i9 λe=>hj ?_;have:=hf j a ha;omega
 rw[jz _ (out _ λi a=>T2),jz _ (out _ λi a=>ahb),jz _ (out _ λi a h=>.inl (ahc h))];obtain⟨i,hi⟩:=ba ((k.f/2).toNat);rw[hi];by_cases Ac:0<=i/\i<x.ai.length+1
 case neg=>rw[mL Ac,mL Ac,mL Ac];rfl
 rw[uV Ac,uV Ac,uV Ac];rw[Cc];unfold rI iI;rw[HH,HH];by_cases ajI:k.f=2*i
 case neg=>
  have h1:(ft (nD x i) i (x.ai.length+1)).filter (pK k)=[]:=cF λa ha=>i9 λe=>by
   obtain⟨m,_,_,h⟩:=gT ha;have:=(Ab h).1;omega
  have h2:(ft (rM x i) i (x.ai.length+1)).filter (pK k)=[]:=cF λa ha=>i9 λe=>by
   obtain⟨m,_,_,h⟩:=gT ha;have:=(T3 h).1;omega
  have h3:(ft (iM x i) i (x.ai.length+1)).filter (pK k)=[]:=cF λa ha=>i9 λe=>by
   obtain⟨m,_,_,h⟩:=gT ha;have:=(T4 h).1;omega
  rw[h1,h2,h3];simp
 have hT:(rT x i).filter (pK k)=[]:=cF λa ha=>i9 λe=>by
  obtain⟨_,rfl⟩:=Aa ha;simp only at e;omega
 rw[hT,F5,F5];have adY:∀m,m≠(k.t/2).toNat->(nD x i m).filter (pK k)=[]:=λm hm=>cF λa ha=>i9 λe=>by
  have:=(Ab ha).2;omega
 have adZ:∀m,m≠(k.t/2).toNat->(iM x i m).filter (pK k)=[]:=λm hm=>cF λa ha=>i9 λe=>by
  have:=(T4 ha).2;omega
 rw[jz _ adY,jz _ adZ];obtain⟨m,hm⟩:=ba ((k.t/2).toNat);rw[hm]at adY adZ⊢;have VW:(nD x i m).filter (pK k)=(if i<m then ua x i (m-1)else []).filter (pK k)++((nZ x.insert i m (iR x i m) (dB (m-i)) x.insert.length).filter (pK k)++(vM x i m).filter (pK k)):=by
  rw[<-List.filter_append,<-List.filter_append];rfl
 by_cases E1:k.t=2*m
 ·
  have vO:(vM x i m).filter (pK k)=[]:=cF λa ha=>i9 λe=>by
   obtain⟨_,rfl⟩:=yL ha;simp only at e;omega
  have abe:∀j,j≠(if m=0 then n+1 else m-1)->(rM x i j).filter (pK k)=[]:=λj hj=>cF λa ha=>i9 λe=>by
   have:=(T3 ha).2;split at hj<;>omega
  rw[jz _ abe,VW,vO,F5,vN hn hd k i m];by_cases Ku:m=0
  ·rw[uV Ku];have h5:¬(i<=n+1/\n+1<x.ai.length+1):=by omega
   have h6:¬i<m:=by omega
   rw[mL h5,mL h6];simp
  ·rw[mL Ku];obtain⟨q,rfl⟩:∃q,m=q+1:=⟨m-1,by omega⟩;rw[Tm];have hrM:(rM x i q).filter (pK k)=(ft (rA x i q) 0 x.insert.length).filter (pK k):=by
    have:(rS x i q).filter (pK k)=[]:=cF λa ha=>i9 λe=>by
     have:=(MU ha).2.2;omega
    unfold rM;rw[HH,this,F5]
   by_cases hq:q<x.ai.length
   ·by_cases R9:i<q+1
    ·rw[uV R9,uV ⟨by omega,by omega⟩,uV ⟨by omega,by omega⟩,hrM,Ce hd hr k hq];rw[uV ⟨by omega,by omega⟩]
    ·rw[mL R9];by_cases ajJ:i=q+1
     ·rw[uV ⟨by omega,by omega⟩,mL (by omega),uV ⟨by omega,by omega⟩];simp
     ·rw[mL (by omega),mL (by omega),mL (by omega)];simp
   ·have hz:(rM x i q).filter (pK k)=[]:=by
     rw[hrM];refine cF λa ha=>?_;obtain⟨t,_,_,h⟩:=gT ha;exact yV (Fq h).1 hq
    rw[hz,mL (by omega)];have h5:¬(i<=q+1/\q+1<x.ai.length+1):=by omega
    rw[mL h5];simp
 ·
  have abe:∀j,j≠m->(rM x i j).filter (pK k)=[]:=λj hj=>cF λa ha=>i9 λe=>by
   have:=(T3 ha).2;omega
  rw[jz _ abe];have h1:(iM x i m).filter (pK k)=[]:=cF λa ha=>i9 λe=>by
   have:=(T4 ha).2;omega
  have h2:(nZ x.insert i m (iR x i m) (dB (m-i)) x.insert.length).filter (pK k)=[]:=by rw[vN hn hd,h1]
  have h3:(if i<m then ua x i (m-1)else []).filter (pK k)=[]:=cF λa ha=>i9 λe=>by
   split at ha
   ·obtain⟨t,_,_,rfl⟩:=yK ha;simp only at e;omega
   ·simp at ha
  have h4:(rM x i m).filter (pK k)=(rS x i m).filter (pK k):=by
   have:(ft (rA x i m) 0 x.insert.length).filter (pK k)=[]:=cF λa ha=>i9 λe=>by
    obtain⟨t,_,_,h⟩:=gT ha;have:=(Fq h).2.2.1;omega
   unfold rM;rw[HH,this,z6]
  rw[VW,h1,h2,h3,h4,Cd hn hd];simp
def l9(x:Input):((jc x).map bR).Nodup:=qW _ (by simp)
def jd(x:Input):(fx x).Pairwise bF:=pO _ (pO _ List.Pairwise.nil)
def yM{x:Input}(hn:Ks x)(hd:lz x.ai)(hr:∀c∈x.ai,c.read.length=x.insert.length):g0 (jc x)=fx x:=by
 refine vL (uQ (l9 x)) (jd x) λa=>?_;rw[z8 (l9 x),mt (qd (l9 x)),mt (t7 (jd x))];unfold jc fx;rw[B8,<-df,t6 _ _ List.Pairwise.nil,t8,Fs hn hd hr,<-t8]
def MV(x:Input):sM x=dN x (2*x.ai.length+1):=by
 unfold sM dN;apply QQ;intro s hs;rw[o8]at hs;rw[uV hs]
def Ft{x:Input}(hn:Ks x)(hd:lz x.ai)(hr:∀c∈x.ai,c.read.length=x.insert.length):vP x=bn x:=by
 unfold vP bn;rw[yM hn hd hr,MV]
end
def MW(k:bk)(cs:List bk):∀o a,cs.foldl (nY k) o=some a->o=some a\/(a∈cs/\a.aG<1099511627776):=by
 induction cs with
 |nil=>intro o a h;exact .inl h
 |cons c cs ih=>
  intro o a h;rw[F6]at h;rcases ih _ _ h with h|⟨h1,h2⟩
  ·unfold nY at h;split at h
   ·rename_i hc;split at h
    ·simp only[bN]at h;subst h;exact .inr ⟨by simp,hc.1⟩
    ·split at h
     ·simp only[bN]at h;subst h;exact .inr ⟨by simp,hc.1⟩
     ·exact .inl h
   ·exact .inl h
  ·exact .inr ⟨by simp[h1],h2⟩
def Cg{x:Input}{a:bk}(h:a∈fx x):(a∈ft (rI x) 0 (x.ai.length+1)\/a∈ft (iI x) 0 (x.ai.length+1))/\a.aG<1099511627776:=by
 have h1:=(mt (t7 (jd x)) a).1 h;unfold fx at h1;rw[<-df,t6 _ _ List.Pairwise.nil]at h1;rcases MW _ _ _ _ h1 with h2|⟨h2,h3⟩
 ·cases h2
 ·exact⟨dP.1 h2,h3⟩
def MX{a b:Int}(ha:0<=a)(hb:1<=b):1<=kq a b:=by unfold kq;split<;>omega
def Ad(al:List bk):(g0 al).length=al.length:=by simp[g0,fy]
def aaz(x:Input):List bk:=ft (rI x) 0 (x.ai.length+1)++ft (iI x) 0 (x.ai.length+1)
inductive qO(aL:List bk):b8->Nat->Int->Prop
 |nil:qO aL [] 0 0
 |agP {ys:b8} {s:Nat} {c:Int} (a:bk):qO aL ys s c->a∈aL->a.f=s->qO aL (ys++[a.term]) a.t.toNat (c+a.aG)
def ajG(x:Input){s:Nat}(hs:s<2*x.ai.length+1):(bn x).bK.getD s default=if s % 2=0 then iR x (s/2) x.ai.length else 1099511627776:=by
 simp[bn,dN,List.getD,hs]
def afX(x:Input){i m:Nat}(h:i<=m)(hm:m<x.ai.length):iR x i (m+1)=min (iR x i m+(x.ai.getD m default).delete) 1099511627776:=by
 unfold iR;have e:(x.ai.take (m+1)).drop i=(x.ai.take m).drop i++[x.ai.getD m default]:=by
  rw[CB,fq hm,su (by simp;omega)];simp[List.getD,hm]
 rw[e,sk]
end Go.Proofs
