/- Part. Conditions: none. -/
import Derived.Test.YtnhpkhblghgpdaaGreatDoorXac
set_option linter.all false
set_option maxRecDepth 100000
set_option maxHeartbeats 8000000
namespace Go.Proofs
open Go.Shelf
def NM:Go.Shelf.Ren:=⟨fun|6=>49|15=>79|14=>78|28=>116|29=>117|20=>108|21=>109|22=>110|23=>111|24=>112|25=>113|26=>114|27=>115|46=>135|47=>136|48=>137|49=>138|50=>139|57=>149|n=>n,fun|22=>102|24=>104|25=>106|3=>3|39=>129|0=>0|53=>175|55=>178|4=>4|46=>184|45=>183|50=>188|5=>5|9=>9|66=>212|70=>216|76=>222|77=>196|n=>n,fun|n=>n⟩
def afA:SlLaysF0.n6 aj NM where
 mixed:=by kernel_rfl
 f6:=⟨Tryz.f49.name,by decide+kernel,Tryz.func49.trans (congrArg some (by kernel_rfl))⟩
 f14:=⟨Tryz.f78.name,by decide+kernel,Tryz.func78.trans (congrArg some (by kernel_rfl))⟩
 f15:=Tryz.func79.trans (congrArg some (by kernel_rfl))
 f20:=⟨Tryz.f108.name,by decide+kernel,Tryz.func108.trans (congrArg some (by kernel_rfl))⟩
 f21:=⟨Tryz.f109.name,by decide+kernel,Tryz.func109.trans (congrArg some (by kernel_rfl))⟩
 f22:=⟨Tryz.f110.name,by decide+kernel,Tryz.func110.trans (congrArg some (by kernel_rfl))⟩
 f23:=⟨Tryz.f111.name,by decide+kernel,Tryz.func111.trans (congrArg some (by kernel_rfl))⟩
 f24:=⟨Tryz.f112.name,by decide+kernel,Tryz.func112.trans (congrArg some (by kernel_rfl))⟩
 f25:=⟨Tryz.f113.name,by decide+kernel,Tryz.func113.trans (congrArg some (by kernel_rfl))⟩
 f26:=⟨Tryz.f114.name,by decide+kernel,Tryz.func114.trans (congrArg some (by kernel_rfl))⟩
 f27:=⟨Tryz.f115.name,by decide+kernel,Tryz.func115.trans (congrArg some (by kernel_rfl))⟩
 f28:=Tryz.func116.trans (congrArg some (by kernel_rfl))
 f29:=Tryz.func117.trans (congrArg some (by kernel_rfl))
 f46:=⟨Tryz.f135.name,by decide+kernel,Tryz.func135.trans (congrArg some (by kernel_rfl))⟩
 f47:=Tryz.func136.trans (congrArg some (by kernel_rfl))
 f48:=Tryz.func137.trans (congrArg some (by kernel_rfl))
 f49:=⟨Tryz.f138.name,by decide+kernel,Tryz.func138.trans (congrArg some (by kernel_rfl))⟩
 f50:=⟨Tryz.f139.name,by decide+kernel,Tryz.func139.trans (congrArg some (by kernel_rfl))⟩
 f57:=⟨Tryz.f149.name,by decide+kernel,Tryz.func149.trans (congrArg some (by kernel_rfl))⟩
 t0:=Tryz.underlying0
 a0:=Tryz.isAgg0
 z0:=Tryz.sizeOf0
 v0:=Tryz.zeroValue0
 t3:=Tryz.underlying3
 a3:=Tryz.isAgg3
 z3:=Tryz.sizeOf3
 v3:=Tryz.zeroValue3
 t4:=Tryz.underlying4
 a4:=Tryz.isAgg4
 z4:=Tryz.sizeOf4
 v4:=Tryz.zeroValue4
 t5:=Tryz.underlying5
 a5:=Tryz.isAgg5
 z5:=Tryz.sizeOf5
 v5:=Tryz.zeroValue5
 t9:=Tryz.underlying9
 a9:=Tryz.isAgg9
 z9:=Tryz.sizeOf9
 v9:=Tryz.zeroValue9
 t22:=Tryz.underlying102
 a22:=Tryz.isAgg102
 z22:=Tryz.sizeOf102
 v22:=Tryz.zeroValue102
 t25:=Tryz.underlying106
 a25:=Tryz.isAgg106
 z25:=Tryz.sizeOf106
 v25:=Tryz.zeroValue106
 t39:=Tryz.underlying129
 a39:=Tryz.isAgg129
 z39:=Tryz.sizeOf129
 v39:=Tryz.zeroValue129
 t45:=Tryz.underlying183
 a45:=Tryz.isAgg183
 z45:=Tryz.sizeOf183
 v45:=Tryz.zeroValue183
 t46:=Tryz.underlying184
 a46:=Tryz.isAgg184
 z46:=Tryz.sizeOf184
 v46:=Tryz.zeroValue184
 t50:=Tryz.underlying188
 a50:=Tryz.isAgg188
 z50:=Tryz.sizeOf188
 v50:=Tryz.zeroValue188
 t53:=Tryz.underlying175
 a53:=Tryz.isAgg175
 z53:=Tryz.sizeOf175
 v53:=Tryz.zeroValue175
 t55:=Tryz.underlying178
 a55:=Tryz.isAgg178
 z55:=Tryz.sizeOf178
 v55:=Tryz.zeroValue178
 t66:=Tryz.underlying212
 a66:=Tryz.isAgg212
 z66:=Tryz.sizeOf212
 v66:=Tryz.zeroValue212
 t70:=Tryz.underlying216
 a70:=Tryz.isAgg216
 z70:=Tryz.sizeOf216
 v70:=Tryz.zeroValue216
 t76:=Tryz.underlying222
 a76:=Tryz.isAgg222
 z76:=Tryz.sizeOf222
 v76:=Tryz.zeroValue222
 t77:=Tryz.underlying196
 a77:=Tryz.isAgg196
 z77:=Tryz.sizeOf196
 v77:=Tryz.zeroValue196
open Go.DM Go.DM.W9
def Zs(x y:pw 3):Int:=fz (jn x) (jn y)
def auI(x:pw 3):∃a b c:Int,x.1=[a,b,c]:=by
 obtain⟨l,hl⟩:=x
 match l,hl with
 |[a,b,c],_=>exact⟨a,b,c,rfl⟩
def good_row(x:pw 3):uB (jn x):=by
 obtain⟨a,b,c,h⟩:=auI x;exact⟨a,b,c,by unfold jn;rw[h];rfl⟩
def ade{r:aL}(h:uB r):∃x:pw 3,jn x=r:=by
 obtain⟨a,b,c,rfl⟩:=h;exact⟨⟨[a,b,c],rfl⟩,rfl⟩
def Iz:∀{D:List (aL)},(∀x∈D,uB x)->∃E:List (pw 3),E.map jn=D
 |[],_=>⟨[],rfl⟩
 |r::D,h=>by
  obtain⟨x,hx⟩:=ade (h r (by simp));obtain⟨E,hE⟩:=Iz λy hy=>h y (Zm _ hy);exact⟨x::E,by simp[hx,hE]⟩
def amW(x y:pw 3):ltOf Zs x y=AR fz (jn x) (jn y):=rfl
def D0:Go.Sort.SWO (ltOf Zs):=
 ⟨λx=>LJ.irrefl _,λx y z=>LJ.trans _ _ _,λx y z=>LJ.ntrans _ _ _⟩
def adf{k:Nat}{x y:pw k}(h:jn x=jn y):x=y:=by
 apply Subtype.ext;unfold jn at h;have key:∀(l m:bT),l.map tI=m.map tI->l=m:=by
  intro l;induction l with
  |nil=>intro m h;cases m with
   |nil=>rfl
   |cons b m=>cases h
  |cons a l ih=>intro m h;cases m with
   |nil=>cases h
   |cons b m=>
    simp only[qD,LW,T.int.injEq,qI]at h;rw[h.1,ih m h.2]
 exact key _ _ h
def afB(x y:pw 3)(h1:ltOf Zs x y=false)(h2:ltOf Zs y x=false):x=y:=by
 rw[amW]at h1 h2;exact adf (BM (good_row x) (good_row y) (afz (by simp[sX,h1,h2])))
def adg(E:List (pw 3)):kV (AR fz) (E.map jn)=(CE Zs E).map jn:=by
 refine Mu LJ ?_ λz=>?_
 ·unfold xF;rw[ZcW];have h:=List.pairwise_mergeSort (le:=λx y=> !(ltOf Zs) y x) (λa b c h1 h2=>by
   simp only[Xr]at h1 h2⊢;exact D0.ntrans _ _ _ h2 h1) (λa b=>by
   cases e:ltOf Zs b a with
   |false=>rfl
   |true=>
    cases e2:ltOf Zs a b with
    |false=>rfl
    |true=>
     have:=D0.trans _ _ _ e e2;rw[D0.irrefl]at this;cases this) E
  exact h.imp λ{a b} Xa=>by rw[Xr]at Xa;exact Xa
 ·have hp:((CE Zs E).map jn).Perm (E.map jn):=(List.mergeSort_perm E _).map _;have h1:=hp.filter (sX (AR fz) z);have eF:∀w∈(E.map jn).filter (sX (AR fz) z),∀u∈(E.map jn).filter (sX (AR fz) z),w=u:=by
   intro w hw u hu;rw[Su]at hw hu;obtain⟨x,_,rfl⟩:=g9.1 hw.1;obtain⟨y,_,rfl⟩:=g9.1 hu.1;exact BM (good_row x) (good_row y) ((afz hw.2).symm.trans (afz hu.2))
  generalize (E.map jn).filter (sX (AR fz) z)=l at h1 eF;generalize ((CE Zs E).map jn).filter (sX (AR fz) z)=l' at h1;apply ZbF h1.length_eq;intro i q1 q2;exact eF _ (h1.subset (SK q1)) _ (SK q2)
theorem Rb [bM](x y:pw 3):bw aj 50 [.agg (jn x),.agg (jn y)] (tI (Zs x y)):=by
 obtain⟨a,b,c,h⟩:=good_row x;obtain⟨d,e,f,k⟩:=good_row y;unfold Zs;rw[h,k];exact t33 a b c d e f
def t32(D:List (aL)){ab:bq}{r bJ e:Nat}(gP:ab r=some (.bE bJ e 3 D))(eQ:∀x∈D,uB x)(h4:D.length<=sE):
  aQ aj 49 [.bC r bJ,.v (.fn (.func 50) [])] ab ⟨True,.v (.ew []),eJ ab r (.bE bJ e 3 (kV (AR fz) D))⟩:=by
 obtain⟨E,rfl⟩:=Iz eQ;rw[adg];unfold sE at h4;exact Mt (k:=3) afA (by omega) (λw=>Tryz.isAgg104 w) (λw=>Tryz.sizeOf104 w) (@Rb bM.none) D0 afB E gP (by simp at h4;omega)
def k32(amV:aL->Prop)(afy:aL->aL->Int):bF->bq->fV
 |[.bC r bJ,.v (.fn (.func c) ch)],ab=>match ab r with
  |some (.bE cw e sz D)=>⟨bJ=cw/\sz=3/\c=50/\ch=[]/\(∀x∈D,amV x)/\D.length<=sE/\D.length<=1000000000,
    .v (.ew []),eJ ab r (.bE bJ e 3 (kV (AR afy) D))⟩
  |_=>⟨False,.undef,ab⟩
 |_,ab=>⟨False,.undef,ab⟩
def auC{l:List (Nat×DM.Spec)}(h:ay aj (bB l)):ay aj (bB ((49,en (k32 uB fz))::l)):=by
 refine ay.ij h ?_;intro args ab h;unfold k32 at h⊢;split at h
 ·split at h
  ·rename_i c ch _ cw e sz D gP;obtain⟨rfl,rfl,rfl,rfl,h1,h4,h5⟩:=h;refine⟨λN hN=>?_,λk hk=>wq gP hk⟩;simp only[];exact(t32 D gP h1 h4).of rfl rfl
  ·exact h.elim
 ·exact h.elim
section
variable{ab:bq}{al:List cE}
def k30:bF->bq->fV
 |[.ptr b 0,.v (.int .i64 i)],ab=>
  ⟨ab b=some (.box (du (gN ab b).1 (gN ab b).2))/\ab (gN ab b).2=some (cV (BI ab (gN ab b).2))/\0<=i/\i<=(gN ab b).1.aw.length/\Qa (gN ab b).1,.v (.ew []),
   eJ ab (gN ab b).2 (cV (cS (BI ab (gN ab b).2) (u4 (gN ab b).1 i.toNat)))⟩
 |_,ab=>⟨False,.undef,ab⟩
def amL{b m:Nat}{x:Input}{i:Nat}(h:ab b=some (.box (du x m)))(hm:ab m=some (cV al)):
  k30 [.ptr b 0,.v (ti i)] ab=⟨i<=x.aw.length/\Qa x,.v (.ew []),eJ ab m (cV (cS al (u4 x i)))⟩:=by
 simp only[k30,DZ h,h,Iy hm,hm,iQ,qI,Int.ofNat_le,ZcS]
abbrev Γ7:pk:=bB [(47,en k30),(49,en (k32 uB fz)),(48,en k31),(46,zn ak4 amM 3 1)]
def ok7:ay aj Γ7:=by
 refine ay.ij (auC (ay.ij (ay.aax ay.nil ?_) ?_)) ?_
 ·rintro ts ⟨v,n,rfl,h1,h2⟩;have:=t29 v n h1 h2;simpa [amM,aG]using this
 ·exact(ok5 48 (en k31) rfl).st k31 rfl
 ·intro args ab h;unfold k30 at h⊢;split at h
  ·rename_i aJ b i;obtain⟨hb,hm,h1,h2,h3⟩:=h;obtain⟨i,rfl⟩:=kK h1;refine⟨λN hN=>?_,λr hr=>wq hm hr⟩;exact aQ.of (t30 hN hb hm (by omega) h3) (by simp) (by simp)
  ·exact h.elim
def ac9:ai:=[
 a 2 5 36 [],
 l 36 37 [0],
 n 6 38,
 o (.bin .mul (i 2) (t 38)) 39 [2],
 n 3 40,
 n 6 41,
 n 4 42,
 o (.callR 48 [(t 40),(t 41),(t 42)]) 43 [4,5,6],
 m 43 35 [7],
 e 0 35 44 [8],
 e 1 35 45 [8],
 x 1 37 39 46 (k [1,3] 9),
 S 1 46 44 (k [11,9,7] 9)]
def ada{b m:Nat}{x:Input}{i j:Nat}(h:ab b=some (.box (du x m))):
  xH k31 [.ptr b 0,.v (ti i),.v (ti j)] ab=(i<=j/\j<=x.aw.length/\ur x.aw)/\
   (k31 [.ptr b 0,.v (ti i),.v (ti j)] (Cj ab [.ptr b 0,.v (ti i),.v (ti j)])).val=.v (.ew [ti (im ((x.aw.take j).drop i) 0),.sl (iz (gR (j-i)))]):=by
 have hr:Cj ab [.ptr b 0,.v (ti i),.v (ti j)] b=some (.box (du x m)):=by simp[Cj,bQ,aP,h]
 refine⟨?_,by rw[BJ hr]⟩;unfold xH;apply propext;constructor
 ·intro H;have:=H ab (λ_ _=>rfl);rw[BJ h]at this;exact this.1
 ·intro H o ho;have hb:o b=some (.box (du x m)):=by rw[ho b (by simp[bQ,aP]),h]
  rw[BJ hb,BJ hr];exact⟨H,rfl,rfl⟩
def yU(x:Input)(y:Nat):List cE:=(List.range y).flatMap (u4 x)
def Yk(x:Input)(y:Nat):yU x (y+1)=yU x y++u4 x y:=by simp[yU,Ho]
def io(x:Input)(n y:Nat):List (aL):=(List.range n).map λs=>[ti (if s % 2=0/\s/2<y then pj x (s/2) x.aw.length else 1099511627776)]
def NJ(x:Input){n y:Nat}(h:2*y<n):(io x n y).set (2*y) [ti (pj x y x.aw.length)]=io x n (y+1):=by
 apply ZbF
 ·simp[io]
 ·intro k h1 h2;rw[Zcf];simp only[io,Zb4,Zb6];split
  ·rename_i e;subst e;rw[cF (by omega),show 2*y/2=y by omega]
  ·rename_i e;by_cases hk:k % 2=0/\k/2<y
   ·rw[cF hk,cF (by omega)]
   ·rw[aZ hk,aZ (by omega)]
def NK(x:Input)(n y:Nat):(io x n y).length=n:=by simp[io]
def KQ(x:Input)(n:Nat):io x n 0=List.replicate n [ti 1099511627776]:=by
 apply ZbF
 ·simp[io]
 ·intro k h1 h2;simp[io]
def wC(a b:bq)(σ:Nat->Nat)(cs wZ:bF):o8 a b σ (.box cs) (.box wZ)=iF a b σ cs wZ:=rfl
def wD(a b:bq)(σ:Nat->Nat)(v v' e e' sz jh:Nat)(av fc:List (aL)):o8 a b σ (.bE v e sz av) (.bE v' e' jh fc)=(e=e'/\sz=jh/\av=fc):=rfl
def vK(a b:bq)(al:List cE):o8 a b id (cV al) (cV al):=by
 simp only[cV,o8];exact⟨trivial,trivial,trivial,qd λe he=>by obtain⟨x,hx⟩:=gz al e he;rw[hx];simp⟩
def CW{e:Nat×T×DV}(h:e∈dz al):∃i,i<al.length/\e=(i,(al.getD i default).key,.v (.agg (al.getD i default).enc)):=by
 obtain⟨i,hi,rfl⟩:=If h;rw[lY]at hi;refine⟨i,hi, ?_⟩;have:=il al i;rw[w8 (by rw[lY];exact hi),w8 hi]at this;simp only[O5,cu]at this;rw[this];simp[List.getD,hi]
def KR{i:Nat}(h:i<al.length):(dz al).find? (λe=>e.1==i)=some (i,(al.getD i default).key,.v (.agg (al.getD i default).enc)):=by
 rw[Zc9];have hg:∀(j:Nat) (hj:j<(dz al).length),(dz al)[j]=(j,(al.getD j default).key,.v (.agg (al.getD j default).enc)):=by
  intro j hj;rw[lY]at hj;have:=il al j;rw[w8 (by rw[lY];exact hj),w8 hj]at this;simp only[O5,cu]at this;rw[this];simp[List.getD,hj]
 refine⟨by simp,i,by rw[lY];exact h,hg _ _,λj hj=>?_⟩;rw[hg];simp;omega
def BK:∀(n:Nat) {l:cQ},l.Nodup->(∀i∈l,i<n)->l.length<=n
 |0,l,_,h=>by cases l with
  |nil=>simp
  |cons a l=>exact eB (h a (by simp)) (by omega)
 |n+1,l,hn,h=>by
  by_cases hm:n∈l
  ·have h1:=List.length_erase_of_mem hm;have h2:=BK n (l:=l.erase n) (hn.erase n) (λi hi=>by
    have:=h i (List.mem_of_mem_erase hi);have b7:i≠n:=λe=>by subst e;exact(List.Nodup.not_mem_erase hn) hi
    omega)
   omega
  ·have:=BK n hn (λi hi=>by
    have:=h i hi;have b7:i≠n:=λe=>hm (e▸hi);omega)
   omega
def nY(a b:bq)(al:List cE):ka a b id (dz al) (dz al):=qd λe he=>by obtain⟨x,hx⟩:=gz al e he;rw[hx];simp
def Yl{α:Type}{f:α->aL}{l:List α}{y:Nat}{a:α}(h:y<l.length)(ha:l[y]=a):(l.take (y+1)).map f=(l.take y).map f++[f a]:=by
 rw[Zb0,w8 h,ha];simp
def mu(x:Input):List cE:=cS [] (yU x (x.aw.length+1))
def AT(x:Input):bT:=(List.range (2*x.aw.length+1)).map λs=>if s % 2=0 then pj x (s/2) x.aw.length else 1099511627776
def gE(x:Input):aU:=⟨2*x.aw.length+1,kW (mu x),AT x⟩
def NL(x:Input):io x (2*x.aw.length+1) (x.aw.length+1)=aG (AT x):=by
 simp only[io,AT,aG,Zdq];apply Zbz;intro s hs;simp only[I4]at hs;by_cases h:s % 2=0
 ·simp only[Function.comp_apply,h,jP,qI];rw[cF (by omega)]
 ·simp[h]
@[simp] def ak5(al:List cE):sA (some (cV al)):=by simp[sA,cV]
def t12(x:Input)(hx:Qa x)(xT:(mu x).length<=sE)(gm:(mu x).length<=1000000000):bw aj 29 [x.enc] (gE x).enc:=by
 have aC:=ok7;have hl:=hx.1.1;refine c12.ok (by simp) (aT ?_);simp[Input.enc];apply aa.ag aC fw [1,2];simp[ajJ];apply aa.ag aC fw [1,2,3];simp[ajK];apply aa.ag aC fw [2,3,4];simp[ajL];obtain⟨n2,hn2⟩:=be (2*x.aw.length+1);have w1:IntKind.i64.wrap (2*(x.aw.length:Int))=2*x.aw.length:=aF (by omega);have w2:IntKind.i64.wrap (2*(x.aw.length:Int)+1)=(n2:Int):=by rw[aF (by omega)];omega
 refine aa.kv aC fw (rs:=QK) (.inr ⟨_,rfl⟩) (by kernel_rfl) [2,3,4,5] ?_;simp[QK,w1,w2,ak4,amM,gn];refine⟨⟨1099511627776,n2,⟨rfl,rfl⟩,by omega,by omega⟩, ?_⟩;obtain⟨n,hn⟩:=be x.aw.length;rw[hn]at hn2 hl;apply aa.seq;have w3:IntKind.i64.wrap ((n:Int)+1)=((n+1:Nat):Int):=by rw[aF (by omega)];omega
 apply aa.ag aC fw [2,3,4,5,28,29];simp[ajM,hn,w3];obtain⟨n1,Ym⟩:=be (n+1);rw[show((n:Int)+1)=(n1:Int)by omega];refine aa.to ⟨DM.look [(2,.ptr 1003 0),(3,.ptr 1098 0),(5,.ptr 1255 0)],cJ [(1003,.box [.v (ti 0),.aX,.aX]),(1098,.box (du x 1096)),(1096,cV (cS [] (yU x n1))),(1255,.box [.v (ti n2),.aX,.bC 1275 0]),(1275,.bE 0 3 1 (io x n2 n1))],3000,1000,[]⟩ ?_ ?_
 ·apply aa.block;refine aa.loop (λy:Nat=>⟨DM.look [(2,.ptr 1003 0),(3,.ptr 1098 0),(4,.v (ti n)),(5,.ptr 1255 0),(28,.v (ti n1)),(29,.v (ti y))],cJ [(1003,.box [.v (ti 0),.aX,.aX]),(1098,.box (du x 1096)),(1096,cV (cS [] (yU x y))),(1255,.box [.v (ti n2),.aX,.bC 1275 0]),(1275,.bE 0 3 1 (io x n2 y))],3000,1000,[]⟩)
   (λy=>y<=n1) (λy=>n1-y) 0 (Le.bH ?_ ?_ ?_ ?_) (by simp) (λy hy=>?_)
  ·simp
  ·simp[]
  ·simp[du,cV,dz,yU,cS,KQ,qc,ka,sA]
  ·simp
  apply aa.ag aC fw [2,3,4,5,28,29,30];simp[ajN];apply aa.seq;refine aa.cond rfl (λcU=>?_) (λcU=>?_)
  ·simp at cU;apply aa.skip;simp;apply aa.seq;apply aa.block;apply aa.ag aC fw [2,3,4,5,6,28,29];simp[ajO];refine aa.kv aC fw (rs:=QL) (.inr ⟨_,rfl⟩) (by kernel_rfl) [2,3,4,5,6,28,29] ?_;simp[QL,amL (x:=x) (m:=1096) (al:=cS [] (yU x y))];refine⟨⟨by omega,hx⟩, ?_⟩;obtain⟨al2,ac8⟩:=be (cS (cS [] (yU x y)) (u4 x y));have ar0:cS [] (yU x (y+1))=al2:=by rw[Yk,iA,ac8]
   rw[ac8,lj];refine aa.le (Le.bH (o:=[(1003,.box [.v (ti 0),.aX,.aX]),(1098,.box (du x 1096)),(1096,cV al2),(1255,.box [.v (ti n2),.aX,.bC 1275 0]),(1275,.bE 0 3 1 (io x n2 y))]) (l:=[(2,.ptr 1003 0),(3,.ptr 1098 0),(4,.v (ti n)),(5,.ptr 1255 0),(6,.v (ti y)),(28,.v (ti n1)),(29,.v (ti y))]) (aY:=4000) ?_ ?_ ?_ ?_) ?_
   ·simp
   ·simp
   ·simp[-o8,wC,wD,vK,du,qc]
   ·simp
   have GG:y<=n:=by omega
   have w4:IntKind.i64.wrap (2*(y:Int))=((2*y:Nat):Int):=by rw[aF (by omega)];omega
   obtain⟨y2,fW⟩:=be (2*y);rw[fW]at w4;have AW:y2<n2:=by omega
   have hdc:im ((x.aw.take n).drop y) 0=pj x y n:=rfl;have PA:DM.rowAt (io x n2 y) (y2:Int)=[ti 1099511627776]:=by
    have e:(2*(y:Int)).toNat=y2:=by omega
    subst fW;simp[DM.rowAt,io,e,AW]
   have w6:=NJ x (n:=n2) (y:=y) (by omega);rw[fW,hn]at w6;have hd:=hx.1;refine aa.qa aC fw (rs:=ac9) (.inr ⟨_,rfl⟩) (by kernel_rfl) [2,3,4,5,28,29] ?_;simp[ac9,ada (x:=x) (m:=1096),hn,w4,hd,GG,NK,AW,hdc,PA,w6];apply aa.fJ aC fw [2,3,4,5,28,29];simp[ajP];rw[aF (by omega)];refine⟨y+1,Le.bH ?_ ?_ ?_ ?_,by omega,by omega⟩
   ·simp
   ·simp
   ·simp[-o8,wC,wD,vK,du,qc,ar0]
   ·simp
  ·simp at cU;have:y=n1:=by omega
   subst this;refine aa.exit ⟨rfl,Le.bH ?_ ?_ ?_ ?_⟩
   ·simp
   ·simp
   ·simp[-o8,wC,wD,vK,du,qc]
   ·simp
 ·obtain⟨al,oQ⟩:=be (cS [] (yU x n1));obtain⟨fr,w6⟩:=be (io x n2 n1);rw[oQ,w6];apply aa.ag aC fw [2,3,5,7];simp[acz];apply aa.sq aC fw [2,3,5,7,52];simp[acA,du,cV];refine aa.le (Le.wr (k:=7) 104 (sz:=3) (by omega) (by simp)) ?_;rw[lj];apply aa.block;refine aa.loop (λsn:cQ=>⟨DM.look [(2,.ptr 1003 0),(3,.ptr 1098 0),(5,.ptr 1255 0),(7,.bC 3166 0),(52,.cm 3136)],cJ [(1003,.box [.v (ti 0),.aX,.aX]),(1098,.box (du x 1096)),(1096,cV al),(1255,.box [.v (ti n2),.aX,.bC 1275 0]),(1275,.bE 0 3 1 fr),(3166,.bE 0 104 3 (sn.map λi=>cW (al.getD i default))),(3136,.cm 1096 al.length sn al.length)],4000,1000,[]⟩)
   (λsn=>sn.Nodup/\∀i∈sn,i<al.length) (λsn=>al.length-sn.length) [] (Le.bH ?_ ?_ ?_ ?_) (by simp) (λsn hs=>?_)
  ·simp
  ·simp
  ·simp[-o8,wC,wD,du,qc];simp[o8,cV,sA];exact qd λe he=>by obtain⟨x,hx⟩:=gz al e he;rw[hx];simp
  ·simp[aaA,Fa]
  obtain⟨Lu,hs2⟩:=hs;apply aa.seq;refine aa.next (r:=3136) (m:=1096) (s:=al.length) (l:=al.length) (c:=al.length) (sn:=sn) (cy:=nj) (agg:=true) (es:=dz al) (by simp) (by simp) (by simp[cV]) (λe he=>?_) (ed _) (λaao=>?_) (λe he b7=>?_)
  ·obtain⟨i,hi,rfl⟩:=CW he;exact hi
  ·simp;have hp:=Yn Lu hs2 λi hi=>aao _ (xL (by rw[il,w8 hi];rfl:(dz al)[i]? =some (i,al[i].key,.v (.agg al[i].enc))));have ak6:∀r∈sn.map (λi=>cW (al.getD i default)),uB r:=by
    intro r hr;obtain⟨i,_,rfl⟩:=g9.1 hr;exact⟨_,_,_,rfl⟩
   have dN:(sn.map (λi=>cW (al.getD i default))).length=al.length:=by rw[hp.length_eq];simp
   have zi:(al.map cW).Nodup:=by rw[<-oQ];exact yV _ (by simp)
   have hso:kV (AR fz) (sn.map (λi=>cW (al.getD i default)))=kV (AR fz) (al.map cW):=QZ hp (λr hr=>by
    obtain⟨a,_,rfl⟩:=g9.1 hr;exact⟨_,_,_,rfl⟩) zi
   have afw:mu x=al:=by unfold mu;rw[hn,Ym,oQ]
   rw[afw]at xT gm;rw[<-dN]at xT gm;obtain⟨av,eQ⟩:=be (sn.map (λi=>cW (al.getD i default)));have amN:sn.map (λi=>cW (al[i]?.getD default))=av:=eQ;rw[eQ]at xT gm ak6 hso dN;rw[amN];apply aa.seq;refine aa.cond rfl (λh=>by cases h) (λ_=>?_);apply aa.exit;simp;refine aa.kv aC fw (rs:=KF) (.inr ⟨_,rfl⟩) (by kernel_rfl) [2,3,5,7] ?_;simp[KF,k32,hso,xT,gm];refine⟨ak6, ?_⟩;obtain⟨ks,hks⟩:=be (kV (AR fz) (al.map cW));have amO:ks.length=al.length:=by rw[<-hks,yW];simp
   have auD:∀r∈ks,∃a∈al,cW a=r:=by
    intro r hr;rw[<-hks,vX]at hr;obtain⟨a,ha,rfl⟩:=g9.1 hr;exact⟨a,ha,rfl⟩
   rw[hks,lj];refine aa.le (Le.bH (o:=[(1003,.box [.v (ti 0),.aX,.aX]),(1098,.box (du x 1096)),(1096,cV al),(1255,.box [.v (ti n2),.aX,.bC 1275 0]),(1275,.bE 0 3 1 fr),(3166,.bE 0 104 3 ks)]) (l:=[(2,.ptr 1003 0),(3,.ptr 1098 0),(5,.ptr 1255 0),(7,.bC 3166 0)]) (aY:=4500) ?_ ?_ ?_ ?_) ?_
   ·simp
   ·simp
   ·simp[du,qc,sA,nY,cV]
   ·simp
   refine aa.le (Le.DH 1255 1 108 (sz:=5) (cs:=[.v (ti n2),.aX,.bC 1275 0]) (by omega) (by simp) (by simp)) ?_;rw[lj,lj];apply aa.sq aC fw [2,3,5,63,64,65];simp[acD,amO];refine aa.to ⟨DM.look [(2,.ptr 1003 0),(5,.ptr 1255 0)],cJ [(1003,.box [.v (ti 0),.aX,.aX]),(1255,.box [.v (ti n2),.bC 4500 0,.bC 1275 0]),(1275,.bE 0 3 1 fr),(4500,.bE 0 108 5 (kL (kW al)))],6000,1000,[]⟩ ?_ ?_
   ·apply aa.block;refine aa.loop (λy:Nat=>⟨DM.look [(2,.ptr 1003 0),(3,.ptr 1098 0),(5,.ptr 1255 0),(63,.bC 3166 0),(64,.v (ti al.length)),(65,.v (ti y))],cJ [(1003,.box [.v (ti 0),.aX,.aX]),(1098,.box (du x 1096)),(1096,cV al),(1255,.box [.v (ti n2),.bC 4500 0,.bC 1275 0]),(1275,.bE 0 3 1 fr),(3166,.bE 0 104 3 ks),(4500,.bE 0 108 5 (kL ((ks.take y).map (sg al))))],6000,1000,[]⟩)
     (λy=>y<=al.length) (λy=>al.length-y) 0 (Le.bH ?_ ?_ ?_ ?_) (by simp) (λy hy=>?_)
    ·simp
    ·simp
    ·simp[du,qc,sA,nY,cV,kL]
    ·simp
    apply aa.ag aC fw [2,3,5,63,64,65,66];simp[acE];apply aa.seq;refine aa.cond rfl (λcU=>?_) (λcU=>?_)
    ·simp at cU;apply aa.skip;simp;apply aa.seq;apply aa.block;obtain⟨r,hr⟩:=be (ks[y]'(by omega));obtain⟨a,ha,hak⟩:=auD r (by rw[<-hr];exact SK _);have jH:DM.rowAt ks y=cW a:=by rw[hak,<-hr];simp[DM.rowAt,amO,cU]
     obtain⟨l1,l2,i,l3⟩:=vW ha;have ak7:=Yl (f:=λr=>(sg al r).enc) (by omega) hr;obtain⟨c,hc⟩:=be (sg al (cW a));rw[hc]at l3;rw[<-hak,hc]at ak7;have amP:kL (List.take (y+1) (List.map (sg al) ks))=kL (List.take y (List.map (sg al) ks))++[[ti c.f,ti c.t,ti c.term,ti c.aI,.sl (iz c.ops)]]:=by
      have:=ak7;simp only[kL,Zcx,Zdq]at this⊢;exact this
     simp only[cE.key,keyOf]at l3;apply aa.ag aC fw [2,3,5,10,63,64,65];simp[acF,jH,amO,cU,cW];apply aa.fJ aC fw [2,3,5,63,64,65];simp[acG,du,cV,l3,cE.enc,dR,gn];refine⟨⟨by omega,by omega⟩, ?_⟩;apply aa.fJ aC fw [2,3,5,63,64,65];simp[acH];rw[aF (by omega)];refine⟨y+1,Le.bH ?_ ?_ ?_ ?_,by omega,by omega⟩
     ·simp
     ·simp
     ·simp[qc,sA,nY,amP]
     ·simp
    ·simp at cU;have:y=al.length:=by omega
     subst this;refine aa.exit ⟨rfl,Le.bH ?_ ?_ ?_ ?_⟩
     ·simp
     ·simp
     ·simp[kW,hks];rw[Xd (by simp;omega)]
     ·simp
   ·apply aa.ag aC fw [2];simp[acI];apply aa.ret;have mh:fr=aG (AT x):=by rw[<-w6,<-Ym,<-hn2,<-hn];exact NL x
    simp[acJ,gE,aU.enc,afw,mh,hn];omega
  ·obtain⟨i,hi,rfl⟩:=CW he;have ak8:=KR hi;obtain⟨a,ha⟩:=be (al.getD i default);rw[ha]at ak8;simp only at b7;simp;apply aa.seq;refine aa.cond rfl (λ_=>?_) (λh=>by cases h);apply aa.skip;simp;apply aa.block;apply aa.ag aC fw [2,3,5,7,8,52];simp[acB,cV,ak8,cE.key,keyOf];apply aa.fJ aC fw [2,3,5,7,52];simp[acC,dR,gn];have dN:=BK al.length (l:=i::sn) (by simp[b7,Lu]) (by simp;exact⟨hi,hs2⟩);simp at dN;have afw:mu x=al:=by unfold mu;rw[hn,Ym,oQ]
   rw[afw]at gm;have ha':al[i]?.getD default=a:=ha;refine⟨⟨by omega,by omega⟩,sn++[i],Le.bH ?_ ?_ ?_ ?_,⟨?_, ?_⟩, ?_⟩
   ·simp
   ·simp
   ·simp[du,qc,sA,nY,ha',cW]
   ·simp[aaA,Fa]
   ·rw[Zcl];exact⟨Lu,by simp,by simp;intro q hq e;subst e;exact b7 hq⟩
   ·intro j hj;rw[oi,oO]at hj;rcases hj with h|h
    ·exact hs2 j h
    ·omega
   ·simp;omega
end
open Go.DM
def CX{a b:cE}{l:List cE}(h:b∈(t8 a l).2):b∈l\/b=a:=by
 have key:∀(l:List cE) (p:Bool×List cE),b∈(l.foldl (gO a) p).2->b∈p.2\/b∈l\/b=a:=by
  intro l;induction l with
  |nil=>intro p h;exact .inl h
  |cons c l ih=>
   intro p h;rcases ih _ h with h|h|h
   ·unfold gO at h;split at h
    ·simp only[oi,oO]at h;rcases h with h|h
     ·exact .inl h
     ·split at h
      ·exact .inr (.inr h)
      ·exact .inr (.inl (by simp[h]))
    ·split at h
     ·simp only[oi,oO]at h;rcases h with(h|h)|h
      ·exact .inl h
      ·exact .inr (.inr h)
      ·exact .inr (.inl (by simp[h]))
     ·simp only[oi,oO]at h;rcases h with h|h
      ·exact .inl h
      ·exact .inr (.inl (by simp[h]))
   ·exact .inr (.inl (by simp[h]))
   ·exact .inr (.inr h)
 rcases key l (false,[]) h with h|h|h
 ·simp at h
 ·exact .inl h
 ·exact .inr h
def adi{a b:cE}{l:List cE}(h:b∈yT l a):b∈l\/b=a:=by
 unfold yT at h;split at h
 ·exact .inl h
 ·split at h
  ·exact CX h
  ·rw[oi,oO]at h;rcases h with h|h
   ·exact CX h
   ·exact .inr h
def yi{b:cE}:∀(cs l:List cE),b∈lE l cs->b∈l\/b∈cs
 |[],l,h=>.inl h
 |c::cs,l,h=>by
  rcases yi cs (yT l c) h with h|h
  ·rcases adi h with h|h
   ·exact .inl h
   ·exact .inr (by simp[h])
  ·exact .inr (by simp[h])
def gU{α:Type}{f:Nat->List α}{i m:Nat}{a:α}(h:a∈ft f i m):∃k,i<=k/\k<m/\a∈f k:=by
 unfold ft at h;obtain⟨e,he,ha⟩:=Ln.1 h;rw[I4]at he;exact⟨i+e,by omega,by omega,ha⟩
def afC(n:Nat)(a:cE):Prop:=0<=a.f/\a.f<(2*n+1:Nat)/\0<=a.t/\a.t<(2*n+1:Nat)/\a.ops.length<=1000000/\0<=a.aI
def GL(n:Nat):(gR n).length=n:=by simp[gR]
def Kz{x:Input}(hx:Qa x)(hn:x.aw.length<=60):∀a∈jM x,afC x.aw.length a:=by
 obtain⟨hd,oT,auy,amH,arW,OV⟩:=hx;have hdb:=iu hd;intro a ha;unfold jM at ha;rcases yi _ _ ha with ha|ha
 ·rcases yi _ _ ha with ha|ha
  ·cases ha
  ·obtain⟨i,_,hi,ha⟩:=gU ha;unfold rI at ha;rcases oi.1 ha with ha|ha
   ·obtain⟨m,O3,Pr,ha⟩:=gU ha;unfold rM at ha;rcases oi.1 ha with ha|ha
    ·obtain⟨t,_,ht,ha⟩:=gU ha;unfold rA at ha;split at ha
     ·rename_i hc;rw[oO]at ha;subst ha;have:=zK (hdb i m).1 hc.2;refine⟨by simp only;omega,by simp only;omega,by simp only;omega,by simp only;omega,by simp[GL];omega,this⟩
     ·cases ha
    ·unfold rS at ha;split at ha
     ·rename_i hc;have Zf:m+1<x.aw.length:=by simp[dn]at hc;exact hc.1
      rw[oO]at ha;subst ha;have:=zK (hdb i m).1 arW;refine⟨by simp only;omega,by simp only;omega,by simp only;omega,by simp only;omega,by simp[GL];omega,this⟩
     ·cases ha
   ·unfold rT at ha;split at ha
    ·rename_i hc;have Zf:i+1<x.aw.length:=by simp[dn]at hc;exact hc.1
     rw[oO]at ha;subst ha;refine⟨by simp only;omega,by simp only;omega,by simp only;omega,by simp only;omega,by simp,by simp⟩
    ·cases ha
 ·obtain⟨i,_,hi,ha⟩:=gU ha;unfold iI at ha;obtain⟨m,O3,Pr,ha⟩:=gU ha;unfold iM at ha;obtain⟨t,_,ht,ha⟩:=gU ha;unfold iT at ha;rw[oO]at ha;subst ha;have:=zK (hdb i m).1 (amH (x.insert.getD t default) (by simp[List.getD,ht])).1;refine⟨by simp only;omega,by simp only;omega,by simp only;omega,by simp only;omega,by simp[GL];omega,this⟩
def Qb(x:Input)(k:Nat):(AU x k).length=2*x.aw.length+1:=by simp[AU]
def CO{x:Input}(ht:x.insert.length<=100)(hn:x.aw.length<=60):(jM x).length<=900000:=by
 unfold jM;have h1:=GK (ft (iI x) 0 (x.aw.length+1)) (lE [] (ft (rI x) 0 (x.aw.length+1)));have h2:=GK (ft (rI x) 0 (x.aw.length+1)) [];have h3:=BN (f:=iI x) (B:=7000) (λk=>am5 x k ht hn) 0 (x.aw.length+1);have h4:=BN (f:=rI x) (B:=7000) (λk=>am3 x k ht hn) 0 (x.aw.length+1);simp at h2;omega
section
variable{al:List cE}
def g8{a b:cE}:bj a b=true↔a.f=b.f/\a.t=b.t/\a.term=b.term:=by simp[bj]
def I0(a:cE):bj a a=true:=by simp[bj]
def mr(a b:cE):bj a b=bj b a:=by
 simp only[bj,decide_eq_decide];omega
def ta{a b:cE}(h:bj a b=true)(k:cE):bj k a=bj k b:=by
 rw[g8]at h;simp only[bj,decide_eq_decide];omega
def before_irrefl(a:cE):¬cR a a:=by unfold cR;omega
def before_trans{a b c:cE}(h:cR a b)(h2:cR b c):cR a c:=by unfold cR at*;omega
def I1{a b:cE}(h:cR a b):¬cR b a:=by unfold cR at*;omega
def Eh{a b:cE}(h:cR a b):bj a b=false:=by
 cases e:bj a b with
 |false=>rfl
 |true=>rw[g8]at e;unfold cR at h;omega
def Ei{a b:cE}(h1:bj a b=false)(h2:¬cR a b):cR b a:=by
 have:¬(a.f=b.f/\a.t=b.t/\a.term=b.term):=λe=>by rw[g8.2 e]at h1;cases h1
 unfold cR at*;omega
def LD{a b c:cE}(h:bj a b=true)(h2:cR a c):cR b c:=by
 rw[g8]at h;unfold cR at*;omega
def uY(k:cE)(o:Option cE)(a:cE):Option cE:=
 if a.aI<1099511627776/\bj k a=true then
  match o with
  |none=>some a
  |some b=>if a.aI<b.aI then some a else some b
 else o
def Pg(a:cE):List cE->List cE
 |[]=>[a]
 |b::l=>if bj a b=true then(if a.aI<b.aI then a else b)::l else b::Pg a l
def ael{a:cE}(h:a.aI<1099511627776)(al:List cE):xC al a=Pg a al:=by
 unfold xC;rw[cF h];induction al with
 |nil=>simp[Pg]
 |cons b l ih=>
  rw[Y8];unfold Pg;cases e:bj a b with
  |true=>simp;split<;>rfl
  |false=>
   simp;rw[<-ih];cases hf:l.findIdx? (bj a)with
   |none=>simp
   |some i=>simp;split<;>rfl
def HH(k a:cE):∀l:List cE,(Pg a l).find? (bj k)=if bj k a=true then(match l.find? (bj k)with|none=>some a|some b=>if a.aI<b.aI then some a else some b)else l.find? (bj k)
 |[]=>by unfold Pg;rw[LF];cases bj k a<;>simp
 |b::l=>by
  unfold Pg;split
  ·rename_i e;have h1:=ta e k;have h2:bj k (if a.aI<b.aI then a else b)=bj k b:=by split<;>simp[h1]
   rw[LF,LF,h2,h1];cases h3:bj k b with
   |true=>simp;split<;>rfl
   |false=>simp
  ·rename_i e;rw[LF,LF];cases h3:bj k b with
   |true=>
    have:bj k a=false:=by
     cases h4:bj k a with
     |false=>rfl
     |true=>
      exfalso;apply e;rw[g8]at h3 h4⊢;omega
    simp[this]
   |false=>simp only[];exact HH k a l
def LG(k:cE)(cs:List cE):∀al:List cE,(cS al cs).find? (bj k)=cs.foldl (uY k) (al.find? (bj k)):=by
 induction cs with
 |nil=>intro al;rfl
 |cons c cs ih=>
  intro al;show(cS (xC al c) cs).find? (bj k)=_;rw[ih,Ca]
  congr 1
  by_cases hc:c.aI<1099511627776
  ·rw[ael hc,HH];unfold uY;simp[hc]
  ·unfold xC uY;rw[aZ hc,aZ (λe=>hc e.1)]
def yR(a:cE):List cE->List cE
 |[]=>[a]
 |b::l=>if bj b a=true then(if a.aI<b.aI then a else b)::l else if cR a b then a::b::l else b::yR a l
def yS(a:cE)(l gr:List cE):l.foldl (gO a) (true,gr)=(true,gr++l):=by
 induction l generalizing gr with
 |nil=>simp
 |cons b l ih=>simp only[Ca,gO];simp[ih]
def I2(a:cE)(p:Bool×List cE):List cE:=if p.1=true then p.2 else p.2++[a]
def Cb(a:cE):∀(l gr:List cE),I2 a (l.foldl (gO a) (false,gr))=gr++yR a l
 |[],gr=>by simp[yR,I2]
 |b::l,gr=>by
  rw[Ca];unfold yR;by_cases h1:bj b a=true
  ·have:gO a (false,gr) b=(true,gr++[if a.aI<b.aI then a else b]):=by simp[gO,h1]
   rw[this,yS];simp[h1,I2]
  ·by_cases h2:cR a b
   ·have:gO a (false,gr) b=(true,gr++[a]++[b]):=by simp[gO,h1,h2]
    rw[this,yS];simp[h1,h2,I2]
   ·have:gO a (false,gr) b=(false,gr++[b]):=by simp[gO,h1,h2]
    rw[this,Cb a l];simp[h1,h2]
def Sd{a:cE}(h:a.aI<1099511627776)(l:List cE):yT l a=yR a l:=by
 unfold yT;rw[aZ (by omega)];have:=Cb a l [];simp only[yN]at this;exact this
def LH{a c:cE}:∀{l:List cE},c∈yR a l->c=a\/c∈l
 |[],h=>by simp[yR]at h;exact .inl h
 |b::l,h=>by
  unfold yR at h;split at h
  ·rcases fN.1 h with h|h
   ·split at h
    ·exact .inl h
    ·exact .inr (by simp[h])
   ·exact .inr (by simp[h])
  ·split at h
   ·rcases fN.1 h with h|h
    ·exact .inl h
    ·exact .inr h
   ·rcases fN.1 h with h|h
    ·exact .inr (by simp[h])
    ·rcases LH h with h|h
     ·exact .inl h
     ·exact .inr (by simp[h])
def Cc{a:cE}:∀{l:List cE},l.Pairwise cR->(yR a l).Pairwise cR
 |[],_=>by simp[yR]
 |b::l,h=>by
  rw[Ph]at h;unfold yR;split
  ·rename_i e;rw[Ph];refine⟨λc hc=>?_,h.2⟩;split
   ·exact LD e (h.1 c hc)
   ·exact h.1 c hc
  ·rename_i e;split
   ·rename_i e2;rw[Ph];refine⟨λc hc=>?_,Ph.2 h⟩;rcases fN.1 hc with rfl|hc
    ·exact e2
    ·exact before_trans e2 (h.1 c hc)
   ·rename_i e2;rw[Ph];refine⟨λc hc=>?_,Cc h.2⟩;rcases LH hc with rfl|hc
    ·exact Ei (by rw[mr];simpa using e) e2
    ·exact h.1 c hc
def HI(k a:cE):∀l:List cE,l.Pairwise cR->(yR a l).find? (bj k)=if bj k a=true then(match l.find? (bj k)with|none=>some a|some b=>if a.aI<b.aI then some a else some b)else l.find? (bj k)
 |[],_=>by unfold yR;rw[LF];cases bj k a<;>simp
 |b::l,h=>by
  rw[Ph]at h;unfold yR;split
  ·rename_i e;rw[mr]at e;have h1:=ta e k;have h2:bj k (if a.aI<b.aI then a else b)=bj k b:=by split<;>simp[h1]
   rw[LF,LF,h2,h1];cases h3:bj k b with
   |true=>simp;split<;>rfl
   |false=>simp
  ·rename_i e;split
   ·rename_i e2;rw[LF];cases h3:bj k a with
    |true=>
     have:(b::l).find? (bj k)=none:=by
      rw[Zdj];intro c hc hk;have hb:cR a c:=by
       rcases fN.1 hc with rfl|hc
       ·exact e2
       ·exact before_trans e2 (h.1 c hc)
      have:=Eh hb;rw[g8]at h3 hk;rw[g8.2 (by omega)]at this;cases this
     rw[this];rfl
    |false=>rfl
   ·rename_i e2;rw[LF,LF];cases h3:bj k b with
    |true=>
     have:bj k a=false:=by
      cases h4:bj k a with
      |false=>rfl
      |true=>
       exfalso;apply e;rw[g8]at h3 h4⊢;omega
     simp[this]
    |false=>simp only[];exact HI k a l h.2
def Cd{l:List cE}(h:l.Pairwise cR)(a:cE):(yT l a).Pairwise cR:=by
 by_cases hc:a.aI<1099511627776
 ·rw[Sd hc];exact Cc h
 ·unfold yT;rw[cF (by omega)];exact h
def wW(cs:List cE):∀{al:List cE},al.Pairwise cR->(lE al cs).Pairwise cR:=by
 induction cs with
 |nil=>intro al h;exact h
 |cons c cs ih=>intro al h;exact ih (Cd h c)
def Ce(k:cE)(cs:List cE):∀{al:List cE},al.Pairwise cR->(lE al cs).find? (bj k)=cs.foldl (uY k) (al.find? (bj k)):=by
 induction cs with
 |nil=>intro al h;rfl
 |cons c cs ih=>
  intro al h;show(lE (yT al c) cs).find? (bj k)=_;rw[ih (Cd h c),Ca]
  congr 1
  by_cases hc:c.aI<1099511627776
  ·rw[Sd hc,HI k c al h];unfold uY;simp[hc]
  ·unfold yT uY;rw[cF (by omega),aZ (λe=>hc e.1)]
def se:∀{l:List cE},l.Pairwise (λa b=>bj a b=false)->∀a,a∈l↔l.find? (bj a)=some a
 |[],_,a=>by simp
 |b::l,h,a=>by
  rw[Ph]at h;rw[LF,fN];cases e:bj a b with
  |true=>
   simp only[cu];constructor
   ·rintro(h2|h2)
    ·exact h2.symm
    ·have:=h.1 a h2;rw[mr,e]at this;cases this
   ·exact λh2=>.inl h2.symm
  |false=>
   rw[<-se h.2 a];constructor
   ·rintro(h2|h2)
    ·subst h2;rw[I0]at e;cases e
    ·exact h2
   ·exact .inr
def Ej:∀{l1 l2:List cE},l1.Pairwise cR->l2.Pairwise cR->(∀a,a∈l1↔a∈l2)->l1=l2
 |[],[],_,_,_=>rfl
 |[],b::t,_,_,h=>eB ((h b).2 (by simp)) (by simp)
 |a::t,[],_,_,h=>eB ((h a).1 (by simp)) (by simp)
 |a::t1,b::t2,h1,h2,h=>by
  rw[Ph]at h1 h2;have e:a=b:=by
   have ha:=(h a).1 (by simp);have hb:=(h b).2 (by simp);rcases fN.1 ha with ha|ha
   ·exact ha
   ·rcases fN.1 hb with hb|hb
    ·exact hb.symm
    ·exact eB (h1.1 b hb) (I1 (h2.1 a ha))
  subst e
  congr 1
  refine Ej h1.2 h2.2 λx=>?_;constructor
  ·intro hx;rcases fN.1 ((h x).1 (by simp[hx]))with e|e
   ·subst e;exact eB (h1.1 x hx) (before_irrefl x)
   ·exact e
  ·intro hx;rcases fN.1 ((h x).2 (by simp[hx]))with e|e
   ·subst e;exact eB (h2.1 x hx) (before_irrefl x)
   ·exact e
def Cf{l:List cE}(h:l.Pairwise cR):l.Pairwise (λa b=>bj a b=false):=h.imp Eh
def xD{l:List cE}(h:(l.map cW).Nodup):l.Pairwise (λa b=>bj a b=false):=by
 unfold List.Nodup at h;rw[ZcW]at h;refine h.imp λ{a b} Xa=>?_;cases e:bj a b with
 |false=>rfl
 |true=>exact eB (te.2 e) Xa
def HJ{α:Type}(lt:α->α->Bool)(x:α):∀l:List α,(sf lt x l).Perm (x::l)
 |[]=>Zdy _
 |y::ys=>by
  simp only[sf];split
  ·exact((HJ lt x ys).cons y).trans (List.Perm.swap x y ys)
  ·exact Zdy _
def LI{α:Type}(lt:α->α->Bool)(l:List α):(kV lt l).Perm l:=by
 have key:∀(l gr:List α),(l.foldl (λgr x=>sf lt x gr) gr).Perm (l++gr):=by
  intro l;induction l with
  |nil=>intro gr;exact Zdy _
  |cons x l ih=>
   intro gr;rw[Ca];refine(ih _).trans ?_;refine((HJ lt x gr).append_left l).trans ?_;exact List.perm_middle
 unfold kV Ek;refine(List.reverse_perm _).trans ?_;simpa using key l []
def xE(h:(al.map cW).Nodup){a:cE}(ha:a∈al):sg al (cW a)=a:=by
 have h1:=(vW ha).1;have h2:=(vW ha).2.1;have h3:=(se (xD h) a).1 ha;have h4:=(se (xD h) _).1 h2;have e:bj (sg al (cW a))=bj a:=by
  funext b;rw[mr _ b,mr _ b];exact(ta h1 b).symm
 rw[e,h3]at h4;exact(Zb9 h4).symm
def I3(h:(al.map cW).Nodup)(a:cE):a∈kW al↔a∈al:=by
 unfold kW;rw[g9];constructor
 ·rintro⟨r,hr,rfl⟩;rw[vX]at hr;obtain⟨b,hb,rfl⟩:=g9.1 hr;exact(vW hb).2.1
 ·intro ha;exact⟨cW a,by rw[vX];exact g9.2 ⟨a,ha,rfl⟩,xE h ha⟩
def C6(h:(al.map cW).Nodup):(kW al).Pairwise cR:=by
 unfold kW;rw[ZcW];have h1:(kV (AR fz) (al.map cW)).Nodup:=(LI _ _).symm.nodup h;have h2:=tf LJ (al.map cW);unfold xF at h2;unfold List.Nodup at h1;refine(h1.and h2).imp_of_mem λ{r s} hr hs nw=>?_;rw[vX]at hr hs;obtain⟨a,ha,rfl⟩:=g9.1 hr;obtain⟨b,hb,rfl⟩:=g9.1 hs;rw[xE h ha,xE h hb];have h3:bj a b=false:=by
  cases e:bj a b with
  |false=>rfl
  |true=>exact eB (te.2 e) nw.1
 by_cases gm:cR a b
 ·exact gm
 ·exfalso;have h4:=Ei h3 gm;have h5:=nw.2;rw[vY]at h5;apply h5;simp only[cW,kX,dL,lt3,List.getD_cons_zero,ZcL];exact h4
end
section
variable{aI:Int}{ops:List (Int×Int)}
def pK(k a:cE):Bool:=bj k a&&decide (a.aI<1099511627776)
def Cg(k:cE)(cs:List cE):∀o,cs.foldl (uY k) o=(cs.filter (pK k)).foldl (uY k) o:=by
 induction cs with
 |nil=>intro o;rfl
 |cons c cs ih=>
  intro o;rw[Ca,OU,ih];split
  ·rfl
  ·rename_i h
   congr 1
   unfold uY;rw[aZ];rintro⟨h1,h2⟩;apply h;simp[pK,h1,h2]
def uZ{α β:Type}(p:β->Bool)(f:α->List β)(l:List α):(l.flatMap f).filter p=l.flatMap λa=>(f a).filter p:=by
 induction l with
 |nil=>rfl
 |cons a l ih=>simp[Zz,Y9,ih]
def ny{p:cE->Bool}{f:Nat->List cE}{i:Nat}(k0:Nat)(h:∀k,k≠k0->(f k).filter p=[]):∀m,(ft f i m).filter p=if i<=k0/\k0<m then(f k0).filter p else []:=by
 intro m;by_cases him:m<=i
 ·rw[show ft f i m=[]by unfold ft;rw[show m-i=0 by omega];rfl,aZ (by omega)];rfl
 obtain⟨d,rfl⟩:∃d,m=i+d:=⟨m-i,by omega⟩;clear him;induction d with
 |zero=>rw[ZA,alu,aZ (by omega)];rfl
 |succ d ih=>
  rw[<-Nat.add_assoc,aem f (by omega),Y9,ih];by_cases e:i+d=k0
  ·rw[aZ (by omega),cF (by omega),e];rfl
  ·rw[h _ e];by_cases e2:i<=k0/\k0<i+d
   ·rw[cF e2,cF (by omega)];simp
   ·rw[aZ e2,aZ (by omega)];rfl
def dV{p:cE->Bool}{l:List cE}(h:∀a∈l,p a=false):l.filter p=[]:=by
 rw[List.filter_eq_nil_iff];intro a ha;simp[h a ha]
def mt{k a:cE}(h:¬(k.f=a.f/\k.t=a.t/\k.term=a.term)):pK k a=false:=by
 have:bj k a=false:=by
  cases e:bj k a with
  |false=>rfl
  |true=>exact eB (g8.1 e) h
 simp[pK,this]
def Pi{k:cE}{f t x c d:Int}{o:List (Int×Int)}(hc:0<=c)(hd:0<=d):[(⟨f,t,x,c+d,o⟩:cE)].filter (pK k)=[(⟨f,t,x,AS c d,o⟩:cE)].filter (pK k):=by
 by_cases h:c+d<1099511627776
 ·have:AS c d=c+d:=by unfold AS;rw[aZ (by omega)]
  rw[this]
 ·have:AS c d=1099511627776:=by unfold AS;rw[cF (by omega)]
  rw[this];have h1:pK k ⟨f,t,x,c+d,o⟩=false:=by simp[pK,h]
  have h2:pK k ⟨f,t,x,1099511627776,o⟩=false:=by simp[pK]
  simp[h1,h2]
def HK{read:bT}{i m:Int}{n:Nat}{a:cE}(h:a∈mZ read i m aI ops n):∃t:Nat,t<n/\0<=read.getD t 0/\a=⟨2*i,2*m+2,t,aI+read.getD t 0,ops++[(1,(t:Int))]⟩:=by
 unfold mZ at h;rw[Ln]at h;obtain⟨t,ht,h⟩:=h;rw[I4]at ht;split at h
 ·rw[oO]at h;exact⟨t,ht,by assumption,h⟩
 ·simp at h
def ZB{ci:bT}{i m:Int}{n:Nat}{a:cE}(h:a∈u0 ci i m aI ops n):∃t:Nat,t<n/\a=⟨2*i,2*m,(t:Int),aI+ci.getD t 0,ops++[(3,(t:Int))]⟩:=by
 unfold u0 at h;rw[g9]at h;obtain⟨t,ht,h⟩:=h;rw[I4]at ht;exact⟨t,ht,h.symm⟩
def El(x:Input)(i m:Nat):List cE:=if dn x m then [⟨2*i,2*m+1,(x.aw.getD (m+1) default).kind,pj x i m+x.swap,gR (m-i)++[(4,0)]⟩]else []
def HL{x:Input}{i m:Nat}{a:cE}(h:a∈El x i m):dn x m=true/\a=⟨2*i,2*m+1,(x.aw.getD (m+1) default).kind,pj x i m+x.swap,gR (m-i)++[(4,0)]⟩:=by
 unfold El at h;split at h
 ·exact⟨by assumption,by simpa using h⟩
 ·simp at h
def ZC{x:Input}{i m:Nat}{a:cE}(h:a∈rS x i m):dn x m=true/\a.f=2*i/\a.t=2*m+1:=by
 unfold rS at h;split at h
 ·simp at h;subst h;exact⟨by assumption,rfl,rfl⟩
 ·simp at h
def I5{x:Input}{i:Nat}{a:cE}(h:a∈rT x i):dn x i=true/\a=⟨2*i+1,2*i+4,(x.aw.getD i default).kind,0,[]⟩:=by
 unfold rT at h;split at h
 ·exact⟨by assumption,by simpa using h⟩
 ·simp at h
def Pj{x:Input}{i m t:Nat}{a:cE}(h:a∈rA x i m t):m<x.aw.length/\a.f=2*i/\a.t=2*m+2/\a.term=t:=by
 unfold rA at h;split at h
 ·rename_i h2;simp at h;subst h;exact⟨h2.1,rfl,rfl,rfl⟩
 ·simp at h
def alv{x:Input}{i m t:Nat}{a:cE}(h:a∈iT x i m t):a.f=2*i/\a.t=2*m/\a.term=t:=by
 simp[iT]at h;subst h;exact⟨rfl,rfl,rfl⟩
def LK(x:Input)(i:Nat):u4 x i=ft (uq x i) i (x.aw.length+1)++rT x i:=rfl
def Xb{x:Input}{i m:Nat}{a:cE}(h:a∈uq x i m):(i<m/\a∈Ch x i (m-1))\/a∈u0 x.insert i m (pj x i m) (gR (m-i)) x.insert.length\/a∈El x i m:=by
 unfold uq at h;rw[oi,oi]at h;rcases h with h|h|h
 ·split at h
  ·exact .inl ⟨by assumption,h⟩
  ·simp at h
 ·exact .inr (.inl h)
 ·exact .inr (.inr h)
def I6{x:Input}{i m:Nat}{a:cE}(h:a∈uq x i m):a.f=2*i/\(a.t=2*m\/a.t=2*m+1):=by
 rcases Xb h with⟨h1,h⟩|h|h
 ·obtain⟨t,_,_,rfl⟩:=HK h;exact⟨rfl,.inl (by simp only;omega)⟩
 ·obtain⟨t,_,rfl⟩:=ZB h;exact⟨rfl,.inl rfl⟩
 ·obtain⟨_,rfl⟩:=HL h;exact⟨rfl,.inr rfl⟩
def aen{x:Input}{i:Nat}{a:cE}(h:a∈u4 x i):a.f=2*i\/a.f=2*i+1:=by
 rw[LK,oi]at h;rcases h with h|h
 ·obtain⟨m,_,_,h⟩:=gU h;exact .inl (I6 h).1
 ·obtain⟨_,rfl⟩:=I5 h;exact .inr rfl
def aeo{x:Input}{i m:Nat}{a:cE}(h:a∈rM x i m):a.f=2*i/\(a.t=2*m+2/\m<x.aw.length\/a.t=2*m+1):=by
 unfold rM at h;rw[oi]at h;rcases h with h|h
 ·obtain⟨t,_,_,h⟩:=gU h;have:=Pj h;exact⟨this.2.1,.inl ⟨this.2.2.1,this.1⟩⟩
 ·have:=ZC h;exact⟨this.2.1,.inr this.2.2⟩
def aty{x:Input}{i:Nat}{a:cE}(h:a∈rI x i):a.f=2*i\/a.f=2*i+1:=by
 unfold rI at h;rw[oi]at h;rcases h with h|h
 ·obtain⟨m,_,_,h⟩:=gU h;exact .inl (aeo h).1
 ·obtain⟨_,rfl⟩:=I5 h;exact .inr rfl
def aep{x:Input}{i m:Nat}{a:cE}(h:a∈iM x i m):a.f=2*i/\a.t=2*m:=by
 unfold iM at h;obtain⟨t,_,_,h⟩:=gU h;have:=alv h;exact⟨this.1,this.2.1⟩
def atz{x:Input}{i:Nat}{a:cE}(h:a∈iI x i):a.f=2*i:=by
 unfold iI at h;obtain⟨m,_,_,h⟩:=gU h;exact(aep h).1
def nnX(x:Input):Prop:=(∀p∈x.insert,0<=p)/\0<=x.swap
def LL{x:Input}(hn:nnX x)(hd:ur x.aw)(k:cE)(i m:Nat):(El x i m).filter (pK k)=(rS x i m).filter (pK k):=by
 unfold El rS;split
 ·exact Pi (iu hd i m).1 hn.2
 ·rfl
def LM{x:Input}(hd:ur x.aw)(hr:∀c∈x.aw,c.read.length=x.insert.length)(k:cE){i m:Nat}(hm:m<x.aw.length):(Ch x i m).filter (pK k)=(ft (rA x i m) 0 x.insert.length).filter (pK k):=by
 have hc:(x.aw.getD m default).read.length=x.insert.length:=hr _ (by simp[List.getD,hm]);unfold Ch mZ ft;rw[hc,uZ,uZ,Zcq]
 congr 1
 funext t;rw[Lo];unfold rA Pk;have alw:(default:Int)=0:=rfl;rw[alw];by_cases h:0<=(x.aw.getD m default).read.getD t 0
 ·rw[cF h,cF ⟨hm,h⟩];exact Pi (iu hd i m).1 h
 ·rw[aZ h,aZ (λe=>h e.2)]
def Em{x:Input}(hn:nnX x)(hd:ur x.aw)(k:cE)(i m:Nat):(u0 x.insert i m (pj x i m) (gR (m-i)) x.insert.length).filter (pK k)=(iM x i m).filter (pK k):=by
 unfold u0 iM ft;rw[uZ,Zcq];have:∀l:cQ,(∀t∈l,t<x.insert.length)->(l.map λ(t:Nat)=>(⟨2*i,2*m,(t:Int),pj x i m+x.insert.getD t 0,gR (m-i)++[(3,(t:Int))]⟩:cE)).filter (pK k)=l.flatMap λt=>(iT x i m (0+t)).filter (pK k):=by
  intro l;induction l with
  |nil=>intro _;rfl
  |cons t l ih=>
   intro ht;rw[qD,Zz,<-ih λt h=>ht t (by simp[h])];have e:iT x i m (0+t)=[⟨2*i,2*m,t,AS (pj x i m) (x.insert.getD t default),gR (m-i)++[(3,(t:Int))]⟩]:=by rw[Lo];rfl
   have I7:=ht t (by simp);have hp:0<=x.insert.getD t 0:=hn.1 _ (by simp[List.getD,I7]);rw[e,<-List.singleton_append (l:=List.map _ l),Y9]
   congr 1
   exact Pi (iu hd i m).1 hp
 exact this _ λt ht=>I4.1 ht
def Pm{x:Input}(hn:nnX x)(hd:ur x.aw)(hr:∀c∈x.aw,c.read.length=x.insert.length)(k:cE):
  (yU x (x.aw.length+1)).filter (pK k)=(ft (rI x) 0 (x.aw.length+1)++ft (iI x) 0 (x.aw.length+1)).filter (pK k):=by
 have e1:yU x (x.aw.length+1)=ft (u4 x) 0 (x.aw.length+1):=by simp[yU,ft]
 obtain⟨n,hN⟩:=be x.aw.length;rw[e1,Y9];have out:∀(f:Nat->List cE),(∀i,∀a∈f i,a.f=2*i\/a.f=2*i+1)->∀j,j≠(k.f/2).toNat->(f j).filter (pK k)=[]:=by
  intro f hf j hj;refine dV λa ha=>mt λe=>hj ?_;have:=hf j a ha;omega
 rw[ny _ (out _ λi a=>aen),ny _ (out _ λi a=>aty),ny _ (out _ λi a h=>.inl (atz h))];obtain⟨i,hi⟩:=be ((k.f/2).toNat);rw[hi];by_cases ut:0<=i/\i<x.aw.length+1
 case neg=>rw[aZ ut,aZ ut,aZ ut];rfl
 rw[cF ut,cF ut,cF ut];rw[LK];unfold rI iI;rw[Y9,Y9];by_cases avw:k.f=2*i
 case neg=>
  have h1:(ft (uq x i) i (x.aw.length+1)).filter (pK k)=[]:=dV λa ha=>mt λe=>by
   obtain⟨m,_,_,h⟩:=gU ha;have:=(I6 h).1;omega
  have h2:(ft (rM x i) i (x.aw.length+1)).filter (pK k)=[]:=dV λa ha=>mt λe=>by
   obtain⟨m,_,_,h⟩:=gU ha;have:=(aeo h).1;omega
  have h3:(ft (iM x i) i (x.aw.length+1)).filter (pK k)=[]:=dV λa ha=>mt λe=>by
   obtain⟨m,_,_,h⟩:=gU ha;have:=(aep h).1;omega
  rw[h1,h2,h3];simp
 have hT:(rT x i).filter (pK k)=[]:=dV λa ha=>mt λe=>by
  obtain⟨_,rfl⟩:=I5 ha;simp only at e;omega
 rw[hT,vZ,vZ];have aoK:∀m,m≠(k.t/2).toNat->(uq x i m).filter (pK k)=[]:=λm hm=>dV λa ha=>mt λe=>by
  have:=(I6 ha).2;omega
 have aoL:∀m,m≠(k.t/2).toNat->(iM x i m).filter (pK k)=[]:=λm hm=>dV λa ha=>mt λe=>by
  have:=(aep ha).2;omega
 rw[ny _ aoK,ny _ aoL];obtain⟨m,hm⟩:=be ((k.t/2).toNat);rw[hm]at aoK aoL⊢;have agr:(uq x i m).filter (pK k)=(if i<m then Ch x i (m-1)else []).filter (pK k)++((u0 x.insert i m (pj x i m) (gR (m-i)) x.insert.length).filter (pK k)++(El x i m).filter (pK k)):=by
  rw[<-List.filter_append,<-List.filter_append];rfl
 by_cases hev:k.t=2*m
 ·
  have OV:(El x i m).filter (pK k)=[]:=dV λa ha=>mt λe=>by
   obtain⟨_,rfl⟩:=HL ha;simp only at e;omega
  have alx:∀j,j≠(if m=0 then n+1 else m-1)->(rM x i j).filter (pK k)=[]:=λj hj=>dV λa ha=>mt λe=>by
   have:=(aeo ha).2;split at hj<;>omega
  rw[ny _ alx,agr,OV,vZ,Em hn hd k i m];by_cases hm0:m=0
  ·rw[cF hm0];have h5:¬(i<=n+1/\n+1<x.aw.length+1):=by omega
   have h6:¬i<m:=by omega
   rw[aZ h5,aZ h6];simp
  ·rw[aZ hm0];obtain⟨q,rfl⟩:∃q,m=q+1:=⟨m-1,by omega⟩;rw[ZcQ];have hrM:(rM x i q).filter (pK k)=(ft (rA x i q) 0 x.insert.length).filter (pK k):=by
    have:(rS x i q).filter (pK k)=[]:=dV λa ha=>mt λe=>by
     have:=(ZC ha).2.2;omega
    unfold rM;rw[Y9,this,vZ]
   by_cases hq:q<x.aw.length
   ·by_cases hiq:i<q+1
    ·rw[cF hiq,cF ⟨by omega,by omega⟩,cF ⟨by omega,by omega⟩,hrM,LM hd hr k hq];rw[cF ⟨by omega,by omega⟩]
    ·rw[aZ hiq];by_cases avx:i=q+1
     ·rw[cF ⟨by omega,by omega⟩,aZ (by omega),cF ⟨by omega,by omega⟩];simp
     ·rw[aZ (by omega),aZ (by omega),aZ (by omega)];simp
   ·have hz:(rM x i q).filter (pK k)=[]:=by
     rw[hrM];refine dV λa ha=>?_;obtain⟨t,_,_,h⟩:=gU ha;exact eB (Pj h).1 hq
    rw[hz,aZ (by omega)];have h5:¬(i<=q+1/\q+1<x.aw.length+1):=by omega
    rw[aZ h5];simp
 ·
  have alx:∀j,j≠m->(rM x i j).filter (pK k)=[]:=λj hj=>dV λa ha=>mt λe=>by
   have:=(aeo ha).2;omega
  rw[ny _ alx];have h1:(iM x i m).filter (pK k)=[]:=dV λa ha=>mt λe=>by
   have:=(aep ha).2;omega
  have h2:(u0 x.insert i m (pj x i m) (gR (m-i)) x.insert.length).filter (pK k)=[]:=by rw[Em hn hd,h1]
  have h3:(if i<m then Ch x i (m-1)else []).filter (pK k)=[]:=dV λa ha=>mt λe=>by
   split at ha
   ·obtain⟨t,_,_,rfl⟩:=HK ha;simp only at e;omega
   ·simp at ha
  have h4:(rM x i m).filter (pK k)=(rS x i m).filter (pK k):=by
   have:(ft (rA x i m) 0 x.insert.length).filter (pK k)=[]:=dV λa ha=>mt λe=>by
    obtain⟨t,_,_,h⟩:=gU ha;have:=(Pj h).2.2.1;omega
   unfold rM;rw[Y9,this,yN]
  rw[agr,h1,h2,h3,h4,LL hn hd];simp
def rN(x:Input):((mu x).map cW).Nodup:=yV _ (by simp)
def mw(x:Input):(jM x).Pairwise cR:=wW _ (wW _ List.Pairwise.nil)
def HM{x:Input}(hn:nnX x)(hd:ur x.aw)(hr:∀c∈x.aw,c.read.length=x.insert.length):kW (mu x)=jM x:=by
 refine Ej (C6 (rN x)) (mw x) λa=>?_;rw[I3 (rN x),se (xD (rN x)),se (Cf (mw x))];unfold mu jM;rw[LG,<-wX,Ce _ _ List.Pairwise.nil,Cg,Pm hn hd hr,<-Cg]
def ZD(x:Input):AT x=AU x (2*x.aw.length+1):=by
 unfold AT AU;apply Zbz;intro s hs;rw[I4]at hs;rw[cF hs]
def Pn{x:Input}(hn:nnX x)(hd:ur x.aw)(hr:∀c∈x.aw,c.read.length=x.insert.length):gE x=bf x:=by
 unfold gE bf;rw[HM hn hd hr,ZD]
end
def ZE(k:cE)(cs:List cE):∀o a,cs.foldl (uY k) o=some a->o=some a\/(a∈cs/\a.aI<1099511627776):=by
 induction cs with
 |nil=>intro o a h;exact .inl h
 |cons c cs ih=>
  intro o a h;rw[Ca]at h;rcases ih _ _ h with h|⟨h1,h2⟩
  ·unfold uY at h;split at h
   ·rename_i hc;split at h
    ·simp only[cu]at h;subst h;exact .inr ⟨by simp,hc.1⟩
    ·split at h
     ·simp only[cu]at h;subst h;exact .inr ⟨by simp,hc.1⟩
     ·exact .inl h
   ·exact .inl h
  ·exact .inr ⟨by simp[h1],h2⟩
def Ci{x:Input}{a:cE}(h:a∈jM x):(a∈ft (rI x) 0 (x.aw.length+1)\/a∈ft (iI x) 0 (x.aw.length+1))/\a.aI<1099511627776:=by
 have h1:=(se (Cf (mw x)) a).1 h;unfold jM at h1;rw[<-wX,Ce _ _ List.Pairwise.nil]at h1;rcases ZE _ _ _ _ h1 with h2|⟨h2,h3⟩
 ·cases h2
 ·exact⟨oi.1 h2,h3⟩
def ZF{a b:Int}(ha:0<=a)(hb:1<=b):1<=AS a b:=by unfold AS;split<;>omega
def I8(al:List cE):(kW al).length=al.length:=by simp[kW,yW]
section
variable{α:Type}{ts:aL}
def alb:Ty:=.int .i64
def Yo:maxLen=9223372036854775807:=by decide
def afD{enc:α->aL}{av:List (aL)}(h:∀r∈av,∃x,r=enc x):∃l:List α,av=l.map enc:=by
 induction av with
 |nil=>exact⟨[],rfl⟩
 |cons r av ih=>
  obtain⟨x,rfl⟩:=h r (Zl ..);obtain⟨l,rfl⟩:=ih λr hr=>h r (Zm _ hr);exact⟨x::l,rfl⟩
def mN(h:Ty.qJ (.int .i64) ts):∃x,ts=[ti x]:=by
 simp only[Ty.qJ]at h;obtain⟨x,rfl,_⟩:=h;exact⟨x,rfl⟩
def Ae{enc:α->aL}{e:Ty}(he:∀r,Ty.qJ e r->∃x,r=enc x)(h:Ty.qJ (.slice e) ts):∃l:List α,ts=[.sl (l.map enc)]/\l.length<=9223372036854775807:=by
 simp only[Ty.qJ]at h;obtain⟨av,rfl,hl,hr⟩:=h;obtain⟨l,rfl⟩:=afD λr gS=>he r (hr r gS);rw[Yo,XP]at hl;exact⟨l,rfl,hl⟩
def all_cons{t:Ty}{wN:List Ty}(h:Ty.lH (t::wN) ts):∃a b,ts=a++b/\t.qJ a/\Ty.lH wN b:=by simpa only[Ty.lH]using h
def D1(h:Ty.lH [] ts):ts=[]:=by simpa only[Ty.lH]using h
def adj{fs:List Ty}(h:Ty.qJ (.seq fs) ts):Ty.lH fs ts:=by simpa only[Ty.qJ]using h
def alc:Ty:=.seq [.int .i64,.slice alb,.int .i64]
def D2:Ty:=.seq [.slice alc,.slice alb,.int .i64]
def am6(h:alc.qJ ts):∃r:cP,ts=r.enc:=by
 obtain⟨_,_,rfl,h1,h⟩:=all_cons (adj h);obtain⟨_,_,rfl,h2,h⟩:=all_cons h;obtain⟨_,_,rfl,h3,h⟩:=all_cons h;obtain rfl:=D1 h;obtain⟨a,rfl⟩:=mN h1;obtain⟨l,rfl,hl⟩:=Ae (λr=>mN) h2;obtain⟨c,rfl⟩:=mN h3;exact⟨⟨a,l,c⟩,rfl⟩
def NO{x:T}(h:D2.arg x):∃l:Input,x=l.enc/\l.aw.length<=9223372036854775807/\l.insert.length<=9223372036854775807:=by
 unfold D2 Ty.arg at h;obtain⟨ts,rfl,h⟩:=h;obtain⟨_,_,rfl,h1,h⟩:=all_cons h;obtain⟨_,_,rfl,h2,h⟩:=all_cons h;obtain⟨_,_,rfl,h3,h⟩:=all_cons h;obtain rfl:=D1 h;obtain⟨l,rfl,hl⟩:=Ae (λr=>am6) h1;obtain⟨f,rfl,hf⟩:=Ae (λr=>mN) h2;obtain⟨a,rfl⟩:=mN h3;exact⟨⟨l,f,a⟩,rfl,hl,hf⟩
end
namespace cD
structure dq where
 (kind head a b cA origin:Int)
 deriving DecidableEq,Inhabited
abbrev Dl:=List dq
structure aD where
 (aM ak start:Int)
 au:Dl
structure dg where
 (aI size:Int)
 deriving DecidableEq,Inhabited
abbrev bY:=List dg
structure Cell where
 (aI size rZ arg:Int)
 deriving DecidableEq,Inhabited
abbrev fl:=List Cell
structure dW where
 (ak ba:Int)
 cells:fl
abbrev Cell.val(c:Cell):dg:=⟨c.aI,c.size⟩
def cL:ay aj (bB []):=ay.nil
def dq.enc(r:dq):aL:=[ti r.kind,ti r.head,ti r.a,ti r.b,ti r.cA,ti r.origin]
def aW(l:Dl):List (aL):=l.map dq.enc
def aD.enc(n:aD):T:=.agg [ti n.aM,ti n.ak,ti n.start,.sl (aW n.au)]
def bG(l:bY):List (aL):=l.map λv=>[ti v.aI,ti v.size]
def Cell.enc(c:Cell):aL:=[ti c.aI,ti c.size,ti c.rZ,ti c.arg]
def bR(l:fl):List (aL):=l.map Cell.enc
def dW.enc(c:dW):T:=.agg [ti c.ak,ti c.ba,.sl (bR c.cells)]
def kC:aL->dq
 |[a,b,c,d,e,f]=>⟨dL a,dL b,dL c,dL d,dL e,dL f⟩
 |_=>default
def Gy(l:List (aL)):Dl:=l.map kC
def nX(l:List (aL)):bY:=l.map fun|[a,b]=>⟨dL a,dL b⟩|_=>default
def KA:aL->Cell
 |[a,b,c,d]=>⟨dL a,dL b,dL c,dL d⟩
 |_=>default
def Gz(l:List (aL)):fl:=l.map KA
def Nz:T->aD
 |.agg [a,b,c,.sl r]=>⟨dL a,dL b,dL c,Gy r⟩
 |_=>⟨0,0,0,[]⟩
def QD:T->dW
 |.agg [a,b,.sl r]=>⟨dL a,dL b,Gz r⟩
 |_=>⟨0,0,[]⟩
@[simp] def qU(r:dq):kC r.enc=r:=by simp[kC,dq.enc,dL]
@[simp] def afp(l:Dl):Gy (aW l)=l:=gK qU l
@[simp] def ajC(l:bY):nX (bG l)=l:=gK (λ_=>rfl) l
@[simp] def NA(r:Cell):KA r.enc=r:=by simp[KA,Cell.enc,dL]
@[simp] def afq(l:fl):Gz (bR l)=l:=gK NA l
@[simp] def aoy(a b c:Int)(l:Dl):Nz (.agg [ti a,ti b,ti c,.sl (aW l)])=⟨a,b,c,l⟩:=by simp[Nz,dL]
@[simp] def ary(n:aD):Nz n.enc=n:=by simp[aD.enc]
@[simp] def aoz(a b:Int)(l:fl):QD (.agg [ti a,ti b,.sl (bR l)])=⟨a,b,l⟩:=by simp[QD,dL]
@[simp] def arz(n:dW):QD n.enc=n:=by simp[dW.enc]
@[simp] def amr(l:Dl):(aW l).length=l.length:=by simp[aW]
@[simp] def aoA(l:bY):(bG l).length=l.length:=by simp[bG]
@[simp] def ams(l:fl):(bR l).length=l.length:=by simp[bR]
def lW{l:Dl}{y:Nat}(h:y<l.length):DM.rowAt (aW l) y=(l.getD y default).enc:=by simp[DM.rowAt,aW,h]
def dt{l:bY}{y:Nat}(h:y<l.length):DM.rowAt (bG l) y=[ti (l.getD y default).aI,ti (l.getD y default).size]:=by simp[DM.rowAt,bG,h]
def vI{l:fl}{y:Nat}(h:y<l.length):DM.rowAt (bR l) y=(l.getD y default).enc:=by simp[DM.rowAt,bR,h]
@[simp] def X8:bG []=[]:=rfl
@[simp] def amt:bR []=[]:=rfl
def bu{α:Type} [Inhabited α]{l:List α}{i:Nat}(h:i<l.length):l.getD i default∈l:=by simp[List.getD,h]
def dg.lt(a b:dg):Prop:=a.aI<b.aI\/(a.aI=b.aI/\a.size<b.size)
instance(a b:dg):Decidable (a.lt b):=by unfold dg.lt;infer_instance
def t92(u v:dg):bw aj 97 [.agg [ti u.aI,ti u.size],.agg [ti v.aI,ti v.size]] (.bool (decide (u.lt v))):=by
 obtain⟨a,b⟩:=u;obtain⟨c,d⟩:=v;obtain⟨c1,b8⟩:=be (decide ((⟨a,b⟩:dg).lt ⟨c,d⟩):Bool);rw[b8];simp only[dg.lt]at b8;have aC:=cL;refine c92.ok (by simp) (aT ?_);simp;apply aa.ag aC fw [2,3];simp[agO];refine aa.lk (o:=[]) (l:=[(2,.v (.box [ti a,ti b])),(3,.v (.box [ti c,ti d]))]) (aY:=1200) (by simp) ?_;refine aa.cH aC fw [(4,.v (.bool c1))] ?_ ?_
 ·by_cases q1:a<c
  ·have:c1=true:=by rw[<-b8];simp[q1]
   simp[MI,q1,this]
  ·by_cases q2:a=c
   ·subst q2;by_cases q3:b<d
    ·have:c1=true:=by rw[<-b8];simp[q3]
     simp[MI,q3,this]
    ·have:c1=false:=by rw[<-b8];simp[q3]
     simp[MI,q3,this]
   ·have:c1=false:=by rw[<-b8];simp[q1,q2]
    simp[MI,q1,q2,this]
 apply aa.ret;simp[dm]
def gq:Int->Int->bY->dg
 |c,s,[]=>⟨c,s⟩
 |c,s,v::l=>gq (min (c+v.aI) 1099511627776) (min (s+v.size) 1099511627776) l
def d0(c:Int)(l:bY):dg:=if(gq c 1 l).aI>=1099511627776 then⟨1099511627776,0⟩else gq c 1 l
def GA(c s:Int)(l:bY)(v:dg):gq c s (l++[v])=⟨min ((gq c s l).aI+v.aI) 1099511627776,min ((gq c s l).size+v.size) 1099511627776⟩:=by
 induction l generalizing c s with
 |nil=>rfl
 |cons x l ih=>simp only[C9,gq,ih]
def jI(v:dg):Prop:=0<=v.aI/\v.aI<=1099511627776/\0<=v.size/\v.size<=1099511627776
def vJ{l:bY}(h:∀v∈l,jI v):∀{c s:Int},0<=c->c<=4000000000000->0<=s->s<=1099511627776->0<=(gq c s l).aI/\(gq c s l).aI<=4000000000000/\0<=(gq c s l).size/\(gq c s l).size<=1099511627776:=by
 induction l with
 |nil=>intro c s h1 h2 h3 h4;exact⟨h1,h2,h3,h4⟩
 |cons x l ih=>
  intro c s h1 h2 h3 h4;obtain⟨g1,g2,g3,g4⟩:=h x (by simp);exact ih (λv hv=>h v (by simp[hv])) (by omega) (by omega) (by omega) (by omega)
def jS{c:Int}{l:bY}(h:∀v∈l,jI v)(h1:0<=c)(h2:c<=4000000000000):jI (d0 c l):=by
 have:=vJ (c:=c) (s:=1) h h1 h2 (by omega) (by omega);unfold d0 jI;split
 ·simp
 ·omega
def c8{α:Type} [Inhabited α]{l:List α}{i:Nat}(h:i<l.length):l.take (i+1)=l.take i++[l.getD i default]:=by
 rw[Zb0,w8 h];simp[List.getD,h]
def t69(c:Int)(l:bY)(h:∀v∈l,jI v)(h1:0<=c)(h2:c<=4000000000000)(h3:l.length<=1000000):bw aj 95 [ti c,.sl (bG l)] (.agg [ti (d0 c l).aI,ti (d0 c l).size]):=by
 have aC:=cL;refine c69.ok (by simp) (aT ?_);simp;apply aa.ag aC fw [0,1,4];simp[agP];apply aa.ag aC fw [1,4,5,6];simp[agQ];apply aa.sq aC fw [1,4,5,6,7];simp[agR];apply aa.block;refine aa.loop (λy:Nat=>⟨DM.look [(1,.v (.sl (bG l))),(4,.ptr 1005 0),(5,.v (ti (gq c 1 (l.take y)).aI)),(6,.v (ti (gq c 1 (l.take y)).size)),(7,.v (ti y))],cJ [(1005,.box [.v (ti 0),.v (ti 0)])],2000,1000,[]⟩)
  (λy=>y<=l.length) (λy=>l.length-y) 0 (Le.bH ?_ ?_ ?_ ?_) (by simp) (λy hy=>?_)
 iterate 3(·simp)
 ·simp[gq]
 apply aa.sq aC fw [1,4,5,6,7,12];simp[agS];refine aa.cond rfl (λcU=>?_) (λcU=>?_)
 ·have cU:y<l.length:=by simpa using cU
  apply aa.skip;simp;apply aa.seq;apply aa.block;have rv:=dt cU;obtain⟨v,hv⟩:=be (l.getD y default);rw[hv]at rv;have hov:=h v (by rw[<-hv];exact bu cU);obtain⟨o1,o2,o3,o4⟩:=hov;obtain⟨b1,b2,b3,b4⟩:=vJ (c:=c) (s:=1) (l:=l.take y) (λv hv=>h v (Ew hv)) h1 h2 (by omega) (by omega);apply aa.fJ aC fw [1,4,5,6,7];simp[agT,cU,rv];apply aa.fJ aC fw [1,4,5,6,7];simp[agU];rw[aF (by omega),aF (by omega),aF (by omega)];refine⟨y+1,Le.bH ?_ ?_ ?_ ?_,by omega,by omega⟩;iterate 3(·simp)
  ·simp[c8 cU,GA,-List.getD_eq_getElem?_getD,hv]
 ·have fW:y=l.length:=by simp at cU;omega
  subst fW;rw[ZbX];apply aa.exit;simp;apply aa.sq aC fw [4,5,6,32];simp[agV];refine aa.cond rfl (λh7=>?_) (λh7=>?_)
  ·have h7:(gq c 1 l).aI>=1099511627776:=by simpa using h7
   apply aa.ag aC fw [4];simp[agW];apply aa.ret;simp[Qc,d0,h7]
  ·have h7:¬(gq c 1 l).aI>=1099511627776:=by simpa using h7
   apply aa.skip;simp;apply aa.ag aC fw [4];simp[agX];apply aa.ret;simp[Qc,d0,h7]
def mK:Cell:=⟨1099511627776,0,-1,0⟩
def mM(n s:Int):Int:=n*s*(s+1)/2
def gM{a b A B:Int}(h1:0<=a)(h2:a<=A)(h3:0<=b)(h4:b<=B):0<=a*b/\a*b<=A*B:=by
 refine⟨ZcG h1 h3, ?_⟩;exact Int.mul_le_mul h2 h4 h3 (by omega)
def pre(st:Int):Nat->Int
 |0=>0
 |n+1=>pre st n+st-n
def kD{st:Int}(h:st<=1000):∀n:Nat,(n:Int)<=st->0<=pre st n/\pre st n<=1000*n
 |0,_=>by simp[pre]
 |n+1,hn=>by
  have:=kD h n (by omega);simp only[pre];omega
def eG(n st:Int)(f t:Nat):Int:=(pre st f+t-f)*n
def kB(a:Cell)(v:dg)(r g:Int):Cell:=if v.aI>=1099511627776 then a else if v.lt a.val\/(v=a.val/\(r<a.rZ\/(r=a.rZ/\g<a.arg)))then⟨v.aI,v.size,r,g⟩else a
abbrev s92:DM.Spec:=dh (λts=>∃a b c d,ts=[.agg [ti a,ti b],.agg [ti c,ti d]]) (fun|[.agg [.int _ a,.int _ b],.agg [.int _ c,.int _ d]]=>.bool (decide ((⟨a,b⟩:dg).lt ⟨c,d⟩))|_=>.bool false) true
@[simp] def QE{a b:Dl}:aW a=aW b↔a=b:=⟨λh=>by have:=congrArg Gy h;simpa using this,λh=>by rw[h]⟩
@[simp] def sI{a b:bY}:bG a=bG b↔a=b:=⟨λh=>by have:=congrArg nX h;simpa using this,λh=>by rw[h]⟩
@[simp] def QF{a b:fl}:bR a=bR b↔a=b:=⟨λh=>by have:=congrArg Gz h;simpa using this,λh=>by rw[h]⟩
@[simp] def Ir{a b:bT}:aG a=aG b↔a=b:=⟨λh=>by have:=congrArg lz h;simpa using this,λh=>by rw[h]⟩
@[simp] def X9{a b:List cE}:kL a=kL b↔a=b:=⟨λh=>by have:=congrArg KB h;simpa using this,λh=>by rw[h]⟩
@[simp] def arA{a b:List (Int×Int)}:iz a=iz b↔a=b:=⟨λh=>by have:=congrArg BC h;simpa using this,λh=>by rw[h]⟩
@[simp] def aoB{a b:List cP}:cz a=cz b↔a=b:=⟨λh=>by have:=congrArg Aa h;simpa using this,λh=>by rw[h]⟩
@[simp] def Ya{l:bY}:[]=bG l↔l=[]:=by rw[<-X8,sI];exact eq_comm
@[simp] def aoC{a b:Int}{l:bY}:[[ti a,ti b]]=bG l↔l=[⟨a,b⟩]:=by rw[show [[ti a,ti b]]=bG [⟨a,b⟩]from rfl,sI];exact eq_comm
@[simp] def aoD{a b c d:Int}{l:bY}:[[ti a,ti b],[ti c,ti d]]=bG l↔l=[⟨a,b⟩,⟨c,d⟩]:=by rw[show [[ti a,ti b],[ti c,ti d]]=bG [⟨a,b⟩,⟨c,d⟩]from rfl,sI];exact eq_comm
@[simp] def ajD:nX []=[]:=rfl
@[simp] def ajE{a b:Int}:nX [[ti a,ti b]]=[⟨a,b⟩]:=rfl
@[simp] def ajF{a b c d:Int}:nX [[ti a,ti b],[ti c,ti d]]=[⟨a,b⟩,⟨c,d⟩]:=rfl
def Pa(c:dW)(h f t:Int):Cell:=
 if h<0\/h>=c.ak\/f<0\/t<f\/t>=c.ba then mK else c.cells.getD (eG c.ak c.ba f.toNat t.toNat+h).toNat mK
def O9(c:dW):Prop:=0<=c.ak/\c.ak<=1000/\0<=c.ba/\c.ba<=1000/\c.cells.length<=1000000000000/\∀x∈c.cells,jI x.val
def NB:jI mK.val:=by simp[jI,mK]
def acw{c:dW}(hc:O9 c)(h f t:Int):jI (Pa c h f t).val:=by
 unfold Pa;split
 ·exact NB
 ·rw[List.getD];cases e:c.cells[(eG c.ak c.ba f.toNat t.toNat+h).toNat]? with
  |none=>exact NB
  |some x=>exact hc.2.2.2.2.2 x (xL e)
def tX{n st:Int}{f t:Nat}(h1:0<=n)(h2:n<=1000)(h3:st<=1000)(h4:(f:Int)<=st)(h5:t<=1000)(h6:f<=t):0<=eG n st f t/\eG n st f t<=2000000000:=by
 have hb:=kD h3 f h4;have:=gM (a:=pre st f+t-f) (A:=2000000) (b:=n) (B:=1000) (by omega) (by omega) h1 h2;unfold eG;omega
def eX(c:dW)(own:fl)(fr to h f t:Int):dg:=if f=fr/\t=to then(own.getD h.toNat default).val else(Pa c h f t).val
def aus(c:dW)(own:fl)(fr to h f t:Int):Prop:=O9 c/\own.length<=1000000/\(f=fr/\t=to->0<=h/\h<own.length)
def In{c:dW}{own:fl}{fr to h f t:Int}(h1:aus c own fr to h f t)(h2:∀x∈own,jI x.val):jI (eX c own fr to h f t):=by
 unfold eX;split
 ·rename_i e;have:=h1.2.2 e;exact h2 _ (bu (by omega))
 ·exact acw h1.1 _ _ _
structure kU where
 (x h t:Int)
 deriving DecidableEq,Inhabited
def kU.enc(e:kU):aL:=[ti e.x,ti e.h,ti e.t]
def dJ(l:List kU):List (aL):=l.map kU.enc
def yj:aL->kU
 |[a,b,c]=>⟨dL a,dL b,dL c⟩
 |_=>default
@[simp] def ym(e:kU):yj e.enc=e:=by simp[yj,kU.enc,dL]
@[simp] def wE{a b:List kU}:dJ a=dJ b↔a=b:=⟨λh=>by
 have:=congrArg (List.map yj) h;simpa [dJ,gK ym]using this,λh=>by rw[h]⟩
@[simp] def Yp(l:List kU):(dJ l).length=l.length:=by simp[dJ]
def dO{l:List kU}{y:Nat}(h:y<l.length):DM.rowAt (dJ l) y=(l.getD y default).enc:=by simp[DM.rowAt,dJ,h]
def lZ(l:List kU)(i:Nat)(e:kU):dJ (l.set i e)=(dJ l).set i e.enc:=by simp[dJ,Zcs]
def ua(a b:List kU):dJ (a++b)=dJ a++dJ b:=by simp[dJ]
def yn(a:List kU)(n:Nat):(dJ a).take n=dJ (a.take n):=by simp[dJ,Zcx]
abbrev Pl:=List (Nat×Int×Int)
def vL(l:Pl):List (Nat×T×DV):=l.map λe=>(e.1,ti e.2.1,.v (ti e.2.2))
@[simp] def KU{a b:Pl}:vL a=vL b↔a=b:=⟨λh=>by
 unfold vL at h;refine List.map_inj_right (f:=λe:Nat×Int×Int=>(e.1,ti e.2.1,DV.v (ti e.2.2))) ?_|>.1 h
 rintro⟨a,b,c⟩ ⟨a',b',c'⟩ h;simpa using h,λh=>by rw[h]⟩
def ue(l:Pl)(k:Int):Option Nat:=l.findIdx? λe=>e.2.1==k
def kl(l:Pl)(k:Int):Option Int:=(l.find? λe=>e.2.1==k).map (·.2.2)
def eu(l:Pl)(c:Nat)(k v:Int):Pl:=match ue l k with
 |some i=>l.modify i λe=>(e.1,e.2.1,v)
 |none=>l++[(c,k,v)]
def xA(l:Pl)(c:Nat)(k:Int):Nat:=match ue l k with
 |some _=>c
 |none=>c+1
def oL(l:Pl)(k:Int):Pl:=match ue l k with
 |some i=>l.eraseIdx i
 |none=>l
def WV(a b:Int):ib (ti a) (ti b)=(b==a):=by
 simp only[ib];by_cases h:a=b
 ·simp[h]
 ·have:¬b=a:=λe=>h e.symm;simp[h,this]
def AG(l:Pl)(k:Int):(vL l).findIdx? (λe=>ib (ti k) e.2.1)=ue l k:=by
 unfold vL ue;rw[List.findIdx?_map]
 congr 1
 funext e;simp only[Function.comp,WV]
def Oy(l:Pl)(k:Int):sj (ti k) (vL l)=(l.find? λe=>e.2.1==k).map λe=>(e.1,ti e.2.1,.v (ti e.2.2)):=by
 unfold sj vL;rw[List.find?_map]
 congr 2
 funext e;simp only[Function.comp,WV]
def l9{α β:Type}{f:α->β}{g:α->α}{g':β->β}(h:∀a,g' (f a)=f (g a)):∀(l:List α) (i:Nat),(l.map f).modify i g'=(l.modify i g).map f
 |[],i=>by cases i<;>simp
 |a::l,0=>by simp[h]
 |a::l,i+1=>by simp[l9 h l i]
def sa{α β:Type}{f:α->β}:∀(l:List α) (i:Nat),(l.map f).eraseIdx i=(l.eraseIdx i).map f
 |[],i=>by simp
 |a::l,0=>by simp
 |a::l,i+1=>by simp[sa l i]
def N9(l:Pl)(c:Nat)(k v:Int):Jd (ti k) (.v (ti v)) c (vL l)=vL (eu l c k v):=by
 unfold Jd eu;rw[AG];cases ue l k with
 |none=>simp[vL]
 |some i=>exact l9 (f:=λe:Nat×Int×Int=>(e.1,ti e.2.1,DV.v (ti e.2.2))) (g:=λe=>(e.1,e.2.1,v)) (g':=λe=>(e.1,e.2.1,DV.v (ti v))) (λ_=>rfl) l i
def G0(l:Pl)(c:Nat)(k:Int):pQ (ti k) c (vL l)=xA l c k:=by
 unfold pQ xA;rw[AG];cases ue l k<;>rfl
def Oc(l:Pl)(k:Int):aeq (ti k) (vL l)=vL (oL l k):=by
 unfold aeq oL;rw[AG];cases ue l k with
 |none=>rfl
 |some i=>exact sa l i
def qq(l:Pl):Prop:=(l.map (·.1)).Nodup
def AH{α:Type}{p:α->Bool}:∀{l:List α} {i:Nat},l.findIdx? p=some i->∃a,l[i]? =some a/\p a=true/\l.find? p=some a
 |[],i,h=>by simp at h
 |a::l,i,h=>by
  rw[Y8]at h;by_cases hp:p a=true
  ·simp only[hp,jP,cu]at h;subst h;exact⟨a,rfl,hp,by simp[hp]⟩
  ·simp only[hp,OX,w7,iV]at h;obtain⟨j,hj,rfl⟩:=h;obtain⟨b,h1,h2,h3⟩:=AH hj;exact⟨b,by simpa using h1,h2,by simp[hp,h3]⟩
def IT:∀{l:Pl} {i:Nat} {e:Nat×Int×Int},qq l->l[i]? =some e->(vL l).findIdx? (λx=>(x.1:Int)==(e.1:Int))=some i
 |[],i,e,_,h=>by simp at h
 |a::l,0,e,hk,h=>by
  simp only[HN,cu]at h;subst h;simp[vL,Y8]
 |a::l,i+1,e,hk,h=>by
  simp only[Zb]at h;simp only[qq,qD,ZcN]at hk;have b7:¬a.1=e.1:=λq=>hk.1 (q▸g9.2 ⟨e,xL h,rfl⟩);have ih:=IT (l:=l) hk.2 h;unfold vL at ih⊢;rw[qD,Y8];have:¬(((a.1:Int)==(e.1:Int))=true):=by simp;omega
  simp only[this,ih];rfl
def Ax{l:Pl}{k v:Int}{i:Nat}{e:Nat×Int×Int}(hk:qq l)(hi:ue l k=some i)(he:l[i]? =some e)(c:Nat):aet (e.1:Int) (.v (ti v)) (vL l)=some (vL (eu l c k v)):=by
 unfold aet;rw[IT hk he];unfold eu;rw[hi];simp only[O5,cu];exact l9 (f:=λe:Nat×Int×Int=>(e.1,ti e.2.1,DV.v (ti e.2.2))) (g:=λe=>(e.1,e.2.1,v)) (g':=λe=>(e.1,e.2.1,DV.v (ti v))) (λ_=>rfl) l i
def Ay{l:Pl}{c:Nat}{k v:Int}(hk:qq l)(hc:∀e∈l,e.1<c):qq (eu l c k v)/\∀e∈eu l c k v,e.1<xA l c k:=by
 unfold eu xA;cases h:ue l k with
 |none=>
  refine⟨?_,λe he=>?_⟩
  ·unfold qq;rw[JI,Zcl];refine⟨hk,by simp,λa ha b hb=>?_⟩;obtain⟨e,he,rfl⟩:=g9.1 ha;simp at hb;have:=hc e he;omega
  ·rcases oi.1 he with he|he
   ·have:=hc e he;simp only;omega
   ·simp at he;subst he;simp
 |some i=>
  have hm:((l.modify i λe=>(e.1,e.2.1,v)).map (·.1))=l.map (·.1):=by
   have h1:=l9 (f:=λe:Nat×Int×Int=>e.1) (g:=λe=>(e.1,e.2.1,v)) (g':=id) (λ_=>rfl) l i;rw[Zdz]at h1;exact h1.symm
  refine⟨by unfold qq;rw[hm];exact hk,λe he=>?_⟩;have:e.1∈l.map (·.1):=by rw[<-hm];exact g9.2 ⟨e,he,rfl⟩
  obtain⟨e',he',h2⟩:=g9.1 this;have:=hc e' he';show e.1<c;omega
structure LV where
 (sp rb:Nat)
 cs:bF
 an:bY
structure LV.at(v:LV)(f:bq)(a:Nat):Prop where
 a:f a=some (.box [.ptr v.sp 0])
 sp:f v.sp=some (.box v.cs)
 c:v.cs[12]? =some (.bC v.rb 0)
 rb:f v.rb=some (.bE 0 63 2 (bG v.an))
def LV.Dn{v w:LV}{f:bq}{a:Nat}(h:v.at f a)(k:w.at f a):v=w:=by
 obtain⟨sp,rb,cs,an⟩:=v;obtain⟨sp',rb',wZ,as3⟩:=w;obtain⟨h1,h2,h3,h4⟩:=h;obtain⟨k1,k2,k3,k4⟩:=k;simp only at h1 h2 h3 h4 k1 k2 k3 k4;rw[h1]at k1;simp only[cu,Ob.box.injEq,LW,DV.ptr.injEq,OY]at k1;subst k1;rw[h2]at k2;simp only[cu,Ob.box.injEq]at k2;subst k2;rw[h3]at k3;simp only[cu,DV.bC.injEq,OY]at k3;subst k3;rw[h4]at k4;simp only[cu,Ob.bE.injEq,sI,qI]at k4;subst k4;rfl
open Classical in
noncomputable def IU(f:bq)(a:Nat):LV:=if h:∃v:LV,v.at f a then Classical.choose h else⟨0,0,[],[]⟩
def OD{v:LV}{f:bq}{a:Nat}(h:v.at f a):IU f a=v:=by
 have hx:∃v:LV,v.at f a:=⟨v,h⟩;unfold IU;rw[Zdh hx];exact LV.Dn (Classical.choose_spec hx) h
def bv(an:bY)(x:Int):dg:=an.getD x.toNat default
noncomputable def k55:bF->bq->fV
 |[.v (.int .i64 x),.v (.int .i64 y),.ptr a 0],f=>⟨(∃v:LV,v.at f a)/\(0<=x/\x<(IU f a).an.length)/\(0<=y/\y<(IU f a).an.length),.v (.bool (decide ((bv (IU f a).an x).lt (bv (IU f a).an y)))),f⟩
 |_,f=>⟨False,.undef,f⟩
def anR{v:LV}{f:bq}{a:Nat}{x y:Int}(h:v.at f a):k55 [.v (ti x),.v (ti y),.ptr a 0] f=⟨(0<=x/\x<v.an.length)/\(0<=y/\y<v.an.length),.v (.bool (decide ((bv v.an x).lt (bv v.an y)))),f⟩:=by
 have hx:∃v:LV,v.at f a:=⟨v,h⟩;simp only[k55,OD h,hx,qI]
def t56(u v:dg):bw aj 84 [.agg [ti u.aI,ti u.size],.agg [ti v.aI,ti v.size]] (.bool (decide (u.lt v))):=by
 obtain⟨a,b⟩:=u;obtain⟨c,d⟩:=v;obtain⟨c1,b8⟩:=be (decide ((⟨a,b⟩:dg).lt ⟨c,d⟩):Bool);rw[b8];simp only[dg.lt]at b8;have aC:=cL;refine c56.ok (by simp) (aT ?_);simp;apply aa.ag aC fw [2,3];simp[ah2];refine aa.lk (o:=[]) (l:=[(2,.v (.box [ti a,ti b])),(3,.v (.box [ti c,ti d]))]) (aY:=1200) (by simp) ?_;refine aa.cH aC fw [(4,.v (.bool c1))] ?_ ?_
 ·by_cases q1:a<c
  ·have:c1=true:=by rw[<-b8];simp[q1]
   simp[MO,q1,this]
  ·by_cases q2:a=c
   ·subst q2;by_cases q3:b<d
    ·have:c1=true:=by rw[<-b8];simp[q3]
     simp[MO,q3,this]
    ·have:c1=false:=by rw[<-b8];simp[q3]
     simp[MO,q3,this]
   ·have:c1=false:=by rw[<-b8];simp[q1,q2]
    simp[MO,q1,q2,this]
 apply aa.ret;simp[dm]
def Lh{l:bY}(h:∀v∈l,jI v):∀{c s:Int},0<=c->c<=1099511627776->0<=s->s<=1099511627776->0<=(gq c s l).aI/\(gq c s l).aI<=1099511627776:=by
 induction l with
 |nil=>intro c s h1 h2 h3 h4;exact⟨h1,h2⟩
 |cons x l ih=>
  intro c s h1 h2 h3 h4;obtain⟨g1,g2,g3,g4⟩:=h x (by simp);exact ih (λv hv=>h v (by simp[hv])) (by omega) (by omega) (by omega) (by omega)
def adS{c:Int}{l:bY}(h:∀v∈l,jI v):d0 (min c 1099511627776) l=d0 c l:=by
 have key:∀(l:bY) (c s:Int),(∀v∈l,jI v)->l≠[]->gq (min c 1099511627776) s l=gq c s l:=by
  intro l c s h hl;cases l with
  |nil=>exact eB rfl hl
  |cons v l=>
   have hv:=(h v (by simp)).1;simp only[gq];rw[show min (min c 1099511627776+v.aI) 1099511627776=min (c+v.aI) 1099511627776 by omega]
 cases l with
 |nil=>
  unfold d0 gq;simp only;split<;>split<;>first|rfl|(exfalso;omega)|(congr 1;omega)
 |cons v l=>
  unfold d0;rw[key _ _ _ h (by simp)]
def t84(c:Int)(l:bY)(h:∀v∈l,jI v)(h1:0<=c)(h2:c<=4000000000000)(h3:l.length<=1000000):bw aj 123 [ti c,.sl (bG l)] (.agg [ti (d0 c l).aI,ti (d0 c l).size]):=by
 obtain⟨R,hR⟩:=be (d0 c l);rw[hR];rw[<-adS h]at hR;obtain⟨c0,Ze⟩:=be (min c 1099511627776);have b8:0<=c0/\c0<=1099511627776:=by omega
 rw[Ze]at hR;have aC:=cL;refine c84.ok (by simp) (aT ?_);simp;apply aa.ag aC fw [0,1,4];simp[ah3];refine aa.lk (o:=[(1005,.box [.v (ti 0),.v (ti 0)])]) (l:=[(0,.v (ti c)),(1,.v (.sl (bG l))),(4,.ptr 1005 0)]) (aY:=1094) (by simp) ?_;apply aa.ag aC fw [1,4,5];simp[ah4,Ze];refine aa.lk (o:=[(1005,.box [.v (ti 0),.v (ti 0)]),(1100,.box [.v (ti c0),.v (ti 1)])]) (l:=[(1,.v (.sl (bG l))),(4,.ptr 1005 0),(5,.ptr 1100 0)]) (aY:=1200) (by simp) ?_;apply aa.sq aC fw [4,5,11,12,13];simp[ah5];apply aa.block;refine aa.loop (λi:Nat=>⟨DM.look [(4,.ptr 1005 0),(5,.ptr 1100 0),(11,.v (.sl (bG l))),(12,.v (ti l.length)),(13,.v (ti i))],cJ [(1005,.box [.v (ti 0),.v (ti 0)]),(1100,.box [.v (ti (gq c0 1 (l.take i)).aI),.v (ti (gq c0 1 (l.take i)).size)])],1400,1000,[]⟩)
  (λi=>i<=l.length) (λi=>l.length-i) 0 (Le.bH ?_ ?_ ?_ ?_) (by simp) (λi hi=>?_)
 ·simp
 ·simp
 ·simp[gq]
 ·simp
 obtain⟨A,hA⟩:=be (gq c0 1 (l.take i));rw[hA];apply aa.ag aC fw [4,5,11,12,13,14];simp[ah6];apply aa.seq;refine aa.cond rfl (λh3c=>?_) (λh3c=>?_)
 ·have Bn:i<l.length:=by simpa using h3c
  apply aa.skip;simp;apply aa.seq;apply aa.block;have rv:=dt Bn;have hvm:=h _ (bu Bn);have yQ:gq c0 1 (l.take (i+1))=⟨min (A.aI+(l.getD i default).aI) 1099511627776,min (A.size+(l.getD i default).size) 1099511627776⟩:=by rw[c8 Bn,GA,hA]
  have hAb:=vJ (c:=c0) (s:=1) (l:=l.take i) (λv hv=>h v (Ew hv)) b8.1 (by omega) (by omega) (by omega);rw[hA]at hAb;obtain⟨⟨vc,vs⟩,hv⟩:=be (l.getD i default);rw[hv]at rv hvm yQ;obtain⟨g1,g2,g3,g4⟩:=hvm;simp only at g1 g2 g3 g4 yQ;obtain⟨ac,asz⟩:=A;simp only at hAb yQ;apply aa.ag aC fw [4,5,7,11,12,13];simp[ah7,Bn,rv];refine aa.lk (o:=[(1005,.box [.v (ti 0),.v (ti 0)]),(1100,.box [.v (ti ac),.v (ti asz)])]) (l:=[(4,.ptr 1005 0),(5,.ptr 1100 0),(7,.v (.box [ti vc,ti vs])),(11,.v (.sl (bG l))),(12,.v (ti l.length)),(13,.v (ti i))]) (aY:=1500) (by simp) ?_;apply aa.ag aC fw [4,5,7,11,12,13];simp[ah8,aF (x:=ac+vc) (by omega)];refine aa.lk (o:=[(1005,.box [.v (ti 0),.v (ti 0)]),(1100,.box [.v (ti (min (ac+vc) 1099511627776)),.v (ti asz)])]) (l:=[(4,.ptr 1005 0),(5,.ptr 1100 0),(7,.v (.box [ti vc,ti vs])),(11,.v (.sl (bG l))),(12,.v (ti l.length)),(13,.v (ti i))]) (aY:=1600) (by simp) ?_;apply aa.fJ aC fw [4,5,11,12,13];simp[ah9,aF (x:=asz+vs) (by omega)];apply aa.fJ aC fw [4,5,11,12,13];simp[aia];rw[aF (x:=(i:Int)+1) (by omega)];refine⟨i+1,Le.bH ?_ ?_ ?_ ?_,by omega,by omega⟩
  ·simp
  ·simp
  ·simp[yQ]
  ·simp
 ·have Zg:i=l.length:=by simp at h3c;omega
  subst Zg;rw[ZbX]at hA;apply aa.exit;simp;apply aa.sq aC fw [4,5,34];simp[aib];refine aa.cond rfl (λh8=>?_) (λh8=>?_)
  ·have h8:A.aI=1099511627776:=by simpa using h8
   have AQ:R=⟨1099511627776,0⟩:=by rw[<-hR];unfold d0;rw[hA];simp[h8]
   apply aa.ag aC fw [4];simp[aic];apply aa.ret;simp[Qg,AQ]
  ·have h8:¬A.aI=1099511627776:=by simpa using h8
   have hAb:=Lh (c:=c0) (s:=1) (l:=l) h b8.1 b8.2 (by omega) (by omega);rw[hA]at hAb;have AQ:R=A:=by rw[<-hR];unfold d0;rw[hA,aZ (by omega)]
   apply aa.skip;simp;apply aa.ag aC fw [4];simp[abl];apply aa.ret;simp[Qg,AQ]
section
variable{f0 f:bq}
abbrev s56:DM.Spec:=dh (λts=>∃a b c d,ts=[.agg [ti a,ti b],.agg [ti c,ti d]]) (fun|[.agg [.int _ a,.int _ b],.agg [.int _ c,.int _ d]]=>.bool (decide ((⟨a,b⟩:dg).lt ⟨c,d⟩))|_=>.bool false) true
def am7{l:List (Nat×DM.Spec)}(h:ay aj (bB l)):ay aj (bB ((84,s56)::l)):=by
 refine ay.cons h ?_;rintro ts ⟨a,b,c,d,rfl⟩;exact⟨t56 ⟨a,b⟩ ⟨c,d⟩,λ_=>rfl⟩
def W0{α:Type}{l:List α}{i:Nat}{a d:α}(h:l[i]? =some a):l.getD i d=a/\i<l.length:=by
 obtain⟨h1,h2⟩:=Db.1 h;exact⟨by simp[List.getD,h],h1⟩
def jo(p q N:Nat)(n:Nat):Nat:=if n=0 then p else if n=1 then q else N+n
def kh{p q N:Nat}(h:p<N)(k:q<N)(b7:p≠q)(x y:Nat)(e:jo p q N x=jo p q N y):x=y:=by
 unfold jo at e;split at e<;>split at e<;>(try split at e)<;>(try split at e)<;>omega
def t55{a N x y:Nat}{v:LV}(hN:∀r,N<=r->f0 r=none)(h:v.at f0 a)(hx:x<v.an.length)(hy:y<v.an.length):
  aQ aj 83 [.v (ti x),.v (ti y),.ptr a 0] f0 ⟨True,.v (.bool (decide ((bv v.an x).lt (bv v.an y)))),f0⟩:=by
 obtain⟨R,hR⟩:=be (decide ((bv v.an x).lt (bv v.an y)));rw[hR];have aC:=am7 ay.nil;refine c55.qE hN (by simp) λaV=>?_;obtain⟨sp,rb,cs,an⟩:=v;obtain⟨h1,h2,h3,h4⟩:=h;simp only at h1 h2 h3 h4 hx hy;obtain⟨h5,h6⟩:=W0 (d:=DV.undef) h3;have r1:=dt hx;have r2:=dt hy;simp only[bv,iQ]at hR;obtain⟨⟨xc,xs⟩,ex⟩:=be (an.getD x default);obtain⟨⟨yc,ys⟩,ey⟩:=be (an.getD y default);simp only[ex,ey]at r1 r2 hR;have h7:cs[12]'h6=.bC rb 0:=by rw[w8 h6]at h3;exact Zb9 h3
 simp;apply aa.ag aC fw [0,1,2];simp[ajm];apply aa.ag aC fw [5];simp[ajn,h1,h2,h6,h7,h4,hx,hy,r1,r2,CT,hR];refine⟨h6, ?_⟩;apply aa.ret;simp[dm];rfl
def anZ:∀args ab,(k55 args ab).ok->(∀N,(∀r,N<=r->ab r=none)->aQ aj 83 args ab (k55 args ab))/\∀r,ab r=none->(k55 args ab).ab r=none:=by
 intro args ab h;unfold k55 at h⊢;split at h
 ·rename_i x y a;obtain⟨⟨v,hv⟩,⟨x0,x1⟩,y0,y1⟩:=h;rw[OD hv]at x1 y1⊢;obtain⟨x,rfl⟩:=kK x0;obtain⟨y,rfl⟩:=kK y0;exact⟨λN hN=>aQ.of (t55 hN hv (by omega) (by omega)) rfl rfl,λr hr=>hr⟩
 ·exact h.elim
structure Qs where
 heap:List kU
 bJ:Nat
 es:Pl
 mc:Nat
 (next bA:Int)
def qB(a hp m:Nat)(s:Qs):Ob:=.box [.oP (.func 83) [.ptr a 0],.bC hp s.bJ,.je m,.v (ti s.next),.v (ti s.bA)]
def hB(s:Qs):Ob:=.bE s.bJ 220 3 (dJ s.heap)
def mB(s:Qs):Ob:=.map [.int .i64] false s.mc (vL s.es)
structure QV where
 (a hp m:Nat)
 l:LV
 s:Qs
structure QV.at(v:QV)(f:bq)(q:Nat):Prop where
 q:f q=some (qB v.a v.hp v.m v.s)
 hp:f v.hp=some (hB v.s)
 m:f v.m=some (mB v.s)
 l:v.l.at f v.a
def QV.Dn{v w:QV}{q:Nat}(h:v.at f q)(k:w.at f q):v=w:=by
 obtain⟨a,hp,m,l,⟨heap,bJ,es,mc,next,bA⟩⟩:=v;obtain⟨a',hp',m',l',⟨aaC,cw,ol,mc',ald,adk⟩⟩:=w;obtain⟨h1,h2,h3,h4⟩:=h;obtain⟨k1,k2,k3,k4⟩:=k;simp only at h1 h2 h3 h4 k1 k2 k3 k4;rw[h1]at k1;simp only[qB,cu,Ob.box.injEq,LW,DV.oP.injEq,DV.ptr.injEq,DV.bC.injEq,DV.je.injEq,DV.v.injEq,T.int.injEq,qI,OY]at k1;obtain⟨e1,⟨e2,e3⟩,e4,e5,e6⟩:=k1;subst e1 e2 e3 e4 e5 e6;rw[h2]at k2;simp only[hB,cu,Ob.bE.injEq,wE,qI]at k2;rw[h3]at k3;simp only[mB,cu,Ob.map.injEq,KU,qI]at k3;obtain⟨e7,e8⟩:=k3;have e9:=LV.Dn h4 k4;subst k2 e7 e8 e9;rfl
open Classical in
noncomputable def eY(f:bq)(q:Nat):QV:=if h:∃v:QV,v.at f q then Classical.choose h else⟨0,0,0,⟨0,0,[],[]⟩,⟨[],0,[],0,0,0⟩⟩
def fm{v:QV}{q:Nat}(h:v.at f q):eY f q=v:=by
 have hx:∃v:QV,v.at f q:=⟨v,h⟩;unfold eY;rw[Zdh hx];exact QV.Dn (Classical.choose_spec hx) h
def Qs.inR(s:Qs)(an:bY):Prop:=∀e∈s.heap,0<=e.x/\e.x<an.length
def ja(an:bY)(a b:kU):Prop:=(bv an a.x).lt (bv an b.x)\/(¬(bv an b.x).lt (bv an a.x)/\a.t<b.t)
instance(an:bY)(a b:kU):Decidable (ja an a b):=by unfold ja;infer_instance
abbrev Qs.e(s:Qs)(i:Int):kU:=s.heap.getD i.toNat default
noncomputable def R7:bF->bq->fV
 |[.ptr q 0,.v (.int .i64 i),.v (.int .i64 j)],f=>⟨(∃v:QV,v.at f q)/\(eY f q).s.inR (eY f q).l.an/\(0<=i/\i<(eY f q).s.heap.length)/\(0<=j/\j<(eY f q).s.heap.length),.v (.bool (decide (ja (eY f q).l.an ((eY f q).s.e i) ((eY f q).s.e j)))),f⟩
 |_,f=>⟨False,.undef,f⟩
def W3{v:QV}{q:Nat}{i j:Int}(h:v.at f q):R7 [.ptr q 0,.v (ti i),.v (ti j)] f=⟨v.s.inR v.l.an/\(0<=i/\i<v.s.heap.length)/\(0<=j/\j<v.s.heap.length),.v (.bool (decide (ja v.l.an (v.s.e i) (v.s.e j)))),f⟩:=by
 have hx:∃v:QV,v.at f q:=⟨v,h⟩;simp only[R7,fm h,hx,qI]
def ava{l:List (Nat×DM.Spec)}(h:ay aj (bB l)):ay aj (bB ((83,en k55)::l)):=ay.ij h anZ
def avb{q N i j:Nat}{v:QV}(hN:∀r,N<=r->f0 r=none)(h:v.at f0 q)(hr:v.s.inR v.l.an)(hi:i<v.s.heap.length)(hj:j<v.s.heap.length):
  aQ aj 150 [.ptr q 0,.v (ti i),.v (ti j)] f0 ⟨True,.v (.bool (decide (ja v.l.an (v.s.e i) (v.s.e j)))),f0⟩:=by
 obtain⟨R,hR⟩:=be (decide (ja v.l.an (v.s.e i) (v.s.e j)));rw[hR];have aC:=ava ay.nil;refine aue.qE hN (by simp) λaV=>?_;obtain⟨a,hp,m,l,⟨heap,bJ,es,mc,next,bA⟩⟩:=v;obtain⟨h1,h2,h3,h4⟩:=h;simp only[qB,hB,mB]at h1 h2 h3 h4 hi hj hr;have Pb:q<N:=(aV q _ h1).1;have nk:hp<N:=(aV hp _ h2).1;have haN:a<N:=(aV a _ h4.a).1;have hqp:q≠hp:=λe=>by rw[e,h2]at h1;cases h1
 have r1:=dO hi;have r2:=dO hj;have x1:=hr _ (bu hi);have x2:=hr _ (bu hj);simp only[Qs.e,iQ]at hR;obtain⟨⟨ax,ah,xu⟩,ex⟩:=be (heap.getD i default);obtain⟨⟨bx,bh,bt⟩,ey⟩:=be (heap.getD j default);simp only[ex,ey,kU.enc]at r1 r2 x1 x2 hR;have nq:∀k,q≠N+k:=λk=>by omega
 have np:∀k,hp≠N+k:=λk=>by omega
 simp;apply aa.ag aC fw [0,1,2];simp[abv];apply aa.kv aC fw (rs:=db (jo q hp N) (fg Qk [none,none,none,none,none,none,none,none,none,none,some [0],none,some [1],some [1],none,none,some [58],none])) (.inl rfl) ((d8 (kh Pb nk hqp) _ _ _).trans (by kernel_rfl)) [0,7,8];simp[Qk,db,fF,fg,jo,cX,bN,aP,h1,h2,hi,hj,r1,r2];refine aa.le (Le.d6 (l1:=[]) (l:=[(0,.ptr q 0),(7,.v (.box [ti ax,ti ah,ti xu])),(8,.v (.box [ti bx,ti bh,ti bt]))]) (aY:=N+1000) aV ?_ ?_ ?_ ?_ ?_) ?_
 ·omega
 ·simp
 ·simp[bU];omega
 ·simp[dT]
 ·simp[h1,fq];exact⟨bZ (l:=[]) aV (by omega) (by simp),bZ (l:=[]) aV (by omega) (by simp)⟩
 have hk:=λx y=>anR (x:=x) (y:=y) h4;obtain⟨c1,b8⟩:=be (decide ((bv l.an ax).lt (bv l.an bx)):Bool);obtain⟨c2,gZ⟩:=be (decide ((bv l.an bx).lt (bv l.an ax)):Bool);have e0:aO [] f0=f0:=rfl;rw[e0];apply aa.sq aC fw [0,7,8,31];simp[abw,h1,hk,x1,x2,b8];refine aa.cond rfl (λg=>?_) (λg=>?_)
 ·have g:c1=true:=by simpa using g
  subst g;have:R=true:=by rw[<-hR];unfold ja;simp[qW b8]
  subst this;apply aa.ag aC fw [6];simp[abx];apply aa.ret;simp[dm]
 ·have g:c1=false:=by simpa using g
  subst g;apply aa.skip;simp;refine aa.cH aC fw [(6,.v (.bool R))] ?_ ?_
  ·have AQ:(!c2&&decide (xu<bt))=R:=by
    rw[<-hR,<-gZ];unfold ja;have:=wQ b8;by_cases z1:(bv l.an bx).lt (bv l.an ax)<;>by_cases z2:xu<bt<;>simp[this,z1,z2]
   cases c2
   ·simp[Ql,h1,hk,x1,x2,gZ]at AQ⊢;exact AQ
   ·simp[Ql,h1,hk,x1,x2,gZ]at AQ⊢;exact AQ
  apply aa.ret;simp[dm]
def agf:∀args ab,(R7 args ab).ok->(∀N,(∀r,N<=r->ab r=none)->aQ aj 150 args ab (R7 args ab))/\∀r,ab r=none->(R7 args ab).ab r=none:=by
 intro args ab h;unfold R7 at h⊢;split at h
 ·rename_i q i j;obtain⟨⟨v,hv⟩,hr,⟨i0,i1⟩,j0,j1⟩:=h;rw[fm hv]at hr i1 j1⊢;obtain⟨i,rfl⟩:=kK i0;obtain⟨j,rfl⟩:=kK j0;exact⟨λN hN=>aQ.of (avb hN hv hr (by omega) (by omega)) rfl rfl,λr hr=>hr⟩
 ·exact h.elim
def als{l:List (Nat×DM.Spec)}(h:ay aj (bB l)):ay aj (bB ((150,en R7)::l)):=ay.ij h agf
end
section
variable{f f0:bq}
def bO(f:bq)(q:Nat)(v:QV)(s:Qs):bq:=aO [(q,qB v.a v.hp v.m s),(v.hp,hB s),(v.m,mB s)] f
abbrev QV.to(v:QV)(s:Qs):QV:=⟨v.a,v.hp,v.m,v.l,s⟩
structure QV.Ne(v:QV)(q:Nat):Prop where
 qp:q≠v.hp
 qm:q≠v.m
 pm:v.hp≠v.m
 aq:v.a≠q
 ap:v.a≠v.hp
 am:v.a≠v.m
 sq:v.l.sp≠q
 sp:v.l.sp≠v.hp
 sm:v.l.sp≠v.m
 rq:v.l.rb≠q
 rp:v.l.rb≠v.hp
 rm:v.l.rb≠v.m
def QV.at.ne{v:QV}{q:Nat}(h:v.at f q):v.Ne q:=by
 obtain⟨h1,h2,h3,h4,h5,h6,h7⟩:=h;simp only[qB,hB,mB]at h1 h2 h3;have:=(W0 (d:=DV.undef) h6).2;refine⟨λe=>?_,λe=>?_,λe=>?_,λe=>?_,λe=>?_,λe=>?_,λe=>?_,λe=>?_,λe=>?_,λe=>?_,λe=>?_,λe=>?_⟩
 ·rw[e,h2]at h1;cases h1
 ·rw[e,h3]at h1;cases h1
 ·rw[e,h3]at h2;cases h2
 ·rw[e,h1]at h4;simp at h4
 ·rw[e,h2]at h4;cases h4
 ·rw[e,h3]at h4;cases h4
 ·rw[e,h1]at h5;simp only[cu,Ob.box.injEq]at h5;rw[<-h5]at this;simp at this
 ·rw[e,h2]at h5;cases h5
 ·rw[e,h3]at h5;cases h5
 ·rw[e,h1]at h7;cases h7
 ·rw[e,h2]at h7;simp at h7
 ·rw[e,h3]at h7;cases h7
def eo{v:QV}{q:Nat}(h:v.at f q)(s:Qs):(v.to s).at (bO f q v s) q:=by
 have n:=h.ne;obtain⟨h1,h2,h3,h4,h5,h6,h7⟩:=h;refine⟨by simp[bO],by simp[bO,Ne.symm n.qp],by simp[bO,Ne.symm n.qm,Ne.symm n.pm],⟨?_, ?_,h6, ?_⟩⟩
 ·simp[bO,n.aq,n.ap,n.am,h4]
 ·simp[bO,n.sq,n.sp,n.sm,h5]
 ·simp[bO,n.rq,n.rp,n.rm,h7]
def jy(f:bq)(q:Nat)(v:QV)(s s':Qs):bO (bO f q v s) q (v.to s) s'=bO f q v s':=by
 funext k;simp only[bO,aH,bL];by_cases h1:k=q<;>by_cases h2:k=v.hp<;>by_cases h3:k=v.m<;>simp[h1,h2,h3]
def g5{v:QV}{q r:Nat}(h:v.at f q)(s:Qs)(hr:f r=none):bO f q v s r=none:=by
 have e1:r≠q:=λe=>by rw[e,h.q]at hr;cases hr
 have e2:r≠v.hp:=λe=>by rw[e,h.hp]at hr;cases hr
 have e3:r≠v.m:=λe=>by rw[e,h.m]at hr;cases hr
 simp[bO,e1,e2,e3,hr]
def sP{N aK aY q:Nat}{tm:dj}{l:eO}{L:c7}{v:QV}(s:Qs)(aV:df f0 N)(hv:v.at f0 q)(hn:N<=aY)(P3:v.s.bJ<=s.bJ)
  (hL:∀p∈L,p.1=q\/p.1=v.hp\/p.1=v.m\/N<=p.1) (h1:aO L f0 q=some (qB v.a v.hp v.m s)) (h2:aO L f0 v.hp=some (hB s)) (h3:aO L f0 v.m=some (mB s))
  (h4:aO L f0 v.a=f0 v.a)
  (iX:fK (aO L f0) (bO f0 q v s) id tm l):
  Le ⟨tm,aO L f0,aK,N,[]⟩ ⟨DM.look l,bO f0 q v s,aY,N,[]⟩:=by
 have Pb:q<N:=(aV q _ hv.q).1;have nk:v.hp<N:=(aV v.hp _ hv.hp).1;have CV:v.m<N:=(aV v.m _ hv.m).1;have n:=hv.ne;refine Le.d6 aV hn ?_ ?_ ?_ iX
 ·simp;omega
 ·have:∀(L:c7),(∀p∈L,p.1=q\/p.1=v.hp\/p.1=v.m\/N<=p.1)->bU N [(q,qB v.a v.hp v.m s),(v.hp,hB s),(v.m,mB s)] L:=by
   intro L;induction L with
   |nil=>intro _;trivial
   |cons p L ih=>
    intro h;refine⟨λhq=>?_,ih λp hp=>h p (by simp[hp])⟩;rcases h p (by simp)with h|h|h|h
    ·exact⟨_,by rw[h];exact .head _⟩
    ·exact⟨_,by rw[h];exact .tail _ (.head _)⟩
    ·exact⟨_,by rw[h];exact .tail _ (.tail _ (.head _))⟩
    ·omega
  exact this _ hL
 ·refine⟨⟨_,h1,.inr ⟨rfl,λk hk=>?_⟩,λ_=>bk _⟩,⟨_,h2,.inr ⟨rfl,λk hk=>by simp[bb,hB]at hk⟩,λ_=>bk _⟩,⟨_,h3,.inr ⟨rfl,λk hk=>?_⟩,λ_=>bk _⟩,trivial⟩
  ·simp only[qB,bb,bQ,aP,vZ,oi,fN,lq,ld]at hk;rcases hk with rfl|rfl|rfl
   ·exact⟨_,_,h4.trans hv.l.a,by simp[n.aq,n.ap,n.am,hv.l.a],bk _⟩
   ·exact⟨_,_,h2,by simp[Ne.symm n.qp],bk _⟩
   ·exact⟨_,_,h3,by simp[Ne.symm n.qm,Ne.symm n.pm],bk _⟩
  ·exfalso;simp only[mB,bb,Ln,vL,g9]at hk;obtain⟨e,⟨e',_,rfl⟩,hk⟩:=hk;simp[aP]at hk
def OT(l:Pl)(k:Int):ue l k=(l.map (·.2.1)).findIdx? (·==k):=by
 unfold ue;rw[List.findIdx?_map];rfl
def oa{l:Pl}{c:Nat}{k v:Int}{i:Nat}(h:ue l k=some i)(k':Int):ue (eu l c k v) k'=ue l k':=by
 rw[OT,OT];unfold eu;rw[h];simp only;have h1:=l9 (f:=λe:Nat×Int×Int=>e.2.1) (g:=λe=>(e.1,e.2.1,v)) (g':=id) (λ_=>rfl) l i;rw[Zdz]at h1;rw[<-h1]
def l8{l:Pl}{c:Nat}{k v:Int}{i:Nat}(h:ue l k=some i)(hk:qq l):qq (eu l c k v):=by
 unfold eu qq;rw[h];have h1:=l9 (f:=λe:Nat×Int×Int=>e.1) (g:=λe=>(e.1,e.2.1,v)) (g':=id) (λ_=>rfl) l i;rw[Zdz]at h1;simp only;rw[<-h1];exact hk
def D7{l:Pl}{k:Int}{i:Nat}(h:ue l k=some i)(z:DV)(c:Nat):∃e,l[i]? =some e/\aes (ti k) z c (vL l)=.ew [.v (ti e.2.2),.v (ti e.1)]/\aer (ti k) z c (vL l)=vL l/\pQ (ti k) c (vL l)=c:=by
 obtain⟨e,h1,h2,h3⟩:=AH h;refine⟨e,h1, ?_, ?_, ?_⟩
 ·unfold aes;rw[Oy,h3];rfl
 ·unfold aer;rw[AG,h]
 ·unfold pQ;rw[AG,h]
def Qs.qJ(s:Qs)(k:Int):Prop:=∃i,ue s.es k=some i
def Qs.swap(s:Qs)(i j:Int):Qs:=⟨(s.heap.set i.toNat (s.e j)).set j.toNat (s.e i),s.bJ,eu (eu s.es s.mc (s.e j).h i) s.mc (s.e i).h j,s.mc,s.next,s.bA⟩
def Qs.dn(s:Qs)(i j:Int):Prop:=qq s.es/\(0<=i/\i<s.heap.length)/\(0<=j/\j<s.heap.length)/\s.qJ (s.e i).h/\s.qJ (s.e j).h
def avg{q N i j:Nat}{v:QV}(hN:∀r,N<=r->f0 r=none)(h:v.at f0 q)(hs:v.s.dn i j):
  aQ aj 145 [.ptr q 0,.v (ti i),.v (ti j)] f0 ⟨True,.v (.ew []),bO f0 q v (v.s.swap i j)⟩:=by
 obtain⟨S,hS⟩:=be (v.s.swap i j);rw[hS];have aC:=cL;have h0:=h;have n:=h.ne;refine aug.qE hN (by simp) λaV=>?_;obtain⟨a,hp,m,l,⟨heap,bJ,es,mc,next,bA⟩⟩:=v;obtain⟨h1,h2,h3,h4⟩:=h;obtain⟨s1,⟨_,s2⟩,⟨_,s3⟩,⟨i1,s4⟩,⟨i2,s5⟩⟩:=hs;simp only[qB,hB,mB,Qs.e,iQ]at h1 h2 h3 h4 s1 s2 s3 s4 s5;have hi:i<heap.length:=by omega
 have hj:j<heap.length:=by omega
 have Pb:q<N:=(aV q _ h1).1;have nk:hp<N:=(aV hp _ h2).1;have CV:m<N:=(aV m _ h3).1;have r1:=dO hi;have r2:=dO hj;simp only[Qs.swap,Qs.e,iQ]at hS;obtain⟨ea,ex⟩:=be (heap.getD i default);obtain⟨eb,ey⟩:=be (heap.getD j default);simp only[ex,ey]at r1 r2 hS s4 s5;obtain⟨H,hH⟩:=be ((heap.set i eb).set j ea);have hHl:H.length=heap.length:=by rw[<-hH];simp
 have qO:i<H.length:=by omega
 have hj':j<H.length:=by omega
 have r3:=dO qO;have r4:=dO hj';have e3:H.getD i default=eb:=by
  rw[<-hH];by_cases e:i=j
  ·subst e;rw[<-ex,<-ey];simp[List.getD,hi]
  ·have:j≠i:=λq=>e q.symm;simp[List.getD,this,hi]
 have e4:H.getD j default=ea:=by rw[<-hH];simp[List.getD,hj]
 rw[e3]at r3;rw[e4]at r4;have EG:((dJ heap).set i eb.enc).set j ea.enc=dJ H:=by rw[<-hH,lZ,lZ]
 obtain⟨x1,y1,z1,z2,z3⟩:=D7 s5 (.v (ti 0)) mc;obtain⟨E1,hE1⟩:=be (eu es mc eb.h i);have b1:=Ax (v:=(i:Int)) s1 s5 y1 mc;rw[hE1]at b1 hS;have s6:ue E1 ea.h=some i1:=by rw[<-hE1,oa s5];exact s4
 have s7:qq E1:=by rw[<-hE1];exact l8 s5 s1
 obtain⟨x2,y2,z4,z5,z6⟩:=D7 s6 (.v (ti 0)) mc;have b2:=Ax (v:=(j:Int)) s7 s6 y2 mc;obtain⟨E2,KE⟩:=be (eu E1 mc ea.h j);rw[KE]at b2 hS;rw[hH]at hS;obtain⟨ax,ah,xu⟩:=ea;obtain⟨bx,bh,bt⟩:=eb;simp only[kU.enc]at r1 r2 r3 r4 EG z1 z2 z3 z4 z5 z6;simp;apply aa.ag aC fw [0,1,2];have hd:List.drop 3 (DM.rowAt ((dJ heap).set i [ti bx,ti bh,ti bt]) (j:Int))=[]:=by
  rw[show(dJ heap).set i [ti bx,ti bh,ti bt]=dJ (heap.set i ⟨bx,bh,bt⟩)from(lZ heap i ⟨bx,bh,bt⟩).symm,dO (by simpa using hj)];rfl
 simp[aby,h1,h2,hi,hj,r1,r2,hd,EG];obtain⟨V,hV⟩:=be ((⟨a,hp,m,l,⟨heap,bJ,es,mc,next,bA⟩⟩:QV):QV);have xz:V.a=a/\V.hp=hp/\V.m=m/\V.l=l:=by rw[<-hV];exact⟨rfl,rfl,rfl,rfl⟩
 obtain⟨S1,sY⟩:=be ((⟨H,bJ,es,mc,next,bA⟩:Qs):Qs);rw[hV]at h0 n⊢;have n2:=n;obtain⟨n1,Hp,n3,n4,n5,n6,n7,n8,n9,n10,n11,n12⟩:=n;rw[xz.2.1]at n1 n3 n5;rw[xz.2.2.1]at Hp n3 n6;rw[xz.1]at n4 n5 n6;refine aa.le (sP (v:=V) S1 (l:=[(0,.ptr q 0),(1,.v (ti i)),(2,.v (ti j))]) (aY:=N+100) aV h0 (by omega) (by rw[<-hV,<-sY];exact ed _) ?_ ?_ ?_ ?_ ?_ ?_) ?_
 ·simp[xz]
 ·rw[xz.1,xz.2.1,xz.2.2.1,<-sY];simp[n1,h1,qB]
 ·rw[xz.2.1,<-sY];simp[hB]
 ·rw[xz.2.2.1,<-sY];simp[mB,Ne.symm n3,h3]
 ·rw[xz.1];simp[n5]
 ·simp[bO,qB]
 obtain⟨G,hG⟩:=be (bO f0 q V S);rw[hG];simp only[bO,xz,<-sY,qB,hB,mB];have IE:=Ne.symm n1;have LA:=Ne.symm n3;have ang:=Ne.symm Hp;refine aa.to ⟨DM.look [],bO f0 q V S,N+1000,N,[]⟩ ?_ (by simp[SY,hG]);apply aa.fJ aC fw [];simp[abz,qO,hj',r3,r4,IE,LA,ang,z1,z2,z3,z4,z5,z6,b1,b2];refine sP S (l:=[]) (aY:=N+1000) aV h0 (by omega) (by rw[<-hV,<-hS];exact ed _) ?_ ?_ ?_ ?_ ?_ ?_
 ·simp[xz]
 ·rw[xz.1,xz.2.1,xz.2.2.1,<-hS];simp[Hp,qB]
 ·rw[xz.2.1,<-hS];simp[n3,IE,hB]
 ·rw[xz.2.2.1,<-hS];simp[mB]
 ·rw[xz.1];simp[n4,n5,n6]
 ·simp
end
section
variable{f f0:bq}{an:bY}
noncomputable def Sa:bF->bq->fV
 |[.ptr q 0,.v (.int .i64 i),.v (.int .i64 j)],f=>⟨(∃v:QV,v.at f q)/\(eY f q).s.dn i j,.v (.ew []),bO f q (eY f q) ((eY f q).s.swap i j)⟩
 |_,f=>⟨False,.undef,f⟩
def Ll{v:QV}{q:Nat}{i j:Int}(h:v.at f q):Sa [.ptr q 0,.v (ti i),.v (ti j)] f=⟨v.s.dn i j,.v (.ew []),bO f q v (v.s.swap i j)⟩:=by
 have hx:∃v:QV,v.at f q:=⟨v,h⟩;simp only[Sa,fm h,hx,qI]
def agj:∀args ab,(Sa args ab).ok->(∀N,(∀r,N<=r->ab r=none)->aQ aj 145 args ab (Sa args ab))/\∀r,ab r=none->(Sa args ab).ab r=none:=by
 intro args ab h;unfold Sa at h⊢;split at h
 ·rename_i q i j;obtain⟨⟨v,hv⟩,hs⟩:=h;rw[fm hv]at hs⊢;have hs':=hs;obtain⟨_,⟨i0,_⟩,⟨j0,_⟩,_⟩:=hs';obtain⟨i,rfl⟩:=kK i0;obtain⟨j,rfl⟩:=kK j0;exact⟨λN hN=>aQ.of (avg hN hv hs) rfl rfl,λr hr=>g5 hv _ hr⟩
 ·exact h.elim
def aeg{l:List (Nat×DM.Spec)}(h:ay aj (bB l)):ay aj (bB ((145,en Sa)::l)):=ay.ij h agj
structure Qs.ok(s:Qs)(an:bY):Prop where
 pl:qq s.es
 st:∀e∈s.es,e.1<s.mc
 qJ:∀e∈s.heap,s.qJ e.h
 r:s.inR an
def Qs.oK{s:Qs}{i j:Int}(hi:i.toNat<s.heap.length)(hj:j.toNat<s.heap.length){e:kU}(h:e∈(s.swap i j).heap):e∈s.heap:=by
 rcases Xf h with h|rfl
 ·rcases Xf h with h|rfl
  ·exact h
  ·exact bu hj
 ·exact bu hi
def Qs.ok.dn{s:Qs}(h:s.ok an){i j:Int}(hi:0<=i/\i<s.heap.length)(hj:0<=j/\j<s.heap.length):s.dn i j:=
 ⟨h.pl,hi,hj,h.qJ _ (bu (by omega)),h.qJ _ (bu (by omega))⟩
def Qs.ok.swap{s:Qs}(h:s.ok an){i j:Int}(hi:0<=i/\i<s.heap.length)(hj:0<=j/\j<s.heap.length):(s.swap i j).ok an:=by
 obtain⟨_,_,_,⟨i1,s4⟩,⟨i2,s5⟩⟩:=h.dn hi hj;have s6:ue (eu s.es s.mc (s.e j).h i) (s.e i).h=some i1:=by rw[oa s5];exact s4
 have yQ:∀{l:Pl} {c:Nat} {k v:Int} {i:Nat},ue l k=some i->qq l->(∀e∈l,e.1<c)->∀e∈eu l c k v,e.1<c:=by
  intro l c k v i hk hl hc e he;have:=(Ay (k:=k) (v:=v) hl hc).2 e he;unfold xA at this;rw[hk]at this;exact this
 refine⟨l8 s6 (l8 s5 h.pl),yQ s6 (l8 s5 h.pl) (yQ s5 h.pl h.st),λe he=>?_,λe he=>h.r e (Qs.oK (by omega) (by omega) he)⟩;obtain⟨k,hk⟩:=h.qJ e (Qs.oK (by omega) (by omega) he);exact⟨k,by show ue (eu _ _ _ _) _=_;rw[oa s6,oa s5];exact hk⟩
@[simp] def Qs.dP(s:Qs)(i j:Int):(s.swap i j).heap.length=s.heap.length:=by simp[Qs.swap]
@[simp] def Qs.adA(s:Qs)(i j:Int):(s.swap i j).bJ=s.bJ:=rfl
def uR(an:bY)(i:Nat)(s:Qs):Qs:=
 if h:0<i/\ja an (s.e i) (s.e ((i-1)/2:Nat))then uR an ((i-1)/2) (s.swap i ((i-1)/2:Nat))else s
termination_by i
decreasing_by omega
def sQ{N aK aY q:Nat}{tm:dj}{l:eO}{v:QV}(s:Qs)(aV:df f0 N)(hv:v.at f0 q)(hn:N<=aY)(P3:v.s.bJ<=s.bJ)
  (iX:fK (bO f0 q v s) (bO f0 q v s) id tm l):
  Le ⟨tm,bO f0 q v s,aK,N,[]⟩ ⟨DM.look l,bO f0 q v s,aY,N,[]⟩:=by
 have k:=eo hv s;have n:=hv.ne;refine sP s aV hv hn P3 ?_ k.q k.hp k.m ?_ iX
 ·simp
 ·simp[n.aq,n.ap,n.am]
def avh{q N i:Nat}{v:QV}(hN:∀r,N<=r->f0 r=none)(h:v.at f0 q)(hs:v.s.ok v.l.an)(hi:i<v.s.heap.length)(dN:v.s.heap.length<=1000000):
  aQ aj 142 [.ptr q 0,.v (ti i)] f0 ⟨True,.v (.ew []),bO f0 q v (uR v.l.an i v.s)⟩:=by
 obtain⟨R,hR⟩:=be (uR v.l.an i v.s);rw[hR];have aC:=als (aeg ay.nil);refine aui.qE hN (by simp) λaV=>?_;have eA:∀s,bO f0 q v s q=some (qB v.a v.hp v.m s):=λs=>(eo h s).q;simp;apply aa.block;refine aa.loop (λp:Nat×Qs=>⟨DM.look [(0,.ptr q 0),(1,.v (ti p.1))],bO f0 q v p.2,N+1000,N,[]⟩)
  (λp=>p.1<p.2.heap.length/\p.2.ok v.l.an/\uR v.l.an p.1 p.2=R/\p.2.heap.length<=1000000/\p.2.bJ=v.s.bJ) (λp=>p.1) (i,v.s) ?_ ⟨hi,hs,hR,dN,rfl⟩ (λp hp=>?_)
 ·refine sP v.s (L:=[]) aV h (by omega) (ed _) (by simp) h.q h.hp h.m rfl ?_;simp[eA,qB]
 obtain⟨i,s⟩:=p;obtain⟨p1,p2,p3,p4,p5⟩:=hp;simp only at p1 p2 p3 p4 p5;have hv:=eo h s;have k1:=λx y=>W3 (i:=x) (j:=y) hv;have k2:=λx y=>Ll (i:=x) (j:=y) hv;have e0:∀s',bO (bO f0 q v s) q (v.to s) s'=bO f0 q v s':=jy f0 q v s;simp only[QV.to,Qs.e]at k1 k2;unfold uR at p3;by_cases hz:i=0
 ·subst hz;rw[Zdg (by omega)]at p3;subst p3;apply aa.seq;apply aa.cY aC fw (rs:=zN) rfl (by kernel_rfl) [13];simp[zN];refine aa.cond rfl (λg=>by cases g) (λg=>?_);apply aa.exit;simp[J3]
 ·have w1:IntKind.i64.wrap ((i:Int)-1)=((i-1:Nat):Int):=by rw[aF (by omega)];omega
  have w2:IntKind.i64.wrap (((i-1:Nat):Int).tdiv 2)=(((i-1)/2:Nat):Int):=by rw[E6 (by omega),aF (by omega)];omega
  have w3:IntKind.i64.wrap (((i-1:Nat):Int)/2)=(((i-1)/2:Nat):Int):=by rw[aF (by omega)];omega
  obtain⟨c1,b8⟩:=be (decide (ja v.l.an (s.e i) (s.e ((i-1)/2:Nat))):Bool);have gZ:=b8;simp only[Qs.e,iQ]at gZ;have hz':0<i:=by omega
  have zo:(i-1)/2<s.heap.length:=by omega
  apply aa.seq;apply aa.cY aC fw (rs:=zN) rfl (by kernel_rfl) [0,1,13];obtain⟨y,hy⟩:=be ((i-1)/2);rw[hy]at w2 w3 b8 gZ zo p3;simp[zN,w1,w3,k1,hz',zo,p1,p2.r];refine aa.cond rfl (λg=>?_) (λg=>?_)
  ·have g:c1=true:=by rw[<-b8];simpa [Qs.e,p1,zo]using g
   subst g;rw[Zdh ⟨hz',qW b8⟩]at p3;have so:=p2.dn (i:=i) (j:=y) ⟨by omega,by omega⟩ ⟨by omega,by omega⟩;have so2:=p2.swap (i:=i) (j:=y) ⟨by omega,by omega⟩ ⟨by omega,by omega⟩;apply aa.skip;simp;apply aa.block;apply aa.cY aC fw (rs:=J2) rfl (by kernel_rfl) [0,1];simp[J2,w1,w3,k2,so,e0];apply aa.fJ aC fw [0,1];simp[abA,w1,w3];refine⟨y,s.swap i y,sQ _ aV h (by omega) (by simp[p5]) ?_,⟨by simpa using zo,so2,p3,by simpa using p4,by simpa using p5⟩,by omega⟩;simp[eA,qB]
  ·have g:c1=false:=by rw[<-b8];simpa [Qs.e,p1,zo]using g
   subst g;rw[Zdg λx=>wQ b8 x.2]at p3;subst p3;apply aa.exit;simp[J3]
noncomputable def Sb:bF->bq->fV
 |[.ptr q 0,.v (.int .i64 i)],f=>⟨(∃v:QV,v.at f q)/\(eY f q).s.ok (eY f q).l.an/\(0<=i/\i<(eY f q).s.heap.length)/\(eY f q).s.heap.length<=1000000,.v (.ew []),bO f q (eY f q) (uR (eY f q).l.an i.toNat (eY f q).s)⟩
 |_,f=>⟨False,.undef,f⟩
def WT{v:QV}{q:Nat}{i:Int}(h:v.at f q):Sb [.ptr q 0,.v (ti i)] f=⟨v.s.ok v.l.an/\(0<=i/\i<v.s.heap.length)/\v.s.heap.length<=1000000,.v (.ew []),bO f q v (uR v.l.an i.toNat v.s)⟩:=by
 have hx:∃v:QV,v.at f q:=⟨v,h⟩;simp only[Sb,fm h,hx,qI]
def agk:∀args ab,(Sb args ab).ok->(∀N,(∀r,N<=r->ab r=none)->aQ aj 142 args ab (Sb args ab))/\∀r,ab r=none->(Sb args ab).ab r=none:=by
 intro args ab h;unfold Sb at h⊢;split at h
 ·rename_i q i;obtain⟨⟨v,hv⟩,hs,⟨i0,i1⟩,hl⟩:=h;rw[fm hv]at hs i1 hl⊢;obtain⟨i,rfl⟩:=kK i0;exact⟨λN hN=>aQ.of (avh hN hv hs (by omega) hl) rfl rfl,λr hr=>g5 hv _ hr⟩
 ·exact h.elim
def alo{l:List (Nat×DM.Spec)}(h:ay aj (bB l)):ay aj (bB ((142,en Sb)::l)):=ay.ij h agk
end
def uS(an:bY)(s:Qs)(i:Nat):Nat->Nat
 |0=>i
 |t+1=>if ja an (s.e (2*i+1+t:Nat)) (s.e (uS an s i t))then 2*i+1+t else uS an s i t
def kT(s:Qs)(i:Nat):Nat:=min 2 (s.heap.length-(2*i+1))
def dF(an:bY)(s:Qs)(i:Nat):Nat:=uS an s i (kT s i)
def ug(an:bY)(s:Qs)(i:Nat):∀t,uS an s i t=i\/(2*i+1<=uS an s i t/\uS an s i t<2*i+1+t)
 |0=>.inl rfl
 |t+1=>by
  have:=ug an s i t;unfold uS;split<;>omega
def ir(an:bY)(s:Qs)(i:Nat):dF an s i=i\/(i<dF an s i/\dF an s i<s.heap.length):=by
 have:=ug an s i (kT s i);unfold dF;unfold kT at*
 omega
def fG(an:bY)(i:Nat)(s:Qs):Qs:=
 if h:dF an s i=i then s else fG an (dF an s i) (s.swap i (dF an s i:Nat))
termination_by s.heap.length-i
decreasing_by
 have:=ir an s i;simp only[Qs.dP];omega
def avi{f0:bq}{q N i:Nat}{v:QV}(hN:∀r,N<=r->f0 r=none)(h:v.at f0 q)(hs:v.s.ok v.l.an)(hi:i<=1000000)(dN:v.s.heap.length<=1000000):
  aQ aj 143 [.ptr q 0,.v (ti i)] f0 ⟨True,.v (.ew []),bO f0 q v (fG v.l.an i v.s)⟩:=by
 obtain⟨R,hR⟩:=be (fG v.l.an i v.s);rw[hR];have aC:=als (aeg ay.nil);refine auk.qE hN (by simp) λaV=>?_;have eA:∀s,bO f0 q v s q=some (qB v.a v.hp v.m s):=λs=>(eo h s).q;simp;apply aa.block;refine aa.loop (λp:Nat×Qs=>⟨DM.look [(0,.ptr q 0),(1,.v (ti p.1))],bO f0 q v p.2,N+1000,N,[]⟩)
  (λp=>p.1<=1000000/\p.2.ok v.l.an/\fG v.l.an p.1 p.2=R/\p.2.heap.length<=1000000/\p.2.bJ=v.s.bJ) (λp=>p.2.heap.length-p.1) (i,v.s) ?_ ⟨hi,hs,hR,dN,rfl⟩ (λp hp=>?_)
 ·refine sP v.s (L:=[]) aV h (by omega) (ed _) (by simp) h.q h.hp h.m rfl ?_;simp[eA,qB]
 obtain⟨i,s⟩:=p;obtain⟨p1,p2,p3,p4,p5⟩:=hp;simp only at p1 p2 p3 p4 p5;have hv:=eo h s;have k1:=λx y=>W3 (i:=x) (j:=y) hv;have k2:=λx y=>Ll (i:=x) (j:=y) hv;have e0:∀s',bO (bO f0 q v s) q (v.to s) s'=bO f0 q v s':=jy f0 q v s;have hq:=hv.q;have hh:=hv.hp;simp only[QV.to,Qs.e,qB,hB]at k1 k2 hq hh;have w1:IntKind.i64.wrap (2*(i:Int))=2*(i:Int):=aF (by omega);have w2:IntKind.i64.wrap (2*(i:Int)+1)=2*(i:Int)+1:=aF (by omega);have w3:IntKind.i64.wrap (2*(i:Int)+2)=2*(i:Int)+2:=aF (by omega);apply aa.block;apply aa.ag aC fw [0,1,4];simp[abB];apply aa.sq aC fw [0,1,4,5];simp[abC,w1,w2];apply aa.block;refine aa.loop (λt:Nat=>⟨DM.look [(0,.ptr q 0),(1,.v (ti i)),(4,.v (ti (uS v.l.an s i t))),(5,.v (ti (2*i+1+t:Nat)))],bO f0 q v s,N+2000,N,[]⟩)
  (λt=>t<=kT s i) (λt=>2-t) 0 (sQ _ aV h (by omega) (by simp[p5]) ?_) (by omega) (λt ht=>?_)
 ·simp[eA,qB,uS]
 have auN:kT s i<=2/\(kT s i<=s.heap.length-(2*i+1))/\(kT s i=2\/kT s i=s.heap.length-(2*i+1)):=by unfold kT;omega
 obtain⟨L,hL⟩:=be (uS v.l.an s i t);have hLo:=ug v.l.an s i t;rw[hL]at hLo⊢;obtain⟨K,hK⟩:=be (2*i+1+t);rw[hK]at hLo⊢;obtain⟨c1,b8⟩:=be (decide (t<kT s i):Bool);apply aa.seq;refine aa.cH aC fw [(0,.ptr q 0),(1,.v (ti i)),(4,.v (ti L)),(5,.v (ti K)),(23,.v (.bool c1))] ?_ ?_
 ·by_cases z1:t<2
  ·have z2:(K:Int)<=2*(i:Int)+2:=by omega
   by_cases z3:K<s.heap.length
   ·have:c1=true:=by rw[<-b8];simp;omega
    simp[J4,w1,w3,hq,hh,z2,z3,this]
   ·have:c1=false:=by rw[<-b8];simp;omega
    simp[J4,w1,w3,hq,hh,z2,z3,this]
  ·have z2:¬(K:Int)<=2*(i:Int)+2:=by omega
   have:c1=false:=by rw[<-b8];simp;omega
   simp[J4,w1,w3,z2,this]
 refine aa.cond rfl (λg=>?_) (λg=>?_)
 ·have g:c1=true:=by simpa using g
  subst g;have ht2:t<kT s i:=qW b8;have hKl:K<s.heap.length:=by omega
  have Zw:L<s.heap.length:=by omega
  have wK:IntKind.i64.wrap ((K:Int)+1)=((2*i+1+(t+1):Nat):Int):=by rw[aF (by omega)];omega
  have o9:uS v.l.an s i (t+1)=if ja v.l.an (s.e K) (s.e L)then K else L:=by
   have:uS v.l.an s i (t+1)=if ja v.l.an (s.e (2*i+1+t:Nat)) (s.e (uS v.l.an s i t))then 2*i+1+t else uS v.l.an s i t:=rfl
   rw[this,hK,hL]
  apply aa.skip;simp;apply aa.seq;apply aa.block;apply aa.cY aC fw (rs:=J5) rfl (by kernel_rfl) [0,1,4,5,29];simp[J5,k1,p2.r,hKl,Zw];obtain⟨c2,gZ⟩:=be (decide (ja v.l.an (s.e K) (s.e L)):Bool);refine aa.to ⟨DM.look [(0,.ptr q 0),(1,.v (ti i)),(4,.v (ti (uS v.l.an s i (t+1)))),(5,.v (ti K))],bO f0 q v s,N+4000,N,[]⟩ ?_ ?_
  ·refine aa.cond rfl (λg=>?_) (λg=>?_)
   ·have g:ja v.l.an (s.e K) (s.e L):=by simpa [Qs.e,hKl,Zw]using g
    rw[cF g]at o9;apply aa.fJ aC fw [0,1,4,5];simp[abD];refine sQ _ aV h (by omega) (by simp[p5]) ?_;simp[eA,qB,o9]
   ·have g:¬ja v.l.an (s.e K) (s.e L):=by simpa [Qs.e,hKl,Zw]using g
    rw[aZ g]at o9;apply aa.skip;simp;refine sQ _ aV h (by omega) (by simp[p5]) ?_;simp[eA,qB,o9]
  simp;apply aa.fJ aC fw [0,1,4,5];simp[abE,wK];refine⟨t+1,sQ _ aV h (by omega) (by simp[p5]) ?_,by omega,by omega⟩;simp[eA,qB]
 ·have g:c1=false:=by simpa using g
  subst g;have ht2:t=kT s i:=by have:=wQ b8;omega
  have hLs:dF v.l.an s i=L:=by rw[<-hL,ht2];rfl
  unfold fG at p3;rw[hLs]at p3;apply aa.exit;simp;apply aa.sq aC fw [0,1,4,33];simp[abF];refine aa.cond rfl (λg=>?_) (λg=>?_)
  ·have g:L=i:=by simp at g;omega
   rw[Zdh g]at p3;subst p3;apply aa.ret;simp[SZ]
  ·have g:¬L=i:=by simp at g;omega
   rw[Zdg g]at p3;have Zw:i<L/\L<s.heap.length:=by have:=ir v.l.an s i;omega
   have so:=p2.dn (i:=i) (j:=L) ⟨by omega,by omega⟩ ⟨by omega,by omega⟩;have so2:=p2.swap (i:=i) (j:=L) ⟨by omega,by omega⟩ ⟨by omega,by omega⟩;apply aa.skip;simp;apply aa.cY aC fw (rs:=J6) rfl (by kernel_rfl) [0,4];simp[J6,k2,so,e0];apply aa.fJ aC fw [0,1];simp[abG];refine⟨L,s.swap i L,sQ _ aV h (by omega) (by simp[p5]) ?_,⟨by omega,so2,p3,by simpa using p4,by simpa using p5⟩,by simp;omega⟩;simp[eA,qB]
noncomputable def Sc:bF->bq->fV
 |[.ptr q 0,.v (.int .i64 i)],f=>⟨(∃v:QV,v.at f q)/\(eY f q).s.ok (eY f q).l.an/\(0<=i/\i<=1000000)/\(eY f q).s.heap.length<=1000000,.v (.ew []),bO f q (eY f q) (fG (eY f q).l.an i.toNat (eY f q).s)⟩
 |_,f=>⟨False,.undef,f⟩
def WU{v:QV}{f:bq}{q:Nat}{i:Int}(h:v.at f q):Sc [.ptr q 0,.v (ti i)] f=⟨v.s.ok v.l.an/\(0<=i/\i<=1000000)/\v.s.heap.length<=1000000,.v (.ew []),bO f q v (fG v.l.an i.toNat v.s)⟩:=by
 have hx:∃v:QV,v.at f q:=⟨v,h⟩;simp only[Sc,fm h,hx,qI]
def agl:∀args ab,(Sc args ab).ok->(∀N,(∀r,N<=r->ab r=none)->aQ aj 143 args ab (Sc args ab))/\∀r,ab r=none->(Sc args ab).ab r=none:=by
 intro args ab h;unfold Sc at h⊢;split at h
 ·rename_i q i;obtain⟨⟨v,hv⟩,hs,⟨i0,i1⟩,hl⟩:=h;rw[fm hv]at hs hl⊢;obtain⟨i,rfl⟩:=kK i0;exact⟨λN hN=>aQ.of (avi hN hv hs (by omega) hl) rfl rfl,λr hr=>g5 hv _ hr⟩
 ·exact h.elim
def alp{l:List (Nat×DM.Spec)}(h:ay aj (bB l)):ay aj (bB ((143,en Sc)::l)):=ay.ij h agl
def fZ(s:Qs)(x:Int):Qs:=⟨s.heap++[⟨x,s.next,s.bA⟩],s.bJ+1,eu s.es s.mc s.next s.heap.length,xA s.es s.mc s.next,s.next+1,s.bA+1⟩
def ip(an:bY)(s:Qs)(x:Int):Qs:=uR an s.heap.length (fZ s x)
def wV{α:Type}{p:α->Bool}{a b:List α}{i:Nat}(h:a.findIdx? p=some i):(a++b).findIdx? p=some i:=by
 rw[List.findIdx?_append,h];rfl
def CY{l:Pl}{c:Nat}{k v k':Int}{i:Nat}(h:ue l k'=some i):ue (eu l c k v) k'=some i:=by
 cases hk:ue l k with
 |some j=>rw[oa hk];exact h
 |none=>
  unfold eu;rw[hk];exact wV h
def CZ(l:Pl)(c:Nat)(k v:Int):∃i,ue (eu l c k v) k=some i:=by
 cases hk:ue l k with
 |some j=>exact⟨j,by rw[oa hk];exact hk⟩
 |none=>
  unfold eu;rw[hk];unfold ue at hk⊢;rw[List.findIdx?_append,hk];exact⟨_,by simp;rfl⟩
def vP{s:Qs}{an:bY}{x:Int}(h:s.ok an)(hx:0<=x/\x<an.length):(fZ s x).ok an:=by
 obtain⟨h1,h2⟩:=Ay (k:=s.next) (v:=s.heap.length) h.pl h.st;refine⟨h1,h2,λe he=>?_,λe he=>?_⟩
 ·rcases oi.1 he with he|he
  ·obtain⟨i,hi⟩:=h.qJ e he;exact⟨i,CY hi⟩
  ·simp at he;subst he;exact CZ _ _ _ _
 ·rcases oi.1 he with he|he
  ·exact h.r e he
  ·simp at he;subst he;exact hx
def yo(s:Qs)(an:bY)(x:Int):Prop:=s.ok an/\(0<=x/\x<an.length)/\s.heap.length<=100000/\(0<=s.next/\s.next<=1000000000000)/\(0<=s.bA/\s.bA<=1000000000000)
def t82{f0:bq}{q N:Nat}{x:Int}{v:QV}(hN:∀r,N<=r->f0 r=none)(h:v.at f0 q)(hs:yo v.s v.l.an x):
  aQ aj 121 [.ptr q 0,.v (ti x)] f0 ⟨True,.v (ti v.s.next),bO f0 q v (ip v.l.an v.s x)⟩:=by
 obtain⟨ho,hx,h5,h6,h7⟩:=hs;have nA:=vP ho hx;obtain⟨R,hR⟩:=be (ip v.l.an v.s x);rw[hR];unfold ip at hR;obtain⟨S,hS⟩:=be (fZ v.s x);rw[hS]at hR nA;have aC:=alo ay.nil;refine c82.qE hN (by simp) λaV=>?_;have eA:∀s,bO f0 q v s q=some (qB v.a v.hp v.m s):=λs=>(eo h s).q;obtain⟨n1,n2,n3,n4,n5,n6,_,_,_,_,_,_⟩:=h.ne;have IE:=Ne.symm n1;have Hp:=Ne.symm n2;have LA:=Ne.symm n3;have h1:=h.q;have h2:=h.hp;have h3:=h.m;simp only[qB,hB,mB]at h1 h2 h3;obtain⟨nx,EP⟩:=be v.s.next;obtain⟨ck,DI⟩:=be v.s.bA;obtain⟨hp,mO⟩:=be v.hp;obtain⟨m,hm⟩:=be v.m;obtain⟨bJ,hve⟩:=be v.s.bJ;have hSd:S=⟨v.s.heap++[⟨x,nx,ck⟩],bJ+1,eu v.s.es v.s.mc nx v.s.heap.length,xA v.s.es v.s.mc nx,nx+1,ck+1⟩:=by rw[<-hS,<-EP,<-DI,<-hve];rfl
 rw[EP,DI,mO,hve]at h1;rw[hm]at h1 h3;rw[mO,hve]at h2;rw[EP]at h6;rw[DI]at h7;rw[mO]at n1 n3 n5 IE LA;rw[hm]at n2 n3 n6 Hp LA;rw[EP];have w1:IntKind.i64.wrap (nx+1)=nx+1:=aF (by omega);have w2:IntKind.i64.wrap (ck+1)=ck+1:=aF (by omega);have pU:dR 24 (v.s.heap.length+1):=by simp[dR];omega
 simp;apply aa.ag aC fw [0,1];simp[ait];apply aa.ag aC fw [0,1,5,6];simp[aiu,h1,h2];apply aa.ag aC fw [0,5,6];have O8:gn 3 1 [ti x,ti nx,ti ck]=[[ti x,ti nx,ti ck]]:=rfl;simp[aiv,h1,h2,n1,O8,pU];apply aa.ag aC fw [0,5,6];simp[aiw,h3,Hp,LA,N9,G0];apply aa.ag aC fw [0,5,6];simp[aix,w1,w2,n2];refine aa.le (sP (v:=v) S (l:=[(0,.ptr q 0),(5,.v (ti nx)),(6,.v (ti v.s.heap.length))]) (aY:=N+2000) aV h (by omega) (by rw[hve,hSd];simp) ?_ ?_ ?_ ?_ ?_ ?_) ?_
 ·rw[mO,hm];simp
 ·rw[mO,hm,hSd];simp[qB]
 ·rw[mO,hSd];simp[IE,n3,hB,ua];rfl
 ·rw[hm,hSd];simp[Hp,mB]
 ·simp[n4,n5,n6]
 ·simp[eA,qB]
 have k1:=λy=>WT (i:=y) (eo h S);have hl:S.heap.length=v.s.heap.length+1:=by rw[hSd];simp
 have e0:∀s',bO (bO f0 q v S) q (v.to S) s'=bO f0 q v s':=jy f0 q v S;simp only[QV.to]at k1 e0;apply aa.cY aC fw (rs:=Qm) rfl (by kernel_rfl) [5];simp[Qm,k1,nA,hl,e0,hR];refine⟨by omega, ?_⟩;apply aa.ag aC fw [4];simp[aiy];apply aa.ret;simp[dm]
noncomputable def k82:bF->bq->fV
 |[.ptr q 0,.v (.int .i64 x)],f=>⟨(∃v:QV,v.at f q)/\yo (eY f q).s (eY f q).l.an x,.v (ti (eY f q).s.next),bO f q (eY f q) (ip (eY f q).l.an (eY f q).s x)⟩
 |_,f=>⟨False,.undef,f⟩
def anU{v:QV}{f:bq}{q:Nat}{x:Int}(h:v.at f q):k82 [.ptr q 0,.v (ti x)] f=⟨yo v.s v.l.an x,.v (ti v.s.next),bO f q v (ip v.l.an v.s x)⟩:=by
 have hx:∃v:QV,v.at f q:=⟨v,h⟩;simp only[k82,fm h,hx,qI]
def an5:∀args ab,(k82 args ab).ok->(∀N,(∀r,N<=r->ab r=none)->aQ aj 121 args ab (k82 args ab))/\∀r,ab r=none->(k82 args ab).ab r=none:=by
 intro args ab h;unfold k82 at h⊢;split at h
 ·rename_i q x;obtain⟨⟨v,hv⟩,hs⟩:=h;rw[fm hv]at hs⊢;exact⟨λN hN=>aQ.of (t82 hN hv hs) rfl rfl,λr hr=>g5 hv _ hr⟩
 ·exact h.elim
def au8{l:List (Nat×DM.Spec)}(h:ay aj (bB l)):ay aj (bB ((121,en k82)::l)):=ay.ij h an5
def gk(s:Qs):Qs:=let s1:=s.swap 0 ((s.heap.length:Int)-1)
 ⟨s1.heap.take (s.heap.length-1),s1.bJ+1,oL s1.es (s.e 0).h,s1.mc,s1.next,s1.bA⟩
def fQ(an:bY)(s:Qs):Qs:=if s.heap=[]then s else fG an 0 (gk s)
def vQ(s:Qs):T:=if s.heap=[]then .ew [ti 0,.bool false]else .ew [ti (s.e 0).x,.bool true]
def WJ{l:Pl}{k k':Int}(h:k≠k'):(∃i,ue l k'=some i)->∃i,ue (oL l k) k'=some i:=by
 rintro⟨i,hi⟩;unfold oL;cases hk:ue l k with
 |none=>exact⟨i,hi⟩
 |some j=>
  obtain⟨e,h1,h2,_⟩:=AH hi;obtain⟨e',h3,h4,_⟩:=AH hk;have b7:i≠j:=λx=>by
   subst x;rw[h1]at h3;cases h3;simp at h2 h4;exact h (h4.symm.trans h2)
  have li:e∈l.eraseIdx j:=List.mem_eraseIdx_iff_getElem?.2 ⟨i,b7,h1⟩;have:(List.findIdx? (λe=>e.2.1==k') (l.eraseIdx j)).isSome=true:=by
   rw[List.findIdx?_isSome,Zct];exact⟨e,li,h2⟩
  exact Zby.1 this
def Oa{l:Pl}{k:Int}{c:Nat}(h:qq l)(hc:∀e∈l,e.1<c):qq (oL l k)/\∀e∈oL l k,e.1<c:=by
 unfold oL;cases ue l k with
 |none=>exact⟨h,hc⟩
 |some j=>
  refine⟨?_,λe he=>hc e (ZcR he)⟩;unfold qq;rw[<-sa];exact h.eraseIdx j
def Qs.nd(s:Qs):Prop:=∀i j:Nat,i<s.heap.length->j<s.heap.length->(s.e i).h=(s.e j).h->i=j
def Au{s:Qs}{an:bY}(h:s.ok an)(hn:s.nd)(hl:0<s.heap.length):(gk s).ok an:=by
 have h1:=h.swap (i:=0) (j:=(s.heap.length:Int)-1) ⟨by omega,by omega⟩ ⟨by omega,by omega⟩;obtain⟨a1,a2⟩:=Oa (k:=(s.e 0).h) h1.pl h1.st;refine⟨a1,a2,λe he=>?_,λe he=>h1.r e (Ew he)⟩;have he1:e∈(s.swap 0 ((s.heap.length:Int)-1)).heap:=Ew he;refine WJ (λhk=>?_) (h1.qJ e he1);obtain⟨y,hy,rfl⟩:=If he;simp only[gk,we,Qs.dP]at hy;have mf:y<s.heap.length-1:=by omega
 have fW:y<s.heap.length:=by omega
 have Ym:((s.heap.length:Int)-1).toNat=s.heap.length-1:=by omega
 by_cases hz:y=0
 ·subst hz;have Zp:s.heap.length-1<s.heap.length:=by omega
  have:(gk s).heap[0]=s.e ((s.heap.length-1:Nat):Int):=by
   have h0:¬s.heap.length-1=0:=by omega
   simp only[gk,Qs.swap,ZcX,Ym,Zdi,Zcf,h0,w7,jP];rw[show(s.heap.length:Int)-1=((s.heap.length-1:Nat):Int)by omega]
  rw[this]at hk;have:=hn 0 (s.heap.length-1) hl (by omega) (by simpa using hk);omega
 ·have:(gk s).heap[y]=s.e (y:Int):=by
   have h0:¬s.heap.length-1=y:=by omega
   have h00:¬0=y:=by omega
   simp only[gk,Qs.swap,ZcX,Ym,Zdi,Zcf,h0,h00,w7,Qs.e,iQ];simp[List.getD,fW]
  rw[this]at hk;have:=hn 0 y hl fW (by simpa using hk);omega
def xy(s:Qs)(an:bY):Prop:=s.ok an/\s.nd/\s.heap.length<=1000000
def t85{f0:bq}{q N:Nat}{v:QV}(hN:∀r,N<=r->f0 r=none)(h:v.at f0 q)(hs:xy v.s v.l.an):
  aQ aj 124 [.ptr q 0] f0 ⟨True,.v (vQ v.s),bO f0 q v (fQ v.l.an v.s)⟩:=by
 obtain⟨ho,zi,dN⟩:=hs;obtain⟨RV,Rp⟩:=be (vQ v.s);obtain⟨R,hR⟩:=be (fQ v.l.an v.s);rw[hR,Rp];unfold fQ at hR;unfold vQ at Rp;have aC:=aeg (alp ay.nil);refine c85.qE hN (by simp) λaV=>?_;have eA:∀s,bO f0 q v s q=some (qB v.a v.hp v.m s):=λs=>(eo h s).q;have Pb:q<N:=(aV q _ h.q).1;have nk:v.hp<N:=(aV v.hp _ h.hp).1;have CV:v.m<N:=(aV v.m _ h.m).1;obtain⟨n1,n2,n3,n4,n5,n6,_,_,_,_,_,_⟩:=h.ne;have IE:=Ne.symm n1;have Hp:=Ne.symm n2;have LA:=Ne.symm n3;have n4':=Ne.symm n4;have h1:=h.q;have h2:=h.hp;have h3:=h.m;simp only[qB,hB,mB]at h1 h2 h3;have nq:∀k,q≠N+k:=λk=>by omega
 have np:∀k,v.hp≠N+k:=λk=>by omega
 have nm:∀k,v.m≠N+k:=λk=>by omega
 have na:∀k,v.a≠N+k:=λk=>by have:=(aV v.a _ h.l.a).1;omega
 simp;apply aa.ag aC fw [0,2,3];simp[aiz];apply aa.sq aC fw [0,2,3,11];simp[aiA,h1,h2];refine aa.cond rfl (λg=>?_) (λg=>?_)
 ·have g:v.s.heap=[]:=by simpa using g
  rw[cF g]at hR Rp;apply aa.ag aC fw [2,3];simp[aiB];rw[<-hR];refine aa.le (sP v.s (l:=[(2,.v (ti 0)),(3,.v (.bool false))]) (aY:=N+1000) aV h (by omega) (ed _) ?_ ?_ ?_ ?_ ?_ ?_) ?_
  ·simp;omega
  ·simp[nq,fq,h.q]
  ·simp[np,fq,h.hp]
  ·simp[nm,fq,h.m]
  ·simp[na,fq]
  ·simp
  apply aa.ret;simp[Qp,Rp]
 ·have g:¬v.s.heap=[]:=by simpa using g
  rw[aZ g]at hR Rp;have hl:0<v.s.heap.length:=NT.2 g;have r0:=dO hl;have w1:IntKind.i64.wrap ((v.s.heap.length:Int)-1)=(v.s.heap.length:Int)-1:=aF (by omega);obtain⟨⟨ex,eh,et⟩,he⟩:=be (v.s.heap.getD 0 default);have Zk:v.s.e 0=⟨ex,eh,et⟩:=he;rw[he]at r0;rw[Zk]at Rp;simp only[kU.enc]at r0;have r0':DM.rowAt (dJ v.s.heap) (0:Int)=[ti ex,ti eh,ti et]:=r0;apply aa.skip;simp;apply aa.kv aC fw (rs:=db (jo q v.hp N) (fg abH [none,none,none,none,none,none,none,none,none,some [0],some [1],none,none,some [105],none])) (.inl rfl) ((d8 (kh Pb nk n1) _ _ _).trans (by kernel_rfl)) [0,4,5];simp[abH,db,fF,fg,jo,cX,bN,aP,h1,h2,hl,r0',w1];refine aa.le (sP v.s (l:=[(0,.ptr q 0),(4,.v (.box [ti ex,ti eh,ti et])),(5,.v (ti ((v.s.heap.length:Int)-1)))]) (aY:=N+1000) aV h (by omega) (ed _) ?_ ?_ ?_ ?_ ?_ ?_) ?_
  ·simp;omega
  ·simp[nq,fq,h.q]
  ·simp[np,fq,h.hp]
  ·simp[nm,fq,h.m]
  ·simp[na,fq]
  ·simp[fq,eA,qB];refine bZ aV (by omega) ?_;simp;omega
  have k1:=λx y=>Ll (i:=x) (j:=y) (eo h v.s);have e0:∀s',bO (bO f0 q v v.s) q (v.to v.s) s'=bO f0 q v s':=jy f0 q v v.s;simp only[QV.to]at k1 e0;have so:=ho.dn (i:=0) (j:=(v.s.heap.length:Int)-1) ⟨by omega,by omega⟩ ⟨by omega,by omega⟩;have so2:=ho.swap (i:=0) (j:=(v.s.heap.length:Int)-1) ⟨by omega,by omega⟩ ⟨by omega,by omega⟩;apply aa.cY aC fw (rs:=Qn) rfl (by kernel_rfl) [0,4,5];simp[Qn,k1,so,e0];obtain⟨P,hP⟩:=be (gk v.s);have adG:=Au ho zi hl;rw[hP]at adG hR;obtain⟨S1,sY⟩:=be (v.s.swap 0 ((v.s.heap.length:Int)-1));have Zx:P=⟨S1.heap.take (v.s.heap.length-1),S1.bJ+1,oL S1.es eh,S1.mc,S1.next,S1.bA⟩:=by rw[<-hP,<-sY];simp only[gk,Zk]
  have hSl:S1.heap.length=v.s.heap.length:=by rw[<-sY];simp
  have hSv:S1.bJ=v.s.bJ:=by rw[<-sY];simp
  rw[sY];have Cl:=eo h S1;have j1:=Cl.q;have j2:=Cl.hp;have j3:=Cl.m;simp only[qB,hB,mB]at j1 j2 j3;apply aa.ag aC fw [0,4];simp[aiC,j1,j2,hSl];refine⟨⟨by omega,by omega⟩, ?_⟩;obtain⟨G,hG⟩:=be (bO f0 q v R);rw[hG];simp only[bO,XU];refine aa.le (Le.cut q 1 (q:=v.hp) (bJ:=S1.bJ) (n:=v.s.heap.length-1) (e:=220) (sz:=3) (av:=dJ S1.heap) (cs:=[.oP (.func 83) [.ptr v.a 0],.wa v.hp S1.bJ 0 (v.s.heap.length-1),.je v.m,.v (ti S1.next),.v (ti S1.bA)]) ?_ rfl ?_) ?_
  ·simp
  ·simp[IE,hB]
  rw[kx,kx];simp only[Zcg,Zb5];apply aa.ag aC fw [0,4];simp[aiD,Hp,LA,mB,Oc];refine aa.le (sP P (l:=[(0,.ptr q 0),(4,.v (.box [ti ex,ti eh,ti et]))]) (aY:=N+4000) aV h (by omega) (by rw[Zx];simp[hSv]) ?_ ?_ ?_ ?_ ?_ ?_) ?_
  ·simp
  ·rw[Zx];simp[n2,qB]
  ·rw[Zx];simp[IE,n3,hB,yn]
  ·rw[Zx];simp[mB]
  ·simp[n4,n5,n6]
  ·simp[eA,qB]
  have k2:=λx=>WU (i:=x) (eo h P);have e1:∀s',bO (bO f0 q v P) q (v.to P) s'=bO f0 q v s':=jy f0 q v P;simp only[QV.to]at k2 e1;have hPl:P.heap.length<=1000000:=by rw[Zx];simp;omega
  apply aa.cY aC fw (rs:=Qo) rfl (by kernel_rfl) [4];simp[Qo,k2,adG,e1,hR,hPl,hG];apply aa.ag aC fw [2,3];simp[aiE];apply aa.ret;simp[Qp,Rp]
noncomputable def W6:bF->bq->fV
 |[.ptr q 0],f=>⟨(∃v:QV,v.at f q)/\xy (eY f q).s (eY f q).l.an,.v (vQ (eY f q).s),bO f q (eY f q) (fQ (eY f q).l.an (eY f q).s)⟩
 |_,f=>⟨False,.undef,f⟩
def an1{v:QV}{f:bq}{q:Nat}(h:v.at f q):W6 [.ptr q 0] f=⟨xy v.s v.l.an,.v (vQ v.s),bO f q v (fQ v.l.an v.s)⟩:=by
 have hx:∃v:QV,v.at f q:=⟨v,h⟩;simp only[W6,fm h,hx,qI]
def an6:∀args ab,(W6 args ab).ok->(∀N,(∀r,N<=r->ab r=none)->aQ aj 124 args ab (W6 args ab))/\∀r,ab r=none->(W6 args ab).ab r=none:=by
 intro args ab h;unfold W6 at h⊢;split at h
 ·rename_i q;obtain⟨⟨v,hv⟩,hs⟩:=h;rw[fm hv]at hs⊢;exact⟨λN hN=>aQ.of (t85 hN hv hs) rfl rfl,λr hr=>g5 hv _ hr⟩
 ·exact h.elim
def atj{l:List (Nat×DM.Spec)}(h:ay aj (bB l)):ay aj (bB ((124,en W6)::l)):=ay.ij h an6
section
variable{an:bY}{hd:Int}
def nO(s:Qs)(i:Nat)(x:Int):Qs:=⟨s.heap.set i ⟨x,(s.e i).h,s.bA⟩,s.bJ,s.es,s.mc,s.next,s.bA+1⟩
def HF(an:bY)(s:Qs)(i:Nat)(x:Int):Qs:=uR an i (nO s i x)
def uU(an:bY)(s:Qs)(hd x:Int):Qs:=
 fG an ((kl (HF an s ((kl s.es hd).getD 0).toNat x).es hd).getD 0).toNat (HF an s ((kl s.es hd).getD 0).toNat x)
structure Ow(s:Qs)(an:bY)(hd x:Int):Prop where
 ok:s.ok an
 xu:∃i:Nat,kl s.es hd=some (i:Int)/\i<s.heap.length/\∃j:Nat,kl (HF an s i x).es hd=some (j:Int)/\j<=1000000
 x:0<=x/\x<an.length
 len:s.heap.length<=1000000
 bA:0<=s.bA/\s.bA<=1000000000000
def WS{s:Qs}{i:Nat}{x:Int}(h:s.ok an)(hi:i<s.heap.length)(hx:0<=x/\x<an.length):(nO s i x).ok an:=by
 refine⟨h.pl,h.st,λe he=>?_,λe he=>?_⟩
 ·rcases Xf he with he|rfl
  ·exact h.qJ e he
  ·exact h.qJ (s.e (i:Int)) (bu (by simpa using hi))
 ·rcases Xf he with he|rfl
  ·exact h.r e he
  ·exact hx
def GQ:∀{i:Nat} {s:Qs},s.ok an->i<s.heap.length->(uR an i s).ok an/\(uR an i s).heap.length=s.heap.length/\(uR an i s).bJ=s.bJ:=by
 intro i;induction i using Nat.strongRecOn with
 |_ i ih=>
  intro s h hi;unfold uR;split
  ·rename_i hc;have hk:=h.swap (i:=i) (j:=((i-1)/2:Nat)) ⟨by omega,by omega⟩ ⟨by omega,by omega⟩;obtain⟨a,b,c⟩:=ih ((i-1)/2) (by omega) hk (by simp;omega);exact⟨a,by simpa using b,by simpa using c⟩
  ·exact⟨h,rfl,rfl⟩
def Ox{l:Pl}{k v:Int}(h:kl l k=some v):∃e:Nat×Int×Int,l.find? (λe=>e.2.1==k)=some e/\e.2.2=v:=by
 unfold kl at h;obtain⟨e,h1,h2⟩:=iV.1 h;exact⟨e,h1,h2⟩
def AE{l:Pl}{k v:Int}(h:kl l k=some v):∃b:Nat,sj (ti k) (vL l)=some (b,ti k,.v (ti v)):=by
 obtain⟨⟨b,k',v'⟩,h1,h2⟩:=Ox h;simp only at h2;subst h2;have:=Zdt h1;simp at this;subst this;exact⟨b,by rw[Oy,h1];rfl⟩
def t81{f0:bq}{q N:Nat}{x:Int}{v:QV}(hN:∀r,N<=r->f0 r=none)(h:v.at f0 q)(hs:Ow v.s v.l.an hd x):
  aQ aj 120 [.ptr q 0,.v (ti hd),.v (ti x)] f0 ⟨True,.v (.bool true),bO f0 q v (uU v.l.an v.s hd x)⟩:=by
 obtain⟨ho,⟨i,hg,hi,j,Sq,hj⟩,hx,dN,DI⟩:=hs;have hU1:=WS ho hi hx;have hU2:=GQ hU1 (i:=i) (by simp[nO];exact hi);obtain⟨b1,hf1⟩:=AE hg;obtain⟨b2,hf2⟩:=AE Sq;obtain⟨R,hR⟩:=be (uU v.l.an v.s hd x);rw[hR];unfold uU at hR;rw[hg]at hR;simp only[St,iQ]at hR;rw[Sq]at hR;simp only[St,iQ]at hR;have afY:HF v.l.an v.s i x=uR v.l.an i (nO v.s i x):=rfl;rw[<-afY]at hU2;obtain⟨S2,O6⟩:=be (HF v.l.an v.s i x);rw[O6]at hR hU2 hf2 afY;obtain⟨S1,sY⟩:=be (nO v.s i x);rw[sY]at hU1 hU2 afY;obtain⟨u1,u2,u3⟩:=hU2;have auW:S1.heap.length=v.s.heap.length:=by rw[<-sY];simp[nO]
 have aC:=alo (alp ay.nil);refine c81.qE hN (by simp) λaV=>?_;have eA:∀s,bO f0 q v s q=some (qB v.a v.hp v.m s):=λs=>(eo h s).q;obtain⟨n1,n2,n3,n4,n5,n6,_,_,_,_,_,_⟩:=h.ne;have IE:=Ne.symm n1;have Hp:=Ne.symm n2;have LA:=Ne.symm n3;have h1:=h.q;have h2:=h.hp;have h3:=h.m;simp only[qB,hB,mB]at h1 h2 h3;have r0:=dO hi;obtain⟨⟨ox,oh,ot⟩,he⟩:=be (v.s.heap.getD i default);have Zk:v.s.e (i:Int)=⟨ox,oh,ot⟩:=by simpa using he
 rw[he]at r0;simp only[kU.enc]at r0;have afZ:S1=⟨v.s.heap.set i ⟨x,oh,v.s.bA⟩,v.s.bJ,v.s.es,v.s.mc,v.s.next,v.s.bA+1⟩:=by rw[<-sY];simp only[nO,Zk]
 have w1:IntKind.i64.wrap (v.s.bA+1)=v.s.bA+1:=aF (by omega);simp;apply aa.ag aC fw [0,1,2];simp[aiF];apply aa.ag aC fw [0,1,2,7,8];simp[aiG,h1,h3,hf1];apply aa.sq aC fw [0,1,2,7,19];simp[aiH];refine aa.cond rfl (λg=>by cases g) (λg=>?_);apply aa.skip;simp;have jH:∀y,DM.rowAt ((dJ v.s.heap).set i y) (i:Int)=y:=λy=>by simp[DM.rowAt,hi]
 apply aa.ag aC fw [0,1,7];simp[aiI,h1,h2,hi,r0,jH];apply aa.ag aC fw [0,1,7];simp[aiJ,h1,w1,n1];refine aa.le (sP (v:=v) S1 (l:=[(0,.ptr q 0),(1,.v (ti hd)),(7,.v (ti (i:Int)))]) (aY:=N+2000) aV h (by omega) (by rw[afZ];exact ed _) ?_ ?_ ?_ ?_ ?_ ?_) ?_
 ·simp
 ·rw[afZ];simp[qB]
 ·rw[afZ];simp[IE,hB,lZ];rfl
 ·rw[afZ];simp[Hp,LA,mB,h3]
 ·simp[n4,n5]
 ·simp[eA,qB]
 have k1:=λy=>WT (i:=y) (eo h S1);have e0:∀s',bO (bO f0 q v S1) q (v.to S1) s'=bO f0 q v s':=jy f0 q v S1;simp only[QV.to]at k1 e0;apply aa.cY aC fw (rs:=Qq) rfl (by kernel_rfl) [0,1];simp[Qq,k1,hU1,auW,hi,dN,e0,<-afY];have k2:=λy=>WU (i:=y) (eo h S2);have e1:∀s',bO (bO f0 q v S2) q (v.to S2) s'=bO f0 q v s':=jy f0 q v S2;have nU:=eo h S2;have j1:=nU.q;have j3:=nU.m;simp only[QV.to,qB,mB]at k2 e1 j1 j3;have u2':S2.heap.length<=1000000:=by omega
 apply aa.cY aC fw (rs:=Qr) rfl (by kernel_rfl) [];simp[Qr,j1,j3,hf2,k2,u1,u2',e1,hR];refine⟨by omega, ?_⟩;apply aa.ag aC fw [6];simp[aiK];apply aa.ret;simp[dm]
noncomputable def k81:bF->bq->fV
 |[.ptr q 0,.v (.int .i64 hd),.v (.int .i64 x)],f=>⟨(∃v:QV,v.at f q)/\Ow (eY f q).s (eY f q).l.an hd x,.v (.bool true),bO f q (eY f q) (uU (eY f q).l.an (eY f q).s hd x)⟩
 |_,f=>⟨False,.undef,f⟩
def anB{v:QV}{f:bq}{q:Nat}{x:Int}(h:v.at f q):k81 [.ptr q 0,.v (ti hd),.v (ti x)] f=⟨Ow v.s v.l.an hd x,.v (.bool true),bO f q v (uU v.l.an v.s hd x)⟩:=by
 have hx:∃v:QV,v.at f q:=⟨v,h⟩;simp only[k81,fm h,hx,qI]
def anC:∀args ab,(k81 args ab).ok->(∀N,(∀r,N<=r->ab r=none)->aQ aj 120 args ab (k81 args ab))/\∀r,ab r=none->(k81 args ab).ab r=none:=by
 intro args ab h;unfold k81 at h⊢;split at h
 ·rename_i q hd x;obtain⟨⟨v,hv⟩,hs⟩:=h;rw[fm hv]at hs⊢;exact⟨λN hN=>aQ.of (t81 hN hv hs) rfl rfl,λr hr=>g5 hv _ hr⟩
 ·exact h.elim
def auX{l:List (Nat×DM.Spec)}(h:ay aj (bB l)):ay aj (bB ((120,en k81)::l)):=ay.ij h anC
end
section
variable{an:bY}
def gC{a b c:kU}(h:¬ja an b a)(k:¬ja an c b):¬ja an c a:=by
 unfold ja at*
 generalize bv an a.x=u at*
 generalize bv an b.x=v at*
 generalize bv an c.x=w at*
 obtain⟨u1,u2⟩:=u;obtain⟨v1,v2⟩:=v;obtain⟨w1,w2⟩:=w;simp only[dg.lt]at*
 omega
def uh(a:kU):¬ja an a a:=by
 unfold ja;generalize bv an a.x=u;obtain⟨u1,u2⟩:=u;simp only[dg.lt];omega
def qt{a b:kU}(h:ja an a b):¬ja an b a:=by
 unfold ja at*
 generalize bv an a.x=u at*
 generalize bv an b.x=v at*
 obtain⟨u1,u2⟩:=u;obtain⟨v1,v2⟩:=v;simp only[dg.lt]at*
 omega
def py(an:bY)(s:Qs):Prop:=∀i:Nat,0<i->i<s.heap.length->¬ja an (s.e i) (s.e ((i-1)/2:Nat))
def yy{s:Qs}(h:py an s):∀i:Nat,i<s.heap.length->¬ja an (s.e i) (s.e (0:Nat)):=by
 intro i;induction i using Nat.strongRecOn with
 |_ i ih=>
  intro hi;by_cases hz:i=0
  ·subst hz;exact uh _
  ·exact gC (ih ((i-1)/2) (by omega) (by omega)) (h i (by omega) hi)
def iC{s:Qs}{i j k:Nat}(hi:i<s.heap.length)(hj:j<s.heap.length)(hk:k<s.heap.length):(s.swap i j).e k=if k=j then s.e i else if k=i then s.e j else s.e k:=by
 simp only[Qs.swap,Qs.e,iQ,List.getD,ZbN];by_cases h1:k=j
 ·subst h1;simp[hj]
 ·by_cases h2:k=i
  ·subst h2;have:¬j=k:=λe=>h1 e.symm;simp[this,h1,hi]
  ·have a1:¬j=k:=λe=>h1 e.symm;have a2:¬i=k:=λe=>h2 e.symm;simp[a1,a2,h1,h2]
def D9:∀{i:Nat} {s:Qs},i<s.heap.length->(∀k:Nat,0<k->k<s.heap.length->k≠i->¬ja an (s.e k) (s.e ((k-1)/2:Nat)))->
  (∀k:Nat,0<k->k<s.heap.length->(k-1)/2=i->0<i->¬ja an (s.e k) (s.e ((i-1)/2:Nat)))->py an (uR an i s):=by
 intro i;induction i using Nat.strongRecOn with
 |_ i ih=>
  intro s hi h1 h2;unfold uR;split
  ·rename_i hc;obtain⟨c1,c2⟩:=hc;obtain⟨y,hy⟩:=be ((i-1)/2);rw[hy]at c2⊢;have AW:y<s.heap.length:=by omega
   have E:=λ{k:Nat} (hk:k<s.heap.length)=>iC (s:=s) (i:=i) (j:=y) hi AW hk;refine ih y (by omega) (by simpa using AW) (λk k1 k2 k3=>?_) (λk k1 k2 k3 k4=>?_)
   ·simp only[Qs.dP]at k2;rw[E k2,E (k:=(k-1)/2) (by omega)];by_cases e1:k=i
    ·subst e1;rw[aZ k3,cF rfl,hy,cF rfl];exact qt c2
    ·rw[aZ k3,aZ e1];by_cases e2:(k-1)/2=y
     ·rw[cF e2];have:=h1 k k1 k2 e1;rw[e2]at this;exact gC (qt c2) this
     ·rw[aZ e2];by_cases e3:(k-1)/2=i
      ·rw[cF e3];have:=h2 k k1 k2 e3 c1;rw[hy]at this;exact this
      ·rw[aZ e3];exact h1 k k1 k2 e1
   ·simp only[Qs.dP]at k2;rw[E k2,E (k:=(y-1)/2) (by omega)];have p1:¬(y-1)/2=y:=by omega
    have p2:¬(y-1)/2=i:=by omega
    have p3:¬k=y:=by omega
    rw[aZ p1,aZ p2,aZ p3];have hpy:=h1 y k4 AW (by omega);by_cases e1:k=i
    ·rw[cF e1];exact hpy
    ·rw[aZ e1];have:=h1 k k1 k2 e1;rw[k3]at this;exact gC hpy this
  ·rename_i hc;intro k k1 k2;by_cases e:k=i
   ·subst e;exact λhb=>hc ⟨k1,hb⟩
   ·exact h1 k k1 k2 e
end
def Az(an:bY)(s:Qs)(i:Nat):∀t,¬ja an (s.e i) (s.e (uS an s i t))/\∀u,u<t->¬ja an (s.e (2*i+1+u:Nat)) (s.e (uS an s i t))
 |0=>⟨uh _,λu hu=>by omega⟩
 |t+1=>by
  obtain⟨h1,h2⟩:=Az an s i t;unfold uS;split
  ·rename_i hc;have ha:=qt hc;refine⟨gC ha h1,λu hu=>?_⟩;by_cases e:u=t
   ·subst e;exact uh _
   ·exact gC ha (h2 u (by omega))
  ·rename_i hc;refine⟨h1,λu hu=>?_⟩;by_cases e:u=t
   ·subst e;exact hc
   ·exact h2 u (by omega)
def BV(an:bY)(s:Qs)(i:Nat):¬ja an (s.e i) (s.e (dF an s i))/\∀k:Nat,0<k->k<s.heap.length->(k-1)/2=i->¬ja an (s.e k) (s.e (dF an s i)):=by
 obtain⟨h1,h2⟩:=Az an s i (kT s i);refine⟨h1,λk k1 k2 k3=>?_⟩;have:=h2 (k-(2*i+1)) (by unfold kT;omega);rw[show 2*i+1+(k-(2*i+1))=k by omega]at this;exact this
def BW(an:bY)(s:Qs)(i:Nat):dF an s i=i\/((dF an s i-1)/2=i/\i<dF an s i/\dF an s i<s.heap.length):=by
 have:=ug an s i (kT s i);have h3:=ir an s i;unfold dF at*
 unfold kT at*
 omega
def wH{an:bY}:∀{n:Nat} {i:Nat} {s:Qs},s.heap.length-i=n->(∀k:Nat,0<k->k<s.heap.length->(k-1)/2≠i->¬ja an (s.e k) (s.e ((k-1)/2:Nat)))->
  (∀k:Nat,0<k->k<s.heap.length->(k-1)/2=i->0<i->¬ja an (s.e k) (s.e ((i-1)/2:Nat)))->py an (fG an i s):=by
 intro n;induction n using Nat.strongRecOn with
 |_ n ih=>
  intro i s hn h1 h2;obtain⟨m1,m2⟩:=BV an s i;have hp:=BW an s i;unfold fG;split
  ·rename_i he;intro k k1 k2;by_cases e:(k-1)/2=i
   ·rw[e];have:=m2 k k1 k2 e;rw[he]at this;exact this
   ·exact h1 k k1 k2 e
  ·rename_i he;obtain⟨j,hj⟩:=be (dF an s i);rw[hj]at m1 m2 hp he⊢;obtain⟨p1,p2,p3⟩:=hp.resolve_left he;have hi:i<s.heap.length:=by omega
   have E:=λ{k:Nat} (hk:k<s.heap.length)=>iC (s:=s) (i:=i) (j:=j) hi p3 hk;refine ih (s.heap.length-j) (by omega) (by simp) (λk k1 k2 k3=>?_) (λk k1 k2 k3 k4=>?_)
   ·simp only[Qs.dP]at k2;rw[E k2,E (k:=(k-1)/2) (by omega),aZ k3];by_cases e1:k=j
    ·subst e1;rw[cF rfl,cF p1];exact m1
    ·rw[aZ e1];by_cases e2:k=i
     ·subst e2;have:¬(k-1)/2=k:=by omega
      rw[cF rfl,aZ this];exact h2 j (by omega) p3 p1 k1
     ·rw[aZ e2];by_cases e3:(k-1)/2=i
      ·rw[cF e3];exact m2 k k1 k2 e3
      ·rw[aZ e3];exact h1 k k1 k2 e3
   ·simp only[Qs.dP]at k2;rw[p1,E k2,E hi];have q1:¬k=j:=by omega
    have q2:¬k=i:=by omega
    have q3:¬i=j:=by omega
    rw[aZ q1,aZ q2,aZ q3,cF rfl];have:=h1 k k1 k2 (by omega);rw[k3]at this;exact this
section
variable{an:bY}
def ui{s:Qs}{x:Int}{k:Nat}(hk:k<s.heap.length):(fZ s x).e k=s.e k:=by
 simp only[fZ,Qs.e,iQ,List.getD];rw[Zbl hk]
def BR{s:Qs}{x:Int}(h:py an s):py an (ip an s x):=by
 have hl:(fZ s x).heap.length=s.heap.length+1:=by simp[fZ]
 refine D9 (by omega) (λk k1 k2 k3=>?_) (λk k1 k2 k3 k4=>?_)
 ·rw[ui (by omega),ui (by omega)];exact h k k1 (by omega)
 ·omega
def YV{s:Qs}(h:py an s)(i:Nat):py an (fG an i s):=
 wH rfl (λk k1 k2 _=>h k k1 k2) λk k1 k2 k3 k4=>by
  have a:=h k k1 k2;rw[k3]at a;exact gC (h i k4 (by omega)) a
def qk{s:Qs}{k:Nat}(hk:k<s.heap.length-1):(gk s).e k=if k=0 then s.e (s.heap.length-1:Nat)else s.e k:=by
 have hj:s.heap.length-1<s.heap.length:=by omega
 have E:=iC (s:=s) (i:=0) (j:=s.heap.length-1) (k:=k) (by omega) hj (by omega);have hc:((s.heap.length-1:Nat):Int)=(s.heap.length:Int)-1:=by omega
 have:(gk s).e k=(s.swap (0:Nat) (s.heap.length-1:Nat)).e k:=by
  simp only[gk,Qs.e,iQ,List.getD,HR,hk,jP,hc];rfl
 rw[this,E,aZ (by omega)]
def Av{s:Qs}(h:py an s):py an (fQ an s):=by
 unfold fQ;split
 ·exact h
 ·rename_i b7;have xZ:0<s.heap.length:=NT.2 b7;have hl:(gk s).heap.length=s.heap.length-1:=by
   simp only[gk,we,Qs.dP];omega
  refine wH rfl (λk k1 k2 k3=>?_) (λk k1 k2 k3 k4=>by omega);rw[hl]at k2;rw[qk k2,qk (by omega),aZ (by omega),aZ k3];exact h k k1 (by omega)
end
def YW(c:Nat)(k v:Int):eu [] c k v=[(c,k,v)]:=rfl
def RN(a:Nat×Int×Int)(l:Pl)(c:Nat)(k v:Int):eu (a::l) c k v=if a.2.1=k then(a.1,a.2.1,v)::l else a::eu l c k v:=by
 unfold eu ue;rw[Y8];by_cases h:a.2.1=k
 ·simp[h]
 ·have:(a.2.1==k)=false:=by simpa using h
  rw[this,aZ h];simp only[OX,w7];cases List.findIdx? (λe=>e.2.1==k) l<;>simp
def YX(k:Int):kl [] k=none:=rfl
def lN(a:Nat×Int×Int)(l:Pl)(k:Int):kl (a::l) k=if a.2.1=k then some a.2.2 else kl l k:=by
 unfold kl;rw[LF];by_cases h:a.2.1=k
 ·simp[h]
 ·have:(a.2.1==k)=false:=by simpa using h
  rw[this,aZ h]
def pL(l:Pl)(c:Nat)(k v k':Int):kl (eu l c k v) k'=if k'=k then some v else kl l k':=by
 induction l with
 |nil=>
  rw[YW,lN,YX];by_cases h:k'=k
  ·simp[h]
  ·have:¬k=k':=λe=>h e.symm;simp[h,this]
 |cons a l ih=>
  rw[RN];by_cases h:a.2.1=k
  ·rw[cF h,lN,lN];simp only;by_cases h2:k'=k
   ·rw[cF h2,cF (by rw[h,h2])]
   ·have:¬a.2.1=k':=λe=>h2 (e▸h);rw[aZ h2,aZ this,aZ this]
  ·rw[aZ h,lN,lN,ih];by_cases h2:k'=k
   ·have:¬a.2.1=k':=λe=>h (e.trans h2);simp[h2,h]
   ·simp[h2]
def dc(s:Qs):Prop:=∀k:Nat,k<s.heap.length->kl s.es (s.e k).h=some (k:Int)
def dc.nd{s:Qs}(h:dc s):s.nd:=λi j hi hj he=>by
 have h1:=h i hi;have h2:=h j hj;rw[he,h2]at h1;simp only[cu]at h1;omega
def lM{s:Qs}(h:dc s){i j:Nat}(hi:i<s.heap.length)(hj:j<s.heap.length):dc (s.swap i j):=by
 intro k hk;rw[Qs.dP]at hk;rw[iC hi hj hk];show kl (eu (eu s.es s.mc (s.e j).h i) s.mc (s.e i).h j) _=_;rw[pL,pL];have nd:=h.nd;by_cases h1:k=j
 ·subst h1;rw[cF rfl,cF rfl]
 ·rw[aZ h1];by_cases h2:k=i
  ·subst h2;rw[cF rfl];by_cases h3:(s.e j).h=(s.e k).h
   ·have:=nd j k hj hk h3;exact eB this.symm h1
   ·rw[aZ h3,cF rfl]
  ·rw[aZ h2,aZ (λe=>h2 (nd k i hk hi e)),aZ (λe=>h1 (nd k j hk hj e))];exact h k hk
def vT{an:bY}:∀{i:Nat} {s:Qs},i<s.heap.length->dc s->dc (uR an i s):=by
 intro i;induction i using Nat.strongRecOn with
 |_ i ih=>
  intro s hi h;unfold uR;split
  ·exact ih _ (by omega) (by simp;omega) (lM h hi (by omega))
  ·exact h
def uj{an:bY}:∀{n:Nat} {i:Nat} {s:Qs},s.heap.length-i=n->dc s->dc (fG an i s):=by
 intro n;induction n using Nat.strongRecOn with
 |_ n ih=>
  intro i s hn h;unfold fG;split
  ·exact h
  ·rename_i he;have hp:=(ir an s i).resolve_left he;exact ih (s.heap.length-dF an s i) (by omega) (by simp) (lM h (by omega) hp.2)
section
variable{an:bY}
def fR{s:Qs}{e:kU}:e∈s.heap↔∃k:Nat,k<s.heap.length/\s.e k=e:=by
 constructor
 ·intro h;obtain⟨k,hk,rfl⟩:=If h;exact⟨k,hk,by simp[Qs.e,List.getD,hk]⟩
 ·rintro⟨k,hk,rfl⟩;simp only[Qs.e,iQ];exact bu hk
def oK{s:Qs}{i j:Nat}(hi:i<s.heap.length)(hj:j<s.heap.length)(e:kU):e∈(s.swap i j).heap↔e∈s.heap:=by
 rw[fR,fR];simp only[Qs.dP];constructor
 ·rintro⟨k,hk,rfl⟩;rw[iC hi hj hk];split
  ·exact⟨i,hi,rfl⟩
  ·split
   ·exact⟨j,hj,rfl⟩
   ·exact⟨k,hk,rfl⟩
 ·rintro⟨k,hk,rfl⟩;by_cases h1:k=j
  ·subst h1;by_cases h2:i=k
   ·subst h2;exact⟨i,hi,by rw[iC hi hi hi];simp⟩
   ·exact⟨i,hi,by rw[iC hi hk hi,aZ h2,cF rfl]⟩
  ·by_cases h2:k=i
   ·subst h2;exact⟨j,hj,by rw[iC hk hj hj,cF rfl]⟩
   ·exact⟨k,hk,by rw[iC hi hj hk,aZ h1,aZ h2]⟩
structure mm(s s':Qs):Prop where
 len:s'.heap.length=s.heap.length
 mem:∀e,e∈s'.heap↔e∈s.heap
 next:s'.next=s.next
 bA:s'.bA=s.bA
 mc:s'.mc=s.mc
 bJ:s'.bJ=s.bJ
def mm.refl(s:Qs):mm s s:=⟨rfl,λ_=>Iff.rfl,rfl,rfl,rfl,rfl⟩
def mm.trans{a b c:Qs}(h:mm a b)(k:mm b c):mm a c:=⟨k.len.trans h.len,λe=>(k.mem e).trans (h.mem e),k.next.trans h.next,k.bA.trans h.bA,k.mc.trans h.mc,k.bJ.trans h.bJ⟩
def sR{s:Qs}{i j:Nat}(hi:i<s.heap.length)(hj:j<s.heap.length):mm s (s.swap i j):=⟨by simp,oK hi hj,rfl,rfl,rfl,rfl⟩
def wF:∀{i:Nat} {s:Qs},i<s.heap.length->mm s (uR an i s):=by
 intro i;induction i using Nat.strongRecOn with
 |_ i ih=>
  intro s hi;unfold uR;split
  ·exact(sR hi (by omega)).trans (ih _ (by omega) (by simp;omega))
  ·exact mm.refl s
def l7:∀{n:Nat} {i:Nat} {s:Qs},s.heap.length-i=n->mm s (fG an i s):=by
 intro n;induction n using Nat.strongRecOn with
 |_ n ih=>
  intro i s hn;unfold fG;split
  ·exact mm.refl s
  ·rename_i he;have hp:=(ir an s i).resolve_left he;exact(sR (by omega) hp.2).trans (ih (s.heap.length-dF an s i) (by omega) (by simp))
def D5:∀{n:Nat} {i:Nat} {s:Qs},s.heap.length-i=n->s.ok an->(fG an i s).ok an:=by
 intro n;induction n using Nat.strongRecOn with
 |_ n ih=>
  intro i s hn h;unfold fG;split
  ·exact h
  ·rename_i he;have hp:=(ir an s i).resolve_left he;exact ih (s.heap.length-dF an s i) (by omega) (by simp) (h.swap ⟨by omega,by omega⟩ ⟨by omega,by omega⟩)
end
def RP(a:Nat×Int×Int)(l:Pl)(k:Int):oL (a::l) k=if a.2.1=k then l else a::oL l k:=by
 unfold oL ue;rw[Y8];by_cases h:a.2.1=k
 ·simp[h]
 ·have:(a.2.1==k)=false:=by simpa using h
  rw[this,aZ h];simp only[OX,w7];cases List.findIdx? (λe=>e.2.1==k) l<;>simp
def IJ{l:Pl}{k k':Int}(h:k'≠k):kl (oL l k) k'=kl l k':=by
 induction l with
 |nil=>rfl
 |cons a l ih=>
  rw[RP,lN];by_cases h1:a.2.1=k
  ·have:¬a.2.1=k':=λe=>h (e.symm.trans h1);rw[cF h1,aZ this]
  ·rw[aZ h1,lN,ih]
def yx{an:bY}{s:Qs}{x:Int}(h:dc s)(hn:∀e∈s.heap,e.h≠s.next):dc (ip an s x):=by
 have hl:(fZ s x).heap.length=s.heap.length+1:=by simp[fZ]
 refine vT (by omega) λk hk=>?_;rw[hl]at hk;show kl (eu s.es s.mc s.next s.heap.length) _=_;rw[pL];by_cases h1:k<s.heap.length
 ·rw[ui h1,aZ (hn _ (fR.2 ⟨k,h1,rfl⟩))];exact h k h1
 ·obtain rfl:k=s.heap.length:=by omega
  have:(fZ s x).e (s.heap.length:Nat)=⟨x,s.next,s.bA⟩:=by simp[fZ,Qs.e,List.getD]
  rw[this,cF rfl]
def wG{an:bY}{s:Qs}(h:dc s):dc (fQ an s):=by
 unfold fQ;split
 ·exact h
 ·rename_i b7;have xZ:0<s.heap.length:=NT.2 b7;have hl:(gk s).heap.length=s.heap.length-1:=by
   simp only[gk,we,Qs.dP];omega
  have hc:((s.heap.length-1:Nat):Int)=(s.heap.length:Int)-1:=by omega
  have OV:=lM h (i:=0) (j:=s.heap.length-1) xZ (by omega);refine uj rfl λk hk=>?_;rw[hl]at hk;have he:(gk s).e k=(s.swap (0:Nat) (s.heap.length-1:Nat)).e k:=by
   simp only[gk,Qs.e,iQ,List.getD,HR,hk,jP,hc];rfl
  have qK:(gk s).es=oL (s.swap (0:Nat) (s.heap.length-1:Nat)).es (s.e (0:Nat)).h:=by
   simp only[gk,hc];rfl
  rw[he,qK,IJ]
  ·exact OV k (by simp;omega)
  ·rw[iC xZ (by omega) (by omega),aZ (by omega)];have nd:=h.nd;by_cases h1:k=0
   ·subst h1;rw[cF rfl];exact λe=>by have:=nd (s.heap.length-1) 0 (by omega) xZ e;omega
   ·rw[aZ h1];exact λe=>h1 (nd k 0 (by omega) xZ e)
def B3{an:bY}{x y:Int}{v:dg}(hx:0<=x/\x<an.length)(hy:0<=y):bv (an.set x.toNat v) y=if y=x then v else bv an y:=by
 unfold bv;simp only[List.getD,ZbN];by_cases h:y=x
 ·subst h;have:y.toNat<an.length:=by omega
  simp[this]
 ·have:¬x.toNat=y.toNat:=by omega
  simp[this,h]
def ul{s:Qs}{i k:Nat}{x:Int}(hi:i<s.heap.length):(nO s i x).e k=if k=i then⟨x,(s.e i).h,s.bA⟩else s.e k:=by
 simp only[nO,Qs.e,iQ,List.getD,ZbN];by_cases h:k=i
 ·subst h;simp[hi]
 ·have:¬i=k:=λe=>h e.symm;simp[this,h]
def adR{an:bY}{s:Qs}{i:Nat}{x:Int}{v:dg}(h:py an s)(hr:s.inR an)(hi:i<s.heap.length)(hx:0<=x/\x<an.length)(hix:(s.e i).x=x)
  (ho:∀k:Nat,k<s.heap.length->k≠i->(s.e k).x≠x) (hv:v.lt (bv an x)):py (an.set x.toNat v) (HF (an.set x.toNat v) s i x):=by
 have hl:(nO s i x).heap.length=s.heap.length:=by simp[nO]
 have Ht:∀k:Nat,k<s.heap.length->0<=(s.e k).x:=λk hk=>(hr _ (fR.2 ⟨k,hk,rfl⟩)).1;have dd:∀k:Nat,k<s.heap.length->k≠i->bv (an.set x.toNat v) (s.e k).x=bv an (s.e k).x:=λk hk b7=>by
  rw[B3 hx (Ht k hk),aZ (ho k hk b7)]
 have af6:∀k l:Nat,k<s.heap.length->l<s.heap.length->k≠i->l≠i->¬ja an (s.e k) (s.e l)->¬ja (an.set x.toNat v) (s.e k) (s.e l):=by
  intro k l hk Cm b7 aeR hb;unfold ja at hb⊢;rw[dd k hk b7,dd l Cm aeR];exact hb
 refine D9 (by omega) (λk k1 k2 k3=>?_) (λk k1 k2 k3 k4=>?_)
 ·rw[hl]at k2;rw[ul hi,ul hi,aZ k3];by_cases e:(k-1)/2=i
  ·rw[cF e];have hb:=h k k1 k2;rw[e]at hb;unfold ja at hb⊢;rw[dd k k2 k3,B3 hx hx.1,cF rfl];rw[hix]at hb;generalize bv an (s.e k).x=w at*
   generalize bv an x=u at*
   obtain⟨u1,u2⟩:=u;obtain⟨v1,v2⟩:=v;obtain⟨w1,w2⟩:=w;simp only[dg.lt]at*
   omega
  ·rw[aZ e];exact af6 k _ k2 (by omega) k3 e (h k k1 k2)
 ·rw[hl]at k2;have n1:k≠i:=by omega
  have n2:¬(i-1)/2=i:=by omega
  rw[ul hi,ul hi,aZ n1,aZ n2];have a:=h k k1 k2;rw[k3]at a;exact af6 k _ k2 (by omega) n1 n2 (gC (h i k4 hi) a)
section
variable{an:bY}
def G9{s:Qs}{i:Nat}{x:Int}(h:dc s)(hi:i<s.heap.length):dc (nO s i x):=by
 intro k hk;have hl:(nO s i x).heap.length=s.heap.length:=by simp[nO]
 rw[hl]at hk;rw[ul hi];show kl s.es _=_;by_cases h1:k=i
 ·subst h1;rw[cF rfl];exact h k hk
 ·rw[aZ h1];exact h k hk
def adT{s:Qs}{i:Nat}{x:Int}(ho:s.ok an)(hp:dc s)(hi:i<s.heap.length)(hx:0<=x/\x<an.length)(hl:s.heap.length<=1000000)(hc:0<=s.bA/\s.bA<=1000000000000):Ow s an (s.e i).h x:=by
 have Zp:(nO s i x).heap.length=s.heap.length:=by simp[nO]
 have Ji:dc (HF an s i x):=vT (by omega) (G9 hp hi);have hs:=wF (an:=an) (i:=i) (s:=nO s i x) (by omega);have hm:(⟨x,(s.e i).h,s.bA⟩:kU)∈(HF an s i x).heap:=(hs.mem _).2 (fR.2 ⟨i,by omega,by rw[ul hi,cF rfl]⟩);obtain⟨j,hj,he⟩:=fR.1 hm;have hj2:=Ji j hj;rw[he]at hj2;have dN:(HF an s i x).heap.length=s.heap.length:=hs.len.trans Zp;exact⟨ho,⟨i,hp i hi,hi,j,hj2,by omega⟩,hx,hl,hc⟩
def YY{s:Qs}{i:Nat}{x:Int}(hp:dc s)(hi:i<s.heap.length):dc (uU an s (s.e i).h x):=by
 have Zp:(nO s i x).heap.length=s.heap.length:=by simp[nO]
 unfold uU;rw[hp i hi];simp only[St,iQ];exact uj rfl (vT (by omega) (G9 hp hi))
def YZ{s:Qs}{i:Nat}{x:Int}(hp:dc s)(hi:i<s.heap.length)(h:py an (HF an s i x)):py an (uU an s (s.e i).h x):=by
 unfold uU;rw[hp i hi];simp only[St,iQ];exact YV h _
end
def Gs(n:aD)(r:dq):Prop:=0<=r.head/\r.head<n.ak/\0<=r.cA/\r.cA<=1000/\(r.kind=1\/(r.kind=2/\0<=r.a/\r.a<n.aM)\/(r.kind=3/\0<=r.a/\r.a<n.ak)\/(r.kind=4/\0<=r.a/\r.a<n.ak/\0<=r.b/\r.b<n.ak))
def AP(n:aD):Prop:=1<=n.ak/\n.ak<=1000/\n.au.length<=600/\∀r∈n.au,Gs n r
def Gn(l:aU):Prop:=1<=l.ba/\l.ba<=1000/\l.bK.length<=1000000000/\∀a∈l.bK,0<=a.aI/\a.aI<=1099511627776
def ajG(n:aD)(own:fl):Prop:=(own.length:Int)=n.ak/\∀x∈own,jI x.val
def stepT(r:dq)(bK:List cE)(fr to i:Int)(x:Cell)(k:Nat):Cell:=
 if(bK.getD k default).f=fr/\(bK.getD k default).t=to/\(bK.getD k default).term=r.a then kB x (d0 (r.cA+(bK.getD k default).aI) []) i k else x
def Nn(r:dq)(c:dW)(own:fl)(fr to i:Int)(x:Cell)(k:Nat):Cell:=
 kB x (d0 r.cA [eX c own fr to r.a fr (fr+k),eX c own fr to r.b (fr+k) to]) i (fr+k)
def sH(r:dq)(l:aU)(c:dW)(own:fl)(fr to i:Int)(x:Cell):Cell:=
 if r.kind=1 then(if fr=to then kB x (d0 r.cA []) i fr else x)
 else if r.kind=2 then(List.range l.bK.length).foldl (stepT r l.bK fr to i) x
 else if r.kind=3 then kB x (d0 r.cA [eX c own fr to r.a fr to]) i fr
 else(List.range (to-fr+1).toNat).foldl (Nn r c own fr to i) x
def lm(n:aD)(l:aU)(c:dW)(own:fl)(fr to:Int)(i:Nat):Cell:=
 sH (n.au.getD i default) l c own fr to i (own.getD (n.au.getD i default).head.toNat default)
abbrev s69:DM.Spec:=dh (λts=>∃c l,ts=[ti c,.sl (bG l)]/\(∀v∈l,jI v)/\0<=c/\c<=4000000000000/\l.length<=1000000) (fun|[.int _ c,.sl l]=>.agg [ti (d0 c (nX l)).aI,ti (d0 c (nX l)).size]|_=>.bool false) true
@[simp] def amu{l:bY}:bG l=[]↔l=[]:=by rw[eq_comm,Ya]
def zY:∀v∈([]:bY),jI v:=λv h=>by cases h
section
variable{own:fl}{fr to h:Nat}
def nL(x:Cell):Prop:=jI x.val/\-1<=x.rZ/\x.rZ<=600/\0<=x.arg/\x.arg<=10000000000
def GB(x:Cell):Nat:=((x.aI.toNat*2199023255552+x.size.toNat)*1024+(x.rZ+1).toNat)*17179869184+x.arg.toNat
def goes(x y:Cell):Prop:=nL y/\(y=x\/GB y<GB x)
def lV{x:Cell}{v:dg}{r g:Int}(hx:nL x)(hv:jI v)(h1:0<=r)(h2:r<=600)(h3:0<=g)(h4:g<=10000000000):goes x (kB x v r g):=by
 obtain⟨xc,xs,xr,xg⟩:=x;obtain⟨vc,vs⟩:=v;obtain⟨⟨a1,a2,a3,a4⟩,a5,a6,a7,a8⟩:=hx;obtain⟨b1,b2,b3,b4⟩:=hv;simp only[]at a1 a2 a3 a4 a5 a6 a7 a8 b1 b2 b3 b4;unfold kB;split
 ·exact⟨⟨⟨a1,a2,a3,a4⟩,a5,a6,a7,a8⟩,.inl rfl⟩
 ·split
  ·rename_i h;refine⟨⟨⟨b1,b2,b3,b4⟩,by simp only;omega,by simp only;omega,by simp only;omega,by simp only;omega⟩,.inr ?_⟩;simp only[dg.lt,Cell.val,dg.mk.injEq]at h;simp only[GB];omega
  ·exact⟨⟨⟨a1,a2,a3,a4⟩,a5,a6,a7,a8⟩,.inl rfl⟩
def wy{x:Cell}(h:nL x):goes x x:=⟨h,.inl rfl⟩
def QG{x y z:Cell}(h:goes x y)(k:goes y z):goes x z:=by
 refine⟨k.1, ?_⟩;rcases h.2 with rfl|h2
 ·exact k.2
 ·rcases k.2 with rfl|k2
  ·exact .inr h2
  ·exact .inr (by omega)
def Bz{f:Cell->Nat->Cell}{N:Nat}(hf:∀x k,k<N->nL x->goes x (f x k))(x:Cell)(hx:nL x):goes x ((List.range N).foldl f x):=by
 induction N with
 |zero=>exact wy hx
 |succ N ih=>
  rw[Ho,Dk];have h1:=ih λx k hk=>hf x k (by omega);exact QG h1 (hf _ N (by omega) h1.1)
def Ab{n:aD}{l:aU}{c:dW}{i:Nat}(hn:AP n)(hl:Gn l)(hc:O9 c)(ho:ajG n own)(hi:i<n.au.length)(wP:fr<=to)(iX:to<=1000)
  (hx:nL (own.getD (n.au.getD i default).head.toNat default)):goes (own.getD (n.au.getD i default).head.toNat default) (lm n l c own fr to i):=by
 unfold lm;obtain⟨r,hr⟩:=be (n.au.getD i default);have kr:Gs n r:=hn.2.2.2 r (by rw[<-hr];exact bu hi);rw[hr]at hx⊢;obtain⟨x,m0⟩:=be (own.getD r.head.toNat default);rw[m0]at hx⊢;obtain⟨q1,q2,q3,q4,q5⟩:=kr;have Zg:=hn.2.2.1;have hvp:∀h f t:Int,0<=h->h<n.ak->jI (eX c own fr to h f t):=λh f t h1 h2=>In ⟨hc,by have:=ho.1;have:=hn.2.1;omega,λ_=>⟨h1,by have:=ho.1;omega⟩⟩ ho.2;unfold sH;split
 ·split
  ·exact lV hx (jS zY q3 (by omega)) (by omega) (by omega) (by omega) (by omega)
  ·exact wy hx
 ·split
  ·refine Bz (λx k hk hx=>?_) x hx;unfold stepT;split
   ·have:=hl.2.2.2 (l.bK.getD k default) (bu hk);have:=hl.2.2.1;exact lV hx (jS zY (by omega) (by omega)) (by omega) (by omega) (by omega) (by omega)
   ·exact wy hx
  ·split
   ·refine lV hx (jS (λv hv=>?_) q3 (by omega)) (by omega) (by omega) (by omega) (by omega);simp only[oO]at hv;subst hv;exact hvp _ _ _ (by omega) (by omega)
   ·refine Bz (λx k hk hx=>?_) x hx;unfold Nn;refine lV hx (jS (λv hv=>?_) q3 (by omega)) (by omega) (by omega) (by omega) (by omega);simp only[fN,lq,ld]at hv;rcases hv with rfl|rfl<;>exact hvp _ _ _ (by omega) (by omega)
def xq(own:fl):Nat:=(own.map GB).sum
def Yb{y:Cell}(hh:h<own.length)(hy:GB y<GB (own.getD h default)):xq (own.set h y)<xq own:=by
 induction own generalizing h with
 |nil=>simp at hh
 |cons x own ih=>
  cases h with
  |zero=>simp[xq]at hy⊢;omega
  |succ h=>
   have:=ih (h:=h) (by simpa using hh) (by simpa using hy);simp[xq]at this⊢;omega
def xp(n:aD)(l:aU)(c:dW)(fr to:Int)(own:fl)(k:Nat):fl:=own.set (n.au.getD k default).head.toNat (lm n l c own fr to k)
def oX(n:aD)(own:fl):Prop:=(own.length:Int)=n.ak/\∀x∈own,nL x
def oX.ok{n:aD}(h:oX n own):ajG n own:=⟨h.1,λx hx=>(h.2 x hx).1⟩
def Nq{n:aD}{l:aU}{c:dW}{k:Nat}(hn:AP n)(hl:Gn l)(hc:O9 c)(ho:oX n own)(hk:k<n.au.length)(wP:fr<=to)(iX:to<=1000):
  oX n (xp n l c fr to own k)/\(lm n l c own fr to k≠own.getD (n.au.getD k default).head.toNat default->xq (xp n l c fr to own k)<xq own):=by
 have kr:=hn.2.2.2 (n.au.getD k default) (bu hk);have hh:(n.au.getD k default).head.toNat<own.length:=by have:=ho.1;have:=kr.1;have:=kr.2.1;omega
 have hg:=Ab hn hl hc ho.ok hk wP iX (ho.2 _ (bu hh));refine⟨⟨by simpa [xp]using ho.1,λx hx=>?_⟩,λb7=>?_⟩
 ·rcases Xf hx with h|rfl
  ·exact ho.2 x h
  ·exact hg.1
 ·rcases hg.2 with h|h
  ·exact eB h b7
  ·exact Yb hh h
def QC(n:aD)(l:aU)(c:dW)(fr to:Int)(own:fl):Prop:=∀k,k<n.au.length->lm n l c own fr to k=own.getD (n.au.getD k default).head.toNat default
def CR:nL mK:=by simp[nL,jI,mK]
def nM(n:aD)(l:aU)(c:dW)(fr to:Int)(own:fl)(y:Nat):fl:=(List.range y).foldl (xp n l c fr to) own
def CS(n:aD)(l:aU)(c:dW)(fr to:Int)(own:fl)(y:Nat):nM n l c fr to own (y+1)=xp n l c fr to (nM n l c fr to own y) y:=by
 simp[nM,Ho,Dk]
def Nr{x:Cell}(hx:x=own.getD h default):own.set h x=own:=by
 subst hx;apply ZbZ;intro j;rw[ZbN];split
 ·rename_i e;subst e;split
  ·rename_i hl;simp[List.getD,hl]
  ·rename_i hl;rw[ZbB (by omega)]
 ·rfl
def BD{n:aD}{l:aU}{c:dW}{own:fl}{fr to:Nat}(hn:AP n)(hl:Gn l)(hc:O9 c)(ho:oX n own)(wP:fr<=to)(iX:to<=1000):∀y,y<=n.au.length->
  oX n (nM n l c fr to own y)/\((nM n l c fr to own y=own/\∀k,k<y->lm n l c own fr to k=own.getD (n.au.getD k default).head.toNat default)\/xq (nM n l c fr to own y)<xq own)
 |0,_=>⟨ho,.inl ⟨rfl,λk h=>by omega⟩⟩
 |y+1,hy=>by
  obtain⟨h1,h2⟩:=BD hn hl hc ho wP iX y (by omega);obtain⟨h3,h4⟩:=Nq hn hl hc h1 (k:=y) (by omega) wP iX;rw[CS];refine⟨h3, ?_⟩;by_cases e:lm n l c (nM n l c fr to own y) fr to y=(nM n l c fr to own y).getD (n.au.getD y default).head.toNat default
  ·have e2:xp n l c fr to (nM n l c fr to own y) y=nM n l c fr to own y:=Nr e;rw[e2];rcases h2 with⟨g1,g2⟩|h2
   ·refine .inl ⟨g1,λk hk=>?_⟩;by_cases xN:k=y
    ·subst xN;rwa [g1]at e
    ·exact g2 k (by omega)
   ·exact .inr h2
  ·have:=h4 e;rcases h2 with⟨g1,g2⟩|h2
   ·rw[g1]at this⊢;exact .inr this
   ·exact .inr (by omega)
def Is(n:aD)(l:aU)(c:dW)(fr to:Int):Nat->fl->fl
 |0,own=>own
 |f+1,own=>if nM n l c fr to own n.au.length=own then own else Is n l c fr to f (nM n l c fr to own n.au.length)
def Ns(n:aD):fl:=List.replicate n.ak.toNat mK
def ni(n:aD)(l:aU)(c:dW)(fr to:Int):fl:=Is n l c fr to (xq (Ns n)+1) (Ns n)
def afr{n:aD}(hn:AP n):oX n (Ns n):=by
 refine⟨?_,λx hx=>?_⟩
 ·have:=hn.1;simp only[Ns,ZbH];omega
 ·rw[ZbU hx];exact CR
def NC{n:aD}{l:aU}{c:dW}{fr to:Nat}(hn:AP n)(hl:Gn l)(hc:O9 c)(wP:fr<=to)(iX:to<=1000)
  (P:fl->Prop) (hPs:∀own k,oX n own->k<n.au.length->P own->P (xp n l c fr to own k)):∀f own,xq own<f->oX n own->P own->oX n (Is n l c fr to f own)/\P (Is n l c fr to f own)/\QC n l c fr to (Is n l c fr to f own)
 |0,own,h,_,_=>by omega
 |f+1,own,h,ho,hp=>by
  obtain⟨h1,h2⟩:=BD hn hl hc ho wP iX n.au.length (ed _);have hpw:∀y,y<=n.au.length->P (nM n l c fr to own y):=by
   intro y;induction y with
   |zero=>intro _;exact hp
   |succ y ih=>intro hy;rw[CS];exact hPs _ _ (BD hn hl hc ho wP iX y (by omega)).1 (by omega) (ih (by omega))
  unfold Is;split
  ·rename_i e;rcases h2 with⟨_,g⟩|h2
   ·exact⟨ho,hp,g⟩
   ·rw[e]at h2;omega
  ·rename_i e;rcases h2 with⟨g,_⟩|h2
   ·exact eB g e
   ·exact NC hn hl hc wP iX P hPs f _ (by omega) h1 (hpw _ (ed _))
def zZ{n:aD}{l:aU}{c:dW}(hn:AP n)(hl:Gn l)(hc:O9 c)(wP:fr<=to)(iX:to<=1000)
  (P:fl->Prop) (hP0:P (Ns n)) (hPs:∀own k,oX n own->k<n.au.length->P own->P (xp n l c fr to own k)):oX n (ni n l c fr to)/\P (ni n l c fr to)/\QC n l c fr to (ni n l c fr to):=
 NC hn hl hc wP iX P hPs _ _ (by omega) (afr hn) hP0
end
section
variable{st nn:Int}{f:Nat}{cells:fl}
def KC(l:fl):jk.jv (bR l).flatten=true:=by
 induction l with
 |nil=>rfl
 |cons x l ih=>simpa [bR,Cell.enc,jk.jv,jk]using ih
def Gu{k:Nat}(h:(k:Int)<=st)(hf:f<=k):pre st f<=pre st k:=by
 induction k with
 |zero=>
   obtain rfl:f=0:=by omega
   omega
 |succ k ih=>
  by_cases e:f=k+1
  ·subst e;omega
  ·have:=ih (by omega) (by omega);simp only[pre];omega
def KD(st:Int):∀n:Nat,2*pre st n=n*(2*st-n+1)
 |0=>by simp[pre]
 |n+1=>by
  have:=KD st n;simp only[pre];have e:2*(pre st n+st-n)=2*pre st n+2*st-2*n:=by omega
  rw[e,this]
  push_cast
  grind
def sJ(h:0<=st):mM nn st=nn*pre st st.toNat:=by
 unfold mM;have h2:=KD st st.toNat;rw[show((st.toNat:Nat):Int)=st by omega]at h2;have e:nn*st*(st+1)=2*(nn*pre st st.toNat):=by grind
 rw[e];omega
def Gw{t:Nat}(h1:0<nn)(h3:(t:Int)<st)(h4:f<=t){i:Int}(hi:i<nn):eG nn st f t+i<mM nn st:=by
 rw[sJ (by omega)];have h5:=Gu (st:=st) (f:=f+1) (k:=st.toNat) (by omega) (by omega);simp only[pre]at h5;have h6:(pre st f+t-f+1)*nn<=pre st st.toNat*nn:=ZcA (by omega) (by omega);unfold eG;rw[Int.mul_comm nn];have:(pre st f+t-f+1)*nn=(pre st f+t-f)*nn+nn:=by grind
 omega
def uI(cells own:fl)(xu:Nat)(y:Nat):fl:=(List.range y).foldl (λcs i=>cs.set (xu+i) (own.getD i default)) cells
def wA(cells own:fl)(xu y:Nat):uI cells own xu (y+1)=(uI cells own xu y).set (xu+y) (own.getD y default):=by simp[uI,Ho,Dk]
@[simp] def Nw(cells own:fl)(xu y:Nat):(uI cells own xu y).length=cells.length:=by
 induction y with
 |zero=>rfl
 |succ y ih=>rw[wA,List.length_set,ih]
def acx{own:fl}{xu y:Nat}{x:Cell}(h:x∈uI cells own xu y)(hy:y<=own.length):x∈cells\/x∈own:=by
 induction y with
 |zero=>exact .inl h
 |succ y ih=>
  rw[wA]at h;rcases Xf h with h|rfl
  ·exact ih h (by omega)
  ·exact .inr (bu (by omega))
def Gv(n:aD)(l:aU)(len:Nat)(cells:fl)(f:Nat):fl:=
 uI cells (ni n l ⟨n.ak,l.ba,cells⟩ f ((f:Int)+len)) (eG n.ak l.ba f (f+len)).toNat n.ak.toNat
def acv(n:aD)(l:aU)(cells:fl)(len:Nat):fl:=(List.range (l.ba.toNat-len)).foldl (Gv n l len) cells
def gE(n:aD)(l:aU):fl:=(List.range l.ba.toNat).foldl (acv n l) (List.replicate (mM n.ak l.ba).toNat ⟨0,0,0,0⟩)
def QH(n:aD)(l:aU):dW:=⟨n.ak,l.ba,gE n l⟩
def Ny{n:aD}{l:aU}{c:dW}{fr to:Nat}(hn:AP n)(hl:Gn l)(hc:O9 c)(wP:fr<=to)(iX:to<=1000):oX n (ni n l c fr to):=
 (zZ hn hl hc wP iX (λ_=>True) trivial λ_ _ _ _ _=>trivial).1
def kz(n:aD)(l:aU)(cells:fl):Prop:=(cells.length:Int)=mM n.ak l.ba/\∀x∈cells,jI x.val
def kz.ok{n:aD}{l:aU}(hn:AP n)(hl:Gn l)(h:kz n l cells):O9 ⟨n.ak,l.ba,cells⟩:=by
 have h1:=hn.1;have h2:=hn.2.1;have h3:=hl.1;have h4:=hl.2.1;refine⟨by simp only;omega,h2,by simp only;omega,h4, ?_,h.2⟩;have:=sJ (nn:=n.ak) (st:=l.ba) (by omega);have hb:=(kD h4 l.ba.toNat (by omega));have:=gM (a:=n.ak) (A:=1000) (b:=pre l.ba l.ba.toNat) (B:=1000000) (by omega) (by omega) hb.1 (by omega);have:=h.1;simp only;omega
def kz.step{n:aD}{l:aU}(hn:AP n)(hl:Gn l)(h:kz n l cells){len y:Nat}(wP:f+len<=1000)(hy:y<=n.ak.toNat)(a:Nat):kz n l (uI cells (ni n l ⟨n.ak,l.ba,cells⟩ f ((f:Int)+len)) a y):=by
 have ho:=Ny hn hl (h.ok hn hl) (fr:=f) (to:=f+len) (by omega) wP;rw[show((f+len:Nat):Int)=(f:Int)+len by omega]at ho;refine⟨by rw[Nw];exact h.1,λx hx=>?_⟩;rcases acx hx (by have:=ho.1;omega)with hx|hx
 ·exact h.2 x hx
 ·exact(ho.2 x hx).1
def DY{n:aD}{l:aU}{cells:fl}(hn:AP n)(hl:Gn l)(h:kz n l cells){len:Nat}:∀k,(k+len:Nat)<=1001->kz n l ((List.range k).foldl (Gv n l len) cells)
 |0,_=>h
 |k+1,hk=>by
  rw[Ho,Dk];exact(DY hn hl h k (by omega)).step hn hl (by omega) (ed _) _
def amv{n:aD}{l:aU}(hn:AP n)(hl:Gn l):kz n l (List.replicate (mM n.ak l.ba).toNat ⟨0,0,0,0⟩):=by
 have h4:=hl.2.1;have hb:=(kD h4 l.ba.toNat (by have:=hl.1;omega));have:=ZcG (a:=n.ak) (by have:=hn.1;omega) hb.1;have:=sJ (nn:=n.ak) (st:=l.ba) (by have:=hl.1;omega);refine⟨by rw[ZbH];omega,λx hx=>?_⟩;rw[ZbU hx];simp[jI]
def Gq{n:aD}{l:aU}(hn:AP n)(hl:Gn l):∀k:Nat,(k:Int)<=l.ba->kz n l ((List.range k).foldl (acv n l) (List.replicate (mM n.ak l.ba).toNat ⟨0,0,0,0⟩)):=by
 intro k;induction k with
 |zero=>intro _;exact amv hn hl
 |succ k ih=>
  intro hk;rw[Ho,Dk];exact DY hn hl (ih (by omega)) _ (by have:=hl.2.1;omega)
end
def G4(st:Int)(f:Nat):(f:Int)*st-((f:Int)*((f:Int)-1)).tdiv 2=pre st f:=by
 have h:=KD st f;obtain⟨k,hk⟩:∃k:Nat,f*(f-1)=2*k:=by
  rcases(show(∃a,f=2*a)\/∃a,f=2*a+1 from by
   by_cases e:f % 2=0
   ·exact .inl ⟨f/2,by omega⟩
   ·exact .inr ⟨f/2,by omega⟩)with h|h
  ·obtain⟨a,rfl⟩:=h;exact⟨a*(2*a-1),by rw[Nat.mul_assoc]⟩
  ·obtain⟨a,rfl⟩:=h;exact⟨(2*a+1)*a,by rw[show 2*a+1-1=2*a by omega,Nat.mul_left_comm]⟩
 have xN:(f:Int)*((f:Int)-1)=2*(k:Int):=by
  cases f with
  |zero=>
    obtain rfl:k=0:=by omega
    simp
  |succ f=>rw[show f+1-1=f by omega]at hk;rw[show((f+1:Nat):Int)-1=(f:Int)by omega];exact_mod_cast hk
 rw[xN,show(2*(k:Int)).tdiv 2=k by rw[E6 (by omega)];omega];have:(f:Int)*(2*st-f+1)=2*((f:Int)*st)-(f:Int)*((f:Int)-1):=by grind
 omega
def t64(c:dW)(f t:Nat)(h1:0<=c.ak)(h2:c.ak<=1000)(h3:c.ba<=1000)(h4:(f:Int)<=c.ba)(h5:t<=1000)(h6:f<=t):bw aj 151 [c.enc,ti f,ti t] (ti (eG c.ak c.ba f t)):=by
 obtain⟨cn,cs,cl⟩:=c;simp only at h1 h2 h3 h4;have hb:=kD h3 f h4;have hc:=G4 cs f;have b1:=gM (a:=(f:Int)) (A:=1000) (b:=cs) (B:=1000) (by omega) (by omega) (by omega) h3;have b2:=gM (a:=(f:Int)) (A:=1000) (b:=(f:Int)) (B:=1000) (by omega) (by omega) (by omega) (by omega);have hff:(f:Int)*((f:Int)-1)=(f:Int)*f-f:=by grind
 have anq:0<=(f:Int)*((f:Int)-1)/\(f:Int)*((f:Int)-1)<=1000000:=by
  refine⟨?_,by omega⟩;cases f with
  |zero=>simp
  |succ f=>exact ZcG (by omega) (by omega)
 obtain⟨P,hP⟩:=be (pre cs f);rw[hP]at hb hc;have hq:((f:Int)*((f:Int)-1)).tdiv 2=(f:Int)*((f:Int)-1)/2:=E6 anq.1;have b3:=gM (a:=P+t-f) (A:=2000000) (b:=cn) (B:=1000) (by omega) (by omega) h1 h2;have m1:IntKind.i64.wrap ((f:Int)*cs)=(f:Int)*cs:=aF (by omega);have m2:IntKind.i64.wrap ((f:Int)-1)=(f:Int)-1:=aF (by omega);have m3:IntKind.i64.wrap ((f:Int)*((f:Int)-1))=(f:Int)*((f:Int)-1):=aF (by omega);have m4:IntKind.i64.wrap (((f:Int)*((f:Int)-1)).tdiv 2)=((f:Int)*((f:Int)-1)).tdiv 2:=by rw[hq];exact aF (by omega)
 have m5:IntKind.i64.wrap ((f:Int)*cs-((f:Int)*((f:Int)-1)).tdiv 2)=P:=by rw[hc];exact aF (by omega)
 have m6:IntKind.i64.wrap (P+t)=P+t:=aF (by omega);have m7:IntKind.i64.wrap (P+t-f)=P+t-f:=aF (by omega);have m8:IntKind.i64.wrap ((P+t-f)*cn)=eG cn cs f t:=by unfold eG;rw[hP];exact aF (by omega)
 have aC:=cL;refine c64.ok (by simp) (aT ?_);simp[dW.enc];apply aa.ag aC fw [1,2,3];simp[ahT];refine aa.lk (o:=[]) (l:=[(1,.v (ti f)),(2,.v (ti t)),(3,.v (.box [ti cn,ti cs,.sl (bR cl)]))]) (aY:=1200) (by simp) ?_;apply aa.ag aC fw [1,2,3,7];simp[ahU,m1,m2,m3,m4,m5];apply aa.ag aC fw [6];simp[ahV,m6,m7,m8];apply aa.ret;simp[dm]
def AF(c:dW):Prop:=1<=c.ak/\c.ak<=1000/\1<=c.ba/\c.ba<=1000/\(c.cells.length:Int)=mM c.ak c.ba
abbrev s64:DM.Spec:=dh (λts=>∃cn cs cl,∃f t:Int,ts=[.agg [ti cn,ti cs,.sl (bR cl)],ti f,ti t]/\0<=cn/\cn<=1000/\cs<=1000/\0<=f/\f<=cs/\t<=1000/\f<=t) (fun|[.agg [.int _ n,.int _ st,_],.int _ f,.int _ t]=>ti (eG n st f.toNat t.toNat)|_=>.bool false) true
def auY:ay aj (bB [(151,s64)]):=by
 refine ay.cons ay.nil ?_;rintro ts ⟨cn,cs,cl,f,t,rfl,h1,h2,h3,h4,h5,h6,h7⟩;obtain⟨f,rfl⟩:=kK h4;obtain⟨t,rfl⟩:=kK (a:=t) (by omega);exact⟨by simpa [dW.enc]using t64 ⟨cn,cs,cl⟩ f t h1 h2 h3 h5 (by omega) (by omega),λ_=>rfl⟩
def t37(c:dW)(h f t:Int)(hc:AF c):bw aj 144 [c.enc,.agg [ti h,ti f,ti t]] (.agg (Pa c h f t).enc):=by
 obtain⟨cn,cs,cl⟩:=c;obtain⟨k1,k2,k3,k4,k5⟩:=hc;simp only at k1 k2 k3 k4 k5;obtain⟨R,hR⟩:=be (Pa ⟨cn,cs,cl⟩ h f t);rw[hR];unfold Pa at hR;simp only at hR;have aC:=auY;refine c37.ok (by simp) (aT ?_);simp[dW.enc];apply aa.ag aC fw [2,3,4];simp[ahW];refine aa.lk (o:=[(1005,.box [.v (ti 0),.v (ti 0),.v (ti 0),.v (ti 0)])]) (l:=[(2,.v (.box [ti cn,ti cs,.sl (bR cl)])),(3,.v (.box [ti h,ti f,ti t])),(4,.ptr 1005 0)]) (aY:=1200) (by simp) ?_;apply aa.seq;obtain⟨c1,b8⟩:=be (decide (h<0\/h>=cn\/f<0\/t<f\/t>=cs):Bool);refine aa.cH aC fw [(2,.v (.box [ti cn,ti cs,.sl (bR cl)])),(3,.v (.box [ti h,ti f,ti t])),(4,.ptr 1005 0),(35,.v (.bool c1))] ?_ ?_
 ·by_cases q1:h<0
  ·have:c1=true:=by rw[<-b8];simp[q1]
   simp[Fz,q1,this]
  ·skip
   by_cases q2:h>=cn
   ·have:c1=true:=by rw[<-b8];simp[q2]
    simp[Fz,q1,q2,this]
   ·skip
    by_cases q3:f<0
    ·have:c1=true:=by rw[<-b8];simp[q3]
     simp[Fz,q1,q2,q3,this]
    ·skip
     by_cases q4:t<f
     ·have:c1=true:=by rw[<-b8];simp[q4]
      simp[Fz,q1,q2,q3,q4,this]
     ·skip
      by_cases q5:t>=cs
      ·have:c1=true:=by rw[<-b8];simp[q5]
       simp[Fz,q1,q2,q3,q4,q5,this]
      ·skip
       have:c1=false:=by rw[<-b8];simp[q1,q2,q3,q4,q5]
       simp[Fz,q1,q2,q3,q4,q5,this]
 refine aa.cond rfl (λg1=>?_) (λg1=>?_)
 ·rw[g1]at b8;rw[cF (qW b8)]at hR;subst hR;apply aa.ag aC fw [4];simp[ahX];apply aa.ret;simp[Qf,mK,Cell.enc]
 ·rw[g1]at b8;have b8:=wQ b8;rw[aZ b8]at hR;obtain⟨f,rfl⟩:=kK (a:=f) (by omega);obtain⟨t,rfl⟩:=kK (a:=t) (by omega);simp only[iQ]at hR;have ef:=Gw (nn:=cn) (st:=cs) (f:=f) (t:=t) (by omega) (by omega) (by omega) (i:=h) (by omega);have hib:=kD k4 f (by omega);have hcp:=sJ (nn:=cn) (st:=cs) (by omega);have hpn:pre cs 1<=pre cs cs.toNat:=Gu (by omega) (by omega);have hp1:pre cs 1=cs:=by simp[pre]
  have O3:cn*cs<=cn*pre cs cs.toNat:=Zda (by omega) (by omega);have Pr:cn*1<=cn*cs:=Zda (by omega) (by omega);have hm3:1*cs<=cn*cs:=ZcA (by omega) (by omega);have hi0:0<=eG cn cs f t:=by unfold eG;exact ZcG (by omega) (by omega)
  obtain⟨I,hI⟩:=be (eG cn cs f t);rw[hI]at ef hi0 hR;obtain⟨i,hi⟩:=kK (a:=I+h) (by omega);rw[hi]at hR;have Bn:i<cl.length:=by omega
  have aV:cl.length<=1000000000000:=by
   have hb:=kD k4 cs.toNat (by omega);have:=gM (a:=cn) (A:=1000) (b:=pre cs cs.toNat) (B:=1000000) (by omega) (by omega) hb.1 (by omega);omega
  apply aa.skip;simp;apply aa.ag aC fw [2,3,4,5];simp[ahY];apply aa.seq;have q1:¬(t:Int)>cl.length:=by omega
  have q2:¬cs>cl.length:=by omega
  have q3:¬cn>cl.length:=by omega
  have q4:¬h>=cl.length:=by omega
  have q1n:¬cl.length<t:=by omega
  refine aa.cH aC fw [(2,.v (.box [ti cn,ti cs,.sl (bR cl)])),(3,.v (.box [ti h,ti f,ti t])),(4,.ptr 1005 0),(5,.v (ti cl.length)),(71,.v (.bool false))] ?_ ?_
  ·by_cases z1:0<f
   ·by_cases z2:0<t
    ·simp[MN,q1,q1n,q2,q3,q4,z1,z2]
    ·simp[MN,q1,q1n,q2,q3,q4,z1,z2]
   ·by_cases z2:0<t
    ·simp[MN,q1,q1n,q2,q3,q4,z1,z2]
    ·simp[MN,q1,q1n,q2,q3,q4,z1,z2]
  refine aa.cond rfl (λg4=>?_) (λg4=>?_)
  ·exact eB g4 (by simp)
  ·apply aa.skip;simp;apply aa.ag aC fw [2,4,5,6];simp[ahZ,CT,hI,hi,aF (x:=(i:Int)) (by omega)];repeat (refine⟨by omega, ?_⟩)
   apply aa.sq aC fw [2,4,6,84];simp[ah0];refine aa.cond rfl (λg7=>?_) (λg7=>?_)
   ·exact eB g7 (by simp;omega)
   ·apply aa.skip;simp;have rr:=vI Bn;have AQ:cl.getD i default=R:=by rw[<-hR];simp[List.getD,Bn]
    rw[AQ]at rr;obtain⟨rc,rz,rr1,ra⟩:=R;apply aa.ag aC fw [4];simp[ah1,Bn,rr,Cell.enc];apply aa.ret;simp[Qf]
def kindOk(n:aD)(r:dq):Prop:=
 if r.kind=1 then r.a=0/\r.b=0 else if r.kind=2 then r.a>=0/\r.a<n.aM/\r.b=0 else if r.kind=3 then r.a>=0/\r.a<n.ak/\r.b=0
 else if r.kind=4 then r.a>=0/\r.a<n.ak/\r.b>=0/\r.b<n.ak else False
instance(n:aD)(r:dq):Decidable (kindOk n r):=by unfold kindOk;infer_instance
def gV(n:aD)(r:dq):Prop:=¬(r.head<0\/r.head>=n.ak\/r.cA<0\/r.cA>1000\/r.origin< -1)
instance(n:aD)(r:dq):Decidable (gV n r):=by unfold gV;infer_instance
def qV(n:aD):Prop:=¬(n.aM<0\/n.aM>120\/n.ak<1\/n.ak>1000\/n.start<0\/n.start>=n.ak\/(n.au.length:Int)>600)
instance(n:aD):Decidable (qV n):=by unfold qV;infer_instance
def dX(n:aD):Prop:=qV n/\∀i,i<n.au.length->gV n (n.au.getD i default)/\kindOk n (n.au.getD i default)
instance(n:aD):Decidable (dX n):=by unfold dX;infer_instance
def dX.ok{n:aD}(h:dX n):AP n:=by
 obtain⟨h1,h2⟩:=h;unfold qV at h1;refine⟨by omega,by omega,by omega,λr hr=>?_⟩;obtain⟨i,hi,rfl⟩:=If hr;obtain⟨h3,h4⟩:=h2 i hi;rw[show n.au.getD i default=n.au[i]by simp[List.getD,hi]]at h3 h4;unfold gV at h3;unfold kindOk at h4;unfold Gs;refine⟨by omega,by omega,by omega,by omega, ?_⟩;split at h4
 ·exact .inl (by assumption)
 ·split at h4
  ·exact .inr (.inl ⟨by assumption,by omega,by omega⟩)
  ·split at h4
   ·exact .inr (.inr (.inl ⟨by assumption,by omega,by omega⟩))
   ·split at h4
    ·exact .inr (.inr (.inr ⟨by assumption,by omega,by omega,by omega,by omega⟩))
    ·exact h4.elim
def t20(n:aD)(hl:n.au.length<=9223372036854775807):bw aj 34 [n.enc] (.bool (decide (dX n))):=by
 obtain⟨nt,nn,ns,au⟩:=n;obtain⟨v,hv⟩:=be (decide (dX ⟨nt,nn,ns,au⟩));rw[hv];simp only at hl;have dd:dX ⟨nt,nn,ns,au⟩↔qV ⟨nt,nn,ns,au⟩/\∀i,i<au.length->gV ⟨nt,nn,ns,au⟩ (au.getD i default)/\kindOk ⟨nt,nn,ns,au⟩ (au.getD i default):=Iff.rfl;have da:¬dX ⟨nt,nn,ns,au⟩->v=false:=λh=>by rw[<-hv];simp[h]
 have aC:=cL;refine c20.ok (by simp) (aT ?_);simp[aD.enc];apply aa.ag aC fw [1];simp[ahL];refine aa.lk (o:=[]) (l:=[(1,.v (.box [ti nt,ti nn,ti ns,.sl (aW au)]))]) (aY:=1200) (by simp) ?_;apply aa.seq;obtain⟨c1,b8⟩:=be (decide (nt<0\/nt>120\/nn<1\/nn>1000\/ns<0\/ns>=nn\/(au.length:Int)>600):Bool);refine aa.cH aC fw [(1,.v (.box [ti nt,ti nn,ti ns,.sl (aW au)])),(41,.v (.bool c1))] ?_ ?_
 ·by_cases q1:nt<0
  ·have:c1=true:=by rw[<-b8];simp[q1]
   simp[zM,q1,this]
  ·skip
   by_cases q2:nt>120
   ·have:c1=true:=by rw[<-b8];simp[q2]
    simp[zM,q1,q2,this]
   ·skip
    by_cases q3:nn<1
    ·have:c1=true:=by rw[<-b8];simp[q3]
     simp[zM,q1,q2,q3,this]
    ·skip
     by_cases q4:nn>1000
     ·have:c1=true:=by rw[<-b8];simp[q4]
      simp[zM,q1,q2,q3,q4,this]
     ·skip
      by_cases q5:ns<0
      ·have:c1=true:=by rw[<-b8];simp[q5]
       simp[zM,q1,q2,q3,q4,q5,this]
      ·skip
       by_cases q6:ns>=nn
       ·have:c1=true:=by rw[<-b8];simp[q6]
        simp[zM,q1,q2,q3,q4,q5,q6,this]
       ·skip
        by_cases q7:(au.length:Int)>600
        ·have:c1=true:=by rw[<-b8];simp[q7]
         simp[zM,q1,q2,q3,q4,q5,q6,q7,this]
        ·skip
         have:c1=false:=by rw[<-b8];simp[q1,q2,q3,q4,q5,q6,q7]
         simp[zM,q1,q2,q3,q4,q5,q6,q7,this]
 refine aa.cond rfl (λh1=>?_) (λh1=>?_)
 ·rw[h1]at b8;have b8:=qW b8;apply aa.ag aC fw [2];simp[ahM];apply aa.ret;rw[da λh=>(dd.1 h).1 b8];simp[dm]
 ·rw[h1]at b8;have b8:=wQ b8;apply aa.skip;simp;apply aa.sq aC fw [1,3];simp[ahN];apply aa.block;refine aa.loop (λy:Nat=>⟨DM.look [(1,.v (.box [ti nt,ti nn,ti ns,.sl (aW au)])),(3,.v (ti y))],cJ [],2000,1000,[]⟩)
   (λy=>y<=au.length/\∀i,i<y->gV ⟨nt,nn,ns,au⟩ (au.getD i default)/\kindOk ⟨nt,nn,ns,au⟩ (au.getD i default)) (λy=>au.length-y) 0 (Le.bH (o:=[]) ?_ ?_ ?_ ?_) (by simp) (λy hy=>?_)
  iterate 4(·simp)
  obtain⟨mf,fW⟩:=hy;apply aa.sq aC fw [1,3,46];simp[ahO];refine aa.cond rfl (λcU=>?_) (λcU=>?_)
  ·have cU:y<au.length:=by simpa using cU
   apply aa.skip;simp;apply aa.seq;apply aa.block;have rr:=lW cU;obtain⟨⟨rk,rh,ra,rb,rp,rg⟩,hr⟩:=be (au.getD y default);rw[hr]at rr;apply aa.ag aC fw [1,3,4];simp[ahP,cU,rr,dq.enc];refine aa.lk (o:=[]) (l:=[(1,.v (.box [ti nt,ti nn,ti ns,.sl (aW au)])),(3,.v (ti y)),(4,.v (.box [ti rk,ti rh,ti ra,ti rb,ti rp,ti rg]))]) (aY:=2400) (by simp) ?_;apply aa.seq;obtain⟨c2,gZ⟩:=be (decide (rh<0\/rh>=nn\/rp<0\/rp>1000\/rg< -1):Bool);refine aa.cH aC fw [(1,.v (.box [ti nt,ti nn,ti ns,.sl (aW au)])),(3,.v (ti y)),(4,.v (.box [ti rk,ti rh,ti ra,ti rb,ti rp,ti rg])),(78,.v (.bool c2))] ?_ ?_
   ·by_cases q1:rh<0
    ·have:c2=true:=by rw[<-gZ];simp[q1]
     simp[Fw,q1,this]
    ·skip
     by_cases q2:rh>=nn
     ·have:c2=true:=by rw[<-gZ];simp[q2]
      simp[Fw,q1,q2,this]
     ·skip
      by_cases q3:rp<0
      ·have:c2=true:=by rw[<-gZ];simp[q3]
       simp[Fw,q1,q2,q3,this]
      ·skip
       by_cases q4:rp>1000
       ·have:c2=true:=by rw[<-gZ];simp[q4]
        simp[Fw,q1,q2,q3,q4,this]
       ·skip
        by_cases q5:rg< -1
        ·have:c2=true:=by rw[<-gZ];simp[q5]
         simp[Fw,q1,q2,q3,q4,q5,this]
        ·skip
         have:c2=false:=by rw[<-gZ];simp[q1,q2,q3,q4,q5]
         simp[Fw,q1,q2,q3,q4,q5,this]
   refine aa.cond rfl (λh2=>?_) (λh2=>?_)
   ·rw[h2]at gZ;have gZ:=qW gZ;apply aa.ag aC fw [2];simp[ahQ];apply aa.ret;rw[da λh=>((dd.1 h).2 y cU).1 (by rw[hr];exact gZ)];simp[dm]
   ·rw[h2]at gZ;have gZ:gV ⟨nt,nn,ns,au⟩ ⟨rk,rh,ra,rb,rp,rg⟩:=wQ gZ;apply aa.skip;simp;obtain⟨k1,pq⟩:=be (decide (kindOk ⟨nt,nn,ns,au⟩ ⟨rk,rh,ra,rb,rp,rg⟩):Bool);have Dh:=pq;have pq:k1=true↔kindOk ⟨nt,nn,ns,au⟩ ⟨rk,rh,ra,rb,rp,rg⟩:=by rw[<-Dh,decide_eq_true_iff]
    simp only[kindOk]at pq;apply aa.ag aC fw [1,3,4,5];simp[ahR];apply aa.sq aC fw [1,3,4,5,80];simp[ahS];apply aa.block;apply aa.ag aC fw [1,3,4,5,80,81];simp[abg];refine aa.cond rfl (λg1=>?_) (λg1=>?_)
    ·have g1:rk=1:=by simpa using g1
     rw[cF g1]at pq;have xN:decide (ra=0/\rb=0)=k1:=by cases k1<;>simp at pq⊢<;>first|exact pq|omega
     refine aa.JP aC fw [(1,.v (.box [ti nt,ti nn,ti ns,.sl (aW au)])),(3,.v (ti y)),(5,.v (.bool k1))] ?_ ?_
     ·by_cases q1:ra=0
      ·skip
       by_cases q2:rb=0
       ·skip
        have:k1=true:=by rw[<-xN];simp[q1,q2]
        simp[J1,q1,q2,this]
       ·have:k1=false:=by rw[<-xN];simp[q2]
        simp[J1,q1,q2,this]
      ·have:k1=false:=by rw[<-xN];simp[q1]
       simp[J1,q1,this]
     apply aa.ag aC fw [1,3,150];simp[Bs];refine aa.cond rfl (λh5=>?_) (λh5=>?_)
     ·skip
      apply aa.ag aC fw [2];simp[Bt];apply aa.ret;rw[da λh=>by
       have h6:=((dd.1 h).2 y cU).2;rw[hr]at h6;rw[decide_eq_true h6]at Dh
       simp_all]
      simp[dm]
     ·skip
      apply aa.skip;simp;have pq:kindOk ⟨nt,nn,ns,au⟩ ⟨rk,rh,ra,rb,rp,rg⟩:=qW (by rw[Dh];simp_all);apply aa.fJ aC fw [1,3];simp[Bu];rw[aF (x:=(y:Int)+1) (by omega)];refine⟨y+1,Le.bH (o:=[]) ?_ ?_ ?_ ?_,⟨by omega,λi hi=>?_⟩,by omega⟩;iterate 4(·simp)
      ·by_cases e:i=y
       ·subst e;show gV _ (au.getD i default)/\kindOk _ (au.getD i default);rw[hr];exact⟨gZ,pq⟩
       ·exact fW i (by omega)
    ·have g1:¬rk=1:=by simpa using g1
     rw[aZ g1]at pq;apply aa.ag aC fw [1,3,4,5,80,91];simp[abh];refine aa.cond rfl (λg2=>?_) (λg2=>?_)
     ·have g2:rk=2:=by simpa using g2
      rw[cF g2]at pq;have xN:decide (ra>=0/\ra<nt/\rb=0)=k1:=by cases k1<;>simp at pq⊢<;>first|exact pq|omega
      refine aa.JP aC fw [(1,.v (.box [ti nt,ti nn,ti ns,.sl (aW au)])),(3,.v (ti y)),(5,.v (.bool k1))] ?_ ?_
      ·by_cases q1:ra>=0
       ·skip
        by_cases q2:ra<nt
        ·skip
         by_cases q3:rb=0
         ·skip
          have:k1=true:=by rw[<-xN];simp[q1,q2,q3]
          simp[Fx,q1,q2,q3,this]
         ·have:k1=false:=by rw[<-xN];simp[q3]
          simp[Fx,q1,q2,q3,this]
        ·have:k1=false:=by rw[<-xN];simp[q2]
         simp[Fx,q1,q2,this]
       ·have:k1=false:=by rw[<-xN];simp[q1]
        simp[Fx,q1,this]
      apply aa.ag aC fw [1,3,150];simp[Bs];refine aa.cond rfl (λh5=>?_) (λh5=>?_)
      ·skip
       apply aa.ag aC fw [2];simp[Bt];apply aa.ret;rw[da λh=>by
        have h6:=((dd.1 h).2 y cU).2;rw[hr]at h6;rw[decide_eq_true h6]at Dh
        simp_all]
       simp[dm]
      ·skip
       apply aa.skip;simp;have pq:kindOk ⟨nt,nn,ns,au⟩ ⟨rk,rh,ra,rb,rp,rg⟩:=qW (by rw[Dh];simp_all);apply aa.fJ aC fw [1,3];simp[Bu];rw[aF (x:=(y:Int)+1) (by omega)];refine⟨y+1,Le.bH (o:=[]) ?_ ?_ ?_ ?_,⟨by omega,λi hi=>?_⟩,by omega⟩;iterate 4(·simp)
       ·by_cases e:i=y
        ·subst e;show gV _ (au.getD i default)/\kindOk _ (au.getD i default);rw[hr];exact⟨gZ,pq⟩
        ·exact fW i (by omega)
     ·have g2:¬rk=2:=by simpa using g2
      rw[aZ g2]at pq;apply aa.ag aC fw [1,3,4,5,80,108];simp[abi];refine aa.cond rfl (λg3=>?_) (λg3=>?_)
      ·have g3:rk=3:=by simpa using g3
       rw[cF g3]at pq;have xN:decide (ra>=0/\ra<nn/\rb=0)=k1:=by cases k1<;>simp at pq⊢<;>first|exact pq|omega
       refine aa.JP aC fw [(1,.v (.box [ti nt,ti nn,ti ns,.sl (aW au)])),(3,.v (ti y)),(5,.v (.bool k1))] ?_ ?_
       ·by_cases q1:ra>=0
        ·skip
         by_cases q2:ra<nn
         ·skip
          by_cases q3:rb=0
          ·skip
           have:k1=true:=by rw[<-xN];simp[q1,q2,q3]
           simp[Fy,q1,q2,q3,this]
          ·have:k1=false:=by rw[<-xN];simp[q3]
           simp[Fy,q1,q2,q3,this]
         ·have:k1=false:=by rw[<-xN];simp[q2]
          simp[Fy,q1,q2,this]
        ·have:k1=false:=by rw[<-xN];simp[q1]
         simp[Fy,q1,this]
       apply aa.ag aC fw [1,3,150];simp[Bs];refine aa.cond rfl (λh5=>?_) (λh5=>?_)
       ·skip
        apply aa.ag aC fw [2];simp[Bt];apply aa.ret;rw[da λh=>by
         have h6:=((dd.1 h).2 y cU).2;rw[hr]at h6;rw[decide_eq_true h6]at Dh
         simp_all]
        simp[dm]
       ·skip
        apply aa.skip;simp;have pq:kindOk ⟨nt,nn,ns,au⟩ ⟨rk,rh,ra,rb,rp,rg⟩:=qW (by rw[Dh];simp_all);apply aa.fJ aC fw [1,3];simp[Bu];rw[aF (x:=(y:Int)+1) (by omega)];refine⟨y+1,Le.bH (o:=[]) ?_ ?_ ?_ ?_,⟨by omega,λi hi=>?_⟩,by omega⟩;iterate 4(·simp)
        ·by_cases e:i=y
         ·subst e;show gV _ (au.getD i default)/\kindOk _ (au.getD i default);rw[hr];exact⟨gZ,pq⟩
         ·exact fW i (by omega)
      ·have g3:¬rk=3:=by simpa using g3
       rw[aZ g3]at pq;apply aa.ag aC fw [1,3,4,5,125];simp[abj];refine aa.cond rfl (λg4=>?_) (λg4=>?_)
       ·have g4:rk=4:=by simpa using g4
        rw[cF g4]at pq;have xN:decide (ra>=0/\ra<nn/\rb>=0/\rb<nn)=k1:=by cases k1<;>simp at pq⊢<;>first|exact pq|omega
        refine aa.JP aC fw [(1,.v (.box [ti nt,ti nn,ti ns,.sl (aW au)])),(3,.v (ti y)),(5,.v (.bool k1))] ?_ ?_
        ·by_cases q1:ra>=0
         ·skip
          by_cases q2:ra<nn
          ·skip
           by_cases q3:rb>=0
           ·skip
            by_cases q4:rb<nn
            ·skip
             have:k1=true:=by rw[<-xN];simp[q1,q2,q3,q4]
             simp[Br,q1,q2,q3,q4,this]
            ·have:k1=false:=by rw[<-xN];simp[q4]
             simp[Br,q1,q2,q3,q4,this]
           ·have:k1=false:=by rw[<-xN];simp[q3]
            simp[Br,q1,q2,q3,this]
          ·have:k1=false:=by rw[<-xN];simp[q2]
           simp[Br,q1,q2,this]
         ·have:k1=false:=by rw[<-xN];simp[q1]
          simp[Br,q1,this]
        apply aa.ag aC fw [1,3,150];simp[Bs];refine aa.cond rfl (λh5=>?_) (λh5=>?_)
        ·skip
         apply aa.ag aC fw [2];simp[Bt];apply aa.ret;rw[da λh=>by
          have h6:=((dd.1 h).2 y cU).2;rw[hr]at h6;rw[decide_eq_true h6]at Dh
          simp_all]
         simp[dm]
        ·skip
         apply aa.skip;simp;have pq:kindOk ⟨nt,nn,ns,au⟩ ⟨rk,rh,ra,rb,rp,rg⟩:=qW (by rw[Dh];simp_all);apply aa.fJ aC fw [1,3];simp[Bu];rw[aF (x:=(y:Int)+1) (by omega)];refine⟨y+1,Le.bH (o:=[]) ?_ ?_ ?_ ?_,⟨by omega,λi hi=>?_⟩,by omega⟩;iterate 4(·simp)
         ·by_cases e:i=y
          ·subst e;show gV _ (au.getD i default)/\kindOk _ (au.getD i default);rw[hr];exact⟨gZ,pq⟩
          ·exact fW i (by omega)
       ·have g4:¬rk=4:=by simpa using g4
        rw[aZ g4]at pq;have xN:k1=false:=by cases k1<;>simp at pq⊢
        rw[xN]at Dh;apply aa.skip;simp;apply aa.ag aC fw [1,3,150];simp[Bs];refine aa.cond rfl (λh5=>?_) (λh5=>?_)
        ·skip
         apply aa.ag aC fw [2];simp[Bt];apply aa.ret;rw[da λh=>by
          have h6:=((dd.1 h).2 y cU).2;rw[hr]at h6;rw[decide_eq_true h6]at Dh
          simp_all]
         simp[dm]
        ·skip
         apply aa.skip;simp;have pq:kindOk ⟨nt,nn,ns,au⟩ ⟨rk,rh,ra,rb,rp,rg⟩:=qW (by rw[Dh];simp_all);apply aa.fJ aC fw [1,3];simp[Bu];rw[aF (x:=(y:Int)+1) (by omega)];refine⟨y+1,Le.bH (o:=[]) ?_ ?_ ?_ ?_,⟨by omega,λi hi=>?_⟩,by omega⟩;iterate 4(·simp)
         ·by_cases e:i=y
          ·subst e;show gV _ (au.getD i default)/\kindOk _ (au.getD i default);rw[hr];exact⟨gZ,pq⟩
          ·exact fW i (by omega)
  ·have hy3:y=au.length:=by simp at cU;omega
   subst hy3;apply aa.exit;simp;apply aa.ag aC fw [2];simp[abk];apply aa.ret;have:v=true:=by rw[<-hv];exact decide_eq_true (dd.2 ⟨b8,fW⟩)
   rw[this];simp[dm]
structure bI where
 head:Int
 dH:bT
 (aI l0 l1:Int)
 deriving DecidableEq,Inhabited
def bI.enc(e:bI):aL:=[ti e.head,.sl (aG e.dH),ti e.aI,ti e.l0,ti e.l1]
def bn(l:List bI):List (aL):=l.map bI.enc
def acy:aL->bI
 |[a,.sl b,c,d,e]=>⟨dL a,lz b,dL c,dL d,dL e⟩
 |_=>default
def GC(l:List (aL)):List bI:=l.map acy
@[simp] def Yc(r:bI):acy r.enc=r:=by simp[acy,bI.enc,dL]
@[simp] def amw(l:List bI):GC (bn l)=l:=gK Yc l
@[simp] def ajH(l:List bI):(bn l).length=l.length:=by simp[bn]
@[simp] def ajI{a b:List bI}:bn a=bn b↔a=b:=⟨λh=>by have:=congrArg GC h;simpa using this,λh=>by rw[h]⟩
def kE{l:List bI}{y:Nat}(h:y<l.length):DM.rowAt (bn l) y=(l.getD y default).enc:=by simp[DM.rowAt,bn,h]
def jJ(r:dq):bT:=if r.kind=3 then [r.a]else if r.kind=4 then [r.a,r.b]else []
def t93(r:dq):bw aj 98 [.agg r.enc] (.sl (aG (jJ r))):=by
 obtain⟨rk,rh,ra,rb,rp,rg⟩:=r;obtain⟨R,hR⟩:=be (jJ ⟨rk,rh,ra,rb,rp,rg⟩);rw[hR];simp only[jJ]at hR;have aC:=cL;refine c93.ok (by simp) (aT ?_);simp[dq.enc];apply aa.ag aC fw [1];simp[ahf];refine aa.lk (o:=[]) (l:=[(1,.v (.box [ti rk,ti rh,ti ra,ti rb,ti rp,ti rg]))]) (aY:=1200) (by simp) ?_;apply aa.sq aC fw [1,4];simp[ahg];apply aa.block;apply aa.ag aC fw [1,4,5];simp[ahh];refine aa.cond rfl (λh1=>?_) (λh1=>?_)
 ·have h1:rk=3:=by simpa using h1
  rw[cF h1]at hR;subst hR;apply aa.ag aC fw [2];simp[ahi,gn];apply aa.ret;simp[dm,aG]
 ·have h1:¬rk=3:=by simpa using h1
  rw[aZ h1]at hR;apply aa.ag aC fw [1,10];simp[ahj];refine aa.cond rfl (λh2=>?_) (λh2=>?_)
  ·have h2:rk=4:=by simpa using h2
   rw[cF h2]at hR;subst hR;apply aa.ag aC fw [2];simp[ahk,gn];apply aa.ret;simp[dm,aG]
  ·have h2:¬rk=4:=by simpa using h2
   rw[aZ h2]at hR;subst hR;apply aa.skip;simp;apply aa.ag aC fw [2];simp[ahl];apply aa.ret;simp[dm,aG]
def dY(v:bY)(ts:bT):bY:=ts.map λt=>v.getD t.toNat default
def t91(e:bI)(v:bY)(h:∀t∈e.dH,0<=t/\t<v.length)(hl:e.dH.length<=1000000):pW aj 96 [.agg e.enc,.sl (bG v)] 63 2 (bG (dY v e.dH)):=by
 obtain⟨eh,ts,ec,e0,e1⟩:=e;simp only at h hl;have aC:=cL;refine c91.okF (by simp) (aT ?_);simp[bI.enc];apply aa.ag aC fw [1,2];simp[agY];refine aa.lk (o:=[]) (l:=[(1,.v (.sl (bG v))),(2,.v (.box [ti eh,.sl (aG ts),ti ec,ti e0,ti e1]))]) (aY:=1200) (by simp) ?_;apply aa.ag aC fw [1,2,5];simp[agZ];refine aa.lk (o:=[]) (l:=[(1,.v (.sl (bG v))),(2,.v (.box [ti eh,.sl (aG ts),ti ec,ti e0,ti e1])),(5,.aX)]) (aY:=1400) (by simp) ?_;refine aa.le (Le.wr (k:=5) 63 (sz:=2) (by omega) (by simp)) ?_;rw[lj];apply aa.sq aC fw [1,2,5,6];simp[ag0];apply aa.block;refine aa.loop (λy:Nat=>⟨DM.look [(1,.v (.sl (bG v))),(2,.v (.box [ti eh,.sl (aG ts),ti ec,ti e0,ti e1])),(5,.bC 1400 0),(6,.v (ti y))],cJ [(1400,.bE 0 63 2 (bG (dY v (ts.take y))))],1600,1000,[]⟩)
  (λy=>y<=ts.length) (λy=>ts.length-y) 0 (Le.bH ?_ ?_ ?_ ?_) (by simp) (λy hy=>?_)
 ·simp
 ·simp
 ·simp[dY]
 ·simp
 apply aa.sq aC fw [1,2,5,6,11];simp[ag1];refine aa.cond rfl (λcU=>?_) (λcU=>?_)
 ·have cU:y<ts.length:=by simpa using cU
  apply aa.skip;simp;apply aa.seq;apply aa.block;have rt:=cM cU;obtain⟨t,ht⟩:=be (ts.getD y default);rw[ht]at rt;obtain⟨q1,q2⟩:=h t (by rw[<-ht];exact bu cU);obtain⟨t,rfl⟩:=kK q1;have q2:t<v.length:=by omega
  have rv:=dt q2;obtain⟨w,hw⟩:=be (v.getD t default);rw[hw]at rv;have hS:bG (dY v (ts.take (y+1)))=bG (dY v (ts.take y))++[[ti w.aI,ti w.size]]:=by
   rw[c8 cU,ht];simp only[dY,JI,qD,SJ,iQ,hw,bG]
  have hTl:(dY v (ts.take y)).length<=1000000:=by simp[dY];omega
  apply aa.fJ aC fw [1,2,5,6];simp[ag2,cU,rt,q2,rv,dR,gn];repeat (refine⟨by omega, ?_⟩)
  apply aa.fJ aC fw [1,2,5,6];simp[ag3];rw[aF (x:=(y:Int)+1) (by omega)];refine⟨y+1,Le.bH ?_ ?_ ?_ ?_,by omega,by omega⟩
  ·simp
  ·simp
  ·simp[hS]
  ·simp
 ·have fW:y=ts.length:=by simp at cU;omega
  subst fW;rw[ZbX];apply aa.exit;simp;apply aa.ag aC fw [4];simp[ag4];apply aa.ret;exact .inr ⟨1400,0,by simp,by simp⟩
def x9(ci:bT)(i:Nat):Prop:=¬(ci.getD i default<1\/ci.getD i default>60000)
instance(ci:bT)(i:Nat):Decidable (x9 ci i):=by unfold x9;infer_instance
def d9(n:aD)(ci:bT):Prop:=(ci.length:Int)=n.aM/\∀i,i<ci.length->x9 ci i
instance(n:aD)(ci:bT):Decidable (d9 n ci):=by unfold d9;infer_instance
def t44(n:aD)(ci:bT)(hl:ci.length<=9223372036854775807):bw aj 35 [n.enc,.sl (aG ci)] (.bool (decide (d9 n ci))):=by
 obtain⟨nt,nn,ns,au⟩:=n;obtain⟨v,hv⟩:=be (decide (d9 ⟨nt,nn,ns,au⟩ ci));rw[hv];have dd:d9 ⟨nt,nn,ns,au⟩ ci↔(ci.length:Int)=nt/\∀i,i<ci.length->x9 ci i:=Iff.rfl;have da:¬d9 ⟨nt,nn,ns,au⟩ ci->v=false:=λh=>by rw[<-hv];simp[h]
 have aC:=cL;refine c44.ok (by simp) (aT ?_);simp[aD.enc];apply aa.ag aC fw [1,2];simp[ahu];refine aa.lk (o:=[]) (l:=[(1,.v (.sl (aG ci))),(2,.v (.box [ti nt,ti nn,ti ns,.sl (aW au)]))]) (aY:=1200) (by simp) ?_;apply aa.sq aC fw [1,10];simp[ahv];refine aa.cond rfl (λh1=>?_) (λh1=>?_)
 ·have h1:¬(ci.length:Int)=nt:=by simpa using h1
  apply aa.ag aC fw [4];simp[ahw];apply aa.ret;rw[da λh=>h1 (dd.1 h).1];simp[dm]
 ·have h1:(ci.length:Int)=nt:=by simpa using h1
  apply aa.skip;simp;apply aa.sq aC fw [1,5];simp[ahx];apply aa.block;refine aa.loop (λy:Nat=>⟨DM.look [(1,.v (.sl (aG ci))),(5,.v (ti y))],cJ [],2000,1000,[]⟩)
   (λy=>y<=ci.length/\∀i,i<y->x9 ci i) (λy=>ci.length-y) 0 (Le.bH (o:=[]) ?_ ?_ ?_ ?_) (by simp) (λy hy=>?_)
  iterate 4(·simp)
  obtain⟨mf,fW⟩:=hy;apply aa.sq aC fw [1,5,14];simp[ahy];refine aa.cond rfl (λcU=>?_) (λcU=>?_)
  ·have cU:y<ci.length:=by simpa using cU
   apply aa.skip;simp;apply aa.seq;apply aa.block;have rr:=cM cU;obtain⟨x,hx⟩:=be (ci.getD y default);rw[hx]at rr;obtain⟨c2,gZ⟩:=be (decide (x<1\/x>60000):Bool);refine aa.cH aC fw [(1,.v (.sl (aG ci))),(5,.v (ti y)),(28,.v (.bool c2))] ?_ ?_
   ·by_cases q1:x<1
    ·have:c2=true:=by rw[<-gZ];simp[q1]
     simp[SS,q1,this,cU,rr]
    ·skip
     by_cases q2:x>60000
     ·have:c2=true:=by rw[<-gZ];simp[q2]
      simp[SS,q1,q2,this,cU,rr]
     ·skip
      have:c2=false:=by rw[<-gZ];simp[q1,q2]
      simp[SS,q1,q2,this,cU,rr]
   refine aa.cond rfl (λh2=>?_) (λh2=>?_)
   ·rw[h2]at gZ;have gZ:=qW gZ;apply aa.ag aC fw [4];simp[ahz];apply aa.ret;rw[da λh=>by have:=(dd.1 h).2 y cU;unfold x9 at this;rw[hx]at this;exact this gZ];simp[dm]
   ·rw[h2]at gZ;have gZ:=wQ gZ;apply aa.skip;simp;apply aa.fJ aC fw [1,5];simp[ahA];rw[aF (x:=(y:Int)+1) (by omega)];refine⟨y+1,Le.bH (o:=[]) ?_ ?_ ?_ ?_,⟨by omega,λi hi=>?_⟩,by omega⟩;iterate 4(·simp)
    ·by_cases e:i=y
     ·subst e;unfold x9;rw[hx];exact gZ
     ·exact fW i (by omega)
  ·have hy3:y=ci.length:=by simp at cU;omega
   subst hy3;apply aa.exit;simp;apply aa.ag aC fw [4];simp[ahB];apply aa.ret;have:v=true:=by rw[<-hv];exact decide_eq_true (dd.2 ⟨h1,fW⟩)
   rw[this];simp[dm]
def fM(ci:bT)(r:dq):bI:=⟨r.head,jJ r,if r.kind=2 then r.cA+ci.getD r.a.toNat default else r.cA,0,0⟩
def kR(n:aD)(ci:bT):List bI:=n.au.map (fM ci)
abbrev s93:DM.Spec:=dh (λts=>∃a b c d e f,ts=[.agg [ti a,ti b,ti c,ti d,ti e,ti f]]) (fun|[.agg r]=>.sl (aG (jJ (kC r)))|_=>.bool false) false
def aut:ay aj (bB [(98,s93)]):=by
 refine ay.cons ay.nil ?_;rintro ts ⟨a,b,c,d,e,f,rfl⟩;exact⟨by simpa [dq.enc,kC,dL]using t93 ⟨a,b,c,d,e,f⟩,λh=>by cases h⟩
def GD(r:dq):(jJ r).length<=2:=by unfold jJ;split<;>(try split)<;>simp
def t67(n:aD)(ci:bT)(hn:AP n)(hp:d9 n ci):bw aj 62 [n.enc,.sl (aG ci)] (.agg [ti n.ak,.sl (bn (kR n ci))]):=by
 obtain⟨nt,nn,ns,au⟩:=n;obtain⟨n1,n2,n3,n4⟩:=hn;obtain⟨p1,p2⟩:=hp;simp only[kR]at n1 n2 n3 n4 p1 p2⊢;have aC:=aut;refine c67.ok (by simp) (aT ?_);simp[aD.enc];apply aa.ag aC fw [1,2,4];simp[ahm];refine aa.lk (o:=[(1005,.box [.v (ti 0),.aX])]) (l:=[(1,.v (.sl (aG ci))),(2,.v (.box [ti nt,ti nn,ti ns,.sl (aW au)])),(4,.ptr 1005 0)]) (aY:=1200) (by simp) ?_;apply aa.ag aC fw [1,2,4,5];simp[ahn];refine aa.lk (o:=[(1005,.box [.v (ti 0),.aX])]) (l:=[(1,.v (.sl (aG ci))),(2,.v (.box [ti nt,ti nn,ti ns,.sl (aW au)])),(4,.ptr 1005 0),(5,.aX)]) (aY:=1400) (by simp) ?_;refine aa.le (Le.wr (k:=5) 157 (sz:=5) (by omega) (by simp)) ?_;rw[lj];apply aa.sq aC fw [1,2,4,5,6];simp[aho];apply aa.block;refine aa.loop (λy:Nat=>⟨DM.look [(1,.v (.sl (aG ci))),(2,.v (.box [ti nt,ti nn,ti ns,.sl (aW au)])),(4,.ptr 1005 0),(5,.bC 1400 0),(6,.v (ti y))],cJ [(1005,.box [.v (ti 0),.aX]),(1400,.bE 0 157 5 (bn ((au.take y).map (fM ci))))],1600,1000,[]⟩)
  (λy=>y<=au.length) (λy=>au.length-y) 0 (Le.bH ?_ ?_ ?_ ?_) (by simp) (λy hy=>?_)
 ·simp
 ·simp
 ·simp[bn]
 ·simp
 apply aa.sq aC fw [1,2,4,5,6,13];simp[ahp];refine aa.cond rfl (λcU=>?_) (λcU=>?_)
 ·have cU:y<au.length:=by simpa using cU
  apply aa.skip;simp;apply aa.seq;apply aa.block;have rr:=lW cU;obtain⟨⟨rk,rh,ra,rb,rp,rg⟩,hr⟩:=be (au.getD y default);rw[hr]at rr;have kr:=n4 ⟨rk,rh,ra,rb,rp,rg⟩ (by rw[<-hr];exact bu cU);obtain⟨q1,q2,q3,q4,q5⟩:=kr;simp only at q1 q2 q3 q4 q5;apply aa.ag aC fw [1,2,4,5,6,7];simp[ahq,cU,rr,dq.enc];refine aa.lk (o:=[(1005,.box [.v (ti 0),.aX]),(1400,.bE 0 157 5 (bn ((au.take y).map (fM ci))))]) (l:=[(1,.v (.sl (aG ci))),(2,.v (.box [ti nt,ti nn,ti ns,.sl (aW au)])),(4,.ptr 1005 0),(5,.bC 1400 0),(6,.v (ti y)),(7,.v (.box [ti rk,ti rh,ti ra,ti rb,ti rp,ti rg]))]) (aY:=2400) (by simp) ?_;apply aa.ag aC fw [1,2,4,5,6,7,8];simp[ahr];apply aa.sq aC fw [1,2,4,5,6,7,8,25];simp[ahs];refine aa.cond rfl (λh6=>?_) (λh6=>?_)
  ·have h6:rk=2:=by simpa using h6
   have PA:0<=ra/\ra<ci.length:=by omega
   obtain⟨a,rfl⟩:=kK PA.1;have oQ:a<ci.length:=by omega
   have ri:=cM oQ;have hpi:=p2 a oQ;unfold x9 at hpi;obtain⟨x,hx⟩:=be (ci.getD a default);rw[hx]at ri hpi;have hE:fM ci ⟨rk,rh,a,rb,rp,rg⟩=⟨rh,jJ ⟨rk,rh,a,rb,rp,rg⟩,rp+x,0,0⟩:=by unfold fM;simp only[cF h6,iQ,hx]
   apply aa.fJ aC fw [1,2,4,5,6,7,8];simp[aht,oQ,ri,aF (x:=rp+x) (by omega)];apply aa.fJ aC fw [1,2,4,5,6];simp[abc,kC,dL,gn,dR];repeat (refine⟨by omega, ?_⟩)
   have hS:∀ec,fM ci (au.getD y default)=⟨rh,jJ (au.getD y default),ec,0,0⟩->bn ((au.map (fM ci)).take (y+1))=bn ((au.map (fM ci)).take y)++[[ti rh,.sl (aG (jJ (au.getD y default))),ti ec,ti 0,ti 0]]:=by
    intro ec h;rw[<-List.map_take,c8 cU,JI,bn,JI,Zcx];simp only[qD,SJ,h,bI.enc,bn]
   rw[hr]at hS;have hS:=hS _ hE;apply aa.fJ aC fw [1,2,4,5,6];simp[abd];rw[aF (x:=(y:Int)+1) (by omega)];refine⟨y+1,Le.bH ?_ ?_ ?_ ?_,by omega,by omega⟩
   ·simp
   ·simp
   ·simp[hS]
   ·simp
  ·have h6:¬rk=2:=by simpa using h6
   have hE:fM ci ⟨rk,rh,ra,rb,rp,rg⟩=⟨rh,jJ ⟨rk,rh,ra,rb,rp,rg⟩,rp,0,0⟩:=by unfold fM;simp only[aZ h6]
   apply aa.skip;simp;apply aa.fJ aC fw [1,2,4,5,6];simp[abc,kC,dL,gn,dR];repeat (refine⟨by omega, ?_⟩)
   have hS:∀ec,fM ci (au.getD y default)=⟨rh,jJ (au.getD y default),ec,0,0⟩->bn ((au.map (fM ci)).take (y+1))=bn ((au.map (fM ci)).take y)++[[ti rh,.sl (aG (jJ (au.getD y default))),ti ec,ti 0,ti 0]]:=by
    intro ec h;rw[<-List.map_take,c8 cU,JI,bn,JI,Zcx];simp only[qD,SJ,h,bI.enc,bn]
   rw[hr]at hS;have hS:=hS _ hE;apply aa.fJ aC fw [1,2,4,5,6];simp[abd];rw[aF (x:=(y:Int)+1) (by omega)];refine⟨y+1,Le.bH ?_ ?_ ?_ ?_,by omega,by omega⟩
   ·simp
   ·simp
   ·simp[hS]
   ·simp
 ·have fW:y=au.length:=by simp at cU;omega
  subst fW;rw[show(au.map (fM ci)).take au.length=au.map (fM ci)from Xd (by simp)];apply aa.exit;simp;apply aa.ag aC fw [4];simp[abe];apply aa.ret;simp[abf]
section
variable{nd:Int}{es:List bI}
def jE(l:bY)(i:Nat)(x:dg):bG (l.set i x)=(bG l).set i [ti x.aI,ti x.size]:=by simp[bG,Zcs]
def lX(l:bT)(i:Nat)(x:Int):aG (l.set i x)=(aG l).set i [ti x]:=by simp[aG,Zcs]
def afs{α:Type}(a b:α){n y:Nat}(h:y<n):(List.replicate y a++List.replicate (n-y) b).set y a=List.replicate (y+1) a++List.replicate (n-(y+1)) b:=by
 rw[ZbS _ _ (by simp)];simp only[ZbH,ZcF];rw[show n-y=(n-(y+1))+1 by omega,Pu,Zb5,Zc8 (n:=y),ZbY];rfl
def tY(nd:Int)(e:bI):Prop:=0<=e.head/\e.head<nd/\(∀t∈e.dH,0<=t/\t<nd)/\0<=e.aI/\e.aI<=4000000000000/\e.dH.length<=1000000
def Lw(nd:Int)(es:List bI):Prop:=0<=nd/\nd<=1000000/\es.length<=1000000/\∀e∈es,tY nd e
def Lx(nd:Int)(v:bY):Prop:=(v.length:Int)=nd/\∀x∈v,jI x
def Iu(x:dg):Nat:=x.aI.toNat*2199023255552+x.size.toNat
def jx(v:bY):Nat:=(v.map Iu).sum
def Iv{own:bY}{h:Nat}{y:dg}(hh:h<own.length)(hy:Iu y<Iu (own.getD h default)):jx (own.set h y)<jx own:=by
 induction own generalizing h with
 |nil=>simp at hh
 |cons x own ih=>
  cases h with
  |zero=>simp[jx]at hy⊢;omega
  |succ h=>
   have:=ih (h:=h) (by simpa using hh) (by simpa using hy);simp[jx]at this⊢;omega
def Wz{a b:dg}(ha:jI a)(hb:jI b)(h:a.lt b):Iu a<Iu b:=by
 obtain⟨a1,a2,a3,a4⟩:=ha;obtain⟨b1,b2,b3,b4⟩:=hb;unfold dg.lt at h;unfold Iu;omega
def qX(v:bY)(e:bI):bY:=if(d0 e.aI (dY v e.dH)).lt (v.getD e.head.toNat default)then v.set e.head.toNat (d0 e.aI (dY v e.dH))else v
def BE{v:bY}{ts:bT}(hv:Lx nd v)(h:∀t∈ts,0<=t/\t<nd):∀x∈dY v ts,jI x:=by
 intro x hx;simp only[dY,g9]at hx;obtain⟨t,ht,rfl⟩:=hx;have:=h t ht;have:=hv.1;exact hv.2 _ (bu (by omega))
def sK{v:bY}{e:bI}(he:tY nd e)(hv:Lx nd v):Lx nd (qX v e)/\(qX v e=v\/jx (qX v e)<jx v):=by
 obtain⟨e1,e2,e3,e4,e5,e6⟩:=he;have hc:=jS (c:=e.aI) (l:=dY v e.dH) (BE hv e3) e4 e5;have hh:e.head.toNat<v.length:=by have:=hv.1;omega
 unfold qX;split
 ·rename_i h;refine⟨⟨by simpa using hv.1,λx hx=>?_⟩,.inr (Iv hh (Wz hc (hv.2 _ (bu hh)) h))⟩;rcases Xf hx with h|rfl
  ·exact hv.2 x h
  ·exact hc
 ·exact⟨hv,.inl rfl⟩
def eL(es:List bI)(v:bY)(y:Nat):bY:=(List.range y).foldl (λv k=>qX v (es.getD k default)) v
def ke(es:List bI)(v:bY)(y:Nat):eL es v (y+1)=qX (eL es v y) (es.getD y default):=by simp[eL,Ho,Dk]
def pG{nd:Int}{es:List bI}(hh:Lw nd es){v:bY}(hv:Lx nd v):∀y,y<=es.length->Lx nd (eL es v y)/\(eL es v y=v\/jx (eL es v y)<jx v)
 |0,_=>⟨hv,.inl rfl⟩
 |y+1,hy=>by
  obtain⟨h1,h2⟩:=pG hh hv y (by omega);obtain⟨h3,h4⟩:=sK (hh.2.2.2 _ (bu (l:=es) (i:=y) (by omega))) h1;rw[ke];refine⟨h3, ?_⟩;rcases h4 with e|h4
  ·rw[e];exact h2
  ·rcases h2 with e|h2
   ·rw[e]at h4⊢;exact .inr h4
   ·exact .inr (by omega)
def lJ(es:List bI):Nat->bY->bY
 |0,v=>v
 |f+1,v=>if eL es v es.length=v then v else lJ es f (eL es v es.length)
def QI{v:bY}{f:Nat}{R:bY}(hs:eL es v es.length=v\/jx (eL es v es.length)<jx v)(h1:jx v<f)(h2:lJ es f v=R):
  (eL es v es.length≠v->jx (eL es v es.length)<jx v/\∃f,jx (eL es v es.length)<f/\lJ es f (eL es v es.length)=R)/\(eL es v es.length=v->v=R):=by
 cases f with
 |zero=>omega
 |succ f=>
  unfold lJ at h2;refine⟨λb7=>?_,λe=>?_⟩
  ·rw[aZ b7]at h2;have:=hs.resolve_left b7;exact⟨this,f,by omega,h2⟩
  ·rwa [cF e]at h2
def GF(nd:Int):bY:=List.replicate nd.toNat ⟨1099511627776,0⟩
def gj(nd:Int)(es:List bI):bY:=lJ es (jx (GF nd)+1) (GF nd)
def Iw{nd:Int}{es:List bI}(hh:Lw nd es):∀f v,jx v<f->Lx nd v->Lx nd (lJ es f v)
 |0,v,h,_=>by omega
 |f+1,v,h,hv=>by
  obtain⟨h1,h2⟩:=pG hh hv es.length (ed _);unfold lJ;split
  ·exact hv
  ·rename_i b7;exact Iw hh f _ (by have:=h2.resolve_left b7;omega) h1
def Ac(hh:Lw nd es):Lx nd (GF nd):=by
 refine⟨by have:=hh.1;simp only[GF,ZbH];omega,λx hx=>?_⟩;rw[ZbU hx];simp[jI]
def BF(hh:Lw nd es):Lx nd (gj nd es):=Iw hh _ _ (by omega) (Ac hh)
def stepG(es:List bI)(v:bY)(g:bT)(j:Nat):bT:=
 if(v.getD (es.getD (es.length-1-j) default).head.toNat default).aI<1099511627776/\d0 (es.getD (es.length-1-j) default).aI (dY v (es.getD (es.length-1-j) default).dH)=v.getD (es.getD (es.length-1-j) default).head.toNat default then g.set (es.getD (es.length-1-j) default).head.toNat ((es.length-1-j:Nat):Int)else g
def xw(es:List bI)(v:bY)(nd:Int)(j:Nat):bT:=(List.range j).foldl (stepG es v) (List.replicate nd.toNat (-1))
def ya(es:List bI)(v:bY)(nd:Int)(y:Nat):xw es v nd (y+1)=stepG es v (xw es v nd y) y:=by simp[xw,Ho,Dk]
def Yd(es:List bI)(v:bY)(h:0<=nd)(y:Nat):((xw es v nd y).length:Int)=nd:=by
 induction y with
 |zero=>simp[xw];omega
 |succ y ih=>
  rw[ya];unfold stepG;split
  ·simpa using ih
  ·exact ih
structure VM where
 v:bY
 QJ:Bool
abbrev s91:DM.Spec:=E7 (λts=>∃a b c d e v,ts=[.agg [ti a,.sl (aG b),ti c,ti d,ti e],.sl (bG v)]/\(∀t∈b,0<=t/\t<v.length)/\b.length<=1000000) (fun|[.agg [_,.sl b,_,_,_],.sl v]=>bG (dY (nX v) (lz b))|_=>[]) 63 2
def ND(l:bY):jk.jv (bG l).flatten=true:=by
 induction l with
 |nil=>rfl
 |cons x l ih=>simpa [bG,jk.jv,jk]using ih
def auu:ay aj (bB [(96,s91),(95,s69),(97,s92)]):=by
 refine ay.agB (ay.cons (ay.cons ay.nil ?_) ?_) ?_
 ·rintro ts ⟨a,b,c,d,rfl⟩;exact⟨t92 ⟨a,b⟩ ⟨c,d⟩,λ_=>rfl⟩
 ·rintro ts ⟨c,l,rfl,h1,h2,h3,h4⟩;exact⟨by simpa using t69 c l h1 h2 h3 h4,λ_=>rfl⟩
 ·rintro ts ⟨a,b,c,d,e,v,rfl,h1,h2⟩;exact⟨by simpa [bI.enc]using t91 ⟨a,b,c,d,e⟩ v h1 h2,ND _⟩
def t66(nd:Int)(es:List bI)(hh:Lw nd es):bw aj 61 [.agg [ti nd,.sl (bn es)]] (.ew [.sl (bG (gj nd es)),.sl (aG (xw es (gj nd es) nd es.length))]):=by
 obtain⟨R,hR⟩:=be (gj nd es);have hRo:Lx nd R:=hR▸BF hh;rw[hR];have h0:=Ac hh;have OV:=λ(v:bY) (hv:Lx nd v)=>pG hh hv;have yQ:=λ(v:bY) (hv:Lx nd v) (e:bI) (he:tY nd e)=>sK he hv;obtain⟨g1,g2,g3,g4⟩:=hh;have aC:=auu;refine c66.ok (by simp) (aT ?_);simp;apply aa.ag aC fw [1];simp[ag5];refine aa.lk (o:=[]) (l:=[(1,.v (.box [ti nd,.sl (bn es)]))]) (aY:=1200) (by simp) ?_;apply aa.ag aC fw [1,4];simp[ag6,CT,dR];repeat (refine⟨by omega, ?_⟩)
 refine aa.le (Le.bH (o:=[(1217,.bE 0 63 2 (bG ((List.replicate nd.toNat (⟨0,0⟩:dg)))))]) (l:=[(1,.v (.box [ti nd,.sl (bn es)])),(4,.bC 1217 0)]) (aY:=1400) ?_ ?_ ?_ ?_) ?_
 ·simp
 ·simp
 ·simp[bG]
 ·simp
 apply aa.ag aC fw [1,4,5];simp[ag7,CT,dR];repeat (refine⟨by omega, ?_⟩)
 refine aa.le (Le.bH (o:=[(1217,.bE 0 63 2 (bG ((List.replicate nd.toNat (⟨0,0⟩:dg))))),(1420,.bE 0 3 1 (aG (List.replicate nd.toNat 0)))]) (l:=[(1,.v (.box [ti nd,.sl (bn es)])),(4,.bC 1217 0),(5,.bC 1420 0)]) (aY:=1600) ?_ ?_ ?_ ?_) ?_
 ·simp
 ·simp
 ·simp[bG,aG]
 ·simp
 apply aa.sq aC fw [1,4,5,6];simp[ag8];apply aa.block;refine aa.loop (λy:Nat=>⟨DM.look [(1,.v (.box [ti nd,.sl (bn es)])),(4,.bC 1217 0),(5,.bC 1420 0),(6,.v (ti y))],cJ [(1217,.bE 0 63 2 (bG (List.replicate y (⟨1099511627776,0⟩:dg)++List.replicate (nd.toNat-y) (⟨0,0⟩:dg)))),(1420,.bE 0 3 1 (aG (List.replicate y (-1:Int)++List.replicate (nd.toNat-y) (0:Int))))],2000,1000,[]⟩)
  (λy=>y<=nd.toNat) (λy=>nd.toNat-y) 0 (Le.bH ?_ ?_ ?_ ?_) (by simp) (λy hy=>?_)
 iterate 4(·simp)
 obtain⟨A,hA⟩:=be (List.replicate y (⟨1099511627776,0⟩:dg)++List.replicate (nd.toNat-y) (⟨0,0⟩:dg));obtain⟨E,hE⟩:=be (List.replicate y (-1:Int)++List.replicate (nd.toNat-y) (0:Int));have hAl:A.length=nd.toNat:=by rw[<-hA];simp;omega
 have hEl:E.length=nd.toNat:=by rw[<-hE];simp;omega
 rw[hA,hE];apply aa.sq aC fw [1,4,5,6,23];simp[ag9];refine aa.cond rfl (λcU=>?_) (λcU=>?_)
 ·have cU:(y:Int)<nd:=by simpa using cU
  have GG:y<nd.toNat:=by omega
  apply aa.skip;simp;apply aa.seq;apply aa.block;have ra:=dt (l:=A) (y:=y) (by omega);have re:=cM (l:=E) (y:=y) (by omega);have q1:y<A.length:=by omega
  have q2:y<E.length:=by omega
  apply aa.fJ aC fw [1,4,5,6];simp[aha,q1,q2,ra,re];apply aa.fJ aC fw [1,4,5,6];simp[ahb];rw[aF (x:=(y:Int)+1) (by omega)];refine⟨y+1,Le.bH ?_ ?_ ?_ ?_,by omega,by omega⟩
  ·simp
  ·simp
  ·simp only[<-afs _ _ GG,hA,hE,jE,lX];simp
  ·simp
 ·have fW:y=nd.toNat:=by simp at cU;omega
  subst fW;have uH:A=GF nd:=by rw[<-hA];simp[GF]
  have KE:E=List.replicate nd.toNat (-1):=by rw[<-hE];simp
  subst uH;subst KE;apply aa.exit;simp;apply aa.sq aC fw [1,4,5,7];simp[ahc];apply aa.block;refine aa.loop (λz:VM=>⟨DM.look [(1,.v (.box [ti nd,.sl (bn es)])),(4,.bC 1217 0),(5,.bC 1420 0),(7,.v (.bool z.QJ))],cJ [(1217,.bE 0 63 2 (bG (z.v))),(1420,.bE 0 3 1 (aG (List.replicate nd.toNat (-1))))],3000,1000,[]⟩)
   (λz=>Lx nd z.v/\(z.QJ=true->∃f,jx z.v<f/\lJ es f z.v=R)/\(z.QJ=false->z.v=R)) (λz=>2*jx z.v+(if z.QJ then 1 else 0)) ⟨GF nd,true⟩ (Le.bH ?_ ?_ ?_ ?_) (⟨h0,λ_=>⟨_,Zcr _,hR⟩,λh=>by cases h⟩) (λz hy=>?_)
  iterate 4(·simp)
  obtain⟨own,QJ⟩:=z;obtain⟨hz1,hz2,hz3⟩:=hy;simp only at hz1 hz2 hz3⊢;apply aa.sq aC fw [1,4,5,33];simp[ahd];refine aa.cond rfl (λhm=>?_) (λhm=>?_)
  ·have hm:QJ=true:=by simpa using hm
   subst hm;obtain⟨f,hf1,hf2⟩:=hz2 rfl;apply aa.skip;simp;apply aa.block;apply aa.ag aC fw [1,4,5,7];simp[ahe];apply aa.ag aC fw [1,4,5,7,8];simp[aaZ];apply aa.block;refine aa.loop (λy:Nat=>⟨DM.look [(1,.v (.box [ti nd,.sl (bn es)])),(4,.bC 1217 0),(5,.bC 1420 0),(7,.v (.bool (decide (eL es own y≠own)))),(8,.v (ti y))],cJ [(1217,.bE 0 63 2 (bG (eL es own y))),(1420,.bE 0 3 1 (aG (List.replicate nd.toNat (-1))))],4000,1000,[]⟩)
    (λy=>y<=es.length) (λy=>es.length-y) 0 (Le.bH ?_ ?_ ?_ ?_) (by simp) (λy hy3=>?_)
   ·simp
   ·simp[eL]
   ·simp[eL]
   ·simp[eL]
   obtain⟨O,hO⟩:=be (eL es own y);obtain⟨xn,O4⟩:=OV own hz1 y hy3;rw[hO]at xn O4;obtain⟨m1,O3⟩:=be (decide (O≠own):Bool);rw[hO,O3];apply aa.sq aC fw [1,4,5,7,8,38];simp[aa0];refine aa.cond rfl (λcU=>?_) (λcU=>?_)
   ·have cU:y<es.length:=by simpa using cU
    apply aa.skip;simp;apply aa.seq;apply aa.block;have rr:=kE cU;obtain⟨⟨xh,xt,xc,x0,x1⟩,hx⟩:=be (es.getD y default);rw[hx]at rr;have hxo:tY nd ⟨xh,xt,xc,x0,x1⟩:=g4 _ (by rw[<-hx];exact bu cU);have hso:=yQ O xn _ hxo;obtain⟨q1,q2,q3,q4,q5,q6⟩:=hxo;simp only at q1 q2 q3 q4 q5 q6;obtain⟨xh,rfl⟩:=kK q1;apply aa.ag aC fw [1,4,5,7,8,9];simp[aa1,cU,rr,bI.enc];refine aa.lk (o:=[(1217,.bE 0 63 2 (bG (O))),(1420,.bE 0 3 1 (aG (List.replicate nd.toNat (-1))))]) (l:=[(1,.v (.box [ti nd,.sl (bn es)])),(4,.bC 1217 0),(5,.bC 1420 0),(7,.v (.bool m1)),(8,.v (ti y)),(9,.v (.box [ti xh,.sl (aG xt),ti xc,ti x0,ti x1]))]) (aY:=4200) (by simp) ?_;have Ly:∀t∈xt,0<=t/\t<O.length:=λt ht=>by have:=q3 t ht;have:=xn.1;omega
    have htv:=BE xn q3;have I7:(dY O xt).length<=1000000:=by simpa [dY]using q6
    obtain⟨⟨wc,wz⟩,hw⟩:=be (d0 xc (dY O xt));refine aa.kv aC fw (rs:=fg JZ [none,some [],some [],none,some [1217],some [4251],none,some [4211]]) (.inr ⟨_,rfl⟩) (by kernel_rfl) [1,4,5,7,8,9,10] ?_;simp[JZ,fg,cX,bN,aP,CT,q6,I7,hw];refine⟨Ly,htv, ?_⟩;repeat (refine⟨by omega, ?_⟩)
    refine aa.lk (o:=[(1217,.bE 0 63 2 (bG (O))),(1420,.bE 0 3 1 (aG (List.replicate nd.toNat (-1))))]) (l:=[(1,.v (.box [ti nd,.sl (bn es)])),(4,.bC 1217 0),(5,.bC 1420 0),(7,.v (.bool m1)),(8,.v (ti y)),(9,.v (.box [ti xh,.sl (aG xt),ti xc,ti x0,ti x1])),(10,.v (.box [ti wc,ti wz]))]) (aY:=4400) (by simp) ?_;have hhl:xh<O.length:=by have:=xn.1;omega
    have ro:=dt hhl;obtain⟨⟨uc,uz⟩,hu⟩:=be (O.getD xh default);rw[hu]at ro;obtain⟨c1,b8⟩:=be (decide ((⟨wc,wz⟩:dg).lt ⟨uc,uz⟩):Bool);apply aa.ag aC fw [1,4,5,7,8,9,10,58];simp[aa2,hhl,ro,b8];refine aa.cond rfl (λh5=>?_) (λh5=>?_)
    ·have h5:c1=true:=by simpa using h5
     rw[h5]at b8;have b8:=qW b8;have hS0:qX O ⟨xh,xt,xc,x0,x1⟩=O.set xh ⟨wc,wz⟩:=by unfold qX;simp only[hw,hu,iQ];rw[cF b8]
     have sY:eL es own (y+1)=O.set xh ⟨wc,wz⟩:=by rw[ke,hO,hx,hS0]
     have b7:¬eL es own (y+1)=own:=by
      intro e;have h6:jx (O.set xh ⟨wc,wz⟩)<jx O:=by
       refine Iv hhl ?_;rw[hu];exact Wz (by rw[<-hw];exact jS htv q4 q5) (by rw[<-hu];exact xn.2 _ (bu hhl)) b8
      rw[<-sY,e]at h6;rcases O4 with h|h
      ·rw[h]at h6;omega
      ·omega
     apply aa.ag aC fw [1,4,5,8];simp[aa3,hhl,ro];apply aa.fJ aC fw [1,4,5,7,8];simp[aa4];apply aa.fJ aC fw [1,4,5,7,8];simp[Qd];rw[aF (x:=(y:Int)+1) (by omega)];refine⟨y+1,Le.bH ?_ ?_ ?_ ?_,by omega,by omega⟩
     ·simp
     ·simp
     ·simp[sY,jE]
     ·simp;simpa using b7
    ·have h5:c1=false:=by simpa using h5
     rw[h5]at b8;have b8:=wQ b8;have sY:eL es own (y+1)=O:=by rw[ke,hO,hx];unfold qX;simp only[hw,hu,iQ];rw[aZ b8]
     have b7:=O3;rw[<-sY]at b7;apply aa.skip;simp;apply aa.fJ aC fw [1,4,5,7,8];simp[Qd];rw[aF (x:=(y:Int)+1) (by omega)];refine⟨y+1,Le.bH ?_ ?_ ?_ ?_,by omega,by omega⟩
     ·simp
     ·simp
     ·simp[sY,jE]
     ·simp;simpa using b7
   ·have Df:y=es.length:=by simp at cU;omega
    subst Df;have EP:=QI (OV own hz1 _ (ed _)).2 hf1 hf2;simp only[hO]at EP;have amx:2*jx O+(if m1 then 1 else 0)<2*jx own+1:=by
     by_cases e:O=own
     ·have Pr:m1=false:=by rw[<-O3];simp[e]
      subst Pr;rw[e];simp
     ·have:=(EP.1 e).1;cases m1<;>simp<;>omega
    apply aa.exit;simp;refine⟨⟨O,m1⟩,Le.bH ?_ ?_ ?_ ?_,⟨xn,λh=>(EP.1 (qW (O3.trans h))).2,λh=>by have e:=Classical.not_not.1 (wQ (O3.trans h));simp only;rw[e];exact EP.2 e⟩,by simpa using amx⟩;iterate 3(·simp)
    ·simp
  ·have hm:QJ=false:=by simpa using hm
   subst hm;have hz3:=hz3 rfl;subst hz3;apply aa.exit;simp;apply aa.sq aC fw [1,4,5,11];simp[aa5,aF (x:=(es.length:Int)-1) (by omega)];apply aa.block;refine aa.loop (λj:Nat=>⟨DM.look [(1,.v (.box [ti nd,.sl (bn es)])),(4,.bC 1217 0),(5,.bC 1420 0),(11,.v (ti ((es.length:Int)-1-j)))],cJ [(1217,.bE 0 63 2 (bG (own))),(1420,.bE 0 3 1 (aG (xw es own nd j)))],5000,1000,[]⟩)
    (λj=>j<=es.length) (λj=>es.length-j) 0 (Le.bH ?_ ?_ ?_ ?_) (by simp) (λj hj=>?_)
   ·simp
   ·simp
   ·simp[xw]
   ·simp
   obtain⟨G,hG⟩:=be (xw es own nd j);have hGl:=Yd es own g1 j;rw[hG]at hGl;rw[hG];obtain⟨k,hk⟩:=be ((es.length:Int)-1-j);rw[hk];apply aa.sq aC fw [1,4,5,11,69];simp[aa6];refine aa.cond rfl (λh9=>?_) (λh9=>?_)
   ·have h9:0<=k:=by simpa using h9
    obtain⟨k,rfl⟩:=kK h9;have Ip:k<es.length:=by omega
    have hke:es.length-1-j=k:=by omega
    apply aa.skip;simp;apply aa.seq;apply aa.block;have rr:=kE Ip;obtain⟨⟨xh,xt,xc,x0,x1⟩,hx⟩:=be (es.getD k default);rw[hx]at rr;have hxo:tY nd ⟨xh,xt,xc,x0,x1⟩:=g4 _ (by rw[<-hx];exact bu Ip);obtain⟨q1,q2,q3,q4,q5,q6⟩:=hxo;simp only at q1 q2 q3 q4 q5 q6;obtain⟨xh,rfl⟩:=kK q1;apply aa.ag aC fw [1,4,5,11,12];simp[aa7,Ip,rr,bI.enc];refine aa.lk (o:=[(1217,.bE 0 63 2 (bG (own))),(1420,.bE 0 3 1 (aG (G)))]) (l:=[(1,.v (.box [ti nd,.sl (bn es)])),(4,.bC 1217 0),(5,.bC 1420 0),(11,.v (ti k)),(12,.v (.box [ti xh,.sl (aG xt),ti xc,ti x0,ti x1]))]) (aY:=5200) (by simp) ?_;have hhl:xh<own.length:=by have:=hRo.1;omega
    have ro:=dt hhl;obtain⟨⟨uc,uz⟩,hu⟩:=be (own.getD xh default);rw[hu]at ro;apply aa.ag aC fw [1,4,5,11,12,13];simp[aa8,hhl,ro];refine aa.lk (o:=[(1217,.bE 0 63 2 (bG (own))),(1420,.bE 0 3 1 (aG (G)))]) (l:=[(1,.v (.box [ti nd,.sl (bn es)])),(4,.bC 1217 0),(5,.bC 1420 0),(11,.v (ti k)),(12,.v (.box [ti xh,.sl (aG xt),ti xc,ti x0,ti x1])),(13,.v (.box [ti uc,ti uz]))]) (aY:=5400) (by simp) ?_;have Ly:∀t∈xt,0<=t/\t<own.length:=λt ht=>by have:=q3 t ht;have:=hRo.1;omega
    have htv:=BE hRo q3;have I7:(dY own xt).length<=1000000:=by simpa [dY]using q6
    obtain⟨⟨wc,wz⟩,hw⟩:=be (d0 xc (dY own xt));obtain⟨c1,b8⟩:=be (decide (uc<1099511627776/\(⟨wc,wz⟩:dg)=⟨uc,uz⟩):Bool);apply aa.seq;refine aa.to ⟨DM.look [(1,.v (.box [ti nd,.sl (bn es)])),(4,.bC 1217 0),(5,.bC 1420 0),(11,.v (ti k)),(12,.v (.box [ti xh,.sl (aG xt),ti xc,ti x0,ti x1])),(94,.v (.bool c1))],cJ [(1217,.bE 0 63 2 (bG (own))),(1420,.bE 0 3 1 (aG (G)))],6000,1000,[]⟩ ?_ ?_
    ·by_cases k1:uc<1099511627776
     ·refine aa.qa aC fw (rs:=fg zL [none,some [],none,none,none,some [],some [],none,some [1217],some [5491],some [],some [],none]) (.inr ⟨_,rfl⟩) (by kernel_rfl) [1,4,5,11,12,94] ?_;simp[fg,zL,cX,bN,aP,CT,k1,q6,I7,hw];refine⟨Ly,htv,by omega,by omega, ?_⟩;have:c1=(decide (wc=uc)&&decide (wz=uz)):=by rw[<-b8];simp[k1]
      rw[this];exact Le.bH (by simp) (by simp) (by simp) (by simp)
     ·have:c1=false:=by rw[<-b8];simp[k1]
      refine aa.qa aC fw (rs:=fg zL [none,some [],none,none,none,some [],some [],none,some [1217],some [5491],some [],some [],none]) (.inr ⟨_,rfl⟩) (by kernel_rfl) [1,4,5,11,12,94] ?_;simp[fg,zL,cX,bN,aP,k1];subst this;exact Le.bH (by simp) (by simp) (by simp) (by simp)
    simp only[Mm];refine aa.cond rfl (λh8=>?_) (λh8=>?_)
    ·have h8:c1=true:=by simpa using h8
     rw[h8]at b8;have b8:=qW b8;have O6:stepG es own G j=G.set xh (k:Int):=by unfold stepG;rw[hke,hx];simp only[hw,hu,iQ];rw[cF b8]
     have arB:xh<G.length:=by omega
     have rg:=cM arB;apply aa.fJ aC fw [1,4,5,11];simp[aa9,arB,rg];apply aa.fJ aC fw [1,4,5,11];simp[Qe];rw[aF (x:=(k:Int)-1) (by omega)];refine⟨j+1,Le.bH ?_ ?_ ?_ ?_,by omega,by omega⟩
     ·simp
     ·simp
     ·simp[ya,hG,O6,lX]
     ·simp;omega
    ·have h8:c1=false:=by simpa using h8
     rw[h8]at b8;have b8:=wQ b8;have O6:stepG es own G j=G:=by unfold stepG;rw[hke,hx];simp only[hw,hu,iQ];rw[aZ b8]
     apply aa.skip;simp;apply aa.fJ aC fw [1,4,5,11];simp[Qe];rw[aF (x:=(k:Int)-1) (by omega)];refine⟨j+1,Le.bH ?_ ?_ ?_ ?_,by omega,by omega⟩
     ·simp
     ·simp
     ·simp[ya,hG,O6,lX]
     ·simp;omega
   ·have h9:¬0<=k:=by simpa using h9
    have hj2:j=es.length:=by omega
    subst hj2;subst hG;apply aa.exit;simp;apply aa.ag aC fw [2,3];simp[aba];apply aa.ret;simp[abb]
end
def GH{n:aD}{ci:bT}(hn:dX n)(hp:d9 n ci):Lw n.ak (kR n ci):=by
 have h:=hn.ok;obtain⟨p1,p2⟩:=hp;refine⟨by have:=h.1;omega,by have:=h.2.1;omega,by simp only[kR,XP];have:=h.2.2.1;omega,λe he=>?_⟩;simp only[kR,g9]at he;obtain⟨r,hr,rfl⟩:=he;obtain⟨q1,q2,q3,q4,q5⟩:=h.2.2.2 r hr;have hc:0<=(fM ci r).aI/\(fM ci r).aI<=4000000000000:=by
  unfold fM;split
  ·rename_i h2;have ha:r.a.toNat<ci.length:=by omega
   have:=p2 _ ha;unfold x9 at this;simp only;omega
  ·simp only;omega
 refine⟨q1,q2,λt ht=>?_,hc.1,hc.2,by have:=GD r;simp only[fM];omega⟩;simp only[fM,jJ]at ht;split at ht
 ·simp only[oO]at ht;omega
 ·split at ht
  ·simp only[fN,lq,ld]at ht;omega
  ·cases ht
def eI(n:aD)(ci:bT):bY:=if dX n/\d9 n ci then gj n.ak (kR n ci)else []
abbrev s20:DM.Spec:=dh (λts=>∃a b c l,ts=[.agg [ti a,ti b,ti c,.sl (aW l)]]/\l.length<=9223372036854775807) (fun|[n]=>.bool (decide (dX (Nz n)))|_=>.bool false) true
abbrev s44:DM.Spec:=dh (λts=>∃a b c l i,ts=[.agg [ti a,ti b,ti c,.sl (aW l)],.sl (aG i)]/\i.length<=9223372036854775807) (fun|[n,.sl i]=>.bool (decide (d9 (Nz n) (lz i)))|_=>.bool false) true
abbrev s67:DM.Spec:=dh (λts=>∃a b c l i,ts=[.agg [ti a,ti b,ti c,.sl (aW l)],.sl (aG i)]/\AP ⟨a,b,c,l⟩/\d9 ⟨a,b,c,l⟩ i) (fun|[n,.sl i]=>.agg [ti (Nz n).ak,.sl (bn (kR (Nz n) (lz i)))]|_=>.bool false) false
abbrev s66:DM.Spec:=dh (λts=>∃nd es,ts=[.agg [ti nd,.sl (bn es)]]/\Lw nd es) (fun|[.agg [.int _ nd,.sl es]]=>.ew [.sl (bG (gj nd (GC es))),.sl (aG (xw (GC es) (gj nd (GC es)) nd es.length))]|_=>.bool false) false
abbrev s45:DM.Spec:=dh (λts=>∃a b c l i,ts=[.agg [ti a,ti b,ti c,.sl (aW l)],.sl (aG i)]/\l.length<=9223372036854775807/\i.length<=9223372036854775807) (fun|[n,.sl i]=>.sl (bG (eI (Nz n) (lz i)))|_=>.bool false) false
def auv:ay aj (bB [(34,s20),(35,s44),(62,s67),(61,s66)]):=by
 refine ay.cons (ay.cons (ay.cons (ay.cons ay.nil ?_) ?_) ?_) ?_
 ·rintro ts ⟨nd,es,rfl,h⟩;exact⟨by simpa using t66 nd es h,λh=>by cases h⟩
 ·rintro ts ⟨a,b,c,l,i,rfl,h1,h2⟩;exact⟨by simpa [aD.enc]using t67 ⟨a,b,c,l⟩ i h1 h2,λh=>by cases h⟩
 ·rintro ts ⟨a,b,c,l,i,rfl,h⟩;exact⟨by simpa [aD.enc]using t44 ⟨a,b,c,l⟩ i h,λ_=>rfl⟩
 ·rintro ts ⟨a,b,c,l,rfl,h⟩;exact⟨by simpa [aD.enc]using t20 ⟨a,b,c,l⟩ h,λ_=>rfl⟩
def t45(n:aD)(ci:bT)(h1:n.au.length<=9223372036854775807)(h2:ci.length<=9223372036854775807):bw aj 36 [n.enc,.sl (aG ci)] (.sl (bG (eI n ci))):=by
 obtain⟨R,hR⟩:=be (eI n ci);rw[hR];unfold eI at hR;obtain⟨nt,nn,ns,au⟩:=n;simp only at h1;have aC:=auv;refine c45.ok (by simp) (aT ?_);simp[aD.enc];apply aa.ag aC fw [1,2];simp[MJ];refine aa.lk (o:=[]) (l:=[(1,.v (.sl (aG ci))),(2,.v (.box [ti nt,ti nn,ti ns,.sl (aW au)]))]) (aY:=1200) (by simp) ?_;apply aa.seq;obtain⟨c1,b8⟩:=be (decide (¬dX ⟨nt,nn,ns,au⟩\/¬d9 ⟨nt,nn,ns,au⟩ ci):Bool);refine aa.cH aC fw [(1,.v (.sl (aG ci))),(2,.v (.box [ti nt,ti nn,ti ns,.sl (aW au)])),(15,.v (.bool c1))] ?_ ?_
 ·by_cases q1:dX ⟨nt,nn,ns,au⟩
  ·by_cases q2:d9 ⟨nt,nn,ns,au⟩ ci
   ·have:c1=false:=by rw[<-b8];simp[q1,q2]
    simp[Fv,CT,h1,h2,q1,q2,this]
   ·have:c1=true:=by rw[<-b8];simp[q2]
    simp[Fv,CT,h1,h2,q1,q2,this]
  ·have:c1=true:=by rw[<-b8];simp[q1]
   simp[Fv,CT,h1,q1,this]
 refine aa.cond rfl (λg=>?_) (λg=>?_)
 ·rw[g]at b8;have b8:=qW b8;rw[aZ (λh=>b8.elim (λq=>q h.1) (λq=>q h.2))]at hR;subst hR;apply aa.ag aC fw [4];simp[MK];apply aa.ret;simp[dm]
 ·rw[g]at b8;have b8:=wQ b8;simp only[Zc7,Classical.not_not]at b8;obtain⟨Cl,nU⟩:=b8;apply aa.skip;simp;rw[cF ⟨Cl,nU⟩]at hR;have hg:=GH Cl nU;have hn:=Cl.ok;simp only at hR hg;apply aa.ag aC fw [5];simp[ML,CT,hn,nU,hg,hR];apply aa.ag aC fw [4];simp[MM];apply aa.ret;simp[dm]
def tZ(v:bY)(i:Nat):Prop:=¬(v.getD i default).size>1000
instance(v:bY)(i:Nat):Decidable (tZ v i):=by unfold tZ;infer_instance
def HB(n:aD)(ci:bT):Prop:=(dX n/\d9 n ci)/\∀i,i<(eI n ci).length->tZ (eI n ci) i
instance(n:aD)(ci:bT):Decidable (HB n ci):=by unfold HB;infer_instance
def auw:ay aj (bB [(34,s20),(35,s44),(36,s45)]):=by
 refine ay.cons (ay.cons (ay.cons ay.nil ?_) ?_) ?_
 ·rintro ts ⟨a,b,c,l,i,rfl,h1,h2⟩;exact⟨by simpa [aD.enc]using t45 ⟨a,b,c,l⟩ i h1 h2,λh=>by cases h⟩
 ·rintro ts ⟨a,b,c,l,i,rfl,h⟩;exact⟨by simpa [aD.enc]using t44 ⟨a,b,c,l⟩ i h,λ_=>rfl⟩
 ·rintro ts ⟨a,b,c,l,rfl,h⟩;exact⟨by simpa [aD.enc]using t20 ⟨a,b,c,l⟩ h,λ_=>rfl⟩
def NE{n:aD}{ci:bT}(h1:dX n)(h2:d9 n ci):(eI n ci).length<=1000:=by
 unfold eI;rw[cF ⟨h1,h2⟩];have:=(BF (GH h1 h2)).1;have:=h1.ok.2.1;omega
def t22(n:aD)(ci:bT)(h1:n.au.length<=9223372036854775807)(h2:ci.length<=9223372036854775807):bw aj 22 [n.enc,.sl (aG ci)] (.bool (decide (HB n ci))):=by
 obtain⟨v,hv⟩:=be (decide (HB n ci));rw[hv];have dd:HB n ci↔(dX n/\d9 n ci)/\∀i,i<(eI n ci).length->tZ (eI n ci) i:=Iff.rfl;have da:¬HB n ci->v=false:=λh=>by rw[<-hv];simp[h]
 have Ye:=λa b=>NE (n:=n) (ci:=ci) a b;obtain⟨V,hV⟩:=be (eI n ci);rw[hV]at dd Ye;obtain⟨nt,nn,ns,au⟩:=n;simp only at h1;have aC:=auw;refine c22.ok (by simp) (aT ?_);simp[aD.enc];apply aa.ag aC fw [1,2];simp[ahC];refine aa.lk (o:=[]) (l:=[(1,.v (.sl (aG ci))),(2,.v (.box [ti nt,ti nn,ti ns,.sl (aW au)]))]) (aY:=1200) (by simp) ?_;apply aa.seq;obtain⟨c1,b8⟩:=be (decide (¬dX ⟨nt,nn,ns,au⟩\/¬d9 ⟨nt,nn,ns,au⟩ ci):Bool);refine aa.cH aC fw [(1,.v (.sl (aG ci))),(2,.v (.box [ti nt,ti nn,ti ns,.sl (aW au)])),(15,.v (.bool c1))] ?_ ?_
 ·by_cases q1:dX ⟨nt,nn,ns,au⟩
  ·by_cases q2:d9 ⟨nt,nn,ns,au⟩ ci
   ·have:c1=false:=by rw[<-b8];simp[q1,q2]
    simp[ST,CT,h1,h2,q1,q2,this]
   ·have:c1=true:=by rw[<-b8];simp[q2]
    simp[ST,CT,h1,h2,q1,q2,this]
  ·have:c1=true:=by rw[<-b8];simp[q1]
   simp[ST,CT,h1,q1,this]
 refine aa.cond rfl (λg=>?_) (λg=>?_)
 ·rw[g]at b8;have b8:=qW b8;apply aa.ag aC fw [4];simp[ahD];apply aa.ret;rw[da λh=>b8.elim (λq=>q (dd.1 h).1.1) (λq=>q (dd.1 h).1.2)];simp[dm]
 ·rw[g]at b8;have b8:=wQ b8;simp only[Zc7,Classical.not_not]at b8;obtain⟨Cl,nU⟩:=b8;apply aa.skip;simp;have hVl:=Ye Cl nU;apply aa.ag aC fw [5];simp[ahE,CT,h1,h2,hV];apply aa.sq aC fw [5,6];simp[ahF];apply aa.block;refine aa.loop (λy:Nat=>⟨DM.look [(5,.v (.sl (bG V))),(6,.v (ti y))],cJ [],2000,1000,[]⟩)
   (λy=>y<=V.length/\∀i,i<y->tZ V i) (λy=>V.length-y) 0 (Le.bH (o:=[]) ?_ ?_ ?_ ?_) (by simp) (λy hy=>?_)
  iterate 4(·simp)
  obtain⟨mf,fW⟩:=hy;apply aa.sq aC fw [5,6,22];simp[ahG];refine aa.cond rfl (λcU=>?_) (λcU=>?_)
  ·have cU:y<V.length:=by simpa using cU
   apply aa.skip;simp;apply aa.seq;apply aa.block;have rr:=dt cU;obtain⟨x,hx⟩:=be (V.getD y default);rw[hx]at rr;apply aa.ag aC fw [5,6,30];simp[ahH,cU,rr];refine aa.cond rfl (λh8=>?_) (λh8=>?_)
   ·have h8:x.size>1000:=by simpa using h8
    apply aa.ag aC fw [4];simp[ahI];apply aa.ret;rw[da λh=>by have:=(dd.1 h).2 y cU;unfold tZ at this;rw[hx]at this;exact this h8];simp[dm]
   ·have h8:¬x.size>1000:=by simpa using h8
    apply aa.skip;simp;apply aa.fJ aC fw [5,6];simp[ahJ];rw[aF (x:=(y:Int)+1) (by omega)];refine⟨y+1,Le.bH (o:=[]) ?_ ?_ ?_ ?_,⟨by omega,λi hi=>?_⟩,by omega⟩;iterate 4(·simp)
    ·by_cases e:i=y
     ·subst e;unfold tZ;rw[hx];exact h8
     ·exact fW i (by omega)
  ·have hy3:y=V.length:=by simp at cU;omega
   subst hy3;apply aa.exit;simp;apply aa.ag aC fw [4];simp[ahK];apply aa.ret;have:v=true:=by rw[<-hv];exact decide_eq_true (dd.2 ⟨⟨Cl,nU⟩,fW⟩)
   rw[this];simp[dm]
def ajB(x:Input):Prop:=Qa x/\x.aw.length<=60/\x.insert.length<=100/\∀c∈x.aw,c.read.length=x.insert.length
def afo{x:Input}(h:ajB x):Gn (bf x):=by
 obtain⟨h1,h2,h3,h4⟩:=h;have hs:(bf x).ba=2*x.aw.length+1:=rfl;have ha:(bf x).bK=jM x:=rfl;refine⟨by omega,by omega,by rw[ha];have:=CO h3 h2;omega,λa hm=>?_⟩;rw[ha]at hm;have h5:=(Kz h1 h2 a hm).2.2.2.2.2;have h6:=(Ci hm).2;omega
def iy(l:List Bool):List (aL):=l.map λb=>[.bool b]
@[simp] def amn(l:List Bool):(iy l).length=l.length:=by simp[iy]
def Gp(l:List Bool)(i:Nat)(b:Bool):iy (l.set i b)=(iy l).set i [.bool b]:=by simp[iy,Zcs]
def kb{l:List Bool}{y:Nat}(h:y<l.length):DM.rowAt (iy l) y=[.bool (l.getD y default)]:=by simp[DM.rowAt,iy,h]
def X3{n:aD}{l:aU}(hn:AP n)(hl:Gn l):kz n l (gE n l):=by
 have:=Gq hn hl l.ba.toNat (by have:=hl.1;omega);exact this
section
variable{f:bq}{sp:Nat}
structure Pe where
 (rb rf rh q a hp m:Nat)
structure dy where
 an:bY
 cj:List Bool
 fA:bT
 s:Qs
structure fo where
 n:aD
 l:aU
 c:dW
 (fr to:Int)
def mW(k:Pe)(z:fo):bF:=[.v (ti z.n.aM),.v (ti z.n.ak),.v (ti z.n.start),.v (.sl (aW z.n.au)),.v (ti z.l.ba),.v (.sl (kL z.l.bK)),.v (.sl (aG z.l.vE)),.v (ti z.c.ak),.v (ti z.c.ba),.v (.sl (bR z.c.cells)),.v (ti z.fr),.v (ti z.to),.bC k.rb 0,.bC k.rf 0,.bC k.rh 0,.ptr k.q 0]
def sd(s:dy):Ob:=.bE 0 63 2 (bG s.an)
def sZ(s:dy):Ob:=.bE 0 4 1 (iy s.cj)
def s8(s:dy):Ob:=.bE 0 3 1 (aG s.fA)
structure SV where
 k:Pe
 z:fo
 s:dy
structure SV.at(v:SV)(f:bq)(p:Nat):Prop where
 sp:f p=some (.box (mW v.k v.z))
 rb:f v.k.rb=some (sd v.s)
 rf:f v.k.rf=some (sZ v.s)
 rh:f v.k.rh=some (s8 v.s)
 q:f v.k.q=some (qB v.k.a v.k.hp v.k.m v.s.s)
 hp:f v.k.hp=some (hB v.s.s)
 m:f v.k.m=some (mB v.s.s)
 a:f v.k.a=some (.box [.ptr p 0])
@[simp] def RD{a b:List Bool}:iy a=iy b↔a=b:=⟨λh=>by
 unfold iy at h;exact List.map_inj_right (f:=λb:Bool=>[T.bool b]) (λx y h=>by simpa using h)|>.1 h,λh=>by rw[h]⟩
def SV.Dn{v w:SV}(h:v.at f sp)(k:w.at f sp):v=w:=by
 obtain⟨⟨rb,rf,rh,q,a,hp,m⟩,⟨⟨nt,nn,ns,au⟩,⟨ls,bK,cj⟩,⟨cn,cs,cl⟩,fr,to⟩,⟨an,fn,fA,⟨heap,bJ,es,mc,next,bA⟩⟩⟩:=v;obtain⟨⟨rb',rf',rh',q',a',hp',m'⟩,⟨⟨nt',nn',ns',auZ⟩,⟨ls',avu,avH⟩,⟨cn',wZ,cl'⟩,fr',to'⟩,⟨as3,fn',avI,⟨aaC,cw,ol,mc',ald,adk⟩⟩⟩:=w;obtain⟨h1,h2,h3,h4,h5,h6,h7,h8⟩:=h;obtain⟨k1,k2,k3,k4,k5,k6,k7,k8⟩:=k;simp only[mW]at h1 k1;rw[h1]at k1;simp only[cu,Ob.box.injEq,LW,DV.v.injEq,T.int.injEq,T.sl.injEq,QE,X9,Ir,QF,DV.bC.injEq,DV.ptr.injEq,OY,qI]at k1;obtain⟨rfl,rfl,rfl,rfl,rfl,rfl,rfl,rfl,rfl,rfl,rfl,rfl,rfl,rfl,rfl,rfl⟩:=k1;simp only[sd,sZ,s8]at h2 h3 h4 k2 k3 k4;rw[h2]at k2;rw[h3]at k3;rw[h4]at k4;simp only[cu,Ob.bE.injEq,sI,RD,Ir,qI]at k2 k3 k4;subst k2 k3 k4;simp only[qB]at h5 k5;rw[h5]at k5;simp only[cu,Ob.box.injEq,LW,DV.oP.injEq,DV.ptr.injEq,DV.bC.injEq,DV.je.injEq,DV.v.injEq,T.int.injEq,qI,OY]at k5;obtain⟨rfl,⟨rfl,rfl⟩,rfl,rfl,rfl⟩:=k5;simp only[hB]at h6 k6;rw[h6]at k6;simp only[cu,Ob.bE.injEq,wE,qI]at k6;simp only[mB]at h7 k7;rw[h7]at k7;simp only[cu,Ob.map.injEq,KU,qI]at k7;obtain⟨rfl,rfl⟩:=k7;subst k6;rfl
open Classical in
noncomputable def jK(f:bq)(sp:Nat):SV:=if h:∃v:SV,v.at f sp then Classical.choose h else⟨⟨0,0,0,0,0,0,0⟩,⟨⟨0,0,0,[]⟩,⟨0,[],[]⟩,⟨0,0,[]⟩,0,0⟩,⟨[],[],[],⟨[],0,[],0,0,0⟩⟩⟩
def iH{v:SV}(h:v.at f sp):jK f sp=v:=by
 have hx:∃v:SV,v.at f sp:=⟨v,h⟩;unfold jK;rw[Zdh hx];exact SV.Dn (Classical.choose_spec hx) h
def SV.qv(v:SV)(sp:Nat):QV:=⟨v.k.a,v.k.hp,v.k.m,⟨sp,v.k.rb,mW v.k v.z,v.s.an⟩,v.s.s⟩
def SV.at.qv{v:SV}(h:v.at f sp):(v.qv sp).at f v.k.q:=⟨h.q,h.hp,h.m,⟨h.a,h.sp,rfl,h.rb⟩⟩
abbrev SV.to(v:SV)(s:dy):SV:=⟨v.k,v.z,s⟩
def cg(f:bq)(v:SV)(s:dy):bq:=aO [(v.k.rb,sd s),(v.k.rf,sZ s),(v.k.rh,s8 s),(v.k.q,qB v.k.a v.k.hp v.k.m s.s),(v.k.hp,hB s.s),(v.k.m,mB s.s)] f
structure SV.Ne(v:SV)(sp:Nat):Prop where
 pa:sp≠v.k.rb
 pb:sp≠v.k.rf
 pc:sp≠v.k.rh
 vM:sp≠v.k.q
 oG:sp≠v.k.hp
 vN:sp≠v.k.m
 RE:sp≠v.k.a
 q8:v.k.rb≠sp
 qi:v.k.rb≠v.k.rf
 q9:v.k.rb≠v.k.rh
 Ag:v.k.rb≠v.k.q
 rj:v.k.rb≠v.k.hp
 Ah:v.k.rb≠v.k.m
 RF:v.k.rb≠v.k.a
 qj:v.k.rf≠sp
 pe:v.k.rf≠v.k.rb
 rn:v.k.rf≠v.k.rh
 Ai:v.k.rf≠v.k.q
 ru:v.k.rf≠v.k.hp
 Aj:v.k.rf≠v.k.m
 RG:v.k.rf≠v.k.a
 rC:v.k.rh≠sp
 pf:v.k.rh≠v.k.rb
 pg:v.k.rh≠v.k.rf
 Ak:v.k.rh≠v.k.q
 rE:v.k.rh≠v.k.hp
 Al:v.k.rh≠v.k.m
 RH:v.k.rh≠v.k.a
 Am:v.k.q≠sp
 uK:v.k.q≠v.k.rb
 uL:v.k.q≠v.k.rf
 uM:v.k.q≠v.k.rh
 yu:v.k.q≠v.k.hp
 Rd:v.k.q≠v.k.m
 nqa:v.k.q≠v.k.a
 rF:v.k.hp≠sp
 nl:v.k.hp≠v.k.rb
 nu:v.k.hp≠v.k.rf
 nv:v.k.hp≠v.k.rh
 wR:v.k.hp≠v.k.q
 yw:v.k.hp≠v.k.m
 RI:v.k.hp≠v.k.a
 An:v.k.m≠sp
 uN:v.k.m≠v.k.rb
 uO:v.k.m≠v.k.rf
 uP:v.k.m≠v.k.rh
 Pd:v.k.m≠v.k.q
 wS:v.k.m≠v.k.hp
 nma:v.k.m≠v.k.a
 RK:v.k.a≠sp
 Oz:v.k.a≠v.k.rb
 OA:v.k.a≠v.k.rf
 OB:v.k.a≠v.k.rh
 naq:v.k.a≠v.k.q
 OC:v.k.a≠v.k.hp
 nam:v.k.a≠v.k.m
def SV.at.ne{v:SV}(h:v.at f sp):v.Ne sp:=by
 obtain⟨ou,pM,pN,oI,hq,mO,hm,ha⟩:=h;simp only[mW,sd,sZ,s8,qB,hB,mB]at ou pM pN oI hq mO hm;exact⟨λe=>by rw[e,pM]at ou;simp at ou,
  λe=>by rw[e,pN]at ou;simp at ou,
  λe=>by rw[e,oI]at ou;simp at ou,
  λe=>by rw[e,hq]at ou;simp at ou,
  λe=>by rw[e,mO]at ou;simp at ou,
  λe=>by rw[e,hm]at ou;simp at ou,
  λe=>by rw[e,ha]at ou;simp at ou,
  λe=>by rw[e,ou]at pM;simp at pM,
  λe=>by rw[e,pN]at pM;simp at pM,
  λe=>by rw[e,oI]at pM;simp at pM,
  λe=>by rw[e,hq]at pM;simp at pM,
  λe=>by rw[e,mO]at pM;simp at pM,
  λe=>by rw[e,hm]at pM;simp at pM,
  λe=>by rw[e,ha]at pM;simp at pM,
  λe=>by rw[e,ou]at pN;simp at pN,
  λe=>by rw[e,pM]at pN;simp at pN,
  λe=>by rw[e,oI]at pN;simp at pN,
  λe=>by rw[e,hq]at pN;simp at pN,
  λe=>by rw[e,mO]at pN;simp at pN,
  λe=>by rw[e,hm]at pN;simp at pN,
  λe=>by rw[e,ha]at pN;simp at pN,
  λe=>by rw[e,ou]at oI;simp at oI,
  λe=>by rw[e,pM]at oI;simp at oI,
  λe=>by rw[e,pN]at oI;simp at oI,
  λe=>by rw[e,hq]at oI;simp at oI,
  λe=>by rw[e,mO]at oI;simp at oI,
  λe=>by rw[e,hm]at oI;simp at oI,
  λe=>by rw[e,ha]at oI;simp at oI,
  λe=>by rw[e,ou]at hq;simp at hq,
  λe=>by rw[e,pM]at hq;simp at hq,
  λe=>by rw[e,pN]at hq;simp at hq,
  λe=>by rw[e,oI]at hq;simp at hq,
  λe=>by rw[e,mO]at hq;simp at hq,
  λe=>by rw[e,hm]at hq;simp at hq,
  λe=>by rw[e,ha]at hq;simp at hq,
  λe=>by rw[e,ou]at mO;simp at mO,
  λe=>by rw[e,pM]at mO;simp at mO,
  λe=>by rw[e,pN]at mO;simp at mO,
  λe=>by rw[e,oI]at mO;simp at mO,
  λe=>by rw[e,hq]at mO;simp at mO,
  λe=>by rw[e,hm]at mO;simp at mO,
  λe=>by rw[e,ha]at mO;simp at mO,
  λe=>by rw[e,ou]at hm;simp at hm,
  λe=>by rw[e,pM]at hm;simp at hm,
  λe=>by rw[e,pN]at hm;simp at hm,
  λe=>by rw[e,oI]at hm;simp at hm,
  λe=>by rw[e,hq]at hm;simp at hm,
  λe=>by rw[e,mO]at hm;simp at hm,
  λe=>by rw[e,ha]at hm;simp at hm,
  λe=>by rw[e,ou]at ha;simp at ha,
  λe=>by rw[e,pM]at ha;simp at ha,
  λe=>by rw[e,pN]at ha;simp at ha,
  λe=>by rw[e,oI]at ha;simp at ha,
  λe=>by rw[e,hq]at ha;simp at ha,
  λe=>by rw[e,mO]at ha;simp at ha,
  λe=>by rw[e,hm]at ha;simp at ha⟩
def lA{v:SV}(h:v.at f sp)(s:dy):(v.to s).at (cg f v s) sp:=by
 obtain⟨pa,pb,pc,vM,oG,vN,RE,q8,qi,q9,Ag,rj,Ah,RF,qj,pe,rn,Ai,ru,Aj,RG,rC,pf,pg,Ak,rE,Al,RH,Am,uK,uL,uM,yu,Rd,nqa,rF,nl,nu,nv,wR,yw,RI,An,uN,uO,uP,Pd,wS,nma,RK,Oz,OA,OB,naq,OC,nam⟩:=h.ne;refine⟨?_, ?_, ?_, ?_, ?_, ?_, ?_, ?_⟩
 ·simp[cg,pa,pb,pc,vM,oG,vN,h.sp]
 ·simp[cg]
 ·simp[cg,pe]
 ·simp[cg,pf,pg]
 ·simp[cg,uK,uL,uM]
 ·simp[cg,nl,nu,nv,wR]
 ·simp[cg,uN,uO,uP,Pd,wS]
 ·simp[cg,Oz,OA,OB,naq,OC,nam,h.a]
def Aq(f:bq)(v:SV)(s s':dy):cg (cg f v s) (v.to s) s'=cg f v s':=by
 funext k;simp only[cg,aH,bL];by_cases h1:k=v.k.rb<;>by_cases h2:k=v.k.rf<;>by_cases h3:k=v.k.rh<;>by_cases h4:k=v.k.q<;>by_cases h5:k=v.k.hp<;>by_cases h6:k=v.k.m<;>simp[h1,h2,h3,h4,h5,h6]
def g6{v:SV}{r:Nat}(h:v.at f sp)(s:dy)(hr:f r=none):cg f v s r=none:=by
 have e1:r≠v.k.rb:=λe=>by rw[e,h.rb]at hr;cases hr
 have e2:r≠v.k.rf:=λe=>by rw[e,h.rf]at hr;cases hr
 have e3:r≠v.k.rh:=λe=>by rw[e,h.rh]at hr;cases hr
 have e4:r≠v.k.q:=λe=>by rw[e,h.q]at hr;cases hr
 have e5:r≠v.k.hp:=λe=>by rw[e,h.hp]at hr;cases hr
 have e6:r≠v.k.m:=λe=>by rw[e,h.m]at hr;cases hr
 simp[cg,e1,e2,e3,e4,e5,e6,hr]
def eS{v:SV}(h:v.at f sp):cg f v v.s=f:=by
 funext k;simp only[cg,aH,bL];split
 ·rename_i e;rw[e];exact h.rb.symm
 ·split
  ·rename_i e;rw[e];exact h.rf.symm
  ·split
   ·rename_i e;rw[e];exact h.rh.symm
   ·split
    ·rename_i e;rw[e];exact h.q.symm
    ·split
     ·rename_i e;rw[e];exact h.hp.symm
     ·split
      ·rename_i e;rw[e];exact h.m.symm
      ·rfl
def as4{f0:bq}{N aK aY:Nat}{tm:dj}{l:eO}{L:c7}{v:SV}(s:dy)(aV:df f0 N)(hv:v.at f0 sp)(hn:N<=aY)
  (hL:∀p∈L,p.1=v.k.rb\/p.1=v.k.rf\/p.1=v.k.rh\/p.1=v.k.q\/p.1=v.k.hp\/p.1=v.k.m\/N<=p.1) (hF:∀r,r<N->aO L f0 r=cg f0 v s r)
  (iX:fK (aO L f0) (cg f0 v s) id tm l):
  Le ⟨tm,aO L f0,aK,N,[]⟩ ⟨DM.look l,cg f0 v s,aY,N,[]⟩:=by
 have ut:∀{r o},f0 r=some o->r<N:=λh=>(aV _ _ h).1;have hP:=lA hv s;obtain⟨pa,pb,pc,vM,oG,vN,RE,q8,qi,q9,Ag,rj,Ah,RF,qj,pe,rn,Ai,ru,Aj,RG,rC,pf,pg,Ak,rE,Al,RH,Am,uK,uL,uM,yu,Rd,nqa,rF,nl,nu,nv,wR,yw,RI,An,uN,uO,uP,Pd,wS,nma,RK,Oz,OA,OB,naq,OC,nam⟩:=hv.ne;refine Le.d6 aV hn ?_ ?_ ?_ iX
 ·have:=ut hv.rb;have:=ut hv.rf;have:=ut hv.rh;have:=ut hv.q;have:=ut hv.hp;have:=ut hv.m;simp;omega
 ·have:∀(L:c7),(∀p∈L,p.1=v.k.rb\/p.1=v.k.rf\/p.1=v.k.rh\/p.1=v.k.q\/p.1=v.k.hp\/p.1=v.k.m\/N<=p.1)->bU N [(v.k.rb,sd s),(v.k.rf,sZ s),(v.k.rh,s8 s),(v.k.q,qB v.k.a v.k.hp v.k.m s.s),(v.k.hp,hB s.s),(v.k.m,mB s.s)] L:=by
   intro L;induction L with
   |nil=>intro _;trivial
   |cons p L ih=>
    intro h;refine⟨λhq=>?_,ih λp hp=>h p (by simp[hp])⟩;rcases h p (by simp)with h|h|h|h|h|h|h
    ·exact⟨_,by rw[h];exact .head _⟩
    ·exact⟨_,by rw[h];exact .tail _ (.head _)⟩
    ·exact⟨_,by rw[h];exact .tail _ (.tail _ (.head _))⟩
    ·exact⟨_,by rw[h];exact .tail _ (.tail _ (.tail _ (.head _)))⟩
    ·exact⟨_,by rw[h];exact .tail _ (.tail _ (.tail _ (.tail _ (.head _))))⟩
    ·exact⟨_,by rw[h];exact .tail _ (.tail _ (.tail _ (.tail _ (.tail _ (.head _)))))⟩
    ·omega
  exact this _ hL
 ·have g:∀{r o o'},f0 r=some o'->cg f0 v s r=some o->aO L f0 r=some o:=λh1 h2=>(hF _ (ut h1)).trans h2;refine⟨⟨_,g hv.rb hP.rb,.inr ⟨rfl,λk hk=>by simp[bb,sd]at hk⟩,λ_=>bk _⟩,⟨_,g hv.rf hP.rf,.inr ⟨rfl,λk hk=>by simp[bb,sZ]at hk⟩,λ_=>bk _⟩,⟨_,g hv.rh hP.rh,.inr ⟨rfl,λk hk=>by simp[bb,s8]at hk⟩,λ_=>bk _⟩,
   ⟨_,g hv.q hP.q,.inr ⟨rfl,λk hk=>?_⟩,λ_=>bk _⟩,⟨_,g hv.hp hP.hp,.inr ⟨rfl,λk hk=>by simp[bb,hB]at hk⟩,λ_=>bk _⟩,⟨_,g hv.m hP.m,.inr ⟨rfl,λk hk=>?_⟩,λ_=>bk _⟩,trivial⟩
  ·simp only[qB,bb,bQ,aP,vZ,oi,fN,lq,ld]at hk;rcases hk with rfl|rfl|rfl
   ·exact⟨_,_,g hv.a hP.a,hP.a,bk _⟩
   ·exact⟨_,_,g hv.hp hP.hp,hP.hp,bk _⟩
   ·exact⟨_,_,g hv.m hP.m,hP.m,bk _⟩
  ·exfalso;simp only[mB,bb,Ln,vL,g9]at hk;obtain⟨e,⟨e',_,rfl⟩,hk⟩:=hk;simp[aP]at hk
end
abbrev s37:DM.Spec:=dh (λts=>∃cn cs cl h f t,ts=[.agg [ti cn,ti cs,.sl (bR cl)],.agg [ti h,ti f,ti t]]/\AF ⟨cn,cs,cl⟩) (fun|[c,.agg [.int _ h,.int _ f,.int _ t]]=>.agg [ti (Pa (QD c) h f t).aI,ti (Pa (QD c) h f t).size,ti (Pa (QD c) h f t).rZ,ti (Pa (QD c) h f t).arg]|_=>.bool false) true
def au0{l:List (Nat×DM.Spec)}(h:ay aj (bB l)):ay aj (bB ((144,s37)::l)):=by
 refine ay.cons h ?_;rintro ts ⟨cn,cs,cl,h,f,t,rfl,h1⟩;exact⟨by simpa [dW.enc,Cell.enc]using t37 ⟨cn,cs,cl⟩ h f t h1,λ_=>rfl⟩
def kG(z:fo)(an:bY)(h f t:Int):dg:=if f=z.fr/\t=z.to then bv an h else(Pa z.c h f t).val
def t83{f0:bq}{p N:Nat}{h f t:Int}{v:SV}(hN:∀r,N<=r->f0 r=none)(hv:v.at f0 p)(hc:AF v.z.c)(hh:f=v.z.fr/\t=v.z.to->0<=h/\h<v.s.an.length):
  aQ aj 122 [.ptr p 0,.v (ti h),.v (ti f),.v (ti t)] f0 ⟨True,.v (.agg [ti (kG v.z v.s.an h f t).aI,ti (kG v.z v.s.an h f t).size]),f0⟩:=by
 obtain⟨R,hR⟩:=be (kG v.z v.s.an h f t);rw[hR];unfold kG at hR;have aC:=au0 ay.nil;refine c83.qE hN (by simp) λaV=>?_;have h1:=hv.sp;have h2:=hv.rb;have nk:p<N:=(aV p _ h1).1;have WA:v.k.rb<N:=(aV v.k.rb _ h2).1;simp only[mW,sd]at h1 h2;obtain⟨⟨cn,cs,cl⟩,hz⟩:=be v.z.c;rw[hz]at h1 hc hR;simp only at h1;have np:∀k,p≠N+k:=λk=>by omega
 have nb:∀k,v.k.rb≠N+k:=λk=>by omega
 simp;apply aa.ag aC fw [0,1,2,3,8];simp[aie];apply aa.seq;obtain⟨c1,b8⟩:=be (decide (f=v.z.fr/\t=v.z.to):Bool);refine aa.cH aC fw [(0,.ptr p 0),(1,.v (ti h)),(2,.v (ti f)),(3,.v (ti t)),(8,.ptr (N+8+1) 0),(22,.v (.bool c1))] ?_ ?_
 ·by_cases q1:f=v.z.fr
  ·by_cases q2:t=v.z.to
   ·have:c1=true:=by rw[<-b8];simp[q1,q2]
    simp[SU,h1,np,fq,q1,q2,this]
   ·have:c1=false:=by rw[<-b8];simp[q2]
    simp[SU,h1,np,fq,q1,q2,this]
  ·have:c1=false:=by rw[<-b8];simp[q1]
   simp[SU,h1,np,fq,q1,this]
 refine aa.cond rfl (λg=>?_) (λg=>?_)
 ·have g:c1=true:=by simpa using g
  rw[g]at b8;have q:=qW b8;rw[cF q]at hR;obtain⟨x0,x1⟩:=hh q;obtain⟨x,rfl⟩:=kK x0;have hx:x<v.s.an.length:=by omega
  have rr:=dt hx;have hb:v.s.an.getD x default=R:=by rw[<-hR];simp[bv]
  rw[hb]at rr;apply aa.ag aC fw [8];simp[aif,h1,h2,np,nb,fq,hx,rr];refine aa.le (as4 (v:=v) v.s (l:=[(8,.v (.box [ti R.aI,ti R.size]))]) (aY:=N+1000) aV hv (by omega) ?_ ?_ ?_) ?_
  ·simp
  ·intro r hr;rw[eS hv];have:∀k,r≠N+k:=λk=>by omega
   simp[this,fq]
  ·simp;rw[eS hv];exact bZ (l:=[]) aV (by omega) (by simp)
  rw[eS hv];apply aa.ret;simp[Qh]
 ·have g:c1=false:=by simpa using g
  rw[g]at b8;have q:=wQ b8;rw[aZ q]at hR;obtain⟨⟨a1,a2,a3,a4⟩,ha⟩:=be (Pa ⟨cn,cs,cl⟩ h f t);rw[ha]at hR;subst hR;apply aa.skip;simp;apply aa.ag aC fw [8];simp[aig,h1,np,fq,CT,hc,ha];refine aa.le (as4 (v:=v) v.s (l:=[(8,.v (.box [ti a1,ti a2]))]) (aY:=N+1000) aV hv (by omega) ?_ ?_ ?_) ?_
  ·simp
  ·intro r hr;rw[eS hv];have:∀k,r≠N+k:=λk=>by omega
   simp[this,fq]
  ·simp;rw[eS hv];exact bZ (l:=[]) aV (by omega) (by simp)
  rw[eS hv];apply aa.ret;simp[Qh]
noncomputable def k83:bF->bq->fV
 |[.ptr p 0,.v (.int .i64 h),.v (.int .i64 g),.v (.int .i64 t)],f=>⟨(∃v:SV,v.at f p)/\AF (jK f p).z.c/\(g=(jK f p).z.fr/\t=(jK f p).z.to->0<=h/\h<(jK f p).s.an.length),.v (.agg [ti (kG (jK f p).z (jK f p).s.an h g t).aI,ti (kG (jK f p).z (jK f p).s.an h g t).size]),f⟩
 |_,f=>⟨False,.undef,f⟩
def anD{v:SV}{f:bq}{p:Nat}{h g t:Int}(hv:v.at f p):k83 [.ptr p 0,.v (ti h),.v (ti g),.v (ti t)] f=⟨AF v.z.c/\(g=v.z.fr/\t=v.z.to->0<=h/\h<v.s.an.length),.v (.agg [ti (kG v.z v.s.an h g t).aI,ti (kG v.z v.s.an h g t).size]),f⟩:=by
 have hx:∃v:SV,v.at f p:=⟨v,hv⟩;simp only[k83,iH hv,hx,qI]
def anE:∀args ab,(k83 args ab).ok->(∀N,(∀r,N<=r->ab r=none)->aQ aj 122 args ab (k83 args ab))/\∀r,ab r=none->(k83 args ab).ab r=none:=by
 intro args ab h;unfold k83 at h⊢;split at h
 ·rename_i p h' g t;obtain⟨⟨v,hv⟩,hc,hh⟩:=h;rw[iH hv]at hc hh⊢;exact⟨λN hN=>aQ.of (t83 hN hv hc hh) rfl rfl,λr hr=>hr⟩
 ·exact h.elim
def as5{l:List (Nat×DM.Spec)}(h:ay aj (bB l)):ay aj (bB ((122,en k83)::l)):=ay.ij h anE
abbrev It:=Int×Int×Int
def itT(x:It):aL:=[ti x.1,ti x.2.1,ti x.2.2]
def mX(l:List It):List (aL):=l.map itT
@[simp] def G8(l:List It):(mX l).length=l.length:=by simp[mX]
def B2{l:List It}{y:Nat}(h:y<l.length):DM.rowAt (mX l) y=itT (l.getD y default):=by simp[DM.rowAt,mX,h]
def mY(z:fo)(x:It):Prop:=x.2.1=z.fr/\x.2.2=z.to
instance(z:fo)(x:It):Decidable (mY z x):=by unfold mY;infer_instance
def fC(z:fo)(l:List It):Bool:=l.any λx=>decide (mY z x)
def ml{f0:bq}{N aK aY:Nat}{tm:dj}{l:eO}{L:c7}(aV:df f0 N)(hn:N<=aY)(hL:∀p∈L,N<=p.1)(iX:fK (aO L f0) (aO [] f0) id tm l):
  Le ⟨tm,aO L f0,aK,N,[]⟩ ⟨DM.look l,aO [] f0,aY,N,[]⟩:=by
 refine Le.d6 (l1:=[]) aV hn (by simp) ?_ (by simp[dT]) iX;clear iX;induction L with
 |nil=>trivial
 |cons q L ih=>
  refine⟨λhq=>?_,ih λp hp=>hL p (by simp[hp])⟩;have:=hL q (by simp);omega
def t59{f0:bq}{p N:Nat}{l:List It}{v:SV}(hN:∀r,N<=r->f0 r=none)(hv:v.at f0 p)(hl:l.length<=1000):
  aQ aj 87 [.ptr p 0,.v (.sl (mX l))] f0 ⟨True,.v (.bool (fC v.z l)),f0⟩:=by
 obtain⟨R,hR⟩:=be (fC v.z l);rw[hR];have aC:=cL;refine c59.qE hN (by simp) λaV=>?_;have h1:=hv.sp;have nk:p<N:=(aV p _ h1).1;simp only[mW]at h1;have np:∀k,p≠N+k:=λk=>by omega
 simp;apply aa.ag aC fw [0,1];simp[abm];apply aa.sq aC fw [0,7,8,9];simp[abn];apply aa.block;refine aa.loop (λi:Nat=>⟨DM.look [(0,.ptr p 0),(7,.v (.sl (mX l))),(8,.v (ti l.length)),(9,.v (ti i))],aO [] f0,N+1000,N,[]⟩)
  (λi=>i<=l.length/\fC v.z (l.take i)=false) (λi=>l.length-i) 0 (ml aV (by omega) (by simp) ?_) (by simp[fC]) (λi hi=>?_)
 ·simp[h1]
 obtain⟨hi,hw⟩:=hi;apply aa.ag aC fw [0,7,8,9,10];simp[abo];apply aa.seq;refine aa.cond rfl (λg=>?_) (λg=>?_)
 ·have g:i<l.length:=by simpa using g
  have rr:=B2 g;obtain⟨⟨xh,xf,xt⟩,hx⟩:=be (l.getD i default);rw[hx]at rr;simp only[itT]at rr;have GS:fC v.z (l.take (i+1))=decide (mY v.z (xh,xf,xt)):=by
   rw[c8 g,hx];unfold fC at hw⊢;rw[List.any_append,hw];simp
  apply aa.skip;simp;apply aa.seq;apply aa.block;apply aa.ag aC fw [0,6,7,8,9];simp[aih,rr,g];refine aa.le (ml (l:=[(0,.ptr p 0),(6,.v (.box [ti xh,ti xf,ti xt])),(7,.v (.sl (mX l))),(8,.v (ti l.length)),(9,.v (ti i))]) (aY:=N+2000) aV (by omega) (by simp;omega) ?_) ?_
  ·simp[fq,h1];exact bZ (l:=[]) aV (by omega) (by simp)
  obtain⟨c1,b8⟩:=be (decide (mY v.z (xh,xf,xt)):Bool);refine aa.cH aC fw [(0,.ptr p 0),(7,.v (.sl (mX l))),(8,.v (ti l.length)),(9,.v (ti i)),(28,.v (.bool c1))] ?_ ?_
  ·by_cases q1:xf=v.z.fr
   ·by_cases q2:xt=v.z.to
    ·have:c1=true:=by rw[<-b8];simp[mY,q1,q2]
     simp[SW,h1,q1,q2,this]
    ·have:c1=false:=by rw[<-b8];simp[mY,q2]
     simp[SW,h1,q1,q2,this]
   ·have:c1=false:=by rw[<-b8];simp[mY,q1]
    simp[SW,h1,q1,this]
  refine aa.cond rfl (λg2=>?_) (λg2=>?_)
  ·have g2:c1=true:=by simpa using g2
   subst g2;have:R=true:=by
    rw[<-hR];unfold fC;rw[Zct];exact⟨(xh,xf,xt),hx▸bu g,by simpa using b8⟩
   subst this;apply aa.ag aC fw [4];simp[aii];apply aa.ret;simp[dm];rfl
  ·have g2:c1=false:=by simpa using g2
   subst g2;apply aa.skip;simp;apply aa.fJ aC fw [0,7,8,9];simp[aij];rw[aF (by omega)];refine⟨i+1,ml aV (by omega) (by simp) ?_,⟨by omega,by rw[GS,b8]⟩,by omega⟩;simp[h1]
 ·have g:¬i<l.length:=by simpa using g
  have:R=false:=by
   rw[<-hR,<-hw,Xd (by omega)]
  subst this;apply aa.exit;simp;apply aa.ag aC fw [4];simp[abp];apply aa.ret;simp[dm];rfl
def alq:aL->It
 |[a,b,c]=>(dL a,dL b,dL c)
 |_=>(0,0,0)
def nP(l:List (aL)):List It:=l.map alq
@[simp] def yG(l:List It):nP (mX l)=l:=gK (λx=>by simp[alq,itT,dL]) l
@[simp] def as6:mX []=[]:=rfl
def au1{f0:bq}{p N:Nat}{v:SV}(hN:∀r,N<=r->f0 r=none)(hv:v.at f0 p):
  aQ aj 87 [.ptr p 0,.aX] f0 ⟨True,.v (.bool false),f0⟩:=by
 have aC:=cL;refine c59.qE hN (by simp) λaV=>?_;have h1:=hv.sp;simp only[mW]at h1;simp;apply aa.ag aC fw [0,1];simp[abm];apply aa.sq aC fw [8,9];simp[abn];apply aa.block;refine aa.loop (λi:Nat=>⟨DM.look [(8,.v (ti 0)),(9,.v (ti 0))],aO [] f0,N+1000,N,[]⟩)
  (λi=>True) (λi=>0) 0 (ml aV (by omega) (by simp) ?_) trivial (λi hi=>?_)
 ·simp
 apply aa.ag aC fw [10];simp[abo];apply aa.seq;refine aa.cond rfl (λg=>by cases g) (λg=>?_);apply aa.exit;simp;apply aa.ag aC fw [4];simp[abp];apply aa.ret;simp[dm];rfl
noncomputable def k59:bF->bq->fV
 |[.ptr p 0,.v (.sl av)],f=>⟨(∃v:SV,v.at f p)/\av=mX (nP av)/\av.length<=1000,.v (.bool (fC (jK f p).z (nP av))),f⟩
 |[.ptr p 0,.aX],f=>⟨∃v:SV,v.at f p,.v (.bool false),f⟩
 |_,f=>⟨False,.undef,f⟩
def anF{v:SV}{f:bq}{p:Nat}{l:List It}(hv:v.at f p):k59 [.ptr p 0,.v (.sl (mX l))] f=⟨l.length<=1000,.v (.bool (fC v.z l)),f⟩:=by
 have hx:∃v:SV,v.at f p:=⟨v,hv⟩;simp only[k59,iH hv,hx,qI,yG,G8]
def af0{v:SV}{f:bq}{p:Nat}(hv:v.at f p):k59 [.ptr p 0,.aX] f=⟨True,.v (.bool false),f⟩:=by
 have hx:∃v:SV,v.at f p:=⟨v,hv⟩;simp only[k59,hx]
def anG:∀args ab,(k59 args ab).ok->(∀N,(∀r,N<=r->ab r=none)->aQ aj 87 args ab (k59 args ab))/\∀r,ab r=none->(k59 args ab).ab r=none:=by
 intro args ab h;unfold k59 at h⊢;split at h
 ·rename_i p av;obtain⟨⟨v,hv⟩,hr,hl⟩:=h;obtain⟨l,Ye⟩:=be (nP av);rw[Ye]at hr⊢;subst hr;rw[iH hv];exact⟨λN hN=>aQ.of (t59 hN hv (by simpa using hl)) rfl rfl,λr hr=>hr⟩
 ·rename_i p;obtain⟨v,hv⟩:=h;exact⟨λN hN=>aQ.of (au1 hN hv) rfl rfl,λr hr=>hr⟩
 ·exact h.elim
def anH{l:List (Nat×DM.Spec)}(h:ay aj (bB l)):ay aj (bB ((87,en k59)::l)):=ay.ij h anG
abbrev s84:DM.Spec:=dh (λts=>∃c l,ts=[ti c,.sl (bG l)]/\(∀v∈l,jI v)/\0<=c/\c<=4000000000000/\l.length<=1000000) (fun|[.int _ c,.sl l]=>.agg [ti (d0 c (nX l)).aI,ti (d0 c (nX l)).size]|_=>.bool false) true
def afF{l:List (Nat×DM.Spec)}(h:ay aj (bB l)):ay aj (bB ((123,s84)::l)):=by
 refine ay.cons h ?_;rintro ts ⟨c,l,rfl,h1,h2,h3,h4⟩;exact⟨by simpa using t84 c l h1 h2 h3 h4,λ_=>rfl⟩
def kM(z:fo)(an:bY)(cA:Int)(l:List It):dg:=d0 cA (l.map λx=>kG z an x.1 x.2.1 x.2.2)
def adP(z:fo)(an:bY)(l:List It):Prop:=∀x∈l,x.2.1=z.fr/\x.2.2=z.to->0<=x.1/\x.1<an.length
def Lg{z:fo}{an:bY}(hc:O9 z.c)(hb:∀v∈an,jI v)(h f t:Int):jI (kG z an h f t):=by
 unfold kG;split
 ·unfold bv;rw[List.getD];cases e:an[h.toNat]? with
  |none=>simp[jI,default];decide
  |some x=>exact hb x (xL e)
 ·exact acw hc h f t
def qr{f0:bq}{N r:Nat}{L:c7}(hr:r<N)(hL:∀p∈L,N<=p.1):aO L f0 r=f0 r:=
 fE λo' h=>by have:=hL _ h;simp only at this;omega
def SV.at.aO{v:SV}{f0:bq}{p N:Nat}{L:c7}(h:v.at f0 p)(aV:df f0 N)(hL:∀p∈L,N<=p.1):v.at (DM.aO L f0) p:=by
 have g:∀{r o},f0 r=some o->DM.aO L f0 r=some o:=λe=>(qr (aV _ _ e).1 hL).trans e;exact⟨g h.sp,g h.rb,g h.rf,g h.rh,g h.q,g h.hp,g h.m,g h.a⟩
def t61{f0:bq}{p N:Nat}{cA:Int}{l:List It}{v:SV}(hN:∀r,N<=r->f0 r=none)(hv:v.at f0 p)(hc:AF v.z.c)(gZ:O9 v.z.c)(hb:∀x∈v.s.an,jI x)(hi:adP v.z v.s.an l)(hp:0<=cA/\cA<=4000000000000)(hl:l.length<=1000):
  aQ aj 89 [.ptr p 0,.v (ti cA),.v (.sl (mX l))] f0 ⟨True,.v (.agg [ti (kM v.z v.s.an cA l).aI,ti (kM v.z v.s.an cA l).size]),f0⟩:=by
 obtain⟨R,hR⟩:=be (kM v.z v.s.an cA l);rw[hR];unfold kM at hR;obtain⟨Vs,Pc⟩:=be (l.map (λx=>kG v.z v.s.an x.1 x.2.1 x.2.2));rw[Pc]at hR;have hVl:Vs.length=l.length:=by rw[<-Pc];simp
 have HC:∀x∈Vs,jI x:=by
  rw[<-Pc];intro x hx;obtain⟨y,_,rfl⟩:=g9.1 hx;exact Lg gZ hb _ _ _
 have aC:=as5 (afF ay.nil);refine c61.qE hN (by simp) λaV=>?_;have h1:=hv.sp;have nk:p<N:=(aV p _ h1).1;have np:∀k,p≠N+k:=λk=>by omega
 have eA:(∃cs,f0 p=some (.box cs)):=⟨_,h1⟩;simp;apply aa.ag aC fw [0,1,2,6];simp[abq];apply aa.ag aC fw [0,1,2,6,7];simp[abr];apply aa.sq aC fw [0,1,6,7,10,11,12];simp[abs];refine aa.le (Le.d6 (l1:=[(N+7,.box [.v (ti 0),.v (ti 0)])]) (l:=[(0,.ptr p 0),(1,.v (ti cA)),(6,.ptr (N+7) 0),(7,.aX),(10,.v (.sl (mX l))),(11,.v (ti l.length)),(12,.v (ti 0))]) (aY:=N+500) aV ?_ ?_ ?_ ?_ ?_) ?_
 ·omega
 ·simp
 ·simp[bU,fq]
 ·simp[dT,eK,fq]
 ·simp[np,fq,eA]
 refine aa.le (Le.wr (k:=7) 63 (sz:=2) (by omega) (by simp)) ?_;rw[kx];apply aa.block;refine aa.loop (λi:Nat=>⟨DM.look [(0,.ptr p 0),(1,.v (ti cA)),(6,.ptr (N+7) 0),(7,.bC (N+500) i),(10,.v (.sl (mX l))),(11,.v (ti l.length)),(12,.v (ti i))],aO [(N+7,.box [.v (ti 0),.v (ti 0)]),(N+500,.bE i 63 2 (bG (Vs.take i)))] f0,N+1000,N,[]⟩)
  (λi=>i<=l.length) (λi=>l.length-i) 0 (Le.d6 aV ?_ ?_ ?_ ?_ ?_) (by omega) (λi Zg=>?_)
 ·omega
 ·simp
 ·simp[bU]
 ·simp[dT,eK]
 ·simp[np,eA]
 apply aa.ag aC fw [0,1,6,7,10,11,12,13];simp[abt];apply aa.seq;refine aa.cond rfl (λg=>?_) (λg=>?_)
 ·have g:i<l.length:=by simpa using g
  have rr:=B2 g;have PY:=hi _ (show l.getD i default∈l by simp[List.getD,g]);have hV:Vs.take (i+1)=Vs.take i++[kG v.z v.s.an (l.getD i default).1 (l.getD i default).2.1 (l.getD i default).2.2]:=by
   rw[Zb0,w8 (by omega)];simp only[<-Pc,Zb4,Option.toList_some];simp[List.getD,g]
  obtain⟨⟨xh,xf,xt⟩,hx⟩:=be (l.getD i default);rw[hx]at rr PY hV;simp only[itT]at rr PY hV;obtain⟨⟨vc,vz⟩,hvv⟩:=be (kG v.z v.s.an xh xf xt);rw[hvv]at hV;apply aa.skip;simp;apply aa.seq;apply aa.block;apply aa.ag aC fw [0,1,6,7,9,10,11,12];simp[aik,rr,g];refine aa.le (Le.d6 (l1:=[(N+7,.box [.v (ti 0),.v (ti 0)]),(N+500,.bE i 63 2 (bG (Vs.take i)))]) (l:=[(0,.ptr p 0),(1,.v (ti cA)),(6,.ptr (N+7) 0),(7,.bC (N+500) i),(9,.v (.box [ti xh,ti xf,ti xt])),(10,.v (.sl (mX l))),(11,.v (ti l.length)),(12,.v (ti i))]) (aY:=N+3000) aV ?_ ?_ ?_ ?_ ?_) ?_
  ·omega
  ·simp
  ·simp[bU,fq]
  ·simp[dT,eK,fq]
  ·simp[np,fq,eA];exact bZ aV (by omega) (by simp)
  have nU:v.at (aO [(N+7,.box [.v (ti 0),.v (ti 0)]),(N+500,.bE i 63 2 (bG (Vs.take i)))] f0) p:=hv.aO aV (by simp);have k1:=anD (h:=xh) (g:=xf) (t:=xt) nU;rw[hvv]at k1;have O8:gn 2 1 [ti vc,ti vz]=[[ti vc,ti vz]]:=rfl;have pU:dR 16 (i+1):=by simp[dR];omega
  have hTl:(Vs.take i).length=i:=by rw[we];omega
  apply aa.Di aC fw (rs:=Qi) rfl (by kernel_rfl) [0,1,6,7,10,11,12];simp[Qi,k1,hc,O8,hTl,pU];refine⟨λz1 z2=>PY ⟨z1,z2⟩, ?_⟩;have hvt:bG (Vs.take (i+1))=bG (Vs.take i)++[[ti vc,ti vz]]:=by rw[hV];simp[bG]
  apply aa.fJ aC fw [0,1,6,7,10,11,12];simp[ail];rw[aF (by omega)];refine⟨i+1,Le.d6 aV ?_ ?_ ?_ ?_ ?_,by omega,by omega⟩
  ·omega
  ·simp
  ·simp[bU]
  ·simp[dT,eK,hvt]
  ·simp[np,eA,hvt]
 ·have g:¬i<l.length:=by simpa using g
  have hie:i=l.length:=by omega
  subst hie;rw[Xd (by omega)];apply aa.exit;simp;refine aa.le (Le.d6 (l1:=[(N+7,.box [.v (ti 0),.v (ti 0)])]) (l:=[(1,.v (ti cA)),(6,.ptr (N+7) 0),(7,.v (.sl (bG Vs)))]) (aY:=N+5000) aV ?_ ?_ ?_ ?_ ?_) ?_
  ·omega
  ·simp
  ·simp[bU]
  ·simp[dT,eK]
  ·simp;exact bZ aV (by omega) (by simp)
  apply aa.ag aC fw [6];simp[abu,CT,hVl,hR];refine⟨HC,hp.1,hp.2,by omega, ?_⟩;refine aa.le (ml (l:=[(6,.v (.box [ti R.aI,ti R.size]))]) (aY:=N+6000) aV (by omega) (by simp) ?_) ?_
  ·simp;exact bZ (l:=[]) aV (by omega) (by simp)
  apply aa.ret;simp[Qj];rfl
def au2{f0:bq}{p N:Nat}{cA:Int}{v:SV}(hN:∀r,N<=r->f0 r=none)(hv:v.at f0 p)(hp:0<=cA/\cA<=4000000000000):
  aQ aj 89 [.ptr p 0,.v (ti cA),.aX] f0 ⟨True,.v (.agg [ti (kM v.z v.s.an cA []).aI,ti (kM v.z v.s.an cA []).size]),f0⟩:=by
 obtain⟨R,hR⟩:=be (kM v.z v.s.an cA []);rw[hR];unfold kM at hR;simp only[SJ]at hR;have aC:=as5 (afF ay.nil);refine c61.qE hN (by simp) λaV=>?_;simp;apply aa.ag aC fw [0,1,2,6];simp[abq];apply aa.ag aC fw [0,1,2,6,7];simp[abr];apply aa.sq aC fw [1,6,7,11,12];simp[abs];apply aa.block;refine aa.loop (λi:Nat=>⟨DM.look [(1,.v (ti cA)),(6,.ptr (N+7) 0),(7,.aX),(11,.v (ti 0)),(12,.v (ti 0))],aO [(N+7,.box [.v (ti 0),.v (ti 0)])] f0,N+1000,N,[]⟩)
  (λi=>True) (λi=>0) 0 (Le.d6 aV ?_ ?_ ?_ ?_ ?_) trivial (λi hi=>?_)
 ·omega
 ·simp
 ·simp[bU,fq]
 ·simp[dT,eK,fq]
 ·simp[fq]
 apply aa.ag aC fw [1,6,7,13];simp[abt];apply aa.seq;refine aa.cond rfl (λg=>by cases g) (λg=>?_);apply aa.exit;simp;apply aa.ag aC fw [6];simp[abu,CT,hR,hp];refine aa.le (ml (l:=[(6,.v (.box [ti R.aI,ti R.size]))]) (aY:=N+6000) aV (by omega) (by simp) ?_) ?_
 ·simp;exact bZ (l:=[]) aV (by omega) (by simp)
 apply aa.ret;simp[Qj];rfl
structure SV.okB(v:SV):Prop where
 cf:AF v.z.c
 co:O9 v.z.c
 b:∀x∈v.s.an,jI x
noncomputable def k61:bF->bq->fV
 |[.ptr p 0,.v (.int .i64 c),.v (.sl av)],f=>⟨(∃v:SV,v.at f p)/\(jK f p).okB/\av=mX (nP av)/\av.length<=1000/\adP (jK f p).z (jK f p).s.an (nP av)/\0<=c/\c<=4000000000000,.v (.agg [ti (kM (jK f p).z (jK f p).s.an c (nP av)).aI,ti (kM (jK f p).z (jK f p).s.an c (nP av)).size]),f⟩
 |[.ptr p 0,.v (.int .i64 c),.aX],f=>⟨(∃v:SV,v.at f p)/\0<=c/\c<=4000000000000,.v (.agg [ti (kM (jK f p).z (jK f p).s.an c []).aI,ti (kM (jK f p).z (jK f p).s.an c []).size]),f⟩
 |_,f=>⟨False,.undef,f⟩
def anI{v:SV}{f:bq}{p:Nat}{c:Int}{l:List It}(hv:v.at f p):k61 [.ptr p 0,.v (ti c),.v (.sl (mX l))] f=⟨v.okB/\l.length<=1000/\adP v.z v.s.an l/\0<=c/\c<=4000000000000,.v (.agg [ti (kM v.z v.s.an c l).aI,ti (kM v.z v.s.an c l).size]),f⟩:=by
 have hx:∃v:SV,v.at f p:=⟨v,hv⟩;simp only[k61,iH hv,hx,qI,yG,G8]
def af1{v:SV}{f:bq}{p:Nat}{c:Int}(hv:v.at f p):k61 [.ptr p 0,.v (ti c),.aX] f=⟨0<=c/\c<=4000000000000,.v (.agg [ti (kM v.z v.s.an c []).aI,ti (kM v.z v.s.an c []).size]),f⟩:=by
 have hx:∃v:SV,v.at f p:=⟨v,hv⟩;simp only[k61,iH hv,hx,qI]
def anJ:∀args ab,(k61 args ab).ok->(∀N,(∀r,N<=r->ab r=none)->aQ aj 89 args ab (k61 args ab))/\∀r,ab r=none->(k61 args ab).ab r=none:=by
 intro args ab h;unfold k61 at h⊢;split at h
 ·rename_i p c av;obtain⟨⟨v,hv⟩,ho,hr,hl,hi,hp⟩:=h;obtain⟨l,Ye⟩:=be (nP av);rw[Ye]at hr hi⊢;subst hr;rw[iH hv]at ho hi⊢;exact⟨λN hN=>aQ.of (t61 hN hv ho.cf ho.co ho.b hi hp (by simpa using hl)) rfl rfl,λr hr=>hr⟩
 ·rename_i p c;obtain⟨⟨v,hv⟩,hp⟩:=h;rw[iH hv];exact⟨λN hN=>aQ.of (au2 hN hv hp) rfl rfl,λr hr=>hr⟩
 ·exact h.elim
def anK{l:List (Nat×DM.Spec)}(h:ay aj (bB l)):ay aj (bB ((89,en k61)::l)):=ay.ij h anJ
def ph(z:fo)(cj:List Bool)(l:List It):Bool:=l.any λx=>decide (mY z x)&& !(cj.getD x.1.toNat default)
def t89{f0:bq}{p N:Nat}{l:List It}{v:SV}(hN:∀r,N<=r->f0 r=none)(hv:v.at f0 p)(hf:∀x∈l,mY v.z x->0<=x.1/\x.1<v.s.cj.length)(hl:l.length<=1000):
  aQ aj 128 [.ptr p 0,.v (.sl (mX l))] f0 ⟨True,.v (.bool (!ph v.z v.s.cj l)),f0⟩:=by
 obtain⟨R,hR⟩:=be ((!ph v.z v.s.cj l));rw[hR];have aC:=cL;refine c89.qE hN (by simp) λaV=>?_;have h1:=hv.sp;have nk:p<N:=(aV p _ h1).1;simp only[mW]at h1;have h2:=hv.rf;simp only[sZ]at h2;have np:∀k,p≠N+k:=λk=>by omega
 simp;apply aa.ag aC fw [0,1];simp[aim];apply aa.sq aC fw [0,7,8,9];simp[ain];apply aa.block;refine aa.loop (λi:Nat=>⟨DM.look [(0,.ptr p 0),(7,.v (.sl (mX l))),(8,.v (ti l.length)),(9,.v (ti i))],aO [] f0,N+1000,N,[]⟩)
  (λi=>i<=l.length/\ph v.z v.s.cj (l.take i)=false) (λi=>l.length-i) 0 (ml aV (by omega) (by simp) ?_) (by simp[ph]) (λi hi=>?_)
 ·simp[h1]
 obtain⟨hi,hw⟩:=hi;apply aa.ag aC fw [0,7,8,9,10];simp[aio];apply aa.seq;refine aa.cond rfl (λg=>?_) (λg=>?_)
 ·have g:i<l.length:=by simpa using g
  have rr:=B2 g;obtain⟨⟨xh,xf,xt⟩,hx⟩:=be (l.getD i default);rw[hx]at rr;simp only[itT]at rr;have GS:ph v.z v.s.cj (l.take (i+1))=(decide (mY v.z (xh,xf,xt))&& !(v.s.cj.getD xh.toNat default)):=by
   rw[c8 g,hx];unfold ph at hw⊢;rw[List.any_append,hw];simp
  apply aa.skip;simp;apply aa.seq;apply aa.block;apply aa.ag aC fw [0,6,7,8,9];simp[aip,rr,g];refine aa.le (ml (l:=[(0,.ptr p 0),(6,.v (.box [ti xh,ti xf,ti xt])),(7,.v (.sl (mX l))),(8,.v (ti l.length)),(9,.v (ti i))]) (aY:=N+2000) aV (by omega) (by simp;omega) ?_) ?_
  ·simp[fq,h1];exact bZ (l:=[]) aV (by omega) (by simp)
  obtain⟨c1,b8⟩:=be ((decide (mY v.z (xh,xf,xt))&& !(v.s.cj.getD xh.toNat default)):Bool);refine aa.cH aC fw [(0,.ptr p 0),(7,.v (.sl (mX l))),(8,.v (ti l.length)),(9,.v (ti i)),(39,.v (.bool c1))] ?_ ?_
  ·by_cases q1:xf=v.z.fr
   ·by_cases q2:xt=v.z.to
    ·obtain⟨x0,x1⟩:=hf _ (show(xh,xf,xt)∈l from hx▸bu g) ⟨q1,q2⟩;simp only at x0 x1;obtain⟨y,rfl⟩:=kK x0;have hy:y<v.s.cj.length:=by omega
     have rb:=kb hy;obtain⟨b,hb⟩:=be (v.s.cj.getD y default);rw[hb]at rb;have:c1= !b:=by rw[<-b8];simp only[iQ,hb];simp[mY,q1,q2]
     cases b<;>simp[SX,h1,h2,hy,rb,q1,q2,this]
    ·have:c1=false:=by rw[<-b8];simp[mY,q2]
     simp[SX,h1,q1,q2,this]
   ·have:c1=false:=by rw[<-b8];simp[mY,q1]
    simp[SX,h1,q1,this]
  refine aa.cond rfl (λg2=>?_) (λg2=>?_)
  ·have g2:c1=true:=by simpa using g2
   subst g2;have:R=false:=by
    rw[<-hR];have:ph v.z v.s.cj l=true:=by
     unfold ph;rw[Zct];exact⟨(xh,xf,xt),hx▸bu g,b8⟩
    rw[this];rfl
   subst this;apply aa.ag aC fw [4];simp[aiq];apply aa.ret;simp[dm];rfl
  ·have g2:c1=false:=by simpa using g2
   subst g2;apply aa.skip;simp;apply aa.fJ aC fw [0,7,8,9];simp[air];rw[aF (by omega)];refine⟨i+1,ml aV (by omega) (by simp) ?_,⟨by omega,by rw[GS,b8]⟩,by omega⟩;simp[h1]
 ·have g:¬i<l.length:=by simpa using g
  have:R=true:=by
   rw[Xd (by omega)]at hw;rw[<-hR,hw];rfl
  subst this;apply aa.exit;simp;apply aa.ag aC fw [4];simp[ais];apply aa.ret;simp[dm];rfl
noncomputable def k89:bF->bq->fV
 |[.ptr p 0,.v (.sl av)],f=>⟨(∃v:SV,v.at f p)/\av=mX (nP av)/\av.length<=1000/\(∀x∈nP av,mY (jK f p).z x->0<=x.1/\x.1<(jK f p).s.cj.length),.v (.bool (!ph (jK f p).z (jK f p).s.cj (nP av))),f⟩
 |_,f=>⟨False,.undef,f⟩
def anL{v:SV}{f:bq}{p:Nat}{l:List It}(hv:v.at f p):k89 [.ptr p 0,.v (.sl (mX l))] f=⟨l.length<=1000/\(∀x∈l,mY v.z x->0<=x.1/\x.1<v.s.cj.length),.v (.bool (!ph v.z v.s.cj l)),f⟩:=by
 have hx:∃v:SV,v.at f p:=⟨v,hv⟩;simp only[k89,iH hv,hx,qI,yG,G8]
def anM:∀args ab,(k89 args ab).ok->(∀N,(∀r,N<=r->ab r=none)->aQ aj 128 args ab (k89 args ab))/\∀r,ab r=none->(k89 args ab).ab r=none:=by
 intro args ab h;unfold k89 at h⊢;split at h
 ·rename_i p av;obtain⟨⟨v,hv⟩,hr,hl,hf⟩:=h;obtain⟨l,Ye⟩:=be (nP av);rw[Ye]at hr hf⊢;subst hr;rw[iH hv]at hf⊢;exact⟨λN hN=>aQ.of (t89 hN hv hf (by simpa using hl)) rfl rfl,λr hr=>hr⟩
 ·exact h.elim
def as7{l:List (Nat×DM.Spec)}(h:ay aj (bB l)):ay aj (bB ((128,en k89)::l)):=ay.ij h anM
section
variable{an:bY}
def ilt(a:Int):a<0\/0<=a:=by omega
def fU(st:dy)(h:Int)(v:dg):dy:=
 if st.cj.getD h.toNat false=true\/v.aI>=1099511627776\/¬v.lt (bv st.an h)then st
 else if 0<=st.fA.getD h.toNat 0 then⟨st.an.set h.toNat v,st.cj,st.fA,uU (st.an.set h.toNat v) st.s (st.fA.getD h.toNat 0) h⟩
 else⟨st.an.set h.toNat v,st.cj,st.fA.set h.toNat st.s.next,ip (st.an.set h.toNat v) st.s h⟩
def qM(st:dy):dy:=⟨st.an,st.cj.set (st.s.e 0).x.toNat true,st.fA,fQ st.an st.s⟩
def adU:∀(n:Nat) (l:cQ),l.Nodup->(∀x∈l,x<n)->l.length<=n
 |0,[],_,_=>by simp
 |0,a::l,_,h=>by have:=h a (by simp);omega
 |n+1,l,hn,h=>by
  have:=adU n (l.erase n) (hn.erase n) λx hx=>by
   have h1:=h x (List.mem_of_mem_erase hx);have h2:x≠n:=(hn.mem_erase_iff.1 hx).1;omega
  have:=List.le_length_erase (a:=n) (l:=l);omega
structure WF(n:Nat)(st:dy):Prop where
 lb:st.an.length=n
 lf:st.cj.length=n
 lh:st.fA.length=n
 ok:st.s.ok st.an
 pl:dc st.s
 hp:py st.an st.s
 wT:∀e∈st.s.heap,0<=e.x/\e.x<n/\st.cj.getD e.x.toNat false=false/\st.fA.getD e.x.toNat 0=e.h/\0<=e.h
 Zr:∀x:Nat,x<n->0<=st.fA.getD x 0->st.cj.getD x false=false->∃e∈st.s.heap,e.x=x
 old:∀x:Nat,x<n->st.fA.getD x 0<0->st.cj.getD x false=false/\st.an.getD x default=⟨1099511627776,0⟩
 RQ:∀x:Nat,x<n->0<=st.fA.getD x 0->(st.an.getD x default).aI<1099511627776
 nx:∀x:Nat,x<n->st.fA.getD x 0<st.s.next
 nc:0<=st.s.next/\st.s.next<=st.s.bA
 bo:∀v∈st.an,jI v
def Qs.ok.of{s:Qs}{a b:bY}(h:s.ok a)(e:b.length=a.length):s.ok b:=⟨h.pl,h.st,h.qJ,λx hx=>by rw[e];exact h.r x hx⟩
def eV{α:Type}{l:List α}{i j:Nat}{d x:α}(hi:i<l.length):(l.set i x).getD j d=if j=i then x else l.getD j d:=by
 by_cases h:j=i
 ·subst h;simp[List.getD,hi]
 ·have:¬i=j:=λe=>h e.symm;simp[List.getD,this,h]
section
variable{n:Nat}{st:dy}
def WF.Dn(h:WF n st){i j:Nat}(hi:i<st.s.heap.length)(hj:j<st.s.heap.length)(e:(st.s.e i).x=(st.s.e j).x):i=j:=by
 obtain⟨_,_,_,a,_⟩:=h.wT _ (fR.2 ⟨i,hi,rfl⟩);obtain⟨_,_,_,b,_⟩:=h.wT _ (fR.2 ⟨j,hj,rfl⟩);refine h.pl.nd i j hi hj ?_;rw[<-a,<-b,e]
def WF.len(h:WF n st):st.s.heap.length<=n:=by
 have:=adU n (st.s.heap.map λe=>e.x.toNat) ?_ ?_
 ·simpa using this
 ·unfold List.Nodup;rw[Zdn];intro i j hi0 hj hij e;simp only[XP]at hj;have hi:i<st.s.heap.length:=by omega
  have a:=h.wT _ (fR.2 ⟨i,hi,rfl⟩);have b:=h.wT _ (fR.2 ⟨j,hj,rfl⟩);have:=h.Dn hi hj ?_
  ·omega
  ·simp only[Zb4]at e;simp only[Qs.e,iQ,List.getD,w8 hi,w8 hj,St]at a b⊢;omega
 ·intro x hx;obtain⟨e,he,rfl⟩:=g9.1 hx;have:=h.wT e he;omega
def WF.alr(h:WF n st){x:Nat}(hx:x<n):(st.an.getD x default).aI<1099511627776\/(st.an.getD x default).size=0:=by
 rcases ilt (st.fA.getD x 0)with h0|h0
 ·right;rw[(h.old x hx h0).2]
 ·exact .inl (h.RQ x hx h0)
def nQ(st:dy)(h:Int)(v:dg):(fU st h v).cj=st.cj:=by
 unfold fU;split
 ·rfl
 ·split<;>rfl
def RU(st:dy)(h:Int)(v:dg):(fU st h v).an=st.an\/((fU st h v).an=st.an.set h.toNat v/\st.cj.getD h.toNat false=false/\v.aI<1099511627776/\v.lt (bv st.an h)):=by
 unfold fU;split
 ·exact .inl rfl
 ·rename_i hc;have gZ:st.cj.getD h.toNat false=false/\v.aI<1099511627776/\v.lt (bv st.an h):=by
   simp only[Zc7,Decidable.not_not]at hc;exact⟨by simpa using hc.1,by omega,hc.2.2⟩
  split<;>exact .inr ⟨rfl,gZ⟩
def adV{s:Qs}{i:Nat}{x:Int}(hi:i<s.heap.length)(e:kU):e∈(nO s i x).heap↔e=⟨x,(s.e i).h,s.bA⟩\/∃k:Nat,k<s.heap.length/\k≠i/\e=s.e k:=by
 have hl:(nO s i x).heap.length=s.heap.length:=by simp[nO]
 rw[fR];constructor
 ·rintro⟨k,hk,rfl⟩;rw[ul hi];split
  ·exact .inl rfl
  ·exact .inr ⟨k,by omega,by assumption,rfl⟩
 ·rintro(rfl|⟨k,hk,b7,rfl⟩)
  ·exact⟨i,by omega,by rw[ul hi,cF rfl]⟩
  ·exact⟨k,by omega,by rw[ul hi,aZ b7]⟩
def OE{s:Qs}{i:Nat}{x:Int}(hp:dc s)(hi:i<s.heap.length):mm (nO s i x) (uU an s (s.e i).h x):=by
 have Zp:(nO s i x).heap.length=s.heap.length:=by simp[nO]
 unfold uU;rw[hp i hi];simp only[St,iQ];exact(wF (by omega)).trans (l7 rfl)
def anS{s:Qs}{i:Nat}{x:Int}(ho:s.ok an)(hp:dc s)(hi:i<s.heap.length)(hx:0<=x/\x<an.length):(uU an s (s.e i).h x).ok an:=by
 have Zp:(nO s i x).heap.length=s.heap.length:=by simp[nO]
 unfold uU;rw[hp i hi];simp only[St,iQ];exact D5 rfl (GQ (WS ho hi hx) (by omega)).1
def WF.GR(h:WF n st){x:Int}(hx:0<=x/\x<n){v:dg}(hv:jI v):WF n (fU st x v):=by
 unfold fU;split
 ·exact h
 ·rename_i hc;simp only[Zc7,Decidable.not_not]at hc;obtain⟨c1,c2,c3⟩:=hc;have c1:st.cj.getD x.toNat false=false:=by simpa using c1
  have O7:0<=x/\x<st.an.length:=by have:=h.lb;omega
  have hxn:x.toNat<n:=by omega
  have PZ:(st.an.set x.toNat v).length=st.an.length:=by simp
  have Cw:∀w∈st.an.set x.toNat v,jI w:=λw hw=>by
   rcases Xf hw with hw|rfl
   ·exact h.bo w hw
   ·exact hv
  have Me:∀y:Nat,y<n->(st.an.set x.toNat v).getD y default=if y=x.toNat then v else st.an.getD y default:=λy hy=>eV (by omega)
  split
  ·rename_i hh;obtain⟨e,he,EH⟩:=h.Zr x.toNat hxn hh c1;obtain⟨i,hi,rfl⟩:=fR.1 he;have EH:(st.s.e i).x=x:=by omega
   have hd:st.fA.getD x.toNat 0=(st.s.e i).h:=by rw[<-EH];exact(h.wT _ he).2.2.2.1
   rw[hd];have hs:=OE (an:=st.an.set x.toNat v) (x:=x) h.pl hi;have li:∀e,e∈(uU (st.an.set x.toNat v) st.s (st.s.e i).h x).heap↔e=⟨x,(st.s.e i).h,st.s.bA⟩\/∃k:Nat,k<st.s.heap.length/\k≠i/\e=st.s.e k:=λe=>(hs.mem e).trans (adV hi e);have uC:(uU (st.an.set x.toNat v) st.s (st.s.e i).h x).next=st.s.next:=hs.next;have KY:(uU (st.an.set x.toNat v) st.s (st.s.e i).h x).bA=st.s.bA+1:=hs.bA;refine⟨by simp[h.lb],h.lf,h.lh,anS (h.ok.of PZ) h.pl hi (by rw[PZ];exact O7),YY h.pl hi,
    YZ h.pl hi (adR h.hp h.ok.r hi O7 EH (λk hk b7 e=>b7 (h.Dn hk hi (e.trans EH.symm))) c3),λe he=>?_,λy hy mf fW=>?_,λy hy mf=>?_,λy hy mf=>?_,λy hy=>?_, ?_,Cw⟩
   ·rcases(li e).1 he with rfl|⟨k,hk,_,rfl⟩
    ·exact⟨hx.1,hx.2,c1,hd,(h.wT _ (fR.2 ⟨i,hi,rfl⟩)).2.2.2.2⟩
    ·exact h.wT _ (fR.2 ⟨k,hk,rfl⟩)
   ·obtain⟨e,he,hey⟩:=h.Zr y hy mf fW;obtain⟨k,hk,rfl⟩:=fR.1 he;by_cases Jq:k=i
    ·subst Jq;exact⟨_,(li _).2 (.inl rfl),by simp only;omega⟩
    ·exact⟨_,(li _).2 (.inr ⟨k,hk,Jq,rfl⟩),hey⟩
   ·have:=h.old y hy mf;refine⟨this.1, ?_⟩;simp only;rw[Me y hy,aZ]
    ·exact this.2
    ·rintro rfl;simp only at mf;omega
   ·simp only;rw[Me y hy];split
    ·omega
    ·exact h.RQ y hy mf
   ·rw[show(dy.mk (st.an.set x.toNat v) st.cj st.fA (uU (st.an.set x.toNat v) st.s (st.s.e i).h x)).s.next=st.s.next from uC];exact h.nx y hy
   ·have:=h.nc;simp only[uC,KY];omega
  ·rename_i hh;have b7:∀e∈st.s.heap,e.x≠x:=λe he ex=>by
    obtain⟨a1,a2,a3,a4,a5⟩:=h.wT e he;rw[ex]at a4;omega
   have af6:∀a b:kU,a∈st.s.heap->b∈st.s.heap->(ja (st.an.set x.toNat v) a b↔ja st.an a b):=λa b ha hb=>by
    unfold ja;rw[B3 O7 (h.wT a ha).1,B3 O7 (h.wT b hb).1,aZ (b7 a ha),aZ (b7 b hb)]
   have LQ:py (st.an.set x.toNat v) st.s:=λk k1 k2 hk=>h.hp k k1 k2 ((af6 _ _ (fR.2 ⟨k,k2,rfl⟩) (fR.2 ⟨_,by omega,rfl⟩)).1 hk);have hs:mm (fZ st.s x) (ip (st.an.set x.toNat v) st.s x):=wF (by simp[fZ]);have li:∀e,e∈(ip (st.an.set x.toNat v) st.s x).heap↔e∈st.s.heap\/e=⟨x,st.s.next,st.s.bA⟩:=λe=>(hs.mem e).trans (by simp[fZ]);have uC:(ip (st.an.set x.toNat v) st.s x).next=st.s.next+1:=hs.next;have KY:(ip (st.an.set x.toNat v) st.s x).bA=st.s.bA+1:=hs.bA;have hhd:∀y:Nat,y<n->(st.fA.set x.toNat st.s.next).getD y 0=if y=x.toNat then st.s.next else st.fA.getD y 0:=λy hy=>eV (by have:=h.lh;omega)
   have Jp:=h.nc;refine⟨by simp[h.lb],h.lf,by simp[h.lh],(GQ (vP (h.ok.of PZ) (by rw[PZ];exact O7)) (by simp[fZ])).1,yx h.pl (λe he=>?_),BR LQ,λe he=>?_,λy hy mf fW=>?_,λy hy mf=>?_,λy hy mf=>?_,λy hy=>?_, ?_,Cw⟩
   ·obtain⟨a1,a2,a3,a4,a5⟩:=h.wT e he;have:=h.nx e.x.toNat (by omega);omega
   ·rcases(li e).1 he with he|rfl
    ·obtain⟨a1,a2,a3,a4,a5⟩:=h.wT e he;refine⟨a1,a2,a3, ?_,a5⟩;simp only;rw[hhd _ (by omega),aZ]
     ·exact a4
     ·have:=b7 e he;omega
    ·refine⟨hx.1,hx.2,c1, ?_,Jp.1⟩;simp only;rw[hhd _ (by omega),cF rfl]
   ·simp only at mf;rw[hhd y hy]at mf;split at mf
    ·rename_i e;exact⟨_,(li _).2 (.inr rfl),by simp only;omega⟩
    ·obtain⟨e,he,hey⟩:=h.Zr y hy mf fW;exact⟨e,(li e).2 (.inl he),hey⟩
   ·simp only at mf;rw[hhd y hy]at mf;split at mf
    ·omega
    ·rename_i e;have:=h.old y hy mf;refine⟨this.1, ?_⟩;simp only;rw[Me y hy,aZ e];exact this.2
   ·simp only at mf⊢;rw[hhd y hy]at mf;rw[Me y hy];split
    ·omega
    ·rename_i e;rw[aZ e]at mf;exact h.RQ y hy mf
   ·show(st.fA.set x.toNat st.s.next).getD y 0<(ip (st.an.set x.toNat v) st.s x).next;rw[hhd y hy,uC];have:=h.nx y hy;split<;>omega
   ·simp only[uC,KY];omega
def C1(h:WF n st){x:Int}(hx:0<=x/\x<n)(v:dg):(fU st x v).s.bA<=st.s.bA+1:=by
 unfold fU;split
 ·omega
 ·rename_i hc;simp only[Zc7,Decidable.not_not]at hc;obtain⟨c1,c2,c3⟩:=hc;have c1:st.cj.getD x.toNat false=false:=by simpa using c1
  split
  ·rename_i hh;obtain⟨e,he,EH⟩:=h.Zr x.toNat (by omega) hh c1;obtain⟨i,hi,rfl⟩:=fR.1 he;have EH:(st.s.e i).x=x:=by omega
   have hd:st.fA.getD x.toNat 0=(st.s.e i).h:=by rw[<-EH];exact(h.wT _ he).2.2.2.1
   rw[hd];have hs:=OE (an:=st.an.set x.toNat v) (x:=x) h.pl hi;exact Int.le_of_eq hs.bA
  ·have hs:mm (fZ st.s x) (ip (st.an.set x.toNat v) st.s x):=wF (by simp[fZ]);exact Int.le_of_eq hs.bA
def qZ(st:dy)(x:Int)(v:dg):Prop:=
 (0<=x/\x<st.an.length)/\st.cj.length=st.an.length/\st.fA.length=st.an.length/\jI v/\
  (¬(st.cj.getD x.toNat false=true\/v.aI>=1099511627776\/¬v.lt (bv st.an x))->
   if 0<=st.fA.getD x.toNat 0 then Ow st.s (st.an.set x.toNat v) (st.fA.getD x.toNat 0) x else yo st.s (st.an.set x.toNat v) x)
def WF.qZ(h:WF n st){x:Int}(hx:0<=x/\x<n){v:dg}(hv:jI v)(hn:n<=1000)(hc:st.s.bA<=1000000000000):qZ st x v:=by
 have O7:0<=x/\x<st.an.length:=by have:=h.lb;omega
 refine⟨O7,by rw[h.lf,h.lb],by rw[h.lh,h.lb],hv,λc=>?_⟩;simp only[Zc7,Decidable.not_not]at c;obtain⟨c1,c2,c3⟩:=c;have c1:st.cj.getD x.toNat false=false:=by simpa using c1
 have hl:=h.len;have Jp:=h.nc;have PZ:(st.an.set x.toNat v).length=st.an.length:=by simp
 split
 ·rename_i hh;obtain⟨e,he,EH⟩:=h.Zr x.toNat (by omega) hh c1;obtain⟨i,hi,rfl⟩:=fR.1 he;have EH:(st.s.e i).x=x:=by omega
  have hd:st.fA.getD x.toNat 0=(st.s.e i).h:=by rw[<-EH];exact(h.wT _ he).2.2.2.1
  rw[hd];exact adT (h.ok.of PZ) h.pl hi (by rw[PZ];exact O7) (by omega) (by omega)
 ·exact⟨h.ok.of PZ,by rw[PZ];exact O7,by omega,by omega,by omega⟩
def Ar{s:Qs}(b7:s.heap≠[])(e:kU):e∈(fQ an s).heap↔∃k:Nat,0<k/\k<s.heap.length/\s.e k=e:=by
 have xZ:0<s.heap.length:=NT.2 b7;have hl:(gk s).heap.length=s.heap.length-1:=by
  simp only[gk,we,Qs.dP];omega
 unfold fQ;rw[aZ b7,((l7 rfl).mem e),fR,hl];constructor
 ·rintro⟨k,hk,rfl⟩;rw[qk hk];split
  ·exact⟨s.heap.length-1,by omega,by omega,rfl⟩
  ·exact⟨k,by omega,by omega,rfl⟩
 ·rintro⟨k,k1,k2,rfl⟩;by_cases hk:k=s.heap.length-1
  ·refine⟨0,by omega, ?_⟩;rw[qk (by omega),cF rfl,hk]
  ·refine⟨k,by omega, ?_⟩;rw[qk (by omega),aZ (by omega)]
def WF.xy(h:WF n st)(hn:n<=1000):xy st.s st.an:=⟨h.ok,h.pl.nd,by have:=h.len;omega⟩
def WF.pop(h:WF n st)(b7:st.s.heap≠[]):WF n (qM st):=by
 have xZ:0<st.s.heap.length:=NT.2 b7;obtain⟨x,hx⟩:=be ((st.s.e 0).x);have PY:(st.s.e (0:Nat)).x=x:=hx;obtain⟨a1,a2,a3,a4,a5⟩:=h.wT _ (fR.2 ⟨0,xZ,rfl⟩);rw[PY]at a1 a2 a3 a4;unfold qM;rw[hx];have hs:mm (gk st.s) (fQ st.an st.s):=by unfold fQ;rw[aZ b7];exact l7 rfl
 have hfd:∀y:Nat,y<n->(st.cj.set x.toNat true).getD y false=if y=x.toNat then true else st.cj.getD y false:=λy hy=>eV (by have:=h.lf;omega)
 have uC:(fQ st.an st.s).next=st.s.next:=hs.next;have KY:(fQ st.an st.s).bA=st.s.bA:=hs.bA;refine⟨h.lb,by simp[h.lf],h.lh, ?_,wG h.pl,Av h.hp,λe he=>?_,λy hy mf fW=>?_,λy hy mf=>?_,h.RQ,λy hy=>?_, ?_,h.bo⟩
 ·show(fQ st.an st.s).ok st.an;unfold fQ;rw[aZ b7];exact D5 rfl (Au h.ok h.pl.nd xZ)
 ·obtain⟨k,k1,k2,rfl⟩:=(Ar b7 e).1 he;obtain⟨b1,b2,b3,b4,b5⟩:=h.wT _ (fR.2 ⟨k,k2,rfl⟩);refine⟨b1,b2, ?_,b4,b5⟩;simp only;rw[hfd _ (by omega),aZ]
  ·exact b3
  ·intro e;have:=h.Dn k2 xZ (by rw[PY];omega);omega
 ·simp only at fW mf;rw[hfd y hy]at fW;split at fW
  ·cases fW
  ·rename_i hyx;obtain⟨e,he,hey⟩:=h.Zr y hy mf fW;obtain⟨k,hk,rfl⟩:=fR.1 he;refine⟨_,(Ar b7 _).2 ⟨k, ?_,hk,rfl⟩,hey⟩;rcases Zdk k with rfl|Dh
   ·rw[PY]at hey;omega
   ·exact Dh
 ·have:=h.old y hy mf;simp only at mf⊢;refine⟨?_,this.2⟩;rw[hfd y hy,aZ]
  ·exact this.1
  ·rintro rfl;omega
 ·show st.fA.getD y 0<(fQ st.an st.s).next;rw[uC];exact h.nx y hy
 ·show 0<=(fQ st.an st.s).next/\(fQ st.an st.s).next<=(fQ st.an st.s).bA;rw[uC,KY];exact h.nc
end
end
def jT(r:dq)(x:Int):Prop:=(r.kind=3/\r.a=x)\/(r.kind=4/\(r.a=x\/r.b=x))
instance(r:dq)(x:Int):Decidable (jT r x):=by unfold jT;infer_instance
def t86(r:dq)(x:Int):bw aj 125 [.agg r.enc,ti x] (.bool (decide (jT r x))):=by
 obtain⟨k,h,a,b,p,o⟩:=r;obtain⟨c1,b8⟩:=be (decide (jT ⟨k,h,a,b,p,o⟩ x):Bool);rw[b8];simp only[jT]at b8;have aC:=cL;refine c86.ok (by simp) (aT ?_);simp[dq.enc];apply aa.ag aC fw [1,2];simp[aid];refine aa.lk (o:=[]) (l:=[(1,.v (ti x)),(2,.v (.box [ti k,ti h,ti a,ti b,ti p,ti o]))]) (aY:=1200) (by simp) ?_;refine aa.cH aC fw [(4,.v (.bool c1))] ?_ ?_
 ·by_cases q1:k=3
  ·have q4:¬(3:Int)=4:=by omega
   subst q1;by_cases q2:a=x
   ·have:c1=true:=by rw[<-b8];simp[q2]
    simp[FA,q2,this]
   ·have:c1=false:=by rw[<-b8];simp[q2]
    simp[FA,q2,this]
  ·by_cases q4:k=4
   ·subst q4;by_cases q2:a=x
    ·have:c1=true:=by rw[<-b8];simp[q2]
     simp[FA,q2,this]
    ·by_cases q3:b=x
     ·have:c1=true:=by rw[<-b8];simp[q3]
      simp[FA,q2,q3,this]
     ·have:c1=false:=by rw[<-b8];simp[q2,q3]
      simp[FA,q2,q3,this]
   ·have:c1=false:=by rw[<-b8];simp[q1,q4]
    simp[FA,q1,q4,this]
 apply aa.ret;simp[dm]
abbrev s86:DM.Spec:=dh (λts=>∃k h a b p o x,ts=[.agg [ti k,ti h,ti a,ti b,ti p,ti o],ti x]) (fun|[.agg [.int _ k,.int _ h,.int _ a,.int _ b,.int _ p,.int _ o],.int _ x]=>.bool (decide (jT ⟨k,h,a,b,p,o⟩ x))|_=>.bool false) true
def au3{l:List (Nat×DM.Spec)}(h:ay aj (bB l)):ay aj (bB ((125,s86)::l)):=by
 refine ay.cons h ?_;rintro ts ⟨k,h,a,b,p,o,x,rfl⟩;exact⟨by simpa [dq.enc]using t86 ⟨k,h,a,b,p,o⟩ x,λ_=>rfl⟩
def mQ(z:fo)(a:cE):Prop:=a.f>z.fr\/(a.f=z.fr/\a.t>=z.to)
instance(z:fo)(a:cE):Decidable (mQ z a):=by unfold mQ;infer_instance
def gN(f:bq)(b:Nat):Nat:=match f b with
 |some (.box [.ptr p _])=>p
 |_=>0
def au4{f0:bq}{b p N i:Nat}{v:SV}(hN:∀r,N<=r->f0 r=none)(hb:f0 b=some (.box [.ptr p 0]))(hv:v.at f0 p)(hi:i<v.z.l.bK.length):
  aQ aj 141 [.v (ti i),.ptr b 0] f0 ⟨True,.v (.bool (decide (mQ v.z (v.z.l.bK.getD i default)))),f0⟩:=by
 obtain⟨R,hR⟩:=be (decide (mQ v.z (v.z.l.bK.getD i default)));rw[hR];have aC:=cL;refine auo.qE hN (by simp) λaV=>?_;have h1:=hv.sp;have nk:p<N:=(aV p _ h1).1;have WA:b<N:=(aV b _ hb).1;simp only[mW]at h1;have np:∀k,p≠N+k:=λk=>by omega
 have nb:∀k,b≠N+k:=λk=>by omega
 have rr:=ye hi;obtain⟨⟨af,xu,ae,ac,ao⟩,hx⟩:=be (v.z.l.bK.getD i default);rw[hx]at rr;simp only[hx,mQ]at hR;simp only[cE.enc]at rr;simp;apply aa.ag aC fw [0,1];simp[abS];apply aa.ag aC fw [1,4];simp[abT,hb,h1,hi,rr];refine aa.le (ml (l:=[(1,.ptr b 0),(4,.v (.box [ti af,ti xu,ti ae,ti ac,.sl (iz ao)]))]) (aY:=N+2000) aV (by omega) (by simp;omega) ?_) ?_
 ·simp[fq,hb];exact bZ (l:=[]) aV (by omega) (by simp)
 refine aa.cH aC fw [(3,.v (.bool R))] ?_ ?_
 ·by_cases q1:af>v.z.fr
  ·have:R=true:=by rw[<-hR];simp[q1]
   simp[FB,hb,h1,q1,this]
  ·by_cases q2:af=v.z.fr
   ·subst q2;by_cases q3:xu>=v.z.to
    ·have:R=true:=by rw[<-hR];simp[q3]
     simp[FB,hb,h1,q3,this]
    ·have:R=false:=by rw[<-hR];simp[q3]
     simp[FB,hb,h1,q3,this]
   ·have:R=false:=by rw[<-hR];simp[q1,q2]
    simp[FB,hb,h1,q1,q2,this]
 apply aa.ret;simp[dm];rfl
noncomputable def RL:bF->bq->fV
 |[.v (.int .i64 i),.ptr b 0],f=>⟨f b=some (.box [.ptr (gN f b) 0])/\(∃v:SV,v.at f (gN f b))/\0<=i/\i<(jK f (gN f b)).z.l.bK.length,.v (.bool (decide (mQ (jK f (gN f b)).z ((jK f (gN f b)).z.l.bK.getD i.toNat default)))),f⟩
 |_,f=>⟨False,.undef,f⟩
def af2{v:SV}{f:bq}{b p:Nat}{i:Int}(hb:f b=some (.box [.ptr p 0]))(hv:v.at f p):RL [.v (ti i),.ptr b 0] f=⟨0<=i/\i<v.z.l.bK.length,.v (.bool (decide (mQ v.z (v.z.l.bK.getD i.toNat default)))),f⟩:=by
 have hx:∃v:SV,v.at f p:=⟨v,hv⟩;have hd:gN f b=p:=by simp[gN,hb]
 simp only[RL,hd,iH hv,hx,hb,qI]
def af3:∀args ab,(RL args ab).ok->(∀N,(∀r,N<=r->ab r=none)->aQ aj 141 args ab (RL args ab))/\∀r,ab r=none->(RL args ab).ab r=none:=by
 intro args ab h;unfold RL at h⊢;split at h
 ·rename_i i b;obtain⟨hb,⟨v,hv⟩,i0,i1⟩:=h;rw[iH hv]at i1⊢;obtain⟨i,rfl⟩:=kK i0;exact⟨λN hN=>aQ.of (au4 hN hb hv (by omega)) rfl rfl,λr hr=>hr⟩
 ·exact h.elim
def as8{l:List (Nat×DM.Spec)}(h:ay aj (bB l)):ay aj (bB ((141,en RL)::l)):=ay.ij h af3
def jL(z:fo):Nat:=z.l.bK.findIdx λa=>decide (mQ z a)
def mono(z:fo):Prop:=∀i j:Nat,i<=j->j<z.l.bK.length->mQ z (z.l.bK.getD i default)->mQ z (z.l.bK.getD j default)
def anN{z:fo}{k:Nat}(hk:k<=z.l.bK.length)(h1:∀i,i<k->¬mQ z (z.l.bK.getD i default))(h2:k<z.l.bK.length->mQ z (z.l.bK.getD k default)):jL z=k:=by
 unfold jL;by_cases hl:k<z.l.bK.length
 ·rw[List.findIdx_eq hl];refine⟨?_,λj hj=>?_⟩
  ·have:=h2 hl;simpa [List.getD,hl]using this
  ·have H2:j<z.l.bK.length:=by omega
   have:=h1 j hj;simpa [List.getD,H2]using this
 ·obtain rfl:k=z.l.bK.length:=by omega
  rw[List.findIdx_eq_length];intro x hx;obtain⟨i,hi,rfl⟩:=If hx;have:=h1 i hi;simpa [List.getD,hi]using this
def au5{f0:bq}{b p N:Nat}{v:SV}(hN:∀r,N<=r->f0 r=none)(hb:f0 b=some (.box [.ptr p 0]))(hv:v.at f0 p)(hm:mono v.z)(hl:v.z.l.bK.length<=1000000000):
  aQ aj 140 [.v (ti v.z.l.bK.length),.oP (.func 141) [.ptr b 0]] f0 ⟨True,.v (ti (jL v.z)),f0⟩:=by
 obtain⟨n,hn⟩:=be v.z.l.bK.length;rw[hn]at hl⊢;have aC:=as8 ay.nil;refine aum.qE hN (by simp) λaV=>?_;have WA:b<N:=(aV b _ hb).1;have k1:=λi=>af2 (i:=i) hb hv;simp;apply aa.ag aC fw [0,1];simp[abK];apply aa.ag aC fw [1,5,6];simp[abL];apply aa.seq;apply aa.block;refine aa.loop (λq:Nat×Nat=>⟨DM.look [(1,.oP (.func 141) [.ptr b 0]),(5,.v (ti q.1)),(6,.v (ti q.2))],aO [] f0,N+1000,N,[]⟩)
  (λq=>q.1<=q.2/\q.2<=n/\(∀i,i<q.1->¬mQ v.z (v.z.l.bK.getD i default))/\(∀i,q.2<=i->i<n->mQ v.z (v.z.l.bK.getD i default))) (λq=>q.2-q.1) (0,n) (ml aV (by omega) (by simp) ?_) ⟨by simp,by simp,λi hi=>by simp at hi,λi h1 h2=>by simp at h1;omega⟩ (λq hq=>?_)
 ·simp[hb]
 obtain⟨lo,hi⟩:=q;obtain⟨q1,q2,q3,q4⟩:=hq;simp only at q1 q2 q3 q4;apply aa.sq aC fw [1,5,6,11];simp[abM];refine aa.cond rfl (λg=>?_) (λg=>?_)
 ·have g:lo<hi:=by simpa using g
  have w1:IntKind.i64.wrap ((lo:Int)+hi)=(lo:Int)+hi:=aF (by omega);obtain⟨md,hmd⟩:=be ((lo+hi)/2);apply aa.skip;simp;apply aa.block;apply aa.ag aC fw [1,5,6,7];have hu:IntKind.u64.wrap ((lo:Int)+hi)=(lo:Int)+hi:=by
   unfold IntKind.wrap;simp[IntKind.signed,IntKind.bits];omega
  have w2:IntKind.i64.wrap (IntKind.u64.wrap ((lo:Int)+hi)/2^min 1 IntKind.u64.bits)=md:=by
   rw[hu,show min 1 IntKind.u64.bits=1 from rfl,aF (by omega)];omega
  have avJ:lo<=md/\md<hi:=by omega
  simp[abN,w1,w2];obtain⟨c1,b8⟩:=be (decide (mQ v.z (v.z.l.bK.getD md default)):Bool);have gZ:=k1 md;simp only[iQ,b8]at gZ;have hmn:md<v.z.l.bK.length:=by omega
  apply aa.ag aC fw [1,5,6,7,21];rw[show aO [] f0=f0 from rfl];simp[abO,gZ,hmn];refine aa.cond rfl (λg2=>?_) (λg2=>?_)
  ·have g2:c1=false:=by simpa using g2
   subst g2;have h3:=wQ b8;have w3:IntKind.i64.wrap ((md:Int)+1)=((md+1:Nat):Int):=by rw[aF (by omega)];omega
   apply aa.fJ aC fw [1,5,6];simp[abP,w3];refine⟨md+1,hi,ml (L:=[]) aV (by omega) (by simp) ?_,⟨by omega,by omega,λi hi3 hp=>h3 (hm i md (by omega) hmn (by simpa using hp)),λi h4 h5=>by simpa using q4 i h4 h5⟩,by omega⟩;simp[hb]
  ·have g2:c1=true:=by simpa using g2
   subst g2;have h3:=qW b8;apply aa.fJ aC fw [1,5,6];simp[abQ];refine⟨lo,md,ml (L:=[]) aV (by omega) (by simp) ?_,⟨by omega,by omega,λi hi3=>by simpa using q3 i hi3,λi h4 h5=>by simpa using hm md i h4 (by omega) h3⟩,by omega⟩;simp[hb]
 ·have g:¬lo<hi:=by simpa using g
  have he:lo=hi:=by omega
  subst he;have hL:jL v.z=lo:=anN (by omega) q3 λh=>q4 lo (ed _) (by omega);apply aa.exit;simp;apply aa.ag aC fw [4];simp[abR,hL];apply aa.ret;simp[dm];rfl
noncomputable def RM:bF->bq->fV
 |[.v (.int .i64 n),.oP (.func 141) [.ptr b 0]],f=>⟨f b=some (.box [.ptr (gN f b) 0])/\(∃v:SV,v.at f (gN f b))/\n=(jK f (gN f b)).z.l.bK.length/\mono (jK f (gN f b)).z/\(jK f (gN f b)).z.l.bK.length<=1000000000,.v (ti (jL (jK f (gN f b)).z)),f⟩
 |_,f=>⟨False,.undef,f⟩
def af4{v:SV}{f:bq}{b p:Nat}{n:Int}(hb:f b=some (.box [.ptr p 0]))(hv:v.at f p):RM [.v (ti n),.oP (.func 141) [.ptr b 0]] f=⟨n=v.z.l.bK.length/\mono v.z/\v.z.l.bK.length<=1000000000,.v (ti (jL v.z)),f⟩:=by
 have hx:∃v:SV,v.at f p:=⟨v,hv⟩;have hd:gN f b=p:=by simp[gN,hb]
 simp only[RM,hd,iH hv,hx,hb,qI]
def af5:∀args ab,(RM args ab).ok->(∀N,(∀r,N<=r->ab r=none)->aQ aj 140 args ab (RM args ab))/\∀r,ab r=none->(RM args ab).ab r=none:=by
 intro args ab h;unfold RM at h⊢;split at h
 ·rename_i n b;obtain⟨hb,⟨v,hv⟩,hn,hm,hl⟩:=h;rw[iH hv]at hn hm hl⊢;subst hn;exact⟨λN hN=>aQ.of (au5 hN hb hv hm hl) rfl rfl,λr hr=>hr⟩
 ·exact h.elim
def as9{l:List (Nat×DM.Spec)}(h:ay aj (bB l)):ay aj (bB ((140,en RM)::l)):=ay.ij h af5
def LC(z:fo)(a:cE):Prop:=a.f=z.fr/\a.t=z.to
instance(z:fo)(a:cE):Decidable (LC z a):=by unfold LC;infer_instance
def uX(z:fo):Nat:=jL z+(z.l.bK.drop (jL z)).findIdx λa=> !decide (LC z a)
def anO{z:fo}{k:Nat}(h0:jL z<=k)(hk:k<=z.l.bK.length)(h1:∀i,jL z<=i->i<k->LC z (z.l.bK.getD i default))(h2:k<z.l.bK.length->¬LC z (z.l.bK.getD k default)):uX z=k:=by
 unfold uX;have fA:(z.l.bK.drop (jL z)).length=z.l.bK.length-jL z:=Zc ..
 suffices (z.l.bK.drop (jL z)).findIdx (λa=> !decide (LC z a))=k-jL z by omega
 by_cases hl:k<z.l.bK.length
 ·rw[List.findIdx_eq (by omega)];refine⟨?_,λj hj=>?_⟩
  ·have:=h2 hl;rw[ZcC];simpa [List.getD,hl,show jL z+(k-jL z)=k by omega]using this
  ·have H2:jL z+j<z.l.bK.length:=by omega
   have:=h1 (jL z+j) (by omega) (by omega);rw[ZcC];simpa [List.getD,H2]using this
 ·obtain rfl:k=z.l.bK.length:=by omega
  rw[<-fA,List.findIdx_eq_length];intro x hx;obtain⟨i,hi,rfl⟩:=If hx;rw[fA]at hi;have Bn:jL z+i<z.l.bK.length:=by omega
  have:=h1 (jL z+i) (by omega) (by omega);rw[ZcC];simpa [List.getD,Bn]using this
def adQ(z:fo):jL z<=z.l.bK.length:=List.findIdx_le_length
def t80{f0:bq}{p N:Nat}{v:SV}(hN:∀r,N<=r->f0 r=none)(hv:v.at f0 p)(hm:mono v.z)(hl:v.z.l.bK.length<=1000000000):
  aQ aj 119 [.ptr p 0] f0 ⟨True,.v (.ew [ti (jL v.z),ti (uX v.z)]),f0⟩:=by
 have aC:=as9 ay.nil;refine c80.qE hN (by simp) λaV=>?_;have h1:=hv.sp;have nk:p<N:=(aV p _ h1).1;simp only[mW]at h1;have np:∀k,p≠N+k:=λk=>by omega
 have eA:∃cs,f0 p=some (.box cs):=⟨_,h1⟩;obtain⟨lo,hlo⟩:=be (jL v.z);have Ye:=adQ v.z;rw[hlo]at Ye⊢;simp;apply aa.ag aC fw [1];simp[aiL];refine aa.le (Le.d6 (l1:=[(N+2,.box [.ptr p 0])]) (l:=[(1,.ptr (N+2) 0)]) (aY:=N+500) aV ?_ ?_ ?_ ?_ ?_) ?_
 ·omega
 ·simp
 ·simp[bU,fq]
 ·simp[dT,eK,np,fq,eA]
 ·simp[fq]
 have nU:v.at (aO [(N+2,.box [.ptr p 0])] f0) p:=hv.aO aV (by simp);have k1:=λn=>af4 (n:=n) (b:=N+2) (f:=aO [(N+2,.box [.ptr p 0])] f0) (by simp) nU;rw[hlo]at k1;apply aa.cY aC fw (rs:=Qt) rfl (by kernel_rfl) [1,4];simp[Qt,h1,np,k1,hm,hl];have jW:∀{tm aK aY l},N+3<=aY->fK (aO [(N+2,.box [.ptr p 0])] f0) (aO [(N+2,.box [.ptr p 0])] f0) id tm l->Le ⟨tm,aO [(N+2,.box [.ptr p 0])] f0,aK,N,[]⟩ ⟨DM.look l,aO [(N+2,.box [.ptr p 0])] f0,aY,N,[]⟩:=by
  intro tm aK aY l hn iX;refine Le.d6 aV (by omega) ?_ ?_ ?_ iX
  ·simp;omega
  ·simp[bU]
  ·simp[dT,eK,np,eA]
 apply aa.ag aC fw [1,4,5];simp[aiM];apply aa.seq;apply aa.block;refine aa.loop (λj:Nat=>⟨DM.look [(1,.ptr (N+2) 0),(4,.v (ti lo)),(5,.v (ti j))],aO [(N+2,.box [.ptr p 0])] f0,N+1000,N,[]⟩)
  (λj=>lo<=j/\j<=v.z.l.bK.length/\∀i,lo<=i->i<j->LC v.z (v.z.l.bK.getD i default)) (λj=>v.z.l.bK.length-j) lo (jW (by omega) ?_) ⟨ed _,Ye,λi a b=>by omega⟩ (λj hj=>?_)
 ·simp
 obtain⟨j1,j2,j3⟩:=hj;obtain⟨c1,b8⟩:=be (decide (j<v.z.l.bK.length/\LC v.z (v.z.l.bK.getD j default)):Bool);apply aa.seq;refine aa.cH aC fw [(1,.ptr (N+2) 0),(4,.v (ti lo)),(5,.v (ti j)),(54,.v (.bool c1))] ?_ ?_
 ·by_cases q1:j<v.z.l.bK.length
  ·have rr:=ye q1;obtain⟨⟨af,xu,ae,ac,ao⟩,hx⟩:=be (v.z.l.bK.getD j default);rw[hx]at rr b8;simp only[cE.enc]at rr;simp only[LC]at b8;by_cases q2:af=v.z.fr
   ·by_cases q3:xu=v.z.to
    ·have:c1=true:=by rw[<-b8];simp[q1,q2,q3]
     simp[MU,h1,np,q1,rr,q2,q3,this]
    ·have:c1=false:=by rw[<-b8];simp[q3]
     simp[MU,h1,np,q1,rr,q2,q3,this]
   ·have:c1=false:=by rw[<-b8];simp[q2]
    simp[MU,h1,np,q1,rr,q2,this]
  ·have:c1=false:=by rw[<-b8];simp;omega
   simp[MU,h1,np,q1,this]
 refine aa.cond rfl (λg=>?_) (λg=>?_)
 ·have g:c1=true:=by simpa using g
  subst g;obtain⟨g1,g2⟩:=qW b8;have w1:IntKind.i64.wrap ((j:Int)+1)=((j+1:Nat):Int):=by rw[aF (by omega)];omega
  apply aa.skip;simp;apply aa.block;apply aa.fJ aC fw [1,4,5];simp[aiN,w1];refine⟨j+1,jW (by omega) ?_,⟨by omega,by omega,λi a b=>?_⟩,by omega⟩
  ·simp
  ·by_cases e:i=j
   ·subst e;simpa using g2
   ·simpa using j3 i a (by omega)
 ·have g:c1=false:=by simpa using g
  subst g;have hn:=wQ b8;have hH:uX v.z=j:=anO (by omega) j2 (by rw[hlo];exact j3) λh hp=>hn ⟨h,hp⟩;rw[hH];apply aa.exit;simp;apply aa.ag aC fw [2,3];simp[aiO];refine aa.le (ml (l:=[(2,.v (ti lo)),(3,.v (ti j))]) (aY:=N+6000) aV (by omega) (by simp) ?_) ?_
  ·simp
  apply aa.ret;simp[abU];rfl
noncomputable def k80:bF->bq->fV
 |[.ptr p 0],f=>⟨(∃v:SV,v.at f p)/\mono (jK f p).z/\(jK f p).z.l.bK.length<=1000000000,.v (.ew [ti (jL (jK f p).z),ti (uX (jK f p).z)]),f⟩
 |_,f=>⟨False,.undef,f⟩
def anP{v:SV}{f:bq}{p:Nat}(hv:v.at f p):k80 [.ptr p 0] f=⟨mono v.z/\v.z.l.bK.length<=1000000000,.v (.ew [ti (jL v.z),ti (uX v.z)]),f⟩:=by
 have hx:∃v:SV,v.at f p:=⟨v,hv⟩;simp only[k80,iH hv,hx,qI]
def anQ:∀args ab,(k80 args ab).ok->(∀N,(∀r,N<=r->ab r=none)->aQ aj 119 args ab (k80 args ab))/\∀r,ab r=none->(k80 args ab).ab r=none:=by
 intro args ab h;unfold k80 at h⊢;split at h
 ·rename_i p;obtain⟨⟨v,hv⟩,hm,hl⟩:=h;rw[iH hv]at hm hl⊢;exact⟨λN hN=>aQ.of (t80 hN hv hm hl) rfl rfl,λr hr=>hr⟩
 ·exact h.elim
def au6{l:List (Nat×DM.Spec)}(h:ay aj (bB l)):ay aj (bB ((119,en k80)::l)):=ay.ij h anQ
end cD
end Go.Proofs
