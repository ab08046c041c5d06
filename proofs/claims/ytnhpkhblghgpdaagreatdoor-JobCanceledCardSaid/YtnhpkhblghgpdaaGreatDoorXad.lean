/- A part. Conditions: none. -/
import Derived.Test.YtnhpkhblghgpdaaGreatDoorXac
import Derived.Shelf.SlSortCmp.NoneTotal
import Derived.KernelRfl
import Derived.Test.YtnhpkhblghgpdaaGreatDoorProg
set_option linter.unusedSectionVars false
set_option linter.unusedSimpArgs false
set_option linter.unusedVariables false
set_option linter.defProp false
set_option maxRecDepth 100000
set_option maxHeartbeats 8000000
namespace Go.Proofs
open Go.Shelf
def Mz:Go.Shelf.Ren:=⟨fun|6=>49|15=>79|14=>78|28=>116|29=>117|20=>108|21=>109|22=>110|23=>111|24=>112|25=>113|26=>114|27=>115|46=>135|47=>136|48=>137|49=>138|50=>139|57=>149|n=>n,fun|22=>102|24=>104|25=>106|3=>3|39=>129|0=>0|53=>175|55=>178|4=>4|46=>184|45=>183|50=>188|5=>5|9=>9|66=>212|70=>216|76=>222|77=>196|n=>n,fun|n=>n⟩
def sortLay:SlLaysF0.n6 aj Mz where
 mixed:=by kernel_rfl
 f6:=⟨Tryz.f49.name,by decide+kernel,Tryz.func49.trans (congrArg some (by kernel_rfl))⟩
 f14:=⟨Tryz.f78.name,by decide+kernel,Tryz.func78.trans (congrArg some (by kernel_rfl))⟩
 f15:=Tryz.func79.trans (congrArg some (by kernel_rfl))
 f20:=⟨Tryz.f108.name,by decide+kernel,Tryz.func108.trans (congrArg some (by kernel_rfl))⟩
 f21:=⟨Tryz.f109.name,by decide+kernel,Tryz.func109.trans (congrArg some (by kernel_rfl))⟩
 f22:=⟨Tryz.f110.name,by decide+kernel,Tryz.func110.trans (congrArg some (by kernel_rfl))⟩
 f23:=⟨Tryz.f111.name,by decide+kernel,Tryz.func111.trans (congrArg some (by kernel_rfl))⟩
 f24:=⟨Tryz.f112.name,by decide+kernel,Tryz.func112.trans (congrArg some (by kernel_rfl))⟩
 f25:=⟨Tryz.f113.name,by decide+kernel,Tryz.func113.trans (congrArg some (by kernel_rfl))⟩
 f26:=⟨Tryz.f114.name,by decide+kernel,Tryz.func114.trans (congrArg some (by kernel_rfl))⟩
 f27:=⟨Tryz.f115.name,by decide+kernel,Tryz.func115.trans (congrArg some (by kernel_rfl))⟩
 f28:=Tryz.func116.trans (congrArg some (by kernel_rfl))
 f29:=Tryz.func117.trans (congrArg some (by kernel_rfl))
 f46:=⟨Tryz.f135.name,by decide+kernel,Tryz.func135.trans (congrArg some (by kernel_rfl))⟩
 f47:=Tryz.func136.trans (congrArg some (by kernel_rfl))
 f48:=Tryz.func137.trans (congrArg some (by kernel_rfl))
 f49:=⟨Tryz.f138.name,by decide+kernel,Tryz.func138.trans (congrArg some (by kernel_rfl))⟩
 f50:=⟨Tryz.f139.name,by decide+kernel,Tryz.func139.trans (congrArg some (by kernel_rfl))⟩
 f57:=⟨Tryz.f149.name,by decide+kernel,Tryz.func149.trans (congrArg some (by kernel_rfl))⟩
 t0:=Tryz.underlying0
 a0:=Tryz.isAgg0
 z0:=Tryz.sizeOf0
 v0:=Tryz.zeroValue0
 t3:=Tryz.underlying3
 a3:=Tryz.isAgg3
 z3:=Tryz.sizeOf3
 v3:=Tryz.zeroValue3
 t4:=Tryz.underlying4
 a4:=Tryz.isAgg4
 z4:=Tryz.sizeOf4
 v4:=Tryz.zeroValue4
 t5:=Tryz.underlying5
 a5:=Tryz.isAgg5
 z5:=Tryz.sizeOf5
 v5:=Tryz.zeroValue5
 t9:=Tryz.underlying9
 a9:=Tryz.isAgg9
 z9:=Tryz.sizeOf9
 v9:=Tryz.zeroValue9
 t22:=Tryz.underlying102
 a22:=Tryz.isAgg102
 z22:=Tryz.sizeOf102
 v22:=Tryz.zeroValue102
 t25:=Tryz.underlying106
 a25:=Tryz.isAgg106
 z25:=Tryz.sizeOf106
 v25:=Tryz.zeroValue106
 t39:=Tryz.underlying129
 a39:=Tryz.isAgg129
 z39:=Tryz.sizeOf129
 v39:=Tryz.zeroValue129
 t45:=Tryz.underlying183
 a45:=Tryz.isAgg183
 z45:=Tryz.sizeOf183
 v45:=Tryz.zeroValue183
 t46:=Tryz.underlying184
 a46:=Tryz.isAgg184
 z46:=Tryz.sizeOf184
 v46:=Tryz.zeroValue184
 t50:=Tryz.underlying188
 a50:=Tryz.isAgg188
 z50:=Tryz.sizeOf188
 v50:=Tryz.zeroValue188
 t53:=Tryz.underlying175
 a53:=Tryz.isAgg175
 z53:=Tryz.sizeOf175
 v53:=Tryz.zeroValue175
 t55:=Tryz.underlying178
 a55:=Tryz.isAgg178
 z55:=Tryz.sizeOf178
 v55:=Tryz.zeroValue178
 t66:=Tryz.underlying212
 a66:=Tryz.isAgg212
 z66:=Tryz.sizeOf212
 v66:=Tryz.zeroValue212
 t70:=Tryz.underlying216
 a70:=Tryz.isAgg216
 z70:=Tryz.sizeOf216
 v70:=Tryz.zeroValue216
 t76:=Tryz.underlying222
 a76:=Tryz.isAgg222
 z76:=Tryz.sizeOf222
 v76:=Tryz.zeroValue222
 t77:=Tryz.underlying196
 a77:=Tryz.isAgg196
 z77:=Tryz.sizeOf196
 v77:=Tryz.zeroValue196
open Go.DM Go.DM.Ve
def Xm(x y:ov 3):Int:=fa (iN x) (iN y)
def row3(x:ov 3):∃a b c:Int,x.1=[a,b,c]:=by
 obtain⟨l,hl⟩:=x
 match l,hl with
 |[a,b,c],_=>exact⟨a,b,c,rfl⟩
def good_row(x:ov 3):tu (iN x):=by
 obtain⟨a,b,c,h⟩:=row3 x;exact⟨a,b,c,by unfold iN;rw[h];rfl⟩
def row_good{r:aK}(h:tu r):∃x:ov 3,iN x=r:=by
 obtain⟨a,b,c,rfl⟩:=h;exact⟨⟨[a,b,c],rfl⟩,rfl⟩
def Hc:∀{D:List (aK)},(∀x∈D,tu x)->∃E:List (ov 3),E.map iN=D
 |[],_=>⟨[],rfl⟩
 |r::D,h=>by
  obtain⟨x,hx⟩:=row_good (h r (by simp));obtain⟨E,hE⟩:=Hc λy hy=>h y (Zbg _ hy);exact⟨x::E,by simp[hx,hE]⟩
def lt_cfK(x y:ov 3):ltOf Xm x y=zR fa (iN x) (iN y):=rfl
def CQ:Go.Sort.SWO (ltOf Xm):=
 ⟨λx=>Kh.irrefl _,λx y z=>Kh.trans _ _ _,λx y z=>Kh.ntrans _ _ _⟩
def rowN_inj{k:Nat}{x y:ov k}(h:iN x=iN y):x=y:=by
 apply Subtype.ext;unfold iN at h;have key:∀(l m:bO),l.map tI=m.map tI->l=m:=by
  intro l;induction l with
  |nil=>intro m h;cases m with
   |nil=>rfl
   |cons b m=>cases h
  |cons a l ih=>intro m h;cases m with
   |nil=>cases h
   |cons b m=>
    simp only[ZaA,Za1,T.int.injEq,true_and]at h;rw[h.1,ih m h.2]
 exact key _ _ h
def tot_cfK(x y:ov 3)(h1:ltOf Xm x y=false)(h2:ltOf Xm y x=false):x=y:=by
 rw[lt_cfK]at h1 h2;exact rowN_inj (AQ (good_row x) (good_row y) (eqvK (by simp[rR,h1,h2])))
def sortN_eq(E:List (ov 3)):kj (zR fa) (E.map iN)=(BC Xm E).map iN:=by
 refine KS Kh ?_ λz=>?_
 ·unfold wB;rw[ZcD];have h:=List.pairwise_mergeSort (le:=λx y=> !(ltOf Xm) y x) (λa b c h1 h2=>by
   simp only[Zbf]at h1 h2⊢;exact CQ.ntrans _ _ _ h2 h1) (λa b=>by
   cases e:ltOf Xm b a with
   |false=>rfl
   |true=>
    cases e2:ltOf Xm a b with
    |false=>rfl
    |true=>
     have:=CQ.trans _ _ _ e e2;rw[CQ.irrefl]at this;cases this) E
  exact h.imp λ{a b} hab=>by rw[Zbf]at hab;exact hab
 ·have hp:((BC Xm E).map iN).Perm (E.map iN):=(List.mergeSort_perm E _).map _;have h1:=hp.filter (rR (zR fa) z);have d0:∀w∈(E.map iN).filter (rR (zR fa) z),∀u∈(E.map iN).filter (rR (zR fa) z),w=u:=by
   intro w hw u hu;rw[Zbj]at hw hu;obtain⟨x,_,rfl⟩:=Zak.1 hw.1;obtain⟨y,_,rfl⟩:=Zak.1 hu.1;exact AQ (good_row x) (good_row y) ((eqvK hw.2).symm.trans (eqvK hu.2))
  generalize (E.map iN).filter (rR (zR fa) z)=l at h1 d0;generalize ((BC Xm E).map iN).filter (rR (zR fa) z)=l' at h1;apply Zbw h1.length_eq;intro i q1 q2;exact d0 _ (h1.subset (Zbe q1)) _ (Zbe q2)
theorem PB [bI](x y:ov 3):bl aj 50 [.agg (iN x),.agg (iN y)] (tI (Xm x y)):=by
 obtain⟨a,b,c,h⟩:=good_row x;obtain⟨d,e,f,k⟩:=good_row y;unfold Xm;rw[h,k];exact t33 a b c d e f
def t32(D:List (aK)){ab:bq}{r bD e:Nat}(gH:ab r=some (.dT bD e 3 D))(eF:∀x∈D,tu x)(h4:D.length<=qY):
  aR aj 49 [.bA r bD,.v (.fn (.func 50) [])] ab ⟨True,.v (.eo []),ew ab r (.dT bD e 3 (kj (zR fa) D))⟩:=by
 obtain⟨E,rfl⟩:=Hc eF;rw[sortN_eq];unfold qY at h4;exact KR (k:=3) sortLay (by omega) (λw=>Tryz.isAgg104 w) (λw=>Tryz.sizeOf104 w) (@PB bI.none) CQ tot_cfK E gH (by simp at h4;omega)
def k32(good:aK->Prop)(cmpF:aK->aK->Int):bB->bq->fI
 |[.bA r bD,.v (.fn (.func c) bY)],ab=>match ab r with
  |some (.dT cg e sz D)=>⟨bD=cg/\sz=3/\c=50/\bY=[]/\(∀x∈D,good x)/\D.length<=qY/\D.length<=1000000000,
    .v (.eo []),ew ab r (.dT bD e 3 (kj (zR cmpF) D))⟩
  |_=>⟨False,.undef,ab⟩
 |_,ab=>⟨False,.undef,ab⟩
def ok32{l:List (Nat×DM.Spec)}(h:ay aj (bu l)):ay aj (bu ((49,eS (k32 tu fa))::l)):=by
 refine ay.gS h ?_;intro args ab h;unfold k32 at h⊢;split at h
 ·split at h
  ·rename_i c bY _ cg e sz D gH;obtain⟨rfl,rfl,rfl,rfl,h1,h4,h5⟩:=h;refine⟨λN hN=>?_,λk hk=>vq gH hk⟩;simp only[];exact(t32 D gH h1 h4).of rfl rfl
  ·exact h.elim
 ·exact h.elim
section
variable{ab:bq}{al:List cw}
def k30:bB->bq->fI
 |[.ptr b 0,.v (.int .i64 i)],ab=>
  ⟨ab b=some (.box (df (gr ab b).1 (gr ab b).2))/\ab (gr ab b).2=some (cL (AM ab (gr ab b).2))/\0<=i/\i<=(gr ab b).1.aw.length/\OI (gr ab b).1,.v (.eo []),
   ew ab (gr ab b).2 (cL (cI (AM ab (gr ab b).2) (t6 (gr ab b).1 i.toNat)))⟩
 |_,ab=>⟨False,.undef,ab⟩
def k30_eq{b m:Nat}{x:Input}{i:Nat}(h:ab b=some (.box (df x m)))(hm:ab m=some (cL al)):
  k30 [.ptr b 0,.v (ti i)] ab=⟨i<=x.aw.length/\OI x,.v (.eo []),ew ab m (cL (cI al (t6 x i)))⟩:=by
 simp only[k30,CP h,h,Hb hm,hm,Zag,true_and,Int.ofNat_le,ZcB]
abbrev Γ7:pI:=bu [(47,eS k30),(49,eS (k32 tu fa)),(48,eS k31),(46,yj pre29 fn29 3 1)]
def ok7:ay aj Γ7:=by
 refine ay.gS (ok32 (ay.gS (ay.Yp ay.nil ?_) ?_)) ?_
 ·rintro ts ⟨v,n,rfl,h1,h2⟩;have:=t29 v n h1 h2;simpa [fn29,aG]using this
 ·exact(ok5 48 (eS k31) rfl).st k31 rfl
 ·intro args ab h;unfold k30 at h⊢;split at h
  ·rename_i aI b i;obtain⟨hb,hm,h1,h2,h3⟩:=h;obtain⟨i,rfl⟩:=Zae h1;refine⟨λN hN=>?_,λr hr=>vq hm hr⟩;exact aR.of (t30 hN hb hm (by omega) h3) (by simp) (by simp)
  ·exact h.elim
def d12r8R:ai:=[
 a 2 5 36 [],
 l 36 37 [0],
 n 6 38,
 o (.bin .mul (i 2) (t 38)) 39 [2],
 n 3 40,
 n 6 41,
 n 4 42,
 o (.callR 48 [(t 40),(t 41),(t 42)]) 43 [4,5,6],
 m 43 35 [7],
 e 0 35 44 [8],
 e 1 35 45 [8],
 x 1 37 39 46 (k [1,3] 9),
 S 1 46 44 (k [11,9,7] 9)]
def k31_read{b m:Nat}{x:Input}{i j:Nat}(h:ab b=some (.box (df x m))):
  wD k31 [.ptr b 0,.v (ti i),.v (ti j)] ab=(i<=j/\j<=x.aw.length/\tj x.aw)/\
   (k31 [.ptr b 0,.v (ti i),.v (ti j)] (Bi ab [.ptr b 0,.v (ti i),.v (ti j)])).val=.v (.eo [ti (gV ((x.aw.take j).drop i) 0),.sl (ia (gz (j-i)))]):=by
 have hr:Bi ab [.ptr b 0,.v (ti i),.v (ti j)] b=some (.box (df x m)):=by simp[Bi,bM,aN,h]
 refine⟨?_,by rw[AN hr]⟩;unfold wD;apply propext;constructor
 ·intro H;have:=H ab (λ_ _=>rfl);rw[AN h]at this;exact this.1
 ·intro H o ho;have hb:o b=some (.box (df x m)):=by rw[ho b (by simp[bM,aN]),h]
  rw[AN hb,AN hr];exact⟨H,rfl,rfl⟩
def xR(x:Input)(y:Nat):List cw:=(List.range y).flatMap (t6 x)
def Wi(x:Input)(y:Nat):xR x (y+1)=xR x y++t6 x y:=by simp[xR,ZaR]
def gW(x:Input)(n y:Nat):List (aK):=(List.range n).map λs=>[ti (if s % 2=0/\s/2<y then og x (s/2) x.aw.length else 1099511627776)]
def Mw(x:Input){n y:Nat}(h:2*y<n):(gW x n y).set (2*y) [ti (og x y x.aw.length)]=gW x n (y+1):=by
 apply Zbw
 ·simp[gW]
 ·intro k h1 h2;rw[Zb1];simp only[gW,ZbQ,ZbS];split
  ·rename_i e;subst e;rw[Zai (by omega),show 2*y/2=y by omega]
  ·rename_i e;by_cases hk:k % 2=0/\k/2<y
   ·rw[Zai hk,Zai (by omega)]
   ·rw[Zab hk,Zab (by omega)]
def Mx(x:Input)(n y:Nat):(gW x n y).length=n:=by simp[gW]
def Jv(x:Input)(n:Nat):gW x n 0=List.replicate n [ti 1099511627776]:=by
 apply Zbw
 ·simp[gW]
 ·intro k h1 h2;simp[gW]
def vG(a b:bq)(σ:Nat->Nat)(cs iz:bB):nS a b σ (.box cs) (.box iz)=ij a b σ cs iz:=rfl
def vH(a b:bq)(σ:Nat->Nat)(v v' e e' sz iG:Nat)(av eN:List (aK)):nS a b σ (.dT v e sz av) (.dT v' e' iG eN)=(e=e'/\sz=iG/\av=eN):=rfl
def uN(a b:bq)(al:List cw):nS a b id (cL al) (cL al):=by
 simp only[cL,nS];exact⟨trivial,trivial,trivial,ph λe he=>by obtain⟨x,hx⟩:=ga al e he;rw[hx];simp⟩
def BT{e:Nat×T×DV}(h:e∈lc al):∃i,i<al.length/\e=(i,(al.getD i default).key,.v (.agg (al.getD i default).enc)):=by
 obtain⟨i,hi,rfl⟩:=ZaO h;rw[ld]at hi;refine⟨i,hi, ?_⟩;have:=gU al i;rw[Zas (by rw[ld];exact hi),Zas hi]at this;simp only[Za8,Zaa]at this;rw[this];simp[List.getD,hi]
def Jw{i:Nat}(h:i<al.length):(lc al).find? (λe=>e.1==i)=some (i,(al.getD i default).key,.v (.agg (al.getD i default).enc)):=by
 rw[ZcO];have hg:∀(j:Nat) (hj:j<(lc al).length),(lc al)[j]=(j,(al.getD j default).key,.v (.agg (al.getD j default).enc)):=by
  intro j hj;rw[ld]at hj;have:=gU al j;rw[Zas (by rw[ld];exact hj),Zas hj]at this;simp only[Za8,Zaa]at this;rw[this];simp[List.getD,hj]
 refine⟨by simp,i,by rw[ld];exact h,hg _ _,λj hj=>?_⟩;rw[hg];simp;omega
def AO:∀(n:Nat) {l:cO},l.Nodup->(∀i∈l,i<n)->l.length<=n
 |0,l,_,h=>by cases l with
  |nil=>simp
  |cons a l=>exact Zar (h a (by simp)) (by omega)
 |n+1,l,hn,h=>by
  by_cases hm:n∈l
  ·have h1:=List.length_erase_of_mem hm;have h2:=AO n (l:=l.erase n) (hn.erase n) (λi hi=>by
    have:=h i (List.mem_of_mem_erase hi);have bT:i≠n:=λe=>by subst e;exact(List.Nodup.not_mem_erase hn) hi
    omega)
   omega
  ·have:=AO n hn (λi hi=>by
    have:=h i hi;have bT:i≠n:=λe=>hm (e▸hi);omega)
   omega
def mU(a b:bq)(al:List cw):jF a b id (lc al) (lc al):=ph λe he=>by obtain⟨x,hx⟩:=ga al e he;rw[hx];simp
def Wj{α:Type}{f:α->aK}{l:List α}{y:Nat}{a:α}(h:y<l.length)(ha:l[y]=a):(l.take (y+1)).map f=(l.take y).map f++[f a]:=by
 rw[ZbO,Zas h,ha];simp
def lE(x:Input):List cw:=cI [] (xR x (x.aw.length+1))
def zT(x:Input):bO:=(List.range (2*x.aw.length+1)).map λs=>if s % 2=0 then og x (s/2) x.aw.length else 1099511627776
def nK(x:Input):aV:=⟨2*x.aw.length+1,km (lE x),zT x⟩
def My(x:Input):gW x (2*x.aw.length+1) (x.aw.length+1)=aG (zT x):=by
 simp only[gW,zT,aG,Zc4];apply Zbq;intro s hs;simp only[Za2]at hs;by_cases h:s % 2=0
 ·simp only[Function.comp_apply,h,if_true,true_and];rw[Zai (by omega)]
 ·simp[h]
@[simp] def isMap_mapOb(al:List cw):qW (some (cL al)):=by simp[qW,cL]
def t12(x:Input)(hx:OI x)(tV:(lE x).length<=qY)(fH:(lE x).length<=1000000000):bl aj 29 [x.enc] (nK x).enc:=by
 have aC:=ok7;have hl:=hx.1.1;refine c12.ok (by simp) (aO ?_);simp[Input.enc];apply aa.ch aC fw [1,2];simp[d12r0];apply aa.ch aC fw [1,2,3];simp[d12r1];apply aa.ch aC fw [2,3,4];simp[d12r2];obtain⟨n2,hn2⟩:=bb (2*x.aw.length+1);have w1:IntKind.i64.wrap (2*(x.aw.length:Int))=2*x.aw.length:=aF (by omega);have w2:IntKind.i64.wrap (2*(x.aw.length:Int)+1)=(n2:Int):=by rw[aF (by omega)];omega
 refine aa.jR aC fw (rs:=Pi) (.inr ⟨_,rfl⟩) (by kernel_rfl) [2,3,4,5] ?_;simp[Pi,w1,w2,pre29,fn29,fU];refine⟨⟨1099511627776,n2,⟨rfl,rfl⟩,by omega,by omega⟩, ?_⟩;obtain⟨n,hn⟩:=bb x.aw.length;rw[hn]at hn2 hl;apply aa.seq;have w3:IntKind.i64.wrap ((n:Int)+1)=((n+1:Nat):Int):=by rw[aF (by omega)];omega
 apply aa.ch aC fw [2,3,4,5,28,29];simp[d12r4,hn,w3];obtain⟨n1,Wk⟩:=bb (n+1);rw[show((n:Int)+1)=(n1:Int)by omega];refine aa.to ⟨DM.look [(2,.ptr 1003 0),(3,.ptr 1098 0),(5,.ptr 1255 0)],cM [(1003,.box [.v (ti 0),.aW,.aW]),(1098,.box (df x 1096)),(1096,cL (cI [] (xR x n1))),(1255,.box [.v (ti n2),.aW,.bA 1275 0]),(1275,.dT 0 3 1 (gW x n2 n1))],3000,1000,[]⟩ ?_ ?_
 ·apply aa.block;refine aa.loop (λy:Nat=>⟨DM.look [(2,.ptr 1003 0),(3,.ptr 1098 0),(4,.v (ti n)),(5,.ptr 1255 0),(28,.v (ti n1)),(29,.v (ti y))],cM [(1003,.box [.v (ti 0),.aW,.aW]),(1098,.box (df x 1096)),(1096,cL (cI [] (xR x y))),(1255,.box [.v (ti n2),.aW,.bA 1275 0]),(1275,.dT 0 3 1 (gW x n2 y))],3000,1000,[]⟩)
   (λy=>y<=n1) (λy=>n1-y) 0 (Le.bi ?_ ?_ ?_ ?_) (by simp) (λy hy=>?_)
  ·simp
  ·simp[]
  ·simp[df,cL,lc,xR,cI,Jv,pg,jF,qW]
  ·simp
  apply aa.ch aC fw [2,3,4,5,28,29,30];simp[d12r5];apply aa.seq;refine aa.cond rfl (λcR=>?_) (λcR=>?_)
  ·simp at cR;apply aa.skip;simp;apply aa.seq;apply aa.block;apply aa.ch aC fw [2,3,4,5,6,28,29];simp[d12r6];refine aa.jR aC fw (rs:=Pj) (.inr ⟨_,rfl⟩) (by kernel_rfl) [2,3,4,5,6,28,29] ?_;simp[Pj,k30_eq (x:=x) (m:=1096) (al:=cI [] (xR x y))];refine⟨⟨by omega,hx⟩, ?_⟩;obtain⟨al2,hal2⟩:=bb (cI (cI [] (xR x y)) (t6 x y));have hal2':cI [] (xR x (y+1))=al2:=by rw[Wi,ib,hal2]
   rw[hal2,ky];refine aa.le (Le.bi (o:=[(1003,.box [.v (ti 0),.aW,.aW]),(1098,.box (df x 1096)),(1096,cL al2),(1255,.box [.v (ti n2),.aW,.bA 1275 0]),(1275,.dT 0 3 1 (gW x n2 y))]) (l:=[(2,.ptr 1003 0),(3,.ptr 1098 0),(4,.v (ti n)),(5,.ptr 1255 0),(6,.v (ti y)),(28,.v (ti n1)),(29,.v (ti y))]) (ba:=4000) ?_ ?_ ?_ ?_) ?_
   ·simp
   ·simp
   ·simp[-nS,vG,vH,uN,df,pg]
   ·simp
   have Fq:y<=n:=by omega
   have w4:IntKind.i64.wrap (2*(y:Int))=((2*y:Nat):Int):=by rw[aF (by omega)];omega
   obtain⟨y2,fJ⟩:=bb (2*y);rw[fJ]at w4;have zW:y2<n2:=by omega
   have hdc:gV ((x.aw.take n).drop y) 0=og x y n:=rfl;have N7:DM.rowAt (gW x n2 y) (y2:Int)=[ti 1099511627776]:=by
    have e:(2*(y:Int)).toNat=y2:=by omega
    subst fJ;simp[DM.rowAt,gW,e,zW]
   have xK:=Mw x (n:=n2) (y:=y) (by omega);rw[fJ,hn]at xK;have hd:=hx.1;refine aa.pe aC fw (rs:=d12r8R) (.inr ⟨_,rfl⟩) (by kernel_rfl) [2,3,4,5,28,29] ?_;simp[d12r8R,k31_read (x:=x) (m:=1096),hn,w4,hd,Fq,Mx,zW,hdc,N7,xK];apply aa.fK aC fw [2,3,4,5,28,29];simp[d12r9];rw[aF (by omega)];refine⟨y+1,Le.bi ?_ ?_ ?_ ?_,by omega,by omega⟩
   ·simp
   ·simp
   ·simp[-nS,vG,vH,uN,df,pg,hal2']
   ·simp
  ·simp at cR;have:y=n1:=by omega
   subst this;refine aa.exit ⟨rfl,Le.bi ?_ ?_ ?_ ?_⟩
   ·simp
   ·simp
   ·simp[-nS,vG,vH,uN,df,pg]
   ·simp
 ·obtain⟨al,P1⟩:=bb (cI [] (xR x n1));obtain⟨fr,xK⟩:=bb (gW x n2 n1);rw[P1,xK];apply aa.ch aC fw [2,3,5,7];simp[d12r10];apply aa.seq;apply aa.ch aC fw [2,3,5,7,52];simp[d12r11,df,cL];refine aa.le (Le.vr (k:=7) 104 (sz:=3) (by omega) (by simp)) ?_;rw[ky];apply aa.block;refine aa.loop (λsn:cO=>⟨DM.look [(2,.ptr 1003 0),(3,.ptr 1098 0),(5,.ptr 1255 0),(7,.bA 3166 0),(52,.kc 3136)],cM [(1003,.box [.v (ti 0),.aW,.aW]),(1098,.box (df x 1096)),(1096,cL al),(1255,.box [.v (ti n2),.aW,.bA 1275 0]),(1275,.dT 0 3 1 fr),(3166,.dT 0 104 3 (sn.map λi=>cN (al.getD i default))),(3136,.kc 1096 al.length sn al.length)],4000,1000,[]⟩)
   (λsn=>sn.Nodup/\∀i∈sn,i<al.length) (λsn=>al.length-sn.length) [] (Le.bi ?_ ?_ ?_ ?_) (by simp) (λsn hs=>?_)
  ·simp
  ·simp
  ·simp[-nS,vG,vH,df,pg];simp[nS,cL,qW];exact ph λe he=>by obtain⟨x,hx⟩:=ga al e he;rw[hx];simp
  ·simp[Ys,DT]
  obtain⟨J4,hs2⟩:=hs;apply aa.seq;refine aa.next (r:=3136) (m:=1096) (s:=al.length) (l:=al.length) (c:=al.length) (sn:=sn) (cj:=mn) (agg:=true) (es:=lc al) (by simp) (by simp) (by simp[cL]) (λe he=>?_) (Zaf _) (λYg=>?_) (λe he bT=>?_)
  ·obtain⟨i,hi,rfl⟩:=BT he;exact hi
  ·simp;have hp:=Wl J4 hs2 λi hi=>Yg _ (Zax (by rw[gU,Zas hi];rfl:(lc al)[i]? =some (i,al[i].key,.v (.agg al[i].enc))));have hgood:∀r∈sn.map (λi=>cN (al.getD i default)),tu r:=by
    intro r hr;obtain⟨i,_,rfl⟩:=Zak.1 hr;exact⟨_,_,_,rfl⟩
   have dM:(sn.map (λi=>cN (al.getD i default))).length=al.length:=by rw[hp.length_eq];simp
   have yd:(al.map cN).Nodup:=by rw[<-P1];exact xS _ (by simp)
   have hso:kj (zR fa) (sn.map (λi=>cN (al.getD i default)))=kj (zR fa) (al.map cN):=Py hp (λr hr=>by
    obtain⟨a,_,rfl⟩:=Zak.1 hr;exact⟨_,_,_,rfl⟩) yd
   have hala:lE x=al:=by unfold lE;rw[hn,Wk,P1]
   rw[hala]at tV fH;rw[<-dM]at tV fH;obtain⟨av,eF⟩:=bb (sn.map (λi=>cN (al.getD i default)));have hrows':sn.map (λi=>cN (al[i]?.getD default))=av:=eF;rw[eF]at tV fH hgood hso dM;rw[hrows'];apply aa.seq;refine aa.cond rfl (λh=>by cases h) (λ_=>?_);apply aa.exit;simp;refine aa.jR aC fw (rs:=Jl) (.inr ⟨_,rfl⟩) (by kernel_rfl) [2,3,5,7] ?_;simp[Jl,k32,hso,tV,fH];refine⟨hgood, ?_⟩;obtain⟨ks,hks⟩:=bb (kj (zR fa) (al.map cN));have hksl:ks.length=al.length:=by rw[<-hks,xT];simp
   have hksm:∀r∈ks,∃a∈al,cN a=r:=by
    intro r hr;rw[<-hks,u6]at hr;obtain⟨a,ha,rfl⟩:=Zak.1 hr;exact⟨a,ha,rfl⟩
   rw[hks,ky];refine aa.le (Le.bi (o:=[(1003,.box [.v (ti 0),.aW,.aW]),(1098,.box (df x 1096)),(1096,cL al),(1255,.box [.v (ti n2),.aW,.bA 1275 0]),(1275,.dT 0 3 1 fr),(3166,.dT 0 104 3 ks)]) (l:=[(2,.ptr 1003 0),(3,.ptr 1098 0),(5,.ptr 1255 0),(7,.bA 3166 0)]) (ba:=4500) ?_ ?_ ?_ ?_) ?_
   ·simp
   ·simp
   ·simp[df,pg,qW,mU,cL]
   ·simp
   refine aa.le (Le.Cx 1255 1 108 (sz:=5) (cs:=[.v (ti n2),.aW,.bA 1275 0]) (by omega) (by simp) (by simp)) ?_;rw[ky,ky];apply aa.seq;apply aa.ch aC fw [2,3,5,63,64,65];simp[d12r15,hksl];refine aa.to ⟨DM.look [(2,.ptr 1003 0),(5,.ptr 1255 0)],cM [(1003,.box [.v (ti 0),.aW,.aW]),(1255,.box [.v (ti n2),.bA 4500 0,.bA 1275 0]),(1275,.dT 0 3 1 fr),(4500,.dT 0 108 5 (j7 (km al)))],6000,1000,[]⟩ ?_ ?_
   ·apply aa.block;refine aa.loop (λy:Nat=>⟨DM.look [(2,.ptr 1003 0),(3,.ptr 1098 0),(5,.ptr 1255 0),(63,.bA 3166 0),(64,.v (ti al.length)),(65,.v (ti y))],cM [(1003,.box [.v (ti 0),.aW,.aW]),(1098,.box (df x 1096)),(1096,cL al),(1255,.box [.v (ti n2),.bA 4500 0,.bA 1275 0]),(1275,.dT 0 3 1 fr),(3166,.dT 0 104 3 ks),(4500,.dT 0 108 5 (j7 ((ks.take y).map (qN al))))],6000,1000,[]⟩)
     (λy=>y<=al.length) (λy=>al.length-y) 0 (Le.bi ?_ ?_ ?_ ?_) (by simp) (λy hy=>?_)
    ·simp
    ·simp
    ·simp[df,pg,qW,mU,cL,j7]
    ·simp
    apply aa.ch aC fw [2,3,5,63,64,65,66];simp[d12r16];apply aa.seq;refine aa.cond rfl (λcR=>?_) (λcR=>?_)
    ·simp at cR;apply aa.skip;simp;apply aa.seq;apply aa.block;obtain⟨r,hr⟩:=bb (ks[y]'(by omega));obtain⟨a,ha,hak⟩:=hksm r (by rw[<-hr];exact Zbe _);have wp:DM.rowAt ks y=cN a:=by rw[hak,<-hr];simp[DM.rowAt,hksl,cR]
     obtain⟨l1,l2,i,l3⟩:=u5 ha;have htake:=Wj (f:=λr=>(qN al r).enc) (by omega) hr;obtain⟨c,hc⟩:=bb (qN al (cN a));rw[hc]at l3;rw[<-hak,hc]at htake;have htake':j7 (List.take (y+1) (List.map (qN al) ks))=j7 (List.take y (List.map (qN al) ks))++[[ti c.f,ti c.t,ti c.term,ti c.aH,.sl (ia c.ops)]]:=by
      have:=htake;simp only[j7,List.map_take,Zc4]at this⊢;exact this
     simp only[cw.key,keyOf]at l3;apply aa.ch aC fw [2,3,5,10,63,64,65];simp[d12r17,wp,hksl,cR,cN];apply aa.fK aC fw [2,3,5,63,64,65];simp[d12r18,df,cL,l3,cw.enc,dK,fU];refine⟨⟨by omega,by omega⟩, ?_⟩;apply aa.fK aC fw [2,3,5,63,64,65];simp[d12r19];rw[aF (by omega)];refine⟨y+1,Le.bi ?_ ?_ ?_ ?_,by omega,by omega⟩
     ·simp
     ·simp
     ·simp[pg,qW,mU,htake']
     ·simp
    ·simp at cR;have:y=al.length:=by omega
     subst this;refine aa.exit ⟨rfl,Le.bi ?_ ?_ ?_ ?_⟩
     ·simp
     ·simp
     ·simp[km,hks];rw[ZaX (by simp;omega)]
     ·simp
   ·apply aa.ch aC fw [2];simp[d12r20];apply aa.ret;have lr:fr=aG (zT x):=by rw[<-xK,<-Wk,<-hn2,<-hn];exact My x
    simp[d12res,nK,aV.enc,hala,lr,hn];omega
  ·obtain⟨i,hi,rfl⟩:=BT he;have hfind:=Jw hi;obtain⟨a,ha⟩:=bb (al.getD i default);rw[ha]at hfind;simp only at bT;simp;apply aa.seq;refine aa.cond rfl (λ_=>?_) (λh=>by cases h);apply aa.skip;simp;apply aa.block;apply aa.ch aC fw [2,3,5,7,8,52];simp[d12r12,cL,hfind,cw.key,keyOf];apply aa.fK aC fw [2,3,5,7,52];simp[d12r13,dK,fU];have dM:=AO al.length (l:=i::sn) (by simp[bT,J4]) (by simp;exact⟨hi,hs2⟩);simp at dM;have hala:lE x=al:=by unfold lE;rw[hn,Wk,P1]
   rw[hala]at fH;have ha':al[i]?.getD default=a:=ha;refine⟨⟨by omega,by omega⟩,sn++[i],Le.bi ?_ ?_ ?_ ?_,⟨?_, ?_⟩, ?_⟩
   ·simp
   ·simp
   ·simp[df,pg,qW,mU,ha',cN]
   ·simp[Ys,DT]
   ·rw[Zb7];exact⟨J4,by simp,by simp;intro q hq e;subst e;exact bT hq⟩
   ·intro j hj;rw[Zaq,Zan]at hj;rcases hj with h|h
    ·exact hs2 j h
    ·omega
   ·simp;omega
end
open Go.DM
def BU{a b:cw}{l:List cw}(h:b∈(sR a l).2):b∈l\/b=a:=by
 have key:∀(l:List cw) (p:Bool×List cw),b∈(l.foldl (gu a) p).2->b∈p.2\/b∈l\/b=a:=by
  intro l;induction l with
  |nil=>intro p h;exact .inl h
  |cons c l ih=>
   intro p h;rcases ih _ h with h|h|h
   ·unfold gu at h;split at h
    ·simp only[Zaq,Zan]at h;rcases h with h|h
     ·exact .inl h
     ·split at h
      ·exact .inr (.inr h)
      ·exact .inr (.inl (by simp[h]))
    ·split at h
     ·simp only[Zaq,Zan]at h;rcases h with(h|h)|h
      ·exact .inl h
      ·exact .inr (.inr h)
      ·exact .inr (.inl (by simp[h]))
     ·simp only[Zaq,Zan]at h;rcases h with h|h
      ·exact .inl h
      ·exact .inr (.inl (by simp[h]))
   ·exact .inr (.inl (by simp[h]))
   ·exact .inr (.inr h)
 rcases key l (false,[]) h with h|h|h
 ·simp at h
 ·exact .inl h
 ·exact .inr h
def mem_putL{a b:cw}{l:List cw}(h:b∈xQ l a):b∈l\/b=a:=by
 unfold xQ at h;split at h
 ·exact .inl h
 ·split at h
  ·exact BU h
  ·rw[Zaq,Zan]at h;rcases h with h|h
   ·exact BU h
   ·exact .inr h
def xd{b:cw}:∀(cs l:List cw),b∈kJ l cs->b∈l\/b∈cs
 |[],l,h=>.inl h
 |c::cs,l,h=>by
  rcases xd cs (xQ l c) h with h|h
  ·rcases mem_putL h with h|h
   ·exact .inl h
   ·exact .inr (by simp[h])
  ·exact .inr (by simp[h])
def gC{α:Type}{f:Nat->List α}{i m:Nat}{a:α}(h:a∈ft f i m):∃k,i<=k/\k<m/\a∈f k:=by
 unfold ft at h;obtain⟨e,he,ha⟩:=ZaV.1 h;rw[Za2]at he;exact⟨i+e,by omega,by omega,ha⟩
def arcGood(n:Nat)(a:cw):Prop:=0<=a.f/\a.f<(2*n+1:Nat)/\0<=a.t/\a.t<(2*n+1:Nat)/\a.ops.length<=1000000/\0<=a.aH
def Fw(n:Nat):(gz n).length=n:=by simp[gz]
def Jf{x:Input}(hx:OI x)(hn:x.aw.length<=60):∀a∈jo x,arcGood x.aw.length a:=by
 obtain⟨hd,oj,hins,hinp,hsw0,Nx⟩:=hx;have hdb:=g0 hd;intro a ha;unfold jo at ha;rcases xd _ _ ha with ha|ha
 ·rcases xd _ _ ha with ha|ha
  ·cases ha
  ·obtain⟨i,_,hi,ha⟩:=gC ha;unfold rI at ha;rcases Zaq.1 ha with ha|ha
   ·obtain⟨m,QD,NX,ha⟩:=gC ha;unfold rM at ha;rcases Zaq.1 ha with ha|ha
    ·obtain⟨t,_,ht,ha⟩:=gC ha;unfold rA at ha;split at ha
     ·rename_i hc;rw[Zan]at ha;subst ha;have:=yK (hdb i m).1 hc.2;refine⟨by simp only;omega,by simp only;omega,by simp only;omega,by simp only;omega,by simp[Fw];omega,this⟩
     ·cases ha
    ·unfold rS at ha;split at ha
     ·rename_i hc;have Xb:m+1<x.aw.length:=by simp[dc]at hc;exact hc.1
      rw[Zan]at ha;subst ha;have:=yK (hdb i m).1 hsw0;refine⟨by simp only;omega,by simp only;omega,by simp only;omega,by simp only;omega,by simp[Fw];omega,this⟩
     ·cases ha
   ·unfold rT at ha;split at ha
    ·rename_i hc;have Xb:i+1<x.aw.length:=by simp[dc]at hc;exact hc.1
     rw[Zan]at ha;subst ha;refine⟨by simp only;omega,by simp only;omega,by simp only;omega,by simp only;omega,by simp,by simp⟩
    ·cases ha
 ·obtain⟨i,_,hi,ha⟩:=gC ha;unfold iI at ha;obtain⟨m,QD,NX,ha⟩:=gC ha;unfold iM at ha;obtain⟨t,_,ht,ha⟩:=gC ha;unfold iT at ha;rw[Zan]at ha;subst ha;have:=yK (hdb i m).1 (hinp (x.insert.getD t default) (by simp[List.getD,ht])).1;refine⟨by simp only;omega,by simp only;omega,by simp only;omega,by simp only;omega,by simp[Fw];omega,this⟩
def OJ(x:Input)(k:Nat):(zU x k).length=2*x.aw.length+1:=by simp[zU]
def BL{x:Input}(ht:x.insert.length<=100)(hn:x.aw.length<=60):(jo x).length<=900000:=by
 unfold jo;have h1:=Fv (ft (iI x) 0 (x.aw.length+1)) (kJ [] (ft (rI x) 0 (x.aw.length+1)));have h2:=Fv (ft (rI x) 0 (x.aw.length+1)) [];have h3:=AR (f:=iI x) (B:=7000) (λk=>iI_len x k ht hn) 0 (x.aw.length+1);have h4:=AR (f:=rI x) (B:=7000) (λk=>rI_len x k ht hn) 0 (x.aw.length+1);simp at h2;omega
section
variable{al:List cw}
def gM{a b:cw}:aY a b=true↔a.f=b.f/\a.t=b.t/\a.term=b.term:=by simp[aY]
def HA(a:cw):aY a a=true:=by simp[aY]
def lA(a b:cw):aY a b=aY b a:=by
 simp only[aY,decide_eq_decide];omega
def rW{a b:cw}(h:aY a b=true)(k:cw):aY k a=aY k b:=by
 rw[gM]at h;simp only[aY,decide_eq_decide];omega
def before_irrefl(a:cw):¬im a a:=by unfold im;omega
def before_trans{a b c:cw}(h:im a b)(h2:im b c):im a c:=by unfold im at*;omega
def HB{a b:cw}(h:im a b):¬im b a:=by unfold im at*;omega
def C4{a b:cw}(h:im a b):aY a b=false:=by
 cases e:aY a b with
 |false=>rfl
 |true=>rw[gM]at e;unfold im at h;omega
def C5{a b:cw}(h1:aY a b=false)(h2:¬im a b):im b a:=by
 have:¬(a.f=b.f/\a.t=b.t/\a.term=b.term):=λe=>by rw[gM.2 e]at h1;cases h1
 unfold im at*;omega
def Kd{a b c:cw}(h:aY a b=true)(h2:im a c):im b c:=by
 rw[gM]at h;unfold im at*;omega
def tX(k:cw)(o:Option cw)(a:cw):Option cw:=
 if a.aH<1099511627776/\aY k a=true then
  match o with
  |none=>some a
  |some b=>if a.aH<b.aH then some a else some b
 else o
def NP(a:cw):List cw->List cw
 |[]=>[a]
 |b::l=>if aY a b=true then(if a.aH<b.aH then a else b)::l else b::NP a l
def addL_eq{a:cw}(h:a.aH<1099511627776)(al:List cw):wv al a=NP a al:=by
 unfold wv;rw[Zai h];induction al with
 |nil=>simp[NP]
 |cons b l ih=>
  rw[Zbh];unfold NP;cases e:aY a b with
  |true=>simp;split<;>rfl
  |false=>
   simp;rw[<-ih];cases hf:l.findIdx? (aY a)with
   |none=>simp
   |some i=>simp;split<;>rfl
def Gr(k a:cw):∀l:List cw,(NP a l).find? (aY k)=if aY k a=true then(match l.find? (aY k)with|none=>some a|some b=>if a.aH<b.aH then some a else some b)else l.find? (aY k)
 |[]=>by unfold NP;rw[Za6];cases aY k a<;>simp
 |b::l=>by
  unfold NP;split
  ·rename_i e;have h1:=rW e k;have h2:aY k (if a.aH<b.aH then a else b)=aY k b:=by split<;>simp[h1]
   rw[Za6,Za6,h2,h1];cases h3:aY k b with
   |true=>simp;split<;>rfl
   |false=>simp
  ·rename_i e;rw[Za6,Za6];cases h3:aY k b with
   |true=>
    have:aY k a=false:=by
     cases h4:aY k a with
     |false=>rfl
     |true=>
      exfalso;apply e;rw[gM]at h3 h4⊢;omega
    simp[this]
   |false=>simp only[];exact Gr k a l
def Ke(k:cw)(cs:List cw):∀al:List cw,(cI al cs).find? (aY k)=cs.foldl (tX k) (al.find? (aY k)):=by
 induction cs with
 |nil=>intro al;rfl
 |cons c cs ih=>
  intro al;show(cI (wv al c) cs).find? (aY k)=_;rw[ih,ZaN]
  congr 1
  by_cases hc:c.aH<1099511627776
  ·rw[addL_eq hc,Gr];unfold tX;simp[hc]
  ·unfold wv tX;rw[Zab hc,Zab (λe=>hc e.1)]
def xO(a:cw):List cw->List cw
 |[]=>[a]
 |b::l=>if aY b a=true then(if a.aH<b.aH then a else b)::l else if im a b then a::b::l else b::xO a l
def xP(a:cw)(l fX:List cw):l.foldl (gu a) (true,fX)=(true,fX++l):=by
 induction l generalizing fX with
 |nil=>simp
 |cons b l ih=>simp only[ZaN,gu];simp[ih]
def HC(a:cw)(p:Bool×List cw):List cw:=if p.1=true then p.2 else p.2++[a]
def Ba(a:cw):∀(l fX:List cw),HC a (l.foldl (gu a) (false,fX))=fX++xO a l
 |[],fX=>by simp[xO,HC]
 |b::l,fX=>by
  rw[ZaN];unfold xO;by_cases h1:aY b a=true
  ·have:gu a (false,fX) b=(true,fX++[if a.aH<b.aH then a else b]):=by simp[gu,h1]
   rw[this,xP];simp[h1,HC]
  ·by_cases h2:im a b
   ·have:gu a (false,fX) b=(true,fX++[a]++[b]):=by simp[gu,h1,h2]
    rw[this,xP];simp[h1,h2,HC]
   ·have:gu a (false,fX) b=(false,fX++[b]):=by simp[gu,h1,h2]
    rw[this,Ba a l];simp[h1,h2]
def Qp{a:cw}(h:a.aH<1099511627776)(l:List cw):xQ l a=xO a l:=by
 unfold xQ;rw[Zab (by omega)];have:=Ba a l [];simp only[ZaG]at this;exact this
def Kf{a c:cw}:∀{l:List cw},c∈xO a l->c=a\/c∈l
 |[],h=>by simp[xO]at h;exact .inl h
 |b::l,h=>by
  unfold xO at h;split at h
  ·rcases Zah.1 h with h|h
   ·split at h
    ·exact .inl h
    ·exact .inr (by simp[h])
   ·exact .inr (by simp[h])
  ·split at h
   ·rcases Zah.1 h with h|h
    ·exact .inl h
    ·exact .inr h
   ·rcases Zah.1 h with h|h
    ·exact .inr (by simp[h])
    ·rcases Kf h with h|h
     ·exact .inl h
     ·exact .inr (by simp[h])
def Bb{a:cw}:∀{l:List cw},l.Pairwise im->(xO a l).Pairwise im
 |[],_=>by simp[xO]
 |b::l,h=>by
  rw[Za0]at h;unfold xO;split
  ·rename_i e;rw[Za0];refine⟨λc hc=>?_,h.2⟩;split
   ·exact Kd e (h.1 c hc)
   ·exact h.1 c hc
  ·rename_i e;split
   ·rename_i e2;rw[Za0];refine⟨λc hc=>?_,Za0.2 h⟩;rcases Zah.1 hc with rfl|hc
    ·exact e2
    ·exact before_trans e2 (h.1 c hc)
   ·rename_i e2;rw[Za0];refine⟨λc hc=>?_,Bb h.2⟩;rcases Kf hc with rfl|hc
    ·exact C5 (by rw[lA];simpa using e) e2
    ·exact h.1 c hc
def Gs(k a:cw):∀l:List cw,l.Pairwise im->(xO a l).find? (aY k)=if aY k a=true then(match l.find? (aY k)with|none=>some a|some b=>if a.aH<b.aH then some a else some b)else l.find? (aY k)
 |[],_=>by unfold xO;rw[Za6];cases aY k a<;>simp
 |b::l,h=>by
  rw[Za0]at h;unfold xO;split
  ·rename_i e;rw[lA]at e;have h1:=rW e k;have h2:aY k (if a.aH<b.aH then a else b)=aY k b:=by split<;>simp[h1]
   rw[Za6,Za6,h2,h1];cases h3:aY k b with
   |true=>simp;split<;>rfl
   |false=>simp
  ·rename_i e;split
   ·rename_i e2;rw[Za6];cases h3:aY k a with
    |true=>
     have:(b::l).find? (aY k)=none:=by
      rw[ZcX];intro c hc hk;have hb:im a c:=by
       rcases Zah.1 hc with rfl|hc
       ·exact e2
       ·exact before_trans e2 (h.1 c hc)
      have:=C4 hb;rw[gM]at h3 hk;rw[gM.2 (by omega)]at this;cases this
     rw[this];rfl
    |false=>rfl
   ·rename_i e2;rw[Za6,Za6];cases h3:aY k b with
    |true=>
     have:aY k a=false:=by
      cases h4:aY k a with
      |false=>rfl
      |true=>
       exfalso;apply e;rw[gM]at h3 h4⊢;omega
     simp[this]
    |false=>simp only[];exact Gs k a l h.2
def Bc{l:List cw}(h:l.Pairwise im)(a:cw):(xQ l a).Pairwise im:=by
 by_cases hc:a.aH<1099511627776
 ·rw[Qp hc];exact Bb h
 ·unfold xQ;rw[Zai (by omega)];exact h
def vX(cs:List cw):∀{al:List cw},al.Pairwise im->(kJ al cs).Pairwise im:=by
 induction cs with
 |nil=>intro al h;exact h
 |cons c cs ih=>intro al h;exact ih (Bc h c)
def Bd(k:cw)(cs:List cw):∀{al:List cw},al.Pairwise im->(kJ al cs).find? (aY k)=cs.foldl (tX k) (al.find? (aY k)):=by
 induction cs with
 |nil=>intro al h;rfl
 |cons c cs ih=>
  intro al h;show(kJ (xQ al c) cs).find? (aY k)=_;rw[ih (Bc h c),ZaN]
  congr 1
  by_cases hc:c.aH<1099511627776
  ·rw[Qp hc,Gs k c al h];unfold tX;simp[hc]
  ·unfold xQ tX;rw[Zai (by omega),Zab (λe=>hc e.1)]
def qL:∀{l:List cw},l.Pairwise (λa b=>aY a b=false)->∀a,a∈l↔l.find? (aY a)=some a
 |[],_,a=>by simp
 |b::l,h,a=>by
  rw[Za0]at h;rw[Za6,Zah];cases e:aY a b with
  |true=>
   simp only[Zaa];constructor
   ·rintro(h2|h2)
    ·exact h2.symm
    ·have:=h.1 a h2;rw[lA,e]at this;cases this
   ·exact λh2=>.inl h2.symm
  |false=>
   rw[<-qL h.2 a];constructor
   ·rintro(h2|h2)
    ·subst h2;rw[HA]at e;cases e
    ·exact h2
   ·exact .inr
def C6:∀{l1 l2:List cw},l1.Pairwise im->l2.Pairwise im->(∀a,a∈l1↔a∈l2)->l1=l2
 |[],[],_,_,_=>rfl
 |[],b::t,_,_,h=>Zar ((h b).2 (by simp)) (by simp)
 |a::t,[],_,_,h=>Zar ((h a).1 (by simp)) (by simp)
 |a::t1,b::t2,h1,h2,h=>by
  rw[Za0]at h1 h2;have e:a=b:=by
   have ha:=(h a).1 (by simp);have hb:=(h b).2 (by simp);rcases Zah.1 ha with ha|ha
   ·exact ha
   ·rcases Zah.1 hb with hb|hb
    ·exact hb.symm
    ·exact Zar (h1.1 b hb) (HB (h2.1 a ha))
  subst e
  congr 1
  refine C6 h1.2 h2.2 λx=>?_;constructor
  ·intro hx;rcases Zah.1 ((h x).1 (by simp[hx]))with e|e
   ·subst e;exact Zar (h1.1 x hx) (before_irrefl x)
   ·exact e
  ·intro hx;rcases Zah.1 ((h x).2 (by simp[hx]))with e|e
   ·subst e;exact Zar (h2.1 x hx) (before_irrefl x)
   ·exact e
def Be{l:List cw}(h:l.Pairwise im):l.Pairwise (λa b=>aY a b=false):=h.imp C4
def ww{l:List cw}(h:(l.map cN).Nodup):l.Pairwise (λa b=>aY a b=false):=by
 unfold List.Nodup at h;rw[ZcD]at h;refine h.imp λ{a b} hab=>?_;cases e:aY a b with
 |false=>rfl
 |true=>exact Zar (rX.2 e) hab
def Gt{α:Type}(lt:α->α->Bool)(x:α):∀l:List α,(qM lt x l).Perm (x::l)
 |[]=>Zdc _
 |y::ys=>by
  simp only[qM];split
  ·exact((Gt lt x ys).cons y).trans (List.Perm.swap x y ys)
  ·exact Zdc _
def Kg{α:Type}(lt:α->α->Bool)(l:List α):(kj lt l).Perm l:=by
 have key:∀(l fX:List α),(l.foldl (λfX x=>qM lt x fX) fX).Perm (l++fX):=by
  intro l;induction l with
  |nil=>intro fX;exact Zdc _
  |cons x l ih=>
   intro fX;rw[ZaN];refine(ih _).trans ?_;refine((Gt lt x fX).append_left l).trans ?_;exact List.perm_middle
 unfold kj C7;refine(List.reverse_perm _).trans ?_;simpa using key l []
def wA(h:(al.map cN).Nodup){a:cw}(ha:a∈al):qN al (cN a)=a:=by
 have h1:=(u5 ha).1;have h2:=(u5 ha).2.1;have h3:=(qL (ww h) a).1 ha;have h4:=(qL (ww h) _).1 h2;have e:aY (qN al (cN a))=aY a:=by
  funext b;rw[lA _ b,lA _ b];exact(rW h1 b).symm
 rw[e,h3]at h4;exact(ZbU h4).symm
def HD(h:(al.map cN).Nodup)(a:cw):a∈km al↔a∈al:=by
 unfold km;rw[Zak];constructor
 ·rintro⟨r,hr,rfl⟩;rw[u6]at hr;obtain⟨b,hb,rfl⟩:=Zak.1 hr;exact(u5 hb).2.1
 ·intro ha;exact⟨cN a,by rw[u6];exact Zak.2 ⟨a,ha,rfl⟩,wA h ha⟩
def B3(h:(al.map cN).Nodup):(km al).Pairwise im:=by
 unfold km;rw[ZcD];have h1:(kj (zR fa) (al.map cN)).Nodup:=(Kg _ _).symm.nodup h;have h2:=rY Kh (al.map cN);unfold wB at h2;unfold List.Nodup at h1;refine(h1.and h2).imp_of_mem λ{r s} hr hs mt=>?_;rw[u6]at hr hs;obtain⟨a,ha,rfl⟩:=Zak.1 hr;obtain⟨b,hb,rfl⟩:=Zak.1 hs;rw[wA h ha,wA h hb];have h3:aY a b=false:=by
  cases e:aY a b with
  |false=>rfl
  |true=>exact Zar (rX.2 e) mt.1
 by_cases fH:im a b
 ·exact fH
 ·exfalso;have h4:=C5 h3 fH;have h5:=mt.2;rw[u7]at h5;apply h5;simp only[cN,ko,dH,lt3,List.getD_cons_zero,Zcu];exact h4
end
section
variable{aH:Int}{ops:List (Int×Int)}
def pK(k a:cw):Bool:=aY k a&&decide (a.aH<1099511627776)
def Bf(k:cw)(cs:List cw):∀o,cs.foldl (tX k) o=(cs.filter (pK k)).foldl (tX k) o:=by
 induction cs with
 |nil=>intro o;rfl
 |cons c cs ih=>
  intro o;rw[ZaN,Za4,ih];split
  ·rfl
  ·rename_i h
   congr 1
   unfold tX;rw[Zab];rintro⟨h1,h2⟩;apply h;simp[pK,h1,h2]
def tY{α β:Type}(p:β->Bool)(f:α->List β)(l:List α):(l.flatMap f).filter p=l.flatMap λa=>(f a).filter p:=by
 induction l with
 |nil=>rfl
 |cons a l ih=>simp[Zbt,List.filter_append,ih]
def mu{p:cw->Bool}{f:Nat->List cw}{i:Nat}(k0:Nat)(h:∀k,k≠k0->(f k).filter p=[]):∀m,(ft f i m).filter p=if i<=k0/\k0<m then(f k0).filter p else []:=by
 intro m;by_cases him:m<=i
 ·rw[show ft f i m=[]by unfold ft;rw[show m-i=0 by omega];rfl,Zab (by omega)];rfl
 obtain⟨d,rfl⟩:∃d,m=i+d:=⟨m-i,by omega⟩;clear him;induction d with
 |zero=>rw[ZbV,ft_nil,Zab (by omega)];rfl
 |succ d ih=>
  rw[<-Nat.add_assoc,ft_succ f (by omega),List.filter_append,ih];by_cases e:i+d=k0
  ·rw[Zab (by omega),Zai (by omega),e];rfl
  ·rw[h _ e];by_cases e2:i<=k0/\k0<i+d
   ·rw[Zai e2,Zai (by omega)];simp
   ·rw[Zab e2,Zab (by omega)];rfl
def dQ{p:cw->Bool}{l:List cw}(h:∀a∈l,p a=false):l.filter p=[]:=by
 rw[List.filter_eq_nil_iff];intro a ha;simp[h a ha]
def lD{k a:cw}(h:¬(k.f=a.f/\k.t=a.t/\k.term=a.term)):pK k a=false:=by
 have:aY k a=false:=by
  cases e:aY k a with
  |false=>rfl
  |true=>exact Zar (gM.1 e) h
 simp[pK,this]
def NQ{k:cw}{f t x c d:Int}{o:List (Int×Int)}(hc:0<=c)(hd:0<=d):[(⟨f,t,x,c+d,o⟩:cw)].filter (pK k)=[(⟨f,t,x,zS c d,o⟩:cw)].filter (pK k):=by
 by_cases h:c+d<1099511627776
 ·have:zS c d=c+d:=by unfold zS;rw[Zab (by omega)]
  rw[this]
 ·have:zS c d=1099511627776:=by unfold zS;rw[Zai (by omega)]
  rw[this];have h1:pK k ⟨f,t,x,c+d,o⟩=false:=by simp[pK,h]
  have h2:pK k ⟨f,t,x,1099511627776,o⟩=false:=by simp[pK]
  simp[h1,h2]
def Gu{read:bO}{i m:Int}{n:Nat}{a:cw}(h:a∈mf read i m aH ops n):∃t:Nat,t<n/\0<=read.getD t 0/\a=⟨2*i,2*m+2,t,aH+read.getD t 0,ops++[(1,(t:Int))]⟩:=by
 unfold mf at h;rw[ZaV]at h;obtain⟨t,ht,h⟩:=h;rw[Za2]at ht;split at h
 ·rw[Zan]at h;exact⟨t,ht,by assumption,h⟩
 ·simp at h
def Xt{b7:bO}{i m:Int}{n:Nat}{a:cw}(h:a∈tZ b7 i m aH ops n):∃t:Nat,t<n/\a=⟨2*i,2*m,(t:Int),aH+b7.getD t 0,ops++[(3,(t:Int))]⟩:=by
 unfold tZ at h;rw[Zak]at h;obtain⟨t,ht,h⟩:=h;rw[Za2]at ht;exact⟨t,ht,h.symm⟩
def C8(x:Input)(i m:Nat):List cw:=if dc x m then [⟨2*i,2*m+1,(x.aw.getD (m+1) default).kind,og x i m+x.swap,gz (m-i)++[(4,0)]⟩]else []
def Gv{x:Input}{i m:Nat}{a:cw}(h:a∈C8 x i m):dc x m=true/\a=⟨2*i,2*m+1,(x.aw.getD (m+1) default).kind,og x i m+x.swap,gz (m-i)++[(4,0)]⟩:=by
 unfold C8 at h;split at h
 ·exact⟨by assumption,by simpa using h⟩
 ·simp at h
def Xu{x:Input}{i m:Nat}{a:cw}(h:a∈rS x i m):dc x m=true/\a.f=2*i/\a.t=2*m+1:=by
 unfold rS at h;split at h
 ·simp at h;subst h;exact⟨by assumption,rfl,rfl⟩
 ·simp at h
def HE{x:Input}{i:Nat}{a:cw}(h:a∈rT x i):dc x i=true/\a=⟨2*i+1,2*i+4,(x.aw.getD i default).kind,0,[]⟩:=by
 unfold rT at h;split at h
 ·exact⟨by assumption,by simpa using h⟩
 ·simp at h
def NR{x:Input}{i m t:Nat}{a:cw}(h:a∈rA x i m t):m<x.aw.length/\a.f=2*i/\a.t=2*m+2/\a.term=t:=by
 unfold rA at h;split at h
 ·rename_i h2;simp at h;subst h;exact⟨h2.1,rfl,rfl,rfl⟩
 ·simp at h
def mem_iT{x:Input}{i m t:Nat}{a:cw}(h:a∈iT x i m t):a.f=2*i/\a.t=2*m/\a.term=t:=by
 simp[iT]at h;subst h;exact⟨rfl,rfl,rfl⟩
def Ki(x:Input)(i:Nat):t6 x i=ft (th x i) i (x.aw.length+1)++rT x i:=rfl
def Vf{x:Input}{i m:Nat}{a:cw}(h:a∈th x i m):(i<m/\a∈Bg x i (m-1))\/a∈tZ x.insert i m (og x i m) (gz (m-i)) x.insert.length\/a∈C8 x i m:=by
 unfold th at h;rw[Zaq,Zaq]at h;rcases h with h|h|h
 ·split at h
  ·exact .inl ⟨by assumption,h⟩
  ·simp at h
 ·exact .inr (.inl h)
 ·exact .inr (.inr h)
def HF{x:Input}{i m:Nat}{a:cw}(h:a∈th x i m):a.f=2*i/\(a.t=2*m\/a.t=2*m+1):=by
 rcases Vf h with⟨h1,h⟩|h|h
 ·obtain⟨t,_,_,rfl⟩:=Gu h;exact⟨rfl,.inl (by simp only;omega)⟩
 ·obtain⟨t,_,rfl⟩:=Xt h;exact⟨rfl,.inl rfl⟩
 ·obtain⟨_,rfl⟩:=Gv h;exact⟨rfl,.inr rfl⟩
def fromL_f{x:Input}{i:Nat}{a:cw}(h:a∈t6 x i):a.f=2*i\/a.f=2*i+1:=by
 rw[Ki,Zaq]at h;rcases h with h|h
 ·obtain⟨m,_,_,h⟩:=gC h;exact .inl (HF h).1
 ·obtain⟨_,rfl⟩:=HE h;exact .inr rfl
def rM_f{x:Input}{i m:Nat}{a:cw}(h:a∈rM x i m):a.f=2*i/\(a.t=2*m+2/\m<x.aw.length\/a.t=2*m+1):=by
 unfold rM at h;rw[Zaq]at h;rcases h with h|h
 ·obtain⟨t,_,_,h⟩:=gC h;have:=NR h;exact⟨this.2.1,.inl ⟨this.2.2.1,this.1⟩⟩
 ·have:=Xu h;exact⟨this.2.1,.inr this.2.2⟩
def rI_f{x:Input}{i:Nat}{a:cw}(h:a∈rI x i):a.f=2*i\/a.f=2*i+1:=by
 unfold rI at h;rw[Zaq]at h;rcases h with h|h
 ·obtain⟨m,_,_,h⟩:=gC h;exact .inl (rM_f h).1
 ·obtain⟨_,rfl⟩:=HE h;exact .inr rfl
def iM_f{x:Input}{i m:Nat}{a:cw}(h:a∈iM x i m):a.f=2*i/\a.t=2*m:=by
 unfold iM at h;obtain⟨t,_,_,h⟩:=gC h;have:=mem_iT h;exact⟨this.1,this.2.1⟩
def iI_f{x:Input}{i:Nat}{a:cw}(h:a∈iI x i):a.f=2*i:=by
 unfold iI at h;obtain⟨m,_,_,h⟩:=gC h;exact(iM_f h).1
def nnX(x:Input):Prop:=(∀p∈x.insert,0<=p)/\0<=x.swap
def Kj{x:Input}(hn:nnX x)(hd:tj x.aw)(k:cw)(i m:Nat):(C8 x i m).filter (pK k)=(rS x i m).filter (pK k):=by
 unfold C8 rS;split
 ·exact NQ (g0 hd i m).1 hn.2
 ·rfl
def Kk{x:Input}(hd:tj x.aw)(hr:∀c∈x.aw,c.read.length=x.insert.length)(k:cw){i m:Nat}(hm:m<x.aw.length):(Bg x i m).filter (pK k)=(ft (rA x i m) 0 x.insert.length).filter (pK k):=by
 have hc:(x.aw.getD m default).read.length=x.insert.length:=hr _ (by simp[List.getD,hm]);unfold Bg mf ft;rw[hc,tY,tY,Zcb]
 congr 1
 funext t;rw[Zbi];unfold rA NS;have hcol:(default:Int)=0:=rfl;rw[hcol];by_cases h:0<=(x.aw.getD m default).read.getD t 0
 ·rw[Zai h,Zai ⟨hm,h⟩];exact NQ (g0 hd i m).1 h
 ·rw[Zab h,Zab (λe=>h e.2)]
def C9{x:Input}(hn:nnX x)(hd:tj x.aw)(k:cw)(i m:Nat):(tZ x.insert i m (og x i m) (gz (m-i)) x.insert.length).filter (pK k)=(iM x i m).filter (pK k):=by
 unfold tZ iM ft;rw[tY,Zcb];have:∀l:cO,(∀t∈l,t<x.insert.length)->(l.map λ(t:Nat)=>(⟨2*i,2*m,(t:Int),og x i m+x.insert.getD t 0,gz (m-i)++[(3,(t:Int))]⟩:cw)).filter (pK k)=l.flatMap λt=>(iT x i m (0+t)).filter (pK k):=by
  intro l;induction l with
  |nil=>intro _;rfl
  |cons t l ih=>
   intro ht;rw[ZaA,Zbt,<-ih λt h=>ht t (by simp[h])];have e:iT x i m (0+t)=[⟨2*i,2*m,t,zS (og x i m) (x.insert.getD t default),gz (m-i)++[(3,(t:Int))]⟩]:=by rw[Zbi];rfl
   have HG:=ht t (by simp);have hp:0<=x.insert.getD t 0:=hn.1 _ (by simp[List.getD,HG]);rw[e,<-List.singleton_append (l:=List.map _ l),List.filter_append]
   congr 1
   exact NQ (g0 hd i m).1 hp
 exact this _ λt ht=>Za2.1 ht
def NT{x:Input}(hn:nnX x)(hd:tj x.aw)(hr:∀c∈x.aw,c.read.length=x.insert.length)(k:cw):
  (xR x (x.aw.length+1)).filter (pK k)=(ft (rI x) 0 (x.aw.length+1)++ft (iI x) 0 (x.aw.length+1)).filter (pK k):=by
 have e1:xR x (x.aw.length+1)=ft (t6 x) 0 (x.aw.length+1):=by simp[xR,ft]
 obtain⟨n,hN⟩:=bb x.aw.length;rw[e1,List.filter_append];have out:∀(f:Nat->List cw),(∀i,∀a∈f i,a.f=2*i\/a.f=2*i+1)->∀j,j≠(k.f/2).toNat->(f j).filter (pK k)=[]:=by
  intro f hf j hj;refine dQ λa ha=>lD λe=>hj ?_;have:=hf j a ha;omega
 rw[mu _ (out _ λi a=>fromL_f),mu _ (out _ λi a=>rI_f),mu _ (out _ λi a h=>.inl (iI_f h))];obtain⟨i,hi⟩:=bb ((k.f/2).toNat);rw[hi];by_cases ic:0<=i/\i<x.aw.length+1
 case neg=>rw[Zab ic,Zab ic,Zab ic];rfl
 rw[Zai ic,Zai ic,Zai ic];rw[Ki];unfold rI iI;rw[List.filter_append,List.filter_append];by_cases hodd:k.f=2*i
 case neg=>
  have h1:(ft (th x i) i (x.aw.length+1)).filter (pK k)=[]:=dQ λa ha=>lD λe=>by
   obtain⟨m,_,_,h⟩:=gC ha;have:=(HF h).1;omega
  have h2:(ft (rM x i) i (x.aw.length+1)).filter (pK k)=[]:=dQ λa ha=>lD λe=>by
   obtain⟨m,_,_,h⟩:=gC ha;have:=(rM_f h).1;omega
  have h3:(ft (iM x i) i (x.aw.length+1)).filter (pK k)=[]:=dQ λa ha=>lD λe=>by
   obtain⟨m,_,_,h⟩:=gC ha;have:=(iM_f h).1;omega
  rw[h1,h2,h3];simp
 have hT:(rT x i).filter (pK k)=[]:=dQ λa ha=>lD λe=>by
  obtain⟨_,rfl⟩:=HE ha;simp only at e;omega
 rw[hT,ZaC,ZaC];have outC:∀m,m≠(k.t/2).toNat->(th x i m).filter (pK k)=[]:=λm hm=>dQ λa ha=>lD λe=>by
  have:=(HF ha).2;omega
 have outI:∀m,m≠(k.t/2).toNat->(iM x i m).filter (pK k)=[]:=λm hm=>dQ λa ha=>lD λe=>by
  have:=(iM_f ha).2;omega
 rw[mu _ outC,mu _ outI];obtain⟨m,hm⟩:=bb ((k.t/2).toNat);rw[hm]at outC outI⊢;have hcand:(th x i m).filter (pK k)=(if i<m then Bg x i (m-1)else []).filter (pK k)++((tZ x.insert i m (og x i m) (gz (m-i)) x.insert.length).filter (pK k)++(C8 x i m).filter (pK k)):=by
  rw[<-List.filter_append,<-List.filter_append];rfl
 by_cases hev:k.t=2*m
 ·
  have Nx:(C8 x i m).filter (pK k)=[]:=dQ λa ha=>lD λe=>by
   obtain⟨_,rfl⟩:=Gv ha;simp only at e;omega
  have outR:∀j,j≠(if m=0 then n+1 else m-1)->(rM x i j).filter (pK k)=[]:=λj hj=>dQ λa ha=>lD λe=>by
   have:=(rM_f ha).2;split at hj<;>omega
  rw[mu _ outR,hcand,Nx,ZaC,C9 hn hd k i m];by_cases hm0:m=0
  ·rw[Zai hm0];have h5:¬(i<=n+1/\n+1<x.aw.length+1):=by omega
   have h6:¬i<m:=by omega
   rw[Zab h5,Zab h6];simp
  ·rw[Zab hm0];obtain⟨q,rfl⟩:∃q,m=q+1:=⟨m-1,by omega⟩;rw[Zcz];have hrM:(rM x i q).filter (pK k)=(ft (rA x i q) 0 x.insert.length).filter (pK k):=by
    have:(rS x i q).filter (pK k)=[]:=dQ λa ha=>lD λe=>by
     have:=(Xu ha).2.2;omega
    unfold rM;rw[List.filter_append,this,ZaC]
   by_cases hq:q<x.aw.length
   ·by_cases hiq:i<q+1
    ·rw[Zai hiq,Zai ⟨by omega,by omega⟩,Zai ⟨by omega,by omega⟩,hrM,Kk hd hr k hq];rw[Zai ⟨by omega,by omega⟩]
    ·rw[Zab hiq];by_cases hiq2:i=q+1
     ·rw[Zai ⟨by omega,by omega⟩,Zab (by omega),Zai ⟨by omega,by omega⟩];simp
     ·rw[Zab (by omega),Zab (by omega),Zab (by omega)];simp
   ·have hz:(rM x i q).filter (pK k)=[]:=by
     rw[hrM];refine dQ λa ha=>?_;obtain⟨t,_,_,h⟩:=gC ha;exact Zar (NR h).1 hq
    rw[hz,Zab (by omega)];have h5:¬(i<=q+1/\q+1<x.aw.length+1):=by omega
    rw[Zab h5];simp
 ·
  have outR:∀j,j≠m->(rM x i j).filter (pK k)=[]:=λj hj=>dQ λa ha=>lD λe=>by
   have:=(rM_f ha).2;omega
  rw[mu _ outR];have h1:(iM x i m).filter (pK k)=[]:=dQ λa ha=>lD λe=>by
   have:=(iM_f ha).2;omega
  have h2:(tZ x.insert i m (og x i m) (gz (m-i)) x.insert.length).filter (pK k)=[]:=by rw[C9 hn hd,h1]
  have h3:(if i<m then Bg x i (m-1)else []).filter (pK k)=[]:=dQ λa ha=>lD λe=>by
   split at ha
   ·obtain⟨t,_,_,rfl⟩:=Gu ha;simp only at e;omega
   ·simp at ha
  have h4:(rM x i m).filter (pK k)=(rS x i m).filter (pK k):=by
   have:(ft (rA x i m) 0 x.insert.length).filter (pK k)=[]:=dQ λa ha=>lD λe=>by
    obtain⟨t,_,_,h⟩:=gC ha;have:=(NR h).2.2.1;omega
   unfold rM;rw[List.filter_append,this,ZaG]
  rw[hcand,h1,h2,h3,h4,Kj hn hd];simp
def qt(x:Input):((lE x).map cN).Nodup:=xS _ (by simp)
def lF(x:Input):(jo x).Pairwise im:=vX _ (vX _ List.Pairwise.nil)
def Gw{x:Input}(hn:nnX x)(hd:tj x.aw)(hr:∀c∈x.aw,c.read.length=x.insert.length):km (lE x)=jo x:=by
 refine C6 (B3 (qt x)) (lF x) λa=>?_;rw[HD (qt x),qL (ww (qt x)),qL (Be (lF x))];unfold lE jo;rw[Ke,<-vY,Bd _ _ List.Pairwise.nil,Bf,NT hn hd hr,<-Bf]
def Xv(x:Input):zT x=zU x (2*x.aw.length+1):=by
 unfold zT zU;apply Zbq;intro s hs;rw[Za2]at hs;rw[Zai hs]
def NU{x:Input}(hn:nnX x)(hd:tj x.aw)(hr:∀c∈x.aw,c.read.length=x.insert.length):nK x=ci x:=by
 unfold nK ci;rw[Gw hn hd hr,Xv]
end
def Xw(k:cw)(cs:List cw):∀o a,cs.foldl (tX k) o=some a->o=some a\/(a∈cs/\a.aH<1099511627776):=by
 induction cs with
 |nil=>intro o a h;exact .inl h
 |cons c cs ih=>
  intro o a h;rw[ZaN]at h;rcases ih _ _ h with h|⟨h1,h2⟩
  ·unfold tX at h;split at h
   ·rename_i hc;split at h
    ·simp only[Zaa]at h;subst h;exact .inr ⟨by simp,hc.1⟩
    ·split at h
     ·simp only[Zaa]at h;subst h;exact .inr ⟨by simp,hc.1⟩
     ·exact .inl h
   ·exact .inl h
  ·exact .inr ⟨by simp[h1],h2⟩
def Bh{x:Input}{a:cw}(h:a∈jo x):(a∈ft (rI x) 0 (x.aw.length+1)\/a∈ft (iI x) 0 (x.aw.length+1))/\a.aH<1099511627776:=by
 have h1:=(qL (Be (lF x)) a).1 h;unfold jo at h1;rw[<-vY,Bd _ _ List.Pairwise.nil]at h1;rcases Xw _ _ _ _ h1 with h2|⟨h2,h3⟩
 ·cases h2
 ·exact⟨Zaq.1 h2,h3⟩
def Xx{a b:Int}(ha:0<=a)(hb:1<=b):1<=zS a b:=by unfold zS;split<;>omega
def HH(al:List cw):(km al).length=al.length:=by simp[km,xT]
section
variable{α:Type}{ts:aK}
def intTy:Ty:=.int .i64
def Wm:maxLen=9223372036854775807:=by decide
def rows_of{enc:α->aK}{av:List (aK)}(h:∀r∈av,∃x,r=enc x):∃l:List α,av=l.map enc:=by
 induction av with
 |nil=>exact⟨[],rfl⟩
 |cons r av ih=>
  obtain⟨x,rfl⟩:=h r (Zbl ..);obtain⟨l,rfl⟩:=ih λr hr=>h r (Zbg _ hr);exact⟨x::l,rfl⟩
def lT(h:Ty.pO (.int .i64) ts):∃x,ts=[ti x]:=by
 simp only[Ty.pO]at h;obtain⟨x,rfl,_⟩:=h;exact⟨x,rfl⟩
def zg{enc:α->aK}{e:Ty}(he:∀r,Ty.pO e r->∃x,r=enc x)(h:Ty.pO (.slice e) ts):∃l:List α,ts=[.sl (l.map enc)]/\l.length<=9223372036854775807:=by
 simp only[Ty.pO]at h;obtain⟨av,rfl,hl,hr⟩:=h;obtain⟨l,rfl⟩:=rows_of λr gD=>he r (hr r gD);rw[Wm,Zbn]at hl;exact⟨l,rfl,hl⟩
def all_cons{t:Ty}{vQ:List Ty}(h:Ty.kL (t::vQ) ts):∃a b,ts=a++b/\t.pO a/\Ty.kL vQ b:=by simpa only[Ty.kL]using h
def CR(h:Ty.kL [] ts):ts=[]:=by simpa only[Ty.kL]using h
def seq_of{fs:List Ty}(h:Ty.pO (.seq fs) ts):Ty.kL fs ts:=by simpa only[Ty.pO]using h
def colTy:Ty:=.seq [.int .i64,.slice intTy,.int .i64]
def Jz:Ty:=.seq [.slice colTy,.slice intTy,.int .i64]
def col_of(h:colTy.pO ts):∃r:cK,ts=r.enc:=by
 obtain⟨_,_,rfl,h1,h⟩:=all_cons (seq_of h);obtain⟨_,_,rfl,h2,h⟩:=all_cons h;obtain⟨_,_,rfl,h3,h⟩:=all_cons h;obtain rfl:=CR h;obtain⟨a,rfl⟩:=lT h1;obtain⟨l,rfl,hl⟩:=zg (λr=>lT) h2;obtain⟨c,rfl⟩:=lT h3;exact⟨⟨a,l,c⟩,rfl⟩
def input_of{x:T}(h:Jz.arg x):∃l:Input,x=l.enc/\l.aw.length<=9223372036854775807/\l.insert.length<=9223372036854775807:=by
 unfold Jz Ty.arg at h;obtain⟨ts,rfl,h⟩:=h;obtain⟨_,_,rfl,h1,h⟩:=all_cons h;obtain⟨_,_,rfl,h2,h⟩:=all_cons h;obtain⟨_,_,rfl,h3,h⟩:=all_cons h;obtain rfl:=CR h;obtain⟨l,rfl,hl⟩:=zg (λr=>col_of) h1;obtain⟨f,rfl,hf⟩:=zg (λr=>lT) h2;obtain⟨a,rfl⟩:=lT h3;exact⟨⟨l,f,a⟩,rfl,hl,hf⟩
end
def u8_of{x:T}(h:(Ty.int .u8).arg x):∃n:Int,x=.int .u8 n/\0<=n/\n<=255:=by
 unfold Ty.arg Ty.pO at h;obtain⟨n,hx,hw⟩:=h;simp only[Za1,and_true]at hx;simp only[Lit.wf,Zam,Zau]at hw;have e1:IntKind.u8.min=0:=by decide
 have e2:IntKind.u8.max=255:=by decide
 rw[e1,e2]at hw;exact⟨n,hx,hw.1,hw.2⟩
namespace cC
section
variable{α:Type}
structure di where
 (kind head a b cq origin:Int)
 deriving DecidableEq,Inhabited
abbrev Cf:=List di
structure aD where
 (aL an start:Int)
 au:Cf
structure c8 where
 (aH size:Int)
 deriving DecidableEq,Inhabited
abbrev bR:=List c8
structure Cell where
 (aH size qE arg:Int)
 deriving DecidableEq,Inhabited
abbrev eV:=List Cell
structure d6 where
 (an bn:Int)
 cells:eV
abbrev Cell.val(c:Cell):c8:=⟨c.aH,c.size⟩
def cF:ay aj (bu []):=ay.nil
def di.enc(r:di):aK:=[ti r.kind,ti r.head,ti r.a,ti r.b,ti r.cq,ti r.origin]
def aU(l:Cf):List (aK):=l.map di.enc
def aD.enc(n:aD):T:=.agg [ti n.aL,ti n.an,ti n.start,.sl (aU n.au)]
def bC(l:bR):List (aK):=l.map λv=>[ti v.aH,ti v.size]
def Cell.enc(c:Cell):aK:=[ti c.aH,ti c.size,ti c.qE,ti c.arg]
def cu(l:eV):List (aK):=l.map Cell.enc
def d6.enc(c:d6):T:=.agg [ti c.an,ti c.bn,.sl (cu c.cells)]
def jW:aK->di
 |[a,b,c,d,e,f]=>⟨dH a,dH b,dH c,dH d,dH e,dH f⟩
 |_=>default
def Fi(l:List (aK)):Cf:=l.map jW
def mT(l:List (aK)):bR:=l.map fun|[a,b]=>⟨dH a,dH b⟩|_=>default
def Jg:aK->Cell
 |[a,b,c,d]=>⟨dH a,dH b,dH c,dH d⟩
 |_=>default
def Fj(l:List (aK)):eV:=l.map Jg
def Mm:T->aD
 |.agg [a,b,c,.sl r]=>⟨dH a,dH b,dH c,Fi r⟩
 |_=>⟨0,0,0,[]⟩
def Pc:T->d6
 |.agg [a,b,.sl r]=>⟨dH a,dH b,Fj r⟩
 |_=>⟨0,0,[]⟩
@[simp] def p8(r:di):jW r.enc=r:=by simp[jW,di.enc,dH]
@[simp] def decRules_enc(l:Cf):Fi (aU l)=l:=gq p8 l
@[simp] def decVals_enc(l:bR):mT (bC l)=l:=gq (λ_=>rfl) l
@[simp] def Mn(r:Cell):Jg r.enc=r:=by simp[Jg,Cell.enc,dH]
@[simp] def decCells_enc(l:eV):Fj (cu l)=l:=gq Mn l
@[simp] def decN_enc'(a b c:Int)(l:Cf):Mm (.agg [ti a,ti b,ti c,.sl (aU l)])=⟨a,b,c,l⟩:=by simp[Mm,dH]
@[simp] def decN_enc(n:aD):Mm n.enc=n:=by simp[aD.enc]
@[simp] def decC_enc'(a b:Int)(l:eV):Pc (.agg [ti a,ti b,.sl (cu l)])=⟨a,b,l⟩:=by simp[Pc,dH]
@[simp] def decC_enc(n:d6):Pc n.enc=n:=by simp[d6.enc]
@[simp] def rulesT_len(l:Cf):(aU l).length=l.length:=by simp[aU]
@[simp] def valsT_len(l:bR):(bC l).length=l.length:=by simp[bC]
@[simp] def cellsT_len(l:eV):(cu l).length=l.length:=by simp[cu]
def kZ{l:Cf}{y:Nat}(h:y<l.length):DM.rowAt (aU l) y=(l.getD y default).enc:=by simp[DM.rowAt,aU,h]
def dd{l:bR}{y:Nat}(h:y<l.length):DM.rowAt (bC l) y=[ti (l.getD y default).aH,ti (l.getD y default).size]:=by simp[DM.rowAt,bC,h]
def BO{l:eV}{y:Nat}(h:y<l.length):DM.rowAt (cu l) y=(l.getD y default).enc:=by simp[DM.rowAt,cu,h]
@[simp] def V6:bC []=[]:=rfl
@[simp] def cellsT_nil:cu []=[]:=rfl
def bm [Inhabited α]{l:List α}{i:Nat}(h:i<l.length):l.getD i default∈l:=by simp[List.getD,h]
def c8.lt(a b:c8):Prop:=a.aH<b.aH\/(a.aH=b.aH/\a.size<b.size)
instance(a b:c8):Decidable (a.lt b):=by unfold c8.lt;infer_instance
def t92(u v:c8):bl aj 97 [.agg [ti u.aH,ti u.size],.agg [ti v.aH,ti v.size]] (.bool (decide (u.lt v))):=by
 obtain⟨a,b⟩:=u;obtain⟨c,d⟩:=v;obtain⟨c1,bU⟩:=bb (decide ((⟨a,b⟩:c8).lt ⟨c,d⟩):Bool);rw[bU];simp only[c8.lt]at bU;have aC:=cF;refine c92.ok (by simp) (aO ?_);simp;apply aa.ch aC fw [2,3];simp[d92r0];refine aa.lk (o:=[]) (l:=[(2,.v (.box [ti a,ti b])),(3,.v (.box [ti c,ti d]))]) (ba:=1200) (by simp) ?_;refine aa.cz aC fw [(4,.v (.bool c1))] ?_ ?_
 ·by_cases q1:a<c
  ·have:c1=true:=by rw[<-bU];simp[q1]
   simp[K7,q1,this]
  ·by_cases q2:a=c
   ·subst q2;by_cases q3:b<d
    ·have:c1=true:=by rw[<-bU];simp[q3]
     simp[K7,q3,this]
    ·have:c1=false:=by rw[<-bU];simp[q3]
     simp[K7,q3,this]
   ·have:c1=false:=by rw[<-bU];simp[q1,q2]
    simp[K7,q1,q2,this]
 apply aa.ret;simp[YZ]
def fW:Int->Int->bR->c8
 |c,s,[]=>⟨c,s⟩
 |c,s,v::l=>fW (min (c+v.aH) 1099511627776) (min (s+v.size) 1099511627776) l
def dU(c:Int)(l:bR):c8:=if(fW c 1 l).aH>=1099511627776 then⟨1099511627776,0⟩else fW c 1 l
def Fk(c s:Int)(l:bR)(v:c8):fW c s (l++[v])=⟨min ((fW c s l).aH+v.aH) 1099511627776,min ((fW c s l).size+v.size) 1099511627776⟩:=by
 induction l generalizing c s with
 |nil=>rfl
 |cons x l ih=>simp only[ZaM,fW,ih]
def jj(v:c8):Prop:=0<=v.aH/\v.aH<=1099511627776/\0<=v.size/\v.size<=1099511627776
def uM{l:bR}(h:∀v∈l,jj v):∀{c s:Int},0<=c->c<=4000000000000->0<=s->s<=1099511627776->0<=(fW c s l).aH/\(fW c s l).aH<=4000000000000/\0<=(fW c s l).size/\(fW c s l).size<=1099511627776:=by
 induction l with
 |nil=>intro c s h1 h2 h3 h4;exact⟨h1,h2,h3,h4⟩
 |cons x l ih=>
  intro c s h1 h2 h3 h4;obtain⟨g1,g2,g3,g4⟩:=h x (by simp);exact ih (λv hv=>h v (by simp[hv])) (by omega) (by omega) (by omega) (by omega)
def ju{c:Int}{l:bR}(h:∀v∈l,jj v)(h1:0<=c)(h2:c<=4000000000000):jj (dU c l):=by
 have:=uM (c:=c) (s:=1) h h1 h2 (by omega) (by omega);unfold dU jj;split
 ·simp
 ·omega
def cW [Inhabited α]{l:List α}{i:Nat}(h:i<l.length):l.take (i+1)=l.take i++[l.getD i default]:=by
 rw[ZbO,Zas h];simp[List.getD,h]
def t69(c:Int)(l:bR)(h:∀v∈l,jj v)(h1:0<=c)(h2:c<=4000000000000)(h3:l.length<=1000000):bl aj 95 [ti c,.sl (bC l)] (.agg [ti (dU c l).aH,ti (dU c l).size]):=by
 have aC:=cF;refine c69.ok (by simp) (aO ?_);simp;apply aa.ch aC fw [0,1,4];simp[d69r0];apply aa.ch aC fw [1,4,5,6];simp[d69r1];apply aa.seq;apply aa.ch aC fw [1,4,5,6,7];simp[d69r2];apply aa.block;refine aa.loop (λy:Nat=>⟨DM.look [(1,.v (.sl (bC l))),(4,.ptr 1005 0),(5,.v (ti (fW c 1 (l.take y)).aH)),(6,.v (ti (fW c 1 (l.take y)).size)),(7,.v (ti y))],cM [(1005,.box [.v (ti 0),.v (ti 0)])],2000,1000,[]⟩)
  (λy=>y<=l.length) (λy=>l.length-y) 0 (Le.bi ?_ ?_ ?_ ?_) (by simp) (λy hy=>?_)
 iterate 3(·simp)
 ·simp[fW]
 apply aa.seq;apply aa.ch aC fw [1,4,5,6,7,12];simp[d69r3];refine aa.cond rfl (λcR=>?_) (λcR=>?_)
 ·have cR:y<l.length:=by simpa using cR
  apply aa.skip;simp;apply aa.seq;apply aa.block;have rv:=dd cR;obtain⟨v,hv⟩:=bb (l.getD y default);rw[hv]at rv;have hov:=h v (by rw[<-hv];exact bm cR);obtain⟨o1,o2,o3,o4⟩:=hov;obtain⟨b1,b2,b3,b4⟩:=uM (c:=c) (s:=1) (l:=l.take y) (λv hv=>h v (ZaE hv)) h1 h2 (by omega) (by omega);apply aa.fK aC fw [1,4,5,6,7];simp[d69r4,cR,rv];apply aa.fK aC fw [1,4,5,6,7];simp[d69r5];rw[aF (by omega),aF (by omega),aF (by omega)];refine⟨y+1,Le.bi ?_ ?_ ?_ ?_,by omega,by omega⟩;iterate 3(·simp)
  ·simp[cW cR,Fk,-List.getD_eq_getElem?_getD,hv]
 ·have fJ:y=l.length:=by simp at cR;omega
  subst fJ;rw[ZbM];apply aa.exit;simp;apply aa.seq;apply aa.ch aC fw [4,5,6,32];simp[d69r6];refine aa.cond rfl (λh7=>?_) (λh7=>?_)
  ·have h7:(fW c 1 l).aH>=1099511627776:=by simpa using h7
   apply aa.ch aC fw [4];simp[d69r7];apply aa.ret;simp[OK,dU,h7]
  ·have h7:¬(fW c 1 l).aH>=1099511627776:=by simpa using h7
   apply aa.skip;simp;apply aa.ch aC fw [4];simp[d69r8];apply aa.ret;simp[OK,dU,h7]
def lP:Cell:=⟨1099511627776,0,-1,0⟩
def lR(n s:Int):Int:=n*s*(s+1)/2
def g9{a b A B:Int}(h1:0<=a)(h2:a<=A)(h3:0<=b)(h4:b<=B):0<=a*b/\a*b<=A*B:=by
 refine⟨Zcq h1 h3, ?_⟩;exact Int.mul_le_mul h2 h4 h3 (by omega)
def pre(st:Int):Nat->Int
 |0=>0
 |n+1=>pre st n+st-n
def ir{st:Int}(h:st<=1000):∀n:Nat,(n:Int)<=st->0<=pre st n/\pre st n<=1000*n
 |0,_=>by simp[pre]
 |n+1,hn=>by
  have:=ir h n (by omega);simp only[pre];omega
def ef(n st:Int)(f t:Nat):Int:=(pre st f+t-f)*n
def jV(a:Cell)(v:c8)(r g:Int):Cell:=if v.aH>=1099511627776 then a else if v.lt a.val\/(v=a.val/\(r<a.qE\/(r=a.qE/\g<a.arg)))then⟨v.aH,v.size,r,g⟩else a
abbrev s92:DM.Spec:=cT (λts=>∃a b c d,ts=[.agg [ti a,ti b],.agg [ti c,ti d]]) (fun|[.agg [.int _ a,.int _ b],.agg [.int _ c,.int _ d]]=>.bool (decide ((⟨a,b⟩:c8).lt ⟨c,d⟩))|_=>.bool false) true
end
section
variable{d:Int}
@[simp] def Pd{a b:Cf}:aU a=aU b↔a=b:=⟨λh=>by have:=congrArg Fi h;simpa using this,λh=>by rw[h]⟩
@[simp] def rn{a b:bR}:bC a=bC b↔a=b:=⟨λh=>by have:=congrArg mT h;simpa using this,λh=>by rw[h]⟩
@[simp] def Pe{a b:eV}:cu a=cu b↔a=b:=⟨λh=>by have:=congrArg Fj h;simpa using this,λh=>by rw[h]⟩
@[simp] def G5{a b:bO}:aG a=aG b↔a=b:=⟨λh=>by have:=congrArg lS h;simpa using this,λh=>by rw[h]⟩
@[simp] def V7{a b:List cw}:j7 a=j7 b↔a=b:=⟨λh=>by have:=congrArg Jh h;simpa using this,λh=>by rw[h]⟩
@[simp] def opsT_inj{a b:List (Int×Int)}:ia a=ia b↔a=b:=⟨λh=>by have:=congrArg AG h;simpa using this,λh=>by rw[h]⟩
@[simp] def colsT_inj{a b:List cK}:cY a=cY b↔a=b:=⟨λh=>by have:=congrArg CO h;simpa using this,λh=>by rw[h]⟩
@[simp] def V8{l:bR}:[]=bC l↔l=[]:=by rw[<-V6,rn];exact eq_comm
@[simp] def one_valsT{a b:Int}{l:bR}:[[ti a,ti b]]=bC l↔l=[⟨a,b⟩]:=by rw[show [[ti a,ti b]]=bC [⟨a,b⟩]from rfl,rn];exact eq_comm
@[simp] def two_valsT{a b c:Int}{l:bR}:[[ti a,ti b],[ti c,ti d]]=bC l↔l=[⟨a,b⟩,⟨c,d⟩]:=by rw[show [[ti a,ti b],[ti c,ti d]]=bC [⟨a,b⟩,⟨c,d⟩]from rfl,rn];exact eq_comm
@[simp] def decVals_nil:mT []=[]:=rfl
@[simp] def decVals_one{a b:Int}:mT [[ti a,ti b]]=[⟨a,b⟩]:=rfl
@[simp] def decVals_two{a b c:Int}:mT [[ti a,ti b],[ti c,ti d]]=[⟨a,b⟩,⟨c,d⟩]:=rfl
def NJ(c:d6)(h f t:Int):Cell:=
 if h<0\/h>=c.an\/f<0\/t<f\/t>=c.bn then lP else c.cells.getD (ef c.an c.bn f.toNat t.toNat+h).toNat lP
def NI(c:d6):Prop:=0<=c.an/\c.an<=1000/\0<=c.bn/\c.bn<=1000/\c.cells.length<=1000000000000/\∀x∈c.cells,jj x.val
def Mo:jj lP.val:=by simp[jj,lP]
def aaC{c:d6}(hc:NI c)(h f t:Int):jj (NJ c h f t).val:=by
 unfold NJ;split
 ·exact Mo
 ·rw[List.getD];cases e:c.cells[(ef c.an c.bn f.toNat t.toNat+h).toNat]? with
  |none=>exact Mo
  |some x=>exact hc.2.2.2.2.2 x (Zax e)
def sM{n st:Int}{f t:Nat}(h1:0<=n)(h2:n<=1000)(h3:st<=1000)(h4:(f:Int)<=st)(h5:t<=1000)(h6:f<=t):0<=ef n st f t/\ef n st f t<=2000000000:=by
 have hb:=ir h3 f h4;have:=g9 (a:=pre st f+t-f) (A:=2000000) (b:=n) (B:=1000) (by omega) (by omega) h1 h2;unfold ef;omega
def eJ(c:d6)(own:eV)(fr to h f t:Int):c8:=if f=fr/\t=to then(own.getD h.toNat default).val else(NJ c h f t).val
def vPre(c:d6)(own:eV)(fr to h f t:Int):Prop:=NI c/\own.length<=1000000/\(f=fr/\t=to->0<=h/\h<own.length)
def G2{c:d6}{own:eV}{fr to h f t:Int}(h1:vPre c own fr to h f t)(h2:∀x∈own,jj x.val):jj (eJ c own fr to h f t):=by
 unfold eJ;split
 ·rename_i e;have:=h1.2.2 e;exact h2 _ (bm (by omega))
 ·exact aaC h1.1 _ _ _
end
structure kh where
 (x h t:Int)
 deriving DecidableEq,Inhabited
def kh.enc(e:kh):aK:=[ti e.x,ti e.h,ti e.t]
def dF(l:List kh):List (aK):=l.map kh.enc
def xj:aK->kh
 |[a,b,c]=>⟨dH a,dH b,dH c⟩
 |_=>default
@[simp] def xk(e:kh):xj e.enc=e:=by simp[xj,kh.enc,dH]
@[simp] def vI{a b:List kh}:dF a=dF b↔a=b:=⟨λh=>by
 have:=congrArg (List.map xj) h;simpa [dF,gq xk]using this,λh=>by rw[h]⟩
@[simp] def Wn(l:List kh):(dF l).length=l.length:=by simp[dF]
def dG{l:List kh}{y:Nat}(h:y<l.length):DM.rowAt (dF l) y=(l.getD y default).enc:=by simp[DM.rowAt,dF,h]
def lg(l:List kh)(i:Nat)(e:kh):dF (l.set i e)=(dF l).set i e.enc:=by simp[dF,Zcd]
def sS(a b:List kh):dF (a++b)=dF a++dF b:=by simp[dF]
def xl(a:List kh)(n:Nat):(dF a).take n=dF (a.take n):=by simp[dF,List.map_take]
abbrev Pl:=List (Nat×Int×Int)
def uO(l:Pl):List (Nat×T×DV):=l.map λe=>(e.1,ti e.2.1,.v (ti e.2.2))
@[simp] def JA{a b:Pl}:uO a=uO b↔a=b:=⟨λh=>by
 unfold uO at h;refine List.map_inj_right (f:=λe:Nat×Int×Int=>(e.1,ti e.2.1,DV.v (ti e.2.2))) ?_|>.1 h
 rintro⟨a,b,c⟩ ⟨a',b',c'⟩ h;simpa using h,λh=>by rw[h]⟩
def sV(l:Pl)(k:Int):Option Nat:=l.findIdx? λe=>e.2.1==k
def jM(l:Pl)(k:Int):Option Int:=(l.find? λe=>e.2.1==k).map (·.2.2)
def d8(l:Pl)(c:Nat)(k v:Int):Pl:=match sV l k with
 |some i=>l.modify i λe=>(e.1,e.2.1,v)
 |none=>l++[(c,k,v)]
def wr(l:Pl)(c:Nat)(k:Int):Nat:=match sV l k with
 |some _=>c
 |none=>c+1
def nD(l:Pl)(k:Int):Pl:=match sV l k with
 |some i=>l.eraseIdx i
 |none=>l
def U4(a b:Int):gO (ti a) (ti b)=(b==a):=by
 simp only[gO];by_cases h:a=b
 ·simp[h]
 ·have:¬b=a:=λe=>h e.symm;simp[h,this]
def zI(l:Pl)(k:Int):(uO l).findIdx? (λe=>gO (ti k) e.2.1)=sV l k:=by
 unfold uO sV;rw[List.findIdx?_map]
 congr 1
 funext e;simp only[Function.comp,U4]
def Na(l:Pl)(k:Int):qP (ti k) (uO l)=(l.find? λe=>e.2.1==k).map λe=>(e.1,ti e.2.1,.v (ti e.2.2)):=by
 unfold qP uO;rw[List.find?_map]
 congr 2
 funext e;simp only[Function.comp,U4]
def lm{α β:Type}{f:α->β}{g:α->α}{g':β->β}(h:∀a,g' (f a)=f (g a)):∀(l:List α) (i:Nat),(l.map f).modify i g'=(l.modify i g).map f
 |[],i=>by cases i<;>simp
 |a::l,0=>by simp[h]
 |a::l,i+1=>by simp[lm h l i]
def qH{α β:Type}{f:α->β}:∀(l:List α) (i:Nat),(l.map f).eraseIdx i=(l.eraseIdx i).map f
 |[],i=>by simp
 |a::l,0=>by simp
 |a::l,i+1=>by simp[qH l i]
def MS(l:Pl)(c:Nat)(k v:Int):HJ (ti k) (.v (ti v)) c (uO l)=uO (d8 l c k v):=by
 unfold HJ d8;rw[zI];cases sV l k with
 |none=>simp[uO]
 |some i=>exact lm (f:=λe:Nat×Int×Int=>(e.1,ti e.2.1,DV.v (ti e.2.2))) (g:=λe=>(e.1,e.2.1,v)) (g':=λe=>(e.1,e.2.1,DV.v (ti v))) (λ_=>rfl) l i
def FK(l:Pl)(c:Nat)(k:Int):oR (ti k) c (uO l)=wr l c k:=by
 unfold oR wr;rw[zI];cases sV l k<;>rfl
def MU(l:Pl)(k:Int):delE (ti k) (uO l)=uO (nD l k):=by
 unfold delE nD;rw[zI];cases sV l k with
 |none=>rfl
 |some i=>exact qH l i
def pA(l:Pl):Prop:=(l.map (·.1)).Nodup
def zJ{α:Type}{p:α->Bool}:∀{l:List α} {i:Nat},l.findIdx? p=some i->∃a,l[i]? =some a/\p a=true/\l.find? p=some a
 |[],i,h=>by simp at h
 |a::l,i,h=>by
  rw[Zbh]at h;by_cases hp:p a=true
  ·simp only[hp,if_true,Zaa]at h;subst h;exact⟨a,rfl,hp,by simp[hp]⟩
  ·simp only[hp,ZaW,if_false,Zac]at h;obtain⟨j,hj,rfl⟩:=h;obtain⟨b,h1,h2,h3⟩:=zJ hj;exact⟨b,by simpa using h1,h2,by simp[hp,h3]⟩
def Ht:∀{l:Pl} {i:Nat} {e:Nat×Int×Int},pA l->l[i]? =some e->(uO l).findIdx? (λx=>(x.1:Int)==(e.1:Int))=some i
 |[],i,e,_,h=>by simp at h
 |a::l,0,e,hk,h=>by
  simp only[ZaF,Zaa]at h;subst h;simp[uO,Zbh]
 |a::l,i+1,e,hk,h=>by
  simp only[Zbb]at h;simp only[pA,ZaA,Zcw]at hk;have bT:¬a.1=e.1:=λq=>hk.1 (q▸Zak.2 ⟨e,Zax h,rfl⟩);have ih:=Ht (l:=l) hk.2 h;unfold uO at ih⊢;rw[ZaA,Zbh];have:¬(((a.1:Int)==(e.1:Int))=true):=by simp;omega
  simp only[this,ih];rfl
def zz{l:Pl}{k v:Int}{i:Nat}{e:Nat×Int×Int}(hk:pA l)(hi:sV l k=some i)(he:l[i]? =some e)(c:Nat):setB (e.1:Int) (.v (ti v)) (uO l)=some (uO (d8 l c k v)):=by
 unfold setB;rw[Ht hk he];unfold d8;rw[hi];simp only[Za8,Zaa];exact lm (f:=λe:Nat×Int×Int=>(e.1,ti e.2.1,DV.v (ti e.2.2))) (g:=λe=>(e.1,e.2.1,v)) (g':=λe=>(e.1,e.2.1,DV.v (ti v))) (λ_=>rfl) l i
def zA{l:Pl}{c:Nat}{k v:Int}(hk:pA l)(hc:∀e∈l,e.1<c):pA (d8 l c k v)/\∀e∈d8 l c k v,e.1<wr l c k:=by
 unfold d8 wr;cases h:sV l k with
 |none=>
  refine⟨?_,λe he=>?_⟩
  ·unfold pA;rw[ZaZ,Zb7];refine⟨hk,by simp,λa ha b hb=>?_⟩;obtain⟨e,he,rfl⟩:=Zak.1 ha;simp at hb;have:=hc e he;omega
  ·rcases Zaq.1 he with he|he
   ·have:=hc e he;simp only;omega
   ·simp at he;subst he;simp
 |some i=>
  have hm:((l.modify i λe=>(e.1,e.2.1,v)).map (·.1))=l.map (·.1):=by
   have h1:=lm (f:=λe:Nat×Int×Int=>e.1) (g:=λe=>(e.1,e.2.1,v)) (g':=id) (λ_=>rfl) l i;rw[Zdd]at h1;exact h1.symm
  refine⟨by unfold pA;rw[hm];exact hk,λe he=>?_⟩;have:e.1∈l.map (·.1):=by rw[<-hm];exact Zak.2 ⟨e,he,rfl⟩
  obtain⟨e',he',h2⟩:=Zak.1 this;have:=hc e' he';show e.1<c;omega
section
variable{f:bq}
structure LV where
 (sp rb:Nat)
 cs:bB
 ak:bR
structure LV.at(v:LV)(f:bq)(a:Nat):Prop where
 a:f a=some (.box [.ptr v.sp 0])
 sp:f v.sp=some (.box v.cs)
 c:v.cs[12]? =some (.bA v.rb 0)
 rb:f v.rb=some (.dT 0 63 2 (bC v.ak))
def LV.Cg{v w:LV}{a:Nat}(h:v.at f a)(k:w.at f a):v=w:=by
 obtain⟨sp,rb,cs,ak⟩:=v;obtain⟨sp',rb',iz,best'⟩:=w;obtain⟨h1,h2,h3,h4⟩:=h;obtain⟨k1,k2,k3,k4⟩:=k;simp only at h1 h2 h3 h4 k1 k2 k3 k4;rw[h1]at k1;simp only[Zaa,Ob.box.injEq,Za1,DV.ptr.injEq,and_true]at k1;subst k1;rw[h2]at k2;simp only[Zaa,Ob.box.injEq]at k2;subst k2;rw[h3]at k3;simp only[Zaa,DV.bA.injEq,and_true]at k3;subst k3;rw[h4]at k4;simp only[Zaa,Ob.dT.injEq,rn,true_and]at k4;subst k4;rfl
open Classical in
noncomputable def Hu(f:bq)(a:Nat):LV:=if h:∃v:LV,v.at f a then Classical.choose h else⟨0,0,[],[]⟩
def Ng{v:LV}{a:Nat}(h:v.at f a):Hu f a=v:=by
 have hx:∃v:LV,v.at f a:=⟨v,h⟩;unfold Hu;rw[ZcV hx];exact LV.Cg (Classical.choose_spec hx) h
def bv(ak:bR)(x:Int):c8:=ak.getD x.toNat default
noncomputable def k55:bB->bq->fI
 |[.v (.int .i64 x),.v (.int .i64 y),.ptr a 0],f=>⟨(∃v:LV,v.at f a)/\(0<=x/\x<(Hu f a).ak.length)/\(0<=y/\y<(Hu f a).ak.length),.v (.bool (decide ((bv (Hu f a).ak x).lt (bv (Hu f a).ak y)))),f⟩
 |_,f=>⟨False,.undef,f⟩
def k55_eq{v:LV}{a:Nat}{x y:Int}(h:v.at f a):k55 [.v (ti x),.v (ti y),.ptr a 0] f=⟨(0<=x/\x<v.ak.length)/\(0<=y/\y<v.ak.length),.v (.bool (decide ((bv v.ak x).lt (bv v.ak y)))),f⟩:=by
 have hx:∃v:LV,v.at f a:=⟨v,h⟩;simp only[k55,Ng h,hx,true_and]
def t56(u v:c8):bl aj 84 [.agg [ti u.aH,ti u.size],.agg [ti v.aH,ti v.size]] (.bool (decide (u.lt v))):=by
 obtain⟨a,b⟩:=u;obtain⟨c,d⟩:=v;obtain⟨c1,bU⟩:=bb (decide ((⟨a,b⟩:c8).lt ⟨c,d⟩):Bool);rw[bU];simp only[c8.lt]at bU;have aC:=cF;refine c56.ok (by simp) (aO ?_);simp;apply aa.ch aC fw [2,3];simp[d56r0];refine aa.lk (o:=[]) (l:=[(2,.v (.box [ti a,ti b])),(3,.v (.box [ti c,ti d]))]) (ba:=1200) (by simp) ?_;refine aa.cz aC fw [(4,.v (.bool c1))] ?_ ?_
 ·by_cases q1:a<c
  ·have:c1=true:=by rw[<-bU];simp[q1]
   simp[Ld,q1,this]
  ·by_cases q2:a=c
   ·subst q2;by_cases q3:b<d
    ·have:c1=true:=by rw[<-bU];simp[q3]
     simp[Ld,q3,this]
    ·have:c1=false:=by rw[<-bU];simp[q3]
     simp[Ld,q3,this]
   ·have:c1=false:=by rw[<-bU];simp[q1,q2]
    simp[Ld,q1,q2,this]
 apply aa.ret;simp[Zn]
def JV{l:bR}(h:∀v∈l,jj v):∀{c s:Int},0<=c->c<=1099511627776->0<=s->s<=1099511627776->0<=(fW c s l).aH/\(fW c s l).aH<=1099511627776:=by
 induction l with
 |nil=>intro c s h1 h2 h3 h4;exact⟨h1,h2⟩
 |cons x l ih=>
  intro c s h1 h2 h3 h4;obtain⟨g1,g2,g3,g4⟩:=h x (by simp);exact ih (λv hv=>h v (by simp[hv])) (by omega) (by omega) (by omega) (by omega)
def comb_min{c:Int}{l:bR}(h:∀v∈l,jj v):dU (min c 1099511627776) l=dU c l:=by
 have key:∀(l:bR) (c s:Int),(∀v∈l,jj v)->l≠[]->fW (min c 1099511627776) s l=fW c s l:=by
  intro l c s h hl;cases l with
  |nil=>exact Zar rfl hl
  |cons v l=>
   have hv:=(h v (by simp)).1;simp only[fW];rw[show min (min c 1099511627776+v.aH) 1099511627776=min (c+v.aH) 1099511627776 by omega]
 cases l with
 |nil=>
  unfold dU fW;simp only;split<;>split<;>first|rfl|(exfalso;omega)|(congr 1;omega)
 |cons v l=>
  unfold dU;rw[key _ _ _ h (by simp)]
def t84(c:Int)(l:bR)(h:∀v∈l,jj v)(h1:0<=c)(h2:c<=4000000000000)(h3:l.length<=1000000):bl aj 123 [ti c,.sl (bC l)] (.agg [ti (dU c l).aH,ti (dU c l).size]):=by
 obtain⟨R,hR⟩:=bb (dU c l);rw[hR];rw[<-comb_min h]at hR;obtain⟨c0,Xa⟩:=bb (min c 1099511627776);have bU:0<=c0/\c0<=1099511627776:=by omega
 rw[Xa]at hR;have aC:=cF;refine c84.ok (by simp) (aO ?_);simp;apply aa.ch aC fw [0,1,4];simp[d84r0];refine aa.lk (o:=[(1005,.box [.v (ti 0),.v (ti 0)])]) (l:=[(0,.v (ti c)),(1,.v (.sl (bC l))),(4,.ptr 1005 0)]) (ba:=1094) (by simp) ?_;apply aa.ch aC fw [1,4,5];simp[d84r1,Xa];refine aa.lk (o:=[(1005,.box [.v (ti 0),.v (ti 0)]),(1100,.box [.v (ti c0),.v (ti 1)])]) (l:=[(1,.v (.sl (bC l))),(4,.ptr 1005 0),(5,.ptr 1100 0)]) (ba:=1200) (by simp) ?_;apply aa.seq;apply aa.ch aC fw [4,5,11,12,13];simp[d84r2];apply aa.block;refine aa.loop (λi:Nat=>⟨DM.look [(4,.ptr 1005 0),(5,.ptr 1100 0),(11,.v (.sl (bC l))),(12,.v (ti l.length)),(13,.v (ti i))],cM [(1005,.box [.v (ti 0),.v (ti 0)]),(1100,.box [.v (ti (fW c0 1 (l.take i)).aH),.v (ti (fW c0 1 (l.take i)).size)])],1400,1000,[]⟩)
  (λi=>i<=l.length) (λi=>l.length-i) 0 (Le.bi ?_ ?_ ?_ ?_) (by simp) (λi hi=>?_)
 ·simp
 ·simp
 ·simp[fW]
 ·simp
 obtain⟨A,hA⟩:=bb (fW c0 1 (l.take i));rw[hA];apply aa.ch aC fw [4,5,11,12,13,14];simp[d84r3];apply aa.seq;refine aa.cond rfl (λh3c=>?_) (λh3c=>?_)
 ·have As:i<l.length:=by simpa using h3c
  apply aa.skip;simp;apply aa.seq;apply aa.block;have rv:=dd As;have hvm:=h _ (bm As);have la:fW c0 1 (l.take (i+1))=⟨min (A.aH+(l.getD i default).aH) 1099511627776,min (A.size+(l.getD i default).size) 1099511627776⟩:=by rw[cW As,Fk,hA]
  have hAb:=uM (c:=c0) (s:=1) (l:=l.take i) (λv hv=>h v (ZaE hv)) bU.1 (by omega) (by omega) (by omega);rw[hA]at hAb;obtain⟨⟨vc,vs⟩,hv⟩:=bb (l.getD i default);rw[hv]at rv hvm la;obtain⟨g1,g2,g3,g4⟩:=hvm;simp only at g1 g2 g3 g4 la;obtain⟨ac,asz⟩:=A;simp only at hAb la;apply aa.ch aC fw [4,5,7,11,12,13];simp[d84r4,As,rv];refine aa.lk (o:=[(1005,.box [.v (ti 0),.v (ti 0)]),(1100,.box [.v (ti ac),.v (ti asz)])]) (l:=[(4,.ptr 1005 0),(5,.ptr 1100 0),(7,.v (.box [ti vc,ti vs])),(11,.v (.sl (bC l))),(12,.v (ti l.length)),(13,.v (ti i))]) (ba:=1500) (by simp) ?_;apply aa.ch aC fw [4,5,7,11,12,13];simp[d84r5,aF (x:=ac+vc) (by omega)];refine aa.lk (o:=[(1005,.box [.v (ti 0),.v (ti 0)]),(1100,.box [.v (ti (min (ac+vc) 1099511627776)),.v (ti asz)])]) (l:=[(4,.ptr 1005 0),(5,.ptr 1100 0),(7,.v (.box [ti vc,ti vs])),(11,.v (.sl (bC l))),(12,.v (ti l.length)),(13,.v (ti i))]) (ba:=1600) (by simp) ?_;apply aa.fK aC fw [4,5,11,12,13];simp[d84r6,aF (x:=asz+vs) (by omega)];apply aa.fK aC fw [4,5,11,12,13];simp[d84r7];rw[aF (x:=(i:Int)+1) (by omega)];refine⟨i+1,Le.bi ?_ ?_ ?_ ?_,by omega,by omega⟩
  ·simp
  ·simp
  ·simp[la]
  ·simp
 ·have hi2:i=l.length:=by simp at h3c;omega
  subst hi2;rw[ZbM]at hA;apply aa.exit;simp;apply aa.seq;apply aa.ch aC fw [4,5,34];simp[d84r8];refine aa.cond rfl (λh8=>?_) (λh8=>?_)
  ·have h8:A.aH=1099511627776:=by simpa using h8
   have zQ:R=⟨1099511627776,0⟩:=by rw[<-hR];unfold dU;rw[hA];simp[h8]
   apply aa.ch aC fw [4];simp[d84r9];apply aa.ret;simp[OO,zQ]
  ·have h8:¬A.aH=1099511627776:=by simpa using h8
   have hAb:=JV (c:=c0) (s:=1) (l:=l) h bU.1 bU.2 (by omega) (by omega);rw[hA]at hAb;have zQ:R=A:=by rw[<-hR];unfold dU;rw[hA,Zab (by omega)]
   apply aa.skip;simp;apply aa.ch aC fw [4];simp[Zo];apply aa.ret;simp[OO,zQ]
end
section
variable{f0 f:bq}
abbrev s56:DM.Spec:=cT (λts=>∃a b c d,ts=[.agg [ti a,ti b],.agg [ti c,ti d]]) (fun|[.agg [.int _ a,.int _ b],.agg [.int _ c,.int _ d]]=>.bool (decide ((⟨a,b⟩:c8).lt ⟨c,d⟩))|_=>.bool false) true
def ok56{l:List (Nat×DM.Spec)}(h:ay aj (bu l)):ay aj (bu ((84,s56)::l)):=by
 refine ay.cons h ?_;rintro ts ⟨a,b,c,d,rfl⟩;exact⟨t56 ⟨a,b⟩ ⟨c,d⟩,λ_=>rfl⟩
def U8{α:Type}{l:List α}{i:Nat}{a d:α}(h:l[i]? =some a):l.getD i d=a/\i<l.length:=by
 obtain⟨h1,h2⟩:=Zaw.1 h;exact⟨by simp[List.getD,h],h1⟩
def iO(p q N:Nat)(n:Nat):Nat:=if n=0 then p else if n=1 then q else N+n
def jK{p q N:Nat}(h:p<N)(k:q<N)(bT:p≠q)(x y:Nat)(e:iO p q N x=iO p q N y):x=y:=by
 unfold iO at e;split at e<;>split at e<;>(try split at e)<;>(try split at e)<;>omega
def t55{a N x y:Nat}{v:LV}(hN:∀r,N<=r->f0 r=none)(h:v.at f0 a)(hx:x<v.ak.length)(hy:y<v.ak.length):
  aR aj 83 [.v (ti x),.v (ti y),.ptr a 0] f0 ⟨True,.v (.bool (decide ((bv v.ak x).lt (bv v.ak y)))),f0⟩:=by
 obtain⟨R,hR⟩:=bb (decide ((bv v.ak x).lt (bv v.ak y)));rw[hR];have aC:=ok56 ay.nil;refine c55.pQ hN (by simp) λaT=>?_;obtain⟨sp,rb,cs,ak⟩:=v;obtain⟨h1,h2,h3,h4⟩:=h;simp only at h1 h2 h3 h4 hx hy;obtain⟨h5,h6⟩:=U8 (d:=DV.undef) h3;have r1:=dd hx;have r2:=dd hy;simp only[bv,Zag]at hR;obtain⟨⟨xc,xs⟩,ex⟩:=bb (ak.getD x default);obtain⟨⟨yc,ys⟩,ey⟩:=bb (ak.getD y default);simp only[ex,ey]at r1 r2 hR;have h7:cs[12]'h6=.bA rb 0:=by rw[Zas h6]at h3;exact ZbU h3
 simp;apply aa.ch aC fw [0,1,2];simp[d55r0];apply aa.ch aC fw [5];simp[d55r1,h1,h2,h6,h7,h4,hx,hy,r1,r2,Zba,hR];refine⟨h6, ?_⟩;apply aa.ret;simp[aag];rfl
def k55_ok:∀args ab,(k55 args ab).ok->(∀N,(∀r,N<=r->ab r=none)->aR aj 83 args ab (k55 args ab))/\∀r,ab r=none->(k55 args ab).ab r=none:=by
 intro args ab h;unfold k55 at h⊢;split at h
 ·rename_i x y a;obtain⟨⟨v,hv⟩,⟨x0,x1⟩,y0,y1⟩:=h;rw[Ng hv]at x1 y1⊢;obtain⟨x,rfl⟩:=Zae x0;obtain⟨y,rfl⟩:=Zae y0;exact⟨λN hN=>aR.of (t55 hN hv (by omega) (by omega)) rfl rfl,λr hr=>hr⟩
 ·exact h.elim
structure Qs where
 heap:List kh
 bD:Nat
 es:Pl
 mc:Nat
 (next dv:Int)
def qB(a hp m:Nat)(s:Qs):Ob:=.box [.nG (.func 83) [.ptr a 0],.bA hp s.bD,.iE m,.v (ti s.next),.v (ti s.dv)]
def hB(s:Qs):Ob:=.dT s.bD 220 3 (dF s.heap)
def mB(s:Qs):Ob:=.map [.int .i64] false s.mc (uO s.es)
structure QV where
 (a hp m:Nat)
 l:LV
 s:Qs
structure QV.at(v:QV)(f:bq)(q:Nat):Prop where
 q:f q=some (qB v.a v.hp v.m v.s)
 hp:f v.hp=some (hB v.s)
 m:f v.m=some (mB v.s)
 l:v.l.at f v.a
def QV.Cg{v w:QV}{q:Nat}(h:v.at f q)(k:w.at f q):v=w:=by
 obtain⟨a,hp,m,l,⟨heap,bD,es,mc,next,dv⟩⟩:=v;obtain⟨a',hp',m',l',⟨Yu,cg,m0,mc',next',clock'⟩⟩:=w;obtain⟨h1,h2,h3,h4⟩:=h;obtain⟨k1,k2,k3,k4⟩:=k;simp only at h1 h2 h3 h4 k1 k2 k3 k4;rw[h1]at k1;simp only[qB,Zaa,Ob.box.injEq,Za1,DV.nG.injEq,DV.ptr.injEq,DV.bA.injEq,DV.iE.injEq,DV.v.injEq,T.int.injEq,true_and,and_true]at k1;obtain⟨e1,⟨e2,e3⟩,e4,e5,e6⟩:=k1;subst e1 e2 e3 e4 e5 e6;rw[h2]at k2;simp only[hB,Zaa,Ob.dT.injEq,vI,true_and]at k2;rw[h3]at k3;simp only[mB,Zaa,Ob.map.injEq,JA,true_and]at k3;obtain⟨e7,e8⟩:=k3;have e9:=LV.Cg h4 k4;subst k2 e7 e8 e9;rfl
open Classical in
noncomputable def eK(f:bq)(q:Nat):QV:=if h:∃v:QV,v.at f q then Classical.choose h else⟨0,0,0,⟨0,0,[],[]⟩,⟨[],0,[],0,0,0⟩⟩
def eW{v:QV}{q:Nat}(h:v.at f q):eK f q=v:=by
 have hx:∃v:QV,v.at f q:=⟨v,h⟩;unfold eK;rw[ZcV hx];exact QV.Cg (Classical.choose_spec hx) h
def Qs.inR(s:Qs)(ak:bR):Prop:=∀e∈s.heap,0<=e.x/\e.x<ak.length
def iC(ak:bR)(a b:kh):Prop:=(bv ak a.x).lt (bv ak b.x)\/(¬(bv ak b.x).lt (bv ak a.x)/\a.t<b.t)
instance(ak:bR)(a b:kh):Decidable (iC ak a b):=by unfold iC;infer_instance
abbrev Qs.e(s:Qs)(i:Int):kh:=s.heap.getD i.toNat default
noncomputable def Qj:bB->bq->fI
 |[.ptr q 0,.v (.int .i64 i),.v (.int .i64 j)],f=>⟨(∃v:QV,v.at f q)/\(eK f q).s.inR (eK f q).l.ak/\(0<=i/\i<(eK f q).s.heap.length)/\(0<=j/\j<(eK f q).s.heap.length),.v (.bool (decide (iC (eK f q).l.ak ((eK f q).s.e i) ((eK f q).s.e j)))),f⟩
 |_,f=>⟨False,.undef,f⟩
def U9{v:QV}{q:Nat}{i j:Int}(h:v.at f q):Qj [.ptr q 0,.v (ti i),.v (ti j)] f=⟨v.s.inR v.l.ak/\(0<=i/\i<v.s.heap.length)/\(0<=j/\j<v.s.heap.length),.v (.bool (decide (iC v.l.ak (v.s.e i) (v.s.e j)))),f⟩:=by
 have hx:∃v:QV,v.at f q:=⟨v,h⟩;simp only[Qj,eW h,hx,true_and]
def ok55{l:List (Nat×DM.Spec)}(h:ay aj (bu l)):ay aj (bu ((83,eS k55)::l)):=ay.gS h k55_ok
def t117{q N i j:Nat}{v:QV}(hN:∀r,N<=r->f0 r=none)(h:v.at f0 q)(hr:v.s.inR v.l.ak)(hi:i<v.s.heap.length)(hj:j<v.s.heap.length):
  aR aj 150 [.ptr q 0,.v (ti i),.v (ti j)] f0 ⟨True,.v (.bool (decide (iC v.l.ak (v.s.e i) (v.s.e j)))),f0⟩:=by
 obtain⟨R,hR⟩:=bb (decide (iC v.l.ak (v.s.e i) (v.s.e j)));rw[hR];have aC:=ok55 ay.nil;refine c117.pQ hN (by simp) λaT=>?_;obtain⟨a,hp,m,l,⟨heap,bD,es,mc,next,dv⟩⟩:=v;obtain⟨h1,h2,h3,h4⟩:=h;simp only[qB,hB,mB]at h1 h2 h3 h4 hi hj hr;have NK:q<N:=(aT q _ h1).1;have nu:hp<N:=(aT hp _ h2).1;have haN:a<N:=(aT a _ h4.a).1;have hqp:q≠hp:=λe=>by rw[e,h2]at h1;cases h1
 have r1:=dG hi;have r2:=dG hj;have x1:=hr _ (bm hi);have x2:=hr _ (bm hj);simp only[Qs.e,Zag]at hR;obtain⟨⟨ax,ah,wW⟩,ex⟩:=bb (heap.getD i default);obtain⟨⟨bx,bh,bt⟩,ey⟩:=bb (heap.getD j default);simp only[ex,ey,kh.enc]at r1 r2 x1 x2 hR;have nq:∀k,q≠N+k:=λk=>by omega
 have np:∀k,hp≠N+k:=λk=>by omega
 simp;apply aa.ch aC fw [0,1,2];simp[Zz];apply aa.jR aC fw (rs:=c5 (iO q hp N) (eR OT [none,none,none,none,none,none,none,none,none,none,some [0],none,some [1],some [1],none,none,some [58],none])) (.inl rfl) ((dX (jK NK nu hqp) _ _ _).trans (by kernel_rfl)) [0,7,8];simp[OT,c5,fk,eR,iO,cP,bG,aN,h1,h2,hi,hj,r1,r2];refine aa.le (Le.dV (l1:=[]) (l:=[(0,.ptr q 0),(7,.v (.box [ti ax,ti ah,ti wW])),(8,.v (.box [ti bx,ti bh,ti bt]))]) (ba:=N+1000) aT ?_ ?_ ?_ ?_ ?_) ?_
 ·omega
 ·simp
 ·simp[bK];omega
 ·simp[dN]
 ·simp[h1,Nat.add_assoc];exact⟨bL (l:=[]) aT (by omega) (by simp),bL (l:=[]) aT (by omega) (by simp)⟩
 have hk:=λx y=>k55_eq (x:=x) (y:=y) h4;obtain⟨c1,bU⟩:=bb (decide ((bv l.ak ax).lt (bv l.ak bx)):Bool);obtain⟨c2,gI⟩:=bb (decide ((bv l.ak bx).lt (bv l.ak ax)):Bool);have e0:aM [] f0=f0:=rfl;rw[e0];apply aa.seq;apply aa.ch aC fw [0,7,8,31];simp[ZA,h1,hk,x1,x2,bU];refine aa.cond rfl (λg=>?_) (λg=>?_)
 ·have g:c1=true:=by simpa using g
  subst g;have:R=true:=by rw[<-hR];unfold iC;simp[Zat bU]
  subst this;apply aa.ch aC fw [6];simp[ZB];apply aa.ret;simp[Iz]
 ·have g:c1=false:=by simpa using g
  subst g;apply aa.skip;simp;refine aa.cz aC fw [(6,.v (.bool R))] ?_ ?_
  ·have zQ:(!c2&&decide (wW<bt))=R:=by
    rw[<-hR,<-gI];unfold iC;have:=Zay bU;by_cases z1:(bv l.ak bx).lt (bv l.ak ax)<;>by_cases z2:wW<bt<;>simp[this,z1,z2]
   cases c2
   ·simp[OU,h1,hk,x1,x2,gI]at zQ⊢;exact zQ
   ·simp[OU,h1,hk,x1,x2,gI]at zQ⊢;exact zQ
  apply aa.ret;simp[Iz]
def k117_ok:∀args ab,(Qj args ab).ok->(∀N,(∀r,N<=r->ab r=none)->aR aj 150 args ab (Qj args ab))/\∀r,ab r=none->(Qj args ab).ab r=none:=by
 intro args ab h;unfold Qj at h⊢;split at h
 ·rename_i q i j;obtain⟨⟨v,hv⟩,hr,⟨i0,i1⟩,j0,j1⟩:=h;rw[eW hv]at hr i1 j1⊢;obtain⟨i,rfl⟩:=Zae i0;obtain⟨j,rfl⟩:=Zae j0;exact⟨λN hN=>aR.of (t117 hN hv hr (by omega) (by omega)) rfl rfl,λr hr=>hr⟩
 ·exact h.elim
def ok117{l:List (Nat×DM.Spec)}(h:ay aj (bu l)):ay aj (bu ((150,eS Qj)::l)):=ay.gS h k117_ok
end
section
variable{f f0:bq}
def bH(f:bq)(q:Nat)(v:QV)(s:Qs):bq:=aM [(q,qB v.a v.hp v.m s),(v.hp,hB s),(v.m,mB s)] f
abbrev QV.to(v:QV)(s:Qs):QV:=⟨v.a,v.hp,v.m,v.l,s⟩
structure QV.Ne(v:QV)(q:Nat):Prop where
 qp:q≠v.hp
 qm:q≠v.m
 pm:v.hp≠v.m
 aq:v.a≠q
 ap:v.a≠v.hp
 am:v.a≠v.m
 sq:v.l.sp≠q
 sp:v.l.sp≠v.hp
 sm:v.l.sp≠v.m
 rq:v.l.rb≠q
 rp:v.l.rb≠v.hp
 rm:v.l.rb≠v.m
def QV.at.ne{v:QV}{q:Nat}(h:v.at f q):v.Ne q:=by
 obtain⟨h1,h2,h3,h4,h5,h6,h7⟩:=h;simp only[qB,hB,mB]at h1 h2 h3;have:=(U8 (d:=DV.undef) h6).2;refine⟨λe=>?_,λe=>?_,λe=>?_,λe=>?_,λe=>?_,λe=>?_,λe=>?_,λe=>?_,λe=>?_,λe=>?_,λe=>?_,λe=>?_⟩
 ·rw[e,h2]at h1;cases h1
 ·rw[e,h3]at h1;cases h1
 ·rw[e,h3]at h2;cases h2
 ·rw[e,h1]at h4;simp at h4
 ·rw[e,h2]at h4;cases h4
 ·rw[e,h3]at h4;cases h4
 ·rw[e,h1]at h5;simp only[Zaa,Ob.box.injEq]at h5;rw[<-h5]at this;simp at this
 ·rw[e,h2]at h5;cases h5
 ·rw[e,h3]at h5;cases h5
 ·rw[e,h1]at h7;cases h7
 ·rw[e,h2]at h7;simp at h7
 ·rw[e,h3]at h7;cases h7
def ig{v:QV}{q:Nat}(h:v.at f q)(s:Qs):(v.to s).at (bH f q v s) q:=by
 have n:=h.ne;obtain⟨h1,h2,h3,h4,h5,h6,h7⟩:=h;refine⟨by simp[bH],by simp[bH,Ne.symm n.qp],by simp[bH,Ne.symm n.qm,Ne.symm n.pm],⟨?_, ?_,h6, ?_⟩⟩
 ·simp[bH,n.aq,n.ap,n.am,h4]
 ·simp[bH,n.sq,n.sp,n.sm,h5]
 ·simp[bH,n.rq,n.rp,n.rm,h7]
def iY(f:bq)(q:Nat)(v:QV)(s s':Qs):bH (bH f q v s) q (v.to s) s'=bH f q v s':=by
 funext k;simp only[bH,aP,cm];by_cases h1:k=q<;>by_cases h2:k=v.hp<;>by_cases h3:k=v.m<;>simp[h1,h2,h3]
def gJ{v:QV}{q r:Nat}(h:v.at f q)(s:Qs)(hr:f r=none):bH f q v s r=none:=by
 have e1:r≠q:=λe=>by rw[e,h.q]at hr;cases hr
 have e2:r≠v.hp:=λe=>by rw[e,h.hp]at hr;cases hr
 have e3:r≠v.m:=λe=>by rw[e,h.m]at hr;cases hr
 simp[bH,e1,e2,e3,hr]
def rH{N aJ ba q:Nat}{tm:dw}{l:fA}{L:cV}{v:QV}(s:Qs)(aT:dh f0 N)(hv:v.at f0 q)(hn:N<=ba)(OB:v.s.bD<=s.bD)
  (hL:∀p∈L,p.1=q\/p.1=v.hp\/p.1=v.m\/N<=p.1) (h1:aM L f0 q=some (qB v.a v.hp v.m s)) (h2:aM L f0 v.hp=some (hB s)) (h3:aM L f0 v.m=some (mB s))
  (h4:aM L f0 v.a=f0 v.a)
  (ik:fR (aM L f0) (bH f0 q v s) id tm l):
  Le ⟨tm,aM L f0,aJ,N,[]⟩ ⟨DM.look l,bH f0 q v s,ba,N,[]⟩:=by
 have NK:q<N:=(aT q _ hv.q).1;have nu:v.hp<N:=(aT v.hp _ hv.hp).1;have BS:v.m<N:=(aT v.m _ hv.m).1;have n:=hv.ne;refine Le.dV aT hn ?_ ?_ ?_ ik
 ·simp;omega
 ·have:∀(L:cV),(∀p∈L,p.1=q\/p.1=v.hp\/p.1=v.m\/N<=p.1)->bK N [(q,qB v.a v.hp v.m s),(v.hp,hB s),(v.m,mB s)] L:=by
   intro L;induction L with
   |nil=>intro _;trivial
   |cons p L ih=>
    intro h;refine⟨λhq=>?_,ih λp hp=>h p (by simp[hp])⟩;rcases h p (by simp)with h|h|h|h
    ·exact⟨_,by rw[h];exact .head _⟩
    ·exact⟨_,by rw[h];exact .tail _ (.head _)⟩
    ·exact⟨_,by rw[h];exact .tail _ (.tail _ (.head _))⟩
    ·omega
  exact this _ hL
 ·refine⟨⟨_,h1,.inr ⟨rfl,λk hk=>?_⟩,λ_=>be _⟩,⟨_,h2,.inr ⟨rfl,λk hk=>by simp[aZ,hB]at hk⟩,λ_=>be _⟩,⟨_,h3,.inr ⟨rfl,λk hk=>?_⟩,λ_=>be _⟩,trivial⟩
  ·simp only[qB,aZ,bM,aN,ZaC,Zaq,Zah,Zal,or_false]at hk;rcases hk with rfl|rfl|rfl
   ·exact⟨_,_,h4.trans hv.l.a,by simp[n.aq,n.ap,n.am,hv.l.a],be _⟩
   ·exact⟨_,_,h2,by simp[Ne.symm n.qp],be _⟩
   ·exact⟨_,_,h3,by simp[Ne.symm n.qm,Ne.symm n.pm],be _⟩
  ·exfalso;simp only[mB,aZ,ZaV,uO,Zak]at hk;obtain⟨e,⟨e',_,rfl⟩,hk⟩:=hk;simp[aN]at hk
def Nw(l:Pl)(k:Int):sV l k=(l.map (·.2.1)).findIdx? (·==k):=by
 unfold sV;rw[List.findIdx?_map];rfl
def mW{l:Pl}{c:Nat}{k v:Int}{i:Nat}(h:sV l k=some i)(k':Int):sV (d8 l c k v) k'=sV l k':=by
 rw[Nw,Nw];unfold d8;rw[h];simp only;have h1:=lm (f:=λe:Nat×Int×Int=>e.2.1) (g:=λe=>(e.1,e.2.1,v)) (g':=id) (λ_=>rfl) l i;rw[Zdd]at h1;rw[<-h1]
def lj{l:Pl}{c:Nat}{k v:Int}{i:Nat}(h:sV l k=some i)(hk:pA l):pA (d8 l c k v):=by
 unfold d8 pA;rw[h];have h1:=lm (f:=λe:Nat×Int×Int=>e.1) (g:=λe=>(e.1,e.2.1,v)) (g':=id) (λ_=>rfl) l i;rw[Zdd]at h1;simp only;rw[<-h1];exact hk
def CW{l:Pl}{k:Int}{i:Nat}(h:sV l k=some i)(z:DV)(c:Nat):∃e,l[i]? =some e/\entV (ti k) z c (uO l)=.eo [.v (ti e.2.2),.v (ti e.1)]/\entE (ti k) z c (uO l)=uO l/\oR (ti k) c (uO l)=c:=by
 obtain⟨e,h1,h2,h3⟩:=zJ h;refine⟨e,h1, ?_, ?_, ?_⟩
 ·unfold entV;rw[Na,h3];rfl
 ·unfold entE;rw[zI,h]
 ·unfold oR;rw[zI,h]
def Qs.pO(s:Qs)(k:Int):Prop:=∃i,sV s.es k=some i
def Qs.swap(s:Qs)(i j:Int):Qs:=⟨(s.heap.set i.toNat (s.e j)).set j.toNat (s.e i),s.bD,d8 (d8 s.es s.mc (s.e j).h i) s.mc (s.e i).h j,s.mc,s.next,s.dv⟩
def Qs.dc(s:Qs)(i j:Int):Prop:=pA s.es/\(0<=i/\i<s.heap.length)/\(0<=j/\j<s.heap.length)/\s.pO (s.e i).h/\s.pO (s.e j).h
def t111{q N i j:Nat}{v:QV}(hN:∀r,N<=r->f0 r=none)(h:v.at f0 q)(hs:v.s.dc i j):
  aR aj 145 [.ptr q 0,.v (ti i),.v (ti j)] f0 ⟨True,.v (.eo []),bH f0 q v (v.s.swap i j)⟩:=by
 obtain⟨S,hS⟩:=bb (v.s.swap i j);rw[hS];have aC:=cF;have h0:=h;have n:=h.ne;refine c111.pQ hN (by simp) λaT=>?_;obtain⟨a,hp,m,l,⟨heap,bD,es,mc,next,dv⟩⟩:=v;obtain⟨h1,h2,h3,h4⟩:=h;obtain⟨s1,⟨_,s2⟩,⟨_,s3⟩,⟨i1,s4⟩,⟨i2,s5⟩⟩:=hs;simp only[qB,hB,mB,Qs.e,Zag]at h1 h2 h3 h4 s1 s2 s3 s4 s5;have hi:i<heap.length:=by omega
 have hj:j<heap.length:=by omega
 have NK:q<N:=(aT q _ h1).1;have nu:hp<N:=(aT hp _ h2).1;have BS:m<N:=(aT m _ h3).1;have r1:=dG hi;have r2:=dG hj;simp only[Qs.swap,Qs.e,Zag]at hS;obtain⟨ea,ex⟩:=bb (heap.getD i default);obtain⟨eb,ey⟩:=bb (heap.getD j default);simp only[ex,ey]at r1 r2 hS s4 s5;obtain⟨H,hH⟩:=bb ((heap.set i eb).set j ea);have hHl:H.length=heap.length:=by rw[<-hH];simp
 have pW:i<H.length:=by omega
 have hj':j<H.length:=by omega
 have r3:=dG pW;have r4:=dG hj';have e3:H.getD i default=eb:=by
  rw[<-hH];by_cases e:i=j
  ·subst e;rw[<-ex,<-ey];simp[List.getD,hi]
  ·have:j≠i:=λq=>e q.symm;simp[List.getD,this,hi]
 have e4:H.getD j default=ea:=by rw[<-hH];simp[List.getD,hj]
 rw[e3]at r3;rw[e4]at r4;have Dm:((dF heap).set i eb.enc).set j ea.enc=dF H:=by rw[<-hH,lg,lg]
 obtain⟨x1,y1,z1,z2,z3⟩:=CW s5 (.v (ti 0)) mc;obtain⟨E1,hE1⟩:=bb (d8 es mc eb.h i);have b1:=zz (v:=(i:Int)) s1 s5 y1 mc;rw[hE1]at b1 hS;have s6:sV E1 ea.h=some i1:=by rw[<-hE1,mW s5];exact s4
 have s7:pA E1:=by rw[<-hE1];exact lj s5 s1
 obtain⟨x2,y2,z4,z5,z6⟩:=CW s6 (.v (ti 0)) mc;have b2:=zz (v:=(j:Int)) s7 s6 y2 mc;obtain⟨E2,Jk⟩:=bb (d8 E1 mc ea.h j);rw[Jk]at b2 hS;rw[hH]at hS;obtain⟨ax,ah,wW⟩:=ea;obtain⟨bx,bh,bt⟩:=eb;simp only[kh.enc]at r1 r2 r3 r4 Dm z1 z2 z3 z4 z5 z6;simp;apply aa.ch aC fw [0,1,2];have hd:List.drop 3 (DM.rowAt ((dF heap).set i [ti bx,ti bh,ti bt]) (j:Int))=[]:=by
  rw[show(dF heap).set i [ti bx,ti bh,ti bt]=dF (heap.set i ⟨bx,bh,bt⟩)from(lg heap i ⟨bx,bh,bt⟩).symm,dG (by simpa using hj)];rfl
 simp[ZC,h1,h2,hi,hj,r1,r2,hd,Dm];obtain⟨V,hV⟩:=bb ((⟨a,hp,m,l,⟨heap,bD,es,mc,next,dv⟩⟩:QV):QV);have wq:V.a=a/\V.hp=hp/\V.m=m/\V.l=l:=by rw[<-hV];exact⟨rfl,rfl,rfl,rfl⟩
 obtain⟨S1,tF⟩:=bb ((⟨H,bD,es,mc,next,dv⟩:Qs):Qs);rw[hV]at h0 n⊢;have n2:=n;obtain⟨n1,F8,n3,n4,n5,n6,n7,n8,n9,n10,n11,n12⟩:=n;rw[wq.2.1]at n1 n3 n5;rw[wq.2.2.1]at F8 n3 n6;rw[wq.1]at n4 n5 n6;refine aa.le (rH (v:=V) S1 (l:=[(0,.ptr q 0),(1,.v (ti i)),(2,.v (ti j))]) (ba:=N+100) aT h0 (by omega) (by rw[<-hV,<-tF];exact Zaf _) ?_ ?_ ?_ ?_ ?_ ?_) ?_
 ·simp[wq]
 ·rw[wq.1,wq.2.1,wq.2.2.1,<-tF];simp[n1,h1,qB]
 ·rw[wq.2.1,<-tF];simp[hB]
 ·rw[wq.2.2.1,<-tF];simp[mB,Ne.symm n3,h3]
 ·rw[wq.1];simp[n5]
 ·simp[bH,qB]
 obtain⟨G,hG⟩:=bb (bH f0 q V S);rw[hG];simp only[bH,wq,<-tF,qB,hB,mB];have Hi:=Ne.symm n1;have Ka:=Ne.symm n3;have n22':=Ne.symm F8;refine aa.to ⟨DM.look [],bH f0 q V S,N+1000,N,[]⟩ ?_ (by simp[Rc,hG]);apply aa.fK aC fw [];simp[ZD,pW,hj',r3,r4,Hi,Ka,n22',z1,z2,z3,z4,z5,z6,b1,b2];refine rH S (l:=[]) (ba:=N+1000) aT h0 (by omega) (by rw[<-hV,<-hS];exact Zaf _) ?_ ?_ ?_ ?_ ?_ ?_
 ·simp[wq]
 ·rw[wq.1,wq.2.1,wq.2.2.1,<-hS];simp[F8,qB]
 ·rw[wq.2.1,<-hS];simp[n3,Hi,hB]
 ·rw[wq.2.2.1,<-hS];simp[mB]
 ·rw[wq.1];simp[n4,n5,n6]
 ·simp
end
section
variable{f f0:bq}{ak:bR}
noncomputable def Qm:bB->bq->fI
 |[.ptr q 0,.v (.int .i64 i),.v (.int .i64 j)],f=>⟨(∃v:QV,v.at f q)/\(eK f q).s.dc i j,.v (.eo []),bH f q (eK f q) ((eK f q).s.swap i j)⟩
 |_,f=>⟨False,.undef,f⟩
def JZ{v:QV}{q:Nat}{i j:Int}(h:v.at f q):Qm [.ptr q 0,.v (ti i),.v (ti j)] f=⟨v.s.dc i j,.v (.eo []),bH f q v (v.s.swap i j)⟩:=by
 have hx:∃v:QV,v.at f q:=⟨v,h⟩;simp only[Qm,eW h,hx,true_and]
def k111_ok:∀args ab,(Qm args ab).ok->(∀N,(∀r,N<=r->ab r=none)->aR aj 145 args ab (Qm args ab))/\∀r,ab r=none->(Qm args ab).ab r=none:=by
 intro args ab h;unfold Qm at h⊢;split at h
 ·rename_i q i j;obtain⟨⟨v,hv⟩,hs⟩:=h;rw[eW hv]at hs⊢;have hs':=hs;obtain⟨_,⟨i0,_⟩,⟨j0,_⟩,_⟩:=hs';obtain⟨i,rfl⟩:=Zae i0;obtain⟨j,rfl⟩:=Zae j0;exact⟨λN hN=>aR.of (t111 hN hv hs) rfl rfl,λr hr=>gJ hv _ hr⟩
 ·exact h.elim
def ok111{l:List (Nat×DM.Spec)}(h:ay aj (bu l)):ay aj (bu ((145,eS Qm)::l)):=ay.gS h k111_ok
structure Qs.ok(s:Qs)(ak:bR):Prop where
 pl:pA s.es
 st:∀e∈s.es,e.1<s.mc
 pO:∀e∈s.heap,s.pO e.h
 r:s.inR ak
def Qs.nC{s:Qs}{i j:Int}(hi:i.toNat<s.heap.length)(hj:j.toNat<s.heap.length){e:kh}(h:e∈(s.swap i j).heap):e∈s.heap:=by
 rcases ZaS h with h|rfl
 ·rcases ZaS h with h|rfl
  ·exact h
  ·exact bm hj
 ·exact bm hi
def Qs.ok.dc{s:Qs}(h:s.ok ak){i j:Int}(hi:0<=i/\i<s.heap.length)(hj:0<=j/\j<s.heap.length):s.dc i j:=
 ⟨h.pl,hi,hj,h.pO _ (bm (by omega)),h.pO _ (bm (by omega))⟩
def Qs.ok.swap{s:Qs}(h:s.ok ak){i j:Int}(hi:0<=i/\i<s.heap.length)(hj:0<=j/\j<s.heap.length):(s.swap i j).ok ak:=by
 obtain⟨_,_,_,⟨i1,s4⟩,⟨i2,s5⟩⟩:=h.dc hi hj;have s6:sV (d8 s.es s.mc (s.e j).h i) (s.e i).h=some i1:=by rw[mW s5];exact s4
 have la:∀{l:Pl} {c:Nat} {k v:Int} {i:Nat},sV l k=some i->pA l->(∀e∈l,e.1<c)->∀e∈d8 l c k v,e.1<c:=by
  intro l c k v i hk hl hc e he;have:=(zA (k:=k) (v:=v) hl hc).2 e he;unfold wr at this;rw[hk]at this;exact this
 refine⟨lj s6 (lj s5 h.pl),la s6 (lj s5 h.pl) (la s5 h.pl h.st),λe he=>?_,λe he=>h.r e (Qs.nC (by omega) (by omega) he)⟩;obtain⟨k,hk⟩:=h.pO e (Qs.nC (by omega) (by omega) he);exact⟨k,by show sV (d8 _ _ _ _) _=_;rw[mW s6,mW s5];exact hk⟩
@[simp] def Qs.dI(s:Qs)(i j:Int):(s.swap i j).heap.length=s.heap.length:=by simp[Qs.swap]
@[simp] def Qs.swap_ver(s:Qs)(i j:Int):(s.swap i j).bD=s.bD:=rfl
def tQ(ak:bR)(i:Nat)(s:Qs):Qs:=
 if h:0<i/\iC ak (s.e i) (s.e ((i-1)/2:Nat))then tQ ak ((i-1)/2) (s.swap i ((i-1)/2:Nat))else s
termination_by i
decreasing_by omega
def rJ{N aJ ba q:Nat}{tm:dw}{l:fA}{v:QV}(s:Qs)(aT:dh f0 N)(hv:v.at f0 q)(hn:N<=ba)(OB:v.s.bD<=s.bD)
  (ik:fR (bH f0 q v s) (bH f0 q v s) id tm l):
  Le ⟨tm,bH f0 q v s,aJ,N,[]⟩ ⟨DM.look l,bH f0 q v s,ba,N,[]⟩:=by
 have k:=ig hv s;have n:=hv.ne;refine rH s aT hv hn OB ?_ k.q k.hp k.m ?_ ik
 ·simp
 ·simp[n.aq,n.ap,n.am]
def t109{q N i:Nat}{v:QV}(hN:∀r,N<=r->f0 r=none)(h:v.at f0 q)(hs:v.s.ok v.l.ak)(hi:i<v.s.heap.length)(dM:v.s.heap.length<=1000000):
  aR aj 142 [.ptr q 0,.v (ti i)] f0 ⟨True,.v (.eo []),bH f0 q v (tQ v.l.ak i v.s)⟩:=by
 obtain⟨R,hR⟩:=bb (tQ v.l.ak i v.s);rw[hR];have aC:=ok117 (ok111 ay.nil);refine c109.pQ hN (by simp) λaT=>?_;have en:∀s,bH f0 q v s q=some (qB v.a v.hp v.m s):=λs=>(ig h s).q;simp;apply aa.block;refine aa.loop (λp:Nat×Qs=>⟨DM.look [(0,.ptr q 0),(1,.v (ti p.1))],bH f0 q v p.2,N+1000,N,[]⟩)
  (λp=>p.1<p.2.heap.length/\p.2.ok v.l.ak/\tQ v.l.ak p.1 p.2=R/\p.2.heap.length<=1000000/\p.2.bD=v.s.bD) (λp=>p.1) (i,v.s) ?_ ⟨hi,hs,hR,dM,rfl⟩ (λp hp=>?_)
 ·refine rH v.s (L:=[]) aT h (by omega) (Zaf _) (by simp) h.q h.hp h.m rfl ?_;simp[en,qB]
 obtain⟨i,s⟩:=p;obtain⟨p1,p2,p3,p4,p5⟩:=hp;simp only at p1 p2 p3 p4 p5;have hv:=ig h s;have k1:=λx y=>U9 (i:=x) (j:=y) hv;have k2:=λx y=>JZ (i:=x) (j:=y) hv;have e0:∀s',bH (bH f0 q v s) q (v.to s) s'=bH f0 q v s':=iY f0 q v s;simp only[QV.to,Qs.e]at k1 k2;unfold tQ at p3;by_cases hz:i=0
 ·subst hz;rw[ZcT (by omega)]at p3;subst p3;apply aa.seq;apply aa.cX aC fw (rs:=yN) rfl (by kernel_rfl) [13];simp[yN];refine aa.cond rfl (λg=>by cases g) (λg=>?_);apply aa.exit;simp[IB]
 ·have w1:IntKind.i64.wrap ((i:Int)-1)=((i-1:Nat):Int):=by rw[aF (by omega)];omega
  have w2:IntKind.i64.wrap (((i-1:Nat):Int).tdiv 2)=(((i-1)/2:Nat):Int):=by rw[DP (by omega),aF (by omega)];omega
  have w3:IntKind.i64.wrap (((i-1:Nat):Int)/2)=(((i-1)/2:Nat):Int):=by rw[aF (by omega)];omega
  obtain⟨c1,bU⟩:=bb (decide (iC v.l.ak (s.e i) (s.e ((i-1)/2:Nat))):Bool);have gI:=bU;simp only[Qs.e,Zag]at gI;have hz':0<i:=by omega
  have ym:(i-1)/2<s.heap.length:=by omega
  apply aa.seq;apply aa.cX aC fw (rs:=yN) rfl (by kernel_rfl) [0,1,13];obtain⟨y,hy⟩:=bb ((i-1)/2);rw[hy]at w2 w3 bU gI ym p3;simp[yN,w1,w3,k1,hz',ym,p1,p2.r];refine aa.cond rfl (λg=>?_) (λg=>?_)
  ·have g:c1=true:=by rw[<-bU];simpa [Qs.e,p1,ym]using g
   subst g;rw[ZcV ⟨hz',Zat bU⟩]at p3;have so:=p2.dc (i:=i) (j:=y) ⟨by omega,by omega⟩ ⟨by omega,by omega⟩;have so2:=p2.swap (i:=i) (j:=y) ⟨by omega,by omega⟩ ⟨by omega,by omega⟩;apply aa.skip;simp;apply aa.block;apply aa.cX aC fw (rs:=IA) rfl (by kernel_rfl) [0,1];simp[IA,w1,w3,k2,so,e0];apply aa.fK aC fw [0,1];simp[ZE,w1,w3];refine⟨y,s.swap i y,rJ _ aT h (by omega) (by simp[p5]) ?_,⟨by simpa using ym,so2,p3,by simpa using p4,by simpa using p5⟩,by omega⟩;simp[en,qB]
  ·have g:c1=false:=by rw[<-bU];simpa [Qs.e,p1,ym]using g
   subst g;rw[ZcT λx=>Zay bU x.2]at p3;subst p3;apply aa.exit;simp[IB]
noncomputable def Qn:bB->bq->fI
 |[.ptr q 0,.v (.int .i64 i)],f=>⟨(∃v:QV,v.at f q)/\(eK f q).s.ok (eK f q).l.ak/\(0<=i/\i<(eK f q).s.heap.length)/\(eK f q).s.heap.length<=1000000,.v (.eo []),bH f q (eK f q) (tQ (eK f q).l.ak i.toNat (eK f q).s)⟩
 |_,f=>⟨False,.undef,f⟩
def U2{v:QV}{q:Nat}{i:Int}(h:v.at f q):Qn [.ptr q 0,.v (ti i)] f=⟨v.s.ok v.l.ak/\(0<=i/\i<v.s.heap.length)/\v.s.heap.length<=1000000,.v (.eo []),bH f q v (tQ v.l.ak i.toNat v.s)⟩:=by
 have hx:∃v:QV,v.at f q:=⟨v,h⟩;simp only[Qn,eW h,hx,true_and]
def k109_ok:∀args ab,(Qn args ab).ok->(∀N,(∀r,N<=r->ab r=none)->aR aj 142 args ab (Qn args ab))/\∀r,ab r=none->(Qn args ab).ab r=none:=by
 intro args ab h;unfold Qn at h⊢;split at h
 ·rename_i q i;obtain⟨⟨v,hv⟩,hs,⟨i0,i1⟩,hl⟩:=h;rw[eW hv]at hs i1 hl⊢;obtain⟨i,rfl⟩:=Zae i0;exact⟨λN hN=>aR.of (t109 hN hv hs (by omega) hl) rfl rfl,λr hr=>gJ hv _ hr⟩
 ·exact h.elim
def ok109{l:List (Nat×DM.Spec)}(h:ay aj (bu l)):ay aj (bu ((142,eS Qn)::l)):=ay.gS h k109_ok
end
def tR(ak:bR)(s:Qs)(i:Nat):Nat->Nat
 |0=>i
 |t+1=>if iC ak (s.e (2*i+1+t:Nat)) (s.e (tR ak s i t))then 2*i+1+t else tR ak s i t
def kg(s:Qs)(i:Nat):Nat:=min 2 (s.heap.length-(2*i+1))
def dt(ak:bR)(s:Qs)(i:Nat):Nat:=tR ak s i (kg s i)
def sX(ak:bR)(s:Qs)(i:Nat):∀t,tR ak s i t=i\/(2*i+1<=tR ak s i t/\tR ak s i t<2*i+1+t)
 |0=>.inl rfl
 |t+1=>by
  have:=sX ak s i t;unfold tR;split<;>omega
def gZ(ak:bR)(s:Qs)(i:Nat):dt ak s i=i\/(i<dt ak s i/\dt ak s i<s.heap.length):=by
 have:=sX ak s i (kg s i);unfold dt;unfold kg at*
 omega
def fm(ak:bR)(i:Nat)(s:Qs):Qs:=
 if h:dt ak s i=i then s else fm ak (dt ak s i) (s.swap i (dt ak s i:Nat))
termination_by s.heap.length-i
decreasing_by
 have:=gZ ak s i;simp only[Qs.dI];omega
def t110{f0:bq}{q N i:Nat}{v:QV}(hN:∀r,N<=r->f0 r=none)(h:v.at f0 q)(hs:v.s.ok v.l.ak)(hi:i<=1000000)(dM:v.s.heap.length<=1000000):
  aR aj 143 [.ptr q 0,.v (ti i)] f0 ⟨True,.v (.eo []),bH f0 q v (fm v.l.ak i v.s)⟩:=by
 obtain⟨R,hR⟩:=bb (fm v.l.ak i v.s);rw[hR];have aC:=ok117 (ok111 ay.nil);refine c110.pQ hN (by simp) λaT=>?_;have en:∀s,bH f0 q v s q=some (qB v.a v.hp v.m s):=λs=>(ig h s).q;simp;apply aa.block;refine aa.loop (λp:Nat×Qs=>⟨DM.look [(0,.ptr q 0),(1,.v (ti p.1))],bH f0 q v p.2,N+1000,N,[]⟩)
  (λp=>p.1<=1000000/\p.2.ok v.l.ak/\fm v.l.ak p.1 p.2=R/\p.2.heap.length<=1000000/\p.2.bD=v.s.bD) (λp=>p.2.heap.length-p.1) (i,v.s) ?_ ⟨hi,hs,hR,dM,rfl⟩ (λp hp=>?_)
 ·refine rH v.s (L:=[]) aT h (by omega) (Zaf _) (by simp) h.q h.hp h.m rfl ?_;simp[en,qB]
 obtain⟨i,s⟩:=p;obtain⟨p1,p2,p3,p4,p5⟩:=hp;simp only at p1 p2 p3 p4 p5;have hv:=ig h s;have k1:=λx y=>U9 (i:=x) (j:=y) hv;have k2:=λx y=>JZ (i:=x) (j:=y) hv;have e0:∀s',bH (bH f0 q v s) q (v.to s) s'=bH f0 q v s':=iY f0 q v s;have hq:=hv.q;have hh:=hv.hp;simp only[QV.to,Qs.e,qB,hB]at k1 k2 hq hh;have w1:IntKind.i64.wrap (2*(i:Int))=2*(i:Int):=aF (by omega);have w2:IntKind.i64.wrap (2*(i:Int)+1)=2*(i:Int)+1:=aF (by omega);have w3:IntKind.i64.wrap (2*(i:Int)+2)=2*(i:Int)+2:=aF (by omega);apply aa.block;apply aa.ch aC fw [0,1,4];simp[ZF];apply aa.seq;apply aa.ch aC fw [0,1,4,5];simp[ZG,w1,w2];apply aa.block;refine aa.loop (λt:Nat=>⟨DM.look [(0,.ptr q 0),(1,.v (ti i)),(4,.v (ti (tR v.l.ak s i t))),(5,.v (ti (2*i+1+t:Nat)))],bH f0 q v s,N+2000,N,[]⟩)
  (λt=>t<=kg s i) (λt=>2-t) 0 (rJ _ aT h (by omega) (by simp[p5]) ?_) (by omega) (λt ht=>?_)
 ·simp[en,qB,tR]
 have hkid:kg s i<=2/\(kg s i<=s.heap.length-(2*i+1))/\(kg s i=2\/kg s i=s.heap.length-(2*i+1)):=by unfold kg;omega
 obtain⟨L,hL⟩:=bb (tR v.l.ak s i t);have hLo:=sX v.l.ak s i t;rw[hL]at hLo⊢;obtain⟨K,hK⟩:=bb (2*i+1+t);rw[hK]at hLo⊢;obtain⟨c1,bU⟩:=bb (decide (t<kg s i):Bool);apply aa.seq;refine aa.cz aC fw [(0,.ptr q 0),(1,.v (ti i)),(4,.v (ti L)),(5,.v (ti K)),(23,.v (.bool c1))] ?_ ?_
 ·by_cases z1:t<2
  ·have z2:(K:Int)<=2*(i:Int)+2:=by omega
   by_cases z3:K<s.heap.length
   ·have:c1=true:=by rw[<-bU];simp;omega
    simp[IC,w1,w3,hq,hh,z2,z3,this]
   ·have:c1=false:=by rw[<-bU];simp;omega
    simp[IC,w1,w3,hq,hh,z2,z3,this]
  ·have z2:¬(K:Int)<=2*(i:Int)+2:=by omega
   have:c1=false:=by rw[<-bU];simp;omega
   simp[IC,w1,w3,z2,this]
 refine aa.cond rfl (λg=>?_) (λg=>?_)
 ·have g:c1=true:=by simpa using g
  subst g;have ht2:t<kg s i:=Zat bU;have hKl:K<s.heap.length:=by omega
  have Xq:L<s.heap.length:=by omega
  have wK:IntKind.i64.wrap ((K:Int)+1)=((2*i+1+(t+1):Nat):Int):=by rw[aF (by omega)];omega
  have nU:tR v.l.ak s i (t+1)=if iC v.l.ak (s.e K) (s.e L)then K else L:=by
   have:tR v.l.ak s i (t+1)=if iC v.l.ak (s.e (2*i+1+t:Nat)) (s.e (tR v.l.ak s i t))then 2*i+1+t else tR v.l.ak s i t:=rfl
   rw[this,hK,hL]
  apply aa.skip;simp;apply aa.seq;apply aa.block;apply aa.cX aC fw (rs:=ID) rfl (by kernel_rfl) [0,1,4,5,29];simp[ID,k1,p2.r,hKl,Xq];obtain⟨c2,gI⟩:=bb (decide (iC v.l.ak (s.e K) (s.e L)):Bool);refine aa.to ⟨DM.look [(0,.ptr q 0),(1,.v (ti i)),(4,.v (ti (tR v.l.ak s i (t+1)))),(5,.v (ti K))],bH f0 q v s,N+4000,N,[]⟩ ?_ ?_
  ·refine aa.cond rfl (λg=>?_) (λg=>?_)
   ·have g:iC v.l.ak (s.e K) (s.e L):=by simpa [Qs.e,hKl,Xq]using g
    rw[Zai g]at nU;apply aa.fK aC fw [0,1,4,5];simp[ZH];refine rJ _ aT h (by omega) (by simp[p5]) ?_;simp[en,qB,nU]
   ·have g:¬iC v.l.ak (s.e K) (s.e L):=by simpa [Qs.e,hKl,Xq]using g
    rw[Zab g]at nU;apply aa.skip;simp;refine rJ _ aT h (by omega) (by simp[p5]) ?_;simp[en,qB,nU]
  simp;apply aa.fK aC fw [0,1,4,5];simp[ZI,wK];refine⟨t+1,rJ _ aT h (by omega) (by simp[p5]) ?_,by omega,by omega⟩;simp[en,qB]
 ·have g:c1=false:=by simpa using g
  subst g;have ht2:t=kg s i:=by have:=Zay bU;omega
  have hLs:dt v.l.ak s i=L:=by rw[<-hL,ht2];rfl
  unfold fm at p3;rw[hLs]at p3;apply aa.exit;simp;apply aa.seq;apply aa.ch aC fw [0,1,4,33];simp[ZJ];refine aa.cond rfl (λg=>?_) (λg=>?_)
  ·have g:L=i:=by simp at g;omega
   rw[ZcV g]at p3;subst p3;apply aa.ret;simp[Rd]
  ·have g:¬L=i:=by simp at g;omega
   rw[ZcT g]at p3;have Xq:i<L/\L<s.heap.length:=by have:=gZ v.l.ak s i;omega
   have so:=p2.dc (i:=i) (j:=L) ⟨by omega,by omega⟩ ⟨by omega,by omega⟩;have so2:=p2.swap (i:=i) (j:=L) ⟨by omega,by omega⟩ ⟨by omega,by omega⟩;apply aa.skip;simp;apply aa.cX aC fw (rs:=IE) rfl (by kernel_rfl) [0,4];simp[IE,k2,so,e0];apply aa.fK aC fw [0,1];simp[ZK];refine⟨L,s.swap i L,rJ _ aT h (by omega) (by simp[p5]) ?_,⟨by omega,so2,p3,by simpa using p4,by simpa using p5⟩,by simp;omega⟩;simp[en,qB]
noncomputable def Qo:bB->bq->fI
 |[.ptr q 0,.v (.int .i64 i)],f=>⟨(∃v:QV,v.at f q)/\(eK f q).s.ok (eK f q).l.ak/\(0<=i/\i<=1000000)/\(eK f q).s.heap.length<=1000000,.v (.eo []),bH f q (eK f q) (fm (eK f q).l.ak i.toNat (eK f q).s)⟩
 |_,f=>⟨False,.undef,f⟩
def U3{v:QV}{f:bq}{q:Nat}{i:Int}(h:v.at f q):Qo [.ptr q 0,.v (ti i)] f=⟨v.s.ok v.l.ak/\(0<=i/\i<=1000000)/\v.s.heap.length<=1000000,.v (.eo []),bH f q v (fm v.l.ak i.toNat v.s)⟩:=by
 have hx:∃v:QV,v.at f q:=⟨v,h⟩;simp only[Qo,eW h,hx,true_and]
def k110_ok:∀args ab,(Qo args ab).ok->(∀N,(∀r,N<=r->ab r=none)->aR aj 143 args ab (Qo args ab))/\∀r,ab r=none->(Qo args ab).ab r=none:=by
 intro args ab h;unfold Qo at h⊢;split at h
 ·rename_i q i;obtain⟨⟨v,hv⟩,hs,⟨i0,i1⟩,hl⟩:=h;rw[eW hv]at hs hl⊢;obtain⟨i,rfl⟩:=Zae i0;exact⟨λN hN=>aR.of (t110 hN hv hs (by omega) hl) rfl rfl,λr hr=>gJ hv _ hr⟩
 ·exact h.elim
def ok110{l:List (Nat×DM.Spec)}(h:ay aj (bu l)):ay aj (bu ((143,eS Qo)::l)):=ay.gS h k110_ok
def fM(s:Qs)(x:Int):Qs:=⟨s.heap++[⟨x,s.next,s.dv⟩],s.bD+1,d8 s.es s.mc s.next s.heap.length,wr s.es s.mc s.next,s.next+1,s.dv+1⟩
def gX(ak:bR)(s:Qs)(x:Int):Qs:=tQ ak s.heap.length (fM s x)
def vW{α:Type}{p:α->Bool}{a b:List α}{i:Nat}(h:a.findIdx? p=some i):(a++b).findIdx? p=some i:=by
 rw[List.findIdx?_append,h];rfl
def BV{l:Pl}{c:Nat}{k v k':Int}{i:Nat}(h:sV l k'=some i):sV (d8 l c k v) k'=some i:=by
 cases hk:sV l k with
 |some j=>rw[mW hk];exact h
 |none=>
  unfold d8;rw[hk];exact vW h
def BW(l:Pl)(c:Nat)(k v:Int):∃i,sV (d8 l c k v) k=some i:=by
 cases hk:sV l k with
 |some j=>exact⟨j,by rw[mW hk];exact hk⟩
 |none=>
  unfold d8;rw[hk];unfold sV at hk⊢;rw[List.findIdx?_append,hk];exact⟨_,by simp;rfl⟩
def uS{s:Qs}{ak:bR}{x:Int}(h:s.ok ak)(hx:0<=x/\x<ak.length):(fM s x).ok ak:=by
 obtain⟨h1,h2⟩:=zA (k:=s.next) (v:=s.heap.length) h.pl h.st;refine⟨h1,h2,λe he=>?_,λe he=>?_⟩
 ·rcases Zaq.1 he with he|he
  ·obtain⟨i,hi⟩:=h.pO e he;exact⟨i,BV hi⟩
  ·simp at he;subst he;exact BW _ _ _ _
 ·rcases Zaq.1 he with he|he
  ·exact h.r e he
  ·simp at he;subst he;exact hx
def xm(s:Qs)(ak:bR)(x:Int):Prop:=s.ok ak/\(0<=x/\x<ak.length)/\s.heap.length<=100000/\(0<=s.next/\s.next<=1000000000000)/\(0<=s.dv/\s.dv<=1000000000000)
def t82{f0:bq}{q N:Nat}{x:Int}{v:QV}(hN:∀r,N<=r->f0 r=none)(h:v.at f0 q)(hs:xm v.s v.l.ak x):
  aR aj 121 [.ptr q 0,.v (ti x)] f0 ⟨True,.v (ti v.s.next),bH f0 q v (gX v.l.ak v.s x)⟩:=by
 obtain⟨ho,hx,h5,h6,h7⟩:=hs;have nH:=uS ho hx;obtain⟨R,hR⟩:=bb (gX v.l.ak v.s x);rw[hR];unfold gX at hR;obtain⟨S,hS⟩:=bb (fM v.s x);rw[hS]at hR nH;have aC:=ok109 ay.nil;refine c82.pQ hN (by simp) λaT=>?_;have en:∀s,bH f0 q v s q=some (qB v.a v.hp v.m s):=λs=>(ig h s).q;obtain⟨n1,n2,n3,n4,n5,n6,_,_,_,_,_,_⟩:=h.ne;have Hi:=Ne.symm n1;have F8:=Ne.symm n2;have Ka:=Ne.symm n3;have h1:=h.q;have h2:=h.hp;have h3:=h.m;simp only[qB,hB,mB]at h1 h2 h3;obtain⟨nx,Dx⟩:=bb v.s.next;obtain⟨ck,Cy⟩:=bb v.s.dv;obtain⟨hp,lU⟩:=bb v.hp;obtain⟨m,hm⟩:=bb v.m;obtain⟨bD,hve⟩:=bb v.s.bD;have hSd:S=⟨v.s.heap++[⟨x,nx,ck⟩],bD+1,d8 v.s.es v.s.mc nx v.s.heap.length,wr v.s.es v.s.mc nx,nx+1,ck+1⟩:=by rw[<-hS,<-Dx,<-Cy,<-hve];rfl
 rw[Dx,Cy,lU,hve]at h1;rw[hm]at h1 h3;rw[lU,hve]at h2;rw[Dx]at h6;rw[Cy]at h7;rw[lU]at n1 n3 n5 Hi Ka;rw[hm]at n2 n3 n6 F8 Ka;rw[Dx];have w1:IntKind.i64.wrap (nx+1)=nx+1:=aF (by omega);have w2:IntKind.i64.wrap (ck+1)=ck+1:=aF (by omega);have TU:dK 24 (v.s.heap.length+1):=by simp[dK];omega
 simp;apply aa.ch aC fw [0,1];simp[d82r0];apply aa.ch aC fw [0,1,5,6];simp[d82r1,h1,h2];apply aa.ch aC fw [0,5,6];have hch:fU 3 1 [ti x,ti nx,ti ck]=[[ti x,ti nx,ti ck]]:=rfl;simp[d82r2,h1,h2,n1,hch,TU];apply aa.ch aC fw [0,5,6];simp[d82r3,h3,F8,Ka,MS,FK];apply aa.ch aC fw [0,5,6];simp[d82r4,w1,w2,n2];refine aa.le (rH (v:=v) S (l:=[(0,.ptr q 0),(5,.v (ti nx)),(6,.v (ti v.s.heap.length))]) (ba:=N+2000) aT h (by omega) (by rw[hve,hSd];simp) ?_ ?_ ?_ ?_ ?_ ?_) ?_
 ·rw[lU,hm];simp
 ·rw[lU,hm,hSd];simp[qB]
 ·rw[lU,hSd];simp[Hi,n3,hB,sS];rfl
 ·rw[hm,hSd];simp[F8,mB]
 ·simp[n4,n5,n6]
 ·simp[en,qB]
 have k1:=λy=>U2 (i:=y) (ig h S);have hl:S.heap.length=v.s.heap.length+1:=by rw[hSd];simp
 have e0:∀s',bH (bH f0 q v S) q (v.to S) s'=bH f0 q v s':=iY f0 q v S;simp only[QV.to]at k1 e0;apply aa.cX aC fw (rs:=OV) rfl (by kernel_rfl) [5];simp[OV,k1,nH,hl,e0,hR];refine⟨by omega, ?_⟩;apply aa.ch aC fw [4];simp[d82r6];apply aa.ret;simp[ZL]
noncomputable def k82:bB->bq->fI
 |[.ptr q 0,.v (.int .i64 x)],f=>⟨(∃v:QV,v.at f q)/\xm (eK f q).s (eK f q).l.ak x,.v (ti (eK f q).s.next),bH f q (eK f q) (gX (eK f q).l.ak (eK f q).s x)⟩
 |_,f=>⟨False,.undef,f⟩
def k82_eq{v:QV}{f:bq}{q:Nat}{x:Int}(h:v.at f q):k82 [.ptr q 0,.v (ti x)] f=⟨xm v.s v.l.ak x,.v (ti v.s.next),bH f q v (gX v.l.ak v.s x)⟩:=by
 have hx:∃v:QV,v.at f q:=⟨v,h⟩;simp only[k82,eW h,hx,true_and]
def k82_ok:∀args ab,(k82 args ab).ok->(∀N,(∀r,N<=r->ab r=none)->aR aj 121 args ab (k82 args ab))/\∀r,ab r=none->(k82 args ab).ab r=none:=by
 intro args ab h;unfold k82 at h⊢;split at h
 ·rename_i q x;obtain⟨⟨v,hv⟩,hs⟩:=h;rw[eW hv]at hs⊢;exact⟨λN hN=>aR.of (t82 hN hv hs) rfl rfl,λr hr=>gJ hv _ hr⟩
 ·exact h.elim
def ok82{l:List (Nat×DM.Spec)}(h:ay aj (bu l)):ay aj (bu ((121,eS k82)::l)):=ay.gS h k82_ok
def fT(s:Qs):Qs:=let s1:=s.swap 0 ((s.heap.length:Int)-1)
 ⟨s1.heap.take (s.heap.length-1),s1.bD+1,nD s1.es (s.e 0).h,s1.mc,s1.next,s1.dv⟩
def fC(ak:bR)(s:Qs):Qs:=if s.heap=[]then s else fm ak 0 (fT s)
def uT(s:Qs):T:=if s.heap=[]then .eo [ti 0,.bool false]else .eo [ti (s.e 0).x,.bool true]
def UV{l:Pl}{k k':Int}(h:k≠k'):(∃i,sV l k'=some i)->∃i,sV (nD l k) k'=some i:=by
 rintro⟨i,hi⟩;unfold nD;cases hk:sV l k with
 |none=>exact⟨i,hi⟩
 |some j=>
  obtain⟨e,h1,h2,_⟩:=zJ hi;obtain⟨e',h3,h4,_⟩:=zJ hk;have bT:i≠j:=λx=>by
   subst x;rw[h1]at h3;cases h3;simp at h2 h4;exact h (h4.symm.trans h2)
  have kx:e∈l.eraseIdx j:=List.mem_eraseIdx_iff_getElem?.2 ⟨i,bT,h1⟩;have:(List.findIdx? (λe=>e.2.1==k') (l.eraseIdx j)).isSome=true:=by
   rw[List.findIdx?_isSome,Zce];exact⟨e,kx,h2⟩
  exact Zbp.1 this
def MT{l:Pl}{k:Int}{c:Nat}(h:pA l)(hc:∀e∈l,e.1<c):pA (nD l k)/\∀e∈nD l k,e.1<c:=by
 unfold nD;cases sV l k with
 |none=>exact⟨h,hc⟩
 |some j=>
  refine⟨?_,λe he=>hc e (ZcA he)⟩;unfold pA;rw[<-qH];exact h.eraseIdx j
def Qs.nd(s:Qs):Prop:=∀i j:Nat,i<s.heap.length->j<s.heap.length->(s.e i).h=(s.e j).h->i=j
def zw{s:Qs}{ak:bR}(h:s.ok ak)(hn:s.nd)(hl:0<s.heap.length):(fT s).ok ak:=by
 have h1:=h.swap (i:=0) (j:=(s.heap.length:Int)-1) ⟨by omega,by omega⟩ ⟨by omega,by omega⟩;obtain⟨a1,a2⟩:=MT (k:=(s.e 0).h) h1.pl h1.st;refine⟨a1,a2,λe he=>?_,λe he=>h1.r e (ZaE he)⟩;have he1:e∈(s.swap 0 ((s.heap.length:Int)-1)).heap:=ZaE he;refine UV (λhk=>?_) (h1.pO e he1);obtain⟨y,hy,rfl⟩:=ZaO he;simp only[fT,ZaB,Qs.dI]at hy;have lq:y<s.heap.length-1:=by omega
 have fJ:y<s.heap.length:=by omega
 have Wk:((s.heap.length:Int)-1).toNat=s.heap.length-1:=by omega
 by_cases hz:y=0
 ·subst hz;have Xj:s.heap.length-1<s.heap.length:=by omega
  have:(fT s).heap[0]=s.e ((s.heap.length-1:Nat):Int):=by
   have h0:¬s.heap.length-1=0:=by omega
   simp only[fT,Qs.swap,ZcE,Wk,ZcW,Zb1,h0,if_false,if_true];rw[show(s.heap.length:Int)-1=((s.heap.length-1:Nat):Int)by omega]
  rw[this]at hk;have:=hn 0 (s.heap.length-1) hl (by omega) (by simpa using hk);omega
 ·have:(fT s).heap[y]=s.e (y:Int):=by
   have h0:¬s.heap.length-1=y:=by omega
   have h00:¬0=y:=by omega
   simp only[fT,Qs.swap,ZcE,Wk,ZcW,Zb1,h0,h00,if_false,Qs.e,Zag];simp[List.getD,fJ]
  rw[this]at hk;have:=hn 0 y hl fJ (by simpa using hk);omega
def wo(s:Qs)(ak:bR):Prop:=s.ok ak/\s.nd/\s.heap.length<=1000000
def t85{f0:bq}{q N:Nat}{v:QV}(hN:∀r,N<=r->f0 r=none)(h:v.at f0 q)(hs:wo v.s v.l.ak):
  aR aj 124 [.ptr q 0] f0 ⟨True,.v (uT v.s),bH f0 q v (fC v.l.ak v.s)⟩:=by
 obtain⟨ho,yd,dM⟩:=hs;obtain⟨RV,PP⟩:=bb (uT v.s);obtain⟨R,hR⟩:=bb (fC v.l.ak v.s);rw[hR,PP];unfold fC at hR;unfold uT at PP;have aC:=ok111 (ok110 ay.nil);refine c85.pQ hN (by simp) λaT=>?_;have en:∀s,bH f0 q v s q=some (qB v.a v.hp v.m s):=λs=>(ig h s).q;have NK:q<N:=(aT q _ h.q).1;have nu:v.hp<N:=(aT v.hp _ h.hp).1;have BS:v.m<N:=(aT v.m _ h.m).1;obtain⟨n1,n2,n3,n4,n5,n6,_,_,_,_,_,_⟩:=h.ne;have Hi:=Ne.symm n1;have F8:=Ne.symm n2;have Ka:=Ne.symm n3;have n4':=Ne.symm n4;have h1:=h.q;have h2:=h.hp;have h3:=h.m;simp only[qB,hB,mB]at h1 h2 h3;have nq:∀k,q≠N+k:=λk=>by omega
 have np:∀k,v.hp≠N+k:=λk=>by omega
 have nm:∀k,v.m≠N+k:=λk=>by omega
 have na:∀k,v.a≠N+k:=λk=>by have:=(aT v.a _ h.l.a).1;omega
 simp;apply aa.ch aC fw [0,2,3];simp[d85r0];apply aa.seq;apply aa.ch aC fw [0,2,3,11];simp[d85r1,h1,h2];refine aa.cond rfl (λg=>?_) (λg=>?_)
 ·have g:v.s.heap=[]:=by simpa using g
  rw[Zai g]at hR PP;apply aa.ch aC fw [2,3];simp[d85r2];rw[<-hR];refine aa.le (rH v.s (l:=[(2,.v (ti 0)),(3,.v (.bool false))]) (ba:=N+1000) aT h (by omega) (Zaf _) ?_ ?_ ?_ ?_ ?_ ?_) ?_
  ·simp;omega
  ·simp[nq,Nat.add_assoc,h.q]
  ·simp[np,Nat.add_assoc,h.hp]
  ·simp[nm,Nat.add_assoc,h.m]
  ·simp[na,Nat.add_assoc]
  ·simp
  apply aa.ret;simp[OY,PP]
 ·have g:¬v.s.heap=[]:=by simpa using g
  rw[Zab g]at hR PP;have hl:0<v.s.heap.length:=ZaT.2 g;have r0:=dG hl;have w1:IntKind.i64.wrap ((v.s.heap.length:Int)-1)=(v.s.heap.length:Int)-1:=aF (by omega);obtain⟨⟨ex,eh,et⟩,he⟩:=bb (v.s.heap.getD 0 default);have Xf:v.s.e 0=⟨ex,eh,et⟩:=he;rw[he]at r0;rw[Xf]at PP;simp only[kh.enc]at r0;have r0':DM.rowAt (dF v.s.heap) (0:Int)=[ti ex,ti eh,ti et]:=r0;apply aa.skip;simp;apply aa.jR aC fw (rs:=c5 (iO q v.hp N) (eR ZM [none,none,none,none,none,none,none,none,none,some [0],some [1],none,none,some [105],none])) (.inl rfl) ((dX (jK NK nu n1) _ _ _).trans (by kernel_rfl)) [0,4,5];simp[ZM,c5,fk,eR,iO,cP,bG,aN,h1,h2,hl,r0',w1];refine aa.le (rH v.s (l:=[(0,.ptr q 0),(4,.v (.box [ti ex,ti eh,ti et])),(5,.v (ti ((v.s.heap.length:Int)-1)))]) (ba:=N+1000) aT h (by omega) (Zaf _) ?_ ?_ ?_ ?_ ?_ ?_) ?_
  ·simp;omega
  ·simp[nq,Nat.add_assoc,h.q]
  ·simp[np,Nat.add_assoc,h.hp]
  ·simp[nm,Nat.add_assoc,h.m]
  ·simp[na,Nat.add_assoc]
  ·simp[Nat.add_assoc,en,qB];refine bL aT (by omega) ?_;simp;omega
  have k1:=λx y=>JZ (i:=x) (j:=y) (ig h v.s);have e0:∀s',bH (bH f0 q v v.s) q (v.to v.s) s'=bH f0 q v s':=iY f0 q v v.s;simp only[QV.to]at k1 e0;have so:=ho.dc (i:=0) (j:=(v.s.heap.length:Int)-1) ⟨by omega,by omega⟩ ⟨by omega,by omega⟩;have so2:=ho.swap (i:=0) (j:=(v.s.heap.length:Int)-1) ⟨by omega,by omega⟩ ⟨by omega,by omega⟩;apply aa.cX aC fw (rs:=OW) rfl (by kernel_rfl) [0,4,5];simp[OW,k1,so,e0];obtain⟨P,hP⟩:=bb (fT v.s);have hPok:=zw ho yd hl;rw[hP]at hPok hR;obtain⟨S1,tF⟩:=bb (v.s.swap 0 ((v.s.heap.length:Int)-1));have Xr:P=⟨S1.heap.take (v.s.heap.length-1),S1.bD+1,nD S1.es eh,S1.mc,S1.next,S1.dv⟩:=by rw[<-hP,<-tF];simp only[fT,Xf]
  have hSl:S1.heap.length=v.s.heap.length:=by rw[<-tF];simp
  have hSv:S1.bD=v.s.bD:=by rw[<-tF];simp
  rw[tF];have Bk:=ig h S1;have j1:=Bk.q;have j2:=Bk.hp;have j3:=Bk.m;simp only[qB,hB,mB]at j1 j2 j3;apply aa.ch aC fw [0,4];simp[d85r5,j1,j2,hSl];refine⟨⟨by omega,by omega⟩, ?_⟩;obtain⟨G,hG⟩:=bb (bH f0 q v R);rw[hG];simp only[bH,VU];refine aa.le (Le.cut q 1 (q:=v.hp) (bD:=S1.bD) (n:=v.s.heap.length-1) (e:=220) (sz:=3) (av:=dF S1.heap) (cs:=[.nG (.func 83) [.ptr v.a 0],.u9 v.hp S1.bD 0 (v.s.heap.length-1),.iE v.m,.v (ti S1.next),.v (ti S1.dv)]) ?_ rfl ?_) ?_
  ·simp
  ·simp[Hi,hB]
  rw[jT,jT];simp only[Zb2,ZbR];apply aa.ch aC fw [0,4];simp[d85r6,F8,Ka,mB,MU];refine aa.le (rH P (l:=[(0,.ptr q 0),(4,.v (.box [ti ex,ti eh,ti et]))]) (ba:=N+4000) aT h (by omega) (by rw[Xr];simp[hSv]) ?_ ?_ ?_ ?_ ?_ ?_) ?_
  ·simp
  ·rw[Xr];simp[n2,qB]
  ·rw[Xr];simp[Hi,n3,hB,xl]
  ·rw[Xr];simp[mB]
  ·simp[n4,n5,n6]
  ·simp[en,qB]
  have k2:=λx=>U3 (i:=x) (ig h P);have e1:∀s',bH (bH f0 q v P) q (v.to P) s'=bH f0 q v s':=iY f0 q v P;simp only[QV.to]at k2 e1;have hPl:P.heap.length<=1000000:=by rw[Xr];simp;omega
  apply aa.cX aC fw (rs:=OX) rfl (by kernel_rfl) [4];simp[OX,k2,hPok,e1,hR,hPl,hG];apply aa.ch aC fw [2,3];simp[d85r8];apply aa.ret;simp[OY,PP]
noncomputable def Vb:bB->bq->fI
 |[.ptr q 0],f=>⟨(∃v:QV,v.at f q)/\wo (eK f q).s (eK f q).l.ak,.v (uT (eK f q).s),bH f q (eK f q) (fC (eK f q).l.ak (eK f q).s)⟩
 |_,f=>⟨False,.undef,f⟩
def k85_eq{v:QV}{f:bq}{q:Nat}(h:v.at f q):Vb [.ptr q 0] f=⟨wo v.s v.l.ak,.v (uT v.s),bH f q v (fC v.l.ak v.s)⟩:=by
 have hx:∃v:QV,v.at f q:=⟨v,h⟩;simp only[Vb,eW h,hx,true_and]
def k85_ok:∀args ab,(Vb args ab).ok->(∀N,(∀r,N<=r->ab r=none)->aR aj 124 args ab (Vb args ab))/\∀r,ab r=none->(Vb args ab).ab r=none:=by
 intro args ab h;unfold Vb at h⊢;split at h
 ·rename_i q;obtain⟨⟨v,hv⟩,hs⟩:=h;rw[eW hv]at hs⊢;exact⟨λN hN=>aR.of (t85 hN hv hs) rfl rfl,λr hr=>gJ hv _ hr⟩
 ·exact h.elim
def ok85{l:List (Nat×DM.Spec)}(h:ay aj (bu l)):ay aj (bu ((124,eS Vb)::l)):=ay.gS h k85_ok
section
variable{ak:bR}{hd:Int}
def mJ(s:Qs)(i:Nat)(x:Int):Qs:=⟨s.heap.set i ⟨x,(s.e i).h,s.dv⟩,s.bD,s.es,s.mc,s.next,s.dv+1⟩
def Gp(ak:bR)(s:Qs)(i:Nat)(x:Int):Qs:=tQ ak i (mJ s i x)
def tS(ak:bR)(s:Qs)(hd x:Int):Qs:=
 fm ak ((jM (Gp ak s ((jM s.es hd).getD 0).toNat x).es hd).getD 0).toNat (Gp ak s ((jM s.es hd).getD 0).toNat x)
structure M8(s:Qs)(ak:bR)(hd x:Int):Prop where
 ok:s.ok ak
 wW:∃i:Nat,jM s.es hd=some (i:Int)/\i<s.heap.length/\∃j:Nat,jM (Gp ak s i x).es hd=some (j:Int)/\j<=1000000
 x:0<=x/\x<ak.length
 len:s.heap.length<=1000000
 dv:0<=s.dv/\s.dv<=1000000000000
def U1{s:Qs}{i:Nat}{x:Int}(h:s.ok ak)(hi:i<s.heap.length)(hx:0<=x/\x<ak.length):(mJ s i x).ok ak:=by
 refine⟨h.pl,h.st,λe he=>?_,λe he=>?_⟩
 ·rcases ZaS he with he|rfl
  ·exact h.pO e he
  ·exact h.pO (s.e (i:Int)) (bm (by simpa using hi))
 ·rcases ZaS he with he|rfl
  ·exact h.r e he
  ·exact hx
def FB:∀{i:Nat} {s:Qs},s.ok ak->i<s.heap.length->(tQ ak i s).ok ak/\(tQ ak i s).heap.length=s.heap.length/\(tQ ak i s).bD=s.bD:=by
 intro i;induction i using Nat.strongRecOn with
 |_ i ih=>
  intro s h hi;unfold tQ;split
  ·rename_i hc;have hk:=h.swap (i:=i) (j:=((i-1)/2:Nat)) ⟨by omega,by omega⟩ ⟨by omega,by omega⟩;obtain⟨a,b,c⟩:=ih ((i-1)/2) (by omega) hk (by simp;omega);exact⟨a,by simpa using b,by simpa using c⟩
  ·exact⟨h,rfl,rfl⟩
def M9{l:Pl}{k v:Int}(h:jM l k=some v):∃e:Nat×Int×Int,l.find? (λe=>e.2.1==k)=some e/\e.2.2=v:=by
 unfold jM at h;obtain⟨e,h1,h2⟩:=Zac.1 h;exact⟨e,h1,h2⟩
def zG{l:Pl}{k v:Int}(h:jM l k=some v):∃b:Nat,qP (ti k) (uO l)=some (b,ti k,.v (ti v)):=by
 obtain⟨⟨b,k',v'⟩,h1,h2⟩:=M9 h;simp only at h2;subst h2;have:=Zc7 h1;simp at this;subst this;exact⟨b,by rw[Na,h1];rfl⟩
def t81{f0:bq}{q N:Nat}{x:Int}{v:QV}(hN:∀r,N<=r->f0 r=none)(h:v.at f0 q)(hs:M8 v.s v.l.ak hd x):
  aR aj 120 [.ptr q 0,.v (ti hd),.v (ti x)] f0 ⟨True,.v (.bool true),bH f0 q v (tS v.l.ak v.s hd x)⟩:=by
 obtain⟨ho,⟨i,hg,hi,j,hg2,hj⟩,hx,dM,Cy⟩:=hs;have hU1:=U1 ho hi hx;have hU2:=FB hU1 (i:=i) (by simp[mJ];exact hi);obtain⟨b1,hf1⟩:=zG hg;obtain⟨b2,hf2⟩:=zG hg2;obtain⟨R,hR⟩:=bb (tS v.l.ak v.s hd x);rw[hR];unfold tS at hR;rw[hg]at hR;simp only[Zbd,Zag]at hR;rw[hg2]at hR;simp only[Zbd,Zag]at hR;have hupd:Gp v.l.ak v.s i x=tQ v.l.ak i (mJ v.s i x):=rfl;rw[<-hupd]at hU2;obtain⟨S2,NF⟩:=bb (Gp v.l.ak v.s i x);rw[NF]at hR hU2 hf2 hupd;obtain⟨S1,tF⟩:=bb (mJ v.s i x);rw[tF]at hU1 hU2 hupd;obtain⟨u1,u2,u3⟩:=hU2;have hS1l:S1.heap.length=v.s.heap.length:=by rw[<-tF];simp[mJ]
 have aC:=ok109 (ok110 ay.nil);refine c81.pQ hN (by simp) λaT=>?_;have en:∀s,bH f0 q v s q=some (qB v.a v.hp v.m s):=λs=>(ig h s).q;obtain⟨n1,n2,n3,n4,n5,n6,_,_,_,_,_,_⟩:=h.ne;have Hi:=Ne.symm n1;have F8:=Ne.symm n2;have Ka:=Ne.symm n3;have h1:=h.q;have h2:=h.hp;have h3:=h.m;simp only[qB,hB,mB]at h1 h2 h3;have r0:=dG hi;obtain⟨⟨ox,oh,ot⟩,he⟩:=bb (v.s.heap.getD i default);have Xf:v.s.e (i:Int)=⟨ox,oh,ot⟩:=by simpa using he
 rw[he]at r0;simp only[kh.enc]at r0;have hS1d:S1=⟨v.s.heap.set i ⟨x,oh,v.s.dv⟩,v.s.bD,v.s.es,v.s.mc,v.s.next,v.s.dv+1⟩:=by rw[<-tF];simp only[mJ,Xf]
 have w1:IntKind.i64.wrap (v.s.dv+1)=v.s.dv+1:=aF (by omega);simp;apply aa.ch aC fw [0,1,2];simp[d81r0];apply aa.ch aC fw [0,1,2,7,8];simp[d81r1,h1,h3,hf1];apply aa.seq;apply aa.ch aC fw [0,1,2,7,19];simp[d81r2];refine aa.cond rfl (λg=>by cases g) (λg=>?_);apply aa.skip;simp;have wp:∀y,DM.rowAt ((dF v.s.heap).set i y) (i:Int)=y:=λy=>by simp[DM.rowAt,hi]
 apply aa.ch aC fw [0,1,7];simp[d81r4,h1,h2,hi,r0,wp];apply aa.ch aC fw [0,1,7];simp[d81r5,h1,w1,n1];refine aa.le (rH (v:=v) S1 (l:=[(0,.ptr q 0),(1,.v (ti hd)),(7,.v (ti (i:Int)))]) (ba:=N+2000) aT h (by omega) (by rw[hS1d];exact Zaf _) ?_ ?_ ?_ ?_ ?_ ?_) ?_
 ·simp
 ·rw[hS1d];simp[qB]
 ·rw[hS1d];simp[Hi,hB,lg];rfl
 ·rw[hS1d];simp[F8,Ka,mB,h3]
 ·simp[n4,n5]
 ·simp[en,qB]
 have k1:=λy=>U2 (i:=y) (ig h S1);have e0:∀s',bH (bH f0 q v S1) q (v.to S1) s'=bH f0 q v s':=iY f0 q v S1;simp only[QV.to]at k1 e0;apply aa.cX aC fw (rs:=OZ) rfl (by kernel_rfl) [0,1];simp[OZ,k1,hU1,hS1l,hi,dM,e0,<-hupd];have k2:=λy=>U3 (i:=y) (ig h S2);have e1:∀s',bH (bH f0 q v S2) q (v.to S2) s'=bH f0 q v s':=iY f0 q v S2;have mQ:=ig h S2;have j1:=mQ.q;have j3:=mQ.m;simp only[QV.to,qB,mB]at k2 e1 j1 j3;have u2':S2.heap.length<=1000000:=by omega
 apply aa.cX aC fw (rs:=O0) rfl (by kernel_rfl) [];simp[O0,j1,j3,hf2,k2,u1,u2',e1,hR];refine⟨by omega, ?_⟩;apply aa.ch aC fw [6];simp[d81r8];apply aa.ret;simp[ZN]
noncomputable def k81:bB->bq->fI
 |[.ptr q 0,.v (.int .i64 hd),.v (.int .i64 x)],f=>⟨(∃v:QV,v.at f q)/\M8 (eK f q).s (eK f q).l.ak hd x,.v (.bool true),bH f q (eK f q) (tS (eK f q).l.ak (eK f q).s hd x)⟩
 |_,f=>⟨False,.undef,f⟩
def k81_eq{v:QV}{f:bq}{q:Nat}{x:Int}(h:v.at f q):k81 [.ptr q 0,.v (ti hd),.v (ti x)] f=⟨M8 v.s v.l.ak hd x,.v (.bool true),bH f q v (tS v.l.ak v.s hd x)⟩:=by
 have hx:∃v:QV,v.at f q:=⟨v,h⟩;simp only[k81,eW h,hx,true_and]
def k81_ok:∀args ab,(k81 args ab).ok->(∀N,(∀r,N<=r->ab r=none)->aR aj 120 args ab (k81 args ab))/\∀r,ab r=none->(k81 args ab).ab r=none:=by
 intro args ab h;unfold k81 at h⊢;split at h
 ·rename_i q hd x;obtain⟨⟨v,hv⟩,hs⟩:=h;rw[eW hv]at hs⊢;exact⟨λN hN=>aR.of (t81 hN hv hs) rfl rfl,λr hr=>gJ hv _ hr⟩
 ·exact h.elim
def ok81{l:List (Nat×DM.Spec)}(h:ay aj (bu l)):ay aj (bu ((120,eS k81)::l)):=ay.gS h k81_ok
end
section
variable{ak:bR}
def gb{a b c:kh}(h:¬iC ak b a)(k:¬iC ak c b):¬iC ak c a:=by
 unfold iC at*
 generalize bv ak a.x=u at*
 generalize bv ak b.x=v at*
 generalize bv ak c.x=w at*
 obtain⟨u1,u2⟩:=u;obtain⟨v1,v2⟩:=v;obtain⟨w1,w2⟩:=w;simp only[c8.lt]at*
 omega
def sY(a:kh):¬iC ak a a:=by
 unfold iC;generalize bv ak a.x=u;obtain⟨u1,u2⟩:=u;simp only[c8.lt];omega
def pC{a b:kh}(h:iC ak a b):¬iC ak b a:=by
 unfold iC at*
 generalize bv ak a.x=u at*
 generalize bv ak b.x=v at*
 obtain⟨u1,u2⟩:=u;obtain⟨v1,v2⟩:=v;simp only[c8.lt]at*
 omega
def oz(ak:bR)(s:Qs):Prop:=∀i:Nat,0<i->i<s.heap.length->¬iC ak (s.e i) (s.e ((i-1)/2:Nat))
def xu{s:Qs}(h:oz ak s):∀i:Nat,i<s.heap.length->¬iC ak (s.e i) (s.e (0:Nat)):=by
 intro i;induction i using Nat.strongRecOn with
 |_ i ih=>
  intro hi;by_cases hz:i=0
  ·subst hz;exact sY _
  ·exact gb (ih ((i-1)/2) (by omega) (by omega)) (h i (by omega) hi)
def wt{s:Qs}{i j k:Nat}(hi:i<s.heap.length)(hj:j<s.heap.length)(hk:k<s.heap.length):(s.swap i j).e k=if k=j then s.e i else if k=i then s.e j else s.e k:=by
 simp only[Qs.swap,Qs.e,Zag,List.getD,ZbC];by_cases h1:k=j
 ·subst h1;simp[hj]
 ·by_cases h2:k=i
  ·subst h2;have:¬j=k:=λe=>h1 e.symm;simp[this,h1,hi]
  ·have a1:¬j=k:=λe=>h1 e.symm;have a2:¬i=k:=λe=>h2 e.symm;simp[a1,a2,h1,h2]
def CY:∀{i:Nat} {s:Qs},i<s.heap.length->(∀k:Nat,0<k->k<s.heap.length->k≠i->¬iC ak (s.e k) (s.e ((k-1)/2:Nat)))->
  (∀k:Nat,0<k->k<s.heap.length->(k-1)/2=i->0<i->¬iC ak (s.e k) (s.e ((i-1)/2:Nat)))->oz ak (tQ ak i s):=by
 intro i;induction i using Nat.strongRecOn with
 |_ i ih=>
  intro s hi h1 h2;unfold tQ;split
  ·rename_i hc;obtain⟨c1,c2⟩:=hc;obtain⟨y,hy⟩:=bb ((i-1)/2);rw[hy]at c2⊢;have zW:y<s.heap.length:=by omega
   have E:=λ{k:Nat} (hk:k<s.heap.length)=>wt (s:=s) (i:=i) (j:=y) hi zW hk;refine ih y (by omega) (by simpa using zW) (λk k1 k2 k3=>?_) (λk k1 k2 k3 k4=>?_)
   ·simp only[Qs.dI]at k2;rw[E k2,E (k:=(k-1)/2) (by omega)];by_cases e1:k=i
    ·subst e1;rw[Zab k3,Zai rfl,hy,Zai rfl];exact pC c2
    ·rw[Zab k3,Zab e1];by_cases e2:(k-1)/2=y
     ·rw[Zai e2];have:=h1 k k1 k2 e1;rw[e2]at this;exact gb (pC c2) this
     ·rw[Zab e2];by_cases e3:(k-1)/2=i
      ·rw[Zai e3];have:=h2 k k1 k2 e3 c1;rw[hy]at this;exact this
      ·rw[Zab e3];exact h1 k k1 k2 e1
   ·simp only[Qs.dI]at k2;rw[E k2,E (k:=(y-1)/2) (by omega)];have p1:¬(y-1)/2=y:=by omega
    have p2:¬(y-1)/2=i:=by omega
    have p3:¬k=y:=by omega
    rw[Zab p1,Zab p2,Zab p3];have hpy:=h1 y k4 zW (by omega);by_cases e1:k=i
    ·rw[Zai e1];exact hpy
    ·rw[Zab e1];have:=h1 k k1 k2 e1;rw[k3]at this;exact gb hpy this
  ·rename_i hc;intro k k1 k2;by_cases e:k=i
   ·subst e;exact λhb=>hc ⟨k1,hb⟩
   ·exact h1 k k1 k2 e
end
def zB(ak:bR)(s:Qs)(i:Nat):∀t,¬iC ak (s.e i) (s.e (tR ak s i t))/\∀u,u<t->¬iC ak (s.e (2*i+1+u:Nat)) (s.e (tR ak s i t))
 |0=>⟨sY _,λu hu=>by omega⟩
 |t+1=>by
  obtain⟨h1,h2⟩:=zB ak s i t;unfold tR;split
  ·rename_i hc;have ha:=pC hc;refine⟨gb ha h1,λu hu=>?_⟩;by_cases e:u=t
   ·subst e;exact sY _
   ·exact gb ha (h2 u (by omega))
  ·rename_i hc;refine⟨h1,λu hu=>?_⟩;by_cases e:u=t
   ·subst e;exact hc
   ·exact h2 u (by omega)
def AY(ak:bR)(s:Qs)(i:Nat):¬iC ak (s.e i) (s.e (dt ak s i))/\∀k:Nat,0<k->k<s.heap.length->(k-1)/2=i->¬iC ak (s.e k) (s.e (dt ak s i)):=by
 obtain⟨h1,h2⟩:=zB ak s i (kg s i);refine⟨h1,λk k1 k2 k3=>?_⟩;have:=h2 (k-(2*i+1)) (by unfold kg;omega);rw[show 2*i+1+(k-(2*i+1))=k by omega]at this;exact this
def AZ(ak:bR)(s:Qs)(i:Nat):dt ak s i=i\/((dt ak s i-1)/2=i/\i<dt ak s i/\dt ak s i<s.heap.length):=by
 have:=sX ak s i (kg s i);have h3:=gZ ak s i;unfold dt at*
 unfold kg at*
 omega
def vL{ak:bR}:∀{n:Nat} {i:Nat} {s:Qs},s.heap.length-i=n->(∀k:Nat,0<k->k<s.heap.length->(k-1)/2≠i->¬iC ak (s.e k) (s.e ((k-1)/2:Nat)))->
  (∀k:Nat,0<k->k<s.heap.length->(k-1)/2=i->0<i->¬iC ak (s.e k) (s.e ((i-1)/2:Nat)))->oz ak (fm ak i s):=by
 intro n;induction n using Nat.strongRecOn with
 |_ n ih=>
  intro i s hn h1 h2;obtain⟨m1,m2⟩:=AY ak s i;have hp:=AZ ak s i;unfold fm;split
  ·rename_i he;intro k k1 k2;by_cases e:(k-1)/2=i
   ·rw[e];have:=m2 k k1 k2 e;rw[he]at this;exact this
   ·exact h1 k k1 k2 e
  ·rename_i he;obtain⟨j,hj⟩:=bb (dt ak s i);rw[hj]at m1 m2 hp he⊢;obtain⟨p1,p2,p3⟩:=hp.resolve_left he;have hi:i<s.heap.length:=by omega
   have E:=λ{k:Nat} (hk:k<s.heap.length)=>wt (s:=s) (i:=i) (j:=j) hi p3 hk;refine ih (s.heap.length-j) (by omega) (by simp) (λk k1 k2 k3=>?_) (λk k1 k2 k3 k4=>?_)
   ·simp only[Qs.dI]at k2;rw[E k2,E (k:=(k-1)/2) (by omega),Zab k3];by_cases e1:k=j
    ·subst e1;rw[Zai rfl,Zai p1];exact m1
    ·rw[Zab e1];by_cases e2:k=i
     ·subst e2;have:¬(k-1)/2=k:=by omega
      rw[Zai rfl,Zab this];exact h2 j (by omega) p3 p1 k1
     ·rw[Zab e2];by_cases e3:(k-1)/2=i
      ·rw[Zai e3];exact m2 k k1 k2 e3
      ·rw[Zab e3];exact h1 k k1 k2 e3
   ·simp only[Qs.dI]at k2;rw[p1,E k2,E hi];have q1:¬k=j:=by omega
    have q2:¬k=i:=by omega
    have q3:¬i=j:=by omega
    rw[Zab q1,Zab q2,Zab q3,Zai rfl];have:=h1 k k1 k2 (by omega);rw[k3]at this;exact this
section
variable{ak:bR}
def sZ{s:Qs}{x:Int}{k:Nat}(hk:k<s.heap.length):(fM s x).e k=s.e k:=by
 simp only[fM,Qs.e,Zag,List.getD];rw[Zbc hk]
def AU{s:Qs}{x:Int}(h:oz ak s):oz ak (gX ak s x):=by
 have hl:(fM s x).heap.length=s.heap.length+1:=by simp[fM]
 refine CY (by omega) (λk k1 k2 k3=>?_) (λk k1 k2 k3 k4=>?_)
 ·rw[sZ (by omega),sZ (by omega)];exact h k k1 (by omega)
 ·omega
def WR{s:Qs}(h:oz ak s)(i:Nat):oz ak (fm ak i s):=
 vL rfl (λk k1 k2 _=>h k k1 k2) λk k1 k2 k3 k4=>by
  have a:=h k k1 k2;rw[k3]at a;exact gb (h i k4 (by omega)) a
def pw{s:Qs}{k:Nat}(hk:k<s.heap.length-1):(fT s).e k=if k=0 then s.e (s.heap.length-1:Nat)else s.e k:=by
 have hj:s.heap.length-1<s.heap.length:=by omega
 have E:=wt (s:=s) (i:=0) (j:=s.heap.length-1) (k:=k) (by omega) hj (by omega);have hc:((s.heap.length-1:Nat):Int)=(s.heap.length:Int)-1:=by omega
 have:(fT s).e k=(s.swap (0:Nat) (s.heap.length-1:Nat)).e k:=by
  simp only[fT,Qs.e,Zag,List.getD,ZaQ,hk,if_true,hc];rfl
 rw[this,E,Zab (by omega)]
def zx{s:Qs}(h:oz ak s):oz ak (fC ak s):=by
 unfold fC;split
 ·exact h
 ·rename_i bT;have xN:0<s.heap.length:=ZaT.2 bT;have hl:(fT s).heap.length=s.heap.length-1:=by
   simp only[fT,ZaB,Qs.dI];omega
  refine vL rfl (λk k1 k2 k3=>?_) (λk k1 k2 k3 k4=>by omega);rw[hl]at k2;rw[pw k2,pw (by omega),Zab (by omega),Zab k3];exact h k k1 (by omega)
end
section
variable{ak:bR}
def WS(c:Nat)(k v:Int):d8 [] c k v=[(c,k,v)]:=rfl
def P9(a:Nat×Int×Int)(l:Pl)(c:Nat)(k v:Int):d8 (a::l) c k v=if a.2.1=k then(a.1,a.2.1,v)::l else a::d8 l c k v:=by
 unfold d8 sV;rw[Zbh];by_cases h:a.2.1=k
 ·simp[h]
 ·have:(a.2.1==k)=false:=by simpa using h
  rw[this,Zab h];simp only[ZaW,if_false];cases List.findIdx? (λe=>e.2.1==k) l<;>simp
def WT(k:Int):jM [] k=none:=rfl
def kR(a:Nat×Int×Int)(l:Pl)(k:Int):jM (a::l) k=if a.2.1=k then some a.2.2 else jM l k:=by
 unfold jM;rw[Za6];by_cases h:a.2.1=k
 ·simp[h]
 ·have:(a.2.1==k)=false:=by simpa using h
  rw[this,Zab h]
def oM(l:Pl)(c:Nat)(k v k':Int):jM (d8 l c k v) k'=if k'=k then some v else jM l k':=by
 induction l with
 |nil=>
  rw[WS,kR,WT];by_cases h:k'=k
  ·simp[h]
  ·have:¬k=k':=λe=>h e.symm;simp[h,this]
 |cons a l ih=>
  rw[P9];by_cases h:a.2.1=k
  ·rw[Zai h,kR,kR];simp only;by_cases h2:k'=k
   ·rw[Zai h2,Zai (by rw[h,h2])]
   ·have:¬a.2.1=k':=λe=>h2 (e▸h);rw[Zab h2,Zab this,Zab this]
  ·rw[Zab h,kR,kR,ih];by_cases h2:k'=k
   ·have:¬a.2.1=k':=λe=>h (e.trans h2);simp[h2,h]
   ·simp[h2]
def c6(s:Qs):Prop:=∀k:Nat,k<s.heap.length->jM s.es (s.e k).h=some (k:Int)
def c6.nd{s:Qs}(h:c6 s):s.nd:=λi j hi hj he=>by
 have h1:=h i hi;have h2:=h j hj;rw[he,h2]at h1;simp only[Zaa]at h1;omega
def kQ{s:Qs}(h:c6 s){i j:Nat}(hi:i<s.heap.length)(hj:j<s.heap.length):c6 (s.swap i j):=by
 intro k hk;rw[Qs.dI]at hk;rw[wt hi hj hk];show jM (d8 (d8 s.es s.mc (s.e j).h i) s.mc (s.e i).h j) _=_;rw[oM,oM];have nd:=h.nd;by_cases h1:k=j
 ·subst h1;rw[Zai rfl,Zai rfl]
 ·rw[Zab h1];by_cases h2:k=i
  ·subst h2;rw[Zai rfl];by_cases h3:(s.e j).h=(s.e k).h
   ·have:=nd j k hj hk h3;exact Zar this.symm h1
   ·rw[Zab h3,Zai rfl]
  ·rw[Zab h2,Zab (λe=>h2 (nd k i hk hi e)),Zab (λe=>h1 (nd k j hk hj e))];exact h k hk
def uW:∀{i:Nat} {s:Qs},i<s.heap.length->c6 s->c6 (tQ ak i s):=by
 intro i;induction i using Nat.strongRecOn with
 |_ i ih=>
  intro s hi h;unfold tQ;split
  ·exact ih _ (by omega) (by simp;omega) (kQ h hi (by omega))
  ·exact h
def s8:∀{n:Nat} {i:Nat} {s:Qs},s.heap.length-i=n->c6 s->c6 (fm ak i s):=by
 intro n;induction n using Nat.strongRecOn with
 |_ n ih=>
  intro i s hn h;unfold fm;split
  ·exact h
  ·rename_i he;have hp:=(gZ ak s i).resolve_left he;exact ih (s.heap.length-dt ak s i) (by omega) (by simp) (kQ h (by omega) hp.2)
end
section
variable{ak:bR}
def fD{s:Qs}{e:kh}:e∈s.heap↔∃k:Nat,k<s.heap.length/\s.e k=e:=by
 constructor
 ·intro h;obtain⟨k,hk,rfl⟩:=ZaO h;exact⟨k,hk,by simp[Qs.e,List.getD,hk]⟩
 ·rintro⟨k,hk,rfl⟩;simp only[Qs.e,Zag];exact bm hk
def nC{s:Qs}{i j:Nat}(hi:i<s.heap.length)(hj:j<s.heap.length)(e:kh):e∈(s.swap i j).heap↔e∈s.heap:=by
 rw[fD,fD];simp only[Qs.dI];constructor
 ·rintro⟨k,hk,rfl⟩;rw[wt hi hj hk];split
  ·exact⟨i,hi,rfl⟩
  ·split
   ·exact⟨j,hj,rfl⟩
   ·exact⟨k,hk,rfl⟩
 ·rintro⟨k,hk,rfl⟩;by_cases h1:k=j
  ·subst h1;by_cases h2:i=k
   ·subst h2;exact⟨i,hi,by rw[wt hi hi hi];simp⟩
   ·exact⟨i,hi,by rw[wt hi hk hi,Zab h2,Zai rfl]⟩
  ·by_cases h2:k=i
   ·subst h2;exact⟨j,hj,by rw[wt hk hj hj,Zai rfl]⟩
   ·exact⟨k,hk,by rw[wt hi hj hk,Zab h1,Zab h2]⟩
structure lu(s s':Qs):Prop where
 len:s'.heap.length=s.heap.length
 mem:∀e,e∈s'.heap↔e∈s.heap
 next:s'.next=s.next
 dv:s'.dv=s.dv
 mc:s'.mc=s.mc
 bD:s'.bD=s.bD
def lu.refl(s:Qs):lu s s:=⟨rfl,λ_=>Iff.rfl,rfl,rfl,rfl,rfl⟩
def lu.trans{a b c:Qs}(h:lu a b)(k:lu b c):lu a c:=⟨k.len.trans h.len,λe=>(k.mem e).trans (h.mem e),k.next.trans h.next,k.dv.trans h.dv,k.mc.trans h.mc,k.bD.trans h.bD⟩
def rK{s:Qs}{i j:Nat}(hi:i<s.heap.length)(hj:j<s.heap.length):lu s (s.swap i j):=⟨by simp,nC hi hj,rfl,rfl,rfl,rfl⟩
def vJ:∀{i:Nat} {s:Qs},i<s.heap.length->lu s (tQ ak i s):=by
 intro i;induction i using Nat.strongRecOn with
 |_ i ih=>
  intro s hi;unfold tQ;split
  ·exact(rK hi (by omega)).trans (ih _ (by omega) (by simp;omega))
  ·exact lu.refl s
def li:∀{n:Nat} {i:Nat} {s:Qs},s.heap.length-i=n->lu s (fm ak i s):=by
 intro n;induction n using Nat.strongRecOn with
 |_ n ih=>
  intro i s hn;unfold fm;split
  ·exact lu.refl s
  ·rename_i he;have hp:=(gZ ak s i).resolve_left he;exact(rK (by omega) hp.2).trans (ih (s.heap.length-dt ak s i) (by omega) (by simp))
def CU:∀{n:Nat} {i:Nat} {s:Qs},s.heap.length-i=n->s.ok ak->(fm ak i s).ok ak:=by
 intro n;induction n using Nat.strongRecOn with
 |_ n ih=>
  intro i s hn h;unfold fm;split
  ·exact h
  ·rename_i he;have hp:=(gZ ak s i).resolve_left he;exact ih (s.heap.length-dt ak s i) (by omega) (by simp) (h.swap ⟨by omega,by omega⟩ ⟨by omega,by omega⟩)
end
section
variable{ak:bR}
def Qa(a:Nat×Int×Int)(l:Pl)(k:Int):nD (a::l) k=if a.2.1=k then l else a::nD l k:=by
 unfold nD sV;rw[Zbh];by_cases h:a.2.1=k
 ·simp[h]
 ·have:(a.2.1==k)=false:=by simpa using h
  rw[this,Zab h];simp only[ZaW,if_false];cases List.findIdx? (λe=>e.2.1==k) l<;>simp
def Hn{l:Pl}{k k':Int}(h:k'≠k):jM (nD l k) k'=jM l k':=by
 induction l with
 |nil=>rfl
 |cons a l ih=>
  rw[Qa,kR];by_cases h1:a.2.1=k
  ·have:¬a.2.1=k':=λe=>h (e.symm.trans h1);rw[Zai h1,Zab this]
  ·rw[Zab h1,kR,ih]
def xq{s:Qs}{x:Int}(h:c6 s)(hn:∀e∈s.heap,e.h≠s.next):c6 (gX ak s x):=by
 have hl:(fM s x).heap.length=s.heap.length+1:=by simp[fM]
 refine uW (by omega) λk hk=>?_;rw[hl]at hk;show jM (d8 s.es s.mc s.next s.heap.length) _=_;rw[oM];by_cases h1:k<s.heap.length
 ·rw[sZ h1,Zab (hn _ (fD.2 ⟨k,h1,rfl⟩))];exact h k h1
 ·obtain rfl:k=s.heap.length:=by omega
  have:(fM s x).e (s.heap.length:Nat)=⟨x,s.next,s.dv⟩:=by simp[fM,Qs.e,List.getD]
  rw[this,Zai rfl]
def vK{s:Qs}(h:c6 s):c6 (fC ak s):=by
 unfold fC;split
 ·exact h
 ·rename_i bT;have xN:0<s.heap.length:=ZaT.2 bT;have hl:(fT s).heap.length=s.heap.length-1:=by
   simp only[fT,ZaB,Qs.dI];omega
  have hc:((s.heap.length-1:Nat):Int)=(s.heap.length:Int)-1:=by omega
  have Nx:=kQ h (i:=0) (j:=s.heap.length-1) xN (by omega);refine s8 rfl λk hk=>?_;rw[hl]at hk;have he:(fT s).e k=(s.swap (0:Nat) (s.heap.length-1:Nat)).e k:=by
   simp only[fT,Qs.e,Zag,List.getD,ZaQ,hk,if_true,hc];rfl
  have pP:(fT s).es=nD (s.swap (0:Nat) (s.heap.length-1:Nat)).es (s.e (0:Nat)).h:=by
   simp only[fT,hc];rfl
  rw[he,pP,Hn]
  ·exact Nx k (by simp;omega)
  ·rw[wt xN (by omega) (by omega),Zab (by omega)];have nd:=h.nd;by_cases h1:k=0
   ·subst h1;rw[Zai rfl];exact λe=>by have:=nd (s.heap.length-1) 0 (by omega) xN e;omega
   ·rw[Zab h1];exact λe=>h1 (nd k 0 (by omega) xN e)
end
section
variable{ak:bR}
def A3{x y:Int}{v:c8}(hx:0<=x/\x<ak.length)(hy:0<=y):bv (ak.set x.toNat v) y=if y=x then v else bv ak y:=by
 unfold bv;simp only[List.getD,ZbC];by_cases h:y=x
 ·subst h;have:y.toNat<ak.length:=by omega
  simp[this]
 ·have:¬x.toNat=y.toNat:=by omega
  simp[this,h]
def te{s:Qs}{i k:Nat}{x:Int}(hi:i<s.heap.length):(mJ s i x).e k=if k=i then⟨x,(s.e i).h,s.dv⟩else s.e k:=by
 simp only[mJ,Qs.e,Zag,List.getD,ZbC];by_cases h:k=i
 ·subst h;simp[hi]
 ·have:¬i=k:=λe=>h e.symm;simp[this,h]
def upd_heap{s:Qs}{i:Nat}{x:Int}{v:c8}(h:oz ak s)(hr:s.inR ak)(hi:i<s.heap.length)(hx:0<=x/\x<ak.length)(hix:(s.e i).x=x)
  (ho:∀k:Nat,k<s.heap.length->k≠i->(s.e k).x≠x) (hv:v.lt (bv ak x)):oz (ak.set x.toNat v) (Gp (ak.set x.toNat v) s i x):=by
 have hl:(mJ s i x).heap.length=s.heap.length:=by simp[mJ]
 have Gc:∀k:Nat,k<s.heap.length->0<=(s.e k).x:=λk hk=>(hr _ (fD.2 ⟨k,hk,rfl⟩)).1;have c7:∀k:Nat,k<s.heap.length->k≠i->bv (ak.set x.toNat v) (s.e k).x=bv ak (s.e k).x:=λk hk bT=>by
  rw[A3 hx (Gc k hk),Zab (ho k hk bT)]
 have hbef:∀k l:Nat,k<s.heap.length->l<s.heap.length->k≠i->l≠i->¬iC ak (s.e k) (s.e l)->¬iC (ak.set x.toNat v) (s.e k) (s.e l):=by
  intro k l hk Bl bT hne2 hb;unfold iC at hb⊢;rw[c7 k hk bT,c7 l Bl hne2];exact hb
 refine CY (by omega) (λk k1 k2 k3=>?_) (λk k1 k2 k3 k4=>?_)
 ·rw[hl]at k2;rw[te hi,te hi,Zab k3];by_cases e:(k-1)/2=i
  ·rw[Zai e];have hb:=h k k1 k2;rw[e]at hb;unfold iC at hb⊢;rw[c7 k k2 k3,A3 hx hx.1,Zai rfl];rw[hix]at hb;generalize bv ak (s.e k).x=w at*
   generalize bv ak x=u at*
   obtain⟨u1,u2⟩:=u;obtain⟨v1,v2⟩:=v;obtain⟨w1,w2⟩:=w;simp only[c8.lt]at*
   omega
  ·rw[Zab e];exact hbef k _ k2 (by omega) k3 e (h k k1 k2)
 ·rw[hl]at k2;have n1:k≠i:=by omega
  have n2:¬(i-1)/2=i:=by omega
  rw[te hi,te hi,Zab n1,Zab n2];have a:=h k k1 k2;rw[k3]at a;exact hbef k _ k2 (by omega) n1 n2 (gb (h i k4 hi) a)
end
section
variable{ak:bR}
def FQ{s:Qs}{i:Nat}{x:Int}(h:c6 s)(hi:i<s.heap.length):c6 (mJ s i x):=by
 intro k hk;have hl:(mJ s i x).heap.length=s.heap.length:=by simp[mJ]
 rw[hl]at hk;rw[te hi];show jM s.es _=_;by_cases h1:k=i
 ·subst h1;rw[Zai rfl];exact h k hk
 ·rw[Zab h1];exact h k hk
def updOk_of{s:Qs}{i:Nat}{x:Int}(ho:s.ok ak)(hp:c6 s)(hi:i<s.heap.length)(hx:0<=x/\x<ak.length)(hl:s.heap.length<=1000000)(hc:0<=s.dv/\s.dv<=1000000000000):M8 s ak (s.e i).h x:=by
 have Xj:(mJ s i x).heap.length=s.heap.length:=by simp[mJ]
 have Qu:c6 (Gp ak s i x):=uW (by omega) (FQ hp hi);have hs:=vJ (ak:=ak) (i:=i) (s:=mJ s i x) (by omega);have hm:(⟨x,(s.e i).h,s.dv⟩:kh)∈(Gp ak s i x).heap:=(hs.mem _).2 (fD.2 ⟨i,by omega,by rw[te hi,Zai rfl]⟩);obtain⟨j,hj,he⟩:=fD.1 hm;have hj2:=Qu j hj;rw[he]at hj2;have dM:(Gp ak s i x).heap.length=s.heap.length:=hs.len.trans Xj;exact⟨ho,⟨i,hp i hi,hi,j,hj2,by omega⟩,hx,hl,hc⟩
def WU{s:Qs}{i:Nat}{x:Int}(hp:c6 s)(hi:i<s.heap.length):c6 (tS ak s (s.e i).h x):=by
 have Xj:(mJ s i x).heap.length=s.heap.length:=by simp[mJ]
 unfold tS;rw[hp i hi];simp only[Zbd,Zag];exact s8 rfl (uW (by omega) (FQ hp hi))
def WV{s:Qs}{i:Nat}{x:Int}(hp:c6 s)(hi:i<s.heap.length)(h:oz ak (Gp ak s i x)):oz ak (tS ak s (s.e i).h x):=by
 unfold tS;rw[hp i hi];simp only[Zbd,Zag];exact WR h _
end
def Fc(n:aD)(r:di):Prop:=0<=r.head/\r.head<n.an/\0<=r.cq/\r.cq<=1000/\(r.kind=1\/(r.kind=2/\0<=r.a/\r.a<n.aL)\/(r.kind=3/\0<=r.a/\r.a<n.an)\/(r.kind=4/\0<=r.a/\r.a<n.an/\0<=r.b/\r.b<n.an))
def AD(n:aD):Prop:=1<=n.an/\n.an<=1000/\n.au.length<=600/\∀r∈n.au,Fc n r
def F7(l:aV):Prop:=1<=l.bn/\l.bn<=1000/\l.bE.length<=1000000000/\∀a∈l.bE,0<=a.aH/\a.aH<=1099511627776
def ownOk(n:aD)(own:eV):Prop:=(own.length:Int)=n.an/\∀x∈own,jj x.val
def stepT(r:di)(bE:List cw)(fr to i:Int)(x:Cell)(k:Nat):Cell:=
 if(bE.getD k default).f=fr/\(bE.getD k default).t=to/\(bE.getD k default).term=r.a then jV x (dU (r.cq+(bE.getD k default).aH) []) i k else x
def L9(r:di)(c:d6)(own:eV)(fr to i:Int)(x:Cell)(k:Nat):Cell:=
 jV x (dU r.cq [eJ c own fr to r.a fr (fr+k),eJ c own fr to r.b (fr+k) to]) i (fr+k)
def rj(r:di)(l:aV)(c:d6)(own:eV)(fr to i:Int)(x:Cell):Cell:=
 if r.kind=1 then(if fr=to then jV x (dU r.cq []) i fr else x)
 else if r.kind=2 then(List.range l.bE.length).foldl (stepT r l.bE fr to i) x
 else if r.kind=3 then jV x (dU r.cq [eJ c own fr to r.a fr to]) i fr
 else(List.range (to-fr+1).toNat).foldl (L9 r c own fr to i) x
def kA(n:aD)(l:aV)(c:d6)(own:eV)(fr to:Int)(i:Nat):Cell:=
 rj (n.au.getD i default) l c own fr to i (own.getD (n.au.getD i default).head.toNat default)
abbrev s69:DM.Spec:=cT (λts=>∃c l,ts=[ti c,.sl (bC l)]/\(∀v∈l,jj v)/\0<=c/\c<=4000000000000/\l.length<=1000000) (fun|[.int _ c,.sl l]=>.agg [ti (dU c (mT l)).aH,ti (dU c (mT l)).size]|_=>.bool false) true
@[simp] def valsT_nil2{l:bR}:bC l=[]↔l=[]:=by rw[eq_comm,V8]
def Uc:∀v∈([]:bR),jj v:=λv h=>by cases h
section
variable{own:eV}{fr to h:Nat}
def mH(x:Cell):Prop:=jj x.val/\-1<=x.qE/\x.qE<=600/\0<=x.arg/\x.arg<=10000000000
def Fl(x:Cell):Nat:=((x.aH.toNat*2199023255552+x.size.toNat)*1024+(x.qE+1).toNat)*17179869184+x.arg.toNat
def goes(x y:Cell):Prop:=mH y/\(y=x\/Fl y<Fl x)
def kY{x:Cell}{v:c8}{r g:Int}(hx:mH x)(hv:jj v)(h1:0<=r)(h2:r<=600)(h3:0<=g)(h4:g<=10000000000):goes x (jV x v r g):=by
 obtain⟨xc,xs,xr,xg⟩:=x;obtain⟨vc,vs⟩:=v;obtain⟨⟨a1,a2,a3,a4⟩,a5,a6,a7,a8⟩:=hx;obtain⟨b1,b2,b3,b4⟩:=hv;simp only[]at a1 a2 a3 a4 a5 a6 a7 a8 b1 b2 b3 b4;unfold jV;split
 ·exact⟨⟨⟨a1,a2,a3,a4⟩,a5,a6,a7,a8⟩,.inl rfl⟩
 ·split
  ·rename_i h;refine⟨⟨⟨b1,b2,b3,b4⟩,by simp only;omega,by simp only;omega,by simp only;omega,by simp only;omega⟩,.inr ?_⟩;simp only[c8.lt,Cell.val,c8.mk.injEq]at h;simp only[Fl];omega
  ·exact⟨⟨⟨a1,a2,a3,a4⟩,a5,a6,a7,a8⟩,.inl rfl⟩
def vC{x:Cell}(h:mH x):goes x x:=⟨h,.inl rfl⟩
def Pf{x y z:Cell}(h:goes x y)(k:goes y z):goes x z:=by
 refine⟨k.1, ?_⟩;rcases h.2 with rfl|h2
 ·exact k.2
 ·rcases k.2 with rfl|k2
  ·exact .inr h2
  ·exact .inr (by omega)
def AC{f:Cell->Nat->Cell}{N:Nat}(hf:∀x k,k<N->mH x->goes x (f x k))(x:Cell)(hx:mH x):goes x ((List.range N).foldl f x):=by
 induction N with
 |zero=>exact vC hx
 |succ N ih=>
  rw[ZaR,ZaI];have h1:=ih λx k hk=>hf x k (by omega);exact Pf h1 (hf _ N (by omega) h1.1)
def zd{n:aD}{l:aV}{c:d6}{i:Nat}(hn:AD n)(hl:F7 l)(hc:NI c)(ho:ownOk n own)(hi:i<n.au.length)(vR:fr<=to)(ik:to<=1000)
  (hx:mH (own.getD (n.au.getD i default).head.toNat default)):goes (own.getD (n.au.getD i default).head.toNat default) (kA n l c own fr to i):=by
 unfold kA;obtain⟨r,hr⟩:=bb (n.au.getD i default);have I2:Fc n r:=hn.2.2.2 r (by rw[<-hr];exact bm hi);rw[hr]at hx⊢;obtain⟨x,mh⟩:=bb (own.getD r.head.toNat default);rw[mh]at hx⊢;obtain⟨q1,q2,q3,q4,q5⟩:=I2;have hi2:=hn.2.2.1;have hvp:∀h f t:Int,0<=h->h<n.an->jj (eJ c own fr to h f t):=λh f t h1 h2=>G2 ⟨hc,by have:=ho.1;have:=hn.2.1;omega,λ_=>⟨h1,by have:=ho.1;omega⟩⟩ ho.2;unfold rj;split
 ·split
  ·exact kY hx (ju Uc q3 (by omega)) (by omega) (by omega) (by omega) (by omega)
  ·exact vC hx
 ·split
  ·refine AC (λx k hk hx=>?_) x hx;unfold stepT;split
   ·have:=hl.2.2.2 (l.bE.getD k default) (bm hk);have:=hl.2.2.1;exact kY hx (ju Uc (by omega) (by omega)) (by omega) (by omega) (by omega) (by omega)
   ·exact vC hx
  ·split
   ·refine kY hx (ju (λv hv=>?_) q3 (by omega)) (by omega) (by omega) (by omega) (by omega);simp only[Zan]at hv;subst hv;exact hvp _ _ _ (by omega) (by omega)
   ·refine AC (λx k hk hx=>?_) x hx;unfold L9;refine kY hx (ju (λv hv=>?_) q3 (by omega)) (by omega) (by omega) (by omega) (by omega);simp only[Zah,Zal,or_false]at hv;rcases hv with rfl|rfl<;>exact hvp _ _ _ (by omega) (by omega)
def wl(own:eV):Nat:=(own.map Fl).sum
def V9{y:Cell}(hh:h<own.length)(hy:Fl y<Fl (own.getD h default)):wl (own.set h y)<wl own:=by
 induction own generalizing h with
 |nil=>simp at hh
 |cons x own ih=>
  cases h with
  |zero=>simp[wl]at hy⊢;omega
  |succ h=>
   have:=ih (h:=h) (by simpa using hh) (by simpa using hy);simp[wl]at this⊢;omega
def wk(n:aD)(l:aV)(c:d6)(fr to:Int)(own:eV)(k:Nat):eV:=own.set (n.au.getD k default).head.toNat (kA n l c own fr to k)
def nM(n:aD)(own:eV):Prop:=(own.length:Int)=n.an/\∀x∈own,mH x
def nM.ok{n:aD}(h:nM n own):ownOk n own:=⟨h.1,λx hx=>(h.2 x hx).1⟩
def Mc{n:aD}{l:aV}{c:d6}{k:Nat}(hn:AD n)(hl:F7 l)(hc:NI c)(ho:nM n own)(hk:k<n.au.length)(vR:fr<=to)(ik:to<=1000):
  nM n (wk n l c fr to own k)/\(kA n l c own fr to k≠own.getD (n.au.getD k default).head.toNat default->wl (wk n l c fr to own k)<wl own):=by
 have I2:=hn.2.2.2 (n.au.getD k default) (bm hk);have hh:(n.au.getD k default).head.toNat<own.length:=by have:=ho.1;have:=I2.1;have:=I2.2.1;omega
 have hg:=zd hn hl hc ho.ok hk vR ik (ho.2 _ (bm hh));refine⟨⟨by simpa [wk]using ho.1,λx hx=>?_⟩,λbT=>?_⟩
 ·rcases ZaS hx with h|rfl
  ·exact ho.2 x h
  ·exact hg.1
 ·rcases hg.2 with h|h
  ·exact Zar h bT
  ·exact V9 hh h
def Pb(n:aD)(l:aV)(c:d6)(fr to:Int)(own:eV):Prop:=∀k,k<n.au.length->kA n l c own fr to k=own.getD (n.au.getD k default).head.toNat default
def BP:mH lP:=by simp[mH,jj,lP]
def mI(n:aD)(l:aV)(c:d6)(fr to:Int)(own:eV)(y:Nat):eV:=(List.range y).foldl (wk n l c fr to) own
def BQ(n:aD)(l:aV)(c:d6)(fr to:Int)(own:eV)(y:Nat):mI n l c fr to own (y+1)=wk n l c fr to (mI n l c fr to own y) y:=by
 simp[mI,ZaR,ZaI]
def Md{x:Cell}(hx:x=own.getD h default):own.set h x=own:=by
 subst hx;apply ZbN;intro j;rw[ZbC];split
 ·rename_i e;subst e;split
  ·rename_i hl;simp[List.getD,hl]
  ·rename_i hl;rw[Zbs (by omega)]
 ·rfl
def AH{n:aD}{l:aV}{c:d6}{own:eV}{fr to:Nat}(hn:AD n)(hl:F7 l)(hc:NI c)(ho:nM n own)(vR:fr<=to)(ik:to<=1000):∀y,y<=n.au.length->
  nM n (mI n l c fr to own y)/\((mI n l c fr to own y=own/\∀k,k<y->kA n l c own fr to k=own.getD (n.au.getD k default).head.toNat default)\/wl (mI n l c fr to own y)<wl own)
 |0,_=>⟨ho,.inl ⟨rfl,λk h=>by omega⟩⟩
 |y+1,hy=>by
  obtain⟨h1,h2⟩:=AH hn hl hc ho vR ik y (by omega);obtain⟨h3,h4⟩:=Mc hn hl hc h1 (k:=y) (by omega) vR ik;rw[BQ];refine⟨h3, ?_⟩;by_cases e:kA n l c (mI n l c fr to own y) fr to y=(mI n l c fr to own y).getD (n.au.getD y default).head.toNat default
  ·have e2:wk n l c fr to (mI n l c fr to own y) y=mI n l c fr to own y:=Md e;rw[e2];rcases h2 with⟨g1,g2⟩|h2
   ·refine .inl ⟨g1,λk hk=>?_⟩;by_cases wH:k=y
    ·subst wH;rwa [g1]at e
    ·exact g2 k (by omega)
   ·exact .inr h2
  ·have:=h4 e;rcases h2 with⟨g1,g2⟩|h2
   ·rw[g1]at this⊢;exact .inr this
   ·exact .inr (by omega)
def G6(n:aD)(l:aV)(c:d6)(fr to:Int):Nat->eV->eV
 |0,own=>own
 |f+1,own=>if mI n l c fr to own n.au.length=own then own else G6 n l c fr to f (mI n l c fr to own n.au.length)
def Me(n:aD):eV:=List.replicate n.an.toNat lP
def mm(n:aD)(l:aV)(c:d6)(fr to:Int):eV:=G6 n l c fr to (wl (Me n)+1) (Me n)
def own0_ok{n:aD}(hn:AD n):nM n (Me n):=by
 refine⟨?_,λx hx=>?_⟩
 ·have:=hn.1;simp only[Me,Zby];omega
 ·rw[ZbI hx];exact BP
def Mp{n:aD}{l:aV}{c:d6}{fr to:Nat}(hn:AD n)(hl:F7 l)(hc:NI c)(vR:fr<=to)(ik:to<=1000)
  (P:eV->Prop) (hPs:∀own k,nM n own->k<n.au.length->P own->P (wk n l c fr to own k)):∀f own,wl own<f->nM n own->P own->nM n (G6 n l c fr to f own)/\P (G6 n l c fr to f own)/\Pb n l c fr to (G6 n l c fr to f own)
 |0,own,h,_,_=>by omega
 |f+1,own,h,ho,hp=>by
  obtain⟨h1,h2⟩:=AH hn hl hc ho vR ik n.au.length (Zaf _);have hpw:∀y,y<=n.au.length->P (mI n l c fr to own y):=by
   intro y;induction y with
   |zero=>intro _;exact hp
   |succ y ih=>intro hy;rw[BQ];exact hPs _ _ (AH hn hl hc ho vR ik y (by omega)).1 (by omega) (ih (by omega))
  unfold G6;split
  ·rename_i e;rcases h2 with⟨_,g⟩|h2
   ·exact⟨ho,hp,g⟩
   ·rw[e]at h2;omega
  ·rename_i e;rcases h2 with⟨g,_⟩|h2
   ·exact Zar g e
   ·exact Mp hn hl hc vR ik P hPs f _ (by omega) h1 (hpw _ (Zaf _))
def zc{n:aD}{l:aV}{c:d6}(hn:AD n)(hl:F7 l)(hc:NI c)(vR:fr<=to)(ik:to<=1000)
  (P:eV->Prop) (hP0:P (Me n)) (hPs:∀own k,nM n own->k<n.au.length->P own->P (wk n l c fr to own k)):nM n (mm n l c fr to)/\P (mm n l c fr to)/\Pb n l c fr to (mm n l c fr to):=
 Mp hn hl hc vR ik P hPs _ _ (by omega) (own0_ok hn) hP0
end
section
variable{st nn:Int}{f:Nat}{cells:eV}
def Ji(l:eV):iJ.iU (cu l).flatten=true:=by
 induction l with
 |nil=>rfl
 |cons x l ih=>simpa [cu,Cell.enc,iJ.iU,iJ]using ih
def Fe{k:Nat}(h:(k:Int)<=st)(hf:f<=k):pre st f<=pre st k:=by
 induction k with
 |zero=>
   obtain rfl:f=0:=by omega
   omega
 |succ k ih=>
  by_cases e:f=k+1
  ·subst e;omega
  ·have:=ih (by omega) (by omega);simp only[pre];omega
def Jj(st:Int):∀n:Nat,2*pre st n=n*(2*st-n+1)
 |0=>by simp[pre]
 |n+1=>by
  have:=Jj st n;simp only[pre];have e:2*(pre st n+st-n)=2*pre st n+2*st-2*n:=by omega
  rw[e,this]
  push_cast
  grind
def vE(h:0<=st):lR nn st=nn*pre st st.toNat:=by
 unfold lR;have h2:=Jj st st.toNat;rw[show((st.toNat:Nat):Int)=st by omega]at h2;have e:nn*st*(st+1)=2*(nn*pre st st.toNat):=by grind
 rw[e];omega
def Fg{t:Nat}(h1:0<nn)(h3:(t:Int)<st)(h4:f<=t){i:Int}(hi:i<nn):ef nn st f t+i<lR nn st:=by
 rw[vE (by omega)];have h5:=Fe (st:=st) (f:=f+1) (k:=st.toNat) (by omega) (by omega);simp only[pre]at h5;have h6:(pre st f+t-f+1)*nn<=pre st st.toNat*nn:=Zck (by omega) (by omega);unfold ef;rw[Int.mul_comm nn];have:(pre st f+t-f+1)*nn=(pre st f+t-f)*nn+nn:=by grind
 omega
def tE(cells own:eV)(wW:Nat)(y:Nat):eV:=(List.range y).foldl (λcs i=>cs.set (wW+i) (own.getD i default)) cells
def vD(cells own:eV)(wW y:Nat):tE cells own wW (y+1)=(tE cells own wW y).set (wW+y) (own.getD y default):=by simp[tE,ZaR,ZaI]
@[simp] def Mi(cells own:eV)(wW y:Nat):(tE cells own wW y).length=cells.length:=by
 induction y with
 |zero=>rfl
 |succ y ih=>rw[vD,List.length_set,ih]
def aaD{own:eV}{wW y:Nat}{x:Cell}(h:x∈tE cells own wW y)(hy:y<=own.length):x∈cells\/x∈own:=by
 induction y with
 |zero=>exact .inl h
 |succ y ih=>
  rw[vD]at h;rcases ZaS h with h|rfl
  ·exact ih h (by omega)
  ·exact .inr (bm (by omega))
def Ff(n:aD)(l:aV)(len:Nat)(cells:eV)(f:Nat):eV:=
 tE cells (mm n l ⟨n.an,l.bn,cells⟩ f ((f:Int)+len)) (ef n.an l.bn f (f+len)).toNat n.an.toNat
def aaB(n:aD)(l:aV)(cells:eV)(len:Nat):eV:=(List.range (l.bn.toNat-len)).foldl (Ff n l len) cells
def nK(n:aD)(l:aV):eV:=(List.range l.bn.toNat).foldl (aaB n l) (List.replicate (lR n.an l.bn).toNat ⟨0,0,0,0⟩)
def Mk{n:aD}{l:aV}{c:d6}{fr to:Nat}(hn:AD n)(hl:F7 l)(hc:NI c)(vR:fr<=to)(ik:to<=1000):nM n (mm n l c fr to):=
 (zc hn hl hc vR ik (λ_=>True) trivial λ_ _ _ _ _=>trivial).1
def kG(n:aD)(l:aV)(cells:eV):Prop:=(cells.length:Int)=lR n.an l.bn/\∀x∈cells,jj x.val
def kG.ok{n:aD}{l:aV}(hn:AD n)(hl:F7 l)(h:kG n l cells):NI ⟨n.an,l.bn,cells⟩:=by
 have h1:=hn.1;have h2:=hn.2.1;have h3:=hl.1;have h4:=hl.2.1;refine⟨by simp only;omega,h2,by simp only;omega,h4, ?_,h.2⟩;have:=vE (nn:=n.an) (st:=l.bn) (by omega);have hb:=(ir h4 l.bn.toNat (by omega));have:=g9 (a:=n.an) (A:=1000) (b:=pre l.bn l.bn.toNat) (B:=1000000) (by omega) (by omega) hb.1 (by omega);have:=h.1;simp only;omega
def kG.step{n:aD}{l:aV}(hn:AD n)(hl:F7 l)(h:kG n l cells){len y:Nat}(vR:f+len<=1000)(hy:y<=n.an.toNat)(a:Nat):kG n l (tE cells (mm n l ⟨n.an,l.bn,cells⟩ f ((f:Int)+len)) a y):=by
 have ho:=Mk hn hl (h.ok hn hl) (fr:=f) (to:=f+len) (by omega) vR;rw[show((f+len:Nat):Int)=(f:Int)+len by omega]at ho;refine⟨by rw[Mi];exact h.1,λx hx=>?_⟩;rcases aaD hx (by have:=ho.1;omega)with hx|hx
 ·exact h.2 x hx
 ·exact(ho.2 x hx).1
def CN{n:aD}{l:aV}{cells:eV}(hn:AD n)(hl:F7 l)(h:kG n l cells){len:Nat}:∀k,(k+len:Nat)<=1001->kG n l ((List.range k).foldl (Ff n l len) cells)
 |0,_=>h
 |k+1,hk=>by
  rw[ZaR,ZaI];exact(CN hn hl h k (by omega)).step hn hl (by omega) (Zaf _) _
def cells0{n:aD}{l:aV}(hn:AD n)(hl:F7 l):kG n l (List.replicate (lR n.an l.bn).toNat ⟨0,0,0,0⟩):=by
 have h4:=hl.2.1;have hb:=(ir h4 l.bn.toNat (by have:=hl.1;omega));have:=Zcq (a:=n.an) (by have:=hn.1;omega) hb.1;have:=vE (nn:=n.an) (st:=l.bn) (by have:=hl.1;omega);refine⟨by rw[Zby];omega,λx hx=>?_⟩;rw[ZbI hx];simp[jj]
def Ml{n:aD}{l:aV}(hn:AD n)(hl:F7 l):∀k:Nat,(k:Int)<=l.bn->kG n l ((List.range k).foldl (aaB n l) (List.replicate (lR n.an l.bn).toNat ⟨0,0,0,0⟩)):=by
 intro k;induction k with
 |zero=>intro _;exact cells0 hn hl
 |succ k ih=>
  intro hk;rw[ZaR,ZaI];exact CN hn hl (ih (by omega)) _ (by have:=hl.2.1;omega)
end
def FN(st:Int)(f:Nat):(f:Int)*st-((f:Int)*((f:Int)-1)).tdiv 2=pre st f:=by
 have h:=Jj st f;obtain⟨k,hk⟩:∃k:Nat,f*(f-1)=2*k:=by
  rcases(show(∃a,f=2*a)\/∃a,f=2*a+1 from by
   by_cases e:f % 2=0
   ·exact .inl ⟨f/2,by omega⟩
   ·exact .inr ⟨f/2,by omega⟩)with h|h
  ·obtain⟨a,rfl⟩:=h;exact⟨a*(2*a-1),by rw[Nat.mul_assoc]⟩
  ·obtain⟨a,rfl⟩:=h;exact⟨(2*a+1)*a,by rw[show 2*a+1-1=2*a by omega,Nat.mul_left_comm]⟩
 have wH:(f:Int)*((f:Int)-1)=2*(k:Int):=by
  cases f with
  |zero=>
    obtain rfl:k=0:=by omega
    simp
  |succ f=>rw[show f+1-1=f by omega]at hk;rw[show((f+1:Nat):Int)-1=(f:Int)by omega];exact_mod_cast hk
 rw[wH,show(2*(k:Int)).tdiv 2=k by rw[DP (by omega)];omega];have:(f:Int)*(2*st-f+1)=2*((f:Int)*st)-(f:Int)*((f:Int)-1):=by grind
 omega
def t64(c:d6)(f t:Nat)(h1:0<=c.an)(h2:c.an<=1000)(h3:c.bn<=1000)(h4:(f:Int)<=c.bn)(h5:t<=1000)(h6:f<=t):bl aj 151 [c.enc,ti f,ti t] (ti (ef c.an c.bn f t)):=by
 obtain⟨cn,cs,cl⟩:=c;simp only at h1 h2 h3 h4;have hb:=ir h3 f h4;have hc:=FN cs f;have b1:=g9 (a:=(f:Int)) (A:=1000) (b:=cs) (B:=1000) (by omega) (by omega) (by omega) h3;have b2:=g9 (a:=(f:Int)) (A:=1000) (b:=(f:Int)) (B:=1000) (by omega) (by omega) (by omega) (by omega);have hff:(f:Int)*((f:Int)-1)=(f:Int)*f-f:=by grind
 have hffb:0<=(f:Int)*((f:Int)-1)/\(f:Int)*((f:Int)-1)<=1000000:=by
  refine⟨?_,by omega⟩;cases f with
  |zero=>simp
  |succ f=>exact Zcq (by omega) (by omega)
 obtain⟨P,hP⟩:=bb (pre cs f);rw[hP]at hb hc;have hq:((f:Int)*((f:Int)-1)).tdiv 2=(f:Int)*((f:Int)-1)/2:=DP hffb.1;have b3:=g9 (a:=P+t-f) (A:=2000000) (b:=cn) (B:=1000) (by omega) (by omega) h1 h2;have m1:IntKind.i64.wrap ((f:Int)*cs)=(f:Int)*cs:=aF (by omega);have m2:IntKind.i64.wrap ((f:Int)-1)=(f:Int)-1:=aF (by omega);have m3:IntKind.i64.wrap ((f:Int)*((f:Int)-1))=(f:Int)*((f:Int)-1):=aF (by omega);have m4:IntKind.i64.wrap (((f:Int)*((f:Int)-1)).tdiv 2)=((f:Int)*((f:Int)-1)).tdiv 2:=by rw[hq];exact aF (by omega)
 have m5:IntKind.i64.wrap ((f:Int)*cs-((f:Int)*((f:Int)-1)).tdiv 2)=P:=by rw[hc];exact aF (by omega)
 have m6:IntKind.i64.wrap (P+t)=P+t:=aF (by omega);have m7:IntKind.i64.wrap (P+t-f)=P+t-f:=aF (by omega);have m8:IntKind.i64.wrap ((P+t-f)*cn)=ef cn cs f t:=by unfold ef;rw[hP];exact aF (by omega)
 have aC:=cF;refine c64.ok (by simp) (aO ?_);simp[d6.enc];apply aa.ch aC fw [1,2,3];simp[d64r0];refine aa.lk (o:=[]) (l:=[(1,.v (ti f)),(2,.v (ti t)),(3,.v (.box [ti cn,ti cs,.sl (cu cl)]))]) (ba:=1200) (by simp) ?_;apply aa.ch aC fw [1,2,3,7];simp[d64r1,m1,m2,m3,m4,m5];apply aa.ch aC fw [6];simp[d64r2,m6,m7,m8];apply aa.ret;simp[Zm]
def zH(c:d6):Prop:=1<=c.an/\c.an<=1000/\1<=c.bn/\c.bn<=1000/\(c.cells.length:Int)=lR c.an c.bn
abbrev s64:DM.Spec:=cT (λts=>∃cn cs cl,∃f t:Int,ts=[.agg [ti cn,ti cs,.sl (cu cl)],ti f,ti t]/\0<=cn/\cn<=1000/\cs<=1000/\0<=f/\f<=cs/\t<=1000/\f<=t) (fun|[.agg [.int _ n,.int _ st,_],.int _ f,.int _ t]=>ti (ef n st f.toNat t.toNat)|_=>.bool false) true
def ok64:ay aj (bu [(151,s64)]):=by
 refine ay.cons ay.nil ?_;rintro ts ⟨cn,cs,cl,f,t,rfl,h1,h2,h3,h4,h5,h6,h7⟩;obtain⟨f,rfl⟩:=Zae h4;obtain⟨t,rfl⟩:=Zae (a:=t) (by omega);exact⟨by simpa [d6.enc]using t64 ⟨cn,cs,cl⟩ f t h1 h2 h3 h5 (by omega) (by omega),λ_=>rfl⟩
def t37(c:d6)(h f t:Int)(hc:zH c):bl aj 144 [c.enc,.agg [ti h,ti f,ti t]] (.agg (NJ c h f t).enc):=by
 obtain⟨cn,cs,cl⟩:=c;obtain⟨k1,k2,k3,k4,k5⟩:=hc;simp only at k1 k2 k3 k4 k5;obtain⟨R,hR⟩:=bb (NJ ⟨cn,cs,cl⟩ h f t);rw[hR];unfold NJ at hR;simp only at hR;have aC:=ok64;refine c37.ok (by simp) (aO ?_);simp[d6.enc];apply aa.ch aC fw [2,3,4];simp[d37r0];refine aa.lk (o:=[(1005,.box [.v (ti 0),.v (ti 0),.v (ti 0),.v (ti 0)])]) (l:=[(2,.v (.box [ti cn,ti cs,.sl (cu cl)])),(3,.v (.box [ti h,ti f,ti t])),(4,.ptr 1005 0)]) (ba:=1200) (by simp) ?_;apply aa.seq;obtain⟨c1,bU⟩:=bb (decide (h<0\/h>=cn\/f<0\/t<f\/t>=cs):Bool);refine aa.cz aC fw [(2,.v (.box [ti cn,ti cs,.sl (cu cl)])),(3,.v (.box [ti h,ti f,ti t])),(4,.ptr 1005 0),(35,.v (.bool c1))] ?_ ?_
 ·by_cases q1:h<0
  ·have:c1=true:=by rw[<-bU];simp[q1]
   simp[Eh,q1,this]
  ·skip
   by_cases q2:h>=cn
   ·have:c1=true:=by rw[<-bU];simp[q2]
    simp[Eh,q1,q2,this]
   ·skip
    by_cases q3:f<0
    ·have:c1=true:=by rw[<-bU];simp[q3]
     simp[Eh,q1,q2,q3,this]
    ·skip
     by_cases q4:t<f
     ·have:c1=true:=by rw[<-bU];simp[q4]
      simp[Eh,q1,q2,q3,q4,this]
     ·skip
      by_cases q5:t>=cs
      ·have:c1=true:=by rw[<-bU];simp[q5]
       simp[Eh,q1,q2,q3,q4,q5,this]
      ·skip
       have:c1=false:=by rw[<-bU];simp[q1,q2,q3,q4,q5]
       simp[Eh,q1,q2,q3,q4,q5,this]
 refine aa.cond rfl (λg1=>?_) (λg1=>?_)
 ·rw[g1]at bU;rw[Zai (Zat bU)]at hR;subst hR;apply aa.ch aC fw [4];simp[d37r2];apply aa.ret;simp[ON,lP,Cell.enc]
 ·rw[g1]at bU;have bU:=Zay bU;rw[Zab bU]at hR;obtain⟨f,rfl⟩:=Zae (a:=f) (by omega);obtain⟨t,rfl⟩:=Zae (a:=t) (by omega);simp only[Zag]at hR;have ln:=Fg (nn:=cn) (st:=cs) (f:=f) (t:=t) (by omega) (by omega) (by omega) (i:=h) (by omega);have hib:=ir k4 f (by omega);have hcp:=vE (nn:=cn) (st:=cs) (by omega);have hpn:pre cs 1<=pre cs cs.toNat:=Fe (by omega) (by omega);have hp1:pre cs 1=cs:=by simp[pre]
  have QD:cn*cs<=cn*pre cs cs.toNat:=ZcP (by omega) (by omega);have NX:cn*1<=cn*cs:=ZcP (by omega) (by omega);have hm3:1*cs<=cn*cs:=Zck (by omega) (by omega);have hi0:0<=ef cn cs f t:=by unfold ef;exact Zcq (by omega) (by omega)
  obtain⟨I,hI⟩:=bb (ef cn cs f t);rw[hI]at ln hi0 hR;obtain⟨i,hi⟩:=Zae (a:=I+h) (by omega);rw[hi]at hR;have As:i<cl.length:=by omega
  have aT:cl.length<=1000000000000:=by
   have hb:=ir k4 cs.toNat (by omega);have:=g9 (a:=cn) (A:=1000) (b:=pre cs cs.toNat) (B:=1000000) (by omega) (by omega) hb.1 (by omega);omega
  apply aa.skip;simp;apply aa.ch aC fw [2,3,4,5];simp[d37r3];apply aa.seq;have q1:¬(t:Int)>cl.length:=by omega
  have q2:¬cs>cl.length:=by omega
  have q3:¬cn>cl.length:=by omega
  have q4:¬h>=cl.length:=by omega
  have q1n:¬cl.length<t:=by omega
  refine aa.cz aC fw [(2,.v (.box [ti cn,ti cs,.sl (cu cl)])),(3,.v (.box [ti h,ti f,ti t])),(4,.ptr 1005 0),(5,.v (ti cl.length)),(71,.v (.bool false))] ?_ ?_
  ·by_cases z1:0<f
   ·by_cases z2:0<t
    ·simp[Lc,q1,q1n,q2,q3,q4,z1,z2]
    ·simp[Lc,q1,q1n,q2,q3,q4,z1,z2]
   ·by_cases z2:0<t
    ·simp[Lc,q1,q1n,q2,q3,q4,z1,z2]
    ·simp[Lc,q1,q1n,q2,q3,q4,z1,z2]
  refine aa.cond rfl (λg4=>?_) (λg4=>?_)
  ·exact Zar g4 (by simp)
  ·apply aa.skip;simp;apply aa.ch aC fw [2,4,5,6];simp[d37r6,Zba,hI,hi,aF (x:=(i:Int)) (by omega)];repeat (refine⟨by omega, ?_⟩)
   apply aa.seq;apply aa.ch aC fw [2,4,6,84];simp[d37r7];refine aa.cond rfl (λg7=>?_) (λg7=>?_)
   ·exact Zar g7 (by simp;omega)
   ·apply aa.skip;simp;have rr:=BO As;have zQ:cl.getD i default=R:=by rw[<-hR];simp[List.getD,As]
    rw[zQ]at rr;obtain⟨rc,rz,rr1,ra⟩:=R;apply aa.ch aC fw [4];simp[d37r9,As,rr,Cell.enc];apply aa.ret;simp[ON]
def kindOk(n:aD)(r:di):Prop:=
 if r.kind=1 then r.a=0/\r.b=0 else if r.kind=2 then r.a>=0/\r.a<n.aL/\r.b=0 else if r.kind=3 then r.a>=0/\r.a<n.an/\r.b=0
 else if r.kind=4 then r.a>=0/\r.a<n.an/\r.b>=0/\r.b<n.an else False
instance(n:aD)(r:di):Decidable (kindOk n r):=by unfold kindOk;infer_instance
def gE(n:aD)(r:di):Prop:=¬(r.head<0\/r.head>=n.an\/r.cq<0\/r.cq>1000\/r.origin< -1)
instance(n:aD)(r:di):Decidable (gE n r):=by unfold gE;infer_instance
def nT(n:aD):Prop:=¬(n.aL<0\/n.aL>120\/n.an<1\/n.an>1000\/n.start<0\/n.start>=n.an\/(n.au.length:Int)>600)
instance(n:aD):Decidable (nT n):=by unfold nT;infer_instance
def dO(n:aD):Prop:=nT n/\∀i,i<n.au.length->gE n (n.au.getD i default)/\kindOk n (n.au.getD i default)
instance(n:aD):Decidable (dO n):=by unfold dO;infer_instance
def dO.ok{n:aD}(h:dO n):AD n:=by
 obtain⟨h1,h2⟩:=h;unfold nT at h1;refine⟨by omega,by omega,by omega,λr hr=>?_⟩;obtain⟨i,hi,rfl⟩:=ZaO hr;obtain⟨h3,h4⟩:=h2 i hi;rw[show n.au.getD i default=n.au[i]by simp[List.getD,hi]]at h3 h4;unfold gE at h3;unfold kindOk at h4;unfold Fc;refine⟨by omega,by omega,by omega,by omega, ?_⟩;split at h4
 ·exact .inl (by assumption)
 ·split at h4
  ·exact .inr (.inl ⟨by assumption,by omega,by omega⟩)
  ·split at h4
   ·exact .inr (.inr (.inl ⟨by assumption,by omega,by omega⟩))
   ·split at h4
    ·exact .inr (.inr (.inr ⟨by assumption,by omega,by omega,by omega,by omega⟩))
    ·exact h4.elim
def t20(n:aD)(hl:n.au.length<=9223372036854775807):bl aj 34 [n.enc] (.bool (decide (dO n))):=by
 obtain⟨nt,nn,ns,au⟩:=n;obtain⟨v,hv⟩:=bb (decide (dO ⟨nt,nn,ns,au⟩));rw[hv];simp only at hl;have c7:dO ⟨nt,nn,ns,au⟩↔nT ⟨nt,nn,ns,au⟩/\∀i,i<au.length->gE ⟨nt,nn,ns,au⟩ (au.getD i default)/\kindOk ⟨nt,nn,ns,au⟩ (au.getD i default):=Iff.rfl;have cZ:¬dO ⟨nt,nn,ns,au⟩->v=false:=λh=>by rw[<-hv];simp[h]
 have aC:=cF;refine c20.ok (by simp) (aO ?_);simp[aD.enc];apply aa.ch aC fw [1];simp[d20r0];refine aa.lk (o:=[]) (l:=[(1,.v (.box [ti nt,ti nn,ti ns,.sl (aU au)]))]) (ba:=1200) (by simp) ?_;apply aa.seq;obtain⟨c1,bU⟩:=bb (decide (nt<0\/nt>120\/nn<1\/nn>1000\/ns<0\/ns>=nn\/(au.length:Int)>600):Bool);refine aa.cz aC fw [(1,.v (.box [ti nt,ti nn,ti ns,.sl (aU au)])),(41,.v (.bool c1))] ?_ ?_
 ·by_cases q1:nt<0
  ·have:c1=true:=by rw[<-bU];simp[q1]
   simp[yM,q1,this]
  ·skip
   by_cases q2:nt>120
   ·have:c1=true:=by rw[<-bU];simp[q2]
    simp[yM,q1,q2,this]
   ·skip
    by_cases q3:nn<1
    ·have:c1=true:=by rw[<-bU];simp[q3]
     simp[yM,q1,q2,q3,this]
    ·skip
     by_cases q4:nn>1000
     ·have:c1=true:=by rw[<-bU];simp[q4]
      simp[yM,q1,q2,q3,q4,this]
     ·skip
      by_cases q5:ns<0
      ·have:c1=true:=by rw[<-bU];simp[q5]
       simp[yM,q1,q2,q3,q4,q5,this]
      ·skip
       by_cases q6:ns>=nn
       ·have:c1=true:=by rw[<-bU];simp[q6]
        simp[yM,q1,q2,q3,q4,q5,q6,this]
       ·skip
        by_cases q7:(au.length:Int)>600
        ·have:c1=true:=by rw[<-bU];simp[q7]
         simp[yM,q1,q2,q3,q4,q5,q6,q7,this]
        ·skip
         have:c1=false:=by rw[<-bU];simp[q1,q2,q3,q4,q5,q6,q7]
         simp[yM,q1,q2,q3,q4,q5,q6,q7,this]
 refine aa.cond rfl (λh1=>?_) (λh1=>?_)
 ·rw[h1]at bU;have bU:=Zat bU;apply aa.ch aC fw [2];simp[d20r2];apply aa.ret;rw[cZ λh=>(c7.1 h).1 bU];simp[sF]
 ·rw[h1]at bU;have bU:=Zay bU;apply aa.skip;simp;apply aa.seq;apply aa.ch aC fw [1,3];simp[d20r3];apply aa.block;refine aa.loop (λy:Nat=>⟨DM.look [(1,.v (.box [ti nt,ti nn,ti ns,.sl (aU au)])),(3,.v (ti y))],cM [],2000,1000,[]⟩)
   (λy=>y<=au.length/\∀i,i<y->gE ⟨nt,nn,ns,au⟩ (au.getD i default)/\kindOk ⟨nt,nn,ns,au⟩ (au.getD i default)) (λy=>au.length-y) 0 (Le.bi (o:=[]) ?_ ?_ ?_ ?_) (by simp) (λy hy=>?_)
  iterate 4(·simp)
  obtain⟨lq,fJ⟩:=hy;apply aa.seq;apply aa.ch aC fw [1,3,46];simp[d20r4];refine aa.cond rfl (λcR=>?_) (λcR=>?_)
  ·have cR:y<au.length:=by simpa using cR
   apply aa.skip;simp;apply aa.seq;apply aa.block;have rr:=kZ cR;obtain⟨⟨rk,rh,ra,rb,rp,rg⟩,hr⟩:=bb (au.getD y default);rw[hr]at rr;apply aa.ch aC fw [1,3,4];simp[d20r5,cR,rr,di.enc];refine aa.lk (o:=[]) (l:=[(1,.v (.box [ti nt,ti nn,ti ns,.sl (aU au)])),(3,.v (ti y)),(4,.v (.box [ti rk,ti rh,ti ra,ti rb,ti rp,ti rg]))]) (ba:=2400) (by simp) ?_;apply aa.seq;obtain⟨c2,gI⟩:=bb (decide (rh<0\/rh>=nn\/rp<0\/rp>1000\/rg< -1):Bool);refine aa.cz aC fw [(1,.v (.box [ti nt,ti nn,ti ns,.sl (aU au)])),(3,.v (ti y)),(4,.v (.box [ti rk,ti rh,ti ra,ti rb,ti rp,ti rg])),(78,.v (.bool c2))] ?_ ?_
   ·by_cases q1:rh<0
    ·have:c2=true:=by rw[<-gI];simp[q1]
     simp[Ee,q1,this]
    ·skip
     by_cases q2:rh>=nn
     ·have:c2=true:=by rw[<-gI];simp[q2]
      simp[Ee,q1,q2,this]
     ·skip
      by_cases q3:rp<0
      ·have:c2=true:=by rw[<-gI];simp[q3]
       simp[Ee,q1,q2,q3,this]
      ·skip
       by_cases q4:rp>1000
       ·have:c2=true:=by rw[<-gI];simp[q4]
        simp[Ee,q1,q2,q3,q4,this]
       ·skip
        by_cases q5:rg< -1
        ·have:c2=true:=by rw[<-gI];simp[q5]
         simp[Ee,q1,q2,q3,q4,q5,this]
        ·skip
         have:c2=false:=by rw[<-gI];simp[q1,q2,q3,q4,q5]
         simp[Ee,q1,q2,q3,q4,q5,this]
   refine aa.cond rfl (λh2=>?_) (λh2=>?_)
   ·rw[h2]at gI;have gI:=Zat gI;apply aa.ch aC fw [2];simp[d20r7];apply aa.ret;rw[cZ λh=>((c7.1 h).2 y cR).1 (by rw[hr];exact gI)];simp[sF]
   ·rw[h2]at gI;have gI:gE ⟨nt,nn,ns,au⟩ ⟨rk,rh,ra,rb,rp,rg⟩:=Zay gI;apply aa.skip;simp;obtain⟨k1,pJ⟩:=bb (decide (kindOk ⟨nt,nn,ns,au⟩ ⟨rk,rh,ra,rb,rp,rg⟩):Bool);have Cd:=pJ;have pJ:k1=true↔kindOk ⟨nt,nn,ns,au⟩ ⟨rk,rh,ra,rb,rp,rg⟩:=by rw[<-Cd,decide_eq_true_iff]
    simp only[kindOk]at pJ;apply aa.ch aC fw [1,3,4,5];simp[d20r8];apply aa.seq;apply aa.ch aC fw [1,3,4,5,80];simp[d20r9];apply aa.block;apply aa.ch aC fw [1,3,4,5,80,81];simp[Zh];refine aa.cond rfl (λg1=>?_) (λg1=>?_)
    ·have g1:rk=1:=by simpa using g1
     rw[Zai g1]at pJ;have wH:decide (ra=0/\rb=0)=k1:=by cases k1<;>simp at pJ⊢<;>first|exact pJ|omega
     refine aa.Ij aC fw [(1,.v (.box [ti nt,ti nn,ti ns,.sl (aU au)])),(3,.v (ti y)),(5,.v (.bool k1))] ?_ ?_
     ·by_cases q1:ra=0
      ·skip
       by_cases q2:rb=0
       ·skip
        have:k1=true:=by rw[<-wH];simp[q1,q2]
        simp[Ix,q1,q2,this]
       ·have:k1=false:=by rw[<-wH];simp[q2]
        simp[Ix,q1,q2,this]
      ·have:k1=false:=by rw[<-wH];simp[q1]
       simp[Ix,q1,this]
     apply aa.ch aC fw [1,3,150];simp[Ay];refine aa.cond rfl (λh5=>?_) (λh5=>?_)
     ·skip
      apply aa.ch aC fw [2];simp[Az];apply aa.ret;rw[cZ λh=>by
       have h6:=((c7.1 h).2 y cR).2;rw[hr]at h6;rw[decide_eq_true h6]at Cd
       simp_all]
      simp[sF]
     ·skip
      apply aa.skip;simp;have pJ:kindOk ⟨nt,nn,ns,au⟩ ⟨rk,rh,ra,rb,rp,rg⟩:=Zat (by rw[Cd];simp_all);apply aa.fK aC fw [1,3];simp[AA];rw[aF (x:=(y:Int)+1) (by omega)];refine⟨y+1,Le.bi (o:=[]) ?_ ?_ ?_ ?_,⟨by omega,λi hi=>?_⟩,by omega⟩;iterate 4(·simp)
      ·by_cases e:i=y
       ·subst e;show gE _ (au.getD i default)/\kindOk _ (au.getD i default);rw[hr];exact⟨gI,pJ⟩
       ·exact fJ i (by omega)
    ·have g1:¬rk=1:=by simpa using g1
     rw[Zab g1]at pJ;apply aa.ch aC fw [1,3,4,5,80,91];simp[Zi];refine aa.cond rfl (λg2=>?_) (λg2=>?_)
     ·have g2:rk=2:=by simpa using g2
      rw[Zai g2]at pJ;have wH:decide (ra>=0/\ra<nt/\rb=0)=k1:=by cases k1<;>simp at pJ⊢<;>first|exact pJ|omega
      refine aa.Ij aC fw [(1,.v (.box [ti nt,ti nn,ti ns,.sl (aU au)])),(3,.v (ti y)),(5,.v (.bool k1))] ?_ ?_
      ·by_cases q1:ra>=0
       ·skip
        by_cases q2:ra<nt
        ·skip
         by_cases q3:rb=0
         ·skip
          have:k1=true:=by rw[<-wH];simp[q1,q2,q3]
          simp[Ef,q1,q2,q3,this]
         ·have:k1=false:=by rw[<-wH];simp[q3]
          simp[Ef,q1,q2,q3,this]
        ·have:k1=false:=by rw[<-wH];simp[q2]
         simp[Ef,q1,q2,this]
       ·have:k1=false:=by rw[<-wH];simp[q1]
        simp[Ef,q1,this]
      apply aa.ch aC fw [1,3,150];simp[Ay];refine aa.cond rfl (λh5=>?_) (λh5=>?_)
      ·skip
       apply aa.ch aC fw [2];simp[Az];apply aa.ret;rw[cZ λh=>by
        have h6:=((c7.1 h).2 y cR).2;rw[hr]at h6;rw[decide_eq_true h6]at Cd
        simp_all]
       simp[sF]
      ·skip
       apply aa.skip;simp;have pJ:kindOk ⟨nt,nn,ns,au⟩ ⟨rk,rh,ra,rb,rp,rg⟩:=Zat (by rw[Cd];simp_all);apply aa.fK aC fw [1,3];simp[AA];rw[aF (x:=(y:Int)+1) (by omega)];refine⟨y+1,Le.bi (o:=[]) ?_ ?_ ?_ ?_,⟨by omega,λi hi=>?_⟩,by omega⟩;iterate 4(·simp)
       ·by_cases e:i=y
        ·subst e;show gE _ (au.getD i default)/\kindOk _ (au.getD i default);rw[hr];exact⟨gI,pJ⟩
        ·exact fJ i (by omega)
     ·have g2:¬rk=2:=by simpa using g2
      rw[Zab g2]at pJ;apply aa.ch aC fw [1,3,4,5,80,108];simp[Zj];refine aa.cond rfl (λg3=>?_) (λg3=>?_)
      ·have g3:rk=3:=by simpa using g3
       rw[Zai g3]at pJ;have wH:decide (ra>=0/\ra<nn/\rb=0)=k1:=by cases k1<;>simp at pJ⊢<;>first|exact pJ|omega
       refine aa.Ij aC fw [(1,.v (.box [ti nt,ti nn,ti ns,.sl (aU au)])),(3,.v (ti y)),(5,.v (.bool k1))] ?_ ?_
       ·by_cases q1:ra>=0
        ·skip
         by_cases q2:ra<nn
         ·skip
          by_cases q3:rb=0
          ·skip
           have:k1=true:=by rw[<-wH];simp[q1,q2,q3]
           simp[Eg,q1,q2,q3,this]
          ·have:k1=false:=by rw[<-wH];simp[q3]
           simp[Eg,q1,q2,q3,this]
         ·have:k1=false:=by rw[<-wH];simp[q2]
          simp[Eg,q1,q2,this]
        ·have:k1=false:=by rw[<-wH];simp[q1]
         simp[Eg,q1,this]
       apply aa.ch aC fw [1,3,150];simp[Ay];refine aa.cond rfl (λh5=>?_) (λh5=>?_)
       ·skip
        apply aa.ch aC fw [2];simp[Az];apply aa.ret;rw[cZ λh=>by
         have h6:=((c7.1 h).2 y cR).2;rw[hr]at h6;rw[decide_eq_true h6]at Cd
         simp_all]
        simp[sF]
       ·skip
        apply aa.skip;simp;have pJ:kindOk ⟨nt,nn,ns,au⟩ ⟨rk,rh,ra,rb,rp,rg⟩:=Zat (by rw[Cd];simp_all);apply aa.fK aC fw [1,3];simp[AA];rw[aF (x:=(y:Int)+1) (by omega)];refine⟨y+1,Le.bi (o:=[]) ?_ ?_ ?_ ?_,⟨by omega,λi hi=>?_⟩,by omega⟩;iterate 4(·simp)
        ·by_cases e:i=y
         ·subst e;show gE _ (au.getD i default)/\kindOk _ (au.getD i default);rw[hr];exact⟨gI,pJ⟩
         ·exact fJ i (by omega)
      ·have g3:¬rk=3:=by simpa using g3
       rw[Zab g3]at pJ;apply aa.ch aC fw [1,3,4,5,125];simp[Zk];refine aa.cond rfl (λg4=>?_) (λg4=>?_)
       ·have g4:rk=4:=by simpa using g4
        rw[Zai g4]at pJ;have wH:decide (ra>=0/\ra<nn/\rb>=0/\rb<nn)=k1:=by cases k1<;>simp at pJ⊢<;>first|exact pJ|omega
        refine aa.Ij aC fw [(1,.v (.box [ti nt,ti nn,ti ns,.sl (aU au)])),(3,.v (ti y)),(5,.v (.bool k1))] ?_ ?_
        ·by_cases q1:ra>=0
         ·skip
          by_cases q2:ra<nn
          ·skip
           by_cases q3:rb>=0
           ·skip
            by_cases q4:rb<nn
            ·skip
             have:k1=true:=by rw[<-wH];simp[q1,q2,q3,q4]
             simp[Ax,q1,q2,q3,q4,this]
            ·have:k1=false:=by rw[<-wH];simp[q4]
             simp[Ax,q1,q2,q3,q4,this]
           ·have:k1=false:=by rw[<-wH];simp[q3]
            simp[Ax,q1,q2,q3,this]
          ·have:k1=false:=by rw[<-wH];simp[q2]
           simp[Ax,q1,q2,this]
         ·have:k1=false:=by rw[<-wH];simp[q1]
          simp[Ax,q1,this]
        apply aa.ch aC fw [1,3,150];simp[Ay];refine aa.cond rfl (λh5=>?_) (λh5=>?_)
        ·skip
         apply aa.ch aC fw [2];simp[Az];apply aa.ret;rw[cZ λh=>by
          have h6:=((c7.1 h).2 y cR).2;rw[hr]at h6;rw[decide_eq_true h6]at Cd
          simp_all]
         simp[sF]
        ·skip
         apply aa.skip;simp;have pJ:kindOk ⟨nt,nn,ns,au⟩ ⟨rk,rh,ra,rb,rp,rg⟩:=Zat (by rw[Cd];simp_all);apply aa.fK aC fw [1,3];simp[AA];rw[aF (x:=(y:Int)+1) (by omega)];refine⟨y+1,Le.bi (o:=[]) ?_ ?_ ?_ ?_,⟨by omega,λi hi=>?_⟩,by omega⟩;iterate 4(·simp)
         ·by_cases e:i=y
          ·subst e;show gE _ (au.getD i default)/\kindOk _ (au.getD i default);rw[hr];exact⟨gI,pJ⟩
          ·exact fJ i (by omega)
       ·have g4:¬rk=4:=by simpa using g4
        rw[Zab g4]at pJ;have wH:k1=false:=by cases k1<;>simp at pJ⊢
        rw[wH]at Cd;apply aa.skip;simp;apply aa.ch aC fw [1,3,150];simp[Ay];refine aa.cond rfl (λh5=>?_) (λh5=>?_)
        ·skip
         apply aa.ch aC fw [2];simp[Az];apply aa.ret;rw[cZ λh=>by
          have h6:=((c7.1 h).2 y cR).2;rw[hr]at h6;rw[decide_eq_true h6]at Cd
          simp_all]
         simp[sF]
        ·skip
         apply aa.skip;simp;have pJ:kindOk ⟨nt,nn,ns,au⟩ ⟨rk,rh,ra,rb,rp,rg⟩:=Zat (by rw[Cd];simp_all);apply aa.fK aC fw [1,3];simp[AA];rw[aF (x:=(y:Int)+1) (by omega)];refine⟨y+1,Le.bi (o:=[]) ?_ ?_ ?_ ?_,⟨by omega,λi hi=>?_⟩,by omega⟩;iterate 4(·simp)
         ·by_cases e:i=y
          ·subst e;show gE _ (au.getD i default)/\kindOk _ (au.getD i default);rw[hr];exact⟨gI,pJ⟩
          ·exact fJ i (by omega)
  ·have hy3:y=au.length:=by simp at cR;omega
   subst hy3;apply aa.exit;simp;apply aa.ch aC fw [2];simp[Zl];apply aa.ret;have:v=true:=by rw[<-hv];exact decide_eq_true (c7.2 ⟨bU,fJ⟩)
   rw[this];simp[sF]
structure bF where
 head:Int
 dy:bO
 (aH l0 l1:Int)
 deriving DecidableEq,Inhabited
def bF.enc(e:bF):aK:=[ti e.head,.sl (aG e.dy),ti e.aH,ti e.l0,ti e.l1]
def bk(l:List bF):List (aK):=l.map bF.enc
def decHE:aK->bF
 |[a,.sl b,c,d,e]=>⟨dH a,lS b,dH c,dH d,dH e⟩
 |_=>default
def Fm(l:List (aK)):List bF:=l.map decHE
@[simp] def Wa(r:bF):decHE r.enc=r:=by simp[decHE,bF.enc,dH]
@[simp] def decHEs_enc(l:List bF):Fm (bk l)=l:=gq Wa l
@[simp] def hedgesT_len(l:List bF):(bk l).length=l.length:=by simp[bk]
@[simp] def hedgesT_inj{a b:List bF}:bk a=bk b↔a=b:=⟨λh=>by have:=congrArg Fm h;simpa using this,λh=>by rw[h]⟩
def jX{l:List bF}{y:Nat}(h:y<l.length):DM.rowAt (bk l) y=(l.getD y default).enc:=by simp[DM.rowAt,bk,h]
def jk(r:di):bO:=if r.kind=3 then [r.a]else if r.kind=4 then [r.a,r.b]else []
def t93(r:di):bl aj 98 [.agg r.enc] (.sl (aG (jk r))):=by
 obtain⟨rk,rh,ra,rb,rp,rg⟩:=r;obtain⟨R,hR⟩:=bb (jk ⟨rk,rh,ra,rb,rp,rg⟩);rw[hR];simp only[jk]at hR;have aC:=cF;refine c93.ok (by simp) (aO ?_);simp[di.enc];apply aa.ch aC fw [1];simp[d93r0];refine aa.lk (o:=[]) (l:=[(1,.v (.box [ti rk,ti rh,ti ra,ti rb,ti rp,ti rg]))]) (ba:=1200) (by simp) ?_;apply aa.seq;apply aa.ch aC fw [1,4];simp[d93r1];apply aa.block;apply aa.ch aC fw [1,4,5];simp[d93r2];refine aa.cond rfl (λh1=>?_) (λh1=>?_)
 ·have h1:rk=3:=by simpa using h1
  rw[Zai h1]at hR;subst hR;apply aa.ch aC fw [2];simp[d93r3,fU];apply aa.ret;simp[Iu,aG]
 ·have h1:¬rk=3:=by simpa using h1
  rw[Zab h1]at hR;apply aa.ch aC fw [1,10];simp[d93r4];refine aa.cond rfl (λh2=>?_) (λh2=>?_)
  ·have h2:rk=4:=by simpa using h2
   rw[Zai h2]at hR;subst hR;apply aa.ch aC fw [2];simp[d93r5,fU];apply aa.ret;simp[Iu,aG]
  ·have h2:¬rk=4:=by simpa using h2
   rw[Zab h2]at hR;subst hR;apply aa.skip;simp;apply aa.ch aC fw [2];simp[d93r6];apply aa.ret;simp[Iu,aG]
def dR(v:bR)(ts:bO):bR:=ts.map λt=>v.getD t.toNat default
def t91(e:bF)(v:bR)(h:∀t∈e.dy,0<=t/\t<v.length)(hl:e.dy.length<=1000000):oW aj 96 [.agg e.enc,.sl (bC v)] 63 2 (bC (dR v e.dy)):=by
 obtain⟨eh,ts,ec,e0,e1⟩:=e;simp only at h hl;have aC:=cF;refine c91.okF (by simp) (aO ?_);simp[bF.enc];apply aa.ch aC fw [1,2];simp[d91r0];refine aa.lk (o:=[]) (l:=[(1,.v (.sl (bC v))),(2,.v (.box [ti eh,.sl (aG ts),ti ec,ti e0,ti e1]))]) (ba:=1200) (by simp) ?_;apply aa.ch aC fw [1,2,5];simp[d91r1];refine aa.lk (o:=[]) (l:=[(1,.v (.sl (bC v))),(2,.v (.box [ti eh,.sl (aG ts),ti ec,ti e0,ti e1])),(5,.aW)]) (ba:=1400) (by simp) ?_;refine aa.le (Le.vr (k:=5) 63 (sz:=2) (by omega) (by simp)) ?_;rw[ky];apply aa.seq;apply aa.ch aC fw [1,2,5,6];simp[d91r2];apply aa.block;refine aa.loop (λy:Nat=>⟨DM.look [(1,.v (.sl (bC v))),(2,.v (.box [ti eh,.sl (aG ts),ti ec,ti e0,ti e1])),(5,.bA 1400 0),(6,.v (ti y))],cM [(1400,.dT 0 63 2 (bC (dR v (ts.take y))))],1600,1000,[]⟩)
  (λy=>y<=ts.length) (λy=>ts.length-y) 0 (Le.bi ?_ ?_ ?_ ?_) (by simp) (λy hy=>?_)
 ·simp
 ·simp
 ·simp[dR]
 ·simp
 apply aa.seq;apply aa.ch aC fw [1,2,5,6,11];simp[d91r3];refine aa.cond rfl (λcR=>?_) (λcR=>?_)
 ·have cR:y<ts.length:=by simpa using cR
  apply aa.skip;simp;apply aa.seq;apply aa.block;have rt:=cE cR;obtain⟨t,ht⟩:=bb (ts.getD y default);rw[ht]at rt;obtain⟨q1,q2⟩:=h t (by rw[<-ht];exact bm cR);obtain⟨t,rfl⟩:=Zae q1;have q2:t<v.length:=by omega
  have rv:=dd q2;obtain⟨w,hw⟩:=bb (v.getD t default);rw[hw]at rv;have hS:bC (dR v (ts.take (y+1)))=bC (dR v (ts.take y))++[[ti w.aH,ti w.size]]:=by
   rw[cW cR,ht];simp only[dR,ZaZ,ZaA,ZbL,Zag,hw,bC]
  have hTl:(dR v (ts.take y)).length<=1000000:=by simp[dR];omega
  apply aa.fK aC fw [1,2,5,6];simp[d91r4,cR,rt,q2,rv,dK,fU];repeat (refine⟨by omega, ?_⟩)
  apply aa.fK aC fw [1,2,5,6];simp[d91r5];rw[aF (x:=(y:Int)+1) (by omega)];refine⟨y+1,Le.bi ?_ ?_ ?_ ?_,by omega,by omega⟩
  ·simp
  ·simp
  ·simp[hS]
  ·simp
 ·have fJ:y=ts.length:=by simp at cR;omega
  subst fJ;rw[ZbM];apply aa.exit;simp;apply aa.ch aC fw [4];simp[d91r6];apply aa.ret;exact .inr ⟨1400,0,by simp,by simp⟩
def wX(b7:bO)(i:Nat):Prop:=¬(b7.getD i default<1\/b7.getD i default>60000)
instance(b7:bO)(i:Nat):Decidable (wX b7 i):=by unfold wX;infer_instance
def dY(n:aD)(b7:bO):Prop:=(b7.length:Int)=n.aL/\∀i,i<b7.length->wX b7 i
instance(n:aD)(b7:bO):Decidable (dY n b7):=by unfold dY;infer_instance
def t44(n:aD)(b7:bO)(hl:b7.length<=9223372036854775807):bl aj 35 [n.enc,.sl (aG b7)] (.bool (decide (dY n b7))):=by
 obtain⟨nt,nn,ns,au⟩:=n;obtain⟨v,hv⟩:=bb (decide (dY ⟨nt,nn,ns,au⟩ b7));rw[hv];have c7:dY ⟨nt,nn,ns,au⟩ b7↔(b7.length:Int)=nt/\∀i,i<b7.length->wX b7 i:=Iff.rfl;have cZ:¬dY ⟨nt,nn,ns,au⟩ b7->v=false:=λh=>by rw[<-hv];simp[h]
 have aC:=cF;refine c44.ok (by simp) (aO ?_);simp[aD.enc];apply aa.ch aC fw [1,2];simp[d44r0];refine aa.lk (o:=[]) (l:=[(1,.v (.sl (aG b7))),(2,.v (.box [ti nt,ti nn,ti ns,.sl (aU au)]))]) (ba:=1200) (by simp) ?_;apply aa.seq;apply aa.ch aC fw [1,10];simp[d44r1];refine aa.cond rfl (λh1=>?_) (λh1=>?_)
 ·have h1:¬(b7.length:Int)=nt:=by simpa using h1
  apply aa.ch aC fw [4];simp[d44r2];apply aa.ret;rw[cZ λh=>h1 (c7.1 h).1];simp[Iv]
 ·have h1:(b7.length:Int)=nt:=by simpa using h1
  apply aa.skip;simp;apply aa.seq;apply aa.ch aC fw [1,5];simp[d44r3];apply aa.block;refine aa.loop (λy:Nat=>⟨DM.look [(1,.v (.sl (aG b7))),(5,.v (ti y))],cM [],2000,1000,[]⟩)
   (λy=>y<=b7.length/\∀i,i<y->wX b7 i) (λy=>b7.length-y) 0 (Le.bi (o:=[]) ?_ ?_ ?_ ?_) (by simp) (λy hy=>?_)
  iterate 4(·simp)
  obtain⟨lq,fJ⟩:=hy;apply aa.seq;apply aa.ch aC fw [1,5,14];simp[d44r4];refine aa.cond rfl (λcR=>?_) (λcR=>?_)
  ·have cR:y<b7.length:=by simpa using cR
   apply aa.skip;simp;apply aa.seq;apply aa.block;have rr:=cE cR;obtain⟨x,hx⟩:=bb (b7.getD y default);rw[hx]at rr;obtain⟨c2,gI⟩:=bb (decide (x<1\/x>60000):Bool);refine aa.cz aC fw [(1,.v (.sl (aG b7))),(5,.v (ti y)),(28,.v (.bool c2))] ?_ ?_
   ·by_cases q1:x<1
    ·have:c2=true:=by rw[<-gI];simp[q1]
     simp[QY,q1,this,cR,rr]
    ·skip
     by_cases q2:x>60000
     ·have:c2=true:=by rw[<-gI];simp[q2]
      simp[QY,q1,q2,this,cR,rr]
     ·skip
      have:c2=false:=by rw[<-gI];simp[q1,q2]
      simp[QY,q1,q2,this,cR,rr]
   refine aa.cond rfl (λh2=>?_) (λh2=>?_)
   ·rw[h2]at gI;have gI:=Zat gI;apply aa.ch aC fw [4];simp[d44r6];apply aa.ret;rw[cZ λh=>by have:=(c7.1 h).2 y cR;unfold wX at this;rw[hx]at this;exact this gI];simp[Iv]
   ·rw[h2]at gI;have gI:=Zay gI;apply aa.skip;simp;apply aa.fK aC fw [1,5];simp[d44r7];rw[aF (x:=(y:Int)+1) (by omega)];refine⟨y+1,Le.bi (o:=[]) ?_ ?_ ?_ ?_,⟨by omega,λi hi=>?_⟩,by omega⟩;iterate 4(·simp)
    ·by_cases e:i=y
     ·subst e;unfold wX;rw[hx];exact gI
     ·exact fJ i (by omega)
  ·have hy3:y=b7.length:=by simp at cR;omega
   subst hy3;apply aa.exit;simp;apply aa.ch aC fw [4];simp[d44r8];apply aa.ret;have:v=true:=by rw[<-hv];exact decide_eq_true (c7.2 ⟨h1,fJ⟩)
   rw[this];simp[Iv]
def fu(b7:bO)(r:di):bF:=⟨r.head,jk r,if r.kind=2 then r.cq+b7.getD r.a.toNat default else r.cq,0,0⟩
def kb(n:aD)(b7:bO):List bF:=n.au.map (fu b7)
abbrev s93:DM.Spec:=cT (λts=>∃a b c d e f,ts=[.agg [ti a,ti b,ti c,ti d,ti e,ti f]]) (fun|[.agg r]=>.sl (aG (jk (jW r)))|_=>.bool false) false
def ok93:ay aj (bu [(98,s93)]):=by
 refine ay.cons ay.nil ?_;rintro ts ⟨a,b,c,d,e,f,rfl⟩;exact⟨by simpa [di.enc,jW,dH]using t93 ⟨a,b,c,d,e,f⟩,λh=>by cases h⟩
def Fo(r:di):(jk r).length<=2:=by unfold jk;split<;>(try split)<;>simp
def t67(n:aD)(b7:bO)(hn:AD n)(hp:dY n b7):bl aj 62 [n.enc,.sl (aG b7)] (.agg [ti n.an,.sl (bk (kb n b7))]):=by
 obtain⟨nt,nn,ns,au⟩:=n;obtain⟨n1,n2,n3,n4⟩:=hn;obtain⟨p1,p2⟩:=hp;simp only[kb]at n1 n2 n3 n4 p1 p2⊢;have aC:=ok93;refine c67.ok (by simp) (aO ?_);simp[aD.enc];apply aa.ch aC fw [1,2,4];simp[d67r0];refine aa.lk (o:=[(1005,.box [.v (ti 0),.aW])]) (l:=[(1,.v (.sl (aG b7))),(2,.v (.box [ti nt,ti nn,ti ns,.sl (aU au)])),(4,.ptr 1005 0)]) (ba:=1200) (by simp) ?_;apply aa.ch aC fw [1,2,4,5];simp[d67r1];refine aa.lk (o:=[(1005,.box [.v (ti 0),.aW])]) (l:=[(1,.v (.sl (aG b7))),(2,.v (.box [ti nt,ti nn,ti ns,.sl (aU au)])),(4,.ptr 1005 0),(5,.aW)]) (ba:=1400) (by simp) ?_;refine aa.le (Le.vr (k:=5) 157 (sz:=5) (by omega) (by simp)) ?_;rw[ky];apply aa.seq;apply aa.ch aC fw [1,2,4,5,6];simp[d67r2];apply aa.block;refine aa.loop (λy:Nat=>⟨DM.look [(1,.v (.sl (aG b7))),(2,.v (.box [ti nt,ti nn,ti ns,.sl (aU au)])),(4,.ptr 1005 0),(5,.bA 1400 0),(6,.v (ti y))],cM [(1005,.box [.v (ti 0),.aW]),(1400,.dT 0 157 5 (bk ((au.take y).map (fu b7))))],1600,1000,[]⟩)
  (λy=>y<=au.length) (λy=>au.length-y) 0 (Le.bi ?_ ?_ ?_ ?_) (by simp) (λy hy=>?_)
 ·simp
 ·simp
 ·simp[bk]
 ·simp
 apply aa.seq;apply aa.ch aC fw [1,2,4,5,6,13];simp[d67r3];refine aa.cond rfl (λcR=>?_) (λcR=>?_)
 ·have cR:y<au.length:=by simpa using cR
  apply aa.skip;simp;apply aa.seq;apply aa.block;have rr:=kZ cR;obtain⟨⟨rk,rh,ra,rb,rp,rg⟩,hr⟩:=bb (au.getD y default);rw[hr]at rr;have I2:=n4 ⟨rk,rh,ra,rb,rp,rg⟩ (by rw[<-hr];exact bm cR);obtain⟨q1,q2,q3,q4,q5⟩:=I2;simp only at q1 q2 q3 q4 q5;apply aa.ch aC fw [1,2,4,5,6,7];simp[d67r4,cR,rr,di.enc];refine aa.lk (o:=[(1005,.box [.v (ti 0),.aW]),(1400,.dT 0 157 5 (bk ((au.take y).map (fu b7))))]) (l:=[(1,.v (.sl (aG b7))),(2,.v (.box [ti nt,ti nn,ti ns,.sl (aU au)])),(4,.ptr 1005 0),(5,.bA 1400 0),(6,.v (ti y)),(7,.v (.box [ti rk,ti rh,ti ra,ti rb,ti rp,ti rg]))]) (ba:=2400) (by simp) ?_;apply aa.ch aC fw [1,2,4,5,6,7,8];simp[d67r5];apply aa.seq;apply aa.ch aC fw [1,2,4,5,6,7,8,25];simp[d67r6];refine aa.cond rfl (λh6=>?_) (λh6=>?_)
  ·have h6:rk=2:=by simpa using h6
   have N7:0<=ra/\ra<b7.length:=by omega
   obtain⟨a,rfl⟩:=Zae N7.1;have P1:a<b7.length:=by omega
   have ri:=cE P1;have hpi:=p2 a P1;unfold wX at hpi;obtain⟨x,hx⟩:=bb (b7.getD a default);rw[hx]at ri hpi;have hE:fu b7 ⟨rk,rh,a,rb,rp,rg⟩=⟨rh,jk ⟨rk,rh,a,rb,rp,rg⟩,rp+x,0,0⟩:=by unfold fu;simp only[Zai h6,Zag,hx]
   apply aa.fK aC fw [1,2,4,5,6,7,8];simp[d67r7,P1,ri,aF (x:=rp+x) (by omega)];apply aa.fK aC fw [1,2,4,5,6];simp[Zd,jW,dH,fU,dK];repeat (refine⟨by omega, ?_⟩)
   have hS:∀ec,fu b7 (au.getD y default)=⟨rh,jk (au.getD y default),ec,0,0⟩->bk ((au.map (fu b7)).take (y+1))=bk ((au.map (fu b7)).take y)++[[ti rh,.sl (aG (jk (au.getD y default))),ti ec,ti 0,ti 0]]:=by
    intro ec h;rw[<-List.map_take,cW cR,ZaZ,bk,ZaZ,List.map_take];simp only[ZaA,ZbL,h,bF.enc,bk]
   rw[hr]at hS;have hS:=hS _ hE;apply aa.fK aC fw [1,2,4,5,6];simp[Ze];rw[aF (x:=(y:Int)+1) (by omega)];refine⟨y+1,Le.bi ?_ ?_ ?_ ?_,by omega,by omega⟩
   ·simp
   ·simp
   ·simp[hS]
   ·simp
  ·have h6:¬rk=2:=by simpa using h6
   have hE:fu b7 ⟨rk,rh,ra,rb,rp,rg⟩=⟨rh,jk ⟨rk,rh,ra,rb,rp,rg⟩,rp,0,0⟩:=by unfold fu;simp only[Zab h6]
   apply aa.skip;simp;apply aa.fK aC fw [1,2,4,5,6];simp[Zd,jW,dH,fU,dK];repeat (refine⟨by omega, ?_⟩)
   have hS:∀ec,fu b7 (au.getD y default)=⟨rh,jk (au.getD y default),ec,0,0⟩->bk ((au.map (fu b7)).take (y+1))=bk ((au.map (fu b7)).take y)++[[ti rh,.sl (aG (jk (au.getD y default))),ti ec,ti 0,ti 0]]:=by
    intro ec h;rw[<-List.map_take,cW cR,ZaZ,bk,ZaZ,List.map_take];simp only[ZaA,ZbL,h,bF.enc,bk]
   rw[hr]at hS;have hS:=hS _ hE;apply aa.fK aC fw [1,2,4,5,6];simp[Ze];rw[aF (x:=(y:Int)+1) (by omega)];refine⟨y+1,Le.bi ?_ ?_ ?_ ?_,by omega,by omega⟩
   ·simp
   ·simp
   ·simp[hS]
   ·simp
 ·have fJ:y=au.length:=by simp at cR;omega
  subst fJ;rw[show(au.map (fu b7)).take au.length=au.map (fu b7)from ZaX (by simp)];apply aa.exit;simp;apply aa.ch aC fw [4];simp[Zf];apply aa.ret;simp[Zg]
section
variable{nd:Int}{es:List bF}
def jh(l:bR)(i:Nat)(x:c8):bC (l.set i x)=(bC l).set i [ti x.aH,ti x.size]:=by simp[bC,Zcd]
def LR(l:bO)(i:Nat)(x:Int):aG (l.set i x)=(aG l).set i [ti x]:=by simp[aG,Zcd]
def set_rep{α:Type}(a b:α){n y:Nat}(h:y<n):(List.replicate y a++List.replicate (n-y) b).set y a=List.replicate (y+1) a++List.replicate (n-(y+1)) b:=by
 rw[ZbG _ _ (by simp)];simp only[Zby,Zcp];rw[show n-y=(n-(y+1))+1 by omega,ZaY,ZbR,ZcN (n:=y),List.append_assoc];rfl
def sN(nd:Int)(e:bF):Prop:=0<=e.head/\e.head<nd/\(∀t∈e.dy,0<=t/\t<nd)/\0<=e.aH/\e.aH<=4000000000000/\e.dy.length<=1000000
def J6(nd:Int)(es:List bF):Prop:=0<=nd/\nd<=1000000/\es.length<=1000000/\∀e∈es,sN nd e
def J7(nd:Int)(v:bR):Prop:=(v.length:Int)=nd/\∀x∈v,jj x
def G7(x:c8):Nat:=x.aH.toNat*2199023255552+x.size.toNat
def iX(v:bR):Nat:=(v.map G7).sum
def G8{own:bR}{h:Nat}{y:c8}(hh:h<own.length)(hy:G7 y<G7 (own.getD h default)):iX (own.set h y)<iX own:=by
 induction own generalizing h with
 |nil=>simp at hh
 |cons x own ih=>
  cases h with
  |zero=>simp[iX]at hy⊢;omega
  |succ h=>
   have:=ih (h:=h) (by simpa using hh) (by simpa using hy);simp[iX]at this⊢;omega
def UM{a b:c8}(ha:jj a)(hb:jj b)(h:a.lt b):G7 a<G7 b:=by
 obtain⟨a1,a2,a3,a4⟩:=ha;obtain⟨b1,b2,b3,b4⟩:=hb;unfold c8.lt at h;unfold G7;omega
def p9(v:bR)(e:bF):bR:=if(dU e.aH (dR v e.dy)).lt (v.getD e.head.toNat default)then v.set e.head.toNat (dU e.aH (dR v e.dy))else v
def AI{v:bR}{ts:bO}(hv:J7 nd v)(h:∀t∈ts,0<=t/\t<nd):∀x∈dR v ts,jj x:=by
 intro x hx;simp only[dR,Zak]at hx;obtain⟨t,ht,rfl⟩:=hx;have:=h t ht;have:=hv.1;exact hv.2 _ (bm (by omega))
def ru{v:bR}{e:bF}(he:sN nd e)(hv:J7 nd v):J7 nd (p9 v e)/\(p9 v e=v\/iX (p9 v e)<iX v):=by
 obtain⟨e1,e2,e3,e4,e5,e6⟩:=he;have hc:=ju (c:=e.aH) (l:=dR v e.dy) (AI hv e3) e4 e5;have hh:e.head.toNat<v.length:=by have:=hv.1;omega
 unfold p9;split
 ·rename_i h;refine⟨⟨by simpa using hv.1,λx hx=>?_⟩,.inr (G8 hh (UM hc (hv.2 _ (bm hh)) h))⟩;rcases ZaS hx with h|rfl
  ·exact hv.2 x h
  ·exact hc
 ·exact⟨hv,.inl rfl⟩
def eB(es:List bF)(v:bR)(y:Nat):bR:=(List.range y).foldl (λv k=>p9 v (es.getD k default)) v
def jI(es:List bF)(v:bR)(y:Nat):eB es v (y+1)=p9 (eB es v y) (es.getD y default):=by simp[eB,ZaR,ZaI]
def oI{nd:Int}{es:List bF}(hh:J6 nd es){v:bR}(hv:J7 nd v):∀y,y<=es.length->J7 nd (eB es v y)/\(eB es v y=v\/iX (eB es v y)<iX v)
 |0,_=>⟨hv,.inl rfl⟩
 |y+1,hy=>by
  obtain⟨h1,h2⟩:=oI hh hv y (by omega);obtain⟨h3,h4⟩:=ru (hh.2.2.2 _ (bm (l:=es) (i:=y) (by omega))) h1;rw[jI];refine⟨h3, ?_⟩;rcases h4 with e|h4
  ·rw[e];exact h2
  ·rcases h2 with e|h2
   ·rw[e]at h4⊢;exact .inr h4
   ·exact .inr (by omega)
def kN(es:List bF):Nat->bR->bR
 |0,v=>v
 |f+1,v=>if eB es v es.length=v then v else kN es f (eB es v es.length)
def Pg{v:bR}{f:Nat}{R:bR}(hs:eB es v es.length=v\/iX (eB es v es.length)<iX v)(h1:iX v<f)(h2:kN es f v=R):
  (eB es v es.length≠v->iX (eB es v es.length)<iX v/\∃f,iX (eB es v es.length)<f/\kN es f (eB es v es.length)=R)/\(eB es v es.length=v->v=R):=by
 cases f with
 |zero=>omega
 |succ f=>
  unfold kN at h2;refine⟨λbT=>?_,λe=>?_⟩
  ·rw[Zab bT]at h2;have:=hs.resolve_left bT;exact⟨this,f,by omega,h2⟩
  ·rwa [Zai e]at h2
def Fp(nd:Int):bR:=List.replicate nd.toNat ⟨1099511627776,0⟩
def fS(nd:Int)(es:List bF):bR:=kN es (iX (Fp nd)+1) (Fp nd)
def G9{nd:Int}{es:List bF}(hh:J6 nd es):∀f v,iX v<f->J7 nd v->J7 nd (kN es f v)
 |0,v,h,_=>by omega
 |f+1,v,h,hv=>by
  obtain⟨h1,h2⟩:=oI hh hv es.length (Zaf _);unfold kN;split
  ·exact hv
  ·rename_i bT;exact G9 hh f _ (by have:=h2.resolve_left bT;omega) h1
def ze(hh:J6 nd es):J7 nd (Fp nd):=by
 refine⟨by have:=hh.1;simp only[Fp,Zby];omega,λx hx=>?_⟩;rw[ZbI hx];simp[jj]
def AJ(hh:J6 nd es):J7 nd (fS nd es):=G9 hh _ _ (by omega) (ze hh)
def stepG(es:List bF)(v:bR)(g:bO)(j:Nat):bO:=
 if(v.getD (es.getD (es.length-1-j) default).head.toNat default).aH<1099511627776/\dU (es.getD (es.length-1-j) default).aH (dR v (es.getD (es.length-1-j) default).dy)=v.getD (es.getD (es.length-1-j) default).head.toNat default then g.set (es.getD (es.length-1-j) default).head.toNat ((es.length-1-j:Nat):Int)else g
def wm(es:List bF)(v:bR)(nd:Int)(j:Nat):bO:=(List.range j).foldl (stepG es v) (List.replicate nd.toNat (-1))
def wY(es:List bF)(v:bR)(nd:Int)(y:Nat):wm es v nd (y+1)=stepG es v (wm es v nd y) y:=by simp[wm,ZaR,ZaI]
def Wb(es:List bF)(v:bR)(h:0<=nd)(y:Nat):((wm es v nd y).length:Int)=nd:=by
 induction y with
 |zero=>simp[wm];omega
 |succ y ih=>
  rw[wY];unfold stepG;split
  ·simpa using ih
  ·exact ih
structure VM where
 v:bR
 Ph:Bool
abbrev s91:DM.Spec:=DQ (λts=>∃a b c d e v,ts=[.agg [ti a,.sl (aG b),ti c,ti d,ti e],.sl (bC v)]/\(∀t∈b,0<=t/\t<v.length)/\b.length<=1000000) (fun|[.agg [_,.sl b,_,_,_],.sl v]=>bC (dR (mT v) (lS b))|_=>[]) 63 2
def Mq(l:bR):iJ.iU (bC l).flatten=true:=by
 induction l with
 |nil=>rfl
 |cons x l ih=>simpa [bC,iJ.iU,iJ]using ih
def okSo:ay aj (bu [(96,s91),(95,s69),(97,s92)]):=by
 refine ay.consL (ay.cons (ay.cons ay.nil ?_) ?_) ?_
 ·rintro ts ⟨a,b,c,d,rfl⟩;exact⟨t92 ⟨a,b⟩ ⟨c,d⟩,λ_=>rfl⟩
 ·rintro ts ⟨c,l,rfl,h1,h2,h3,h4⟩;exact⟨by simpa using t69 c l h1 h2 h3 h4,λ_=>rfl⟩
 ·rintro ts ⟨a,b,c,d,e,v,rfl,h1,h2⟩;exact⟨by simpa [bF.enc]using t91 ⟨a,b,c,d,e⟩ v h1 h2,Mq _⟩
def t66(nd:Int)(es:List bF)(hh:J6 nd es):bl aj 61 [.agg [ti nd,.sl (bk es)]] (.eo [.sl (bC (fS nd es)),.sl (aG (wm es (fS nd es) nd es.length))]):=by
 obtain⟨R,hR⟩:=bb (fS nd es);have hRo:J7 nd R:=hR▸AJ hh;rw[hR];have h0:=ze hh;have Nx:=λ(v:bR) (hv:J7 nd v)=>oI hh hv;have la:=λ(v:bR) (hv:J7 nd v) (e:bF) (he:sN nd e)=>ru he hv;obtain⟨g1,g2,g3,g4⟩:=hh;have aC:=okSo;refine c66.ok (by simp) (aO ?_);simp;apply aa.ch aC fw [1];simp[d66r0];refine aa.lk (o:=[]) (l:=[(1,.v (.box [ti nd,.sl (bk es)]))]) (ba:=1200) (by simp) ?_;apply aa.ch aC fw [1,4];simp[d66r1,Zba,dK];repeat (refine⟨by omega, ?_⟩)
 refine aa.le (Le.bi (o:=[(1217,.dT 0 63 2 (bC ((List.replicate nd.toNat (⟨0,0⟩:c8)))))]) (l:=[(1,.v (.box [ti nd,.sl (bk es)])),(4,.bA 1217 0)]) (ba:=1400) ?_ ?_ ?_ ?_) ?_
 ·simp
 ·simp
 ·simp[bC]
 ·simp
 apply aa.ch aC fw [1,4,5];simp[d66r2,Zba,dK];repeat (refine⟨by omega, ?_⟩)
 refine aa.le (Le.bi (o:=[(1217,.dT 0 63 2 (bC ((List.replicate nd.toNat (⟨0,0⟩:c8))))),(1420,.dT 0 3 1 (aG (List.replicate nd.toNat 0)))]) (l:=[(1,.v (.box [ti nd,.sl (bk es)])),(4,.bA 1217 0),(5,.bA 1420 0)]) (ba:=1600) ?_ ?_ ?_ ?_) ?_
 ·simp
 ·simp
 ·simp[bC,aG]
 ·simp
 apply aa.seq;apply aa.ch aC fw [1,4,5,6];simp[d66r3];apply aa.block;refine aa.loop (λy:Nat=>⟨DM.look [(1,.v (.box [ti nd,.sl (bk es)])),(4,.bA 1217 0),(5,.bA 1420 0),(6,.v (ti y))],cM [(1217,.dT 0 63 2 (bC (List.replicate y (⟨1099511627776,0⟩:c8)++List.replicate (nd.toNat-y) (⟨0,0⟩:c8)))),(1420,.dT 0 3 1 (aG (List.replicate y (-1:Int)++List.replicate (nd.toNat-y) (0:Int))))],2000,1000,[]⟩)
  (λy=>y<=nd.toNat) (λy=>nd.toNat-y) 0 (Le.bi ?_ ?_ ?_ ?_) (by simp) (λy hy=>?_)
 iterate 4(·simp)
 obtain⟨A,hA⟩:=bb (List.replicate y (⟨1099511627776,0⟩:c8)++List.replicate (nd.toNat-y) (⟨0,0⟩:c8));obtain⟨E,hE⟩:=bb (List.replicate y (-1:Int)++List.replicate (nd.toNat-y) (0:Int));have hAl:A.length=nd.toNat:=by rw[<-hA];simp;omega
 have hEl:E.length=nd.toNat:=by rw[<-hE];simp;omega
 rw[hA,hE];apply aa.seq;apply aa.ch aC fw [1,4,5,6,23];simp[d66r4];refine aa.cond rfl (λcR=>?_) (λcR=>?_)
 ·have cR:(y:Int)<nd:=by simpa using cR
  have Fq:y<nd.toNat:=by omega
  apply aa.skip;simp;apply aa.seq;apply aa.block;have ra:=dd (l:=A) (y:=y) (by omega);have re:=cE (l:=E) (y:=y) (by omega);have q1:y<A.length:=by omega
  have q2:y<E.length:=by omega
  apply aa.fK aC fw [1,4,5,6];simp[d66r5,q1,q2,ra,re];apply aa.fK aC fw [1,4,5,6];simp[d66r6];rw[aF (x:=(y:Int)+1) (by omega)];refine⟨y+1,Le.bi ?_ ?_ ?_ ?_,by omega,by omega⟩
  ·simp
  ·simp
  ·simp only[<-set_rep _ _ Fq,hA,hE,jh,LR];simp
  ·simp
 ·have fJ:y=nd.toNat:=by simp at cR;omega
  subst fJ;have tC:A=Fp nd:=by rw[<-hA];simp[Fp]
  have Jk:E=List.replicate nd.toNat (-1):=by rw[<-hE];simp
  subst tC;subst Jk;apply aa.exit;simp;apply aa.seq;apply aa.ch aC fw [1,4,5,7];simp[d66r7];apply aa.block;refine aa.loop (λz:VM=>⟨DM.look [(1,.v (.box [ti nd,.sl (bk es)])),(4,.bA 1217 0),(5,.bA 1420 0),(7,.v (.bool z.Ph))],cM [(1217,.dT 0 63 2 (bC (z.v))),(1420,.dT 0 3 1 (aG (List.replicate nd.toNat (-1))))],3000,1000,[]⟩)
   (λz=>J7 nd z.v/\(z.Ph=true->∃f,iX z.v<f/\kN es f z.v=R)/\(z.Ph=false->z.v=R)) (λz=>2*iX z.v+(if z.Ph then 1 else 0)) ⟨Fp nd,true⟩ (Le.bi ?_ ?_ ?_ ?_) (⟨h0,λ_=>⟨_,Zcc _,hR⟩,λh=>by cases h⟩) (λz hy=>?_)
  iterate 4(·simp)
  obtain⟨own,Ph⟩:=z;obtain⟨hz1,hz2,hz3⟩:=hy;simp only at hz1 hz2 hz3⊢;apply aa.seq;apply aa.ch aC fw [1,4,5,33];simp[d66r8];refine aa.cond rfl (λhm=>?_) (λhm=>?_)
  ·have hm:Ph=true:=by simpa using hm
   subst hm;obtain⟨f,hf1,hf2⟩:=hz2 rfl;apply aa.skip;simp;apply aa.block;apply aa.ch aC fw [1,4,5,7];simp[d66r9];apply aa.ch aC fw [1,4,5,7,8];simp[Y0];apply aa.block;refine aa.loop (λy:Nat=>⟨DM.look [(1,.v (.box [ti nd,.sl (bk es)])),(4,.bA 1217 0),(5,.bA 1420 0),(7,.v (.bool (decide (eB es own y≠own)))),(8,.v (ti y))],cM [(1217,.dT 0 63 2 (bC (eB es own y))),(1420,.dT 0 3 1 (aG (List.replicate nd.toNat (-1))))],4000,1000,[]⟩)
    (λy=>y<=es.length) (λy=>es.length-y) 0 (Le.bi ?_ ?_ ?_ ?_) (by simp) (λy hy3=>?_)
   ·simp
   ·simp[eB]
   ·simp[eB]
   ·simp[eB]
   obtain⟨O,hO⟩:=bb (eB es own y);obtain⟨wi,NE⟩:=Nx own hz1 y hy3;rw[hO]at wi NE;obtain⟨m1,QD⟩:=bb (decide (O≠own):Bool);rw[hO,QD];apply aa.seq;apply aa.ch aC fw [1,4,5,7,8,38];simp[Y1];refine aa.cond rfl (λcR=>?_) (λcR=>?_)
   ·have cR:y<es.length:=by simpa using cR
    apply aa.skip;simp;apply aa.seq;apply aa.block;have rr:=jX cR;obtain⟨⟨xh,xt,xc,x0,x1⟩,hx⟩:=bb (es.getD y default);rw[hx]at rr;have hxo:sN nd ⟨xh,xt,xc,x0,x1⟩:=g4 _ (by rw[<-hx];exact bm cR);have hso:=la O wi _ hxo;obtain⟨q1,q2,q3,q4,q5,q6⟩:=hxo;simp only at q1 q2 q3 q4 q5 q6;obtain⟨xh,rfl⟩:=Zae q1;apply aa.ch aC fw [1,4,5,7,8,9];simp[Y2,cR,rr,bF.enc];refine aa.lk (o:=[(1217,.dT 0 63 2 (bC (O))),(1420,.dT 0 3 1 (aG (List.replicate nd.toNat (-1))))]) (l:=[(1,.v (.box [ti nd,.sl (bk es)])),(4,.bA 1217 0),(5,.bA 1420 0),(7,.v (.bool m1)),(8,.v (ti y)),(9,.v (.box [ti xh,.sl (aG xt),ti xc,ti x0,ti x1]))]) (ba:=4200) (by simp) ?_;have J8:∀t∈xt,0<=t/\t<O.length:=λt ht=>by have:=q3 t ht;have:=wi.1;omega
    have htv:=AI wi q3;have HG:(dR O xt).length<=1000000:=by simpa [dR]using q6
    obtain⟨⟨wc,wz⟩,hw⟩:=bb (dU xc (dR O xt));refine aa.jR aC fw (rs:=eR Is [none,some [],some [],none,some [1217],some [4251],none,some [4211]]) (.inr ⟨_,rfl⟩) (by kernel_rfl) [1,4,5,7,8,9,10] ?_;simp[Is,eR,cP,bG,aN,Zba,q6,HG,hw];refine⟨J8,htv, ?_⟩;repeat (refine⟨by omega, ?_⟩)
    refine aa.lk (o:=[(1217,.dT 0 63 2 (bC (O))),(1420,.dT 0 3 1 (aG (List.replicate nd.toNat (-1))))]) (l:=[(1,.v (.box [ti nd,.sl (bk es)])),(4,.bA 1217 0),(5,.bA 1420 0),(7,.v (.bool m1)),(8,.v (ti y)),(9,.v (.box [ti xh,.sl (aG xt),ti xc,ti x0,ti x1])),(10,.v (.box [ti wc,ti wz]))]) (ba:=4400) (by simp) ?_;have hhl:xh<O.length:=by have:=wi.1;omega
    have ro:=dd hhl;obtain⟨⟨uc,uz⟩,hu⟩:=bb (O.getD xh default);rw[hu]at ro;obtain⟨c1,bU⟩:=bb (decide ((⟨wc,wz⟩:c8).lt ⟨uc,uz⟩):Bool);apply aa.ch aC fw [1,4,5,7,8,9,10,58];simp[Y3,hhl,ro,bU];refine aa.cond rfl (λh5=>?_) (λh5=>?_)
    ·have h5:c1=true:=by simpa using h5
     rw[h5]at bU;have bU:=Zat bU;have hS0:p9 O ⟨xh,xt,xc,x0,x1⟩=O.set xh ⟨wc,wz⟩:=by unfold p9;simp only[hw,hu,Zag];rw[Zai bU]
     have tF:eB es own (y+1)=O.set xh ⟨wc,wz⟩:=by rw[jI,hO,hx,hS0]
     have bT:¬eB es own (y+1)=own:=by
      intro e;have h6:iX (O.set xh ⟨wc,wz⟩)<iX O:=by
       refine G8 hhl ?_;rw[hu];exact UM (by rw[<-hw];exact ju htv q4 q5) (by rw[<-hu];exact wi.2 _ (bm hhl)) bU
      rw[<-tF,e]at h6;rcases NE with h|h
      ·rw[h]at h6;omega
      ·omega
     apply aa.ch aC fw [1,4,5,8];simp[Y4,hhl,ro];apply aa.fK aC fw [1,4,5,7,8];simp[Y5];apply aa.fK aC fw [1,4,5,7,8];simp[OL];rw[aF (x:=(y:Int)+1) (by omega)];refine⟨y+1,Le.bi ?_ ?_ ?_ ?_,by omega,by omega⟩
     ·simp
     ·simp
     ·simp[tF,jh]
     ·simp;simpa using bT
    ·have h5:c1=false:=by simpa using h5
     rw[h5]at bU;have bU:=Zay bU;have tF:eB es own (y+1)=O:=by rw[jI,hO,hx];unfold p9;simp only[hw,hu,Zag];rw[Zab bU]
     have bT:=QD;rw[<-tF]at bT;apply aa.skip;simp;apply aa.fK aC fw [1,4,5,7,8];simp[OL];rw[aF (x:=(y:Int)+1) (by omega)];refine⟨y+1,Le.bi ?_ ?_ ?_ ?_,by omega,by omega⟩
     ·simp
     ·simp
     ·simp[tF,jh]
     ·simp;simpa using bT
   ·have Cb:y=es.length:=by simp at cR;omega
    subst Cb;have Dx:=Pg (Nx own hz1 _ (Zaf _)).2 hf1 hf2;simp only[hO]at Dx;have hdec:2*iX O+(if m1 then 1 else 0)<2*iX own+1:=by
     by_cases e:O=own
     ·have NX:m1=false:=by rw[<-QD];simp[e]
      subst NX;rw[e];simp
     ·have:=(Dx.1 e).1;cases m1<;>simp<;>omega
    apply aa.exit;simp;refine⟨⟨O,m1⟩,Le.bi ?_ ?_ ?_ ?_,⟨wi,λh=>(Dx.1 (Zat (QD.trans h))).2,λh=>by have e:=Classical.not_not.1 (Zay (QD.trans h));simp only;rw[e];exact Dx.2 e⟩,by simpa using hdec⟩;iterate 3(·simp)
    ·simp
  ·have hm:Ph=false:=by simpa using hm
   subst hm;have hz3:=hz3 rfl;subst hz3;apply aa.exit;simp;apply aa.seq;apply aa.ch aC fw [1,4,5,11];simp[Y6,aF (x:=(es.length:Int)-1) (by omega)];apply aa.block;refine aa.loop (λj:Nat=>⟨DM.look [(1,.v (.box [ti nd,.sl (bk es)])),(4,.bA 1217 0),(5,.bA 1420 0),(11,.v (ti ((es.length:Int)-1-j)))],cM [(1217,.dT 0 63 2 (bC (own))),(1420,.dT 0 3 1 (aG (wm es own nd j)))],5000,1000,[]⟩)
    (λj=>j<=es.length) (λj=>es.length-j) 0 (Le.bi ?_ ?_ ?_ ?_) (by simp) (λj hj=>?_)
   ·simp
   ·simp
   ·simp[wm]
   ·simp
   obtain⟨G,hG⟩:=bb (wm es own nd j);have hGl:=Wb es own g1 j;rw[hG]at hGl;rw[hG];obtain⟨k,hk⟩:=bb ((es.length:Int)-1-j);rw[hk];apply aa.seq;apply aa.ch aC fw [1,4,5,11,69];simp[Y7];refine aa.cond rfl (λh9=>?_) (λh9=>?_)
   ·have h9:0<=k:=by simpa using h9
    obtain⟨k,rfl⟩:=Zae h9;have J5:k<es.length:=by omega
    have hke:es.length-1-j=k:=by omega
    apply aa.skip;simp;apply aa.seq;apply aa.block;have rr:=jX J5;obtain⟨⟨xh,xt,xc,x0,x1⟩,hx⟩:=bb (es.getD k default);rw[hx]at rr;have hxo:sN nd ⟨xh,xt,xc,x0,x1⟩:=g4 _ (by rw[<-hx];exact bm J5);obtain⟨q1,q2,q3,q4,q5,q6⟩:=hxo;simp only at q1 q2 q3 q4 q5 q6;obtain⟨xh,rfl⟩:=Zae q1;apply aa.ch aC fw [1,4,5,11,12];simp[Y8,J5,rr,bF.enc];refine aa.lk (o:=[(1217,.dT 0 63 2 (bC (own))),(1420,.dT 0 3 1 (aG (G)))]) (l:=[(1,.v (.box [ti nd,.sl (bk es)])),(4,.bA 1217 0),(5,.bA 1420 0),(11,.v (ti k)),(12,.v (.box [ti xh,.sl (aG xt),ti xc,ti x0,ti x1]))]) (ba:=5200) (by simp) ?_;have hhl:xh<own.length:=by have:=hRo.1;omega
    have ro:=dd hhl;obtain⟨⟨uc,uz⟩,hu⟩:=bb (own.getD xh default);rw[hu]at ro;apply aa.ch aC fw [1,4,5,11,12,13];simp[Y9,hhl,ro];refine aa.lk (o:=[(1217,.dT 0 63 2 (bC (own))),(1420,.dT 0 3 1 (aG (G)))]) (l:=[(1,.v (.box [ti nd,.sl (bk es)])),(4,.bA 1217 0),(5,.bA 1420 0),(11,.v (ti k)),(12,.v (.box [ti xh,.sl (aG xt),ti xc,ti x0,ti x1])),(13,.v (.box [ti uc,ti uz]))]) (ba:=5400) (by simp) ?_;have J8:∀t∈xt,0<=t/\t<own.length:=λt ht=>by have:=q3 t ht;have:=hRo.1;omega
    have htv:=AI hRo q3;have HG:(dR own xt).length<=1000000:=by simpa [dR]using q6
    obtain⟨⟨wc,wz⟩,hw⟩:=bb (dU xc (dR own xt));obtain⟨c1,bU⟩:=bb (decide (uc<1099511627776/\(⟨wc,wz⟩:c8)=⟨uc,uz⟩):Bool);apply aa.seq;refine aa.to ⟨DM.look [(1,.v (.box [ti nd,.sl (bk es)])),(4,.bA 1217 0),(5,.bA 1420 0),(11,.v (ti k)),(12,.v (.box [ti xh,.sl (aG xt),ti xc,ti x0,ti x1])),(94,.v (.bool c1))],cM [(1217,.dT 0 63 2 (bC (own))),(1420,.dT 0 3 1 (aG (G)))],6000,1000,[]⟩ ?_ ?_
    ·by_cases k1:uc<1099511627776
     ·refine aa.pe aC fw (rs:=eR yL [none,some [],none,none,none,some [],some [],none,some [1217],some [5491],some [],some [],none]) (.inr ⟨_,rfl⟩) (by kernel_rfl) [1,4,5,11,12,94] ?_;simp[eR,yL,cP,bG,aN,Zba,k1,q6,HG,hw];refine⟨J8,htv,by omega,by omega, ?_⟩;have:c1=(decide (wc=uc)&&decide (wz=uz)):=by rw[<-bU];simp[k1]
      rw[this];exact Le.bi (by simp) (by simp) (by simp) (by simp)
     ·have:c1=false:=by rw[<-bU];simp[k1]
      refine aa.pe aC fw (rs:=eR yL [none,some [],none,none,none,some [],some [],none,some [1217],some [5491],some [],some [],none]) (.inr ⟨_,rfl⟩) (by kernel_rfl) [1,4,5,11,12,94] ?_;simp[eR,yL,cP,bG,aN,k1];subst this;exact Le.bi (by simp) (by simp) (by simp) (by simp)
    simp only[QF];refine aa.cond rfl (λh8=>?_) (λh8=>?_)
    ·have h8:c1=true:=by simpa using h8
     rw[h8]at bU;have bU:=Zat bU;have NF:stepG es own G j=G.set xh (k:Int):=by unfold stepG;rw[hke,hx];simp only[hw,hu,Zag];rw[Zai bU]
     have hgl2:xh<G.length:=by omega
     have rg:=cE hgl2;apply aa.fK aC fw [1,4,5,11];simp[Za,hgl2,rg];apply aa.fK aC fw [1,4,5,11];simp[OM];rw[aF (x:=(k:Int)-1) (by omega)];refine⟨j+1,Le.bi ?_ ?_ ?_ ?_,by omega,by omega⟩
     ·simp
     ·simp
     ·simp[wY,hG,NF,LR]
     ·simp;omega
    ·have h8:c1=false:=by simpa using h8
     rw[h8]at bU;have bU:=Zay bU;have NF:stepG es own G j=G:=by unfold stepG;rw[hke,hx];simp only[hw,hu,Zag];rw[Zab bU]
     apply aa.skip;simp;apply aa.fK aC fw [1,4,5,11];simp[OM];rw[aF (x:=(k:Int)-1) (by omega)];refine⟨j+1,Le.bi ?_ ?_ ?_ ?_,by omega,by omega⟩
     ·simp
     ·simp
     ·simp[wY,hG,NF,LR]
     ·simp;omega
   ·have h9:¬0<=k:=by simpa using h9
    have hj2:j=es.length:=by omega
    subst hj2;subst hG;apply aa.exit;simp;apply aa.ch aC fw [2,3];simp[Zb];apply aa.ret;simp[Zc]
end
section
variable{b7:bO}
def Fs{n:aD}(hn:dO n)(hp:dY n b7):J6 n.an (kb n b7):=by
 have h:=hn.ok;obtain⟨p1,p2⟩:=hp;refine⟨by have:=h.1;omega,by have:=h.2.1;omega,by simp only[kb,Zbn];have:=h.2.2.1;omega,λe he=>?_⟩;simp only[kb,Zak]at he;obtain⟨r,hr,rfl⟩:=he;obtain⟨q1,q2,q3,q4,q5⟩:=h.2.2.2 r hr;have hc:0<=(fu b7 r).aH/\(fu b7 r).aH<=4000000000000:=by
  unfold fu;split
  ·rename_i h2;have ha:r.a.toNat<b7.length:=by omega
   have:=p2 _ ha;unfold wX at this;simp only;omega
  ·simp only;omega
 refine⟨q1,q2,λt ht=>?_,hc.1,hc.2,by have:=Fo r;simp only[fu];omega⟩;simp only[fu,jk]at ht;split at ht
 ·simp only[Zan]at ht;omega
 ·split at ht
  ·simp only[Zah,Zal,or_false]at ht;omega
  ·cases ht
def eu(n:aD)(b7:bO):bR:=if dO n/\dY n b7 then fS n.an (kb n b7)else []
abbrev s20:DM.Spec:=cT (λts=>∃a b c l,ts=[.agg [ti a,ti b,ti c,.sl (aU l)]]/\l.length<=9223372036854775807) (fun|[n]=>.bool (decide (dO (Mm n)))|_=>.bool false) true
abbrev s44:DM.Spec:=cT (λts=>∃a b c l i,ts=[.agg [ti a,ti b,ti c,.sl (aU l)],.sl (aG i)]/\i.length<=9223372036854775807) (fun|[n,.sl i]=>.bool (decide (dY (Mm n) (lS i)))|_=>.bool false) true
abbrev s67:DM.Spec:=cT (λts=>∃a b c l i,ts=[.agg [ti a,ti b,ti c,.sl (aU l)],.sl (aG i)]/\AD ⟨a,b,c,l⟩/\dY ⟨a,b,c,l⟩ i) (fun|[n,.sl i]=>.agg [ti (Mm n).an,.sl (bk (kb (Mm n) (lS i)))]|_=>.bool false) false
abbrev s66:DM.Spec:=cT (λts=>∃nd es,ts=[.agg [ti nd,.sl (bk es)]]/\J6 nd es) (fun|[.agg [.int _ nd,.sl es]]=>.eo [.sl (bC (fS nd (Fm es))),.sl (aG (wm (Fm es) (fS nd (Fm es)) nd es.length))]|_=>.bool false) false
abbrev s45:DM.Spec:=cT (λts=>∃a b c l i,ts=[.agg [ti a,ti b,ti c,.sl (aU l)],.sl (aG i)]/\l.length<=9223372036854775807/\i.length<=9223372036854775807) (fun|[n,.sl i]=>.sl (bC (eu (Mm n) (lS i)))|_=>.bool false) false
def okV1:ay aj (bu [(34,s20),(35,s44),(62,s67),(61,s66)]):=by
 refine ay.cons (ay.cons (ay.cons (ay.cons ay.nil ?_) ?_) ?_) ?_
 ·rintro ts ⟨nd,es,rfl,h⟩;exact⟨by simpa using t66 nd es h,λh=>by cases h⟩
 ·rintro ts ⟨a,b,c,l,i,rfl,h1,h2⟩;exact⟨by simpa [aD.enc]using t67 ⟨a,b,c,l⟩ i h1 h2,λh=>by cases h⟩
 ·rintro ts ⟨a,b,c,l,i,rfl,h⟩;exact⟨by simpa [aD.enc]using t44 ⟨a,b,c,l⟩ i h,λ_=>rfl⟩
 ·rintro ts ⟨a,b,c,l,rfl,h⟩;exact⟨by simpa [aD.enc]using t20 ⟨a,b,c,l⟩ h,λ_=>rfl⟩
def t45(n:aD)(b7:bO)(h1:n.au.length<=9223372036854775807)(h2:b7.length<=9223372036854775807):bl aj 36 [n.enc,.sl (aG b7)] (.sl (bC (eu n b7))):=by
 obtain⟨R,hR⟩:=bb (eu n b7);rw[hR];unfold eu at hR;obtain⟨nt,nn,ns,au⟩:=n;simp only at h1;have aC:=okV1;refine c45.ok (by simp) (aO ?_);simp[aD.enc];apply aa.ch aC fw [1,2];simp[K8];refine aa.lk (o:=[]) (l:=[(1,.v (.sl (aG b7))),(2,.v (.box [ti nt,ti nn,ti ns,.sl (aU au)]))]) (ba:=1200) (by simp) ?_;apply aa.seq;obtain⟨c1,bU⟩:=bb (decide (¬dO ⟨nt,nn,ns,au⟩\/¬dY ⟨nt,nn,ns,au⟩ b7):Bool);refine aa.cz aC fw [(1,.v (.sl (aG b7))),(2,.v (.box [ti nt,ti nn,ti ns,.sl (aU au)])),(15,.v (.bool c1))] ?_ ?_
 ·by_cases q1:dO ⟨nt,nn,ns,au⟩
  ·by_cases q2:dY ⟨nt,nn,ns,au⟩ b7
   ·have:c1=false:=by rw[<-bU];simp[q1,q2]
    simp[Ed,Zba,h1,h2,q1,q2,this]
   ·have:c1=true:=by rw[<-bU];simp[q2]
    simp[Ed,Zba,h1,h2,q1,q2,this]
  ·have:c1=true:=by rw[<-bU];simp[q1]
   simp[Ed,Zba,h1,q1,this]
 refine aa.cond rfl (λg=>?_) (λg=>?_)
 ·rw[g]at bU;have bU:=Zat bU;rw[Zab (λh=>bU.elim (λq=>q h.1) (λq=>q h.2))]at hR;subst hR;apply aa.ch aC fw [4];simp[K9];apply aa.ret;simp[wT]
 ·rw[g]at bU;have bU:=Zay bU;simp only[not_or,Classical.not_not]at bU;obtain⟨Bk,mQ⟩:=bU;apply aa.skip;simp;rw[Zai ⟨Bk,mQ⟩]at hR;have hg:=Fs Bk mQ;have hn:=Bk.ok;simp only at hR hg;apply aa.ch aC fw [5];simp[La,Zba,hn,mQ,hg,hR];apply aa.ch aC fw [4];simp[Lb];apply aa.ret;simp[wT]
def sO(v:bR)(i:Nat):Prop:=¬(v.getD i default).size>1000
instance(v:bR)(i:Nat):Decidable (sO v i):=by unfold sO;infer_instance
def Gj(n:aD)(b7:bO):Prop:=(dO n/\dY n b7)/\∀i,i<(eu n b7).length->sO (eu n b7) i
instance(n:aD)(b7:bO):Decidable (Gj n b7):=by unfold Gj;infer_instance
def okV2:ay aj (bu [(34,s20),(35,s44),(36,s45)]):=by
 refine ay.cons (ay.cons (ay.cons ay.nil ?_) ?_) ?_
 ·rintro ts ⟨a,b,c,l,i,rfl,h1,h2⟩;exact⟨by simpa [aD.enc]using t45 ⟨a,b,c,l⟩ i h1 h2,λh=>by cases h⟩
 ·rintro ts ⟨a,b,c,l,i,rfl,h⟩;exact⟨by simpa [aD.enc]using t44 ⟨a,b,c,l⟩ i h,λ_=>rfl⟩
 ·rintro ts ⟨a,b,c,l,rfl,h⟩;exact⟨by simpa [aD.enc]using t20 ⟨a,b,c,l⟩ h,λ_=>rfl⟩
def Mr{n:aD}(h1:dO n)(h2:dY n b7):(eu n b7).length<=1000:=by
 unfold eu;rw[Zai ⟨h1,h2⟩];have:=(AJ (Fs h1 h2)).1;have:=h1.ok.2.1;omega
def t22(n:aD)(b7:bO)(h1:n.au.length<=9223372036854775807)(h2:b7.length<=9223372036854775807):bl aj 22 [n.enc,.sl (aG b7)] (.bool (decide (Gj n b7))):=by
 obtain⟨v,hv⟩:=bb (decide (Gj n b7));rw[hv];have c7:Gj n b7↔(dO n/\dY n b7)/\∀i,i<(eu n b7).length->sO (eu n b7) i:=Iff.rfl;have cZ:¬Gj n b7->v=false:=λh=>by rw[<-hv];simp[h]
 have Wc:=λa b=>Mr (n:=n) (b7:=b7) a b;obtain⟨V,hV⟩:=bb (eu n b7);rw[hV]at c7 Wc;obtain⟨nt,nn,ns,au⟩:=n;simp only at h1;have aC:=okV2;refine c22.ok (by simp) (aO ?_);simp[aD.enc];apply aa.ch aC fw [1,2];simp[d22r0];refine aa.lk (o:=[]) (l:=[(1,.v (.sl (aG b7))),(2,.v (.box [ti nt,ti nn,ti ns,.sl (aU au)]))]) (ba:=1200) (by simp) ?_;apply aa.seq;obtain⟨c1,bU⟩:=bb (decide (¬dO ⟨nt,nn,ns,au⟩\/¬dY ⟨nt,nn,ns,au⟩ b7):Bool);refine aa.cz aC fw [(1,.v (.sl (aG b7))),(2,.v (.box [ti nt,ti nn,ti ns,.sl (aU au)])),(15,.v (.bool c1))] ?_ ?_
 ·by_cases q1:dO ⟨nt,nn,ns,au⟩
  ·by_cases q2:dY ⟨nt,nn,ns,au⟩ b7
   ·have:c1=false:=by rw[<-bU];simp[q1,q2]
    simp[QZ,Zba,h1,h2,q1,q2,this]
   ·have:c1=true:=by rw[<-bU];simp[q2]
    simp[QZ,Zba,h1,h2,q1,q2,this]
  ·have:c1=true:=by rw[<-bU];simp[q1]
   simp[QZ,Zba,h1,q1,this]
 refine aa.cond rfl (λg=>?_) (λg=>?_)
 ·rw[g]at bU;have bU:=Zat bU;apply aa.ch aC fw [4];simp[d22r2];apply aa.ret;rw[cZ λh=>bU.elim (λq=>q (c7.1 h).1.1) (λq=>q (c7.1 h).1.2)];simp[Iw]
 ·rw[g]at bU;have bU:=Zay bU;simp only[not_or,Classical.not_not]at bU;obtain⟨Bk,mQ⟩:=bU;apply aa.skip;simp;have hVl:=Wc Bk mQ;apply aa.ch aC fw [5];simp[d22r3,Zba,h1,h2,hV];apply aa.seq;apply aa.ch aC fw [5,6];simp[d22r4];apply aa.block;refine aa.loop (λy:Nat=>⟨DM.look [(5,.v (.sl (bC V))),(6,.v (ti y))],cM [],2000,1000,[]⟩)
   (λy=>y<=V.length/\∀i,i<y->sO V i) (λy=>V.length-y) 0 (Le.bi (o:=[]) ?_ ?_ ?_ ?_) (by simp) (λy hy=>?_)
  iterate 4(·simp)
  obtain⟨lq,fJ⟩:=hy;apply aa.seq;apply aa.ch aC fw [5,6,22];simp[d22r5];refine aa.cond rfl (λcR=>?_) (λcR=>?_)
  ·have cR:y<V.length:=by simpa using cR
   apply aa.skip;simp;apply aa.seq;apply aa.block;have rr:=dd cR;obtain⟨x,hx⟩:=bb (V.getD y default);rw[hx]at rr;apply aa.ch aC fw [5,6,30];simp[d22r6,cR,rr];refine aa.cond rfl (λh8=>?_) (λh8=>?_)
   ·have h8:x.size>1000:=by simpa using h8
    apply aa.ch aC fw [4];simp[d22r7];apply aa.ret;rw[cZ λh=>by have:=(c7.1 h).2 y cR;unfold sO at this;rw[hx]at this;exact this h8];simp[Iw]
   ·have h8:¬x.size>1000:=by simpa using h8
    apply aa.skip;simp;apply aa.fK aC fw [5,6];simp[d22r8];rw[aF (x:=(y:Int)+1) (by omega)];refine⟨y+1,Le.bi (o:=[]) ?_ ?_ ?_ ?_,⟨by omega,λi hi=>?_⟩,by omega⟩;iterate 4(·simp)
    ·by_cases e:i=y
     ·subst e;unfold sO;rw[hx];exact h8
     ·exact fJ i (by omega)
  ·have hy3:y=V.length:=by simp at cR;omega
   subst hy3;apply aa.exit;simp;apply aa.ch aC fw [4];simp[d22r9];apply aa.ret;have:v=true:=by rw[<-hv];exact decide_eq_true (c7.2 ⟨⟨Bk,mQ⟩,fJ⟩)
   rw[this];simp[Iw]
end
def inpOk(x:Input):Prop:=OI x/\x.aw.length<=60/\x.insert.length<=100/\∀c∈x.aw,c.read.length=x.insert.length
def ref_lOk{x:Input}(h:inpOk x):F7 (ci x):=by
 obtain⟨h1,h2,h3,h4⟩:=h;have hs:(ci x).bn=2*x.aw.length+1:=rfl;have ha:(ci x).bE=jo x:=rfl;refine⟨by omega,by omega,by rw[ha];have:=BL h3 h2;omega,λa hm=>?_⟩;rw[ha]at hm;have h5:=(Jf h1 h2 a hm).2.2.2.2.2;have h6:=(Bh hm).2;omega
def g8(l:List Bool):List (aK):=l.map λb=>[.bool b]
@[simp] def boolsT_len(l:List Bool):(g8 l).length=l.length:=by simp[g8]
def Fa(l:List Bool)(i:Nat)(b:Bool):g8 (l.set i b)=(g8 l).set i [.bool b]:=by simp[g8,Zcd]
def jG{l:List Bool}{y:Nat}(h:y<l.length):DM.rowAt (g8 l) y=[.bool (l.getD y default)]:=by simp[DM.rowAt,g8,h]
section
variable{f:bq}{sp:Nat}
structure NN where
 (rb rf rh q a hp m:Nat)
structure kl where
 ak:bR
 bZ:List Bool
 fl:bO
 s:Qs
structure eY where
 n:aD
 l:aV
 c:d6
 (fr to:Int)
def ma(k:NN)(z:eY):bB:=[.v (ti z.n.aL),.v (ti z.n.an),.v (ti z.n.start),.v (.sl (aU z.n.au)),.v (ti z.l.bn),.v (.sl (j7 z.l.bE)),.v (.sl (aG z.l.uH)),.v (ti z.c.an),.v (ti z.c.bn),.v (.sl (cu z.c.cells)),.v (ti z.fr),.v (ti z.to),.bA k.rb 0,.bA k.rf 0,.bA k.rh 0,.ptr k.q 0]
def qK(s:kl):Ob:=.dT 0 63 2 (bC s.ak)
def rU(s:kl):Ob:=.dT 0 4 1 (g8 s.bZ)
def rV(s:kl):Ob:=.dT 0 3 1 (aG s.fl)
structure SV where
 k:NN
 z:eY
 s:kl
structure SV.at(v:SV)(f:bq)(p:Nat):Prop where
 sp:f p=some (.box (ma v.k v.z))
 rb:f v.k.rb=some (qK v.s)
 rf:f v.k.rf=some (rU v.s)
 rh:f v.k.rh=some (rV v.s)
 q:f v.k.q=some (qB v.k.a v.k.hp v.k.m v.s.s)
 hp:f v.k.hp=some (hB v.s.s)
 m:f v.k.m=some (mB v.s.s)
 a:f v.k.a=some (.box [.ptr p 0])
@[simp] def PY{a b:List Bool}:g8 a=g8 b↔a=b:=⟨λh=>by
 unfold g8 at h;exact List.map_inj_right (f:=λb:Bool=>[T.bool b]) (λx y h=>by simpa using h)|>.1 h,λh=>by rw[h]⟩
def SV.Cg{v w:SV}(h:v.at f sp)(k:w.at f sp):v=w:=by
 obtain⟨⟨rb,rf,rh,q,a,hp,m⟩,⟨⟨nt,nn,ns,au⟩,⟨ls,bE,bZ⟩,⟨cn,cs,cl⟩,fr,to⟩,⟨ak,fn,fl,⟨heap,bD,es,mc,next,dv⟩⟩⟩:=v;obtain⟨⟨rb',rf',rh',q',a',hp',m'⟩,⟨⟨nt',nn',ns',rules'⟩,⟨ls',arcs',fin'⟩,⟨cn',iz,cl'⟩,fr',to'⟩,⟨best',fn',hdl',⟨Yu,cg,m0,mc',next',clock'⟩⟩⟩:=w;obtain⟨h1,h2,h3,h4,h5,h6,h7,h8⟩:=h;obtain⟨k1,k2,k3,k4,k5,k6,k7,k8⟩:=k;simp only[ma]at h1 k1;rw[h1]at k1;simp only[Zaa,Ob.box.injEq,Za1,DV.v.injEq,T.int.injEq,T.sl.injEq,Pd,V7,G5,Pe,DV.bA.injEq,DV.ptr.injEq,and_true,true_and]at k1;obtain⟨rfl,rfl,rfl,rfl,rfl,rfl,rfl,rfl,rfl,rfl,rfl,rfl,rfl,rfl,rfl,rfl⟩:=k1;simp only[qK,rU,rV]at h2 h3 h4 k2 k3 k4;rw[h2]at k2;rw[h3]at k3;rw[h4]at k4;simp only[Zaa,Ob.dT.injEq,rn,PY,G5,true_and]at k2 k3 k4;subst k2 k3 k4;simp only[qB]at h5 k5;rw[h5]at k5;simp only[Zaa,Ob.box.injEq,Za1,DV.nG.injEq,DV.ptr.injEq,DV.bA.injEq,DV.iE.injEq,DV.v.injEq,T.int.injEq,true_and,and_true]at k5;obtain⟨rfl,⟨rfl,rfl⟩,rfl,rfl,rfl⟩:=k5;simp only[hB]at h6 k6;rw[h6]at k6;simp only[Zaa,Ob.dT.injEq,vI,true_and]at k6;simp only[mB]at h7 k7;rw[h7]at k7;simp only[Zaa,Ob.map.injEq,JA,true_and]at k7;obtain⟨rfl,rfl⟩:=k7;subst k6;rfl
open Classical in
noncomputable def jm(f:bq)(sp:Nat):SV:=if h:∃v:SV,v.at f sp then Classical.choose h else⟨⟨0,0,0,0,0,0,0⟩,⟨⟨0,0,0,[]⟩,⟨0,[],[]⟩,⟨0,0,[]⟩,0,0⟩,⟨[],[],[],⟨[],0,[],0,0,0⟩⟩⟩
def io{v:SV}(h:v.at f sp):jm f sp=v:=by
 have hx:∃v:SV,v.at f sp:=⟨v,h⟩;unfold jm;rw[ZcV hx];exact SV.Cg (Classical.choose_spec hx) h
def SV.qv(v:SV)(sp:Nat):QV:=⟨v.k.a,v.k.hp,v.k.m,⟨sp,v.k.rb,ma v.k v.z,v.s.ak⟩,v.s.s⟩
def SV.at.qv{v:SV}(h:v.at f sp):(v.qv sp).at f v.k.q:=⟨h.q,h.hp,h.m,⟨h.a,h.sp,rfl,h.rb⟩⟩
abbrev SV.to(v:SV)(s:kl):SV:=⟨v.k,v.z,s⟩
def bX(f:bq)(v:SV)(s:kl):bq:=aM [(v.k.rb,qK s),(v.k.rf,rU s),(v.k.rh,rV s),(v.k.q,qB v.k.a v.k.hp v.k.m s.s),(v.k.hp,hB s.s),(v.k.m,mB s.s)] f
structure SV.Ne(v:SV)(sp:Nat):Prop where
 nV:sp≠v.k.rb
 nW:sp≠v.k.rf
 nX:sp≠v.k.rh
 uP:sp≠v.k.q
 nw:sp≠v.k.hp
 uQ:sp≠v.k.m
 PZ:sp≠v.k.a
 TX:v.k.rb≠sp
 pq:v.k.rb≠v.k.rf
 TY:v.k.rb≠v.k.rh
 zi:v.k.rb≠v.k.q
 aar:v.k.rb≠v.k.hp
 zj:v.k.rb≠v.k.m
 P0:v.k.rb≠v.k.a
 pu:v.k.rf≠sp
 nY:v.k.rf≠v.k.rb
 aaE:v.k.rf≠v.k.rh
 zk:v.k.rf≠v.k.q
 aaF:v.k.rf≠v.k.hp
 zl:v.k.rf≠v.k.m
 P3:v.k.rf≠v.k.a
 aaG:v.k.rh≠sp
 nZ:v.k.rh≠v.k.rb
 oa:v.k.rh≠v.k.rf
 zm:v.k.rh≠v.k.q
 aaH:v.k.rh≠v.k.hp
 zn:v.k.rh≠v.k.m
 P4:v.k.rh≠v.k.a
 zo:v.k.q≠sp
 tH:v.k.q≠v.k.rb
 tJ:v.k.q≠v.k.rf
 tK:v.k.q≠v.k.rh
 xo:v.k.q≠v.k.hp
 PD:v.k.q≠v.k.m
 nqa:v.k.q≠v.k.a
 qj:v.k.hp≠sp
 mo:v.k.hp≠v.k.rb
 mq:v.k.hp≠v.k.rf
 mr:v.k.hp≠v.k.rh
 vS:v.k.hp≠v.k.q
 xp:v.k.hp≠v.k.m
 P5:v.k.hp≠v.k.a
 zp:v.k.m≠sp
 tM:v.k.m≠v.k.rb
 tN:v.k.m≠v.k.rf
 tO:v.k.m≠v.k.rh
 NM:v.k.m≠v.k.q
 vT:v.k.m≠v.k.hp
 nma:v.k.m≠v.k.a
 P6:v.k.a≠sp
 Nb:v.k.a≠v.k.rb
 Nc:v.k.a≠v.k.rf
 Nd:v.k.a≠v.k.rh
 naq:v.k.a≠v.k.q
 Nf:v.k.a≠v.k.hp
 nam:v.k.a≠v.k.m
def SV.at.ne{v:SV}(h:v.at f sp):v.Ne sp:=by
 obtain⟨P2,oO,oP,nz,hq,lU,hm,ha⟩:=h;simp only[ma,qK,rU,rV,qB,hB,mB]at P2 oO oP nz hq lU hm;exact⟨λe=>by rw[e,oO]at P2;simp at P2,
  λe=>by rw[e,oP]at P2;simp at P2,
  λe=>by rw[e,nz]at P2;simp at P2,
  λe=>by rw[e,hq]at P2;simp at P2,
  λe=>by rw[e,lU]at P2;simp at P2,
  λe=>by rw[e,hm]at P2;simp at P2,
  λe=>by rw[e,ha]at P2;simp at P2,
  λe=>by rw[e,P2]at oO;simp at oO,
  λe=>by rw[e,oP]at oO;simp at oO,
  λe=>by rw[e,nz]at oO;simp at oO,
  λe=>by rw[e,hq]at oO;simp at oO,
  λe=>by rw[e,lU]at oO;simp at oO,
  λe=>by rw[e,hm]at oO;simp at oO,
  λe=>by rw[e,ha]at oO;simp at oO,
  λe=>by rw[e,P2]at oP;simp at oP,
  λe=>by rw[e,oO]at oP;simp at oP,
  λe=>by rw[e,nz]at oP;simp at oP,
  λe=>by rw[e,hq]at oP;simp at oP,
  λe=>by rw[e,lU]at oP;simp at oP,
  λe=>by rw[e,hm]at oP;simp at oP,
  λe=>by rw[e,ha]at oP;simp at oP,
  λe=>by rw[e,P2]at nz;simp at nz,
  λe=>by rw[e,oO]at nz;simp at nz,
  λe=>by rw[e,oP]at nz;simp at nz,
  λe=>by rw[e,hq]at nz;simp at nz,
  λe=>by rw[e,lU]at nz;simp at nz,
  λe=>by rw[e,hm]at nz;simp at nz,
  λe=>by rw[e,ha]at nz;simp at nz,
  λe=>by rw[e,P2]at hq;simp at hq,
  λe=>by rw[e,oO]at hq;simp at hq,
  λe=>by rw[e,oP]at hq;simp at hq,
  λe=>by rw[e,nz]at hq;simp at hq,
  λe=>by rw[e,lU]at hq;simp at hq,
  λe=>by rw[e,hm]at hq;simp at hq,
  λe=>by rw[e,ha]at hq;simp at hq,
  λe=>by rw[e,P2]at lU;simp at lU,
  λe=>by rw[e,oO]at lU;simp at lU,
  λe=>by rw[e,oP]at lU;simp at lU,
  λe=>by rw[e,nz]at lU;simp at lU,
  λe=>by rw[e,hq]at lU;simp at lU,
  λe=>by rw[e,hm]at lU;simp at lU,
  λe=>by rw[e,ha]at lU;simp at lU,
  λe=>by rw[e,P2]at hm;simp at hm,
  λe=>by rw[e,oO]at hm;simp at hm,
  λe=>by rw[e,oP]at hm;simp at hm,
  λe=>by rw[e,nz]at hm;simp at hm,
  λe=>by rw[e,hq]at hm;simp at hm,
  λe=>by rw[e,lU]at hm;simp at hm,
  λe=>by rw[e,ha]at hm;simp at hm,
  λe=>by rw[e,P2]at ha;simp at ha,
  λe=>by rw[e,oO]at ha;simp at ha,
  λe=>by rw[e,oP]at ha;simp at ha,
  λe=>by rw[e,nz]at ha;simp at ha,
  λe=>by rw[e,hq]at ha;simp at ha,
  λe=>by rw[e,lU]at ha;simp at ha,
  λe=>by rw[e,hm]at ha;simp at ha⟩
def kH{v:SV}(h:v.at f sp)(s:kl):(v.to s).at (bX f v s) sp:=by
 obtain⟨nV,nW,nX,uP,nw,uQ,PZ,TX,pq,TY,zi,aar,zj,P0,pu,nY,aaE,zk,aaF,zl,P3,aaG,nZ,oa,zm,aaH,zn,P4,zo,tH,tJ,tK,xo,PD,nqa,qj,mo,mq,mr,vS,xp,P5,zp,tM,tN,tO,NM,vT,nma,P6,Nb,Nc,Nd,naq,Nf,nam⟩:=h.ne;refine⟨?_, ?_, ?_, ?_, ?_, ?_, ?_, ?_⟩
 ·simp[bX,nV,nW,nX,uP,nw,uQ,h.sp]
 ·simp[bX]
 ·simp[bX,nY]
 ·simp[bX,nZ,oa]
 ·simp[bX,tH,tJ,tK]
 ·simp[bX,mo,mq,mr,vS]
 ·simp[bX,tM,tN,tO,NM,vT]
 ·simp[bX,Nb,Nc,Nd,naq,Nf,nam,h.a]
def zr(f:bq)(v:SV)(s s':kl):bX (bX f v s) (v.to s) s'=bX f v s':=by
 funext k;simp only[bX,aP,cm];by_cases h1:k=v.k.rb<;>by_cases h2:k=v.k.rf<;>by_cases h3:k=v.k.rh<;>by_cases h4:k=v.k.q<;>by_cases h5:k=v.k.hp<;>by_cases h6:k=v.k.m<;>simp[h1,h2,h3,h4,h5,h6]
def gK{v:SV}{r:Nat}(h:v.at f sp)(s:kl)(hr:f r=none):bX f v s r=none:=by
 have e1:r≠v.k.rb:=λe=>by rw[e,h.rb]at hr;cases hr
 have e2:r≠v.k.rf:=λe=>by rw[e,h.rf]at hr;cases hr
 have e3:r≠v.k.rh:=λe=>by rw[e,h.rh]at hr;cases hr
 have e4:r≠v.k.q:=λe=>by rw[e,h.q]at hr;cases hr
 have e5:r≠v.k.hp:=λe=>by rw[e,h.hp]at hr;cases hr
 have e6:r≠v.k.m:=λe=>by rw[e,h.m]at hr;cases hr
 simp[bX,e1,e2,e3,e4,e5,e6,hr]
def eH{v:SV}(h:v.at f sp):bX f v v.s=f:=by
 funext k;simp only[bX,aP,cm];split
 ·rename_i e;rw[e];exact h.rb.symm
 ·split
  ·rename_i e;rw[e];exact h.rf.symm
  ·split
   ·rename_i e;rw[e];exact h.rh.symm
   ·split
    ·rename_i e;rw[e];exact h.q.symm
    ·split
     ·rename_i e;rw[e];exact h.hp.symm
     ·split
      ·rename_i e;rw[e];exact h.m.symm
      ·rfl
def le_s{f0:bq}{N aJ ba:Nat}{tm:dw}{l:fA}{L:cV}{v:SV}(s:kl)(aT:dh f0 N)(hv:v.at f0 sp)(hn:N<=ba)
  (hL:∀p∈L,p.1=v.k.rb\/p.1=v.k.rf\/p.1=v.k.rh\/p.1=v.k.q\/p.1=v.k.hp\/p.1=v.k.m\/N<=p.1) (hF:∀r,r<N->aM L f0 r=bX f0 v s r)
  (ik:fR (aM L f0) (bX f0 v s) id tm l):
  Le ⟨tm,aM L f0,aJ,N,[]⟩ ⟨DM.look l,bX f0 v s,ba,N,[]⟩:=by
 have ic:∀{r o},f0 r=some o->r<N:=λh=>(aT _ _ h).1;have hP:=kH hv s;obtain⟨nV,nW,nX,uP,nw,uQ,PZ,TX,pq,TY,zi,aar,zj,P0,pu,nY,aaE,zk,aaF,zl,P3,aaG,nZ,oa,zm,aaH,zn,P4,zo,tH,tJ,tK,xo,PD,nqa,qj,mo,mq,mr,vS,xp,P5,zp,tM,tN,tO,NM,vT,nma,P6,Nb,Nc,Nd,naq,Nf,nam⟩:=hv.ne;refine Le.dV aT hn ?_ ?_ ?_ ik
 ·have:=ic hv.rb;have:=ic hv.rf;have:=ic hv.rh;have:=ic hv.q;have:=ic hv.hp;have:=ic hv.m;simp;omega
 ·have:∀(L:cV),(∀p∈L,p.1=v.k.rb\/p.1=v.k.rf\/p.1=v.k.rh\/p.1=v.k.q\/p.1=v.k.hp\/p.1=v.k.m\/N<=p.1)->bK N [(v.k.rb,qK s),(v.k.rf,rU s),(v.k.rh,rV s),(v.k.q,qB v.k.a v.k.hp v.k.m s.s),(v.k.hp,hB s.s),(v.k.m,mB s.s)] L:=by
   intro L;induction L with
   |nil=>intro _;trivial
   |cons p L ih=>
    intro h;refine⟨λhq=>?_,ih λp hp=>h p (by simp[hp])⟩;rcases h p (by simp)with h|h|h|h|h|h|h
    ·exact⟨_,by rw[h];exact .head _⟩
    ·exact⟨_,by rw[h];exact .tail _ (.head _)⟩
    ·exact⟨_,by rw[h];exact .tail _ (.tail _ (.head _))⟩
    ·exact⟨_,by rw[h];exact .tail _ (.tail _ (.tail _ (.head _)))⟩
    ·exact⟨_,by rw[h];exact .tail _ (.tail _ (.tail _ (.tail _ (.head _))))⟩
    ·exact⟨_,by rw[h];exact .tail _ (.tail _ (.tail _ (.tail _ (.tail _ (.head _)))))⟩
    ·omega
  exact this _ hL
 ·have g:∀{r o o'},f0 r=some o'->bX f0 v s r=some o->aM L f0 r=some o:=λh1 h2=>(hF _ (ic h1)).trans h2;refine⟨⟨_,g hv.rb hP.rb,.inr ⟨rfl,λk hk=>by simp[aZ,qK]at hk⟩,λ_=>be _⟩,⟨_,g hv.rf hP.rf,.inr ⟨rfl,λk hk=>by simp[aZ,rU]at hk⟩,λ_=>be _⟩,⟨_,g hv.rh hP.rh,.inr ⟨rfl,λk hk=>by simp[aZ,rV]at hk⟩,λ_=>be _⟩,
   ⟨_,g hv.q hP.q,.inr ⟨rfl,λk hk=>?_⟩,λ_=>be _⟩,⟨_,g hv.hp hP.hp,.inr ⟨rfl,λk hk=>by simp[aZ,hB]at hk⟩,λ_=>be _⟩,⟨_,g hv.m hP.m,.inr ⟨rfl,λk hk=>?_⟩,λ_=>be _⟩,trivial⟩
  ·simp only[qB,aZ,bM,aN,ZaC,Zaq,Zah,Zal,or_false]at hk;rcases hk with rfl|rfl|rfl
   ·exact⟨_,_,g hv.a hP.a,hP.a,be _⟩
   ·exact⟨_,_,g hv.hp hP.hp,hP.hp,be _⟩
   ·exact⟨_,_,g hv.m hP.m,hP.m,be _⟩
  ·exfalso;simp only[mB,aZ,ZaV,uO,Zak]at hk;obtain⟨e,⟨e',_,rfl⟩,hk⟩:=hk;simp[aN]at hk
end
section
variable{h:Int}
abbrev s37:DM.Spec:=cT (λts=>∃cn cs cl h f t,ts=[.agg [ti cn,ti cs,.sl (cu cl)],.agg [ti h,ti f,ti t]]/\zH ⟨cn,cs,cl⟩) (fun|[c,.agg [.int _ h,.int _ f,.int _ t]]=>.agg [ti (NJ (Pc c) h f t).aH,ti (NJ (Pc c) h f t).size,ti (NJ (Pc c) h f t).qE,ti (NJ (Pc c) h f t).arg]|_=>.bool false) true
def ok37{l:List (Nat×DM.Spec)}(h:ay aj (bu l)):ay aj (bu ((144,s37)::l)):=by
 refine ay.cons h ?_;rintro ts ⟨cn,cs,cl,h,f,t,rfl,h1⟩;exact⟨by simpa [d6.enc,Cell.enc]using t37 ⟨cn,cs,cl⟩ h f t h1,λ_=>rfl⟩
def jY(z:eY)(ak:bR)(h f t:Int):c8:=if f=z.fr/\t=z.to then bv ak h else(NJ z.c h f t).val
def t83{f0:bq}{p N:Nat}{f t:Int}{v:SV}(hN:∀r,N<=r->f0 r=none)(hv:v.at f0 p)(hc:zH v.z.c)(hh:f=v.z.fr/\t=v.z.to->0<=h/\h<v.s.ak.length):
  aR aj 122 [.ptr p 0,.v (ti h),.v (ti f),.v (ti t)] f0 ⟨True,.v (.agg [ti (jY v.z v.s.ak h f t).aH,ti (jY v.z v.s.ak h f t).size]),f0⟩:=by
 obtain⟨R,hR⟩:=bb (jY v.z v.s.ak h f t);rw[hR];unfold jY at hR;have aC:=ok37 ay.nil;refine c83.pQ hN (by simp) λaT=>?_;have h1:=hv.sp;have h2:=hv.rb;have nu:p<N:=(aT p _ h1).1;have UN:v.k.rb<N:=(aT v.k.rb _ h2).1;simp only[ma,qK]at h1 h2;obtain⟨⟨cn,cs,cl⟩,hz⟩:=bb v.z.c;rw[hz]at h1 hc hR;simp only at h1;have np:∀k,p≠N+k:=λk=>by omega
 have nb:∀k,v.k.rb≠N+k:=λk=>by omega
 simp;apply aa.ch aC fw [0,1,2,3,8];simp[d83r0];apply aa.seq;obtain⟨c1,bU⟩:=bb (decide (f=v.z.fr/\t=v.z.to):Bool);refine aa.cz aC fw [(0,.ptr p 0),(1,.v (ti h)),(2,.v (ti f)),(3,.v (ti t)),(8,.ptr (N+8+1) 0),(22,.v (.bool c1))] ?_ ?_
 ·by_cases q1:f=v.z.fr
  ·by_cases q2:t=v.z.to
   ·have:c1=true:=by rw[<-bU];simp[q1,q2]
    simp[Q0,h1,np,Nat.add_assoc,q1,q2,this]
   ·have:c1=false:=by rw[<-bU];simp[q2]
    simp[Q0,h1,np,Nat.add_assoc,q1,q2,this]
  ·have:c1=false:=by rw[<-bU];simp[q1]
   simp[Q0,h1,np,Nat.add_assoc,q1,this]
 refine aa.cond rfl (λg=>?_) (λg=>?_)
 ·have g:c1=true:=by simpa using g
  rw[g]at bU;have q:=Zat bU;rw[Zai q]at hR;obtain⟨x0,x1⟩:=hh q;obtain⟨x,rfl⟩:=Zae x0;have hx:x<v.s.ak.length:=by omega
  have rr:=dd hx;have hb:v.s.ak.getD x default=R:=by rw[<-hR];simp[bv]
  rw[hb]at rr;apply aa.ch aC fw [8];simp[d83r2,h1,h2,np,nb,Nat.add_assoc,hx,rr];refine aa.le (le_s (v:=v) v.s (l:=[(8,.v (.box [ti R.aH,ti R.size]))]) (ba:=N+1000) aT hv (by omega) ?_ ?_ ?_) ?_
  ·simp
  ·intro r hr;rw[eH hv];have:∀k,r≠N+k:=λk=>by omega
   simp[this,Nat.add_assoc]
  ·simp;rw[eH hv];exact bL (l:=[]) aT (by omega) (by simp)
  rw[eH hv];apply aa.ret;simp[OP]
 ·have g:c1=false:=by simpa using g
  rw[g]at bU;have q:=Zay bU;rw[Zab q]at hR;obtain⟨⟨a1,a2,a3,a4⟩,ha⟩:=bb (NJ ⟨cn,cs,cl⟩ h f t);rw[ha]at hR;subst hR;apply aa.skip;simp;apply aa.ch aC fw [8];simp[d83r3,h1,np,Nat.add_assoc,Zba,hc,ha];refine aa.le (le_s (v:=v) v.s (l:=[(8,.v (.box [ti a1,ti a2]))]) (ba:=N+1000) aT hv (by omega) ?_ ?_ ?_) ?_
  ·simp
  ·intro r hr;rw[eH hv];have:∀k,r≠N+k:=λk=>by omega
   simp[this,Nat.add_assoc]
  ·simp;rw[eH hv];exact bL (l:=[]) aT (by omega) (by simp)
  rw[eH hv];apply aa.ret;simp[OP]
noncomputable def k83:bB->bq->fI
 |[.ptr p 0,.v (.int .i64 h),.v (.int .i64 g),.v (.int .i64 t)],f=>⟨(∃v:SV,v.at f p)/\zH (jm f p).z.c/\(g=(jm f p).z.fr/\t=(jm f p).z.to->0<=h/\h<(jm f p).s.ak.length),.v (.agg [ti (jY (jm f p).z (jm f p).s.ak h g t).aH,ti (jY (jm f p).z (jm f p).s.ak h g t).size]),f⟩
 |_,f=>⟨False,.undef,f⟩
def k83_eq{v:SV}{f:bq}{p:Nat}{g t:Int}(hv:v.at f p):k83 [.ptr p 0,.v (ti h),.v (ti g),.v (ti t)] f=⟨zH v.z.c/\(g=v.z.fr/\t=v.z.to->0<=h/\h<v.s.ak.length),.v (.agg [ti (jY v.z v.s.ak h g t).aH,ti (jY v.z v.s.ak h g t).size]),f⟩:=by
 have hx:∃v:SV,v.at f p:=⟨v,hv⟩;simp only[k83,io hv,hx,true_and]
def k83_ok:∀args ab,(k83 args ab).ok->(∀N,(∀r,N<=r->ab r=none)->aR aj 122 args ab (k83 args ab))/\∀r,ab r=none->(k83 args ab).ab r=none:=by
 intro args ab h;unfold k83 at h⊢;split at h
 ·rename_i p h' g t;obtain⟨⟨v,hv⟩,hc,hh⟩:=h;rw[io hv]at hc hh⊢;exact⟨λN hN=>aR.of (t83 hN hv hc hh) rfl rfl,λr hr=>hr⟩
 ·exact h.elim
def ok83{l:List (Nat×DM.Spec)}(h:ay aj (bu l)):ay aj (bu ((122,eS k83)::l)):=ay.gS h k83_ok
end
section
variable{f0:bq}
abbrev It:=Int×Int×Int
def itT(x:It):aK:=[ti x.1,ti x.2.1,ti x.2.2]
def mb(l:List It):List (aK):=l.map itT
@[simp] def FP(l:List It):(mb l).length=l.length:=by simp[mb]
def A2{l:List It}{y:Nat}(h:y<l.length):DM.rowAt (mb l) y=itT (l.getD y default):=by simp[DM.rowAt,mb,h]
def me(z:eY)(x:It):Prop:=x.2.1=z.fr/\x.2.2=z.to
instance(z:eY)(x:It):Decidable (me z x):=by unfold me;infer_instance
def ff(z:eY)(l:List It):Bool:=l.any λx=>decide (me z x)
def kO{N aJ ba:Nat}{tm:dw}{l:fA}{L:cV}(aT:dh f0 N)(hn:N<=ba)(hL:∀p∈L,N<=p.1)(ik:fR (aM L f0) (aM [] f0) id tm l):
  Le ⟨tm,aM L f0,aJ,N,[]⟩ ⟨DM.look l,aM [] f0,ba,N,[]⟩:=by
 refine Le.dV (l1:=[]) aT hn (by simp) ?_ (by simp[dN]) ik;clear ik;induction L with
 |nil=>trivial
 |cons q L ih=>
  refine⟨λhq=>?_,ih λp hp=>hL p (by simp[hp])⟩;have:=hL q (by simp);omega
def t59{p N:Nat}{l:List It}{v:SV}(hN:∀r,N<=r->f0 r=none)(hv:v.at f0 p)(hl:l.length<=1000):
  aR aj 87 [.ptr p 0,.v (.sl (mb l))] f0 ⟨True,.v (.bool (ff v.z l)),f0⟩:=by
 obtain⟨R,hR⟩:=bb (ff v.z l);rw[hR];have aC:=cF;refine c59.pQ hN (by simp) λaT=>?_;have h1:=hv.sp;have nu:p<N:=(aT p _ h1).1;simp only[ma]at h1;have np:∀k,p≠N+k:=λk=>by omega
 simp;apply aa.ch aC fw [0,1];simp[Zq];apply aa.seq;apply aa.ch aC fw [0,7,8,9];simp[Zr];apply aa.block;refine aa.loop (λi:Nat=>⟨DM.look [(0,.ptr p 0),(7,.v (.sl (mb l))),(8,.v (ti l.length)),(9,.v (ti i))],aM [] f0,N+1000,N,[]⟩)
  (λi=>i<=l.length/\ff v.z (l.take i)=false) (λi=>l.length-i) 0 (kO aT (by omega) (by simp) ?_) (by simp[ff]) (λi hi=>?_)
 ·simp[h1]
 obtain⟨hi,hw⟩:=hi;apply aa.ch aC fw [0,7,8,9,10];simp[Zs];apply aa.seq;refine aa.cond rfl (λg=>?_) (λg=>?_)
 ·have g:i<l.length:=by simpa using g
  have rr:=A2 g;obtain⟨⟨xh,xf,xt⟩,hx⟩:=bb (l.getD i default);rw[hx]at rr;simp only[itT]at rr;have FD:ff v.z (l.take (i+1))=decide (me v.z (xh,xf,xt)):=by
   rw[cW g,hx];unfold ff at hw⊢;rw[List.any_append,hw];simp
  apply aa.skip;simp;apply aa.seq;apply aa.block;apply aa.ch aC fw [0,6,7,8,9];simp[d59r3,rr,g];refine aa.le (kO (l:=[(0,.ptr p 0),(6,.v (.box [ti xh,ti xf,ti xt])),(7,.v (.sl (mb l))),(8,.v (ti l.length)),(9,.v (ti i))]) (ba:=N+2000) aT (by omega) (by simp;omega) ?_) ?_
  ·simp[Nat.add_assoc,h1];exact bL (l:=[]) aT (by omega) (by simp)
  obtain⟨c1,bU⟩:=bb (decide (me v.z (xh,xf,xt)):Bool);refine aa.cz aC fw [(0,.ptr p 0),(7,.v (.sl (mb l))),(8,.v (ti l.length)),(9,.v (ti i)),(28,.v (.bool c1))] ?_ ?_
  ·by_cases q1:xf=v.z.fr
   ·by_cases q2:xt=v.z.to
    ·have:c1=true:=by rw[<-bU];simp[me,q1,q2]
     simp[Ra,h1,q1,q2,this]
    ·have:c1=false:=by rw[<-bU];simp[me,q2]
     simp[Ra,h1,q1,q2,this]
   ·have:c1=false:=by rw[<-bU];simp[me,q1]
    simp[Ra,h1,q1,this]
  refine aa.cond rfl (λg2=>?_) (λg2=>?_)
  ·have g2:c1=true:=by simpa using g2
   subst g2;have:R=true:=by
    rw[<-hR];unfold ff;rw[Zce];exact⟨(xh,xf,xt),hx▸bm g,by simpa using bU⟩
   subst this;apply aa.ch aC fw [4];simp[d59r5];apply aa.ret;simp[Iy];rfl
  ·have g2:c1=false:=by simpa using g2
   subst g2;apply aa.skip;simp;apply aa.fK aC fw [0,7,8,9];simp[d59r6];rw[aF (by omega)];refine⟨i+1,kO aT (by omega) (by simp) ?_,⟨by omega,by rw[FD,bU]⟩,by omega⟩;simp[h1]
 ·have g:¬i<l.length:=by simpa using g
  have:R=false:=by
   rw[<-hR,<-hw,ZaX (by omega)]
  subst this;apply aa.exit;simp;apply aa.ch aC fw [4];simp[Zt];apply aa.ret;simp[Iy];rfl
end
section
variable{f:bq}
def decIt:aK->It
 |[a,b,c]=>(dH a,dH b,dH c)
 |_=>(0,0,0)
def mK(l:List (aK)):List It:=l.map decIt
@[simp] def xD(l:List It):mK (mb l)=l:=gq (λx=>by simp[decIt,itT,dH]) l
@[simp] def itsT_nil:mb []=[]:=rfl
def t59n{f0:bq}{p N:Nat}{v:SV}(hN:∀r,N<=r->f0 r=none)(hv:v.at f0 p):
  aR aj 87 [.ptr p 0,.aW] f0 ⟨True,.v (.bool false),f0⟩:=by
 have aC:=cF;refine c59.pQ hN (by simp) λaT=>?_;have h1:=hv.sp;simp only[ma]at h1;simp;apply aa.ch aC fw [0,1];simp[Zq];apply aa.seq;apply aa.ch aC fw [8,9];simp[Zr];apply aa.block;refine aa.loop (λi:Nat=>⟨DM.look [(8,.v (ti 0)),(9,.v (ti 0))],aM [] f0,N+1000,N,[]⟩)
  (λi=>True) (λi=>0) 0 (kO aT (by omega) (by simp) ?_) trivial (λi hi=>?_)
 ·simp
 apply aa.ch aC fw [10];simp[Zs];apply aa.seq;refine aa.cond rfl (λg=>by cases g) (λg=>?_);apply aa.exit;simp;apply aa.ch aC fw [4];simp[Zt];apply aa.ret;simp[Iy];rfl
noncomputable def k59:bB->bq->fI
 |[.ptr p 0,.v (.sl av)],f=>⟨(∃v:SV,v.at f p)/\av=mb (mK av)/\av.length<=1000,.v (.bool (ff (jm f p).z (mK av))),f⟩
 |[.ptr p 0,.aW],f=>⟨∃v:SV,v.at f p,.v (.bool false),f⟩
 |_,f=>⟨False,.undef,f⟩
def k59_eq{v:SV}{p:Nat}{l:List It}(hv:v.at f p):k59 [.ptr p 0,.v (.sl (mb l))] f=⟨l.length<=1000,.v (.bool (ff v.z l)),f⟩:=by
 have hx:∃v:SV,v.at f p:=⟨v,hv⟩;simp only[k59,io hv,hx,true_and,xD,FP]
def k59_nil{v:SV}{p:Nat}(hv:v.at f p):k59 [.ptr p 0,.aW] f=⟨True,.v (.bool false),f⟩:=by
 have hx:∃v:SV,v.at f p:=⟨v,hv⟩;simp only[k59,hx]
def k59_ok:∀args ab,(k59 args ab).ok->(∀N,(∀r,N<=r->ab r=none)->aR aj 87 args ab (k59 args ab))/\∀r,ab r=none->(k59 args ab).ab r=none:=by
 intro args ab h;unfold k59 at h⊢;split at h
 ·rename_i p av;obtain⟨⟨v,hv⟩,hr,hl⟩:=h;obtain⟨l,Wc⟩:=bb (mK av);rw[Wc]at hr⊢;subst hr;rw[io hv];exact⟨λN hN=>aR.of (t59 hN hv (by simpa using hl)) rfl rfl,λr hr=>hr⟩
 ·rename_i p;obtain⟨v,hv⟩:=h;exact⟨λN hN=>aR.of (t59n hN hv) rfl rfl,λr hr=>hr⟩
 ·exact h.elim
def ok59{l:List (Nat×DM.Spec)}(h:ay aj (bu l)):ay aj (bu ((87,eS k59)::l)):=ay.gS h k59_ok
abbrev s84:DM.Spec:=cT (λts=>∃c l,ts=[ti c,.sl (bC l)]/\(∀v∈l,jj v)/\0<=c/\c<=4000000000000/\l.length<=1000000) (fun|[.int _ c,.sl l]=>.agg [ti (dU c (mT l)).aH,ti (dU c (mT l)).size]|_=>.bool false) true
def ok84{l:List (Nat×DM.Spec)}(h:ay aj (bu l)):ay aj (bu ((123,s84)::l)):=by
 refine ay.cons h ?_;rintro ts ⟨c,l,rfl,h1,h2,h3,h4⟩;exact⟨by simpa using t84 c l h1 h2 h3 h4,λ_=>rfl⟩
def j8(z:eY)(ak:bR)(cq:Int)(l:List It):c8:=dU cq (l.map λx=>jY z ak x.1 x.2.1 x.2.2)
def itOk(z:eY)(ak:bR)(l:List It):Prop:=∀x∈l,x.2.1=z.fr/\x.2.2=z.to->0<=x.1/\x.1<ak.length
def JU{z:eY}{ak:bR}(hc:NI z.c)(hb:∀v∈ak,jj v)(h f t:Int):jj (jY z ak h f t):=by
 unfold jY;split
 ·unfold bv;rw[List.getD];cases e:ak[h.toNat]? with
  |none=>simp[jj,default];decide
  |some x=>exact hb x (Zax e)
 ·exact aaC hc h f t
end
section
variable{f0:bq}
def pB{N r:Nat}{L:cV}(hr:r<N)(hL:∀p∈L,N<=p.1):aM L f0 r=f0 r:=
 fj λo' h=>by have:=hL _ h;simp only at this;omega
def SV.at.aM{v:SV}{p N:Nat}{L:cV}(h:v.at f0 p)(aT:dh f0 N)(hL:∀p∈L,N<=p.1):v.at (DM.aM L f0) p:=by
 have g:∀{r o},f0 r=some o->DM.aM L f0 r=some o:=λe=>(pB (aT _ _ e).1 hL).trans e;exact⟨g h.sp,g h.rb,g h.rf,g h.rh,g h.q,g h.hp,g h.m,g h.a⟩
def t61{p N:Nat}{cq:Int}{l:List It}{v:SV}(hN:∀r,N<=r->f0 r=none)(hv:v.at f0 p)(hc:zH v.z.c)(gI:NI v.z.c)(hb:∀x∈v.s.ak,jj x)(hi:itOk v.z v.s.ak l)(hp:0<=cq/\cq<=4000000000000)(hl:l.length<=1000):
  aR aj 89 [.ptr p 0,.v (ti cq),.v (.sl (mb l))] f0 ⟨True,.v (.agg [ti (j8 v.z v.s.ak cq l).aH,ti (j8 v.z v.s.ak cq l).size]),f0⟩:=by
 obtain⟨R,hR⟩:=bb (j8 v.z v.s.ak cq l);rw[hR];unfold j8 at hR;obtain⟨Vs,NL⟩:=bb (l.map (λx=>jY v.z v.s.ak x.1 x.2.1 x.2.2));rw[NL]at hR;have hVl:Vs.length=l.length:=by rw[<-NL];simp
 have Gk:∀x∈Vs,jj x:=by
  rw[<-NL];intro x hx;obtain⟨y,_,rfl⟩:=Zak.1 hx;exact JU gI hb _ _ _
 have aC:=ok83 (ok84 ay.nil);refine c61.pQ hN (by simp) λaT=>?_;have h1:=hv.sp;have nu:p<N:=(aT p _ h1).1;have np:∀k,p≠N+k:=λk=>by omega
 have en:(∃cs,f0 p=some (.box cs)):=⟨_,h1⟩;simp;apply aa.ch aC fw [0,1,2,6];simp[Zu];apply aa.ch aC fw [0,1,2,6,7];simp[Zv];apply aa.seq;apply aa.ch aC fw [0,1,6,7,10,11,12];simp[Zw];refine aa.le (Le.dV (l1:=[(N+7,.box [.v (ti 0),.v (ti 0)])]) (l:=[(0,.ptr p 0),(1,.v (ti cq)),(6,.ptr (N+7) 0),(7,.aW),(10,.v (.sl (mb l))),(11,.v (ti l.length)),(12,.v (ti 0))]) (ba:=N+500) aT ?_ ?_ ?_ ?_ ?_) ?_
 ·omega
 ·simp
 ·simp[bK,Nat.add_assoc]
 ·simp[dN,eA,Nat.add_assoc]
 ·simp[np,Nat.add_assoc,en]
 refine aa.le (Le.vr (k:=7) 63 (sz:=2) (by omega) (by simp)) ?_;rw[jT];apply aa.block;refine aa.loop (λi:Nat=>⟨DM.look [(0,.ptr p 0),(1,.v (ti cq)),(6,.ptr (N+7) 0),(7,.bA (N+500) i),(10,.v (.sl (mb l))),(11,.v (ti l.length)),(12,.v (ti i))],aM [(N+7,.box [.v (ti 0),.v (ti 0)]),(N+500,.dT i 63 2 (bC (Vs.take i)))] f0,N+1000,N,[]⟩)
  (λi=>i<=l.length) (λi=>l.length-i) 0 (Le.dV aT ?_ ?_ ?_ ?_ ?_) (by omega) (λi hi2=>?_)
 ·omega
 ·simp
 ·simp[bK]
 ·simp[dN,eA]
 ·simp[np,en]
 apply aa.ch aC fw [0,1,6,7,10,11,12,13];simp[Zx];apply aa.seq;refine aa.cond rfl (λg=>?_) (λg=>?_)
 ·have g:i<l.length:=by simpa using g
  have rr:=A2 g;have Ow:=hi _ (show l.getD i default∈l by simp[List.getD,g]);have hV:Vs.take (i+1)=Vs.take i++[jY v.z v.s.ak (l.getD i default).1 (l.getD i default).2.1 (l.getD i default).2.2]:=by
   rw[ZbO,Zas (by omega)];simp only[<-NL,ZbQ,Option.toList_some];simp[List.getD,g]
  obtain⟨⟨xh,xf,xt⟩,hx⟩:=bb (l.getD i default);rw[hx]at rr Ow hV;simp only[itT]at rr Ow hV;obtain⟨⟨vc,vz⟩,hvv⟩:=bb (jY v.z v.s.ak xh xf xt);rw[hvv]at hV;apply aa.skip;simp;apply aa.seq;apply aa.block;apply aa.ch aC fw [0,1,6,7,9,10,11,12];simp[d61r4,rr,g];refine aa.le (Le.dV (l1:=[(N+7,.box [.v (ti 0),.v (ti 0)]),(N+500,.dT i 63 2 (bC (Vs.take i)))]) (l:=[(0,.ptr p 0),(1,.v (ti cq)),(6,.ptr (N+7) 0),(7,.bA (N+500) i),(9,.v (.box [ti xh,ti xf,ti xt])),(10,.v (.sl (mb l))),(11,.v (ti l.length)),(12,.v (ti i))]) (ba:=N+3000) aT ?_ ?_ ?_ ?_ ?_) ?_
  ·omega
  ·simp
  ·simp[bK,Nat.add_assoc]
  ·simp[dN,eA,Nat.add_assoc]
  ·simp[np,Nat.add_assoc,en];exact bL aT (by omega) (by simp)
  have mQ:v.at (aM [(N+7,.box [.v (ti 0),.v (ti 0)]),(N+500,.dT i 63 2 (bC (Vs.take i)))] f0) p:=hv.aM aT (by simp);have k1:=k83_eq (h:=xh) (g:=xf) (t:=xt) mQ;rw[hvv]at k1;have hch:fU 2 1 [ti vc,ti vz]=[[ti vc,ti vz]]:=rfl;have TU:dK 16 (i+1):=by simp[dK];omega
  have hTl:(Vs.take i).length=i:=by rw[ZaB];omega
  apply aa.Iq aC fw (rs:=OQ) rfl (by kernel_rfl) [0,1,6,7,10,11,12];simp[OQ,k1,hc,hch,hTl,TU];refine⟨λz1 z2=>Ow ⟨z1,z2⟩, ?_⟩;have hvt:bC (Vs.take (i+1))=bC (Vs.take i)++[[ti vc,ti vz]]:=by rw[hV];simp[bC]
  apply aa.fK aC fw [0,1,6,7,10,11,12];simp[d61r6];rw[aF (by omega)];refine⟨i+1,Le.dV aT ?_ ?_ ?_ ?_ ?_,by omega,by omega⟩
  ·omega
  ·simp
  ·simp[bK]
  ·simp[dN,eA,hvt]
  ·simp[np,en,hvt]
 ·have g:¬i<l.length:=by simpa using g
  have hie:i=l.length:=by omega
  subst hie;rw[ZaX (by omega)];apply aa.exit;simp;refine aa.le (Le.dV (l1:=[(N+7,.box [.v (ti 0),.v (ti 0)])]) (l:=[(1,.v (ti cq)),(6,.ptr (N+7) 0),(7,.v (.sl (bC Vs)))]) (ba:=N+5000) aT ?_ ?_ ?_ ?_ ?_) ?_
  ·omega
  ·simp
  ·simp[bK]
  ·simp[dN,eA]
  ·simp;exact bL aT (by omega) (by simp)
  apply aa.ch aC fw [6];simp[Zy,Zba,hVl,hR];refine⟨Gk,hp.1,hp.2,by omega, ?_⟩;refine aa.le (kO (l:=[(6,.v (.box [ti R.aH,ti R.size]))]) (ba:=N+6000) aT (by omega) (by simp) ?_) ?_
  ·simp;exact bL (l:=[]) aT (by omega) (by simp)
  apply aa.ret;simp[OR];rfl
end
section
variable{f:bq}
def t61n{f0:bq}{p N:Nat}{cq:Int}{v:SV}(hN:∀r,N<=r->f0 r=none)(hv:v.at f0 p)(hp:0<=cq/\cq<=4000000000000):
  aR aj 89 [.ptr p 0,.v (ti cq),.aW] f0 ⟨True,.v (.agg [ti (j8 v.z v.s.ak cq []).aH,ti (j8 v.z v.s.ak cq []).size]),f0⟩:=by
 obtain⟨R,hR⟩:=bb (j8 v.z v.s.ak cq []);rw[hR];unfold j8 at hR;simp only[ZbL]at hR;have aC:=ok83 (ok84 ay.nil);refine c61.pQ hN (by simp) λaT=>?_;simp;apply aa.ch aC fw [0,1,2,6];simp[Zu];apply aa.ch aC fw [0,1,2,6,7];simp[Zv];apply aa.seq;apply aa.ch aC fw [1,6,7,11,12];simp[Zw];apply aa.block;refine aa.loop (λi:Nat=>⟨DM.look [(1,.v (ti cq)),(6,.ptr (N+7) 0),(7,.aW),(11,.v (ti 0)),(12,.v (ti 0))],aM [(N+7,.box [.v (ti 0),.v (ti 0)])] f0,N+1000,N,[]⟩)
  (λi=>True) (λi=>0) 0 (Le.dV aT ?_ ?_ ?_ ?_ ?_) trivial (λi hi=>?_)
 ·omega
 ·simp
 ·simp[bK,Nat.add_assoc]
 ·simp[dN,eA,Nat.add_assoc]
 ·simp[Nat.add_assoc]
 apply aa.ch aC fw [1,6,7,13];simp[Zx];apply aa.seq;refine aa.cond rfl (λg=>by cases g) (λg=>?_);apply aa.exit;simp;apply aa.ch aC fw [6];simp[Zy,Zba,hR,hp];refine aa.le (kO (l:=[(6,.v (.box [ti R.aH,ti R.size]))]) (ba:=N+6000) aT (by omega) (by simp) ?_) ?_
 ·simp;exact bL (l:=[]) aT (by omega) (by simp)
 apply aa.ret;simp[OR];rfl
structure SV.okB(v:SV):Prop where
 cf:zH v.z.c
 co:NI v.z.c
 b:∀x∈v.s.ak,jj x
noncomputable def k61:bB->bq->fI
 |[.ptr p 0,.v (.int .i64 c),.v (.sl av)],f=>⟨(∃v:SV,v.at f p)/\(jm f p).okB/\av=mb (mK av)/\av.length<=1000/\itOk (jm f p).z (jm f p).s.ak (mK av)/\0<=c/\c<=4000000000000,.v (.agg [ti (j8 (jm f p).z (jm f p).s.ak c (mK av)).aH,ti (j8 (jm f p).z (jm f p).s.ak c (mK av)).size]),f⟩
 |[.ptr p 0,.v (.int .i64 c),.aW],f=>⟨(∃v:SV,v.at f p)/\0<=c/\c<=4000000000000,.v (.agg [ti (j8 (jm f p).z (jm f p).s.ak c []).aH,ti (j8 (jm f p).z (jm f p).s.ak c []).size]),f⟩
 |_,f=>⟨False,.undef,f⟩
def k61_eq{v:SV}{p:Nat}{c:Int}{l:List It}(hv:v.at f p):k61 [.ptr p 0,.v (ti c),.v (.sl (mb l))] f=⟨v.okB/\l.length<=1000/\itOk v.z v.s.ak l/\0<=c/\c<=4000000000000,.v (.agg [ti (j8 v.z v.s.ak c l).aH,ti (j8 v.z v.s.ak c l).size]),f⟩:=by
 have hx:∃v:SV,v.at f p:=⟨v,hv⟩;simp only[k61,io hv,hx,true_and,xD,FP]
def k61_nil{v:SV}{p:Nat}{c:Int}(hv:v.at f p):k61 [.ptr p 0,.v (ti c),.aW] f=⟨0<=c/\c<=4000000000000,.v (.agg [ti (j8 v.z v.s.ak c []).aH,ti (j8 v.z v.s.ak c []).size]),f⟩:=by
 have hx:∃v:SV,v.at f p:=⟨v,hv⟩;simp only[k61,io hv,hx,true_and]
def k61_ok:∀args ab,(k61 args ab).ok->(∀N,(∀r,N<=r->ab r=none)->aR aj 89 args ab (k61 args ab))/\∀r,ab r=none->(k61 args ab).ab r=none:=by
 intro args ab h;unfold k61 at h⊢;split at h
 ·rename_i p c av;obtain⟨⟨v,hv⟩,ho,hr,hl,hi,hp⟩:=h;obtain⟨l,Wc⟩:=bb (mK av);rw[Wc]at hr hi⊢;subst hr;rw[io hv]at ho hi⊢;exact⟨λN hN=>aR.of (t61 hN hv ho.cf ho.co ho.b hi hp (by simpa using hl)) rfl rfl,λr hr=>hr⟩
 ·rename_i p c;obtain⟨⟨v,hv⟩,hp⟩:=h;rw[io hv];exact⟨λN hN=>aR.of (t61n hN hv hp) rfl rfl,λr hr=>hr⟩
 ·exact h.elim
def ok61{l:List (Nat×DM.Spec)}(h:ay aj (bu l)):ay aj (bu ((89,eS k61)::l)):=ay.gS h k61_ok
end
def od(z:eY)(bZ:List Bool)(l:List It):Bool:=l.any λx=>decide (me z x)&& !(bZ.getD x.1.toNat default)
def t89{f0:bq}{p N:Nat}{l:List It}{v:SV}(hN:∀r,N<=r->f0 r=none)(hv:v.at f0 p)(hf:∀x∈l,me v.z x->0<=x.1/\x.1<v.s.bZ.length)(hl:l.length<=1000):
  aR aj 128 [.ptr p 0,.v (.sl (mb l))] f0 ⟨True,.v (.bool (!od v.z v.s.bZ l)),f0⟩:=by
 obtain⟨R,hR⟩:=bb ((!od v.z v.s.bZ l));rw[hR];have aC:=cF;refine c89.pQ hN (by simp) λaT=>?_;have h1:=hv.sp;have nu:p<N:=(aT p _ h1).1;simp only[ma]at h1;have h2:=hv.rf;simp only[rU]at h2;have np:∀k,p≠N+k:=λk=>by omega
 simp;apply aa.ch aC fw [0,1];simp[d89r0];apply aa.seq;apply aa.ch aC fw [0,7,8,9];simp[d89r1];apply aa.block;refine aa.loop (λi:Nat=>⟨DM.look [(0,.ptr p 0),(7,.v (.sl (mb l))),(8,.v (ti l.length)),(9,.v (ti i))],aM [] f0,N+1000,N,[]⟩)
  (λi=>i<=l.length/\od v.z v.s.bZ (l.take i)=false) (λi=>l.length-i) 0 (kO aT (by omega) (by simp) ?_) (by simp[od]) (λi hi=>?_)
 ·simp[h1]
 obtain⟨hi,hw⟩:=hi;apply aa.ch aC fw [0,7,8,9,10];simp[d89r2];apply aa.seq;refine aa.cond rfl (λg=>?_) (λg=>?_)
 ·have g:i<l.length:=by simpa using g
  have rr:=A2 g;obtain⟨⟨xh,xf,xt⟩,hx⟩:=bb (l.getD i default);rw[hx]at rr;simp only[itT]at rr;have FD:od v.z v.s.bZ (l.take (i+1))=(decide (me v.z (xh,xf,xt))&& !(v.s.bZ.getD xh.toNat default)):=by
   rw[cW g,hx];unfold od at hw⊢;rw[List.any_append,hw];simp
  apply aa.skip;simp;apply aa.seq;apply aa.block;apply aa.ch aC fw [0,6,7,8,9];simp[d89r3,rr,g];refine aa.le (kO (l:=[(0,.ptr p 0),(6,.v (.box [ti xh,ti xf,ti xt])),(7,.v (.sl (mb l))),(8,.v (ti l.length)),(9,.v (ti i))]) (ba:=N+2000) aT (by omega) (by simp;omega) ?_) ?_
  ·simp[Nat.add_assoc,h1];exact bL (l:=[]) aT (by omega) (by simp)
  obtain⟨c1,bU⟩:=bb ((decide (me v.z (xh,xf,xt))&& !(v.s.bZ.getD xh.toNat default)):Bool);refine aa.cz aC fw [(0,.ptr p 0),(7,.v (.sl (mb l))),(8,.v (ti l.length)),(9,.v (ti i)),(39,.v (.bool c1))] ?_ ?_
  ·by_cases q1:xf=v.z.fr
   ·by_cases q2:xt=v.z.to
    ·obtain⟨x0,x1⟩:=hf _ (show(xh,xf,xt)∈l from hx▸bm g) ⟨q1,q2⟩;simp only at x0 x1;obtain⟨y,rfl⟩:=Zae x0;have hy:y<v.s.bZ.length:=by omega
     have rb:=jG hy;obtain⟨b,hb⟩:=bb (v.s.bZ.getD y default);rw[hb]at rb;have:c1= !b:=by rw[<-bU];simp only[Zag,hb];simp[me,q1,q2]
     cases b<;>simp[Rb,h1,h2,hy,rb,q1,q2,this]
    ·have:c1=false:=by rw[<-bU];simp[me,q2]
     simp[Rb,h1,q1,q2,this]
   ·have:c1=false:=by rw[<-bU];simp[me,q1]
    simp[Rb,h1,q1,this]
  refine aa.cond rfl (λg2=>?_) (λg2=>?_)
  ·have g2:c1=true:=by simpa using g2
   subst g2;have:R=false:=by
    rw[<-hR];have:od v.z v.s.bZ l=true:=by
     unfold od;rw[Zce];exact⟨(xh,xf,xt),hx▸bm g,bU⟩
    rw[this];rfl
   subst this;apply aa.ch aC fw [4];simp[d89r5];apply aa.ret;simp[OS];rfl
  ·have g2:c1=false:=by simpa using g2
   subst g2;apply aa.skip;simp;apply aa.fK aC fw [0,7,8,9];simp[d89r6];rw[aF (by omega)];refine⟨i+1,kO aT (by omega) (by simp) ?_,⟨by omega,by rw[FD,bU]⟩,by omega⟩;simp[h1]
 ·have g:¬i<l.length:=by simpa using g
  have:R=true:=by
   rw[ZaX (by omega)]at hw;rw[<-hR,hw];rfl
  subst this;apply aa.exit;simp;apply aa.ch aC fw [4];simp[d89r7];apply aa.ret;simp[OS];rfl
noncomputable def k89:bB->bq->fI
 |[.ptr p 0,.v (.sl av)],f=>⟨(∃v:SV,v.at f p)/\av=mb (mK av)/\av.length<=1000/\(∀x∈mK av,me (jm f p).z x->0<=x.1/\x.1<(jm f p).s.bZ.length),.v (.bool (!od (jm f p).z (jm f p).s.bZ (mK av))),f⟩
 |_,f=>⟨False,.undef,f⟩
def k89_eq{v:SV}{f:bq}{p:Nat}{l:List It}(hv:v.at f p):k89 [.ptr p 0,.v (.sl (mb l))] f=⟨l.length<=1000/\(∀x∈l,me v.z x->0<=x.1/\x.1<v.s.bZ.length),.v (.bool (!od v.z v.s.bZ l)),f⟩:=by
 have hx:∃v:SV,v.at f p:=⟨v,hv⟩;simp only[k89,io hv,hx,true_and,xD,FP]
def k89_ok:∀args ab,(k89 args ab).ok->(∀N,(∀r,N<=r->ab r=none)->aR aj 128 args ab (k89 args ab))/\∀r,ab r=none->(k89 args ab).ab r=none:=by
 intro args ab h;unfold k89 at h⊢;split at h
 ·rename_i p av;obtain⟨⟨v,hv⟩,hr,hl,hf⟩:=h;obtain⟨l,Wc⟩:=bb (mK av);rw[Wc]at hr hf⊢;subst hr;rw[io hv]at hf⊢;exact⟨λN hN=>aR.of (t89 hN hv hf (by simpa using hl)) rfl rfl,λr hr=>hr⟩
 ·exact h.elim
def ok89{l:List (Nat×DM.Spec)}(h:ay aj (bu l)):ay aj (bu ((128,eS k89)::l)):=ay.gS h k89_ok
section
variable{ak:bR}
def ilt(a:Int):a<0\/0<=a:=by omega
def fG(st:kl)(h:Int)(v:c8):kl:=
 if st.bZ.getD h.toNat false=true\/v.aH>=1099511627776\/¬v.lt (bv st.ak h)then st
 else if 0<=st.fl.getD h.toNat 0 then⟨st.ak.set h.toNat v,st.bZ,st.fl,tS (st.ak.set h.toNat v) st.s (st.fl.getD h.toNat 0) h⟩
 else⟨st.ak.set h.toNat v,st.bZ,st.fl.set h.toNat st.s.next,gX (st.ak.set h.toNat v) st.s h⟩
def pU(st:kl):kl:=⟨st.ak,st.bZ.set (st.s.e 0).x.toNat true,st.fl,fC st.ak st.s⟩
def pigeon:∀(n:Nat) (l:cO),l.Nodup->(∀x∈l,x<n)->l.length<=n
 |0,[],_,_=>by simp
 |0,a::l,_,h=>by have:=h a (by simp);omega
 |n+1,l,hn,h=>by
  have:=pigeon n (l.erase n) (hn.erase n) λx hx=>by
   have h1:=h x (List.mem_of_mem_erase hx);have h2:x≠n:=(hn.mem_erase_iff.1 hx).1;omega
  have:=List.le_length_erase (a:=n) (l:=l);omega
structure WF(n:Nat)(st:kl):Prop where
 lb:st.ak.length=n
 lf:st.bZ.length=n
 lh:st.fl.length=n
 ok:st.s.ok st.ak
 pl:c6 st.s
 hp:oz st.ak st.s
 vU:∀e∈st.s.heap,0<=e.x/\e.x<n/\st.bZ.getD e.x.toNat false=false/\st.fl.getD e.x.toNat 0=e.h/\0<=e.h
 Xl:∀x:Nat,x<n->0<=st.fl.getD x 0->st.bZ.getD x false=false->∃e∈st.s.heap,e.x=x
 old:∀x:Nat,x<n->st.fl.getD x 0<0->st.bZ.getD x false=false/\st.ak.getD x default=⟨1099511627776,0⟩
 Qb:∀x:Nat,x<n->0<=st.fl.getD x 0->(st.ak.getD x default).aH<1099511627776
 nx:∀x:Nat,x<n->st.fl.getD x 0<st.s.next
 nc:0<=st.s.next/\st.s.next<=st.s.dv
 bo:∀v∈st.ak,jj v
def Qs.ok.of{s:Qs}{a b:bR}(h:s.ok a)(e:b.length=a.length):s.ok b:=⟨h.pl,h.st,h.pO,λx hx=>by rw[e];exact h.r x hx⟩
def eI{α:Type}{l:List α}{i j:Nat}{d x:α}(hi:i<l.length):(l.set i x).getD j d=if j=i then x else l.getD j d:=by
 by_cases h:j=i
 ·subst h;simp[List.getD,hi]
 ·have:¬i=j:=λe=>h e.symm;simp[List.getD,this,h]
section
variable{n:Nat}{st:kl}
def WF.Cg(h:WF n st){i j:Nat}(hi:i<st.s.heap.length)(hj:j<st.s.heap.length)(e:(st.s.e i).x=(st.s.e j).x):i=j:=by
 obtain⟨_,_,_,a,_⟩:=h.vU _ (fD.2 ⟨i,hi,rfl⟩);obtain⟨_,_,_,b,_⟩:=h.vU _ (fD.2 ⟨j,hj,rfl⟩);refine h.pl.nd i j hi hj ?_;rw[<-a,<-b,e]
def WF.len(h:WF n st):st.s.heap.length<=n:=by
 have:=pigeon n (st.s.heap.map λe=>e.x.toNat) ?_ ?_
 ·simpa using this
 ·unfold List.Nodup;rw[Zc0];intro i j hi0 hj hij e;simp only[Zbn]at hj;have hi:i<st.s.heap.length:=by omega
  have a:=h.vU _ (fD.2 ⟨i,hi,rfl⟩);have b:=h.vU _ (fD.2 ⟨j,hj,rfl⟩);have:=h.Cg hi hj ?_
  ·omega
  ·simp only[ZbQ]at e;simp only[Qs.e,Zag,List.getD,Zas hi,Zas hj,Zbd]at a b⊢;omega
 ·intro x hx;obtain⟨e,he,rfl⟩:=Zak.1 hx;have:=h.vU e he;omega
def WF.canon(h:WF n st){x:Nat}(hx:x<n):(st.ak.getD x default).aH<1099511627776\/(st.ak.getD x default).size=0:=by
 rcases ilt (st.fl.getD x 0)with h0|h0
 ·right;rw[(h.old x hx h0).2]
 ·exact .inl (h.Qb x hx h0)
def mL(st:kl)(h:Int)(v:c8):(fG st h v).bZ=st.bZ:=by
 unfold fG;split
 ·rfl
 ·split<;>rfl
def Qc(st:kl)(h:Int)(v:c8):(fG st h v).ak=st.ak\/((fG st h v).ak=st.ak.set h.toNat v/\st.bZ.getD h.toNat false=false/\v.aH<1099511627776/\v.lt (bv st.ak h)):=by
 unfold fG;split
 ·exact .inl rfl
 ·rename_i hc;have gI:st.bZ.getD h.toNat false=false/\v.aH<1099511627776/\v.lt (bv st.ak h):=by
   simp only[not_or,Decidable.not_not]at hc;exact⟨by simpa using hc.1,by omega,hc.2.2⟩
  split<;>exact .inr ⟨rfl,gI⟩
def mem_upd1{s:Qs}{i:Nat}{x:Int}(hi:i<s.heap.length)(e:kh):e∈(mJ s i x).heap↔e=⟨x,(s.e i).h,s.dv⟩\/∃k:Nat,k<s.heap.length/\k≠i/\e=s.e k:=by
 have hl:(mJ s i x).heap.length=s.heap.length:=by simp[mJ]
 rw[fD];constructor
 ·rintro⟨k,hk,rfl⟩;rw[te hi];split
  ·exact .inl rfl
  ·exact .inr ⟨k,by omega,by assumption,rfl⟩
 ·rintro(rfl|⟨k,hk,bT,rfl⟩)
  ·exact⟨i,by omega,by rw[te hi,Zai rfl]⟩
  ·exact⟨k,by omega,by rw[te hi,Zab bT]⟩
def Nh{s:Qs}{i:Nat}{x:Int}(hp:c6 s)(hi:i<s.heap.length):lu (mJ s i x) (tS ak s (s.e i).h x):=by
 have Xj:(mJ s i x).heap.length=s.heap.length:=by simp[mJ]
 unfold tS;rw[hp i hi];simp only[Zbd,Zag];exact(vJ (by omega)).trans (li rfl)
def ok_upd{s:Qs}{i:Nat}{x:Int}(ho:s.ok ak)(hp:c6 s)(hi:i<s.heap.length)(hx:0<=x/\x<ak.length):(tS ak s (s.e i).h x).ok ak:=by
 have Xj:(mJ s i x).heap.length=s.heap.length:=by simp[mJ]
 unfold tS;rw[hp i hi];simp only[Zbd,Zag];exact CU rfl (FB (U1 ho hi hx) (by omega)).1
def WF.FC(h:WF n st){x:Int}(hx:0<=x/\x<n){v:c8}(hv:jj v):WF n (fG st x v):=by
 unfold fG;split
 ·exact h
 ·rename_i hc;simp only[not_or,Decidable.not_not]at hc;obtain⟨c1,c2,c3⟩:=hc;have c1:st.bZ.getD x.toNat false=false:=by simpa using c1
  have NG:0<=x/\x<st.ak.length:=by have:=h.lb;omega
  have hxn:x.toNat<n:=by omega
  have Ox:(st.ak.set x.toNat v).length=st.ak.length:=by simp
  have Bv:∀w∈st.ak.set x.toNat v,jj w:=λw hw=>by
   rcases ZaS hw with hw|rfl
   ·exact h.bo w hw
   ·exact hv
  have hbd:∀y:Nat,y<n->(st.ak.set x.toNat v).getD y default=if y=x.toNat then v else st.ak.getD y default:=λy hy=>eI (by omega)
  split
  ·rename_i hh;obtain⟨e,he,Dn⟩:=h.Xl x.toNat hxn hh c1;obtain⟨i,hi,rfl⟩:=fD.1 he;have Dn:(st.s.e i).x=x:=by omega
   have hd:st.fl.getD x.toNat 0=(st.s.e i).h:=by rw[<-Dn];exact(h.vU _ he).2.2.2.1
   rw[hd];have hs:=Nh (ak:=st.ak.set x.toNat v) (x:=x) h.pl hi;have kx:∀e,e∈(tS (st.ak.set x.toNat v) st.s (st.s.e i).h x).heap↔e=⟨x,(st.s.e i).h,st.s.dv⟩\/∃k:Nat,k<st.s.heap.length/\k≠i/\e=st.s.e k:=λe=>(hs.mem e).trans (mem_upd1 hi e);have tw:(tS (st.ak.set x.toNat v) st.s (st.s.e i).h x).next=st.s.next:=hs.next;have JF:(tS (st.ak.set x.toNat v) st.s (st.s.e i).h x).dv=st.s.dv+1:=hs.dv;refine⟨by simp[h.lb],h.lf,h.lh,ok_upd (h.ok.of Ox) h.pl hi (by rw[Ox];exact NG),WU h.pl hi,
    WV h.pl hi (upd_heap h.hp h.ok.r hi NG Dn (λk hk bT e=>bT (h.Cg hk hi (e.trans Dn.symm))) c3),λe he=>?_,λy hy lq fJ=>?_,λy hy lq=>?_,λy hy lq=>?_,λy hy=>?_, ?_,Bv⟩
   ·rcases(kx e).1 he with rfl|⟨k,hk,_,rfl⟩
    ·exact⟨hx.1,hx.2,c1,hd,(h.vU _ (fD.2 ⟨i,hi,rfl⟩)).2.2.2.2⟩
    ·exact h.vU _ (fD.2 ⟨k,hk,rfl⟩)
   ·obtain⟨e,he,hey⟩:=h.Xl y hy lq fJ;obtain⟨k,hk,rfl⟩:=fD.1 he;by_cases HV:k=i
    ·subst HV;exact⟨_,(kx _).2 (.inl rfl),by simp only;omega⟩
    ·exact⟨_,(kx _).2 (.inr ⟨k,hk,HV,rfl⟩),hey⟩
   ·have:=h.old y hy lq;refine⟨this.1, ?_⟩;simp only;rw[hbd y hy,Zab]
    ·exact this.2
    ·rintro rfl;simp only at lq;omega
   ·simp only;rw[hbd y hy];split
    ·omega
    ·exact h.Qb y hy lq
   ·rw[show(kl.mk (st.ak.set x.toNat v) st.bZ st.fl (tS (st.ak.set x.toNat v) st.s (st.s.e i).h x)).s.next=st.s.next from tw];exact h.nx y hy
   ·have:=h.nc;simp only[tw,JF];omega
  ·rename_i hh;have bT:∀e∈st.s.heap,e.x≠x:=λe he ex=>by
    obtain⟨a1,a2,a3,a4,a5⟩:=h.vU e he;rw[ex]at a4;omega
   have hbef:∀a b:kh,a∈st.s.heap->b∈st.s.heap->(iC (st.ak.set x.toNat v) a b↔iC st.ak a b):=λa b ha hb=>by
    unfold iC;rw[A3 NG (h.vU a ha).1,A3 NG (h.vU b hb).1,Zab (bT a ha),Zab (bT b hb)]
   have Ko:oz (st.ak.set x.toNat v) st.s:=λk k1 k2 hk=>h.hp k k1 k2 ((hbef _ _ (fD.2 ⟨k,k2,rfl⟩) (fD.2 ⟨_,by omega,rfl⟩)).1 hk);have hs:lu (fM st.s x) (gX (st.ak.set x.toNat v) st.s x):=vJ (by simp[fM]);have kx:∀e,e∈(gX (st.ak.set x.toNat v) st.s x).heap↔e∈st.s.heap\/e=⟨x,st.s.next,st.s.dv⟩:=λe=>(hs.mem e).trans (by simp[fM]);have tw:(gX (st.ak.set x.toNat v) st.s x).next=st.s.next+1:=hs.next;have JF:(gX (st.ak.set x.toNat v) st.s x).dv=st.s.dv+1:=hs.dv;have hhd:∀y:Nat,y<n->(st.fl.set x.toNat st.s.next).getD y 0=if y=x.toNat then st.s.next else st.fl.getD y 0:=λy hy=>eI (by have:=h.lh;omega)
   have Lk:=h.nc;refine⟨by simp[h.lb],h.lf,by simp[h.lh],(FB (uS (h.ok.of Ox) (by rw[Ox];exact NG)) (by simp[fM])).1,xq h.pl (λe he=>?_),AU Ko,λe he=>?_,λy hy lq fJ=>?_,λy hy lq=>?_,λy hy lq=>?_,λy hy=>?_, ?_,Bv⟩
   ·obtain⟨a1,a2,a3,a4,a5⟩:=h.vU e he;have:=h.nx e.x.toNat (by omega);omega
   ·rcases(kx e).1 he with he|rfl
    ·obtain⟨a1,a2,a3,a4,a5⟩:=h.vU e he;refine⟨a1,a2,a3, ?_,a5⟩;simp only;rw[hhd _ (by omega),Zab]
     ·exact a4
     ·have:=bT e he;omega
    ·refine⟨hx.1,hx.2,c1, ?_,Lk.1⟩;simp only;rw[hhd _ (by omega),Zai rfl]
   ·simp only at lq;rw[hhd y hy]at lq;split at lq
    ·rename_i e;exact⟨_,(kx _).2 (.inr rfl),by simp only;omega⟩
    ·obtain⟨e,he,hey⟩:=h.Xl y hy lq fJ;exact⟨e,(kx e).2 (.inl he),hey⟩
   ·simp only at lq;rw[hhd y hy]at lq;split at lq
    ·omega
    ·rename_i e;have:=h.old y hy lq;refine⟨this.1, ?_⟩;simp only;rw[hbd y hy,Zab e];exact this.2
   ·simp only at lq⊢;rw[hhd y hy]at lq;rw[hbd y hy];split
    ·omega
    ·rename_i e;rw[Zab e]at lq;exact h.Qb y hy lq
   ·show(st.fl.set x.toNat st.s.next).getD y 0<(gX (st.ak.set x.toNat v) st.s x).next;rw[hhd y hy,tw];have:=h.nx y hy;split<;>omega
   ·simp only[tw,JF];omega
def BY(h:WF n st){x:Int}(hx:0<=x/\x<n)(v:c8):(fG st x v).s.dv<=st.s.dv+1:=by
 unfold fG;split
 ·omega
 ·rename_i hc;simp only[not_or,Decidable.not_not]at hc;obtain⟨c1,c2,c3⟩:=hc;have c1:st.bZ.getD x.toNat false=false:=by simpa using c1
  split
  ·rename_i hh;obtain⟨e,he,Dn⟩:=h.Xl x.toNat (by omega) hh c1;obtain⟨i,hi,rfl⟩:=fD.1 he;have Dn:(st.s.e i).x=x:=by omega
   have hd:st.fl.getD x.toNat 0=(st.s.e i).h:=by rw[<-Dn];exact(h.vU _ he).2.2.2.1
   rw[hd];have hs:=Nh (ak:=st.ak.set x.toNat v) (x:=x) h.pl hi;exact Int.le_of_eq hs.dv
  ·have hs:lu (fM st.s x) (gX (st.ak.set x.toNat v) st.s x):=vJ (by simp[fM]);exact Int.le_of_eq hs.dv
def TW(st:kl)(x:Int)(v:c8):Prop:=
 (0<=x/\x<st.ak.length)/\st.bZ.length=st.ak.length/\st.fl.length=st.ak.length/\jj v/\
  (¬(st.bZ.getD x.toNat false=true\/v.aH>=1099511627776\/¬v.lt (bv st.ak x))->
   if 0<=st.fl.getD x.toNat 0 then M8 st.s (st.ak.set x.toNat v) (st.fl.getD x.toNat 0) x else xm st.s (st.ak.set x.toNat v) x)
def WF.TW(h:WF n st){x:Int}(hx:0<=x/\x<n){v:c8}(hv:jj v)(hn:n<=1000)(hc:st.s.dv<=1000000000000):TW st x v:=by
 have NG:0<=x/\x<st.ak.length:=by have:=h.lb;omega
 refine⟨NG,by rw[h.lf,h.lb],by rw[h.lh,h.lb],hv,λc=>?_⟩;simp only[not_or,Decidable.not_not]at c;obtain⟨c1,c2,c3⟩:=c;have c1:st.bZ.getD x.toNat false=false:=by simpa using c1
 have hl:=h.len;have Lk:=h.nc;have Ox:(st.ak.set x.toNat v).length=st.ak.length:=by simp
 split
 ·rename_i hh;obtain⟨e,he,Dn⟩:=h.Xl x.toNat (by omega) hh c1;obtain⟨i,hi,rfl⟩:=fD.1 he;have Dn:(st.s.e i).x=x:=by omega
  have hd:st.fl.getD x.toNat 0=(st.s.e i).h:=by rw[<-Dn];exact(h.vU _ he).2.2.2.1
  rw[hd];exact updOk_of (h.ok.of Ox) h.pl hi (by rw[Ox];exact NG) (by omega) (by omega)
 ·exact⟨h.ok.of Ox,by rw[Ox];exact NG,by omega,by omega,by omega⟩
def zt{s:Qs}(bT:s.heap≠[])(e:kh):e∈(fC ak s).heap↔∃k:Nat,0<k/\k<s.heap.length/\s.e k=e:=by
 have xN:0<s.heap.length:=ZaT.2 bT;have hl:(fT s).heap.length=s.heap.length-1:=by
  simp only[fT,ZaB,Qs.dI];omega
 unfold fC;rw[Zab bT,((li rfl).mem e),fD,hl];constructor
 ·rintro⟨k,hk,rfl⟩;rw[pw hk];split
  ·exact⟨s.heap.length-1,by omega,by omega,rfl⟩
  ·exact⟨k,by omega,by omega,rfl⟩
 ·rintro⟨k,k1,k2,rfl⟩;by_cases hk:k=s.heap.length-1
  ·refine⟨0,by omega, ?_⟩;rw[pw (by omega),Zai rfl,hk]
  ·refine⟨k,by omega, ?_⟩;rw[pw (by omega),Zab (by omega)]
def WF.wo(h:WF n st)(hn:n<=1000):wo st.s st.ak:=⟨h.ok,h.pl.nd,by have:=h.len;omega⟩
def WF.pop(h:WF n st)(bT:st.s.heap≠[]):WF n (pU st):=by
 have xN:0<st.s.heap.length:=ZaT.2 bT;obtain⟨x,hx⟩:=bb ((st.s.e 0).x);have Ow:(st.s.e (0:Nat)).x=x:=hx;obtain⟨a1,a2,a3,a4,a5⟩:=h.vU _ (fD.2 ⟨0,xN,rfl⟩);rw[Ow]at a1 a2 a3 a4;unfold pU;rw[hx];have hs:lu (fT st.s) (fC st.ak st.s):=by unfold fC;rw[Zab bT];exact li rfl
 have hfd:∀y:Nat,y<n->(st.bZ.set x.toNat true).getD y false=if y=x.toNat then true else st.bZ.getD y false:=λy hy=>eI (by have:=h.lf;omega)
 have tw:(fC st.ak st.s).next=st.s.next:=hs.next;have JF:(fC st.ak st.s).dv=st.s.dv:=hs.dv;refine⟨h.lb,by simp[h.lf],h.lh, ?_,vK h.pl,zx h.hp,λe he=>?_,λy hy lq fJ=>?_,λy hy lq=>?_,h.Qb,λy hy=>?_, ?_,h.bo⟩
 ·show(fC st.ak st.s).ok st.ak;unfold fC;rw[Zab bT];exact CU rfl (zw h.ok h.pl.nd xN)
 ·obtain⟨k,k1,k2,rfl⟩:=(zt bT e).1 he;obtain⟨b1,b2,b3,b4,b5⟩:=h.vU _ (fD.2 ⟨k,k2,rfl⟩);refine⟨b1,b2, ?_,b4,b5⟩;simp only;rw[hfd _ (by omega),Zab]
  ·exact b3
  ·intro e;have:=h.Cg k2 xN (by rw[Ow];omega);omega
 ·simp only at fJ lq;rw[hfd y hy]at fJ;split at fJ
  ·cases fJ
  ·rename_i hyx;obtain⟨e,he,hey⟩:=h.Xl y hy lq fJ;obtain⟨k,hk,rfl⟩:=fD.1 he;refine⟨_,(zt bT _).2 ⟨k, ?_,hk,rfl⟩,hey⟩;rcases ZcY k with rfl|Cd
   ·rw[Ow]at hey;omega
   ·exact Cd
 ·have:=h.old y hy lq;simp only at lq⊢;refine⟨?_,this.2⟩;rw[hfd y hy,Zab]
  ·exact this.1
  ·rintro rfl;omega
 ·show st.fl.getD y 0<(fC st.ak st.s).next;rw[tw];exact h.nx y hy
 ·show 0<=(fC st.ak st.s).next/\(fC st.ak st.s).next<=(fC st.ak st.s).dv;rw[tw,JF];exact h.nc
end
end
def jv(r:di)(x:Int):Prop:=(r.kind=3/\r.a=x)\/(r.kind=4/\(r.a=x\/r.b=x))
instance(r:di)(x:Int):Decidable (jv r x):=by unfold jv;infer_instance
def t86(r:di)(x:Int):bl aj 125 [.agg r.enc,ti x] (.bool (decide (jv r x))):=by
 obtain⟨k,h,a,b,p,o⟩:=r;obtain⟨c1,bU⟩:=bb (decide (jv ⟨k,h,a,b,p,o⟩ x):Bool);rw[bU];simp only[jv]at bU;have aC:=cF;refine c86.ok (by simp) (aO ?_);simp[di.enc];apply aa.ch aC fw [1,2];simp[d86r0];refine aa.lk (o:=[]) (l:=[(1,.v (ti x)),(2,.v (.box [ti k,ti h,ti a,ti b,ti p,ti o]))]) (ba:=1200) (by simp) ?_;refine aa.cz aC fw [(4,.v (.bool c1))] ?_ ?_
 ·by_cases q1:k=3
  ·have q4:¬(3:Int)=4:=by omega
   subst q1;by_cases q2:a=x
   ·have:c1=true:=by rw[<-bU];simp[q2]
    simp[Ei,q2,this]
   ·have:c1=false:=by rw[<-bU];simp[q2]
    simp[Ei,q2,this]
  ·by_cases q4:k=4
   ·subst q4;by_cases q2:a=x
    ·have:c1=true:=by rw[<-bU];simp[q2]
     simp[Ei,q2,this]
    ·by_cases q3:b=x
     ·have:c1=true:=by rw[<-bU];simp[q3]
      simp[Ei,q2,q3,this]
     ·have:c1=false:=by rw[<-bU];simp[q2,q3]
      simp[Ei,q2,q3,this]
   ·have:c1=false:=by rw[<-bU];simp[q1,q4]
    simp[Ei,q1,q4,this]
 apply aa.ret;simp[Zp]
abbrev s86:DM.Spec:=cT (λts=>∃k h a b p o x,ts=[.agg [ti k,ti h,ti a,ti b,ti p,ti o],ti x]) (fun|[.agg [.int _ k,.int _ h,.int _ a,.int _ b,.int _ p,.int _ o],.int _ x]=>.bool (decide (jv ⟨k,h,a,b,p,o⟩ x))|_=>.bool false) true
def ok86{l:List (Nat×DM.Spec)}(h:ay aj (bu l)):ay aj (bu ((125,s86)::l)):=by
 refine ay.cons h ?_;rintro ts ⟨k,h,a,b,p,o,x,rfl⟩;exact⟨by simpa [di.enc]using t86 ⟨k,h,a,b,p,o⟩ x,λ_=>rfl⟩
def lV(z:eY)(a:cw):Prop:=a.f>z.fr\/(a.f=z.fr/\a.t>=z.to)
instance(z:eY)(a:cw):Decidable (lV z a):=by unfold lV;infer_instance
def gr(f:bq)(b:Nat):Nat:=match f b with
 |some (.box [.ptr p _])=>p
 |_=>0
def t108{f0:bq}{b p N i:Nat}{v:SV}(hN:∀r,N<=r->f0 r=none)(hb:f0 b=some (.box [.ptr p 0]))(hv:v.at f0 p)(hi:i<v.z.l.bE.length):
  aR aj 141 [.v (ti i),.ptr b 0] f0 ⟨True,.v (.bool (decide (lV v.z (v.z.l.bE.getD i default)))),f0⟩:=by
 obtain⟨R,hR⟩:=bb (decide (lV v.z (v.z.l.bE.getD i default)));rw[hR];have aC:=cF;refine c108.pQ hN (by simp) λaT=>?_;have h1:=hv.sp;have nu:p<N:=(aT p _ h1).1;have UN:b<N:=(aT b _ hb).1;simp only[ma]at h1;have np:∀k,p≠N+k:=λk=>by omega
 have nb:∀k,b≠N+k:=λk=>by omega
 have rr:=w7 hi;obtain⟨⟨af,wW,ae,ac,ao⟩,hx⟩:=bb (v.z.l.bE.getD i default);rw[hx]at rr;simp only[hx,lV]at hR;simp only[cw.enc]at rr;simp;apply aa.ch aC fw [0,1];simp[ZY];apply aa.ch aC fw [1,4];simp[ZZ,hb,h1,hi,rr];refine aa.le (kO (l:=[(1,.ptr b 0),(4,.v (.box [ti af,ti wW,ti ae,ti ac,.sl (ia ao)]))]) (ba:=N+2000) aT (by omega) (by simp;omega) ?_) ?_
 ·simp[Nat.add_assoc,hb];exact bL (l:=[]) aT (by omega) (by simp)
 refine aa.cz aC fw [(3,.v (.bool R))] ?_ ?_
 ·by_cases q1:af>v.z.fr
  ·have:R=true:=by rw[<-hR];simp[q1]
   simp[Ej,hb,h1,q1,this]
  ·by_cases q2:af=v.z.fr
   ·subst q2;by_cases q3:wW>=v.z.to
    ·have:R=true:=by rw[<-hR];simp[q3]
     simp[Ej,hb,h1,q3,this]
    ·have:R=false:=by rw[<-hR];simp[q3]
     simp[Ej,hb,h1,q3,this]
   ·have:R=false:=by rw[<-hR];simp[q1,q2]
    simp[Ej,hb,h1,q1,q2,this]
 apply aa.ret;simp[Rh];rfl
noncomputable def P7:bB->bq->fI
 |[.v (.int .i64 i),.ptr b 0],f=>⟨f b=some (.box [.ptr (gr f b) 0])/\(∃v:SV,v.at f (gr f b))/\0<=i/\i<(jm f (gr f b)).z.l.bE.length,.v (.bool (decide (lV (jm f (gr f b)).z ((jm f (gr f b)).z.l.bE.getD i.toNat default)))),f⟩
 |_,f=>⟨False,.undef,f⟩
def k108_eq{v:SV}{f:bq}{b p:Nat}{i:Int}(hb:f b=some (.box [.ptr p 0]))(hv:v.at f p):P7 [.v (ti i),.ptr b 0] f=⟨0<=i/\i<v.z.l.bE.length,.v (.bool (decide (lV v.z (v.z.l.bE.getD i.toNat default)))),f⟩:=by
 have hx:∃v:SV,v.at f p:=⟨v,hv⟩;have hd:gr f b=p:=by simp[gr,hb]
 simp only[P7,hd,io hv,hx,hb,true_and]
def k108_ok:∀args ab,(P7 args ab).ok->(∀N,(∀r,N<=r->ab r=none)->aR aj 141 args ab (P7 args ab))/\∀r,ab r=none->(P7 args ab).ab r=none:=by
 intro args ab h;unfold P7 at h⊢;split at h
 ·rename_i i b;obtain⟨hb,⟨v,hv⟩,i0,i1⟩:=h;rw[io hv]at i1⊢;obtain⟨i,rfl⟩:=Zae i0;exact⟨λN hN=>aR.of (t108 hN hb hv (by omega)) rfl rfl,λr hr=>hr⟩
 ·exact h.elim
def ok108{l:List (Nat×DM.Spec)}(h:ay aj (bu l)):ay aj (bu ((141,eS P7)::l)):=ay.gS h k108_ok
def jn(z:eY):Nat:=z.l.bE.findIdx λa=>decide (lV z a)
def mono(z:eY):Prop:=∀i j:Nat,i<=j->j<z.l.bE.length->lV z (z.l.bE.getD i default)->lV z (z.l.bE.getD j default)
def loI_eq{z:eY}{k:Nat}(hk:k<=z.l.bE.length)(h1:∀i,i<k->¬lV z (z.l.bE.getD i default))(h2:k<z.l.bE.length->lV z (z.l.bE.getD k default)):jn z=k:=by
 unfold jn;by_cases hl:k<z.l.bE.length
 ·rw[List.findIdx_eq hl];refine⟨?_,λj hj=>?_⟩
  ·have:=h2 hl;simpa [List.getD,hl]using this
  ·have J3:j<z.l.bE.length:=by omega
   have:=h1 j hj;simpa [List.getD,J3]using this
 ·obtain rfl:k=z.l.bE.length:=by omega
  rw[List.findIdx_eq_length];intro x hx;obtain⟨i,hi,rfl⟩:=ZaO hx;have:=h1 i hi;simpa [List.getD,hi]using this
def t107{f0:bq}{b p N:Nat}{v:SV}(hN:∀r,N<=r->f0 r=none)(hb:f0 b=some (.box [.ptr p 0]))(hv:v.at f0 p)(hm:mono v.z)(hl:v.z.l.bE.length<=1000000000):
  aR aj 140 [.v (ti v.z.l.bE.length),.nG (.func 141) [.ptr b 0]] f0 ⟨True,.v (ti (jn v.z)),f0⟩:=by
 obtain⟨n,hn⟩:=bb v.z.l.bE.length;rw[hn]at hl⊢;have aC:=ok108 ay.nil;refine c107.pQ hN (by simp) λaT=>?_;have UN:b<N:=(aT b _ hb).1;have k1:=λi=>k108_eq (i:=i) hb hv;simp;apply aa.ch aC fw [0,1];simp[ZQ];apply aa.ch aC fw [1,5,6];simp[ZR];apply aa.seq;apply aa.block;refine aa.loop (λq:Nat×Nat=>⟨DM.look [(1,.nG (.func 141) [.ptr b 0]),(5,.v (ti q.1)),(6,.v (ti q.2))],aM [] f0,N+1000,N,[]⟩)
  (λq=>q.1<=q.2/\q.2<=n/\(∀i,i<q.1->¬lV v.z (v.z.l.bE.getD i default))/\(∀i,q.2<=i->i<n->lV v.z (v.z.l.bE.getD i default))) (λq=>q.2-q.1) (0,n) (kO aT (by omega) (by simp) ?_) ⟨by simp,by simp,λi hi=>by simp at hi,λi h1 h2=>by simp at h1;omega⟩ (λq hq=>?_)
 ·simp[hb]
 obtain⟨lo,hi⟩:=q;obtain⟨q1,q2,q3,q4⟩:=hq;simp only at q1 q2 q3 q4;apply aa.seq;apply aa.ch aC fw [1,5,6,11];simp[ZS];refine aa.cond rfl (λg=>?_) (λg=>?_)
 ·have g:lo<hi:=by simpa using g
  have w1:IntKind.i64.wrap ((lo:Int)+hi)=(lo:Int)+hi:=aF (by omega);obtain⟨md,hmd⟩:=bb ((lo+hi)/2);apply aa.skip;simp;apply aa.block;apply aa.ch aC fw [1,5,6,7];have hu:IntKind.u64.wrap ((lo:Int)+hi)=(lo:Int)+hi:=by
   unfold IntKind.wrap;simp[IntKind.signed,IntKind.bits];omega
  have w2:IntKind.i64.wrap (IntKind.u64.wrap ((lo:Int)+hi)/2^min 1 IntKind.u64.bits)=md:=by
   rw[hu,show min 1 IntKind.u64.bits=1 from rfl,aF (by omega)];omega
  have hmd2:lo<=md/\md<hi:=by omega
  simp[ZT,w1,w2];obtain⟨c1,bU⟩:=bb (decide (lV v.z (v.z.l.bE.getD md default)):Bool);have gI:=k1 md;simp only[Zag,bU]at gI;have hmn:md<v.z.l.bE.length:=by omega
  apply aa.ch aC fw [1,5,6,7,21];rw[show aM [] f0=f0 from rfl];simp[ZU,gI,hmn];refine aa.cond rfl (λg2=>?_) (λg2=>?_)
  ·have g2:c1=false:=by simpa using g2
   subst g2;have h3:=Zay bU;have w3:IntKind.i64.wrap ((md:Int)+1)=((md+1:Nat):Int):=by rw[aF (by omega)];omega
   apply aa.fK aC fw [1,5,6];simp[ZV,w3];refine⟨md+1,hi,kO (L:=[]) aT (by omega) (by simp) ?_,⟨by omega,by omega,λi hi3 hp=>h3 (hm i md (by omega) hmn (by simpa using hp)),λi h4 h5=>by simpa using q4 i h4 h5⟩,by omega⟩;simp[hb]
  ·have g2:c1=true:=by simpa using g2
   subst g2;have h3:=Zat bU;apply aa.fK aC fw [1,5,6];simp[ZW];refine⟨lo,md,kO (L:=[]) aT (by omega) (by simp) ?_,⟨by omega,by omega,λi hi3=>by simpa using q3 i hi3,λi h4 h5=>by simpa using hm md i h4 (by omega) h3⟩,by omega⟩;simp[hb]
 ·have g:¬lo<hi:=by simpa using g
  have he:lo=hi:=by omega
  subst he;have hL:jn v.z=lo:=loI_eq (by omega) q3 λh=>q4 lo (Zaf _) (by omega);apply aa.exit;simp;apply aa.ch aC fw [4];simp[ZX,hL];apply aa.ret;simp[Rg];rfl
end cC
end Go.Proofs
