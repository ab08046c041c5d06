/- Part of the proof. Conditions: none. -/
import Derived.Test.YtnhpkhblghgpdaaGreatDoorXal
import Derived.Deep.Strs
import Derived.Lib.LaidTab
set_option linter.unusedSectionVars false
set_option linter.unusedSimpArgs false
set_option linter.unusedVariables false
set_option linter.defProp false
set_option maxRecDepth 100000
set_option maxHeartbeats 40000000
namespace Go.Proofs
namespace cC
namespace Jb
open Go.DM
def n0:aD:=⟨1,1,0,[⟨2,0,0,0,2,0⟩]⟩
def x0:Input:=⟨[⟨0,[0],3⟩],[4],0⟩
def n0_new:zF n0 x0:=by decide+kernel
def b0:((nK n0 (ci x0)).getD 2 default).val=⟨2,1⟩:=by decide+kernel
def b0_len:(nK n0 (ci x0)).length=6:=by decide+kernel
def t1021:bl aj 21 [] (.eo [n0.enc,x0.enc]):=by
 refine c1021.ok (by simp) (aO ?_);simp;apply aa.ag cF fw [0,1];simp[Up];apply aa.ag cF fw [0,1];simp[Uq,fU];apply aa.ret;simp[L5,n0,x0,aD.enc,Input.enc,aU,di.enc,cY,cK.enc,aG]
def e0:bq:=λ_=>none
abbrev pT(P R:Nat)(n:aD)(x:Input)(j:JS):bq:=rL e0 P R n (ci x) (pS x) j
def BX{P R:Nat}{n:aD}{x:Input}{j:JS}(h:R<P):dh (pT P R n x j) (P+1):=by
 have hrn:aM [(P,Ob.box (nE n (ci x) (pS x) (.bA R 0) j)),(R,uZ n (ci x) j.pre)] e0 R≠none:=by
  simp only[aP,cm];rw[Zab (by omega)];simp
 refine ll (N:=0) (f:=e0) (λr o h=>by cases h) (by omega) λq hq=>?_;simp only[Zah,Zal,or_false]at hq;rcases hq with rfl|rfl
 ·refine⟨by simp,λm hm=>?_⟩;simp only[nE,aZ,bM,aN,ZaC,ZaG,Zah,Zal,or_false]at hm;rw[hm];exact hrn
 ·exact⟨by simp only;omega,λm hm=>by simp[uZ,aZ]at hm⟩
def qo{P R:Nat}{n:aD}{x:Input}{j:JS}(h:R<P):jat n (ci x) (pS x) j (pT P R n x j) P R:=putJ_at (j:=j) (by omega) j
def JT{P R:Nat}{n:aD}{x:Input}{j:JS}(h:R<P){k:Nat}(hk:P<k):∀q,k<=q->pT P R n x j q=none:=λq hq=>by
 simp only[pT,rL,aP,cm];rw[Zab (by omega),Zab (by omega)];rfl
def MZ(n:aD)(x:Input)(P R:Nat):aM (newO n x P R) e0=pT P R n x J0:=rfl
section
variable{P R:Nat}{n:aD}{x:Input}{j:JS}
def WQ(h:R<P)(j':JS){q:Nat}(hq:pT P R n x j q=none):pT P R n x j' q=none:=by
 have:=WP (j':=j') (qo (n:=n) (x:=x) (j:=j) h) hq
 rwa [show rL (pT P R n x j) P R n (ci x) (pS x) j'=pT P R n x j' from Hs]at this
def M7(h:R<P)(I:JIn n (ci x) (pS x))(hj:j.ok (pS x))(k:Int):ay aj (bu [(17,eS (k1 [.ptr P 0,.v (ti k)] (pT P R n x j) (.v (ti (u0 (pS x) j k:Nat))) (pT P R n x (j.iter (pS x) (u0 (pS x) j k)))))]):=
 Hd ay.nil (λM hM=>by
  have:=t1017a (k:=k) hM I hj (qo h)
  rwa [show rL (pT P R n x j) P R n (ci x) (pS x) (j.iter (pS x) (u0 (pS x) j k))=pT P R n x (j.iter (pS x) (u0 (pS x) j k))from Hs]at this) (λq hq=>WQ h _ hq)
def UZ(h:R<P):ay aj (bu [(18,eS (k1 [.ptr P 0] (pT P R n x j) (.v (ti (j.left (pS x)))) (pT P R n x j)))]):=
 Hd ay.nil (λM hM=>t1018 hM (qo h).box) (λq hq=>hq)
def PW(h:R<P)(hc:j.FO=true\/0<j.left (pS x)):ay aj (bu [(19,eS (k1 [.ptr P 0] (pT P R n x j) (.v (.eo [.agg [ti 0,ti 0,.sl []],ti (if j.FO=true then 12 else 15)])) (pT P R n x j)))]):=
 Hd ay.nil (λM hM=>t1019e hM (qo h).box hc) (λq hq=>hq)
def PX(h:R<P)(h1:j.FO=false)(h2:j.left (pS x)=0):ay aj (bu [(19,eS (k1 [.ptr P 0] (pT P R n x j) (.eo [.agg [.v (ti n.an),.v (ti (ci x).bn),.bA R 0],.v (ti 0)]) (pT P R n x j)))]):=
 Hd ay.nil (λM hM=>t1019d hM (qo h) h1 h2) (λq hq=>hq)
end
def t1008:bl aj 8 [] (.bool true):=by
 have hJ:=n0_new.jin (by decide);have hS:pS x0=3:=rfl;have hj0:J0.ok 3:=J0_ok (by omega);have xN:J0.left 3=6:=by decide+kernel
 have aC:ay aj (bu [(21,cT (λts=>ts=[]) (λ_=>.eo [n0.enc,x0.enc]) false)]):=by
  refine ay.cons ay.nil ?_;rintro ts rfl;exact⟨t1021,λh=>by cases h⟩
 have bT:n0.enc=.agg [ti 1,ti 1,ti 0,.sl (aU n0.au)]:=rfl;have F5:x0.enc=.agg [.sl (cY x0.aw),.sl (aG x0.insert),ti 0]:=rfl;refine c1008.ok (by simp) (aO ?_);simp;apply aa.ag aC fw [0];simp[TZ];apply aa.ag aC fw [0,1,2];simp[T0,bT,F5];refine aa.le (Le.bi (o:=[]) (l:=[(1,.v (.box [ti 1,ti 1,ti 0,.sl (aU n0.au)])),(2,.v (.box [.sl (cY x0.aw),.sl (aG x0.insert),ti 0]))]) (ba:=1500) ?_ ?_ ?_ ?_) ?_;iterate 4(·simp)
 refine aa.seq (aa.to ⟨DM.look [(3,.ptr 3623 0)],pT 3623 3619 n0 x0 J0,5000,1000,[]⟩ (aa.YK cF (N':=1575+3000) [3] (pre:=[⟨.load 4 true (.tmp 1),(some 15),none,[],none⟩,⟨.load 3 true (.tmp 2),(some 16),none,[],none⟩]) (post:=[⟨.qu (.tmp 17),(some 3),none,[2,2,0,1,2],none⟩]) (rs:=T1) rfl ?_) ?_)
 ·simp;refine⟨_,t1012v (n:=n0) (x:=x0) (λq _=>rfl) n0_new (by decide), ?_⟩;rintro val nJ ⟨rfl,rfl⟩;exact eO (MZ n0 x0 3623 3619) (JT (by omega) (by omega)) (by simp)
 have WL:3619<3623:=by omega
 have aT:=λj=>BX (n:=n0) (x:=x0) (j:=j) WL;have rQ:=λj=>JT (n:=n0) (x:=x0) (j:=j) WL (k:=5000) (by omega);have s1:u0 (pS x0) J0 4=4:=by unfold u0;rw[Zab (by simp[J0]),hS,xN];rfl
 obtain⟨ha1,ha2,ha3⟩:=hj0.iter 4 (by omega);obtain⟨tV,fH,HL⟩:=hj0.iter 6 (by omega);have hab:(J0.iter 3 4).iter 3 2=J0.iter 3 6:=M4 3 J0 4 2;obtain⟨Ja,hJa⟩:=bb (J0.iter 3 4);obtain⟨Jc,hJc⟩:=bb (J0.iter 3 6);rw[hJa]at ha1 ha2 ha3 hab;rw[hJc]at tV fH HL hab;have ha2:Ja.left (pS x0)=2:=by rw[hS];omega
 have fH:Jc.left (pS x0)=0:=by rw[hS];omega
 have ha3:Ja.FO=false:=ha3;have HL:Jc.FO=false:=HL;have s2:u0 (pS x0) Ja 9=2:=by unfold u0;rw[Zab (by simp[ha3]),ha2];rfl
 have e1:=M7 WL hJ (j:=J0) (k:=4) hj0;rw[s1,hS,hJa]at e1;have e2:=PW (n:=n0) (x:=x0) WL (j:=Ja) (.inr (by omega));rw[ha3]at e2;have e3:=UZ (n:=n0) (x:=x0) WL (j:=Ja);rw[ha2]at e3;have e4:=M7 WL hJ (j:=Ja) (k:=9) (by rw[hS];exact ha1);rw[s2,hS,hab]at e4;have e5:=PX (n:=n0) (x:=x0) WL (j:=Jc) HL fH;simp;apply aa.seq;apply aa.ag cF fw [3,19];simp[T2];refine aa.cond rfl (λg=>by simp at g) (λ_=>?_);apply aa.skip;simp;apply aa.cX e1 fw (rs:=EZ) rfl (by kernel_rfl) [3,4];simp[EZ];refine aa.le (eO (l:=[(3,.ptr 3623 0),(4,.v (ti 4))]) (ba:=5000) rfl (rQ _) (by simp)) ?_;apply aa.cX e2 fw (rs:=E0) rfl (by kernel_rfl) [3,4,5,6];simp[E0];refine aa.le (Kn.le_fr (L:=[(5006,.box [.v (ti 0),.v (ti 0),.v (.sl [])]),(5006,.box [.v (ti 0),.v (ti 0),.aW])]) (l:=[(3,.ptr 3623 0),(4,.v (ti 4)),(6,.v (ti 15))]) (ba:=5000) (aT Ja) (by omega) (by simp) (by omega) ?_) ?_
 ·have:=(qo (n:=n0) (x:=x0) (j:=Ja) WL).box;simp[this]
 apply aa.cX e3 fw (rs:=E3) rfl (by kernel_rfl) [3,4,6,7];simp[E3];refine aa.le (eO (l:=[(3,.ptr 3623 0),(4,.v (ti 4)),(6,.v (ti 15)),(7,.v (ti 2))]) (ba:=5000) rfl (rQ _) (by simp)) ?_;apply aa.cX e4 fw (rs:=E4) rfl (by kernel_rfl) [3,4,6,7,8];simp[E4];refine aa.le (eO (l:=[(3,.ptr 3623 0),(4,.v (ti 4)),(6,.v (ti 15)),(7,.v (ti 2)),(8,.v (ti 2))]) (ba:=5000) rfl (rQ _) (by simp)) ?_;apply aa.cX e5 fw (rs:=E5) rfl (by kernel_rfl) [4,6,7,8,9,10];simp[E5];have tB:Jc.pre=PQ 3:=tV.done (by rw[<-hS];exact fH);have B6:=(qo (n:=n0) (x:=x0) (j:=Jc) WL).arr;rw[show uZ n0 (ci x0) Jc.pre=.arr 0 65 4 (cu (nK n0 (ci x0)))by rw[tB];unfold uZ;rw[PT (S:=3) rfl]]at B6;obtain⟨B,hB⟩:=bb (nK n0 (ci x0));have hB6:=b0_len;have hB2:=b0;rw[hB]at B6 hB6 hB2;have hrow:=BO (l:=B) (y:=2) (by omega);obtain⟨⟨ca,cb,cc,cd⟩,gI⟩:=bb (B.getD 2 default);rw[gI]at hrow hB2;simp only[Cell.val,c8.mk.injEq]at hB2;obtain⟨rfl,rfl⟩:=hB2;have hcl6:(cu B).length=6:=by simp[cu,hB6]
 refine aa.le (eO (nJ:=aM [(5010,.box [.v (ti 1),.v (ti 3),.bA 3619 0]),(5010,.box [.v (ti 0),.v (ti 0),.aW])] (pT 3623 3619 n0 x0 Jc)) (l:=[(4,.v (ti 4)),(6,.v (ti 15)),(7,.v (ti 2)),(8,.v (ti 2)),(9,.ptr 5010 0),(10,.v (ti 0))]) (ba:=5075) rfl (λq hq=>by
  rw[aP,Zab (by omega),aP,Zab (by omega)];exact rQ Jc q (by omega)) (by simp)) ?_
 refine aa.cz cF fw [(0,.v (.bool true))] ?_ ?_
 ·have hrow:DM.rowAt (cu B) 2=_:=hrow;simp[LW,B6,hcl6,hrow,Cell.enc]
 apply aa.ret;simp[LX]
def t1019n:bl aj 19 [.mg (Go.Value.pointer Option.none)] (.eo [.agg [ti 0,ti 0,.sl []],ti 15]):=by
 refine aau.ok (by simp) (aO ?_);simp;apply aa.ag cF fw [0,2,3];simp[CK];apply aa.seq;apply aa.block;apply aa.ag cF fw [0,2,3,4];simp[CL];refine aa.cond rfl (λ_=>?_) (λg=>by simp at g);apply aa.ag cF fw [2,3];simp[Ul];apply aa.ret;simp[q9]
def ta.b7{n:aD}{x:Input}(h:ta n x):x.insert.length<=6/\x.aw.length<=4:=by
 have:=h.2.1;omega
def okLaw(n:aD)(x:Input)(h1:n.au.length<=9223372036854775807)(h2:x.insert.length<=9223372036854775807){b:Bool}(hb:decide (ta n x)=b):
  ay aj (bu [(10,cT (λts=>ts=[n.enc,x.enc]) (λ_=>.bool b) true),(9,cT (λts=>ts=[n.enc,x.enc]) (λ_=>uX n x) false),(8,cT (λts=>ts=[]) (λ_=>.bool true) true)]):=by
 refine ay.cons (ay.cons (ay.cons ay.nil ?_) ?_) ?_
 ·rintro ts rfl;exact⟨t1008,λ_=>rfl⟩
 ·rintro ts rfl;exact⟨t1009 n x h1 h2,λh=>by cases h⟩
 ·rintro ts rfl;rw[<-hb];exact⟨t1010 n x,λ_=>rfl⟩
def refNew_t{n:aD}{x:Input}(h:zF n x):uX n x=.eo [RJ.enc ⟨n,x,((pS x*(pS x+1)/2:Nat):Int),0,false⟩,.bool true]:=by
 unfold uX;rw[Zai ((UX n x).2 h)]
def refNew_f{n:aD}{x:Input}(h:¬zF n x):uX n x=.eo [UY,.bool false]:=by
 unfold uX;rw[Zab (λe=>h ((UX n x).1 e))]
def t1007(n:aD)(x:Input)(k:Int)(h1:n.au.length<=9223372036854775807)(h2:x.insert.length<=9223372036854775807):bl aj 7 [n.enc,x.enc,ti k] (.bool true):=by
 obtain⟨b,hb⟩:=bb (decide (ta n x));have aC:=okLaw n x h1 h2 hb;obtain⟨nt,ht⟩:=bb n.aL;have bT:n.enc=.agg [ti n.aL,ti n.an,ti n.start,.sl (aU n.au)]:=rfl;have F5:x.enc=.agg [.sl (cY x.aw),.sl (aG x.insert),ti x.swap]:=rfl;rw[bT,F5]at aC;refine c1007.ok (by simp) (aO ?_);simp[bT,F5];apply aa.ag aC fw [2,3,4,6];simp[TU];refine aa.le (Le.bi (o:=[]) (l:=[(2,.v (ti k)),(3,.v (.box [ti n.aL,ti n.an,ti n.start,.sl (aU n.au)])),(4,.v (.box [.sl (cY x.aw),.sl (aG x.insert),ti x.swap]))]) (ba:=1200) ?_ ?_ ?_ ?_) ?_;iterate 4(·simp)
 apply aa.seq;apply aa.ag aC fw [2,3,4,13];simp[TV];refine aa.cond rfl (λg=>by simp at g) (λ_=>?_);apply aa.skip;simp;apply aa.seq;apply aa.ag aC fw [2,3,4,17];simp[TW];refine aa.cond rfl (λg=>?_) (λg=>?_)
 ·apply aa.ag aC fw [6];simp[TX];apply aa.ret;simp[yZ]
 have g:b=true:=by simpa using g
 rw[g]at hb;have hs:=Zat hb;have h6:=hs.b7.1;apply aa.skip;simp;refine aa.le (Le.same (l:=[(2,.v (ti k)),(3,.v (.box [ti n.aL,ti n.an,ti n.start,.sl (aU n.au)])),(4,.v (.box [.sl (cY x.aw),.sl (aG x.insert),ti x.swap]))]) (ba:=1500) (λq _=>rfl) (by simp)) ?_;by_cases hp:zF n x
 ·have hJ:=hp.jin (by omega);have hj0:J0.ok (pS x):=J0_ok hJ.tF;have xN:0<J0.left (pS x):=by
   have:=hj0.total;have h3:=JR (pS x);have h4:0<pS x*(pS x+1):=Nat.mul_pos (by simp only[pS];omega) (by omega);have h5:J0.pre.length=0:=rfl;omega
  rw[refNew_t hp]at aC;simp only[RJ.enc,RJ.cells]at aC;have WL:(3608:Nat)<3612:=by omega
  refine aa.seq (aa.to ⟨DM.look [(2,.v (ti k)),(3,.v (.box [ti n.aL,ti n.an,ti n.start,.sl (aU n.au)])),(4,.v (.box [.sl (cY x.aw),.sl (aG x.insert),ti x.swap])),(7,.ptr 3612 0)],pT 3612 3608 n x J0,5000,1000,[]⟩ (aa.YK cF (N':=1564+3000) [2,3,4,7] (pre:=[⟨.load 4 true (.tmp 3),(some 18),none,[],none⟩,⟨.load 3 true (.tmp 4),(some 19),none,[],none⟩]) (post:=[⟨.qu (.tmp 20),(some 7),none,[2,2,0,1,2],none⟩]) (rs:=I1) rfl ?_) ?_)
  ·simp;refine⟨_,t1012v (n:=n) (x:=x) (λq _=>rfl) hp (by omega), ?_⟩;rintro val nJ ⟨rfl,rfl⟩;exact eO (MZ n x 3612 3608) (JT (by omega) (by omega)) (by simp)
  simp;have dP:=(qo (n:=n) (x:=x) (j:=J0) WL).box;apply aa.seq;apply aa.ag aC fw [2,3,4,7,9];simp[I2];refine aa.le (Kn.le_fr (L:=[(5009,.box [.v (ti n.aL),.v (ti n.an),.v (ti n.start),.v (.sl (aU n.au)),.v (.sl (cY x.aw)),.v (.sl (aG x.insert)),.v (ti x.swap),.v (ti ((pS x*(pS x+1)/2:Nat):Int)),.v (ti 0),.v (.bool false)]),(5009,.box [.v (ti 0),.v (ti 0),.v (ti 0),.aW,.aW,.aW,.v (ti 0),.v (ti 0),.v (ti 0),.v (.bool false)])]) (l:=[(7,.ptr 3612 0),(9,.v (.bool true))]) (ba:=5000) (BX (n:=n) (x:=x) (j:=J0) WL) (by omega) (by simp) (by omega) ?_) ?_
  ·simp[dP]
  apply aa.ag cF fw [7,27];simp[I3];refine aa.cond rfl (λ_=>?_) (λg=>by simp at g);have e:=UZ (n:=n) (x:=x) WL (j:=J0);apply aa.cX e fw (rs:=EY) rfl (by kernel_rfl) [6];simp[EY,xN];apply aa.ret;simp[yZ]
 ·rw[refNew_f hp]at aC;refine aa.seq (aa.to ⟨DM.look [(2,.v (ti k)),(3,.v (.box [ti n.aL,ti n.an,ti n.start,.sl (aU n.au)])),(4,.v (.box [.sl (cY x.aw),.sl (aG x.insert),ti x.swap])),(7,nilP)],cM [],5000,1000,[]⟩ (aa.YK cF (N':=1564+3000) [2,3,4,7] (pre:=[⟨.load 4 true (.tmp 3),(some 18),none,[],none⟩,⟨.load 3 true (.tmp 4),(some 19),none,[],none⟩]) (post:=[⟨.qu (.tmp 20),(some 7),none,[2,2,0,1,2],none⟩]) (rs:=I1) rfl ?_) ?_)
  ·simp;refine⟨_,t1012n (n:=n) (x:=x) (λq _=>rfl) hp (by omega), ?_⟩;rintro val nJ ⟨rfl,rfl⟩;exact eO rfl (λq _=>rfl) (by simp)
  simp;have hΓ2:ay aj (bu [(19,cT (λts=>ts=[.mg (Go.Value.pointer Option.none)]) (λ_=>.eo [.agg [ti 0,ti 0,.sl []],ti 15]) false),(18,cT (λts=>ts=[.mg (Go.Value.pointer Option.none)]) (λ_=>ti 0) true),(17,cT (λts=>ts=[.mg (Go.Value.pointer Option.none),ti k]) (λ_=>ti 0) true),(14,cT (λts=>ts=[.mg (Go.Value.pointer Option.none)]) (λ_=>.eo []) true)]):=by
   refine ay.cons (ay.cons (ay.cons (ay.cons ay.nil ?_) ?_) ?_) ?_
   ·rintro ts rfl;exact⟨t1014n,λ_=>rfl⟩
   ·rintro ts rfl;exact⟨t1017n k,λ_=>rfl⟩
   ·rintro ts rfl;exact⟨t1018n,λ_=>rfl⟩
   ·rintro ts rfl;exact⟨t1019n,λh=>by cases h⟩
  apply aa.seq;apply aa.ag aC fw [2,7,9];simp[I2];apply aa.ag cF fw [2,7,27];simp[I3];refine aa.cond rfl (λg=>by simp at g) (λ_=>?_);apply aa.skip;simp;apply aa.seq;apply aa.ag cF fw [2,7,36];simp[TY];refine aa.cond rfl (λg=>by simp at g) (λ_=>?_);apply aa.skip;simp;apply aa.ag hΓ2 fw [2,7];simp[LR];apply aa.ag hΓ2 fw [2,7,10,11];simp[LS];apply aa.ag hΓ2 fw [6];simp[LU];apply aa.ret;simp[yZ]
end Jb
open Go.DM Go.ChangeShapes Go.Deep
section
variable{W:World}
def ruleTy:Ty:=.seq [.int .i64,.int .i64,.int .i64,.int .i64,.int .i64,.int .i64]
def F1:Ty:=.seq [.int .i64,.int .i64,.int .i64,.slice ruleTy]
def rule_of{ts:aK}(h:ruleTy.pO ts):∃r:di,ts=r.enc:=by
 obtain⟨_,_,rfl,h1,h⟩:=all_cons (seq_of h);obtain⟨_,_,rfl,h2,h⟩:=all_cons h;obtain⟨_,_,rfl,h3,h⟩:=all_cons h;obtain⟨_,_,rfl,h4,h⟩:=all_cons h;obtain⟨_,_,rfl,h5,h⟩:=all_cons h;obtain⟨_,_,rfl,h6,h⟩:=all_cons h;obtain rfl:=CR h;obtain⟨a,rfl⟩:=lT h1;obtain⟨b,rfl⟩:=lT h2;obtain⟨c,rfl⟩:=lT h3;obtain⟨d,rfl⟩:=lT h4;obtain⟨e,rfl⟩:=lT h5;obtain⟨f,rfl⟩:=lT h6;exact⟨⟨a,b,c,d,e,f⟩,rfl⟩
def W7{x:T}(h:F1.arg x):∃z:aD,x=z.enc/\z.au.length<=9223372036854775807:=by
 unfold F1 Ty.arg at h;obtain⟨ts,rfl,h⟩:=h;obtain⟨_,_,rfl,n1,h1⟩:=all_cons h;obtain⟨_,_,rfl,n2,h1⟩:=all_cons h1;obtain⟨_,_,rfl,n3,h1⟩:=all_cons h1;obtain⟨_,_,rfl,n4,h1⟩:=all_cons h1;obtain rfl:=CR h1;obtain⟨nt,rfl⟩:=lT n1;obtain⟨nn,rfl⟩:=lT n2;obtain⟨ns,rfl⟩:=lT n3;obtain⟨au,rfl,hr⟩:=zg (λr=>rule_of) n4;exact⟨⟨nt,nn,ns,au⟩,rfl,hr⟩
def i64_of{x:T}(h:(Ty.int .i64).arg x):∃n:Int,x=ti n/\IntKind.i64.min<=n/\n<=IntKind.i64.max:=by
 unfold Ty.arg at h;obtain⟨n,hx,hw⟩:=h;simp only[Za1,and_true]at hx;subst hx;simp only[Lit.wf,Zam,Zau]at hw;exact⟨n,rfl,hw.1,hw.2⟩
abbrev Vd:List (String×DataW Unit):=[("emendate/chart.none",.agg [.agg [.lit (.int .i64 1099511627776),.lit (.int .i64 0)],.lit (.int .i64 (-1)),.lit (.int .i64 0)])]
def gNone:aj.globalNamed "emendate/chart.none" =some 0:=by kernel_rfl
def tNone:(aj.globals[0]?).map (·.type)=some 65:=by kernel_rfl
def uCell:aj.underlying 65=some (.struct #[⟨"Value",63,0,false, "", "",0⟩,⟨"Rule",3,2,false, "", "",16⟩,⟨"Arg",3,3,false, "", "",24⟩]):=by kernel_rfl
def uVal:aj.underlying 63=some (.struct #[⟨"Cost",3,0,false, "", "",0⟩,⟨"Size",3,1,false, "", "",8⟩]):=by kernel_rfl
def uInt:aj.underlying 3=some (.int .i64):=by kernel_rfl
def cells65:aj.cellsOf 65=4:=by kernel_rfl
def cells63:aj.cellsOf 63=2:=by kernel_rfl
def cells3:aj.cellsOf 3=1:=by kernel_rfl
def cs4{cs:List Value}(h:cs.length=4):∃a b c d,cs=[a,b,c,d]:=by
 match cs,h with
 |[a,b,c,d],_=>exact⟨a,b,c,d,rfl⟩
def of_laid(h:laidMet aj Vd W):W.cell? ⟨0,0,none⟩=some (.int .i64 1099511627776)/\W.cell? ⟨0,1,none⟩=some (.int .i64 0)/\W.cell? ⟨0,2,none⟩=some (.int .i64 (-1))/\W.cell? ⟨0,3,none⟩=some (.int .i64 0):=by
 obtain⟨ps,⟨g,t,cs,fuel,p,q,hg,ht,hv,hd,_,_⟩,_⟩:=h;obtain rfl:=ZbU (gNone.symm.trans hg);obtain rfl:=ZbU (tNone.symm.trans ht);obtain⟨y0,y1,y2,n,ex,hl,e0,e1,e2⟩:=trod_struct3 uCell hd;rw[cells65]at hl;obtain⟨v0,v1,v2,v3,oj⟩:=cs4 hl;rw[oj]at e0 e1 e2;obtain⟨z0,z1,m,ey,Bl,f0,f1⟩:=trod_struct2 uVal e0;simp only[cells63,cells3,Zcn,Zcf,List.take_zero,List.drop_succ_cons]at e1 e2 f0 f1;obtain⟨i1,r1,rfl,_⟩:=DataW.trod_int uInt e1;obtain⟨i2,r2,rfl,_⟩:=DataW.trod_int uInt e2;obtain⟨i3,r3,rfl,_⟩:=DataW.trod_int uInt f0;obtain⟨i4,r4,rfl,_⟩:=DataW.trod_int uInt f1;subst ey;have ex:=(congrArg Prod.fst ex).symm;simp only[DataW.agg.injEq,Za1,DataW.lit.injEq,Lit.int.injEq,and_true,true_and,Za1]at ex r1 r2 r3 r4;obtain⟨⟨rfl,rfl⟩,rfl,rfl⟩:=ex;subst r1 r2 r3 r4;have hc:cs= #[.int .i64 1099511627776,.int .i64 0,.int .i64 (-1),.int .i64 0]:=by
  apply Array.toList_inj.1;rw[oj]
 subst hc;exact⟨World.var?_cell hg hv 0,World.var?_cell hg hv 1,World.var?_cell hg hv 2,World.var?_cell hg hv 3⟩
def laidOk(h:laidMet aj Vd W):F2 W λ_=>False:=by
 obtain⟨h0,h1,h2,h3⟩:=of_laid h;intro p hp;obtain rfl:p=_:=Zan.1 hp;refine⟨(QJ h0).1,λx=>x, ?_⟩;simp only[ed,bj,and_true,Zbi,Nat.reduceAdd];exact⟨⟨_,h0,rfl,rfl⟩,⟨_,h1,rfl,rfl⟩,⟨_,h2,rfl,rfl⟩,⟨_,h3,rfl,rfl⟩⟩
end
end cC
end Go.Proofs
