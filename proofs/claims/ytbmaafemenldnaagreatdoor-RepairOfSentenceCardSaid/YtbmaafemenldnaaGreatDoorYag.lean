/- Part. Conditions: none. -/
import Derived.Test.YtbmaafemenldnaaGreatDoorYaf
set_option linter.all false
set_option maxRecDepth 20000
set_option maxHeartbeats 8000000
namespace Go.Proofs
namespace aT
open Go.DM
structure eD where
 head:Int
 bY:ba
 (aA l0 l1:Int)
 deriving DecidableEq,Inhabited
def eD.enc(e:eD):aG:=[ti e.head,.sl (au e.bY),ti e.aA,ti e.l0,ti e.l1]
def bV(l:List eD):List (aG):=l.map eD.enc
def Wd:aG->eD
 |[a,.sl b,c,d,e]=>⟨dg a,eM b,dg c,dg d,dg e⟩
 |_=>default
def Dl(l:List (aG)):List eD:=l.map Wd
@[simp] def Su(r:eD):Wd r.enc=r:=by simp[Wd,eD.enc,dg]
@[simp] def agO(l:List eD):Dl (bV l)=l:=ja Su l
@[simp] def aep(l:List eD):(bV l).length=l.length:=by simp[bV]
@[simp] def aeq{a b:List eD}:bV a=bV b↔a=b:=⟨λh=>by have:=congrArg Dl h;simpa using this,λh=>by rw[h]⟩
def oj{l:List eD}{y:Nat}(h:y<l.length):DM.rowAt (bV l) y=(l.getD y default).enc:=by simp[DM.rowAt,bV,h]
def mh(r:bC):ba:=if r.kind=3 then [r.a]else if r.kind=4 then [r.a,r.b]else []
def t93(r:bC):aJ ak 186 [.agg r.enc] (.sl (au (mh r))):=by
 obtain⟨rk,rh,ra,rb,rp,rg⟩:=r;obtain⟨R,hR⟩:=aY (mh ⟨rk,rh,ra,rb,rp,rg⟩);rw[hR];simp only[mh]at hR;have bb:=J2;refine c93.ok (by simp) (aH ?_);simp[bC.enc];apply aa.ai bb fw [1];simp[am4];refine aa.lk (o:=[]) (l:=[(1,.v (.box [ti rk,ti rh,ti ra,ti rb,ti rp,ti rg]))]) (bn:=1200) (by simp) ?_;apply aa.sq bb fw [1,4];simp[am5];apply aa.block;apply aa.ai bb fw [1,4,5];simp[am6];refine aa.cond rfl (λh1=>?_) (λh1=>?_)
 .have h1:rk=3:=by simpa using h1
  rw[ee h1]at hR;subst hR;apply aa.ai bb fw [2];simp[am7,di];apply aa.ret;simp[dI,au]
 .have h1:¬rk=3:=by simpa using h1
  rw[iK h1]at hR;apply aa.ai bb fw [1,10];simp[am8];refine aa.cond rfl (λh2=>?_) (λh2=>?_)
  .have h2:rk=4:=by simpa using h2
   rw[ee h2]at hR;subst hR;apply aa.ai bb fw [2];simp[am9,di];apply aa.ret;simp[dI,au]
  .have h2:¬rk=4:=by simpa using h2
   rw[iK h2]at hR;subst hR;apply aa.skip;simp;apply aa.ai bb fw [2];simp[ana];apply aa.ret;simp[dI,au]
def cJ(v:List cX)(ts:ba):List cX:=ts.map λt=>v.getD t.toNat default
def t91(e:eD)(v:List cX)(h:∀t∈e.bY,0<=t/\t<v.length)(hl:e.bY.length<=1000000):oS ak 128 [.agg e.enc,.sl (cU v)] 64 2 (cU (cJ v e.bY)):=by
 obtain⟨eh,ts,ec,e0,e1⟩:=e;simp only at h hl;have bb:=J2;refine c91.Hc (by simp) (aH ?_);simp[eD.enc];apply aa.ai bb fw [1,2];simp[amN];refine aa.lk (o:=[]) (l:=[(1,.v (.sl (cU v))),(2,.v (.box [ti eh,.sl (au ts),ti ec,ti e0,ti e1]))]) (bn:=1200) (by simp) ?_;apply aa.ai bb fw [1,2,5];simp[amO];refine aa.lk (o:=[]) (l:=[(1,.v (.sl (cU v))),(2,.v (.box [ti eh,.sl (au ts),ti ec,ti e0,ti e1])),(5,.aZ)]) (bn:=1400) (by simp) ?_;refine aa.le (Le.j7 (k:=5) 64 (sz:=2) (by omega) (by simp)) ?_;rw[jY];apply aa.sq bb fw [1,2,5,6];simp[amP];apply aa.block;refine aa.loop (λy:Nat=>⟨DM.look [(1,.v (.sl (cU v))),(2,.v (.box [ti eh,.sl (au ts),ti ec,ti e0,ti e1])),(5,.aW 1400 0),(6,.v (ti y))],cR [(1400,.bm 0 64 2 (cU (cJ v (ts.take y))))],1600,1000,[]⟩)
  (λy=>y<=ts.length) (λy=>ts.length-y) 0 (Le.aL ?_ ?_ ?_ ?_) (by simp) (λy hy=>?_)
 .simp
 .simp
 .simp[cJ]
 .simp
 apply aa.sq bb fw [1,2,5,6,11];simp[amQ];refine aa.cond rfl (λaS=>?_) (λaS=>?_)
 .have aS:y<ts.length:=by simpa using aS
  apply aa.skip;simp;apply aa.seq;apply aa.block;have rt:=bA aS;obtain⟨t,ht⟩:=aY (ts.getD y default);rw[ht]at rt;obtain⟨q1,q2⟩:=h t (by rw[<-ht];exact bu aS);obtain⟨t,rfl⟩:=bX q1;have q2:t<v.length:=by omega
  have rv:=jU q2;obtain⟨w,hw⟩:=aY (v.getD t default);rw[hw]at rv;have hS:cU (cJ v (ts.take (y+1)))=cU (cJ v (ts.take y))++[[ti w.aA,ti w.size]]:=by
   rw[dH aS,ht];simp only[cJ,Lc,vG,Zcg,gN,hw,cU]
  have hTl:(cJ v (ts.take y)).length<=1000000:=by simp[cJ];omega
  apply aa.cZ bb fw [1,2,5,6];simp[amR,aS,rt,q2,rv,cw,di];repeat (refine⟨by omega, ?_⟩)
  apply aa.cZ bb fw [1,2,5,6];simp[amS];rw[av (x:=(y:Int)+1) (by omega)];refine⟨y+1,Le.aL ?_ ?_ ?_ ?_,by omega,by omega⟩
  .simp
  .simp
  .simp[hS]
  .simp
 .have fI:y=ts.length:=by simp at aS;omega
  subst fI;rw[uJ];apply aa.exit;simp;apply aa.ai bb fw [4];simp[amT];apply aa.ret;exact .inr ⟨1400,0,by simp,by simp⟩
def Ht(dm:ba)(i:Nat):Prop:=¬(dm.getD i default<1\/dm.getD i default>60000)
instance(dm:ba)(i:Nat):Decidable (Ht dm i):=by unfold Ht;infer_instance
def gz(n:ay)(dm:ba):Prop:=(dm.length:Int)=n.aX/\∀i,i<dm.length->Ht dm i
instance(n:ay)(dm:ba):Decidable (gz n dm):=by unfold gz;infer_instance
def t44(n:ay)(dm:ba)(hl:dm.length<=9223372036854775807):aJ ak 98 [n.enc,.sl (au dm)] (.bool (decide (gz n dm))):=by
 obtain⟨nt,nn,ns,aj⟩:=n;obtain⟨v,hv⟩:=aY (decide (gz ⟨nt,nn,ns,aj⟩ dm));rw[hv];have dB:gz ⟨nt,nn,ns,aj⟩ dm↔(dm.length:Int)=nt/\∀i,i<dm.length->Ht dm i:=Iff.rfl;have cW:¬gz ⟨nt,nn,ns,aj⟩ dm->v=false:=λh=>by rw[<-hv];simp[h]
 have bb:=J2;refine c44.ok (by simp) (aH ?_);simp[ay.enc];apply aa.ai bb fw [1,2];simp[IL];refine aa.lk (o:=[]) (l:=[(1,.v (.sl (au dm))),(2,.v (.box [ti nt,ti nn,ti ns,.sl (aQ aj)]))]) (bn:=1200) (by simp) ?_;apply aa.sq bb fw [1,10];simp[IN];refine aa.cond rfl (λh1=>?_) (λh1=>?_)
 .have h1:¬(dm.length:Int)=nt:=by simpa using h1
  apply aa.ai bb fw [4];simp[VH];apply aa.ret;rw[cW λh=>h1 (dB.1 h).1];simp[mN]
 .have h1:(dm.length:Int)=nt:=by simpa using h1
  apply aa.skip;simp;apply aa.sq bb fw [1,5];simp[IP];apply aa.block;refine aa.loop (λy:Nat=>⟨DM.look [(1,.v (.sl (au dm))),(5,.v (ti y))],cR [],2000,1000,[]⟩)
   (λy=>y<=dm.length/\∀i,i<y->Ht dm i) (λy=>dm.length-y) 0 (Le.aL (o:=[]) ?_ ?_ ?_ ?_) (by simp) (λy hy=>?_)
  iterate 4(·simp)
  obtain⟨vy,fI⟩:=hy;apply aa.sq bb fw [1,5,14];simp[IQ];refine aa.cond rfl (λaS=>?_) (λaS=>?_)
  .have aS:y<dm.length:=by simpa using aS
   apply aa.skip;simp;apply aa.seq;apply aa.block;have rr:=bA aS;obtain⟨x,hx⟩:=aY (dm.getD y default);rw[hx]at rr;obtain⟨c2,gD⟩:=aY (decide (x<1\/x>60000):Bool);refine aa.bL bb fw [(1,.v (.sl (au dm))),(5,.v (ti y)),(28,.v (.bool c2))] ?_ ?_
   .by_cases q1:x<1
    .have:c2=true:=by rw[<-gD];simp[q1]
     simp[BO,q1,this,aS,rr]
    .skip
     by_cases q2:x>60000
     .have:c2=true:=by rw[<-gD];simp[q2]
      simp[BO,q1,q2,this,aS,rr]
     .skip
      have:c2=false:=by rw[<-gD];simp[q1,q2]
      simp[BO,q1,q2,this,aS,rr]
   refine aa.cond rfl (λh2=>?_) (λh2=>?_)
   .rw[h2]at gD;have gD:=BN gD;apply aa.ai bb fw [4];simp[IR];apply aa.ret;rw[cW λh=>by have:=(dB.1 h).2 y aS;unfold Ht at this;rw[hx]at this;exact this gD];simp[mN]
   .rw[h2]at gD;have gD:=uF gD;apply aa.skip;simp;apply aa.cZ bb fw [1,5];simp[IS];rw[av (x:=(y:Int)+1) (by omega)];refine⟨y+1,Le.aL (o:=[]) ?_ ?_ ?_ ?_,⟨by omega,λi hi=>?_⟩,by omega⟩;iterate 4(·simp)
    .by_cases e:i=y
     .subst e;unfold Ht;rw[hx];exact gD
     .exact fI i (by omega)
  .have El:y=dm.length:=by simp at aS;omega
   subst El;apply aa.exit;simp;apply aa.ai bb fw [4];simp[BP];apply aa.ret;have:v=true:=by rw[<-hv];exact decide_eq_true (dB.2 ⟨h1,fI⟩)
   rw[this];simp[mN]
def lz(dm:ba)(r:bC):eD:=⟨r.head,mh r,if r.kind=2 then r.bi+dm.getD r.a.toNat default else r.bi,0,0⟩
def wE(n:ay)(dm:ba):List eD:=n.aj.map (lz dm)
abbrev s93:DM.Spec:=bp (λts=>∃a b c d e f,ts=[.agg [ti a,ti b,ti c,ti d,ti e,ti f]]) (fun|[.agg r]=>.sl (au (mh (mJ r)))|_=>.bool false) false
def aux:aw ak (bz [(186,s93)]):=by
 refine aw.cons aw.nil ?_;rintro ts ⟨a,b,c,d,e,f,rfl⟩;exact⟨by simpa [bC.enc,mJ,dg]using t93 ⟨a,b,c,d,e,f⟩,λh=>by cases h⟩
def M6(r:bC):(mh r).length<=2:=by unfold mh;split<;>(try split)<;>simp
def t67(n:ay)(dm:ba)(hn:qf n)(hp:gz n dm):aJ ak 142 [n.enc,.sl (au dm)] (.agg [ti n.an,.sl (bV (wE n dm))]):=by
 obtain⟨nt,nn,ns,aj⟩:=n;obtain⟨n1,n2,n3,n4⟩:=hn;obtain⟨p1,p2⟩:=hp;simp only[wE]at n1 n2 n3 n4 p1 p2⊢;have bb:=aux;refine c67.ok (by simp) (aH ?_);simp[ay.enc];apply aa.ai bb fw [1,2,4];simp[anb];refine aa.lk (o:=[(1005,.box [.v (ti 0),.aZ])]) (l:=[(1,.v (.sl (au dm))),(2,.v (.box [ti nt,ti nn,ti ns,.sl (aQ aj)])),(4,.ptr 1005 0)]) (bn:=1200) (by simp) ?_;apply aa.ai bb fw [1,2,4,5];simp[anc];refine aa.lk (o:=[(1005,.box [.v (ti 0),.aZ])]) (l:=[(1,.v (.sl (au dm))),(2,.v (.box [ti nt,ti nn,ti ns,.sl (aQ aj)])),(4,.ptr 1005 0),(5,.aZ)]) (bn:=1400) (by simp) ?_;refine aa.le (Le.j7 (k:=5) 125 (sz:=5) (by omega) (by simp)) ?_;rw[jY];apply aa.sq bb fw [1,2,4,5,6];simp[ane];apply aa.block;refine aa.loop (λy:Nat=>⟨DM.look [(1,.v (.sl (au dm))),(2,.v (.box [ti nt,ti nn,ti ns,.sl (aQ aj)])),(4,.ptr 1005 0),(5,.aW 1400 0),(6,.v (ti y))],cR [(1005,.box [.v (ti 0),.aZ]),(1400,.bm 0 125 5 (bV ((aj.take y).map (lz dm))))],1600,1000,[]⟩)
  (λy=>y<=aj.length) (λy=>aj.length-y) 0 (Le.aL ?_ ?_ ?_ ?_) (by simp) (λy hy=>?_)
 .simp
 .simp
 .simp[bV]
 .simp
 apply aa.sq bb fw [1,2,4,5,6,13];simp[anf];refine aa.cond rfl (λaS=>?_) (λaS=>?_)
 .have aS:y<aj.length:=by simpa using aS
  apply aa.skip;simp;apply aa.seq;apply aa.block;have rr:=fE aS;obtain⟨⟨rk,rh,ra,rb,rp,rg⟩,hr⟩:=aY (aj.getD y default);rw[hr]at rr;have th:=n4 ⟨rk,rh,ra,rb,rp,rg⟩ (by rw[<-hr];exact bu aS);obtain⟨q1,q2,q3,q4,q5⟩:=th;simp only at q1 q2 q3 q4 q5;apply aa.ai bb fw [1,2,4,5,6,7];simp[ang,aS,rr,bC.enc];refine aa.lk (o:=[(1005,.box [.v (ti 0),.aZ]),(1400,.bm 0 125 5 (bV ((aj.take y).map (lz dm))))]) (l:=[(1,.v (.sl (au dm))),(2,.v (.box [ti nt,ti nn,ti ns,.sl (aQ aj)])),(4,.ptr 1005 0),(5,.aW 1400 0),(6,.v (ti y)),(7,.v (.box [ti rk,ti rh,ti ra,ti rb,ti rp,ti rg]))]) (bn:=2400) (by simp) ?_;apply aa.ai bb fw [1,2,4,5,6,7,8];simp[anh];apply aa.sq bb fw [1,2,4,5,6,7,8,25];simp[ani];refine aa.cond rfl (λh6=>?_) (λh6=>?_)
  .have h6:rk=2:=by simpa using h6
   have sD:0<=ra/\ra<dm.length:=by omega
   obtain⟨a,rfl⟩:=bX sD.1;have mE:a<dm.length:=by omega
   have ri:=bA mE;have Z6:=p2 a mE;unfold Ht at Z6;obtain⟨x,hx⟩:=aY (dm.getD a default);rw[hx]at ri Z6;have hE:lz dm ⟨rk,rh,a,rb,rp,rg⟩=⟨rh,mh ⟨rk,rh,a,rb,rp,rg⟩,rp+x,0,0⟩:=by unfold lz;simp only[ee h6,gN,hx]
   apply aa.cZ bb fw [1,2,4,5,6,7,8];simp[anj,mE,ri,av (x:=rp+x) (by omega)];apply aa.cZ bb fw [1,2,4,5,6];simp[aej,mJ,dg,di,cw];repeat (refine⟨by omega, ?_⟩)
   have hS:∀ec,lz dm (aj.getD y default)=⟨rh,mh (aj.getD y default),ec,0,0⟩->bV ((aj.map (lz dm)).take (y+1))=bV ((aj.map (lz dm)).take y)++[[ti rh,.sl (au (mh (aj.getD y default))),ti ec,ti 0,ti 0]]:=by
    intro ec h;rw[<-List.map_take,dH aS,Lc,bV,Lc,Zc9];simp only[vG,Zcg,h,eD.enc,bV]
   rw[hr]at hS;have hS:=hS _ hE;apply aa.cZ bb fw [1,2,4,5,6];simp[aek];rw[av (x:=(y:Int)+1) (by omega)];refine⟨y+1,Le.aL ?_ ?_ ?_ ?_,by omega,by omega⟩
   .simp
   .simp
   .simp[hS]
   .simp
  .have h6:¬rk=2:=by simpa using h6
   have hE:lz dm ⟨rk,rh,ra,rb,rp,rg⟩=⟨rh,mh ⟨rk,rh,ra,rb,rp,rg⟩,rp,0,0⟩:=by unfold lz;simp only[iK h6]
   apply aa.skip;simp;apply aa.cZ bb fw [1,2,4,5,6];simp[aej,mJ,dg,di,cw];repeat (refine⟨by omega, ?_⟩)
   have hS:∀ec,lz dm (aj.getD y default)=⟨rh,mh (aj.getD y default),ec,0,0⟩->bV ((aj.map (lz dm)).take (y+1))=bV ((aj.map (lz dm)).take y)++[[ti rh,.sl (au (mh (aj.getD y default))),ti ec,ti 0,ti 0]]:=by
    intro ec h;rw[<-List.map_take,dH aS,Lc,bV,Lc,Zc9];simp only[vG,Zcg,h,eD.enc,bV]
   rw[hr]at hS;have hS:=hS _ hE;apply aa.cZ bb fw [1,2,4,5,6];simp[aek];rw[av (x:=(y:Int)+1) (by omega)];refine⟨y+1,Le.aL ?_ ?_ ?_ ?_,by omega,by omega⟩
   .simp
   .simp
   .simp[hS]
   .simp
 .have fI:y=aj.length:=by simp at aS;omega
  subst fI;rw[show(aj.map (lz dm)).take aj.length=aj.map (lz dm)from Lz (by simp)];apply aa.exit;simp;apply aa.ai bb fw [4];simp[agm];apply aa.ret;simp[VG]
section
variable{own:List Cell}{fr to h:Nat}
def nQ(x:Cell):Prop:=mG x.val/\-1<=x.wQ/\x.wQ<=600/\0<=x.arg/\x.arg<=10000000000
def FE(x:Cell):Nat:=((x.aA.toNat*2199023255552+x.size.toNat)*1024+(x.wQ+1).toNat)*17179869184+x.arg.toNat
def goes(x y:Cell):Prop:=nQ y/\(y=x\/FE y<FE x)
def lu{x:Cell}{v:cX}{r g:Int}(hx:nQ x)(hv:mG v)(h1:0<=r)(h2:r<=600)(h3:0<=g)(h4:g<=10000000000):goes x (eZ x v r g):=by
 obtain⟨xc,xs,xr,xg⟩:=x;obtain⟨vc,vs⟩:=v;obtain⟨⟨a1,a2,a3,a4⟩,a5,a6,a7,a8⟩:=hx;obtain⟨b1,b2,b3,b4⟩:=hv;simp only[]at a1 a2 a3 a4 a5 a6 a7 a8 b1 b2 b3 b4;unfold eZ;split
 .exact⟨⟨⟨a1,a2,a3,a4⟩,a5,a6,a7,a8⟩,.inl rfl⟩
 .split
  .rename_i h;refine⟨⟨⟨b1,b2,b3,b4⟩,by simp only;omega,by simp only;omega,by simp only;omega,by simp only;omega⟩,.inr ?_⟩;simp only[cX.lt,Cell.val,cX.mk.injEq]at h;simp only[FE];omega
  .exact⟨⟨⟨a1,a2,a3,a4⟩,a5,a6,a7,a8⟩,.inl rfl⟩
def uW{x:Cell}(h:nQ x):goes x x:=⟨h,.inl rfl⟩
def M1{x y z:Cell}(h:goes x y)(k:goes y z):goes x z:=by
 refine⟨k.1, ?_⟩;rcases h.2 with rfl|h2
 .exact k.2
 .rcases k.2 with rfl|k2
  .exact .inr h2
  .exact .inr (by omega)
def za{f:Cell->Nat->Cell}{N:Nat}(hf:∀x k,k<N->nQ x->goes x (f x k))(x:Cell)(hx:nQ x):goes x ((List.range N).foldl f x):=by
 induction N with
 |zero=>exact uW hx
 |succ N ih=>
  rw[Gy,uK];have h1:=ih λx k hk=>hf x k (by omega);exact M1 h1 (hf _ N (by omega) h1.1)
def Hp{n:ay}{l:aF}{c:bI}{i:Nat}(hn:qf n)(hl:wB l)(hc:JT c)(ho:Pm n own)(hi:i<n.aj.length)(yF:fr<=to)(nJ:to<=1000)
  (hx:nQ (own.getD (n.aj.getD i default).head.toNat default)):goes (own.getD (n.aj.getD i default).head.toNat default) (fD n l c own fr to i):=by
 unfold fD;obtain⟨r,hr⟩:=aY (n.aj.getD i default);have th:me n r:=hn.2.2.2 r (by rw[<-hr];exact bu hi);rw[hr]at hx⊢;obtain⟨x,nK⟩:=aY (own.getD r.head.toNat default);rw[nK]at hx⊢;obtain⟨q1,q2,q3,q4,q5⟩:=th;have hi2:=hn.2.2.1;have hvp:∀h f t:Int,0<=h->h<n.an->mG (dv c own fr to h f t):=λh f t h1 h2=>XV ⟨hc,by have:=ho.1;have:=hn.2.1;omega,λ_=>⟨h1,by have:=ho.1;omega⟩⟩ ho.2;unfold nB;split
 .split
  .exact lu hx (iv x9 q3 (by omega)) (by omega) (by omega) (by omega) (by omega)
  .exact uW hx
 .split
  .refine za (λx k hk hx=>?_) x hx;unfold stepT;split
   .have:=hl.2.2.2 (l.aK.getD k default) (bu hk);have:=hl.2.2.1;exact lu hx (iv x9 (by omega) (by omega)) (by omega) (by omega) (by omega) (by omega)
   .exact uW hx
  .split
   .refine lu hx (iv (λv hv=>?_) q3 (by omega)) (by omega) (by omega) (by omega) (by omega);simp only[uy]at hv;subst hv;exact hvp _ _ _ (by omega) (by omega)
   .refine za (λx k hk hx=>?_) x hx;unfold jh;refine lu hx (iv (λv hv=>?_) q3 (by omega)) (by omega) (by omega) (by omega) (by omega);simp only[jv,qg,AZ]at hv;rcases hv with rfl|rfl<;>exact hvp _ _ _ (by omega) (by omega)
def lw(own:List Cell):Nat:=(own.map FE).sum
def St{y:Cell}(hh:h<own.length)(hy:FE y<FE (own.getD h default)):lw (own.set h y)<lw own:=by
 induction own generalizing h with
 |nil=>simp at hh
 |cons x own ih=>
  cases h with
  |zero=>simp[lw]at hy⊢;omega
  |succ h=>
   have:=ih (h:=h) (by simpa using hh) (by simpa using hy);simp[lw]at this⊢;omega
def qC(n:ay)(l:aF)(c:bI)(fr to:Int)(own:List Cell)(k:Nat):List Cell:=own.set (n.aj.getD k default).head.toNat (fD n l c own fr to k)
def nC(n:ay)(own:List Cell):Prop:=(own.length:Int)=n.an/\∀x∈own,nQ x
def nC.ok{n:ay}(h:nC n own):Pm n own:=⟨h.1,λx hx=>(h.2 x hx).1⟩
def Db{n:ay}{l:aF}{c:bI}{k:Nat}(hn:qf n)(hl:wB l)(hc:JT c)(ho:nC n own)(hk:k<n.aj.length)(yF:fr<=to)(nJ:to<=1000):
  nC n (qC n l c fr to own k)/\(fD n l c own fr to k≠own.getD (n.aj.getD k default).head.toNat default->lw (qC n l c fr to own k)<lw own):=by
 have th:=hn.2.2.2 (n.aj.getD k default) (bu hk);have hh:(n.aj.getD k default).head.toNat<own.length:=by have:=ho.1;have:=th.1;have:=th.2.1;omega
 have hg:=Hp hn hl hc ho.ok hk yF nJ (ho.2 _ (bu hh));refine⟨⟨by simpa [qC]using ho.1,λx hx=>?_⟩,λdd=>?_⟩
 .rcases Zbv hx with h|rfl
  .exact ho.2 x h
  .exact hg.1
 .rcases hg.2 with h|h
  .exact qe h dd
  .exact St hh h
def Sl(n:ay)(l:aF)(c:bI)(fr to:Int)(own:List Cell):Prop:=∀k,k<n.aj.length->fD n l c own fr to k=own.getD (n.aj.getD k default).head.toNat default
def J5:nQ vD:=by simp[nQ,mG,vD]
def eP(n:ay)(l:aF)(c:bI)(fr to:Int)(own:List Cell)(y:Nat):List Cell:=(List.range y).foldl (qC n l c fr to) own
def pO(n:ay)(l:aF)(c:bI)(fr to:Int)(own:List Cell)(y:Nat):eP n l c fr to own (y+1)=qC n l c fr to (eP n l c fr to own y) y:=by
 simp[eP,Gy,uK]
def Dd{x:Cell}(hx:x=own.getD h default):own.set h x=own:=by
 subst hx;apply Zb0;intro j;rw[Zb1];split
 .rename_i e;subst e;split
  .rename_i hl;simp[List.getD,hl]
  .rename_i hl;rw[Ls (by omega)]
 .rfl
def uY{n:ay}{l:aF}{c:bI}{own:List Cell}{fr to:Nat}(hn:qf n)(hl:wB l)(hc:JT c)(ho:nC n own)(yF:fr<=to)(nJ:to<=1000):∀y,y<=n.aj.length->
  nC n (eP n l c fr to own y)/\((eP n l c fr to own y=own/\∀k,k<y->fD n l c own fr to k=own.getD (n.aj.getD k default).head.toNat default)\/lw (eP n l c fr to own y)<lw own)
 |0,_=>⟨ho,.inl ⟨rfl,λk h=>by omega⟩⟩
 |y+1,hy=>by
  obtain⟨h1,h2⟩:=uY hn hl hc ho yF nJ y (by omega);obtain⟨h3,h4⟩:=Db hn hl hc h1 (k:=y) (by omega) yF nJ;rw[pO];refine⟨h3, ?_⟩;by_cases e:fD n l c (eP n l c fr to own y) fr to y=(eP n l c fr to own y).getD (n.aj.getD y default).head.toNat default
  .have e2:qC n l c fr to (eP n l c fr to own y) y=eP n l c fr to own y:=Dd e;rw[e2];rcases h2 with⟨g1,g2⟩|h2
   .refine .inl ⟨g1,λk hk=>?_⟩;by_cases sI:k=y
    .subst sI;rwa [g1]at e
    .exact g2 k (by omega)
   .exact .inr h2
  .have:=h4 e;rcases h2 with⟨g1,g2⟩|h2
   .rw[g1]at this⊢;exact .inr this
   .exact .inr (by omega)
def bP(n:ay)(l:aF)(c:bI)(fr to:Int):Nat->List Cell->List Cell
 |0,own=>own
 |f+1,own=>if eP n l c fr to own n.aj.length=own then own else bP n l c fr to f (eP n l c fr to own n.aj.length)
def EB(n:ay):List Cell:=List.replicate n.an.toNat vD
def sP(n:ay)(l:aF)(c:bI)(fr to:Int):List Cell:=bP n l c fr to (lw (EB n)+1) (EB n)
def Pn{n:ay}(hn:qf n):nC n (EB n):=by
 refine⟨?_,λx hx=>?_⟩
 .have:=hn.1;simp only[EB,ZbW];omega
 .rw[Zce hx];exact J5
def J6{n:ay}{l:aF}{c:bI}{fr to:Nat}(hn:qf n)(hl:wB l)(hc:JT c)(yF:fr<=to)(nJ:to<=1000)
  (P:List Cell->Prop) (hPs:∀own k,nC n own->k<n.aj.length->P own->P (qC n l c fr to own k)):∀f own,lw own<f->nC n own->P own->nC n (bP n l c fr to f own)/\P (bP n l c fr to f own)/\Sl n l c fr to (bP n l c fr to f own)
 |0,own,h,_,_=>by omega
 |f+1,own,h,ho,hp=>by
  obtain⟨h1,h2⟩:=uY hn hl hc ho yF nJ n.aj.length (gJ _);have hpw:∀y,y<=n.aj.length->P (eP n l c fr to own y):=by
   intro y;induction y with
   |zero=>intro _;exact hp
   |succ y ih=>intro hy;rw[pO];exact hPs _ _ (uY hn hl hc ho yF nJ y (by omega)).1 (by omega) (ih (by omega))
  unfold bP;split
  .rename_i e;rcases h2 with⟨_,g⟩|h2
   .exact⟨ho,hp,g⟩
   .rw[e]at h2;omega
  .rename_i e;rcases h2 with⟨g,_⟩|h2
   .exact qe g e
   .exact J6 hn hl hc yF nJ P hPs f _ (by omega) h1 (hpw _ (gJ _))
def JX{n:ay}{l:aF}{c:bI}(hn:qf n)(hl:wB l)(hc:JT c)(yF:fr<=to)(nJ:to<=1000)
  (P:List Cell->Prop) (hP0:P (EB n)) (hPs:∀own k,nC n own->k<n.aj.length->P own->P (qC n l c fr to own k)):nC n (sP n l c fr to)/\P (sP n l c fr to)/\Sl n l c fr to (sP n l c fr to):=
 J6 hn hl hc yF nJ P hPs _ _ (by omega) (Pn hn) hP0
end
section
variable{nd:Int}{es:List eD}
def zg(l:List cX)(i:Nat)(x:cX):cU (l.set i x)=(cU l).set i [ti x.aA,ti x.size]:=by simp[cU,Zco]
def zh(l:ba)(i:Nat)(x:Int):au (l.set i x)=(au l).set i [ti x]:=by simp[au,Zco]
def aaR{α:Type}(a b:α){n y:Nat}(h:y<n):(List.replicate y a++List.replicate (n-y) b).set y a=List.replicate (y+1) a++List.replicate (n-(y+1)) b:=by
 rw[ZS _ _ (by simp)];simp only[ZbW,Nat.sub_self];rw[show n-y=(n-(y+1))+1 by omega,Q5,Zb7,ZcQ (n:=y),xm];rfl
def wF(nd:Int)(e:eD):Prop:=0<=e.head/\e.head<nd/\(∀t∈e.bY,0<=t/\t<nd)/\0<=e.aA/\e.aA<=4000000000000/\e.bY.length<=1000000
def J8(nd:Int)(es:List eD):Prop:=0<=nd/\nd<=1000000/\es.length<=1000000/\∀e∈es,wF nd e
def Bs(nd:Int)(v:List cX):Prop:=(v.length:Int)=nd/\∀x∈v,mG x
def FG(x:cX):Nat:=x.aA.toNat*2199023255552+x.size.toNat
def ji(v:List cX):Nat:=(v.map FG).sum
def uZ{own:List cX}{h:Nat}{y:cX}(hh:h<own.length)(hy:FG y<FG (own.getD h default)):ji (own.set h y)<ji own:=by
 induction own generalizing h with
 |nil=>simp at hh
 |cons x own ih=>
  cases h with
  |zero=>simp[ji]at hy⊢;omega
  |succ h=>
   have:=ih (h:=h) (by simpa using hh) (by simpa using hy);simp[ji]at this⊢;omega
def Bt{a b:cX}(ha:mG a)(hb:mG b)(h:a.lt b):FG a<FG b:=by
 obtain⟨a1,a2,a3,a4⟩:=ha;obtain⟨b1,b2,b3,b4⟩:=hb;unfold cX.lt at h;unfold FG;omega
def cj(v:List cX)(e:eD):List cX:=if(gv e.aA (cJ v e.bY)).lt (v.getD e.head.toNat default)then v.set e.head.toNat (gv e.aA (cJ v e.bY))else v
def oH{v:List cX}{ts:ba}(hv:Bs nd v)(h:∀t∈ts,0<=t/\t<nd):∀x∈cJ v ts,mG x:=by
 intro x hx;simp only[cJ,sE]at hx;obtain⟨t,ht,rfl⟩:=hx;have:=h t ht;have:=hv.1;exact hv.2 _ (bu (by omega))
def Dm{v:List cX}{e:eD}(he:wF nd e)(hv:Bs nd v):Bs nd (cj v e)/\(cj v e=v\/ji (cj v e)<ji v):=by
 obtain⟨e1,e2,e3,e4,e5,e6⟩:=he;have hc:=iv (c:=e.aA) (l:=cJ v e.bY) (oH hv e3) e4 e5;have hh:e.head.toNat<v.length:=by have:=hv.1;omega
 unfold cj;split
 .rename_i h;refine⟨⟨by simpa using hv.1,λx hx=>?_⟩,.inr (uZ hh (Bt hc (hv.2 _ (bu hh)) h))⟩;rcases Zbv hx with h|rfl
  .exact hv.2 x h
  .exact hc
 .exact⟨hv,.inl rfl⟩
def ep(es:List eD)(v:List cX)(y:Nat):List cX:=(List.range y).foldl (λv k=>cj v (es.getD k default)) v
def jV(es:List eD)(v:List cX)(y:Nat):ep es v (y+1)=cj (ep es v y) (es.getD y default):=by simp[ep,Gy,uK]
def jp{nd:Int}{es:List eD}(hh:J8 nd es){v:List cX}(hv:Bs nd v):∀y,y<=es.length->Bs nd (ep es v y)/\(ep es v y=v\/ji (ep es v y)<ji v)
 |0,_=>⟨hv,.inl rfl⟩
 |y+1,hy=>by
  obtain⟨h1,h2⟩:=jp hh hv y (by omega);obtain⟨h3,h4⟩:=Dm (hh.2.2.2 _ (bu (l:=es) (i:=y) (by omega))) h1;rw[jV];refine⟨h3, ?_⟩;rcases h4 with e|h4
  .rw[e];exact h2
  .rcases h2 with e|h2
   .rw[e]at h4⊢;exact .inr h4
   .exact .inr (by omega)
def lc(es:List eD):Nat->List cX->List cX
 |0,v=>v
 |f+1,v=>if ep es v es.length=v then v else lc es f (ep es v es.length)
def M7{v:List cX}{f:Nat}{R:List cX}(hs:ep es v es.length=v\/ji (ep es v es.length)<ji v)(h1:ji v<f)(h2:lc es f v=R):
  (ep es v es.length≠v->ji (ep es v es.length)<ji v/\∃f,ji (ep es v es.length)<f/\lc es f (ep es v es.length)=R)/\(ep es v es.length=v->v=R):=by
 cases f with
 |zero=>omega
 |succ f=>
  unfold lc at h2;refine⟨λdd=>?_,λe=>?_⟩
  .rw[iK dd]at h2;have:=hs.resolve_left dd;exact⟨this,f,by omega,h2⟩
  .rwa [ee e]at h2
def Dn(nd:Int):List cX:=List.replicate nd.toNat ⟨1099511627776,0⟩
def r9(nd:Int)(es:List eD):List cX:=lc es (ji (Dn nd)+1) (Dn nd)
def FH{nd:Int}{es:List eD}(hh:J8 nd es):∀f v,ji v<f->Bs nd v->Bs nd (lc es f v)
 |0,v,h,_=>by omega
 |f+1,v,h,hv=>by
  obtain⟨h1,h2⟩:=jp hh hv es.length (gJ _);unfold lc;split
  .exact hv
  .rename_i dd;exact FH hh f _ (by have:=h2.resolve_left dd;omega) h1
def Bu(hh:J8 nd es):Bs nd (Dn nd):=by
 refine⟨by have:=hh.1;simp only[Dn,ZbW];omega,λx hx=>?_⟩;rw[Zce hx];simp[mG]
def u0(hh:J8 nd es):Bs nd (r9 nd es):=FH hh _ _ (by omega) (Bu hh)
def stepG(es:List eD)(v:List cX)(g:ba)(j:Nat):ba:=
 if(v.getD (es.getD (es.length-1-j) default).head.toNat default).aA<1099511627776/\gv (es.getD (es.length-1-j) default).aA (cJ v (es.getD (es.length-1-j) default).bY)=v.getD (es.getD (es.length-1-j) default).head.toNat default then g.set (es.getD (es.length-1-j) default).head.toNat ((es.length-1-j:Nat):Int)else g
def mH(es:List eD)(v:List cX)(nd:Int)(j:Nat):ba:=(List.range j).foldl (stepG es v) (List.replicate nd.toNat (-1))
def sb(es:List eD)(v:List cX)(nd:Int)(y:Nat):mH es v nd (y+1)=stepG es v (mH es v nd y) y:=by simp[mH,Gy,uK]
def zi(es:List eD)(v:List cX)(h:0<=nd)(y:Nat):((mH es v nd y).length:Int)=nd:=by
 induction y with
 |zero=>simp[mH];omega
 |succ y ih=>
  rw[sb];unfold stepG;split
  .simpa using ih
  .exact ih
structure VM where
 v:List cX
 lJ:Bool
abbrev s91:DM.Spec:=CA (λts=>∃a b c d e v,ts=[.agg [ti a,.sl (au b),ti c,ti d,ti e],.sl (cU v)]/\(∀t∈b,0<=t/\t<v.length)/\b.length<=1000000) (fun|[.agg [_,.sl b,_,_,_],.sl v]=>cU (cJ (yq v) (eM b))|_=>[]) 64 2
def J9(l:List cX):iY.je (cU l).flatten=true:=by
 induction l with
 |nil=>rfl
 |cons x l ih=>simpa [cU,iY.je,iY]using ih
def auy:aw ak (bz [(128,s91),(127,s69),(129,s92)]):=by
 refine aw.ad7 (aw.cons (aw.cons aw.nil ?_) ?_) ?_
 .rintro ts ⟨a,b,c,d,rfl⟩;exact⟨t92 ⟨a,b⟩ ⟨c,d⟩,λ_=>rfl⟩
 .rintro ts ⟨c,l,rfl,h1,h2,h3,h4⟩;exact⟨by simpa using t69 c l h1 h2 h3 h4,λ_=>rfl⟩
 .rintro ts ⟨a,b,c,d,e,v,rfl,h1,h2⟩;exact⟨by simpa [eD.enc]using t91 ⟨a,b,c,d,e⟩ v h1 h2,J9 _⟩
def t66(nd:Int)(es:List eD)(hh:J8 nd es):aJ ak 91 [.agg [ti nd,.sl (bV es)]] (.dh [.sl (cU (r9 nd es)),.sl (au (mH es (r9 nd es) nd es.length))]):=by
 obtain⟨R,hR⟩:=aY (r9 nd es);have hRo:Bs nd R:=hR▸u0 hh;rw[hR];have h0:=Bu hh;have pB:=λ(v:List cX) (hv:Bs nd v)=>jp hh hv;have iO:=λ(v:List cX) (hv:Bs nd v) (e:eD) (he:wF nd e)=>Dm he hv;obtain⟨g1,g2,g3,g4⟩:=hh;have bb:=auy;refine c66.ok (by simp) (aH ?_);simp;apply aa.ai bb fw [1];simp[amU];refine aa.lk (o:=[]) (l:=[(1,.v (.box [ti nd,.sl (bV es)]))]) (bn:=1200) (by simp) ?_;apply aa.ai bb fw [1,4];simp[amV,XW,cw];repeat (refine⟨by omega, ?_⟩)
 refine aa.le (Le.aL (o:=[(1217,.bm 0 64 2 (cU ((List.replicate nd.toNat (⟨0,0⟩:cX)))))]) (l:=[(1,.v (.box [ti nd,.sl (bV es)])),(4,.aW 1217 0)]) (bn:=1400) ?_ ?_ ?_ ?_) ?_
 .simp
 .simp
 .simp[cU]
 .simp
 apply aa.ai bb fw [1,4,5];simp[amW,XW,cw];repeat (refine⟨by omega, ?_⟩)
 refine aa.le (Le.aL (o:=[(1217,.bm 0 64 2 (cU ((List.replicate nd.toNat (⟨0,0⟩:cX))))),(1420,.bm 0 3 1 (au (List.replicate nd.toNat 0)))]) (l:=[(1,.v (.box [ti nd,.sl (bV es)])),(4,.aW 1217 0),(5,.aW 1420 0)]) (bn:=1600) ?_ ?_ ?_ ?_) ?_
 .simp
 .simp
 .simp[cU,au]
 .simp
 apply aa.sq bb fw [1,4,5,6];simp[amX];apply aa.block;refine aa.loop (λy:Nat=>⟨DM.look [(1,.v (.box [ti nd,.sl (bV es)])),(4,.aW 1217 0),(5,.aW 1420 0),(6,.v (ti y))],cR [(1217,.bm 0 64 2 (cU (List.replicate y (⟨1099511627776,0⟩:cX)++List.replicate (nd.toNat-y) (⟨0,0⟩:cX)))),(1420,.bm 0 3 1 (au (List.replicate y (-1:Int)++List.replicate (nd.toNat-y) (0:Int))))],2000,1000,[]⟩)
  (λy=>y<=nd.toNat) (λy=>nd.toNat-y) 0 (Le.aL ?_ ?_ ?_ ?_) (by simp) (λy hy=>?_)
 iterate 4(·simp)
 obtain⟨A,hA⟩:=aY (List.replicate y (⟨1099511627776,0⟩:cX)++List.replicate (nd.toNat-y) (⟨0,0⟩:cX));obtain⟨E,hE⟩:=aY (List.replicate y (-1:Int)++List.replicate (nd.toNat-y) (0:Int));have hAl:A.length=nd.toNat:=by rw[<-hA];simp;omega
 have hEl:E.length=nd.toNat:=by rw[<-hE];simp;omega
 rw[hA,hE];apply aa.sq bb fw [1,4,5,6,23];simp[amY];refine aa.cond rfl (λaS=>?_) (λaS=>?_)
 .have aS:(y:Int)<nd:=by simpa using aS
  have hyn:y<nd.toNat:=by omega
  apply aa.skip;simp;apply aa.seq;apply aa.block;have ra:=jU (l:=A) (y:=y) (by omega);have re:=bA (l:=E) (y:=y) (by omega);have q1:y<A.length:=by omega
  have q2:y<E.length:=by omega
  apply aa.cZ bb fw [1,4,5,6];simp[amZ,q1,q2,ra,re];apply aa.cZ bb fw [1,4,5,6];simp[am0];rw[av (x:=(y:Int)+1) (by omega)];refine⟨y+1,Le.aL ?_ ?_ ?_ ?_,by omega,by omega⟩
  .simp
  .simp
  .simp only[<-aaR _ _ hyn,hA,hE,zg,zh];simp
  .simp
 .have fI:y=nd.toNat:=by simp at aS;omega
  subst fI;have Mw:A=Dn nd:=by rw[<-hA];simp[Dn]
  have hE2:E=List.replicate nd.toNat (-1):=by rw[<-hE];simp
  subst Mw;subst hE2;apply aa.exit;simp;apply aa.sq bb fw [1,4,5,7];simp[am1];apply aa.block;refine aa.loop (λz:VM=>⟨DM.look [(1,.v (.box [ti nd,.sl (bV es)])),(4,.aW 1217 0),(5,.aW 1420 0),(7,.v (.bool z.lJ))],cR [(1217,.bm 0 64 2 (cU (z.v))),(1420,.bm 0 3 1 (au (List.replicate nd.toNat (-1))))],3000,1000,[]⟩)
   (λz=>Bs nd z.v/\(z.lJ=true->∃f,ji z.v<f/\lc es f z.v=R)/\(z.lJ=false->z.v=R)) (λz=>2*ji z.v+(if z.lJ then 1 else 0)) ⟨Dn nd,true⟩ (Le.aL ?_ ?_ ?_ ?_) (⟨h0,λ_=>⟨_,TZ _,hR⟩,λh=>by cases h⟩) (λz hy=>?_)
  iterate 4(·simp)
  obtain⟨own,lJ⟩:=z;obtain⟨yd,AS,Hq⟩:=hy;simp only at yd AS Hq⊢;apply aa.sq bb fw [1,4,5,33];simp[am2];refine aa.cond rfl (λhm=>?_) (λhm=>?_)
  .have hm:lJ=true:=by simpa using hm
   subst hm;obtain⟨f,Z3,Z5⟩:=AS rfl;apply aa.skip;simp;apply aa.block;apply aa.ai bb fw [1,4,5,7];simp[am3];apply aa.ai bb fw [1,4,5,7,8];simp[af9];apply aa.block;refine aa.loop (λy:Nat=>⟨DM.look [(1,.v (.box [ti nd,.sl (bV es)])),(4,.aW 1217 0),(5,.aW 1420 0),(7,.v (.bool (decide (ep es own y≠own)))),(8,.v (ti y))],cR [(1217,.bm 0 64 2 (cU (ep es own y))),(1420,.bm 0 3 1 (au (List.replicate nd.toNat (-1))))],4000,1000,[]⟩)
    (λy=>y<=es.length) (λy=>es.length-y) 0 (Le.aL ?_ ?_ ?_ ?_) (by simp) (λy El=>?_)
   .simp
   .simp[ep]
   .simp[ep]
   .simp[ep]
   obtain⟨O,hO⟩:=aY (ep es own y);obtain⟨Iq,Im⟩:=pB own yd y El;rw[hO]at Iq Im;obtain⟨m1,uE⟩:=aY (decide (O≠own):Bool);rw[hO,uE];apply aa.sq bb fw [1,4,5,7,8,38];simp[aga];refine aa.cond rfl (λaS=>?_) (λaS=>?_)
   .have aS:y<es.length:=by simpa using aS
    apply aa.skip;simp;apply aa.seq;apply aa.block;have rr:=oj aS;obtain⟨⟨xh,xt,xc,x0,x1⟩,hx⟩:=aY (es.getD y default);rw[hx]at rr;have EC:wF nd ⟨xh,xt,xc,x0,x1⟩:=g4 _ (by rw[<-hx];exact bu aS);have hso:=iO O Iq _ EC;obtain⟨q1,q2,q3,q4,q5,q6⟩:=EC;simp only at q1 q2 q3 q4 q5 q6;obtain⟨xh,rfl⟩:=bX q1;apply aa.ai bb fw [1,4,5,7,8,9];simp[agb,aS,rr,eD.enc];refine aa.lk (o:=[(1217,.bm 0 64 2 (cU (O))),(1420,.bm 0 3 1 (au (List.replicate nd.toNat (-1))))]) (l:=[(1,.v (.box [ti nd,.sl (bV es)])),(4,.aW 1217 0),(5,.aW 1420 0),(7,.v (.bool m1)),(8,.v (ti y)),(9,.v (.box [ti xh,.sl (au xt),ti xc,ti x0,ti x1]))]) (bn:=4200) (by simp) ?_;have ht3:∀t∈xt,0<=t/\t<O.length:=λt ht=>by have:=q3 t ht;have:=Iq.1;omega
    have htv:=oH Iq q3;have mq:(cJ O xt).length<=1000000:=by simpa [cJ]using q6
    obtain⟨⟨wc,wz⟩,hw⟩:=aY (gv xc (cJ O xt));refine aa.fR bb fw (rs:=xK ady [none,some [],some [],none,some [1217],some [4251],none,some [4211]]) (.inr ⟨_,pV⟩) (by kernel_rfl) [1,4,5,7,8,9,10] ?_;simp[ady,xK,dN,bT,br,XW,q6,mq,hw];refine⟨ht3,htv, ?_⟩;repeat (refine⟨by omega, ?_⟩)
    refine aa.lk (o:=[(1217,.bm 0 64 2 (cU (O))),(1420,.bm 0 3 1 (au (List.replicate nd.toNat (-1))))]) (l:=[(1,.v (.box [ti nd,.sl (bV es)])),(4,.aW 1217 0),(5,.aW 1420 0),(7,.v (.bool m1)),(8,.v (ti y)),(9,.v (.box [ti xh,.sl (au xt),ti xc,ti x0,ti x1])),(10,.v (.box [ti wc,ti wz]))]) (bn:=4400) (by simp) ?_;have M0:xh<O.length:=by have:=Iq.1;omega
    have ro:=jU M0;obtain⟨⟨uc,uz⟩,hu⟩:=aY (O.getD xh default);rw[hu]at ro;obtain⟨c1,bN⟩:=aY (decide ((⟨wc,wz⟩:cX).lt ⟨uc,uz⟩):Bool);apply aa.ai bb fw [1,4,5,7,8,9,10,58];simp[agc,M0,ro,bN];refine aa.cond rfl (λh5=>?_) (λh5=>?_)
    .have h5:c1=true:=by simpa using h5
     rw[h5]at bN;have bN:=BN bN;have hS0:cj O ⟨xh,xt,xc,x0,x1⟩=O.set xh ⟨wc,wz⟩:=by unfold cj;simp only[hw,hu,gN];rw[ee bN]
     have Dk:ep es own (y+1)=O.set xh ⟨wc,wz⟩:=by rw[jV,hO,hx,hS0]
     have dd:¬ep es own (y+1)=own:=by
      intro e;have h6:ji (O.set xh ⟨wc,wz⟩)<ji O:=by
       refine uZ M0 ?_;rw[hu];exact Bt (by rw[<-hw];exact iv htv q4 q5) (by rw[<-hu];exact Iq.2 _ (bu M0)) bN
      rw[<-Dk,e]at h6;rcases Im with h|h
      .rw[h]at h6;omega
      .omega
     apply aa.ai bb fw [1,4,5,8];simp[agd,M0,ro];apply aa.cZ bb fw [1,4,5,7,8];simp[age];apply aa.cZ bb fw [1,4,5,7,8];simp[VD];rw[av (x:=(y:Int)+1) (by omega)];refine⟨y+1,Le.aL ?_ ?_ ?_ ?_,by omega,by omega⟩
     .simp
     .simp
     .simp[Dk,zg]
     .simp;simpa using dd
    .have h5:c1=false:=by simpa using h5
     rw[h5]at bN;have bN:=uF bN;have Dk:ep es own (y+1)=O:=by rw[jV,hO,hx];unfold cj;simp only[hw,hu,gN];rw[iK bN]
     have dd:=uE;rw[<-Dk]at dd;apply aa.skip;simp;apply aa.cZ bb fw [1,4,5,7,8];simp[VD];rw[av (x:=(y:Int)+1) (by omega)];refine⟨y+1,Le.aL ?_ ?_ ?_ ?_,by omega,by omega⟩
     .simp
     .simp
     .simp[Dk,zg]
     .simp;simpa using dd
   .have wp:y=es.length:=by simp at aS;omega
    subst wp;have AN:=M7 (pB own yd _ (gJ _)).2 Z3 Z5;simp only[hO]at AN;have M3:2*ji O+(if m1 then 1 else 0)<2*ji own+1:=by
     by_cases e:O=own
     .have Ij:m1=false:=by rw[<-uE];simp[e]
      subst Ij;rw[e];simp
     .have:=(AN.1 e).1;cases m1<;>simp<;>omega
    apply aa.exit;simp;refine⟨⟨O,m1⟩,Le.aL ?_ ?_ ?_ ?_,⟨Iq,λh=>(AN.1 (BN (uE.trans h))).2,λh=>by have e:=Classical.not_not.1 (uF (uE.trans h));simp only;rw[e];exact AN.2 e⟩,by simpa using M3⟩;iterate 3(·simp)
    .simp
  .have hm:lJ=false:=by simpa using hm
   subst hm;have Hq:=Hq rfl;subst Hq;apply aa.exit;simp;apply aa.sq bb fw [1,4,5,11];simp[agf,av (x:=(es.length:Int)-1) (by omega)];apply aa.block;refine aa.loop (λj:Nat=>⟨DM.look [(1,.v (.box [ti nd,.sl (bV es)])),(4,.aW 1217 0),(5,.aW 1420 0),(11,.v (ti ((es.length:Int)-1-j)))],cR [(1217,.bm 0 64 2 (cU (own))),(1420,.bm 0 3 1 (au (mH es own nd j)))],5000,1000,[]⟩)
    (λj=>j<=es.length) (λj=>es.length-j) 0 (Le.aL ?_ ?_ ?_ ?_) (by simp) (λj hj=>?_)
   .simp
   .simp
   .simp[mH]
   .simp
   obtain⟨G,hG⟩:=aY (mH es own nd j);have hGl:=zi es own g1 j;rw[hG]at hGl;rw[hG];obtain⟨k,hk⟩:=aY ((es.length:Int)-1-j);rw[hk];apply aa.sq bb fw [1,4,5,11,69];simp[agh];refine aa.cond rfl (λh9=>?_) (λh9=>?_)
   .have h9:0<=k:=by simpa using h9
    obtain⟨k,rfl⟩:=bX h9;have yE:k<es.length:=by omega
    have hke:es.length-1-j=k:=by omega
    apply aa.skip;simp;apply aa.seq;apply aa.block;have rr:=oj yE;obtain⟨⟨xh,xt,xc,x0,x1⟩,hx⟩:=aY (es.getD k default);rw[hx]at rr;have EC:wF nd ⟨xh,xt,xc,x0,x1⟩:=g4 _ (by rw[<-hx];exact bu yE);obtain⟨q1,q2,q3,q4,q5,q6⟩:=EC;simp only at q1 q2 q3 q4 q5 q6;obtain⟨xh,rfl⟩:=bX q1;apply aa.ai bb fw [1,4,5,11,12];simp[agi,yE,rr,eD.enc];refine aa.lk (o:=[(1217,.bm 0 64 2 (cU (own))),(1420,.bm 0 3 1 (au (G)))]) (l:=[(1,.v (.box [ti nd,.sl (bV es)])),(4,.aW 1217 0),(5,.aW 1420 0),(11,.v (ti k)),(12,.v (.box [ti xh,.sl (au xt),ti xc,ti x0,ti x1]))]) (bn:=5200) (by simp) ?_;have M0:xh<own.length:=by have:=hRo.1;omega
    have ro:=jU M0;obtain⟨⟨uc,uz⟩,hu⟩:=aY (own.getD xh default);rw[hu]at ro;apply aa.ai bb fw [1,4,5,11,12,13];simp[agj,M0,ro];refine aa.lk (o:=[(1217,.bm 0 64 2 (cU (own))),(1420,.bm 0 3 1 (au (G)))]) (l:=[(1,.v (.box [ti nd,.sl (bV es)])),(4,.aW 1217 0),(5,.aW 1420 0),(11,.v (ti k)),(12,.v (.box [ti xh,.sl (au xt),ti xc,ti x0,ti x1])),(13,.v (.box [ti uc,ti uz]))]) (bn:=5400) (by simp) ?_;have ht3:∀t∈xt,0<=t/\t<own.length:=λt ht=>by have:=q3 t ht;have:=hRo.1;omega
    have htv:=oH hRo q3;have mq:(cJ own xt).length<=1000000:=by simpa [cJ]using q6
    obtain⟨⟨wc,wz⟩,hw⟩:=aY (gv xc (cJ own xt));obtain⟨c1,bN⟩:=aY (decide (uc<1099511627776/\(⟨wc,wz⟩:cX)=⟨uc,uz⟩):Bool);apply aa.seq;refine aa.to ⟨DM.look [(1,.v (.box [ti nd,.sl (bV es)])),(4,.aW 1217 0),(5,.aW 1420 0),(11,.v (ti k)),(12,.v (.box [ti xh,.sl (au xt),ti xc,ti x0,ti x1])),(94,.v (.bool c1))],cR [(1217,.bm 0 64 2 (cU (own))),(1420,.bm 0 3 1 (au (G)))],6000,1000,[]⟩ ?_ ?_
    .by_cases k1:uc<1099511627776
     .refine aa.rP bb fw (rs:=xK Bo [none,some [],none,none,none,some [],some [],none,some [1217],some [5491],some [],some [],none]) (.inr ⟨_,pV⟩) (by kernel_rfl) [1,4,5,11,12,94] ?_;simp[xK,Bo,dN,bT,br,XW,k1,q6,mq,hw];refine⟨ht3,htv,by omega,by omega, ?_⟩;have:c1=(decide (wc=uc)&&decide (wz=uz)):=by rw[<-bN];simp[k1]
      rw[this];exact Le.aL (by simp) (by simp) (by simp) (by simp)
     .have:c1=false:=by rw[<-bN];simp[k1]
      refine aa.rP bb fw (rs:=xK Bo [none,some [],none,none,none,some [],some [],none,some [1217],some [5491],some [],some [],none]) (.inr ⟨_,pV⟩) (by kernel_rfl) [1,4,5,11,12,94] ?_;simp[xK,Bo,dN,bT,br,k1];subst this;exact Le.aL (by simp) (by simp) (by simp) (by simp)
    simp only[Fe];refine aa.cond rfl (λh8=>?_) (λh8=>?_)
    .have h8:c1=true:=by simpa using h8
     rw[h8]at bN;have bN:=BN bN;have hS2:stepG es own G j=G.set xh (k:Int):=by unfold stepG;rw[hke,hx];simp only[hw,hu,gN];rw[ee bN]
     have aoC:xh<G.length:=by omega
     have rg:=bA aoC;apply aa.cZ bb fw [1,4,5,11];simp[agk,aoC,rg];apply aa.cZ bb fw [1,4,5,11];simp[VE];rw[av (x:=(k:Int)-1) (by omega)];refine⟨j+1,Le.aL ?_ ?_ ?_ ?_,by omega,by omega⟩
     .simp
     .simp
     .simp[sb,hG,hS2,zh]
     .simp;omega
    .have h8:c1=false:=by simpa using h8
     rw[h8]at bN;have bN:=uF bN;have hS2:stepG es own G j=G:=by unfold stepG;rw[hke,hx];simp only[hw,hu,gN];rw[iK bN]
     apply aa.skip;simp;apply aa.cZ bb fw [1,4,5,11];simp[VE];rw[av (x:=(k:Int)-1) (by omega)];refine⟨j+1,Le.aL ?_ ?_ ?_ ?_,by omega,by omega⟩
     .simp
     .simp
     .simp[sb,hG,hS2,zh]
     .simp;omega
   .have h9:¬0<=k:=by simpa using h9
    have hj2:j=es.length:=by omega
    subst hj2;subst hG;apply aa.exit;simp;apply aa.ai bb fw [2,3];simp[agl];apply aa.ret;simp[VF]
end
def Ka{n:ay}{dm:ba}(hn:fk n)(hp:gz n dm):J8 n.an (wE n dm):=by
 have h:=hn.ok;obtain⟨p1,p2⟩:=hp;refine⟨by have:=h.1;omega,by have:=h.2.1;omega,by simp only[wE,we];have:=h.2.2.1;omega,λe he=>?_⟩;simp only[wE,sE]at he;obtain⟨r,hr,rfl⟩:=he;obtain⟨q1,q2,q3,q4,q5⟩:=h.2.2.2 r hr;have hc:0<=(lz dm r).aA/\(lz dm r).aA<=4000000000000:=by
  unfold lz;split
  .rename_i h2;have ha:r.a.toNat<dm.length:=by omega
   have:=p2 _ ha;unfold Ht at this;simp only;omega
  .simp only;omega
 refine⟨q1,q2,λt ht=>?_,hc.1,hc.2,by have:=M6 r;simp only[lz];omega⟩;simp only[lz,mh]at ht;split at ht
 .simp only[uy]at ht;omega
 .split at ht
  .simp only[jv,qg,AZ]at ht;omega
  .cases ht
def mi(n:ay)(dm:ba):List cX:=if fk n/\gz n dm then r9 n.an (wE n dm)else []
abbrev s20:DM.Spec:=bp (λts=>∃a b c l,ts=[.agg [ti a,ti b,ti c,.sl (aQ l)]]/\l.length<=9223372036854775807) (fun|[n]=>.bool (decide (fk (mt n)))|_=>.bool false) true
abbrev s44:DM.Spec:=bp (λts=>∃a b c l i,ts=[.agg [ti a,ti b,ti c,.sl (aQ l)],.sl (au i)]/\i.length<=9223372036854775807) (fun|[n,.sl i]=>.bool (decide (gz (mt n) (eM i)))|_=>.bool false) true
abbrev s67:DM.Spec:=bp (λts=>∃a b c l i,ts=[.agg [ti a,ti b,ti c,.sl (aQ l)],.sl (au i)]/\qf ⟨a,b,c,l⟩/\gz ⟨a,b,c,l⟩ i) (fun|[n,.sl i]=>.agg [ti (mt n).an,.sl (bV (wE (mt n) (eM i)))]|_=>.bool false) false
abbrev s66:DM.Spec:=bp (λts=>∃nd es,ts=[.agg [ti nd,.sl (bV es)]]/\J8 nd es) (fun|[.agg [.int _ nd,.sl es]]=>.dh [.sl (cU (r9 nd (Dl es))),.sl (au (mH (Dl es) (r9 nd (Dl es)) nd es.length))]|_=>.bool false) false
abbrev s45:DM.Spec:=bp (λts=>∃a b c l i,ts=[.agg [ti a,ti b,ti c,.sl (aQ l)],.sl (au i)]/\l.length<=9223372036854775807/\i.length<=9223372036854775807) (fun|[n,.sl i]=>.sl (cU (mi (mt n) (eM i)))|_=>.bool false) false
def auz:aw ak (bz [(41,s20),(98,s44),(142,s67),(91,s66)]):=by
 refine aw.cons (aw.cons (aw.cons (aw.cons aw.nil ?_) ?_) ?_) ?_
 .rintro ts ⟨nd,es,rfl,h⟩;exact⟨by simpa using t66 nd es h,λh=>by cases h⟩
 .rintro ts ⟨a,b,c,l,i,rfl,h1,h2⟩;exact⟨by simpa [ay.enc]using t67 ⟨a,b,c,l⟩ i h1 h2,λh=>by cases h⟩
 .rintro ts ⟨a,b,c,l,i,rfl,h⟩;exact⟨by simpa [ay.enc]using t44 ⟨a,b,c,l⟩ i h,λ_=>rfl⟩
 .rintro ts ⟨a,b,c,l,rfl,h⟩;exact⟨by simpa [ay.enc]using t20 ⟨a,b,c,l⟩ h,λ_=>rfl⟩
def t45(n:ay)(dm:ba)(h1:n.aj.length<=9223372036854775807)(h2:dm.length<=9223372036854775807):aJ ak 99 [n.enc,.sl (au dm)] (.sl (cU (mi n dm))):=by
 obtain⟨R,hR⟩:=aY (mi n dm);rw[hR];unfold mi at hR;obtain⟨nt,nn,ns,aj⟩:=n;simp only at h1;have bb:=auz;refine c45.ok (by simp) (aH ?_);simp[ay.enc];apply aa.ai bb fw [1,2];simp[VI];refine aa.lk (o:=[]) (l:=[(1,.v (.sl (au dm))),(2,.v (.box [ti nt,ti nn,ti ns,.sl (aQ aj)]))]) (bn:=1200) (by simp) ?_;apply aa.seq;obtain⟨c1,bN⟩:=aY (decide (¬fk ⟨nt,nn,ns,aj⟩\/¬gz ⟨nt,nn,ns,aj⟩ dm):Bool);refine aa.bL bb fw [(1,.v (.sl (au dm))),(2,.v (.box [ti nt,ti nn,ti ns,.sl (aQ aj)])),(15,.v (.bool c1))] ?_ ?_
 .by_cases q1:fk ⟨nt,nn,ns,aj⟩
  .by_cases q2:gz ⟨nt,nn,ns,aj⟩ dm
   .have:c1=false:=by rw[<-bN];simp[q1,q2]
    simp[JN,XW,h1,h2,q1,q2,this]
   .have:c1=true:=by rw[<-bN];simp[q2]
    simp[JN,XW,h1,h2,q1,q2,this]
  .have:c1=true:=by rw[<-bN];simp[q1]
   simp[JN,XW,h1,q1,this]
 refine aa.cond rfl (λg=>?_) (λg=>?_)
 .rw[g]at bN;have bN:=BN bN;rw[iK (λh=>bN.elim (λq=>q h.1) (λq=>q h.2))]at hR;subst hR;apply aa.ai bb fw [4];simp[VJ];apply aa.ret;simp[dI]
 .rw[g]at bN;have bN:=uF bN;simp only[Zds,Classical.not_not]at bN;obtain⟨Bb,nk⟩:=bN;apply aa.skip;simp;rw[ee ⟨Bb,nk⟩]at hR;have hg:=Ka Bb nk;have hn:=Bb.ok;simp only at hR hg;apply aa.ai bb fw [5];simp[VK,XW,hn,nk,hg,hR];apply aa.ai bb fw [4];simp[VL];apply aa.ret;simp[dI]
def wG(v:List cX)(i:Nat):Prop:=¬(v.getD i default).size>1000
instance(v:List cX)(i:Nat):Decidable (wG v i):=by unfold wG;infer_instance
def Kb(n:ay)(dm:ba):Prop:=(fk n/\gz n dm)/\∀i,i<(mi n dm).length->wG (mi n dm) i
instance(n:ay)(dm:ba):Decidable (Kb n dm):=by unfold Kb;infer_instance
def auA:aw ak (bz [(41,s20),(98,s44),(99,s45)]):=by
 refine aw.cons (aw.cons (aw.cons aw.nil ?_) ?_) ?_
 .rintro ts ⟨a,b,c,l,i,rfl,h1,h2⟩;exact⟨by simpa [ay.enc]using t45 ⟨a,b,c,l⟩ i h1 h2,λh=>by cases h⟩
 .rintro ts ⟨a,b,c,l,i,rfl,h⟩;exact⟨by simpa [ay.enc]using t44 ⟨a,b,c,l⟩ i h,λ_=>rfl⟩
 .rintro ts ⟨a,b,c,l,rfl,h⟩;exact⟨by simpa [ay.enc]using t20 ⟨a,b,c,l⟩ h,λ_=>rfl⟩
def Kc{n:ay}{dm:ba}(h1:fk n)(h2:gz n dm):(mi n dm).length<=1000:=by
 unfold mi;rw[ee ⟨h1,h2⟩];have:=(u0 (Ka h1 h2)).1;have:=h1.ok.2.1;omega
def t22(n:ay)(dm:ba)(h1:n.aj.length<=9223372036854775807)(h2:dm.length<=9223372036854775807):aJ ak 44 [n.enc,.sl (au dm)] (.bool (decide (Kb n dm))):=by
 obtain⟨v,hv⟩:=aY (decide (Kb n dm));rw[hv];have dB:Kb n dm↔(fk n/\gz n dm)/\∀i,i<(mi n dm).length->wG (mi n dm) i:=Iff.rfl;have cW:¬Kb n dm->v=false:=λh=>by rw[<-hv];simp[h]
 have hll:=λa b=>Kc (n:=n) (dm:=dm) a b;obtain⟨V,hV⟩:=aY (mi n dm);rw[hV]at dB hll;obtain⟨nt,nn,ns,aj⟩:=n;simp only at h1;have bb:=auA;refine c22.ok (by simp) (aH ?_);simp[ay.enc];apply aa.ai bb fw [1,2];simp[ank];refine aa.lk (o:=[]) (l:=[(1,.v (.sl (au dm))),(2,.v (.box [ti nt,ti nn,ti ns,.sl (aQ aj)]))]) (bn:=1200) (by simp) ?_;apply aa.seq;obtain⟨c1,bN⟩:=aY (decide (¬fk ⟨nt,nn,ns,aj⟩\/¬gz ⟨nt,nn,ns,aj⟩ dm):Bool);refine aa.bL bb fw [(1,.v (.sl (au dm))),(2,.v (.box [ti nt,ti nn,ti ns,.sl (aQ aj)])),(15,.v (.bool c1))] ?_ ?_
 .by_cases q1:fk ⟨nt,nn,ns,aj⟩
  .by_cases q2:gz ⟨nt,nn,ns,aj⟩ dm
   .have:c1=false:=by rw[<-bN];simp[q1,q2]
    simp[VN,XW,h1,h2,q1,q2,this]
   .have:c1=true:=by rw[<-bN];simp[q2]
    simp[VN,XW,h1,h2,q1,q2,this]
  .have:c1=true:=by rw[<-bN];simp[q1]
   simp[VN,XW,h1,q1,this]
 refine aa.cond rfl (λg=>?_) (λg=>?_)
 .rw[g]at bN;have bN:=BN bN;apply aa.ai bb fw [4];simp[anl];apply aa.ret;rw[cW λh=>bN.elim (λq=>q (dB.1 h).1.1) (λq=>q (dB.1 h).1.2)];simp[dI]
 .rw[g]at bN;have bN:=uF bN;simp only[Zds,Classical.not_not]at bN;obtain⟨Bb,nk⟩:=bN;apply aa.skip;simp;have hVl:=hll Bb nk;apply aa.ai bb fw [5];simp[anm,XW,h1,h2,hV];apply aa.sq bb fw [5,6];simp[ann];apply aa.block;refine aa.loop (λy:Nat=>⟨DM.look [(5,.v (.sl (cU V))),(6,.v (ti y))],cR [],2000,1000,[]⟩)
   (λy=>y<=V.length/\∀i,i<y->wG V i) (λy=>V.length-y) 0 (Le.aL (o:=[]) ?_ ?_ ?_ ?_) (by simp) (λy hy=>?_)
  iterate 4(·simp)
  obtain⟨vy,fI⟩:=hy;apply aa.sq bb fw [5,6,22];simp[ano];refine aa.cond rfl (λaS=>?_) (λaS=>?_)
  .have aS:y<V.length:=by simpa using aS
   apply aa.skip;simp;apply aa.seq;apply aa.block;have rr:=jU aS;obtain⟨x,hx⟩:=aY (V.getD y default);rw[hx]at rr;apply aa.ai bb fw [5,6,30];simp[anp,aS,rr];refine aa.cond rfl (λh8=>?_) (λh8=>?_)
   .have h8:x.size>1000:=by simpa using h8
    apply aa.ai bb fw [4];simp[anq];apply aa.ret;rw[cW λh=>by have:=(dB.1 h).2 y aS;unfold wG at this;rw[hx]at this;exact this h8];simp[dI]
   .have h8:¬x.size>1000:=by simpa using h8
    apply aa.skip;simp;apply aa.cZ bb fw [5,6];simp[anr];rw[av (x:=(y:Int)+1) (by omega)];refine⟨y+1,Le.aL (o:=[]) ?_ ?_ ?_ ?_,⟨by omega,λi hi=>?_⟩,by omega⟩;iterate 4(·simp)
    .by_cases e:i=y
     .subst e;unfold wG;rw[hx];exact h8
     .exact fI i (by omega)
  .have El:y=V.length:=by simp at aS;omega
   subst El;apply aa.exit;simp;apply aa.ai bb fw [4];simp[ans];apply aa.ret;have:v=true:=by rw[<-hv];exact decide_eq_true (dB.2 ⟨⟨Bb,nk⟩,fI⟩)
   rw[this];simp[dI]
section
variable{st nn:Int}{f:Nat}{cells:List Cell}
def Hr(l:List Cell):iY.je (bl l).flatten=true:=by
 induction l with
 |nil=>rfl
 |cons x l ih=>simpa [bl,Cell.enc,iY.je,iY]using ih
def Df{k:Nat}(h:(k:Int)<=st)(hf:f<=k):pre st f<=pre st k:=by
 induction k with
 |zero=>
   obtain rfl:f=0:=by omega
   omega
 |succ k ih=>
  by_cases e:f=k+1
  .subst e;omega
  .have:=ih (by omega) (by omega);simp only[pre];omega
def Hs(st:Int):∀n:Nat,2*pre st n=n*(2*st-n+1)
 |0=>by simp[pre]
 |n+1=>by
  have:=Hs st n;simp only[pre];have e:2*(pre st n+st-n)=2*pre st n+2*st-2*n:=by omega
  rw[e,this]
  push_cast
  grind
def qD(h:0<=st):pj nn st=nn*pre st st.toNat:=by
 unfold pj;have h2:=Hs st st.toNat;rw[show((st.toNat:Nat):Int)=st by omega]at h2;have e:nn*st*(st+1)=2*(nn*pre st st.toNat):=by grind
 rw[e];omega
def Dh{t:Nat}(h1:0<nn)(h3:(t:Int)<st)(h4:f<=t){i:Int}(hi:i<nn):dO nn st f t+i<pj nn st:=by
 rw[qD (by omega)];have h5:=Df (st:=st) (f:=f+1) (k:=st.toNat) (by omega) (by omega);simp only[pre]at h5;have h6:(pre st f+t-f+1)*nn<=pre st st.toNat*nn:=ZcC (by omega) (by omega);unfold dO;rw[Int.mul_comm nn];have:(pre st f+t-f+1)*nn=(pre st f+t-f)*nn+nn:=by grind
 omega
def wC(cells own:List Cell)(dC:Nat)(y:Nat):List Cell:=(List.range y).foldl (λcs i=>cs.set (dC+i) (own.getD i default)) cells
def uX(cells own:List Cell)(dC y:Nat):wC cells own dC (y+1)=(wC cells own dC y).set (dC+y) (own.getD y default):=by simp[wC,Gy,uK]
@[simp] def JZ(cells own:List Cell)(dC y:Nat):(wC cells own dC y).length=cells.length:=by
 induction y with
 |zero=>rfl
 |succ y ih=>rw[uX,List.length_set,ih]
def Wb{own:List Cell}{dC y:Nat}{x:Cell}(h:x∈wC cells own dC y)(hy:y<=own.length):x∈cells\/x∈own:=by
 induction y with
 |zero=>exact .inl h
 |succ y ih=>
  rw[uX]at h;rcases Zbv h with h|rfl
  .exact ih h (by omega)
  .exact .inr (bu (by omega))
def ya(n:ay)(l:aF)(len:Nat)(cells:List Cell)(f:Nat):List Cell:=
 wC cells (sP n l ⟨n.an,l.bf,cells⟩ f ((f:Int)+len)) (dO n.an l.bf f (f+len)).toNat n.an.toNat
def mf(n:ay)(l:aF)(cells:List Cell)(len:Nat):List Cell:=(List.range (l.bf.toNat-len)).foldl (ya n l len) cells
def qR(n:ay)(l:aF):List Cell:=(List.range l.bf.toNat).foldl (mf n l) (List.replicate (pj n.an l.bf).toNat ⟨0,0,0,0⟩)
def sU(n:ay)(l:aF):bI:=⟨n.an,l.bf,qR n l⟩
def Dg{n:ay}{l:aF}{c:bI}{fr to:Nat}(hn:qf n)(hl:wB l)(hc:JT c)(yF:fr<=to)(nJ:to<=1000):nC n (sP n l c fr to):=
 (JX hn hl hc yF nJ (λ_=>True) trivial λ_ _ _ _ _=>trivial).1
def jD(n:ay)(l:aF)(cells:List Cell):Prop:=(cells.length:Int)=pj n.an l.bf/\∀x∈cells,mG x.val
def jD.ok{n:ay}{l:aF}(hn:qf n)(hl:wB l)(h:jD n l cells):JT ⟨n.an,l.bf,cells⟩:=by
 have h1:=hn.1;have h2:=hn.2.1;have h3:=hl.1;have h4:=hl.2.1;refine⟨by simp only;omega,h2,by simp only;omega,h4, ?_,h.2⟩;have:=qD (nn:=n.an) (st:=l.bf) (by omega);have hb:=(d5 h4 l.bf.toNat (by omega));have:=g9 (a:=n.an) (A:=1000) (b:=pre l.bf l.bf.toNat) (B:=1000000) (by omega) (by omega) hb.1 (by omega);have:=h.1;simp only;omega
def jD.step{n:ay}{l:aF}(hn:qf n)(hl:wB l)(h:jD n l cells){len y:Nat}(yF:f+len<=1000)(hy:y<=n.an.toNat)(a:Nat):jD n l (wC cells (sP n l ⟨n.an,l.bf,cells⟩ f ((f:Int)+len)) a y):=by
 have ho:=Dg hn hl (h.ok hn hl) (fr:=f) (to:=f+len) (by omega) yF;rw[show((f+len:Nat):Int)=(f:Int)+len by omega]at ho;refine⟨by rw[JZ];exact h.1,λx hx=>?_⟩;rcases Wb hx (by have:=ho.1;omega)with hx|hx
 .exact h.2 x hx
 .exact(ho.2 x hx).1
def Bp{n:ay}{l:aF}{cells:List Cell}(hn:qf n)(hl:wB l)(h:jD n l cells){len:Nat}:∀k,(k+len:Nat)<=1001->jD n l ((List.range k).foldl (ya n l len) cells)
 |0,_=>h
 |k+1,hk=>by
  rw[Gy,uK];exact(Bp hn hl h k (by omega)).step hn hl (by omega) (gJ _) _
def Wc{n:ay}{l:aF}(hn:qf n)(hl:wB l):jD n l (List.replicate (pj n.an l.bf).toNat ⟨0,0,0,0⟩):=by
 have h4:=hl.2.1;have hb:=(d5 h4 l.bf.toNat (by have:=hl.1;omega));have:=Zc5 (a:=n.an) (by have:=hn.1;omega) hb.1;have:=qD (nn:=n.an) (st:=l.bf) (by have:=hl.1;omega);refine⟨by rw[ZbW];omega,λx hx=>?_⟩;rw[Zce hx];simp[mG]
def Di{n:ay}{l:aF}(hn:qf n)(hl:wB l):∀k:Nat,(k:Int)<=l.bf->jD n l ((List.range k).foldl (mf n l) (List.replicate (pj n.an l.bf).toNat ⟨0,0,0,0⟩)):=by
 intro k;induction k with
 |zero=>intro _;exact Wc hn hl
 |succ k ih=>
  intro hk;rw[Gy,uK];exact Bp hn hl (ih (by omega)) _ (by have:=hl.2.1;omega)
end
section
variable{h:Int}
inductive nu(n:ay)(l:aF):Int->Nat->Nat->Nat->Int->cX->Prop
 |empty {s k:Nat} {r:bC} (hk:n.aj[k]? =some r) (h1:r.kind=1) (hv:(gv r.bi []).aA<1099511627776):nu n l r.head s s k s (gv r.bi [])
 |term {s t k a:Nat} {r:bC} {x:bF} (hk:n.aj[k]? =some r) (h1:r.kind=2) (ha:l.aK[a]? =some x) (h2:x.f=s) (h3:x.t=t) (h4:x.term=r.a)
   (hv:(gv (r.bi+x.aA) []).aA<1099511627776):nu n l r.head s t k a (gv (r.bi+x.aA) [])
 |unary {s t k k1:Nat} {g1:Int} {r:bC} {v:cX} (hk:n.aj[k]? =some r) (h1:r.kind=3) (d:nu n l r.a s t k1 g1 v) (hv:(gv r.bi [v]).aA<1099511627776):nu n l r.head s t k s (gv r.bi [v])
 |fW {s m t k k1 k2:Nat} {g1 g2:Int} {r:bC} {v w:cX} (hk:n.aj[k]? =some r) (h1:r.kind=4) (hs:s<=m) (ht:m<=t) (d1:nu n l r.a s m k1 g1 v) (d2:nu n l r.b m t k2 g2 w)
   (hv:(gv r.bi [v,w]).aA<1099511627776):nu n l r.head s t k m (gv r.bi [v,w])
def Tq(n:ay)(l:aF)(h:Int)(s t:Nat)(v:cX):Prop:=∃k g,nu n l h s t k g v
def JS(k:Int)(g:Int)(k':Int)(g':Int):Prop:=k<k'\/(k=k'/\g<=g')
structure Good(n:ay)(l:aF)(h:Int)(s t:Nat)(x:Cell):Prop where
 sN:∀v,Tq n l h s t v->¬v.lt x.val
 top:x=vD\/((∃k:Nat,x.wQ=k/\nu n l h s t k x.arg x.val)/\∀(k':Nat) g',nu n l h s t k' g' x.val->JS x.wQ x.arg k' g')
def nu.dM{n:ay}{l:aF}{s t k:Nat}{g:Int}{v:cX}(d:nu n l h s t k g v):v.aA<1099511627776:=by
 cases d<;>assumption
def Tq.dM{n:ay}{l:aF}{s t:Nat}{v:cX}(d:Tq n l h s t v):v.aA<1099511627776:=by
 obtain⟨k,g,d⟩:=d;exact d.dM
def cX.pc{a b:cX}(h1:¬a.lt b)(h2:¬b.lt a):a=b:=by
 obtain⟨a1,a2⟩:=a;obtain⟨b1,b2⟩:=b;simp only[cX.lt]at h1 h2;have:a1=b1:=by omega
 have:a2=b2:=by omega
 simp[*]
def Cell.ext'{a b:Cell}(h1:a.val=b.val)(h2:a.wQ=b.wQ)(h3:a.arg=b.arg):a=b:=by
 obtain⟨a1,a2,a3,a4⟩:=a;obtain⟨b1,b2,b3,b4⟩:=b;simp only[Cell.val,cX.mk.injEq]at h1 h2 h3;simp[h1,h2,h3]
def Good.awy{n:ay}{l:aF}{s t:Nat}{x y:Cell}(hx:Good n l h s t x)(hy:Good n l h s t y):x.val=y.val:=by
 have key:∀{x y:Cell},Good n l h s t x->Good n l h s t y->x=vD->x.val=y.val:=by
  intro x y hx hy e;subst e;rcases hy.top with rfl|⟨⟨k,_,d⟩,_⟩
  .rfl
  .exact qe (show y.val.lt vD.val by left;exact d.dM) (hx.sN _ ⟨k,_,d⟩)
 rcases hx.top with e|⟨⟨k,_,d⟩,_⟩
 .exact key hx hy e
 .rcases hy.top with e|⟨⟨k',_,d'⟩,_⟩
  .exact(key hy hx e).symm
  .exact cX.pc (hy.sN _ ⟨k,_,d⟩) (hx.sN _ ⟨k',_,d'⟩)
def Good.awz{n:ay}{l:aF}{s t:Nat}{x y:Cell}(hx:Good n l h s t x)(hy:Good n l h s t y):x=y:=by
 have hv:=hx.awy hy;rcases hx.top with e|⟨⟨k,e1,d⟩,m⟩
 .rcases hy.top with e'|⟨⟨k',_,d'⟩,_⟩
  .rw[e,e']
  .have:=d'.dM;rw[<-hv,e]at this;exact qe this (by decide)
 .rcases hy.top with e'|⟨⟨k',e2,d'⟩,m'⟩
  .have:=d.dM;rw[hv,e']at this;exact qe this (by decide)
  .have a:=m k' y.arg (hv▸d');have b:=m' k x.arg (hv▸d);unfold JS at a b;refine Cell.ext' hv ?_ ?_<;>omega
def Au(c:Int):gv c []=if c>=1099511627776 then⟨1099511627776,0⟩else⟨c,1⟩:=rfl
def Av(c:Int)(v:cX):gv c [v]=if min (c+v.aA) 1099511627776>=1099511627776 then⟨1099511627776,0⟩else⟨min (c+v.aA) 1099511627776,min (1+v.size) 1099511627776⟩:=rfl
def FB(c:Int)(v w:cX):gv c [v,w]=if min (min (c+v.aA) 1099511627776+w.aA) 1099511627776>=1099511627776 then⟨1099511627776,0⟩else⟨min (min (c+v.aA) 1099511627776+w.aA) 1099511627776,min (min (1+v.size) 1099511627776+w.size) 1099511627776⟩:=rfl
def Si{c:Int}{v:cX}(hc:0<=c)(h:(gv c [v]).aA<1099511627776):v.aA<1099511627776:=by
 rw[Av]at h;split at h
 .simp at h
 .simp only at h;omega
def Sj{c:Int}{v w:cX}(hc:0<=c)(hv:0<=v.aA)(hw:0<=w.aA)(h:(gv c [v,w]).aA<1099511627776):v.aA<1099511627776/\w.aA<1099511627776:=by
 rw[FB]at h;split at h
 .simp at h
 .simp only at h;omega
def mT{c:Int}{v v':cX}(h:¬v.lt v'):¬(gv c [v]).lt (gv c [v']):=by
 rw[Av,Av];unfold cX.lt at h⊢;split<;>split<;>simp only<;>omega
def pd{c:Int}{v v' w w':cX}(p1:0<=v.aA)(p2:0<=v'.aA)(p3:0<=w.aA)(p4:0<=w'.aA)(hv:¬v.lt v')(hw:¬w.lt w'):¬(gv c [v,w]).lt (gv c [v',w']):=by
 rw[FB,FB];unfold cX.lt at hv hw⊢;split<;>split<;>simp only<;>omega
def iP{a b c:cX}(h:¬b.lt a)(k:¬c.lt b):¬c.lt a:=by
 unfold cX.lt at*
 omega
def sO(n:ay)(l:aF)(c:bI)(own:List Cell)(s t:Nat)(k:Nat)(g:Int)(v:cX):Prop:=
 ∃r,n.aj[k]? =some r/\((r.kind=1/\s=t/\g=s/\v=gv r.bi [])\/
  (r.kind=2/\∃(a:Nat) (x:bF),l.aK[a]? =some x/\x.f=s/\x.t=t/\x.term=r.a/\g=a/\v=gv (r.bi+x.aA) [])\/
  (r.kind=3/\g=s/\v=gv r.bi [dv c own s t r.a s t])\/
  (r.kind=4/\∃d:Nat,s+d<=t/\g=s+d/\v=gv r.bi [dv c own s t r.a s (s+d),dv c own s t r.b (s+d) t]))
def vE(x:Cell)(v:cX)(i g:Int):eZ x v i g=x\/(v.aA<1099511627776/\¬x.val.lt v/\eZ x v i g=⟨v.aA,v.size,i,g⟩):=by
 unfold eZ;split
 .exact .inl rfl
 .rename_i h;split
  .rename_i h2;refine .inr ⟨by omega, ?_,rfl⟩;rcases h2 with h2|⟨rfl,_⟩
   .unfold cX.lt at*;omega
   .unfold cX.lt;omega
  .exact .inl rfl
def rZ{x:Cell}{v:cX}{i g:Int}(h:eZ x v i g=x)(hv:v.aA<1099511627776):¬v.lt x.val/\(v=x.val->JS x.wQ x.arg i g):=by
 obtain⟨xc,xs,xr,xa⟩:=x;obtain⟨vc,vs⟩:=v;unfold eZ at h;rw[iK (by simp only at hv⊢;omega)]at h;split at h
 .rename_i h2;simp only[Cell.mk.injEq]at h;obtain⟨rfl,rfl,rfl,rfl⟩:=h;simp only[Cell.val,cX.lt]at h2;exfalso;rcases h2 with h2|⟨_,h2⟩<;>omega
 .rename_i h2;simp only[Zds,not_and]at h2;refine⟨h2.1,λe=>?_⟩;have:=h2.2 e;unfold JS;simp only at this⊢;omega
def Hm{n:ay}{l:aF}{c:bI}{own:List Cell}{s t k:Nat}{r:bC}(hk:n.aj[k]? =some r)(Vz:r.kind=1\/r.kind=2\/r.kind=3\/r.kind=4)(iO:s<=t)(x:Cell):
  nB r l c own s t k x=x\/∃g v,sO n l c own s t k g v/\v.aA<1099511627776/\¬x.val.lt v/\nB r l c own s t k x=⟨v.aA,v.size,k,g⟩:=by
 have aoy:∀(f:Cell->Nat->Cell) (N:Nat),(∀y j,j<N->f y j=y\/∃g v,sO n l c own s t k g v/\v.aA<1099511627776/\¬y.val.lt v/\f y j=⟨v.aA,v.size,k,g⟩)->
   (List.range N).foldl f x=x\/∃g v,sO n l c own s t k g v/\v.aA<1099511627776/\¬x.val.lt v/\(List.range N).foldl f x=⟨v.aA,v.size,k,g⟩:=by
  intro f N;induction N with
  |zero=>intro _;exact .inl rfl
  |succ N ih=>
   intro h;rw[Gy,uK];have ih:=ih λy j hj=>h y j (by omega);simp only[Br,Zcy];obtain⟨y,hy⟩:=aY ((List.range N).foldl f x);rw[hy]at ih⊢;rcases h y N (by omega)with e|⟨g,v,h1,h2,h3,h4⟩
   .rw[e];exact ih
   .refine .inr ⟨g,v,h1,h2, ?_,h4⟩;rcases ih with rfl|⟨g',v',_,_,h3',rfl⟩
    .exact h3
    .have aur:¬(⟨v'.aA,v'.size⟩:cX).lt v:=h3;exact iP aur h3'
 have one:∀(y:Cell) (v:cX) (g:Int),sO n l c own s t k g v->eZ y v k g=y\/∃g v,sO n l c own s t k g v/\v.aA<1099511627776/\¬y.val.lt v/\eZ y v k g=⟨v.aA,v.size,k,g⟩:=by
  intro y v g hi;rcases vE y v k g with e|⟨h1,h2,h3⟩
  .exact .inl e
  .exact .inr ⟨g,v,hi,h1,h2,h3⟩
 unfold nB;split
 .rename_i h1;split
  .rename_i h2;rcases vE x (gv r.bi []) k s with e|⟨h3,h4,h5⟩
   .exact .inl e
   .exact .inr ⟨_,_,⟨r,hk,.inl ⟨h1,by omega,rfl,rfl⟩⟩,h3,h4,h5⟩
  .exact .inl rfl
 .split
  .rename_i h1;refine aoy _ _ λy j hj=>?_;unfold stepT;split
   .rename_i h2;have ha:l.aK[j]? =some (l.aK.getD j default):=by simp[List.getD,hj]
    rcases vE y (gv (r.bi+(l.aK.getD j default).aA) []) k j with e|⟨h3,h4,h5⟩
    .exact .inl e
    .exact .inr ⟨_,_,⟨r,hk,.inr (.inl ⟨h1,j,_,ha,h2.1,h2.2.1,h2.2.2,rfl,rfl⟩)⟩,h3,h4,h5⟩
   .exact .inl rfl
  .split
   .rename_i h1;rcases vE x (gv r.bi [dv c own s t r.a s t]) k s with e|⟨h3,h4,h5⟩
    .exact .inl e
    .exact .inr ⟨_,_,⟨r,hk,.inr (.inr (.inl ⟨h1,rfl,rfl⟩))⟩,h3,h4,h5⟩
   .rename_i h1 h2 h3;have h4:r.kind=4:=by omega
    refine aoy _ _ λy j hj=>?_;unfold jh;rcases vE y (gv r.bi [dv c own s t r.a s (s+j),dv c own s t r.b (s+j) t]) k (s+j)with e|⟨h5,h6,h7⟩
    .exact .inl e
    .exact .inr ⟨_,_,⟨r,hk,.inr (.inr (.inr ⟨h4,j,by omega,rfl,rfl⟩))⟩,h5,h6,h7⟩
def Da{f:Cell->Nat->Cell}:∀{N:Nat},(∀x k,k<N->nQ x->goes x (f x k))->∀x,nQ x->(List.range N).foldl f x=x->∀k,k<N->f x k=x
 |0,_,_,_,_,k,h=>by omega
 |N+1,hf,x,hx,he,k,hk=>by
  rw[Gy,uK]at he;simp only[Br,Zcy]at he;have h1:=za (λx k hk=>hf x k (by omega)) x hx (N:=N);obtain⟨z,hz⟩:=aY ((List.range N).foldl f x);rw[hz]at h1 he;have h2:=hf z N (by omega) h1.1;rw[he]at h2;have e:z=x:=by
   rcases h1.2 with e|h1
   .exact e
   .rcases h2.2 with e|h2
    .exact e.symm
    .omega
  subst e;by_cases hkN:k=N
  .subst hkN;exact he
  .exact Da (λx k hk=>hf x k (by omega)) z hx hz k (by omega)
end
section
variable{r:bC}{own:List Cell}{h:Int}{s' t':Nat}
def cP{n:ay}(hn:qf n){k:Nat}(h:n.aj[k]? =some r):me n r/\k<n.aj.length/\n.aj.getD k default=r:=by
 have hk:=(tp.1 h).1;exact⟨hn.2.2.2 r (Hf h),hk,by simp[List.getD,h]⟩
def Sk{n:ay}(h:me n r):r.kind=1\/r.kind=2\/r.kind=3\/r.kind=4:=by
 obtain⟨_,_,_,_,h⟩:=h;omega
section
variable{n:ay}{l:aF}{c:bI}{s t:Nat}
structure AU(n:ay)(l:aF)(c:bI)(s t:Nat):Prop where
 hn:qf n
 hl:wB l
 hc:JT c
 ar:∀a∈l.aK,a.f<=a.t
 st:s<=t
 tm:t<=1000
 inn:∀(h:Int) (s' t':Nat),0<=h->h<n.an->s<=s'->s'<=t'->t'<=t->(s'≠s\/t'≠t)->Good n l h s' t' (gp c h s' t')
def PS(n:ay)(l:aF)(c:bI)(s t:Nat)(own:List Cell):Prop:=
 ∀h:Nat,h<own.length->own.getD h default=vD\/(Tq n l h s t (own.getD h default).val/\
  ∃(k:Nat) (g:Int) (v:cX),sO n l c own s t k g v/\(∃r,n.aj[k]? =some r/\r.head=h)/\(own.getD h default).wQ=k/\(own.getD h default).arg=g/\¬(own.getD h default).val.lt v)
def iG(C:AU n l c s t)(ho:nC n own)(h0:0<=h)(h1:h<n.an)(f t':Int):mG (dv c own s t h f t'):=
 XV ⟨C.hc,by have:=ho.1;have:=C.hn.2.1;omega,λ_=>⟨h0,by have:=ho.1;omega⟩⟩ ho.ok.2
def zb(C:AU n l c s t)(ho:nC n own)(hp:PS n l c s t own)(h0:0<=h)(h1:h<n.an)(a1:s<=s')(a2:s'<=t')(a3:t'<=t)
  (hf:(dv c own s t h s' t').aA<1099511627776):Tq n l h s' t' (dv c own s t h s' t'):=by
 obtain⟨h,rfl⟩:=bX h0;unfold dv at hf⊢;split
 .rename_i e;rw[ee e]at hf;have e1:s'=s:=by omega
  have e2:t'=t:=by omega
  subst e1 e2;simp only[gN]at hf⊢;rcases hp h (by have:=ho.1;omega)with e|⟨d,_⟩
  .rw[e]at hf;exact qe hf (by decide)
  .exact d
 .rename_i e;rw[iK e]at hf;rcases(C.inn h s' t' h0 h1 a1 a2 a3 (by omega)).top with e|⟨⟨k,_,d⟩,_⟩
  .rw[e]at hf;exact qe hf (by decide)
  .exact⟨k,_,d⟩
def JU(C:AU n l c s t)(ho:nC n own)(hp:PS n l c s t own){k:Nat}{g:Int}{v:cX}(hk:n.aj[k]? =some r)(h:sO n l c own s t k g v)(hf:v.aA<1099511627776):nu n l r.head s t k g v:=by
 obtain⟨r',wi,h⟩:=h;rw[hk]at wi;cases wi;obtain⟨q1,q2,q3,q4,q5⟩:=(cP C.hn hk).1;rcases h with⟨h1,rfl,rfl,rfl⟩|⟨h1,a,x,ha,h2,h3,h4,rfl,rfl⟩|⟨h1,rfl,rfl⟩|⟨h1,d,hd,rfl,rfl⟩
 .exact nu.empty hk h1 hf
 .exact nu.term hk h1 ha h2 h3 h4 hf
 .obtain⟨k1,g1,d1⟩:=zb C ho hp (h:=r.a) (by omega) (by omega) (gJ s) C.st (gJ t) (Si q3 hf);exact nu.unary hk h1 d1 hf
 .have o1:=iG C ho (h:=r.a) (by omega) (by omega) s (s+d);have o2:=iG C ho (h:=r.b) (by omega) (by omega) (s+d) t;have hff:=Sj q3 o1.1 o2.1 hf;have e:((s:Int)+d)=((s+d:Nat):Int):=by omega
  rw[e]at hf hff⊢;obtain⟨k1,g1,d1⟩:=zb C ho hp (h:=r.a) (by omega) (by omega) (gJ s) (by omega) hd hff.1;obtain⟨k2,g2,d2⟩:=zb C ho hp (h:=r.b) (by omega) (by omega) (by omega) hd (gJ t) hff.2;exact nu.fW hk h1 (by omega) hd d1 d2 hf
def FC(C:AU n l c s t){agI:List Cell}(ho:nC n own)(j5:nC n agI)(hm:∀(h f t':Int),0<=h->h<n.an->¬(dv c own s t h f t').lt (dv c agI s t h f t')){k:Nat}{g:Int}{v:cX}(h:sO n l c own s t k g v):
  ∃v',sO n l c agI s t k g v'/\¬v.lt v':=by
 obtain⟨r,hk,h⟩:=h;obtain⟨q1,q2,q3,q4,q5⟩:=(cP C.hn hk).1;rcases h with⟨h1,rfl,rfl,rfl⟩|⟨h1,a,x,ha,h2,h3,h4,rfl,rfl⟩|⟨h1,rfl,rfl⟩|⟨h1,d,hd,rfl,rfl⟩
 .exact⟨_,⟨r,hk,.inl ⟨h1,rfl,rfl,rfl⟩⟩,by unfold cX.lt;omega⟩
 .exact⟨_,⟨r,hk,.inr (.inl ⟨h1,a,x,ha,h2,h3,h4,rfl,rfl⟩)⟩,by unfold cX.lt;omega⟩
 .exact⟨_,⟨r,hk,.inr (.inr (.inl ⟨h1,rfl,rfl⟩))⟩,mT (hm _ _ _ (by omega) (by omega))⟩
 .refine⟨_,⟨r,hk,.inr (.inr (.inr ⟨h1,d,hd,rfl,rfl⟩))⟩,pd ?_ ?_ ?_ ?_ (hm _ _ _ (by omega) (by omega)) (hm _ _ _ (by omega) (by omega))⟩
  .exact(iG C ho (by omega) (by omega) _ _).1
  .exact(iG C j5 (by omega) (by omega) _ _).1
  .exact(iG C ho (by omega) (by omega) _ _).1
  .exact(iG C j5 (by omega) (by omega) _ _).1
def JV{i h:Nat}{y:Cell}(hi:i<own.length):(own.set i y).getD h default=if h=i then y else own.getD h default:=by
 simp only[List.getD,Zb1];by_cases e:i=h
 .subst e;simp[hi]
 .have e':¬h=i:=λx=>e x.symm;simp[e,e']
def aaM(C:AU n l c s t){k:Nat}(ho:nC n own)(hk:k<n.aj.length)(hp:PS n l c s t own):PS n l c s t (qC n l c s t own k):=by
 have j5:=(Db C.hn C.hl C.hc ho hk C.st C.tm).1;have hr:n.aj[k]? =some (n.aj.getD k default):=by simp[List.getD,hk]
 obtain⟨r,er⟩:=aY (n.aj.getD k default);unfold qC at j5⊢;unfold fD at j5⊢;rw[er]at hr j5⊢;have th:=(cP C.hn hr).1;obtain⟨hd,ehd⟩:=bX th.1;have u7:hd<own.length:=by have:=ho.1;have:=th.2.1;omega
 rw[ehd]at j5⊢;simp only[gN]at j5⊢;obtain⟨x,hx⟩:=aY (own.getD hd default);rw[hx]at j5⊢;rcases Hm (c:=c) (own:=own) hr (Sk th) C.st x with e|⟨g,v,hi,hf,io,e⟩
 .rw[e,<-hx,Dd rfl];exact hp
 .rw[e]at j5⊢;have hm:∀(h f t':Int),0<=h->h<n.an->¬(dv c own s t h f t').lt (dv c (own.set hd ⟨v.aA,v.size,k,g⟩) s t h f t'):=by
   intro h f t' h0 h1;unfold dv;split
   .rw[JV u7];split
    .rename_i e2;rw[e2,hx];exact io
    .unfold cX.lt;omega
   .unfold cX.lt;omega
  have aus:=JU C ho hp hr hi hf;intro h hh;rw[JV u7];split
  .rename_i e2;subst e2;obtain⟨v',wY,IF⟩:=FC C ho j5 hm hi;exact .inr ⟨⟨k,g,by rw[<-ehd];exact aus⟩,k,g,v',wY,⟨r,hr,ehd⟩,rfl,rfl,IF⟩
  .rcases hp h (by simpa using hh)with e3|⟨d,k1,g1,v1,hi1,ql,h2,h3,h4⟩
   .exact .inl e3
   .obtain⟨v',wY,IF⟩:=FC C ho j5 hm hi1;exact .inr ⟨d,k1,g1,v',wY,ql,h2,h3,iP IF h4⟩
def aaN(C:AU n l c s t):PS n l c s t (EB n):=by
 intro h hh;left;have hh:h<n.an.toNat:=by simpa [EB]using hh
 simp[EB,List.getD,hh]
def De(C:AU n l c s t)(ho:nC n own)(vw:Sl n l c s t own){k:Nat}{g:Int}{v:cX}(hk:n.aj[k]? =some r)(h:sO n l c own s t k g v)(hf:v.aA<1099511627776):
  ¬v.lt (own.getD r.head.toNat default).val/\(v=(own.getD r.head.toNat default).val->JS (own.getD r.head.toNat default).wQ (own.getD r.head.toNat default).arg k g):=by
 obtain⟨r',wi,h⟩:=h;rw[hk]at wi;cases wi;obtain⟨th,yE,hkd⟩:=cP C.hn hk;have Ll:=vw k yE;unfold fD at Ll;rw[hkd]at Ll;obtain⟨q1,q2,q3,q4,q5⟩:=th;have hcx:nQ (own.getD r.head.toNat default):=ho.2 _ (bu (by have:=ho.1;omega));obtain⟨x,hx⟩:=aY (own.getD r.head.toNat default);rw[hx]at Ll hcx⊢;have hk6:=C.hn.2.2.1;have hl1:=C.hl.2.2.1;have iO:=C.st;have nJ:=C.tm;unfold nB at Ll;rcases h with⟨h1,rfl,rfl,rfl⟩|⟨h1,a,y,ha,h2,h3,h4,rfl,rfl⟩|⟨h1,rfl,rfl⟩|⟨h1,d,hd,rfl,rfl⟩
 .rw[ee h1,ee rfl]at Ll;exact rZ Ll hf
 .rw[iK (by omega),ee h1]at Ll;have mE:=(tp.1 ha).1;have Z0:l.aK.getD a default=y:=by simp[List.getD,ha]
  have:=Da (λx k hk hx=>by
   unfold stepT;split
   .have:=C.hl.2.2.2 (l.aK.getD k default) (bu hk);exact lu hx (iv x9 (by omega) (by omega)) (by omega) (by omega) (by omega) (by omega)
   .exact uW hx) x hcx Ll a mE
  unfold stepT at this;rw[Z0,ee ⟨h2,h3,h4⟩]at this;exact rZ this hf
 .rw[iK (by omega),iK (by omega),ee h1]at Ll;exact rZ Ll hf
 .rw[iK (by omega),iK (by omega),iK (by omega)]at Ll;have:=Da (λx k hk hx=>by
   unfold jh;refine lu hx (iv (λv hv=>?_) q3 (by omega)) (by omega) (by omega) (by omega) (by omega);simp only[jv,qg,AZ]at hv;rcases hv with rfl|rfl<;>exact iG C ho (by omega) (by omega) _ _) x hcx Ll d (by omega)
  unfold jh at this;exact rZ this hf
def nu.le(ha:∀a∈l.aK,a.f<=a.t){k:Nat}{g:Int}{v:cX}(d:nu n l h s' t' k g v):s'<=t':=by
 induction d with
 |empty _ _ _=>exact gJ _
 |term _ _ hx h2 h3 _ _=>have:=ha _ (Hf hx);omega
 |unary _ _ _ _ ih=>exact ih
 |fW _ _ _ _ _ _ _ ih1 ZX=>omega
def nu.pos(hn:qf n)(hl:wB l){k:Nat}{g:Int}{v:cX}(d:nu n l h s' t' k g v):mG v:=by
 induction d with
 |empty hk _ _=>exact iv x9 (cP hn hk).1.2.2.1 (by have:=(cP hn hk).1.2.2.2.1;omega)
 |term hk _ hx _ _ _ _=>exact iv x9 (by have:=(cP hn hk).1.2.2.1;have:=hl.2.2.2 _ (Hf hx);omega) (by have:=(cP hn hk).1.2.2.2.1;have:=hl.2.2.2 _ (Hf hx);omega)
 |unary hk _ _ _ ih=>exact iv (λv hv=>by simp only[uy]at hv;subst hv;exact ih) (cP hn hk).1.2.2.1 (by have:=(cP hn hk).1.2.2.2.1;omega)
 |fW hk _ _ _ _ _ _ ih1 ZX=>exact iv (λv hv=>by simp only[jv,qg,AZ]at hv;rcases hv with rfl|rfl<;>assumption) (cP hn hk).1.2.2.1 (by have:=(cP hn hk).1.2.2.2.1;omega)
def JW(C:AU n l c s t)(ho:nC n own)(vw:Sl n l c s t own){k:Nat}{g:Int}{v:cX}(d:nu n l h s' t' k g v):
  s<=s'->t'<=t->¬v.lt (dv c own s t h s' t'):=by
 have out:∀{h:Int} {s' t':Nat} {v:cX},0<=h->h<n.an->s<=s'->s'<=t'->t'<=t->(s'≠s\/t'≠t)->Tq n l h s' t' v->¬v.lt (dv c own s t h s' t'):=by
  intro h s' t' v h0 h1 a1 a2 a3 dd d;unfold dv;rw[iK (by omega)];exact(C.inn h s' t' h0 h1 a1 a2 a3 dd).sN v d
 have onn:∀{r:bC} {k:Nat} {g:Int} {v v':cX},n.aj[k]? =some r->sO n l c own s t k g v'->¬v.lt v'->v.aA<1099511627776->¬v.lt (dv c own s t r.head s t):=by
  intro r k g v v' hk hi io hf;unfold dv;rw[ee ⟨rfl,rfl⟩];have hf':v'.aA<1099511627776:=by unfold cX.lt at io;omega
  exact iP (De C ho vw hk hi hf').1 io
 induction d with
 | @empty s0 k r hk h1 hv=>
  intro a1 a2;obtain⟨q1,q2,q3,q4,q5⟩:=(cP C.hn hk).1;by_cases e:s0=s/\s0=t
  .obtain⟨rfl,rfl⟩:=e;exact onn hk ⟨r,hk,.inl ⟨h1,rfl,rfl,rfl⟩⟩ (by unfold cX.lt;omega) hv
  .exact out q1 q2 a1 (gJ _) a2 (by omega) ⟨k,_,nu.empty hk h1 hv⟩
 | @term s0 t0 k a r x hk h1 ha h2 h3 h4 hv=>
  intro a1 a2;obtain⟨q1,q2,q3,q4,q5⟩:=(cP C.hn hk).1;by_cases e:s0=s/\t0=t
  .obtain⟨rfl,rfl⟩:=e;exact onn hk ⟨r,hk,.inr (.inl ⟨h1,a,x,ha,h2,h3,h4,rfl,rfl⟩)⟩ (by unfold cX.lt;omega) hv
  .exact out q1 q2 a1 (by have:=C.ar x (Hf ha);omega) a2 (by omega) ⟨k,_,nu.term hk h1 ha h2 h3 h4 hv⟩
 | @unary s0 t0 k k1 g1 r v hk h1 d hv ih=>
  intro a1 a2;obtain⟨q1,q2,q3,q4,q5⟩:=(cP C.hn hk).1;by_cases e:s0=s/\t0=t
  .obtain⟨rfl,rfl⟩:=e;exact onn hk ⟨r,hk,.inr (.inr (.inl ⟨h1,rfl,rfl⟩))⟩ (mT (ih (gJ _) (gJ _))) hv
  .exact out q1 q2 a1 (d.le C.ar) a2 (by omega) ⟨k,_,nu.unary hk h1 d hv⟩
 | @fW s0 m t0 k k1 k2 g1 g2 r v w hk h1 hs ht d1 d2 hv ih1 ZX=>
  intro a1 a2;obtain⟨q1,q2,q3,q4,q5⟩:=(cP C.hn hk).1;by_cases e:s0=s/\t0=t
  .obtain⟨rfl,rfl⟩:=e;have em:(m:Int)=(s0:Int)+((m-s0:Nat):Int):=by omega
   refine onn hk ⟨r,hk,.inr (.inr (.inr ⟨h1,m-s0,by omega,rfl,rfl⟩))⟩ (pd ?_ ?_ ?_ ?_ ?_ ?_) hv
   .exact(d1.pos C.hn C.hl).1
   .exact(iG C ho (by omega) (by omega) _ _).1
   .exact(d2.pos C.hn C.hl).1
   .exact(iG C ho (by omega) (by omega) _ _).1
   .rw[<-em];exact ih1 (gJ _) ht
   .rw[<-em];exact ZX hs (gJ _)
  .exact out q1 q2 a1 (by omega) a2 (by omega) ⟨k,_,nu.fW hk h1 hs ht d1 d2 hv⟩
def V7(C:AU n l c s t)(ho:nC n own)(vw:Sl n l c s t own){k:Nat}{g:Int}{v:cX}(d:nu n l h s t k g v):
  ∃r v',n.aj[k]? =some r/\r.head=h/\sO n l c own s t k g v'/\¬v.lt v':=by
 have io:=λ{h:Int} {s' t' k:Nat} {g:Int} {v:cX} (d:nu n l h s' t' k g v)=>JW C ho vw d;cases d with
 | @empty s0 k r hk h1 hv=>exact⟨r,_,hk,rfl,⟨r,hk,.inl ⟨h1,rfl,rfl,rfl⟩⟩,by unfold cX.lt;omega⟩
 | @term s0 t0 k a r x hk h1 ha h2 h3 h4 hv=>exact⟨r,_,hk,rfl,⟨r,hk,.inr (.inl ⟨h1,a,x,ha,h2,h3,h4,rfl,rfl⟩)⟩,by unfold cX.lt;omega⟩
 | @unary s0 t0 k k1 g1 r v hk h1 d hv=>
  exact⟨r,_,hk,rfl,⟨r,hk,.inr (.inr (.inl ⟨h1,rfl,rfl⟩))⟩,mT (io d (gJ _) (gJ _))⟩
 | @fW s0 m t0 k k1 k2 g1 g2 r v w hk h1 hs ht d1 d2 hv=>
  obtain⟨q1,q2,q3,q4,q5⟩:=(cP C.hn hk).1;have em:(m:Int)=(s:Int)+((m-s:Nat):Int):=by omega
  refine⟨r,_,hk,rfl,⟨r,hk,.inr (.inr (.inr ⟨h1,m-s,by omega,em,rfl⟩))⟩,pd ?_ ?_ ?_ ?_ ?_ ?_⟩
  .exact(d1.pos C.hn C.hl).1
  .exact(iG C ho (by omega) (by omega) _ _).1
  .exact(d2.pos C.hn C.hl).1
  .exact(iG C ho (by omega) (by omega) _ _).1
  .rw[<-em];exact io d1 (gJ _) ht
  .rw[<-em];exact io d2 hs (gJ _)
def V8(C:AU n l c s t)(ho:nC n own)(hp:PS n l c s t own)(vw:Sl n l c s t own)(h:Nat)(hh:(h:Int)<n.an):Good n l h s t (own.getD h default):=by
 have hl:h<own.length:=by have:=ho.1;omega
 have dB:dv c own s t h s t=(own.getD h default).val:=by unfold dv;rw[ee ⟨rfl,rfl⟩];rfl
 refine⟨λv ⟨k,g,d⟩=>?_, ?_⟩
 .rw[<-dB];exact JW C ho vw d (gJ _) (gJ _)
 .rcases hp h hl with e|⟨hd,k,g,v,hi,⟨r,hk,hr⟩,h2,h3,io⟩
  .exact .inl e
  .right;have hf:=hd.dM;have hvf:v.aA<1099511627776:=by unfold cX.lt at io;omega
   have hx:=De C ho vw hk hi hvf;rw[hr]at hx;simp only[gN]at hx;have he:v=(own.getD h default).val:=cX.pc hx.1 io;refine⟨⟨k,h2, ?_⟩,λk' g' d=>?_⟩
   .have:=JU C ho hp hk hi hvf;rw[hr,he]at this;rw[h3];exact this
   .obtain⟨r',v',wi,nl,wY,IF⟩:=V7 C ho vw d;have aut:v'.aA<1099511627776:=by unfold cX.lt at IF;omega
    have nK:=De C ho vw wi wY aut;rw[nl]at nK;simp only[gN]at nK;exact nK.2 (cX.pc nK.1 IF)
def Sm(C:AU n l c s t)(h:Nat)(hh:(h:Int)<n.an):Good n l h s t ((sP n l c s t).getD h default):=by
 obtain⟨h1,h2,h3⟩:=JX C.hn C.hl C.hc C.st C.tm (PS n l c s t) (aaN C) (λown k ho hk hp=>aaM C ho hk hp);exact V8 C h1 h2 h3 h hh
end
end
section
variable{nn h h':Int}
def JY{p p':Int}(a1:0<=h)(a2:h<nn)(b1:0<=h')(b2:h'<nn)(e:p*nn+h=p'*nn+h'):p=p'/\h=h':=by
 have key:∀{p p' h h':Int},0<=h->h<nn->0<=h'->h'<nn->p*nn+h=p'*nn+h'->¬p<p':=by
  intro p p' h h' a1 a2 b1 b2 e cQ;have h1:(p+1)*nn<=p'*nn:=ZcC (by omega) (by omega);have h2:(p+1)*nn=p*nn+nn:=by grind
  omega
 have h1:=key a1 a2 b1 b2 e;have h2:=key b1 b2 a1 a2 e.symm;have:p=p':=by omega
 subst this;exact⟨rfl,by omega⟩
def Sn{st:Int}{s t s' t':Nat}(a1:0<=h)(a2:h<nn)(b1:0<=h')(b2:h'<nn)(c1:s<=t)(c2:(t:Int)<st)(d1:s'<=t')(d2:(t':Int)<st)
  (e:dO nn st s t+h=dO nn st s' t'+h'):s=s'/\t=t'/\h=h':=by
 unfold dO at e;obtain⟨e1,e2⟩:=JY a1 a2 b1 b2 e;have key:∀{s t s' t':Nat},s<=t->(t:Int)<st->s'<=t'->(t':Int)<st->pre st s+t-s=pre st s'+t'-s'->¬s<s':=by
  intro s t s' t' c1 c2 d1 d2 e cQ;have:=Df (st:=st) (f:=s+1) (k:=s') (by omega) (by omega);simp only[pre]at this;omega
 have h1:=key c1 c2 d1 d2 e1;have h2:=key d1 d2 c1 c2 e1.symm;have:s=s':=by omega
 subst this;exact⟨rfl,by omega,e2⟩
def V9(cells own:List Cell)(zc y:Nat)(hl:zc+y<=cells.length)(i:Nat)(d:Cell):(wC cells own zc y).getD i d=if zc<=i/\i<zc+y then own.getD (i-zc) default else cells.getD i d:=by
 induction y with
 |zero=>simp only[wC,List.range_zero,Zcy];rw[iK (by omega)]
 |succ y ih=>
  rw[uX];have ih:=ih (by omega);by_cases e:i=zc+y
  .subst e;rw[ee (by omega),show zc+y-zc=y by omega];simp only[List.getD,Zb1,JZ];rw[ee trivial,ee (by omega)];rfl
  .have:((wC cells own zc y).set (zc+y) (own.getD y default)).getD i d=(wC cells own zc y).getD i d:=by
    simp only[List.getD,Zb1];rw[iK (λx=>e x.symm)]
   rw[this,ih];by_cases h:zc<=i/\i<zc+y
   .rw[ee h,ee (by omega)]
   .rw[iK h,iK (by omega)]
section
variable{n:ay}{l:aF}
def MW{c:bI}{s t:Nat}(h0:0<=h)(h1:h<c.an)(c1:s<=t)(c2:(t:Int)<c.bf):gp c h s t=c.cells.getD (dO c.an c.bf s t+h).toNat vD:=by
 unfold gp;rw[iK (by omega)];simp
def J0(n:ay)(l:aF)(cells:List Cell)(len f:Nat):Prop:=
 ∀(h:Int) (s t:Nat),0<=h->h<n.an->s<=t->(t:Int)<l.bf->(t-s<len\/(t-s=len/\s<f))->Good n l h s t (gp ⟨n.an,l.bf,cells⟩ h s t)
def So(hn:qf n)(hl:wB l)(ha:∀a∈l.aK,a.f<=a.t){cells:List Cell}{len f:Nat}(hc:jD n l cells)(hf:((f+len:Nat):Int)<l.bf)(hd:J0 n l cells len f):J0 n l (ya n l len cells f) len (f+1):=by
 have h1:=hn.1;have h2:=hn.2.1;have h3:=hl.1;have h4:=hl.2.1;have C:AU n l ⟨n.an,l.bf,cells⟩ f (f+len):=⟨hn,hl,hc.ok hn hl,ha,by omega,by omega,λh s' t' a1 a2 a3 a4 a5 a6=>hd h s' t' a1 a2 a4 (by omega) (by omega)⟩;have hg:=Sm C;have iW:=Dg hn hl C.hc C.st C.tm;rw[show((f+len:Nat):Int)=(f:Int)+len by omega]at hg iW;obtain⟨own,ho⟩:=aY (sP n l ⟨n.an,l.bf,cells⟩ f ((f:Int)+len));rw[ho]at hg iW;have hib:=oi (n:=n.an) (st:=l.bf) (f:=f) (t:=f+len) (by omega) h2 h4 (by omega) (by omega) (by omega);have cQ:=Dh (nn:=n.an) (st:=l.bf) (f:=f) (t:=f+len) (by omega) (by omega) (by omega) (i:=n.an-1) (by omega);have c9:=hc.1;intro h s t a1 a2 a3 a4 a5;unfold ya;rw[ho,MW a1 a2 a3 a4];simp only;have hsb:=oi (n:=n.an) (st:=l.bf) (f:=s) (t:=t) (by omega) h2 h4 (by omega) (by omega) (by omega);rw[V9 _ _ _ _ (by omega)];split
 .rename_i e;have hx:dO n.an l.bf s t+h=dO n.an l.bf f (f+len)+(((dO n.an l.bf s t+h).toNat-(dO n.an l.bf f (f+len)).toNat:Nat):Int):=by omega
  obtain⟨e1,e2,e3⟩:=Sn a1 a2 (by omega) (by omega) a3 a4 (by omega) (by omega) hx;subst e1 e2;obtain⟨h,rfl⟩:=bX a1;have e4:(dO n.an l.bf s (s+len)+(h:Int)).toNat-(dO n.an l.bf s (s+len)).toNat=h:=by omega
  rw[e4];exact hg h a2
 .rename_i e;have dd:¬(s=f/\t=f+len):=by
   rintro⟨rfl,rfl⟩;omega
  have:=hd h s t a1 a2 a3 a4 (by omega);rw[MW a1 a2 a3 a4]at this;exact this
def J1(hn:qf n)(hl:wB l)(ha:∀a∈l.aK,a.f<=a.t){cells:List Cell}{len:Nat}(hc:jD n l cells)(hd:J0 n l cells len 0):∀k,((k+len:Nat):Int)<=l.bf->J0 n l ((List.range k).foldl (ya n l len) cells) len k
 |0,_=>hd
 |k+1,hk=>by
  rw[Gy,uK];have h4:=hl.2.1;exact So hn hl ha (Bp hn hl hc k (by omega)) (by omega) (J1 hn hl ha hc hd k (by omega))
def Sp(hn:qf n)(hl:wB l)(ha:∀a∈l.aK,a.f<=a.t):∀k:Nat,(k:Int)<=l.bf->J0 n l ((List.range k).foldl (mf n l) (List.replicate (pj n.an l.bf).toNat ⟨0,0,0,0⟩)) k 0:=by
 intro k;induction k with
 |zero=>
  intro _ h s t a1 a2 a3 a4 a5;omega
 |succ k ih=>
  intro hk;rw[Gy,uK];have h4:=hl.2.1;have:=J1 hn hl ha (Di hn hl k (by omega)) (ih (by omega)) (l.bf.toNat-k) (by omega);intro h s t a1 a2 a3 a4 a5;exact this h s t a1 a2 a3 a4 (by omega)
def MX(hn:qf n)(hl:wB l)(ha:∀a∈l.aK,a.f<=a.t){s t:Nat}(a1:0<=h)(a2:h<n.an)(a3:s<=t)(a4:(t:Int)<l.bf):Good n l h s t (gp (sU n l) h s t):=by
 have h3:=hl.1;exact Sp hn hl ha l.bf.toNat (by omega) h s t a1 a2 a3 a4 (by omega)
end
end
structure JG where
 (x h t:Int)
 deriving DecidableEq,Inhabited
def JG.enc(e:JG):aG:=[ti e.x,ti e.h,ti e.t]
def pp(l:List JG):List (aG):=l.map JG.enc
def acN:aG->JG
 |[a,b,c]=>⟨dg a,dg b,dg c⟩
 |_=>default
@[simp] def acO(e:JG):acN e.enc=e:=by simp[acN,JG.enc,dg]
@[simp] def Yb{a b:List JG}:pp a=pp b↔a=b:=⟨λh=>by
 have:=congrArg (List.map acN) h;simpa [pp,ja acO]using this,λh=>by rw[h]⟩
@[simp] def axg(l:List JG):(pp l).length=l.length:=by simp[pp]
def si{l:List JG}{y:Nat}(h:y<l.length):DM.rowAt (pp l) y=(l.getD y default).enc:=by simp[DM.rowAt,pp,h]
def HW(l:List JG)(i:Nat)(e:JG):pp (l.set i e)=(pp l).set i e.enc:=by simp[pp,Zco]
def YR(a b:List JG):pp (a++b)=pp a++pp b:=by simp[pp]
def acP(a:List JG)(n:Nat):(pp a).take n=pp (a.take n):=by simp[pp,Zc9]
abbrev Pl:=List (Nat×Int×Int)
def N7(l:Pl):List (Nat×T×DV):=l.map λe=>(e.1,ti e.2.1,.v (ti e.2.2))
@[simp] def adN{a b:Pl}:N7 a=N7 b↔a=b:=⟨λh=>by
 unfold N7 at h;refine List.map_inj_right (f:=λe:Nat×Int×Int=>(e.1,ti e.2.1,DV.v (ti e.2.2))) ?_|>.1 h
 rintro⟨a,b,c⟩ ⟨a',b',c'⟩ h;simpa using h,λh=>by rw[h]⟩
def H3(l:Pl)(k:Int):Option Nat:=l.findIdx? λe=>e.2.1==k
def vg(l:Pl)(k:Int):Option Int:=(l.find? λe=>e.2.1==k).map (·.2.2)
def lC(l:Pl)(c:Nat)(k v:Int):Pl:=match H3 l k with
 |some i=>l.modify i λe=>(e.1,e.2.1,v)
 |none=>l++[(c,k,v)]
def S6(l:Pl)(c:Nat)(k:Int):Nat:=match H3 l k with
 |some _=>c
 |none=>c+1
def DS(l:Pl)(k:Int):Pl:=match H3 l k with
 |some i=>l.eraseIdx i
 |none=>l
def adO(a b:Int):gQ (ti a) (ti b)=(b==a):=by
 simp only[gQ];by_cases h:a=b
 .simp[h]
 .have:¬b=a:=λe=>h e.symm;simp[h,this]
def Ny(l:Pl)(k:Int):(N7 l).findIdx? (λe=>gQ (ti k) e.2.1)=H3 l k:=by
 unfold N7 H3;rw[List.findIdx?_map]
 congr 1
 funext e;simp only[Function.comp,adO]
def ZD(l:Pl)(k:Int):pE (ti k) (N7 l)=(l.find? λe=>e.2.1==k).map λe=>(e.1,ti e.2.1,.v (ti e.2.2)):=by
 unfold pE N7;rw[List.find?_map]
 congr 2
 funext e;simp only[Function.comp,adO]
def vh{α β:Type}{f:α->β}{g:α->α}{g':β->β}(h:∀a,g' (f a)=f (g a)):∀(l:List α) (i:Nat),(l.map f).modify i g'=(l.modify i g).map f
 |[],i=>by cases i<;>simp
 |a::l,0=>by simp[h]
 |a::l,i+1=>by simp[vh h l i]
def DW{α β:Type}{f:α->β}:∀(l:List α) (i:Nat),(l.map f).eraseIdx i=(l.eraseIdx i).map f
 |[],i=>by simp
 |a::l,0=>by simp
 |a::l,i+1=>by simp[DW l i]
def aiI(l:Pl)(c:Nat)(k v:Int):Gu (ti k) (.v (ti v)) c (N7 l)=N7 (lC l c k v):=by
 unfold Gu lC;rw[Ny];cases H3 l k with
 |none=>simp[N7]
 |some i=>exact vh (f:=λe:Nat×Int×Int=>(e.1,ti e.2.1,DV.v (ti e.2.2))) (g:=λe=>(e.1,e.2.1,v)) (g':=λe=>(e.1,e.2.1,DV.v (ti v))) (λ_=>rfl) l i
def acQ(l:Pl)(c:Nat)(k:Int):rn (ti k) c (N7 l)=S6 l c k:=by
 unfold rn S6;rw[Ny];cases H3 l k<;>rfl
def aiJ(l:Pl)(k:Int):alD (ti k) (N7 l)=N7 (DS l k):=by
 unfold alD DS;rw[Ny];cases H3 l k with
 |none=>rfl
 |some i=>exact DW l i
def F9(l:Pl):Prop:=(l.map (·.1)).Nodup
def NQ{α:Type}{p:α->Bool}:∀{l:List α} {i:Nat},l.findIdx? p=some i->∃a,l[i]? =some a/\p a=true/\l.find? p=some a
 |[],i,h=>by simp at h
 |a::l,i,h=>by
  rw[Rd]at h;by_cases hp:p a=true
  .simp only[hp,Eg,cq]at h;subst h;exact⟨a,rfl,hp,by simp[hp]⟩
  .simp only[hp,Ig,A0,ju]at h;obtain⟨j,hj,rfl⟩:=h;obtain⟨b,h1,h2,h3⟩:=NQ hj;exact⟨b,by simpa using h1,h2,by simp[hp,h3]⟩
def Yc:∀{l:Pl} {i:Nat} {e:Nat×Int×Int},F9 l->l[i]? =some e->(N7 l).findIdx? (λx=>(x.1:Int)==(e.1:Int))=some i
 |[],i,e,_,h=>by simp at h
 |a::l,0,e,hk,h=>by
  simp only[Bd,cq]at h;subst h;simp[N7,Rd]
 |a::l,i+1,e,hk,h=>by
  simp only[Ou]at h;simp only[F9,vG,ZcX]at hk;have dd:¬a.1=e.1:=λq=>hk.1 (q▸sE.2 ⟨e,Hf h,rfl⟩);have ih:=Yc (l:=l) hk.2 h;unfold N7 at ih⊢;rw[vG,Rd];have:¬(((a.1:Int)==(e.1:Int))=true):=by simp;omega
  simp only[this,ih];rfl
def aa8{l:Pl}{k v:Int}{i:Nat}{e:Nat×Int×Int}(hk:F9 l)(hi:H3 l k=some i)(he:l[i]? =some e)(c:Nat):alG (e.1:Int) (.v (ti v)) (N7 l)=some (N7 (lC l c k v)):=by
 unfold alG;rw[Yc hk he];unfold lC;rw[hi];simp only[Rp,cq];exact vh (f:=λe:Nat×Int×Int=>(e.1,ti e.2.1,DV.v (ti e.2.2))) (g:=λe=>(e.1,e.2.1,v)) (g':=λe=>(e.1,e.2.1,DV.v (ti v))) (λ_=>rfl) l i
def abm{l:Pl}{c:Nat}{k v:Int}(hk:F9 l)(hc:∀e∈l,e.1<c):F9 (lC l c k v)/\∀e∈lC l c k v,e.1<S6 l c k:=by
 unfold lC S6;cases h:H3 l k with
 |none=>
  refine⟨?_,λe he=>?_⟩
  .unfold F9;rw[Lc,Zct];refine⟨hk,by simp,λa ha b hb=>?_⟩;obtain⟨e,he,rfl⟩:=sE.1 ha;simp at hb;have:=hc e he;omega
  .rcases lF.1 he with he|he
   .have:=hc e he;simp only;omega
   .simp at he;subst he;simp
 |some i=>
  have hm:((l.modify i λe=>(e.1,e.2.1,v)).map (·.1))=l.map (·.1):=by
   have h1:=vh (f:=λe:Nat×Int×Int=>e.1) (g:=λe=>(e.1,e.2.1,v)) (g':=id) (λ_=>rfl) l i;rw[ZdI]at h1;exact h1.symm
  refine⟨by unfold F9;rw[hm];exact hk,λe he=>?_⟩;have:e.1∈l.map (·.1):=by rw[<-hm];exact sE.2 ⟨e,he,rfl⟩
  obtain⟨e',PM,h2⟩:=sE.1 this;have:=hc e' PM;show e.1<c;omega
structure LV where
 (sp rb:Nat)
 cs:bW
 az:List cX
structure LV.at(v:LV)(f:bS)(a:Nat):Prop where
 a:f a=some (.box [.ptr v.sp 0])
 sp:f v.sp=some (.box v.cs)
 c:v.cs[12]? =some (.aW v.rb 0)
 rb:f v.rb=some (.bm 0 64 2 (cU v.az))
def LV.XG{v w:LV}{f:bS}{a:Nat}(h:v.at f a)(k:w.at f a):v=w:=by
 obtain⟨sp,rb,cs,az⟩:=v;obtain⟨sp',rb',yJ,ayQ⟩:=w;obtain⟨h1,h2,h3,h4⟩:=h;obtain⟨k1,k2,k3,k4⟩:=k;simp only at h1 h2 h3 h4 k1 k2 k3 k4;rw[h1]at k1;simp only[cq,Ob.box.injEq,Gf,DV.ptr.injEq,ZI]at k1;subst k1;rw[h2]at k2;simp only[cq,Ob.box.injEq]at k2;subst k2;rw[h3]at k3;simp only[cq,DV.aW.injEq,ZI]at k3;subst k3;rw[h4]at k4;simp only[cq,Ob.bm.injEq,zd,Em]at k4;subst k4;rfl
open Classical in
noncomputable def Yh(f:bS)(a:Nat):LV:=if h:∃v:LV,v.at f a then Classical.choose h else⟨0,0,[],[]⟩
def abn{v:LV}{f:bS}{a:Nat}(h:v.at f a):Yh f a=v:=by
 have hx:∃v:LV,v.at f a:=⟨v,h⟩;unfold Yh;rw[ZdH hx];exact LV.XG (Classical.choose_spec hx) h
def bv(az:List cX)(x:Int):cX:=az.getD x.toNat default
noncomputable def k55:bW->bS->iw
 |[.v (.int .i64 x),.v (.int .i64 y),.ptr a 0],f=>⟨(∃v:LV,v.at f a)/\(0<=x/\x<(Yh f a).az.length)/\(0<=y/\y<(Yh f a).az.length),.v (.bool (decide ((bv (Yh f a).az x).lt (bv (Yh f a).az y)))),f⟩
 |_,f=>⟨False,.undef,f⟩
def awS{v:LV}{f:bS}{a:Nat}{x y:Int}(h:v.at f a):k55 [.v (ti x),.v (ti y),.ptr a 0] f=⟨(0<=x/\x<v.az.length)/\(0<=y/\y<v.az.length),.v (.bool (decide ((bv v.az x).lt (bv v.az y)))),f⟩:=by
 have hx:∃v:LV,v.at f a:=⟨v,h⟩;simp only[k55,abn h,hx,Em]
def t56(u v:cX):aJ ak 131 [.agg [ti u.aA,ti u.size],.agg [ti v.aA,ti v.size]] (.bool (decide (u.lt v))):=by
 obtain⟨a,b⟩:=u;obtain⟨c,d⟩:=v;obtain⟨c1,bN⟩:=aY (decide ((⟨a,b⟩:cX).lt ⟨c,d⟩):Bool);rw[bN];simp only[cX.lt]at bN;have bb:=J2;refine c56.ok (by simp) (aH ?_);simp;apply aa.ai bb fw [2,3];simp[T0];refine aa.lk (o:=[]) (l:=[(2,.v (.box [ti a,ti b])),(3,.v (.box [ti c,ti d]))]) (bn:=1200) (by simp) ?_;refine aa.bL bb fw [(4,.v (.bool c1))] ?_ ?_
 .by_cases q1:a<c
  .have:c1=true:=by rw[<-bN];simp[q1]
   simp[EW,q1,this]
  .by_cases q2:a=c
   .subst q2;by_cases q3:b<d
    .have:c1=true:=by rw[<-bN];simp[q3]
     simp[EW,q3,this]
    .have:c1=false:=by rw[<-bN];simp[q3]
     simp[EW,q3,this]
   .have:c1=false:=by rw[<-bN];simp[q1,q2]
    simp[EW,q1,q2,this]
 apply aa.ret;simp[BU]
def HT{l:List cX}(h:∀v∈l,mG v):∀{c s:Int},0<=c->c<=1099511627776->0<=s->s<=1099511627776->0<=(dR c s l).aA/\(dR c s l).aA<=1099511627776:=by
 induction l with
 |nil=>intro c s h1 h2 h3 h4;exact⟨h1,h2⟩
 |cons x l ih=>
  intro c s h1 h2 h3 h4;obtain⟨g1,g2,g3,g4⟩:=h x (by simp);exact ih (λv hv=>h v (by simp[hv])) (by omega) (by omega) (by omega) (by omega)
def XM{c:Int}{l:List cX}(h:∀v∈l,mG v):gv (min c 1099511627776) l=gv c l:=by
 have key:∀(l:List cX) (c s:Int),(∀v∈l,mG v)->l≠[]->dR (min c 1099511627776) s l=dR c s l:=by
  intro l c s h hl;cases l with
  |nil=>exact qe rfl hl
  |cons v l=>
   have hv:=(h v (by simp)).1;simp only[dR];rw[show min (min c 1099511627776+v.aA) 1099511627776=min (c+v.aA) 1099511627776 by omega]
 cases l with
 |nil=>
  unfold gv dR;simp only;split<;>split<;>first|rfl|(exfalso;omega)|(congr 1;omega)
 |cons v l=>
  unfold gv;rw[key _ _ _ h (by simp)]
def t84(c:Int)(l:List cX)(h:∀v∈l,mG v)(h1:0<=c)(h2:c<=4000000000000)(h3:l.length<=1000000):aJ ak 73 [ti c,.sl (cU l)] (.agg [ti (gv c l).aA,ti (gv c l).size]):=by
 obtain⟨R,hR⟩:=aY (gv c l);rw[hR];rw[<-XM h]at hR;obtain⟨c0,Er⟩:=aY (min c 1099511627776);have bN:0<=c0/\c0<=1099511627776:=by omega
 rw[Er]at hR;have bb:=J2;refine c84.ok (by simp) (aH ?_);simp;apply aa.ai bb fw [0,1,4];simp[aoo];refine aa.lk (o:=[(1005,.box [.v (ti 0),.v (ti 0)])]) (l:=[(0,.v (ti c)),(1,.v (.sl (cU l))),(4,.ptr 1005 0)]) (bn:=1094) (by simp) ?_;apply aa.ai bb fw [1,4,5];simp[aop,Er];refine aa.lk (o:=[(1005,.box [.v (ti 0),.v (ti 0)]),(1100,.box [.v (ti c0),.v (ti 1)])]) (l:=[(1,.v (.sl (cU l))),(4,.ptr 1005 0),(5,.ptr 1100 0)]) (bn:=1200) (by simp) ?_;apply aa.sq bb fw [4,5,11,12,13];simp[aoq];apply aa.block;refine aa.loop (λi:Nat=>⟨DM.look [(4,.ptr 1005 0),(5,.ptr 1100 0),(11,.v (.sl (cU l))),(12,.v (ti l.length)),(13,.v (ti i))],cR [(1005,.box [.v (ti 0),.v (ti 0)]),(1100,.box [.v (ti (dR c0 1 (l.take i)).aA),.v (ti (dR c0 1 (l.take i)).size)])],1400,1000,[]⟩)
  (λi=>i<=l.length) (λi=>l.length-i) 0 (Le.aL ?_ ?_ ?_ ?_) (by simp) (λi hi=>?_)
 .simp
 .simp
 .simp[dR]
 .simp
 obtain⟨A,hA⟩:=aY (dR c0 1 (l.take i));rw[hA];apply aa.ai bb fw [4,5,11,12,13,14];simp[aor];apply aa.seq;refine aa.cond rfl (λh3c=>?_) (λh3c=>?_)
 .have sW:i<l.length:=by simpa using h3c
  apply aa.skip;simp;apply aa.seq;apply aa.block;have rv:=jU sW;have hvm:=h _ (bu sW);have iO:dR c0 1 (l.take (i+1))=⟨min (A.aA+(l.getD i default).aA) 1099511627776,min (A.size+(l.getD i default).size) 1099511627776⟩:=by rw[dH sW,Dj,hA]
  have hAb:=uj (c:=c0) (s:=1) (l:=l.take i) (λv hv=>h v (yS hv)) bN.1 (by omega) (by omega) (by omega);rw[hA]at hAb;obtain⟨⟨vc,vs⟩,hv⟩:=aY (l.getD i default);rw[hv]at rv hvm iO;obtain⟨g1,g2,g3,g4⟩:=hvm;simp only at g1 g2 g3 g4 iO;obtain⟨ac,asz⟩:=A;simp only at hAb iO;apply aa.ai bb fw [4,5,7,11,12,13];simp[aos,sW,rv];refine aa.lk (o:=[(1005,.box [.v (ti 0),.v (ti 0)]),(1100,.box [.v (ti ac),.v (ti asz)])]) (l:=[(4,.ptr 1005 0),(5,.ptr 1100 0),(7,.v (.box [ti vc,ti vs])),(11,.v (.sl (cU l))),(12,.v (ti l.length)),(13,.v (ti i))]) (bn:=1500) (by simp) ?_;apply aa.ai bb fw [4,5,7,11,12,13];simp[aot,av (x:=ac+vc) (by omega)];refine aa.lk (o:=[(1005,.box [.v (ti 0),.v (ti 0)]),(1100,.box [.v (ti (min (ac+vc) 1099511627776)),.v (ti asz)])]) (l:=[(4,.ptr 1005 0),(5,.ptr 1100 0),(7,.v (.box [ti vc,ti vs])),(11,.v (.sl (cU l))),(12,.v (ti l.length)),(13,.v (ti i))]) (bn:=1600) (by simp) ?_;apply aa.cZ bb fw [4,5,11,12,13];simp[aou,av (x:=asz+vs) (by omega)];apply aa.cZ bb fw [4,5,11,12,13];simp[aov];rw[av (x:=(i:Int)+1) (by omega)];refine⟨i+1,Le.aL ?_ ?_ ?_ ?_,by omega,by omega⟩
  .simp
  .simp
  .simp[iO]
  .simp
 .have hi2:i=l.length:=by simp at h3c;omega
  subst hi2;rw[uJ]at hA;apply aa.exit;simp;apply aa.sq bb fw [4,5,34];simp[aow];refine aa.cond rfl (λh8=>?_) (λh8=>?_)
  .have h8:A.aA=1099511627776:=by simpa using h8
   have Ts:R=⟨1099511627776,0⟩:=by rw[<-hR];unfold gv;rw[hA];simp[h8]
   apply aa.ai bb fw [4];simp[aox];apply aa.ret;simp[MV,Ts]
  .have h8:¬A.aA=1099511627776:=by simpa using h8
   have hAb:=HT (c:=c0) (s:=1) (l:=l) h bN.1 bN.2 (by omega) (by omega);rw[hA]at hAb;have Ts:R=A:=by rw[<-hR];unfold gv;rw[hA,iK (by omega)]
   apply aa.skip;simp;apply aa.ai bb fw [4];simp[agH];apply aa.ret;simp[MV,Ts]
section
variable{f0 f:bS}
abbrev s56:DM.Spec:=bp (λts=>∃a b c d,ts=[.agg [ti a,ti b],.agg [ti c,ti d]]) (fun|[.agg [.int _ a,.int _ b],.agg [.int _ c,.int _ d]]=>.bool (decide ((⟨a,b⟩:cX).lt ⟨c,d⟩))|_=>.bool false) true
def avA{l:List (Nat×DM.Spec)}(h:aw ak (bz l)):aw ak (bz ((131,s56)::l)):=by
 refine aw.cons h ?_;rintro ts ⟨a,b,c,d,rfl⟩;exact⟨t56 ⟨a,b⟩ ⟨c,d⟩,λ_=>rfl⟩
def aeN{α:Type}{l:List α}{i:Nat}{a d:α}(h:l[i]? =some a):l.getD i d=a/\i<l.length:=by
 obtain⟨h1,h2⟩:=tp.1 h;exact⟨by simp[List.getD,h],h1⟩
def KP(p q N:Nat)(n:Nat):Nat:=if n=0 then p else if n=1 then q else N+n
def WT{p q N:Nat}(h:p<N)(k:q<N)(dd:p≠q)(x y:Nat)(e:KP p q N x=KP p q N y):x=y:=by
 unfold KP at e;split at e<;>split at e<;>(try split at e)<;>(try split at e)<;>omega
def t55{a N x y:Nat}{v:LV}(hN:∀r,N<=r->f0 r=none)(h:v.at f0 a)(hx:x<v.az.length)(hy:y<v.az.length):
  ce ak 133 [.v (ti x),.v (ti y),.ptr a 0] f0 ⟨True,.v (.bool (decide ((bv v.az x).lt (bv v.az y)))),f0⟩:=by
 obtain⟨R,hR⟩:=aY (decide ((bv v.az x).lt (bv v.az y)));rw[hR];have bb:=avA aw.nil;refine c55.Ie hN (by simp) λc9=>?_;obtain⟨sp,rb,cs,az⟩:=v;obtain⟨h1,h2,h3,h4⟩:=h;simp only at h1 h2 h3 h4 hx hy;obtain⟨h5,h6⟩:=aeN (d:=DV.undef) h3;have r1:=jU hx;have r2:=jU hy;simp only[bv,gN]at hR;obtain⟨⟨xc,xs⟩,ex⟩:=aY (az.getD x default);obtain⟨⟨yc,ys⟩,ey⟩:=aY (az.getD y default);simp only[ex,ey]at r1 r2 hR;have h7:cs[12]'h6=.aW rb 0:=by rw[mM h6]at h3;exact TT h3
 simp;apply aa.ai bb fw [0,1,2];simp[ayw];apply aa.ai bb fw [5];simp[ayx,h1,h2,h6,h7,h4,hx,hy,r1,r2,XW,hR];refine⟨h6, ?_⟩;apply aa.ret;simp[dI];rfl
def aw0:∀args ab,(k55 args ab).ok->(∀N,(∀r,N<=r->ab r=none)->ce ak 133 args ab (k55 args ab))/\∀r,ab r=none->(k55 args ab).ab r=none:=by
 intro args ab h;unfold k55 at h⊢;split at h
 .rename_i x y a;obtain⟨⟨v,hv⟩,⟨x0,x1⟩,y0,y1⟩:=h;rw[abn hv]at x1 y1⊢;obtain⟨x,rfl⟩:=bX x0;obtain⟨y,rfl⟩:=bX y0;exact⟨λN hN=>ce.of (t55 hN hv (by omega) (by omega)) rfl rfl,λr hr=>hr⟩
 .exact h.elim
structure Qs where
 heap:List JG
 bG:Nat
 es:Pl
 mc:Nat
 (next xo:Int)
def qB(a hp m:Nat)(s:Qs):Ob:=.box [.AI (.func 133) [.ptr a 0],.aW hp s.bG,.fH m,.v (ti s.next),.v (ti s.xo)]
def hB(s:Qs):Ob:=.bm s.bG 307 3 (pp s.heap)
def mB(s:Qs):Ob:=.map [.int .i64] false s.mc (N7 s.es)
structure QV where
 (a hp m:Nat)
 l:LV
 s:Qs
structure QV.at(v:QV)(f:bS)(q:Nat):Prop where
 q:f q=some (qB v.a v.hp v.m v.s)
 hp:f v.hp=some (hB v.s)
 m:f v.m=some (mB v.s)
 l:v.l.at f v.a
def QV.XG{v w:QV}{q:Nat}(h:v.at f q)(k:w.at f q):v=w:=by
 obtain⟨a,hp,m,l,⟨heap,bG,es,mc,next,xo⟩⟩:=v;obtain⟨a',hp',m',l',⟨av0,bM,nW,mc',ayR,awD⟩⟩:=w;obtain⟨h1,h2,h3,h4⟩:=h;obtain⟨k1,k2,k3,k4⟩:=k;simp only at h1 h2 h3 h4 k1 k2 k3 k4;rw[h1]at k1;simp only[qB,cq,Ob.box.injEq,Gf,DV.AI.injEq,DV.ptr.injEq,DV.aW.injEq,DV.fH.injEq,DV.v.injEq,T.int.injEq,Em,ZI]at k1;obtain⟨e1,⟨e2,e3⟩,e4,e5,e6⟩:=k1;subst e1 e2 e3 e4 e5 e6;rw[h2]at k2;simp only[hB,cq,Ob.bm.injEq,Yb,Em]at k2;rw[h3]at k3;simp only[mB,cq,Ob.map.injEq,adN,Em]at k3;obtain⟨e7,e8⟩:=k3;have e9:=LV.XG h4 k4;subst k2 e7 e8 e9;rfl
open Classical in
noncomputable def pf(f:bS)(q:Nat):QV:=if h:∃v:QV,v.at f q then Classical.choose h else⟨0,0,0,⟨0,0,[],[]⟩,⟨[],0,[],0,0,0⟩⟩
def sy{v:QV}{q:Nat}(h:v.at f q):pf f q=v:=by
 have hx:∃v:QV,v.at f q:=⟨v,h⟩;unfold pf;rw[ZdH hx];exact QV.XG (Classical.choose_spec hx) h
def Qs.inR(s:Qs)(az:List cX):Prop:=∀e∈s.heap,0<=e.x/\e.x<az.length
def KY(az:List cX)(a b:JG):Prop:=(bv az a.x).lt (bv az b.x)\/(¬(bv az b.x).lt (bv az a.x)/\a.t<b.t)
instance(az:List cX)(a b:JG):Decidable (KY az a b):=by unfold KY;infer_instance
abbrev Qs.e(s:Qs)(i:Int):JG:=s.heap.getD i.toNat default
noncomputable def adn:bW->bS->iw
 |[.ptr q 0,.v (.int .i64 i),.v (.int .i64 j)],f=>⟨(∃v:QV,v.at f q)/\(pf f q).s.inR (pf f q).l.az/\(0<=i/\i<(pf f q).s.heap.length)/\(0<=j/\j<(pf f q).s.heap.length),.v (.bool (decide (KY (pf f q).l.az ((pf f q).s.e i) ((pf f q).s.e j)))),f⟩
 |_,f=>⟨False,.undef,f⟩
def aeT{v:QV}{q:Nat}{i j:Int}(h:v.at f q):adn [.ptr q 0,.v (ti i),.v (ti j)] f=⟨v.s.inR v.l.az/\(0<=i/\i<v.s.heap.length)/\(0<=j/\j<v.s.heap.length),.v (.bool (decide (KY v.l.az (v.s.e i) (v.s.e j)))),f⟩:=by
 have hx:∃v:QV,v.at f q:=⟨v,h⟩;simp only[adn,sy h,hx,Em]
def aAy{l:List (Nat×DM.Spec)}(h:aw ak (bz l)):aw ak (bz ((133,fl k55)::l)):=aw.il h aw0
def aAz{q N i j:Nat}{v:QV}(hN:∀r,N<=r->f0 r=none)(h:v.at f0 q)(hr:v.s.inR v.l.az)(hi:i<v.s.heap.length)(hj:j<v.s.heap.length):
  ce ak 224 [.ptr q 0,.v (ti i),.v (ti j)] f0 ⟨True,.v (.bool (decide (KY v.l.az (v.s.e i) (v.s.e j)))),f0⟩:=by
 obtain⟨R,hR⟩:=aY (decide (KY v.l.az (v.s.e i) (v.s.e j)));rw[hR];have bb:=aAy aw.nil;refine aAa.Ie hN (by simp) λc9=>?_;obtain⟨a,hp,m,l,⟨heap,bG,es,mc,next,xo⟩⟩:=v;obtain⟨h1,h2,h3,h4⟩:=h;simp only[qB,hB,mB]at h1 h2 h3 h4 hi hj hr;have hqN:q<N:=(c9 q _ h1).1;have K4:hp<N:=(c9 hp _ h2).1;have LM:a<N:=(c9 a _ h4.a).1;have hqp:q≠hp:=λe=>by rw[e,h2]at h1;cases h1
 have r1:=si hi;have r2:=si hj;have x1:=hr _ (bu hi);have x2:=hr _ (bu hj);simp only[Qs.e,gN]at hR;obtain⟨⟨ax,ah,dC⟩,ex⟩:=aY (heap.getD i default);obtain⟨⟨bx,bh,bt⟩,ey⟩:=aY (heap.getD j default);simp only[ex,ey,JG.enc]at r1 r2 x1 x2 hR;have nq:∀k,q≠N+k:=λk=>by omega
 have np:∀k,hp≠N+k:=λk=>by omega
 simp;apply aa.ai bb fw [0,1,2];simp[avl];apply aa.fR bb fw (rs:=kX (KP q hp N) (xK (yD 224 1) [none,none,none,none,none,none,none,none,none,none,some [0],none,some [1],some [1],none,none,some [58],none])) (.inl (by first|exact congrArg DC.rK (by kernel_rfl)|exact pV)) ((He (WT hqN K4 hqp) _ _ _).trans (by kernel_rfl)) [0,7,8];simp[avn,kX,qz,xK,KP,dN,bT,br,h1,h2,hi,hj,r1,r2];refine aa.le (Le.iy (l1:=[]) (l:=[(0,.ptr q 0),(7,.v (.box [ti ax,ti ah,ti dC])),(8,.v (.box [ti bx,ti bh,ti bt]))]) (bn:=N+1000) c9 ?_ ?_ ?_ ?_ ?_) ?_
 .omega
 .simp
 .simp[cY];omega
 .simp[kp]
 .simp[h1,pn];exact⟨j8 (l:=[]) c9 (by omega) (by simp),j8 (l:=[]) c9 (by omega) (by simp)⟩
 have hk:=λx y=>awS (x:=x) (y:=y) h4;obtain⟨c1,bN⟩:=aY (decide ((bv l.az ax).lt (bv l.az bx)):Bool);obtain⟨c2,gD⟩:=aY (decide ((bv l.az bx).lt (bv l.az ax)):Bool);have e0:dA [] f0=f0:=rfl;rw[e0];apply aa.sq bb fw [0,7,8,31];simp[avB,h1,hk,x1,x2,bN];refine aa.cond rfl (λg=>?_) (λg=>?_)
 .have g:c1=true:=by simpa using g
  subst g;have:R=true:=by rw[<-hR];unfold KY;simp[BN bN]
  subst this;apply aa.ai bb fw [6];simp[avF];apply aa.ret;simp[dI]
 .have g:c1=false:=by simpa using g
  subst g;apply aa.skip;simp;refine aa.bL bb fw [(6,.v (.bool R))] ?_ ?_
  .have Ts:(!c2&&decide (dC<bt))=R:=by
    rw[<-hR,<-gD];unfold KY;have:=uF bN;by_cases z1:(bv l.az bx).lt (bv l.az ax)<;>by_cases z2:dC<bt<;>simp[this,z1,z2]
   cases c2
   .simp[ah5,h1,hk,x1,x2,gD]at Ts⊢;exact Ts
   .simp[ah5,h1,hk,x1,x2,gD]at Ts⊢;exact Ts
  apply aa.ret;simp[dI]
def apm:∀args ab,(adn args ab).ok->(∀N,(∀r,N<=r->ab r=none)->ce ak 224 args ab (adn args ab))/\∀r,ab r=none->(adn args ab).ab r=none:=by
 intro args ab h;unfold adn at h⊢;split at h
 .rename_i q i j;obtain⟨⟨v,hv⟩,hr,⟨i0,i1⟩,j0,j1⟩:=h;rw[sy hv]at hr i1 j1⊢;obtain⟨i,rfl⟩:=bX i0;obtain⟨j,rfl⟩:=bX j0;exact⟨λN hN=>ce.of (aAz hN hv hr (by omega) (by omega)) rfl rfl,λr hr=>hr⟩
 .exact h.elim
def avb{l:List (Nat×DM.Spec)}(h:aw ak (bz l)):aw ak (bz ((224,fl adn)::l)):=aw.il h apm
end
section
variable{f f0:bS}
def ic(f:bS)(q:Nat)(v:QV)(s:Qs):bS:=dA [(q,qB v.a v.hp v.m s),(v.hp,hB s),(v.m,mB s)] f
abbrev QV.to(v:QV)(s:Qs):QV:=⟨v.a,v.hp,v.m,v.l,s⟩
structure QV.Ne(v:QV)(q:Nat):Prop where
 qp:q≠v.hp
 qm:q≠v.m
 pm:v.hp≠v.m
 aq:v.a≠q
 ap:v.a≠v.hp
 am:v.a≠v.m
 sq:v.l.sp≠q
 sp:v.l.sp≠v.hp
 sm:v.l.sp≠v.m
 rq:v.l.rb≠q
 rp:v.l.rb≠v.hp
 rm:v.l.rb≠v.m
def QV.at.ne{v:QV}{q:Nat}(h:v.at f q):v.Ne q:=by
 obtain⟨h1,h2,h3,h4,h5,h6,h7⟩:=h;simp only[qB,hB,mB]at h1 h2 h3;have:=(aeN (d:=DV.undef) h6).2;refine⟨λe=>?_,λe=>?_,λe=>?_,λe=>?_,λe=>?_,λe=>?_,λe=>?_,λe=>?_,λe=>?_,λe=>?_,λe=>?_,λe=>?_⟩
 .rw[e,h2]at h1;cases h1
 .rw[e,h3]at h1;cases h1
 .rw[e,h3]at h2;cases h2
 .rw[e,h1]at h4;simp at h4
 .rw[e,h2]at h4;cases h4
 .rw[e,h3]at h4;cases h4
 .rw[e,h1]at h5;simp only[cq,Ob.box.injEq]at h5;rw[<-h5]at this;simp at this
 .rw[e,h2]at h5;cases h5
 .rw[e,h3]at h5;cases h5
 .rw[e,h1]at h7;cases h7
 .rw[e,h2]at h7;simp at h7
 .rw[e,h3]at h7;cases h7
def qM{v:QV}{q:Nat}(h:v.at f q)(s:Qs):(v.to s).at (ic f q v s) q:=by
 have n:=h.ne;obtain⟨h1,h2,h3,h4,h5,h6,h7⟩:=h;refine⟨by simp[ic],by simp[ic,Ne.symm n.qp],by simp[ic,Ne.symm n.qm,Ne.symm n.pm],⟨?_, ?_,h6, ?_⟩⟩
 .simp[ic,n.aq,n.ap,n.am,h4]
 .simp[ic,n.sq,n.sp,n.sm,h5]
 .simp[ic,n.rq,n.rp,n.rm,h7]
def BM(f:bS)(q:Nat)(v:QV)(s s':Qs):ic (ic f q v s) q (v.to s) s'=ic f q v s':=by
 funext k;simp only[ic,y9,amx];by_cases h1:k=q<;>by_cases h2:k=v.hp<;>by_cases h3:k=v.m<;>simp[h1,h2,h3]
def BA{v:QV}{q r:Nat}(h:v.at f q)(s:Qs)(hr:f r=none):ic f q v s r=none:=by
 have e1:r≠q:=λe=>by rw[e,h.q]at hr;cases hr
 have e2:r≠v.hp:=λe=>by rw[e,h.hp]at hr;cases hr
 have e3:r≠v.m:=λe=>by rw[e,h.m]at hr;cases hr
 simp[ic,e1,e2,e3,hr]
def XF{N aP bn q:Nat}{tm:dW}{l:pe}{L:fS}{v:QV}(s:Qs)(c9:qX f0 N)(hv:v.at f0 q)(hn:N<=bn)(av9:v.s.bG<=s.bG)
  (hL:∀p∈L,p.1=q\/p.1=v.hp\/p.1=v.m\/N<=p.1) (h1:dA L f0 q=some (qB v.a v.hp v.m s)) (h2:dA L f0 v.hp=some (hB s)) (h3:dA L f0 v.m=some (mB s))
  (h4:dA L f0 v.a=f0 v.a)
  (nJ:oM (dA L f0) (ic f0 q v s) id tm l):
  Le ⟨tm,dA L f0,aP,N,[]⟩ ⟨DM.look l,ic f0 q v s,bn,N,[]⟩:=by
 have hqN:q<N:=(c9 q _ hv.q).1;have K4:v.hp<N:=(c9 v.hp _ hv.hp).1;have PL:v.m<N:=(c9 v.m _ hv.m).1;have n:=hv.ne;refine Le.iy c9 hn ?_ ?_ ?_ nJ
 .simp;omega
 .have:∀(L:fS),(∀p∈L,p.1=q\/p.1=v.hp\/p.1=v.m\/N<=p.1)->cY N [(q,qB v.a v.hp v.m s),(v.hp,hB s),(v.m,mB s)] L:=by
   intro L;induction L with
   |nil=>intro _;trivial
   |cons p L ih=>
    intro h;refine⟨λhq=>?_,ih λp hp=>h p (by simp[hp])⟩;rcases h p (by simp)with h|h|h|h
    .exact⟨_,by rw[h];exact .head _⟩
    .exact⟨_,by rw[h];exact .tail _ (.head _)⟩
    .exact⟨_,by rw[h];exact .tail _ (.tail _ (.head _))⟩
    .omega
  exact this _ hL
 .refine⟨⟨_,h1,.inr ⟨rfl,λk hk=>?_⟩,λ_=>ej _⟩,⟨_,h2,.inr ⟨rfl,λk hk=>by simp[jy,hB]at hk⟩,λ_=>ej _⟩,⟨_,h3,.inr ⟨rfl,λk hk=>?_⟩,λ_=>ej _⟩,trivial⟩
  .simp only[qB,jy,da,br,Ej,lF,jv,qg,AZ]at hk;rcases hk with rfl|rfl|rfl
   .exact⟨_,_,h4.trans hv.l.a,by simp[n.aq,n.ap,n.am,hv.l.a],ej _⟩
   .exact⟨_,_,h2,by simp[Ne.symm n.qp],ej _⟩
   .exact⟨_,_,h3,by simp[Ne.symm n.qm,Ne.symm n.pm],ej _⟩
  .exfalso;simp only[mB,jy,ZT,N7,sE]at hk;obtain⟨e,⟨e',_,rfl⟩,hk⟩:=hk;simp[br]at hk
def abH(l:Pl)(k:Int):H3 l k=(l.map (·.2.1)).findIdx? (·==k):=by
 unfold H3;rw[List.findIdx?_map];rfl
def H8{l:Pl}{c:Nat}{k v:Int}{i:Nat}(h:H3 l k=some i)(k':Int):H3 (lC l c k v) k'=H3 l k':=by
 rw[abH,abH];unfold lC;rw[h];simp only;have h1:=vh (f:=λe:Nat×Int×Int=>e.2.1) (g:=λe=>(e.1,e.2.1,v)) (g':=id) (λ_=>rfl) l i;rw[ZdI]at h1;rw[<-h1]
def Io{l:Pl}{c:Nat}{k v:Int}{i:Nat}(h:H3 l k=some i)(hk:F9 l):F9 (lC l c k v):=by
 unfold lC F9;rw[h];have h1:=vh (f:=λe:Nat×Int×Int=>e.1) (g:=λe=>(e.1,e.2.1,v)) (g':=id) (λ_=>rfl) l i;rw[ZdI]at h1;simp only;rw[<-h1];exact hk
def aeW{l:Pl}{k:Int}{i:Nat}(h:H3 l k=some i)(z:DV)(c:Nat):∃e,l[i]? =some e/\alF (ti k) z c (N7 l)=.dh [.v (ti e.2.2),.v (ti e.1)]/\alE (ti k) z c (N7 l)=N7 l/\rn (ti k) c (N7 l)=c:=by
 obtain⟨e,h1,h2,h3⟩:=NQ h;refine⟨e,h1, ?_, ?_, ?_⟩
 .unfold alF;rw[ZD,h3];rfl
 .unfold alE;rw[Ny,h]
 .unfold rn;rw[Ny,h]
def Qs.CD(s:Qs)(k:Int):Prop:=∃i,H3 s.es k=some i
def Qs.swap(s:Qs)(i j:Int):Qs:=⟨(s.heap.set i.toNat (s.e j)).set j.toNat (s.e i),s.bG,lC (lC s.es s.mc (s.e j).h i) s.mc (s.e i).h j,s.mc,s.next,s.xo⟩
def Qs.cG(s:Qs)(i j:Int):Prop:=F9 s.es/\(0<=i/\i<s.heap.length)/\(0<=j/\j<s.heap.length)/\s.CD (s.e i).h/\s.CD (s.e j).h
def aAC{q N i j:Nat}{v:QV}(hN:∀r,N<=r->f0 r=none)(h:v.at f0 q)(hs:v.s.cG i j):
  ce ak 211 [.ptr q 0,.v (ti i),.v (ti j)] f0 ⟨True,.v (.dh []),ic f0 q v (v.s.swap i j)⟩:=by
 obtain⟨S,hS⟩:=aY (v.s.swap i j);rw[hS];have bb:=J2;have h0:=h;have n:=h.ne;refine aAc.Ie hN (by simp) λc9=>?_;obtain⟨a,hp,m,l,⟨heap,bG,es,mc,next,xo⟩⟩:=v;obtain⟨h1,h2,h3,h4⟩:=h;obtain⟨s1,⟨_,s2⟩,⟨_,s3⟩,⟨i1,s4⟩,⟨i2,s5⟩⟩:=hs;simp only[qB,hB,mB,Qs.e,gN]at h1 h2 h3 h4 s1 s2 s3 s4 s5;have hi:i<heap.length:=by omega
 have hj:j<heap.length:=by omega
 have hqN:q<N:=(c9 q _ h1).1;have K4:hp<N:=(c9 hp _ h2).1;have PL:m<N:=(c9 m _ h3).1;have r1:=si hi;have r2:=si hj;simp only[Qs.swap,Qs.e,gN]at hS;obtain⟨ea,ex⟩:=aY (heap.getD i default);obtain⟨eb,ey⟩:=aY (heap.getD j default);simp only[ex,ey]at r1 r2 hS s4 s5;obtain⟨H,hH⟩:=aY ((heap.set i eb).set j ea);have hHl:H.length=heap.length:=by rw[<-hH];simp
 have wY:i<H.length:=by omega
 have hj':j<H.length:=by omega
 have r3:=si wY;have r4:=si hj';have e3:H.getD i default=eb:=by
  rw[<-hH];by_cases e:i=j
  .subst e;rw[<-ex,<-ey];simp[List.getD,hi]
  .have:j≠i:=λq=>e q.symm;simp[List.getD,this,hi]
 have e4:H.getD j default=ea:=by rw[<-hH];simp[List.getD,hj]
 rw[e3]at r3;rw[e4]at r4;have atL:((pp heap).set i eb.enc).set j ea.enc=pp H:=by rw[<-hH,HW,HW]
 obtain⟨x1,y1,z1,z2,z3⟩:=aeW s5 (.v (ti 0)) mc;obtain⟨E1,hE1⟩:=aY (lC es mc eb.h i);have b1:=aa8 (v:=(i:Int)) s1 s5 y1 mc;rw[hE1]at b1 hS;have s6:H3 E1 ea.h=some i1:=by rw[<-hE1,H8 s5];exact s4
 have s7:F9 E1:=by rw[<-hE1];exact Io s5 s1
 obtain⟨x2,y2,z4,z5,z6⟩:=aeW s6 (.v (ti 0)) mc;have b2:=aa8 (v:=(j:Int)) s7 s6 y2 mc;obtain⟨E2,hE2⟩:=aY (lC E1 mc ea.h j);rw[hE2]at b2 hS;rw[hH]at hS;obtain⟨ax,ah,dC⟩:=ea;obtain⟨bx,bh,bt⟩:=eb;simp only[JG.enc]at r1 r2 r3 r4 atL z1 z2 z3 z4 z5 z6;simp;apply aa.ai bb fw [0,1,2];have hd:List.drop 3 (DM.rowAt ((pp heap).set i [ti bx,ti bh,ti bt]) (j:Int))=[]:=by
  rw[show(pp heap).set i [ti bx,ti bh,ti bt]=pp (heap.set i ⟨bx,bh,bt⟩)from(HW heap i ⟨bx,bh,bt⟩).symm,si (by simpa using hj)];rfl
 simp[avG,h1,h2,hi,hj,r1,r2,hd,atL];obtain⟨V,hV⟩:=aY ((⟨a,hp,m,l,⟨heap,bG,es,mc,next,xo⟩⟩:QV):QV);have Zu:V.a=a/\V.hp=hp/\V.m=m/\V.l=l:=by rw[<-hV];exact⟨rfl,rfl,rfl,rfl⟩
 obtain⟨S1,Dk⟩:=aY ((⟨H,bG,es,mc,next,xo⟩:Qs):Qs);rw[hV]at h0 n⊢;have n2:=n;obtain⟨n1,n2',n3,n4,n5,n6,n7,n8,n9,n10,n11,n12⟩:=n;rw[Zu.2.1]at n1 n3 n5;rw[Zu.2.2.1]at n2' n3 n6;rw[Zu.1]at n4 n5 n6;refine aa.le (XF (v:=V) S1 (l:=[(0,.ptr q 0),(1,.v (ti i)),(2,.v (ti j))]) (bn:=N+100) c9 h0 (by omega) (by rw[<-hV,<-Dk];exact gJ _) ?_ ?_ ?_ ?_ ?_ ?_) ?_
 .simp[Zu]
 .rw[Zu.1,Zu.2.1,Zu.2.2.1,<-Dk];simp[n1,h1,qB]
 .rw[Zu.2.1,<-Dk];simp[hB]
 .rw[Zu.2.2.1,<-Dk];simp[mB,Ne.symm n3,h3]
 .rw[Zu.1];simp[n5]
 .simp[ic,qB]
 obtain⟨G,hG⟩:=aY (ic f0 q V S);rw[hG];simp only[ic,Zu,<-Dk,qB,hB,mB];have n1':=Ne.symm n1;have n3':=Ne.symm n3;have aAD:=Ne.symm n2';refine aa.to ⟨DM.look [],ic f0 q V S,N+1000,N,[]⟩ ?_ (by simp[adz,hG]);apply aa.cZ bb fw [];simp[avH,wY,hj',r3,r4,n1',n3',aAD,z1,z2,z3,z4,z5,z6,b1,b2];refine XF S (l:=[]) (bn:=N+1000) c9 h0 (by omega) (by rw[<-hV,<-hS];exact gJ _) ?_ ?_ ?_ ?_ ?_ ?_
 .simp[Zu]
 .rw[Zu.1,Zu.2.1,Zu.2.2.1,<-hS];simp[n2',qB]
 .rw[Zu.2.1,<-hS];simp[n3,n1',hB]
 .rw[Zu.2.2.1,<-hS];simp[mB]
 .rw[Zu.1];simp[n4,n5,n6]
 .simp
end
section
variable{f f0:bS}{az:List cX}
noncomputable def adp:bW->bS->iw
 |[.ptr q 0,.v (.int .i64 i),.v (.int .i64 j)],f=>⟨(∃v:QV,v.at f q)/\(pf f q).s.cG i j,.v (.dh []),ic f q (pf f q) ((pf f q).s.swap i j)⟩
 |_,f=>⟨False,.undef,f⟩
def Y0{v:QV}{q:Nat}{i j:Int}(h:v.at f q):adp [.ptr q 0,.v (ti i),.v (ti j)] f=⟨v.s.cG i j,.v (.dh []),ic f q v (v.s.swap i j)⟩:=by
 have hx:∃v:QV,v.at f q:=⟨v,h⟩;simp only[adp,sy h,hx,Em]
def apo:∀args ab,(adp args ab).ok->(∀N,(∀r,N<=r->ab r=none)->ce ak 211 args ab (adp args ab))/\∀r,ab r=none->(adp args ab).ab r=none:=by
 intro args ab h;unfold adp at h⊢;split at h
 .rename_i q i j;obtain⟨⟨v,hv⟩,hs⟩:=h;rw[sy hv]at hs⊢;have LQ:=hs;obtain⟨_,⟨i0,_⟩,⟨j0,_⟩,_⟩:=LQ;obtain⟨i,rfl⟩:=bX i0;obtain⟨j,rfl⟩:=bX j0;exact⟨λN hN=>ce.of (aAC hN hv hs) rfl rfl,λr hr=>BA hv _ hr⟩
 .exact h.elim
def ajZ{l:List (Nat×DM.Spec)}(h:aw ak (bz l)):aw ak (bz ((211,fl adp)::l)):=aw.il h apo
structure Qs.ok(s:Qs)(az:List cX):Prop where
 pl:F9 s.es
 st:∀e∈s.es,e.1<s.mc
 CD:∀e∈s.heap,s.CD e.h
 r:s.inR az
def Qs.NR{s:Qs}{i j:Int}(hi:i.toNat<s.heap.length)(hj:j.toNat<s.heap.length){e:JG}(h:e∈(s.swap i j).heap):e∈s.heap:=by
 rcases Zbv h with h|rfl
 .rcases Zbv h with h|rfl
  .exact h
  .exact bu hj
 .exact bu hi
def Qs.ok.cG{s:Qs}(h:s.ok az){i j:Int}(hi:0<=i/\i<s.heap.length)(hj:0<=j/\j<s.heap.length):s.cG i j:=
 ⟨h.pl,hi,hj,h.CD _ (bu (by omega)),h.CD _ (bu (by omega))⟩
def Qs.ok.swap{s:Qs}(h:s.ok az){i j:Int}(hi:0<=i/\i<s.heap.length)(hj:0<=j/\j<s.heap.length):(s.swap i j).ok az:=by
 obtain⟨_,_,_,⟨i1,s4⟩,⟨i2,s5⟩⟩:=h.cG hi hj;have s6:H3 (lC s.es s.mc (s.e j).h i) (s.e i).h=some i1:=by rw[H8 s5];exact s4
 have iO:∀{l:Pl} {c:Nat} {k v:Int} {i:Nat},H3 l k=some i->F9 l->(∀e∈l,e.1<c)->∀e∈lC l c k v,e.1<c:=by
  intro l c k v i hk hl hc e he;have:=(abm (k:=k) (v:=v) hl hc).2 e he;unfold S6 at this;rw[hk]at this;exact this
 refine⟨Io s6 (Io s5 h.pl),iO s6 (Io s5 h.pl) (iO s5 h.pl h.st),λe he=>?_,λe he=>h.r e (Qs.NR (by omega) (by omega) he)⟩;obtain⟨k,hk⟩:=h.CD e (Qs.NR (by omega) (by omega) he);exact⟨k,by show H3 (lC _ _ _ _) _=_;rw[H8 s6,H8 s5];exact hk⟩
@[simp] def Qs.s8(s:Qs)(i j:Int):(s.swap i j).heap.length=s.heap.length:=by simp[Qs.swap]
@[simp] def Qs.ay9(s:Qs)(i j:Int):(s.swap i j).bG=s.bG:=rfl
def XZ(az:List cX)(i:Nat)(s:Qs):Qs:=
 if h:0<i/\KY az (s.e i) (s.e ((i-1)/2:Nat))then XZ az ((i-1)/2) (s.swap i ((i-1)/2:Nat))else s
termination_by i
decreasing_by omega
def Yn{N aP bn q:Nat}{tm:dW}{l:pe}{v:QV}(s:Qs)(c9:qX f0 N)(hv:v.at f0 q)(hn:N<=bn)(av9:v.s.bG<=s.bG)
  (nJ:oM (ic f0 q v s) (ic f0 q v s) id tm l):
  Le ⟨tm,ic f0 q v s,aP,N,[]⟩ ⟨DM.look l,ic f0 q v s,bn,N,[]⟩:=by
 have k:=qM hv s;have n:=hv.ne;refine XF s c9 hv hn av9 ?_ k.q k.hp k.m ?_ nJ
 .simp
 .simp[n.aq,n.ap,n.am]
def aAE{q N i:Nat}{v:QV}(hN:∀r,N<=r->f0 r=none)(h:v.at f0 q)(hs:v.s.ok v.l.az)(hi:i<v.s.heap.length)(ct:v.s.heap.length<=1000000):
  ce ak 209 [.ptr q 0,.v (ti i)] f0 ⟨True,.v (.dh []),ic f0 q v (XZ v.l.az i v.s)⟩:=by
 obtain⟨R,hR⟩:=aY (XZ v.l.az i v.s);rw[hR];have bb:=avb (ajZ aw.nil);refine aAe.Ie hN (by simp) λc9=>?_;have zD:∀s,ic f0 q v s q=some (qB v.a v.hp v.m s):=λs=>(qM h s).q;simp;apply aa.block;refine aa.loop (λp:Nat×Qs=>⟨DM.look [(0,.ptr q 0),(1,.v (ti p.1))],ic f0 q v p.2,N+1000,N,[]⟩)
  (λp=>p.1<p.2.heap.length/\p.2.ok v.l.az/\XZ v.l.az p.1 p.2=R/\p.2.heap.length<=1000000/\p.2.bG=v.s.bG) (λp=>p.1) (i,v.s) ?_ ⟨hi,hs,hR,ct,rfl⟩ (λp hp=>?_)
 .refine XF v.s (L:=[]) c9 h (by omega) (gJ _) (by simp) h.q h.hp h.m rfl ?_;simp[zD,qB]
 obtain⟨i,s⟩:=p;obtain⟨p1,p2,p3,p4,p5⟩:=hp;simp only at p1 p2 p3 p4 p5;have hv:=qM h s;have k1:=λx y=>aeT (i:=x) (j:=y) hv;have k2:=λx y=>Y0 (i:=x) (j:=y) hv;have e0:∀s',ic (ic f0 q v s) q (v.to s) s'=ic f0 q v s':=BM f0 q v s;simp only[QV.to,Qs.e]at k1 k2;unfold XZ at p3;by_cases hz:i=0
 .subst hz;rw[dif_neg (by omega)]at p3;subst p3;apply aa.seq;apply aa.uG bb fw (rs:=QK) pV (by kernel_rfl) [13];simp[QK];refine aa.cond rfl (λg=>by cases g) (λg=>?_);apply aa.exit;simp[YC]
 .have w1:IntKind.i64.wrap ((i:Int)-1)=((i-1:Nat):Int):=by rw[av (by omega)];omega
  have w2:IntKind.i64.wrap (((i-1:Nat):Int).tdiv 2)=(((i-1)/2:Nat):Int):=by rw[O6 (by omega),av (by omega)];omega
  have w3:IntKind.i64.wrap (((i-1:Nat):Int)/2)=(((i-1)/2:Nat):Int):=by rw[av (by omega)];omega
  obtain⟨c1,bN⟩:=aY (decide (KY v.l.az (s.e i) (s.e ((i-1)/2:Nat))):Bool);have gD:=bN;simp only[Qs.e,gN]at gD;have hz':0<i:=by omega
  have amg:(i-1)/2<s.heap.length:=by omega
  apply aa.seq;apply aa.uG bb fw (rs:=QK) pV (by kernel_rfl) [0,1,13];obtain⟨y,hy⟩:=aY ((i-1)/2);rw[hy]at w2 w3 bN gD amg p3;simp[QK,w1,w3,k1,hz',amg,p1,p2.r];refine aa.cond rfl (λg=>?_) (λg=>?_)
  .have g:c1=true:=by rw[<-bN];simpa [Qs.e,p1,amg]using g
   subst g;rw[ZdH ⟨hz',BN bN⟩]at p3;have so:=p2.cG (i:=i) (j:=y) ⟨by omega,by omega⟩ ⟨by omega,by omega⟩;have so2:=p2.swap (i:=i) (j:=y) ⟨by omega,by omega⟩ ⟨by omega,by omega⟩;apply aa.skip;simp;apply aa.block;apply aa.uG bb fw (rs:=adA) pV (by kernel_rfl) [0,1];simp[adA,w1,w3,k2,so,e0];apply aa.cZ bb fw [0,1];simp[avI,w1,w3];refine⟨y,s.swap i y,Yn _ c9 h (by omega) (by simp[p5]) ?_,⟨by simpa using amg,so2,p3,by simpa using p4,by simpa using p5⟩,by omega⟩;simp[zD,qB]
  .have g:c1=false:=by rw[<-bN];simpa [Qs.e,p1,amg]using g
   subst g;rw[dif_neg λx=>uF bN x.2]at p3;subst p3;apply aa.exit;simp[YC]
noncomputable def adq:bW->bS->iw
 |[.ptr q 0,.v (.int .i64 i)],f=>⟨(∃v:QV,v.at f q)/\(pf f q).s.ok (pf f q).l.az/\(0<=i/\i<(pf f q).s.heap.length)/\(pf f q).s.heap.length<=1000000,.v (.dh []),ic f q (pf f q) (XZ (pf f q).l.az i.toNat (pf f q).s)⟩
 |_,f=>⟨False,.undef,f⟩
def adL{v:QV}{q:Nat}{i:Int}(h:v.at f q):adq [.ptr q 0,.v (ti i)] f=⟨v.s.ok v.l.az/\(0<=i/\i<v.s.heap.length)/\v.s.heap.length<=1000000,.v (.dh []),ic f q v (XZ v.l.az i.toNat v.s)⟩:=by
 have hx:∃v:QV,v.at f q:=⟨v,h⟩;simp only[adq,sy h,hx,Em]
def app:∀args ab,(adq args ab).ok->(∀N,(∀r,N<=r->ab r=none)->ce ak 209 args ab (adq args ab))/\∀r,ab r=none->(adq args ab).ab r=none:=by
 intro args ab h;unfold adq at h⊢;split at h
 .rename_i q i;obtain⟨⟨v,hv⟩,hs,⟨i0,i1⟩,hl⟩:=h;rw[sy hv]at hs i1 hl⊢;obtain⟨i,rfl⟩:=bX i0;exact⟨λN hN=>ce.of (aAE hN hv hs (by omega) hl) rfl rfl,λr hr=>BA hv _ hr⟩
 .exact h.elim
def auO{l:List (Nat×DM.Spec)}(h:aw ak (bz l)):aw ak (bz ((209,fl adq)::l)):=aw.il h app
end
def Zj(az:List cX)(s:Qs)(i:Nat):Nat->Nat
 |0=>i
 |t+1=>if KY az (s.e (2*i+1+t:Nat)) (s.e (Zj az s i t))then 2*i+1+t else Zj az s i t
def awi(s:Qs)(i:Nat):Nat:=min 2 (s.heap.length-(2*i+1))
def sr(az:List cX)(s:Qs)(i:Nat):Nat:=Zj az s i (awi s i)
def YT(az:List cX)(s:Qs)(i:Nat):∀t,Zj az s i t=i\/(2*i+1<=Zj az s i t/\Zj az s i t<2*i+1+t)
 |0=>.inl rfl
 |t+1=>by
  have:=YT az s i t;unfold Zj;split<;>omega
def EF(az:List cX)(s:Qs)(i:Nat):sr az s i=i\/(i<sr az s i/\sr az s i<s.heap.length):=by
 have:=YT az s i (awi s i);unfold sr;unfold awi at*
 omega
def wU(az:List cX)(i:Nat)(s:Qs):Qs:=
 if h:sr az s i=i then s else wU az (sr az s i) (s.swap i (sr az s i:Nat))
termination_by s.heap.length-i
decreasing_by
 have:=EF az s i;simp only[Qs.s8];omega
def aAF{f0:bS}{q N i:Nat}{v:QV}(hN:∀r,N<=r->f0 r=none)(h:v.at f0 q)(hs:v.s.ok v.l.az)(hi:i<=1000000)(ct:v.s.heap.length<=1000000):
  ce ak 210 [.ptr q 0,.v (ti i)] f0 ⟨True,.v (.dh []),ic f0 q v (wU v.l.az i v.s)⟩:=by
 obtain⟨R,hR⟩:=aY (wU v.l.az i v.s);rw[hR];have bb:=avb (ajZ aw.nil);refine aAg.Ie hN (by simp) λc9=>?_;have zD:∀s,ic f0 q v s q=some (qB v.a v.hp v.m s):=λs=>(qM h s).q;simp;apply aa.block;refine aa.loop (λp:Nat×Qs=>⟨DM.look [(0,.ptr q 0),(1,.v (ti p.1))],ic f0 q v p.2,N+1000,N,[]⟩)
  (λp=>p.1<=1000000/\p.2.ok v.l.az/\wU v.l.az p.1 p.2=R/\p.2.heap.length<=1000000/\p.2.bG=v.s.bG) (λp=>p.2.heap.length-p.1) (i,v.s) ?_ ⟨hi,hs,hR,ct,rfl⟩ (λp hp=>?_)
 .refine XF v.s (L:=[]) c9 h (by omega) (gJ _) (by simp) h.q h.hp h.m rfl ?_;simp[zD,qB]
 obtain⟨i,s⟩:=p;obtain⟨p1,p2,p3,p4,p5⟩:=hp;simp only at p1 p2 p3 p4 p5;have hv:=qM h s;have k1:=λx y=>aeT (i:=x) (j:=y) hv;have k2:=λx y=>Y0 (i:=x) (j:=y) hv;have e0:∀s',ic (ic f0 q v s) q (v.to s) s'=ic f0 q v s':=BM f0 q v s;have hq:=hv.q;have hh:=hv.hp;simp only[QV.to,Qs.e,qB,hB]at k1 k2 hq hh;have w1:IntKind.i64.wrap (2*(i:Int))=2*(i:Int):=av (by omega);have w2:IntKind.i64.wrap (2*(i:Int)+1)=2*(i:Int)+1:=av (by omega);have w3:IntKind.i64.wrap (2*(i:Int)+2)=2*(i:Int)+2:=av (by omega);apply aa.block;apply aa.ai bb fw [0,1,4];simp[avJ];apply aa.sq bb fw [0,1,4,5];simp[avK,w1,w2];apply aa.block;refine aa.loop (λt:Nat=>⟨DM.look [(0,.ptr q 0),(1,.v (ti i)),(4,.v (ti (Zj v.l.az s i t))),(5,.v (ti (2*i+1+t:Nat)))],ic f0 q v s,N+2000,N,[]⟩)
  (λt=>t<=awi s i) (λt=>2-t) 0 (Yn _ c9 h (by omega) (by simp[p5]) ?_) (by omega) (λt ht=>?_)
 .simp[zD,qB,Zj]
 have H6:awi s i<=2/\(awi s i<=s.heap.length-(2*i+1))/\(awi s i=2\/awi s i=s.heap.length-(2*i+1)):=by unfold awi;omega
 obtain⟨L,hL⟩:=aY (Zj v.l.az s i t);have hLo:=YT v.l.az s i t;rw[hL]at hLo⊢;obtain⟨K,hK⟩:=aY (2*i+1+t);rw[hK]at hLo⊢;obtain⟨c1,bN⟩:=aY (decide (t<awi s i):Bool);apply aa.seq;refine aa.bL bb fw [(0,.ptr q 0),(1,.v (ti i)),(4,.v (ti L)),(5,.v (ti K)),(23,.v (.bool c1))] ?_ ?_
 .by_cases z1:t<2
  .have z2:(K:Int)<=2*(i:Int)+2:=by omega
   by_cases z3:K<s.heap.length
   .have:c1=true:=by rw[<-bN];simp;omega
    simp[acs,w1,w3,hq,hh,z2,z3,this]
   .have:c1=false:=by rw[<-bN];simp;omega
    simp[acs,w1,w3,hq,hh,z2,z3,this]
  .have z2:¬(K:Int)<=2*(i:Int)+2:=by omega
   have:c1=false:=by rw[<-bN];simp;omega
   simp[acs,w1,w3,z2,this]
 refine aa.cond rfl (λg=>?_) (λg=>?_)
 .have g:c1=true:=by simpa using g
  subst g;have ht2:t<awi s i:=BN bN;have hKl:K<s.heap.length:=by omega
  have hLl:L<s.heap.length:=by omega
  have wK:IntKind.i64.wrap ((K:Int)+1)=((2*i+1+(t+1):Nat):Int):=by rw[av (by omega)];omega
  have gh:Zj v.l.az s i (t+1)=if KY v.l.az (s.e K) (s.e L)then K else L:=by
   have:Zj v.l.az s i (t+1)=if KY v.l.az (s.e (2*i+1+t:Nat)) (s.e (Zj v.l.az s i t))then 2*i+1+t else Zj v.l.az s i t:=rfl
   rw[this,hK,hL]
  apply aa.skip;simp;apply aa.seq;apply aa.block;apply aa.uG bb fw (rs:=adB) pV (by kernel_rfl) [0,1,4,5,29];simp[adB,k1,p2.r,hKl,hLl];obtain⟨c2,gD⟩:=aY (decide (KY v.l.az (s.e K) (s.e L)):Bool);refine aa.to ⟨DM.look [(0,.ptr q 0),(1,.v (ti i)),(4,.v (ti (Zj v.l.az s i (t+1)))),(5,.v (ti K))],ic f0 q v s,N+4000,N,[]⟩ ?_ ?_
  .refine aa.cond rfl (λg=>?_) (λg=>?_)
   .have g:KY v.l.az (s.e K) (s.e L):=by simpa [Qs.e,hKl,hLl]using g
    rw[ee g]at gh;apply aa.cZ bb fw [0,1,4,5];simp[avL];refine Yn _ c9 h (by omega) (by simp[p5]) ?_;simp[zD,qB,gh]
   .have g:¬KY v.l.az (s.e K) (s.e L):=by simpa [Qs.e,hKl,hLl]using g
    rw[iK g]at gh;apply aa.skip;simp;refine Yn _ c9 h (by omega) (by simp[p5]) ?_;simp[zD,qB,gh]
  simp;apply aa.cZ bb fw [0,1,4,5];simp[avN,wK];refine⟨t+1,Yn _ c9 h (by omega) (by simp[p5]) ?_,by omega,by omega⟩;simp[zD,qB]
 .have g:c1=false:=by simpa using g
  subst g;have ht2:t=awi s i:=by have:=uF bN;omega
  have hLs:sr v.l.az s i=L:=by rw[<-hL,ht2];rfl
  unfold wU at p3;rw[hLs]at p3;apply aa.exit;simp;apply aa.sq bb fw [0,1,4,33];simp[avO];refine aa.cond rfl (λg=>?_) (λg=>?_)
  .have g:L=i:=by simp at g;omega
   rw[ZdH g]at p3;subst p3;apply aa.ret;simp[adD]
  .have g:¬L=i:=by simp at g;omega
   rw[dif_neg g]at p3;have hLl:i<L/\L<s.heap.length:=by have:=EF v.l.az s i;omega
   have so:=p2.cG (i:=i) (j:=L) ⟨by omega,by omega⟩ ⟨by omega,by omega⟩;have so2:=p2.swap (i:=i) (j:=L) ⟨by omega,by omega⟩ ⟨by omega,by omega⟩;apply aa.skip;simp;apply aa.uG bb fw (rs:=adC) pV (by kernel_rfl) [0,4];simp[adC,k2,so,e0];apply aa.cZ bb fw [0,1];simp[avP];refine⟨L,s.swap i L,Yn _ c9 h (by omega) (by simp[p5]) ?_,⟨by omega,so2,p3,by simpa using p4,by simpa using p5⟩,by simp;omega⟩;simp[zD,qB]
noncomputable def adr:bW->bS->iw
 |[.ptr q 0,.v (.int .i64 i)],f=>⟨(∃v:QV,v.at f q)/\(pf f q).s.ok (pf f q).l.az/\(0<=i/\i<=1000000)/\(pf f q).s.heap.length<=1000000,.v (.dh []),ic f q (pf f q) (wU (pf f q).l.az i.toNat (pf f q).s)⟩
 |_,f=>⟨False,.undef,f⟩
def adM{v:QV}{f:bS}{q:Nat}{i:Int}(h:v.at f q):adr [.ptr q 0,.v (ti i)] f=⟨v.s.ok v.l.az/\(0<=i/\i<=1000000)/\v.s.heap.length<=1000000,.v (.dh []),ic f q v (wU v.l.az i.toNat v.s)⟩:=by
 have hx:∃v:QV,v.at f q:=⟨v,h⟩;simp only[adr,sy h,hx,Em]
def apq:∀args ab,(adr args ab).ok->(∀N,(∀r,N<=r->ab r=none)->ce ak 210 args ab (adr args ab))/\∀r,ab r=none->(adr args ab).ab r=none:=by
 intro args ab h;unfold adr at h⊢;split at h
 .rename_i q i;obtain⟨⟨v,hv⟩,hs,⟨i0,i1⟩,hl⟩:=h;rw[sy hv]at hs hl⊢;obtain⟨i,rfl⟩:=bX i0;exact⟨λN hN=>ce.of (aAF hN hv hs (by omega) hl) rfl rfl,λr hr=>BA hv _ hr⟩
 .exact h.elim
def au7{l:List (Nat×DM.Spec)}(h:aw ak (bz l)):aw ak (bz ((210,fl adr)::l)):=aw.il h apq
def yy(s:Qs)(x:Int):Qs:=⟨s.heap++[⟨x,s.next,s.xo⟩],s.bG+1,lC s.es s.mc s.next s.heap.length,S6 s.es s.mc s.next,s.next+1,s.xo+1⟩
def C2(az:List cX)(s:Qs)(x:Int):Qs:=XZ az s.heap.length (yy s x)
def JF{α:Type}{p:α->Bool}{a b:List α}{i:Nat}(h:a.findIdx? p=some i):(a++b).findIdx? p=some i:=by
 rw[List.findIdx?_append,h];rfl
def abI{l:Pl}{c:Nat}{k v k':Int}{i:Nat}(h:H3 l k'=some i):H3 (lC l c k v) k'=some i:=by
 cases hk:H3 l k with
 |some j=>rw[H8 hk];exact h
 |none=>
  unfold lC;rw[hk];exact JF h
def abJ(l:Pl)(c:Nat)(k v:Int):∃i,H3 (lC l c k v) k=some i:=by
 cases hk:H3 l k with
 |some j=>exact⟨j,by rw[H8 hk];exact hk⟩
 |none=>
  unfold lC;rw[hk];unfold H3 at hk⊢;rw[List.findIdx?_append,hk];exact⟨_,by simp;rfl⟩
def abp{s:Qs}{az:List cX}{x:Int}(h:s.ok az)(hx:0<=x/\x<az.length):(yy s x).ok az:=by
 obtain⟨h1,h2⟩:=abm (k:=s.next) (v:=s.heap.length) h.pl h.st;refine⟨h1,h2,λe he=>?_,λe he=>?_⟩
 .rcases lF.1 he with he|he
  .obtain⟨i,hi⟩:=h.CD e he;exact⟨i,abI hi⟩
  .simp at he;subst he;exact abJ _ _ _ _
 .rcases lF.1 he with he|he
  .exact h.r e he
  .simp at he;subst he;exact hx
def YW(s:Qs)(az:List cX)(x:Int):Prop:=s.ok az/\(0<=x/\x<az.length)/\s.heap.length<=100000/\(0<=s.next/\s.next<=1000000000000)/\(0<=s.xo/\s.xo<=1000000000000)
def t82{f0:bS}{q N:Nat}{x:Int}{v:QV}(hN:∀r,N<=r->f0 r=none)(h:v.at f0 q)(hs:YW v.s v.l.az x):
  ce ak 178 [.ptr q 0,.v (ti x)] f0 ⟨True,.v (ti v.s.next),ic f0 q v (C2 v.l.az v.s x)⟩:=by
 obtain⟨ho,hx,h5,h6,h7⟩:=hs;have po:=abp ho hx;obtain⟨R,hR⟩:=aY (C2 v.l.az v.s x);rw[hR];unfold C2 at hR;obtain⟨S,hS⟩:=aY (yy v.s x);rw[hS]at hR po;have bb:=auO aw.nil;refine c82.Ie hN (by simp) λc9=>?_;have zD:∀s,ic f0 q v s q=some (qB v.a v.hp v.m s):=λs=>(qM h s).q;obtain⟨n1,n2,n3,n4,n5,n6,_,_,_,_,_,_⟩:=h.ne;have n1':=Ne.symm n1;have n2':=Ne.symm n2;have n3':=Ne.symm n3;have h1:=h.q;have h2:=h.hp;have h3:=h.m;simp only[qB,hB,mB]at h1 h2 h3;obtain⟨nx,AN⟩:=aY v.s.next;obtain⟨ck,CX⟩:=aY v.s.xo;obtain⟨hp,Nw⟩:=aY v.hp;obtain⟨m,hm⟩:=aY v.m;obtain⟨bG,hve⟩:=aY v.s.bG;have hSd:S=⟨v.s.heap++[⟨x,nx,ck⟩],bG+1,lC v.s.es v.s.mc nx v.s.heap.length,S6 v.s.es v.s.mc nx,nx+1,ck+1⟩:=by rw[<-hS,<-AN,<-CX,<-hve];rfl
 rw[AN,CX,Nw,hve]at h1;rw[hm]at h1 h3;rw[Nw,hve]at h2;rw[AN]at h6;rw[CX]at h7;rw[Nw]at n1 n3 n5 n1' n3';rw[hm]at n2 n3 n6 n2' n3';rw[AN];have w1:IntKind.i64.wrap (nx+1)=nx+1:=av (by omega);have w2:IntKind.i64.wrap (ck+1)=ck+1:=av (by omega);have xx:cw 24 (v.s.heap.length+1):=by simp[cw];omega
 simp;apply aa.ai bb fw [0,1];simp[axE];apply aa.ai bb fw [0,1,5,6];simp[axF,h1,h2];apply aa.ai bb fw [0,5,6];have hch:di 3 1 [ti x,ti nx,ti ck]=[[ti x,ti nx,ti ck]]:=rfl;simp[axG,h1,h2,n1,hch,xx];apply aa.ai bb fw [0,5,6];simp[axH,h3,n2',n3',aiI,acQ];apply aa.ai bb fw [0,5,6];simp[axI,w1,w2,n2];refine aa.le (XF (v:=v) S (l:=[(0,.ptr q 0),(5,.v (ti nx)),(6,.v (ti v.s.heap.length))]) (bn:=N+2000) c9 h (by omega) (by rw[hve,hSd];simp) ?_ ?_ ?_ ?_ ?_ ?_) ?_
 .rw[Nw,hm];simp
 .rw[Nw,hm,hSd];simp[qB]
 .rw[Nw,hSd];simp[n1',n3,hB,YR];rfl
 .rw[hm,hSd];simp[n2',mB]
 .simp[n4,n5,n6]
 .simp[zD,qB]
 have k1:=λy=>adL (i:=y) (qM h S);have hl:S.heap.length=v.s.heap.length+1:=by rw[hSd];simp
 have e0:∀s',ic (ic f0 q v S) q (v.to S) s'=ic f0 q v s':=BM f0 q v S;simp only[QV.to]at k1 e0;apply aa.uG bb fw (rs:=ah6) pV (by kernel_rfl) [5];simp[ah6,k1,po,hl,e0,hR];refine⟨by omega, ?_⟩;apply aa.ai bb fw [4];simp[axJ];apply aa.ret;simp[dI]
noncomputable def k82:bW->bS->iw
 |[.ptr q 0,.v (.int .i64 x)],f=>⟨(∃v:QV,v.at f q)/\YW (pf f q).s (pf f q).l.az x,.v (ti (pf f q).s.next),ic f q (pf f q) (C2 (pf f q).l.az (pf f q).s x)⟩
 |_,f=>⟨False,.undef,f⟩
def awV{v:QV}{f:bS}{q:Nat}{x:Int}(h:v.at f q):k82 [.ptr q 0,.v (ti x)] f=⟨YW v.s v.l.az x,.v (ti v.s.next),ic f q v (C2 v.l.az v.s x)⟩:=by
 have hx:∃v:QV,v.at f q:=⟨v,h⟩;simp only[k82,sy h,hx,Em]
def aw4:∀args ab,(k82 args ab).ok->(∀N,(∀r,N<=r->ab r=none)->ce ak 178 args ab (k82 args ab))/\∀r,ab r=none->(k82 args ab).ab r=none:=by
 intro args ab h;unfold k82 at h⊢;split at h
 .rename_i q x;obtain⟨⟨v,hv⟩,hs⟩:=h;rw[sy hv]at hs⊢;exact⟨λN hN=>ce.of (t82 hN hv hs) rfl rfl,λr hr=>BA hv _ hr⟩
 .exact h.elim
def aAw{l:List (Nat×DM.Spec)}(h:aw ak (bz l)):aw ak (bz ((178,fl k82)::l)):=aw.il h aw4
def zG(s:Qs):Qs:=let s1:=s.swap 0 ((s.heap.length:Int)-1)
 ⟨s1.heap.take (s.heap.length-1),s1.bG+1,DS s1.es (s.e 0).h,s1.mc,s1.next,s1.xo⟩
def ww(az:List cX)(s:Qs):Qs:=if s.heap=[]then s else wU az 0 (zG s)
def abC(s:Qs):T:=if s.heap=[]then .dh [ti 0,.bool false]else .dh [ti (s.e 0).x,.bool true]
def apr{l:Pl}{k k':Int}(h:k≠k'):(∃i,H3 l k'=some i)->∃i,H3 (DS l k) k'=some i:=by
 rintro⟨i,hi⟩;unfold DS;cases hk:H3 l k with
 |none=>exact⟨i,hi⟩
 |some j=>
  obtain⟨e,h1,h2,_⟩:=NQ hi;obtain⟨e',h3,h4,_⟩:=NQ hk;have dd:i≠j:=λx=>by
   subst x;rw[h1]at h3;cases h3;simp at h2 h4;exact h (h4.symm.trans h2)
  have pq:e∈l.eraseIdx j:=List.mem_eraseIdx_iff_getElem?.2 ⟨i,dd,h1⟩;have:(List.findIdx? (λe=>e.2.1==k') (l.eraseIdx j)).isSome=true:=by
   rw[List.findIdx?_isSome,ZcR];exact⟨e,pq,h2⟩
  exact Tz.1 this
def aj0{l:Pl}{k:Int}{c:Nat}(h:F9 l)(hc:∀e∈l,e.1<c):F9 (DS l k)/\∀e∈DS l k,e.1<c:=by
 unfold DS;cases H3 l k with
 |none=>exact⟨h,hc⟩
 |some j=>
  refine⟨?_,λe he=>hc e (Zc2 he)⟩;unfold F9;rw[<-DW];exact h.eraseIdx j
def Qs.nd(s:Qs):Prop:=∀i j:Nat,i<s.heap.length->j<s.heap.length->(s.e i).h=(s.e j).h->i=j
def aei{s:Qs}{az:List cX}(h:s.ok az)(hn:s.nd)(hl:0<s.heap.length):(zG s).ok az:=by
 have h1:=h.swap (i:=0) (j:=(s.heap.length:Int)-1) ⟨by omega,by omega⟩ ⟨by omega,by omega⟩;obtain⟨a1,a2⟩:=aj0 (k:=(s.e 0).h) h1.pl h1.st;refine⟨a1,a2,λe he=>?_,λe he=>h1.r e (yS he)⟩;have he1:e∈(s.swap 0 ((s.heap.length:Int)-1)).heap:=yS he;refine apr (λhk=>?_) (h1.CD e he1);obtain⟨y,hy,rfl⟩:=OQ he;simp only[zG,Ee,Qs.s8]at hy;have vy:y<s.heap.length-1:=by omega
 have fI:y<s.heap.length:=by omega
 have hn1:((s.heap.length:Int)-1).toNat=s.heap.length-1:=by omega
 by_cases hz:y=0
 .subst hz;have hl1:s.heap.length-1<s.heap.length:=by omega
  have:(zG s).heap[0]=s.e ((s.heap.length-1:Nat):Int):=by
   have h0:¬s.heap.length-1=0:=by omega
   simp only[zG,Qs.swap,Zch,hn1,Int.toNat_zero,ZcL,h0,A0,Eg];rw[show(s.heap.length:Int)-1=((s.heap.length-1:Nat):Int)by omega]
  rw[this]at hk;have:=hn 0 (s.heap.length-1) hl (by omega) (by simpa using hk);omega
 .have:(zG s).heap[y]=s.e (y:Int):=by
   have h0:¬s.heap.length-1=y:=by omega
   have h00:¬0=y:=by omega
   simp only[zG,Qs.swap,Zch,hn1,Int.toNat_zero,ZcL,h0,h00,A0,Qs.e,gN];simp[List.getD,fI]
  rw[this]at hk;have:=hn 0 y hl fI (by simpa using hk);omega
def Ua(s:Qs)(az:List cX):Prop:=s.ok az/\s.nd/\s.heap.length<=1000000
def t85{f0:bS}{q N:Nat}{v:QV}(hN:∀r,N<=r->f0 r=none)(h:v.at f0 q)(hs:Ua v.s v.l.az):
  ce ak 180 [.ptr q 0] f0 ⟨True,.v (abC v.s),ic f0 q v (ww v.l.az v.s)⟩:=by
 obtain⟨ho,Bg,ct⟩:=hs;obtain⟨RV,hRV⟩:=aY (abC v.s);obtain⟨R,hR⟩:=aY (ww v.l.az v.s);rw[hR,hRV];unfold ww at hR;unfold abC at hRV;have bb:=ajZ (au7 aw.nil);refine c85.Ie hN (by simp) λc9=>?_;have zD:∀s,ic f0 q v s q=some (qB v.a v.hp v.m s):=λs=>(qM h s).q;have hqN:q<N:=(c9 q _ h.q).1;have K4:v.hp<N:=(c9 v.hp _ h.hp).1;have PL:v.m<N:=(c9 v.m _ h.m).1;obtain⟨n1,n2,n3,n4,n5,n6,_,_,_,_,_,_⟩:=h.ne;have n1':=Ne.symm n1;have n2':=Ne.symm n2;have n3':=Ne.symm n3;have n4':=Ne.symm n4;have h1:=h.q;have h2:=h.hp;have h3:=h.m;simp only[qB,hB,mB]at h1 h2 h3;have nq:∀k,q≠N+k:=λk=>by omega
 have np:∀k,v.hp≠N+k:=λk=>by omega
 have nm:∀k,v.m≠N+k:=λk=>by omega
 have na:∀k,v.a≠N+k:=λk=>by have:=(c9 v.a _ h.l.a).1;omega
 simp;apply aa.ai bb fw [0,2,3];simp[axK];apply aa.sq bb fw [0,2,3,11];simp[axL,h1,h2];refine aa.cond rfl (λg=>?_) (λg=>?_)
 .have g:v.s.heap=[]:=by simpa using g
  rw[ee g]at hR hRV;apply aa.ai bb fw [2,3];simp[axM];rw[<-hR];refine aa.le (XF v.s (l:=[(2,.v (ti 0)),(3,.v (.bool false))]) (bn:=N+1000) c9 h (by omega) (gJ _) ?_ ?_ ?_ ?_ ?_ ?_) ?_
  .simp;omega
  .simp[nq,pn,h.q]
  .simp[np,pn,h.hp]
  .simp[nm,pn,h.m]
  .simp[na,pn]
  .simp
  apply aa.ret;simp[acu,hRV]
 .have g:¬v.s.heap=[]:=by simpa using g
  rw[iK g]at hR hRV;have hl:0<v.s.heap.length:=Gr.2 g;have r0:=si hl;have w1:IntKind.i64.wrap ((v.s.heap.length:Int)-1)=(v.s.heap.length:Int)-1:=av (by omega);obtain⟨⟨ex,eh,et⟩,he⟩:=aY (v.s.heap.getD 0 default);have he2:v.s.e 0=⟨ex,eh,et⟩:=he;rw[he]at r0;rw[he2]at hRV;simp only[JG.enc]at r0;have r0':DM.rowAt (pp v.s.heap) (0:Int)=[ti ex,ti eh,ti et]:=r0;apply aa.skip;simp;apply aa.fR bb fw (rs:=kX (KP q v.hp N) (xK (yD 180 3) [none,none,none,none,none,none,none,none,none,some [0],some [1],none,none,some [105],none])) (.inl (by first|exact congrArg DC.rK (by kernel_rfl)|exact pV)) ((He (WT hqN K4 n1) _ _ _).trans (by kernel_rfl)) [0,4,5];simp[axN,kX,qz,xK,KP,dN,bT,br,h1,h2,hl,r0',w1];refine aa.le (XF v.s (l:=[(0,.ptr q 0),(4,.v (.box [ti ex,ti eh,ti et])),(5,.v (ti ((v.s.heap.length:Int)-1)))]) (bn:=N+1000) c9 h (by omega) (gJ _) ?_ ?_ ?_ ?_ ?_ ?_) ?_
  .simp;omega
  .simp[nq,pn,h.q]
  .simp[np,pn,h.hp]
  .simp[nm,pn,h.m]
  .simp[na,pn]
  .simp[pn,zD,qB];refine j8 c9 (by omega) ?_;simp;omega
  have k1:=λx y=>Y0 (i:=x) (j:=y) (qM h v.s);have e0:∀s',ic (ic f0 q v v.s) q (v.to v.s) s'=ic f0 q v s':=BM f0 q v v.s;simp only[QV.to]at k1 e0;have so:=ho.cG (i:=0) (j:=(v.s.heap.length:Int)-1) ⟨by omega,by omega⟩ ⟨by omega,by omega⟩;have so2:=ho.swap (i:=0) (j:=(v.s.heap.length:Int)-1) ⟨by omega,by omega⟩ ⟨by omega,by omega⟩;apply aa.uG bb fw (rs:=ah7) pV (by kernel_rfl) [0,4,5];simp[ah7,k1,so,e0];obtain⟨P,hP⟩:=aY (zG v.s);have aza:=aei ho Bg hl;rw[hP]at aza hR;obtain⟨S1,Dk⟩:=aY (v.s.swap 0 ((v.s.heap.length:Int)-1));have hPd:P=⟨S1.heap.take (v.s.heap.length-1),S1.bG+1,DS S1.es eh,S1.mc,S1.next,S1.xo⟩:=by rw[<-hP,<-Dk];simp only[zG,he2]
  have hSl:S1.heap.length=v.s.heap.length:=by rw[<-Dk];simp
  have hSv:S1.bG=v.s.bG:=by rw[<-Dk];simp
  rw[Dk];have Bb:=qM h S1;have j1:=Bb.q;have j2:=Bb.hp;have j3:=Bb.m;simp only[qB,hB,mB]at j1 j2 j3;apply aa.ai bb fw [0,4];simp[axO,j1,j2,hSl];refine⟨⟨by omega,by omega⟩, ?_⟩;obtain⟨G,hG⟩:=aY (ic f0 q v R);rw[hG];simp only[ic,akD];refine aa.le (Le.cut q 1 (q:=v.hp) (bG:=S1.bG) (n:=v.s.heap.length-1) (e:=307) (sz:=3) (aC:=pp S1.heap) (cs:=[.AI (.func 133) [.ptr v.a 0],.v7 v.hp S1.bG 0 (v.s.heap.length-1),.fH v.m,.v (ti S1.next),.v (ti S1.xo)]) ?_ rfl ?_) ?_
  .simp
  .simp[n1',hB]
  rw[fJ,fJ];simp only[Zc0,Zb7];apply aa.ai bb fw [0,4];simp[axP,n2',n3',mB,aiJ];refine aa.le (XF P (l:=[(0,.ptr q 0),(4,.v (.box [ti ex,ti eh,ti et]))]) (bn:=N+4000) c9 h (by omega) (by rw[hPd];simp[hSv]) ?_ ?_ ?_ ?_ ?_ ?_) ?_
  .simp
  .rw[hPd];simp[n2,qB]
  .rw[hPd];simp[n1',n3,hB,acP]
  .rw[hPd];simp[mB]
  .simp[n4,n5,n6]
  .simp[zD,qB]
  have k2:=λx=>adM (i:=x) (qM h P);have e1:∀s',ic (ic f0 q v P) q (v.to P) s'=ic f0 q v s':=BM f0 q v P;simp only[QV.to]at k2 e1;have hPl:P.heap.length<=1000000:=by rw[hPd];simp;omega
  apply aa.uG bb fw (rs:=ah8) pV (by kernel_rfl) [4];simp[ah8,k2,aza,e1,hR,hPl,hG];apply aa.ai bb fw [2,3];simp[axQ];apply aa.ret;simp[acu,hRV]
noncomputable def k85:bW->bS->iw
 |[.ptr q 0],f=>⟨(∃v:QV,v.at f q)/\Ua (pf f q).s (pf f q).l.az,.v (abC (pf f q).s),ic f q (pf f q) (ww (pf f q).l.az (pf f q).s)⟩
 |_,f=>⟨False,.undef,f⟩
def aw2{v:QV}{f:bS}{q:Nat}(h:v.at f q):k85 [.ptr q 0] f=⟨Ua v.s v.l.az,.v (abC v.s),ic f q v (ww v.l.az v.s)⟩:=by
 have hx:∃v:QV,v.at f q:=⟨v,h⟩;simp only[k85,sy h,hx,Em]
def aw5:∀args ab,(k85 args ab).ok->(∀N,(∀r,N<=r->ab r=none)->ce ak 180 args ab (k85 args ab))/\∀r,ab r=none->(k85 args ab).ab r=none:=by
 intro args ab h;unfold k85 at h⊢;split at h
 .rename_i q;obtain⟨⟨v,hv⟩,hs⟩:=h;rw[sy hv]at hs⊢;exact⟨λN hN=>ce.of (t85 hN hv hs) rfl rfl,λr hr=>BA hv _ hr⟩
 .exact h.elim
def ay7{l:List (Nat×DM.Spec)}(h:aw ak (bz l)):aw ak (bz ((180,fl k85)::l)):=aw.il h aw5
section
variable{az:List cX}{hd:Int}
def yb(s:Qs)(i:Nat)(x:Int):Qs:=⟨s.heap.set i ⟨x,(s.e i).h,s.xo⟩,s.bG,s.es,s.mc,s.next,s.xo+1⟩
def XD(az:List cX)(s:Qs)(i:Nat)(x:Int):Qs:=XZ az i (yb s i x)
def F8(az:List cX)(s:Qs)(hd x:Int):Qs:=
 wU az ((vg (XD az s ((vg s.es hd).getD 0).toNat x).es hd).getD 0).toNat (XD az s ((vg s.es hd).getD 0).toNat x)
structure ZB(s:Qs)(az:List cX)(hd x:Int):Prop where
 ok:s.ok az
 dC:∃i:Nat,vg s.es hd=some (i:Int)/\i<s.heap.length/\∃j:Nat,vg (XD az s i x).es hd=some (j:Int)/\j<=1000000
 x:0<=x/\x<az.length
 len:s.heap.length<=1000000
 xo:0<=s.xo/\s.xo<=1000000000000
def adK{s:Qs}{i:Nat}{x:Int}(h:s.ok az)(hi:i<s.heap.length)(hx:0<=x/\x<az.length):(yb s i x).ok az:=by
 refine⟨h.pl,h.st,λe he=>?_,λe he=>?_⟩
 .rcases Zbv he with he|rfl
  .exact h.CD e he
  .exact h.CD (s.e (i:Int)) (bu (by simpa using hi))
 .rcases Zbv he with he|rfl
  .exact h.r e he
  .exact hx
def acx:∀{i:Nat} {s:Qs},s.ok az->i<s.heap.length->(XZ az i s).ok az/\(XZ az i s).heap.length=s.heap.length/\(XZ az i s).bG=s.bG:=by
 intro i;induction i using Nat.strongRecOn with
 |_ i ih=>
  intro s h hi;unfold XZ;split
  .rename_i hc;have hk:=h.swap (i:=i) (j:=((i-1)/2:Nat)) ⟨by omega,by omega⟩ ⟨by omega,by omega⟩;obtain⟨a,b,c⟩:=ih ((i-1)/2) (by omega) hk (by simp;omega);exact⟨a,by simpa using b,by simpa using c⟩
  .exact⟨h,rfl,rfl⟩
def ZC{l:Pl}{k v:Int}(h:vg l k=some v):∃e:Nat×Int×Int,l.find? (λe=>e.2.1==k)=some e/\e.2.2=v:=by
 unfold vg at h;obtain⟨e,h1,h2⟩:=ju.1 h;exact⟨e,h1,h2⟩
def La{l:Pl}{k v:Int}(h:vg l k=some v):∃b:Nat,pE (ti k) (N7 l)=some (b,ti k,.v (ti v)):=by
 obtain⟨⟨b,k',v'⟩,h1,h2⟩:=ZC h;simp only at h2;subst h2;have:=ZcW h1;simp at this;subst this;exact⟨b,by rw[ZD,h1];rfl⟩
def t81{f0:bS}{q N:Nat}{x:Int}{v:QV}(hN:∀r,N<=r->f0 r=none)(h:v.at f0 q)(hs:ZB v.s v.l.az hd x):
  ce ak 177 [.ptr q 0,.v (ti hd),.v (ti x)] f0 ⟨True,.v (.bool true),ic f0 q v (F8 v.l.az v.s hd x)⟩:=by
 obtain⟨ho,⟨i,hg,hi,j,hg2,hj⟩,hx,ct,CX⟩:=hs;have hU1:=adK ho hi hx;have hU2:=acx hU1 (i:=i) (by simp[yb];exact hi);obtain⟨b1,Z3⟩:=La hg;obtain⟨b2,Z5⟩:=La hg2;obtain⟨R,hR⟩:=aY (F8 v.l.az v.s hd x);rw[hR];unfold F8 at hR;rw[hg]at hR;simp only[GA,gN]at hR;rw[hg2]at hR;simp only[GA,gN]at hR;have an2:XD v.l.az v.s i x=XZ v.l.az i (yb v.s i x):=rfl;rw[<-an2]at hU2;obtain⟨S2,hS2⟩:=aY (XD v.l.az v.s i x);rw[hS2]at hR hU2 Z5 an2;obtain⟨S1,Dk⟩:=aY (yb v.s i x);rw[Dk]at hU1 hU2 an2;obtain⟨u1,u2,u3⟩:=hU2;have aAm:S1.heap.length=v.s.heap.length:=by rw[<-Dk];simp[yb]
 have bb:=auO (au7 aw.nil);refine c81.Ie hN (by simp) λc9=>?_;have zD:∀s,ic f0 q v s q=some (qB v.a v.hp v.m s):=λs=>(qM h s).q;obtain⟨n1,n2,n3,n4,n5,n6,_,_,_,_,_,_⟩:=h.ne;have n1':=Ne.symm n1;have n2':=Ne.symm n2;have n3':=Ne.symm n3;have h1:=h.q;have h2:=h.hp;have h3:=h.m;simp only[qB,hB,mB]at h1 h2 h3;have r0:=si hi;obtain⟨⟨ox,oh,ot⟩,he⟩:=aY (v.s.heap.getD i default);have he2:v.s.e (i:Int)=⟨ox,oh,ot⟩:=by simpa using he
 rw[he]at r0;simp only[JG.enc]at r0;have an3:S1=⟨v.s.heap.set i ⟨x,oh,v.s.xo⟩,v.s.bG,v.s.es,v.s.mc,v.s.next,v.s.xo+1⟩:=by rw[<-Dk];simp only[yb,he2]
 have w1:IntKind.i64.wrap (v.s.xo+1)=v.s.xo+1:=av (by omega);simp;apply aa.ai bb fw [0,1,2];simp[axR];apply aa.ai bb fw [0,1,2,7,8];simp[axS,h1,h3,Z3];apply aa.sq bb fw [0,1,2,7,19];simp[axT];refine aa.cond rfl (λg=>by cases g) (λg=>?_);apply aa.skip;simp;have gf:∀y,DM.rowAt ((pp v.s.heap).set i y) (i:Int)=y:=λy=>by simp[DM.rowAt,hi]
 apply aa.ai bb fw [0,1,7];simp[axU,h1,h2,hi,r0,gf];apply aa.ai bb fw [0,1,7];simp[axV,h1,w1,n1];refine aa.le (XF (v:=v) S1 (l:=[(0,.ptr q 0),(1,.v (ti hd)),(7,.v (ti (i:Int)))]) (bn:=N+2000) c9 h (by omega) (by rw[an3];exact gJ _) ?_ ?_ ?_ ?_ ?_ ?_) ?_
 .simp
 .rw[an3];simp[qB]
 .rw[an3];simp[n1',hB,HW];rfl
 .rw[an3];simp[n2',n3',mB,h3]
 .simp[n4,n5]
 .simp[zD,qB]
 have k1:=λy=>adL (i:=y) (qM h S1);have e0:∀s',ic (ic f0 q v S1) q (v.to S1) s'=ic f0 q v s':=BM f0 q v S1;simp only[QV.to]at k1 e0;apply aa.uG bb fw (rs:=ah9) pV (by kernel_rfl) [0,1];simp[ah9,k1,hU1,aAm,hi,ct,e0,<-an2];have k2:=λy=>adM (i:=y) (qM h S2);have e1:∀s',ic (ic f0 q v S2) q (v.to S2) s'=ic f0 q v s':=BM f0 q v S2;have nk:=qM h S2;have j1:=nk.q;have j3:=nk.m;simp only[QV.to,qB,mB]at k2 e1 j1 j3;have u2':S2.heap.length<=1000000:=by omega
 apply aa.uG bb fw (rs:=aia) pV (by kernel_rfl) [];simp[aia,j1,j3,Z5,k2,u1,u2',e1,hR];refine⟨by omega, ?_⟩;apply aa.ai bb fw [6];simp[axW];apply aa.ret;simp[dI]
noncomputable def k81:bW->bS->iw
 |[.ptr q 0,.v (.int .i64 hd),.v (.int .i64 x)],f=>⟨(∃v:QV,v.at f q)/\ZB (pf f q).s (pf f q).l.az hd x,.v (.bool true),ic f q (pf f q) (F8 (pf f q).l.az (pf f q).s hd x)⟩
 |_,f=>⟨False,.undef,f⟩
def awB{v:QV}{f:bS}{q:Nat}{x:Int}(h:v.at f q):k81 [.ptr q 0,.v (ti hd),.v (ti x)] f=⟨ZB v.s v.l.az hd x,.v (.bool true),ic f q v (F8 v.l.az v.s hd x)⟩:=by
 have hx:∃v:QV,v.at f q:=⟨v,h⟩;simp only[k81,sy h,hx,Em]
def awC:∀args ab,(k81 args ab).ok->(∀N,(∀r,N<=r->ab r=none)->ce ak 177 args ab (k81 args ab))/\∀r,ab r=none->(k81 args ab).ab r=none:=by
 intro args ab h;unfold k81 at h⊢;split at h
 .rename_i q hd x;obtain⟨⟨v,hv⟩,hs⟩:=h;rw[sy hv]at hs⊢;exact⟨λN hN=>ce.of (t81 hN hv hs) rfl rfl,λr hr=>BA hv _ hr⟩
 .exact h.elim
def aAn{l:List (Nat×DM.Spec)}(h:aw ak (bz l)):aw ak (bz ((177,fl k81)::l)):=aw.il h awC
end
def mV(st:Int)(f:Nat):(f:Int)*st-((f:Int)*((f:Int)-1)).tdiv 2=pre st f:=by
 have h:=Hs st f;obtain⟨k,hk⟩:∃k:Nat,f*(f-1)=2*k:=by
  rcases(show(∃a,f=2*a)\/∃a,f=2*a+1 from by
   by_cases e:f % 2=0
   .exact .inl ⟨f/2,by omega⟩
   .exact .inr ⟨f/2,by omega⟩)with h|h
  .obtain⟨a,rfl⟩:=h;exact⟨a*(2*a-1),by rw[Nat.mul_assoc]⟩
  .obtain⟨a,rfl⟩:=h;exact⟨(2*a+1)*a,by rw[show 2*a+1-1=2*a by omega,Nat.mul_left_comm]⟩
 have sI:(f:Int)*((f:Int)-1)=2*(k:Int):=by
  cases f with
  |zero=>
    obtain rfl:k=0:=by omega
    simp
  |succ f=>rw[show f+1-1=f by omega]at hk;rw[show((f+1:Nat):Int)-1=(f:Int)by omega];exact_mod_cast hk
 rw[sI,show(2*(k:Int)).tdiv 2=k by rw[O6 (by omega)];omega];have:(f:Int)*(2*st-f+1)=2*((f:Int)*st)-(f:Int)*((f:Int)-1):=by grind
 omega
def t64(c:bI)(f t:Nat)(h1:0<=c.an)(h2:c.an<=1000)(h3:c.bf<=1000)(h4:(f:Int)<=c.bf)(h5:t<=1000)(h6:f<=t):aJ ak 95 [c.enc,ti f,ti t] (ti (dO c.an c.bf f t)):=by
 obtain⟨cn,cs,cl⟩:=c;simp only at h1 h2 h3 h4;have hb:=d5 h3 f h4;have hc:=mV cs f;have b1:=g9 (a:=(f:Int)) (A:=1000) (b:=cs) (B:=1000) (by omega) (by omega) (by omega) h3;have b2:=g9 (a:=(f:Int)) (A:=1000) (b:=(f:Int)) (B:=1000) (by omega) (by omega) (by omega) (by omega);have hff:(f:Int)*((f:Int)-1)=(f:Int)*f-f:=by grind
 have avx:0<=(f:Int)*((f:Int)-1)/\(f:Int)*((f:Int)-1)<=1000000:=by
  refine⟨?_,by omega⟩;cases f with
  |zero=>simp
  |succ f=>exact Zc5 (by omega) (by omega)
 obtain⟨P,hP⟩:=aY (pre cs f);rw[hP]at hb hc;have hq:((f:Int)*((f:Int)-1)).tdiv 2=(f:Int)*((f:Int)-1)/2:=O6 avx.1;have b3:=g9 (a:=P+t-f) (A:=2000000) (b:=cn) (B:=1000) (by omega) (by omega) h1 h2;have m1:IntKind.i64.wrap ((f:Int)*cs)=(f:Int)*cs:=av (by omega);have m2:IntKind.i64.wrap ((f:Int)-1)=(f:Int)-1:=av (by omega);have m3:IntKind.i64.wrap ((f:Int)*((f:Int)-1))=(f:Int)*((f:Int)-1):=av (by omega);have m4:IntKind.i64.wrap (((f:Int)*((f:Int)-1)).tdiv 2)=((f:Int)*((f:Int)-1)).tdiv 2:=by rw[hq];exact av (by omega)
 have m5:IntKind.i64.wrap ((f:Int)*cs-((f:Int)*((f:Int)-1)).tdiv 2)=P:=by rw[hc];exact av (by omega)
 have m6:IntKind.i64.wrap (P+t)=P+t:=av (by omega);have m7:IntKind.i64.wrap (P+t-f)=P+t-f:=av (by omega);have m8:IntKind.i64.wrap ((P+t-f)*cn)=dO cn cs f t:=by unfold dO;rw[hP];exact av (by omega)
 have bb:=J2;refine c64.ok (by simp) (aH ?_);simp[bI.enc];apply aa.ai bb fw [1,2,3];simp[aoj];refine aa.lk (o:=[]) (l:=[(1,.v (ti f)),(2,.v (ti t)),(3,.v (.box [ti cn,ti cs,.sl (bl cl)]))]) (bn:=1200) (by simp) ?_;apply aa.ai bb fw [1,2,3,7];simp[aok,m1,m2,m3,m4,m5];apply aa.ai bb fw [6];simp[aol,m6,m7,m8];apply aa.ret;simp[dI]
def KG(c:bI):Prop:=1<=c.an/\c.an<=1000/\1<=c.bf/\c.bf<=1000/\(c.cells.length:Int)=pj c.an c.bf
abbrev s64:DM.Spec:=bp (λts=>∃cn cs cl,∃f t:Int,ts=[.agg [ti cn,ti cs,.sl (bl cl)],ti f,ti t]/\0<=cn/\cn<=1000/\cs<=1000/\0<=f/\f<=cs/\t<=1000/\f<=t) (fun|[.agg [.int _ n,.int _ st,_],.int _ f,.int _ t]=>ti (dO n st f.toNat t.toNat)|_=>.bool false) true
def avy:aw ak (bz [(95,s64)]):=by
 refine aw.cons aw.nil ?_;rintro ts ⟨cn,cs,cl,f,t,rfl,h1,h2,h3,h4,h5,h6,h7⟩;obtain⟨f,rfl⟩:=bX h4;obtain⟨t,rfl⟩:=bX (a:=t) (by omega);exact⟨by simpa [bI.enc]using t64 ⟨cn,cs,cl⟩ f t h1 h2 h3 h5 (by omega) (by omega),λ_=>rfl⟩
def t37(c:bI)(h f t:Int)(hc:KG c):aJ ak 130 [c.enc,.agg [ti h,ti f,ti t]] (.agg (gp c h f t).enc):=by
 obtain⟨cn,cs,cl⟩:=c;obtain⟨k1,k2,k3,k4,k5⟩:=hc;simp only at k1 k2 k3 k4 k5;obtain⟨R,hR⟩:=aY (gp ⟨cn,cs,cl⟩ h f t);rw[hR];unfold gp at hR;simp only at hR;have bb:=avy;refine c37.ok (by simp) (aH ?_);simp[bI.enc];apply aa.ai bb fw [2,3,4];simp[JQ];refine aa.lk (o:=[(1005,.box [.v (ti 0),.v (ti 0),.v (ti 0),.v (ti 0)])]) (l:=[(2,.v (.box [ti cn,ti cs,.sl (bl cl)])),(3,.v (.box [ti h,ti f,ti t])),(4,.ptr 1005 0)]) (bn:=1200) (by simp) ?_;apply aa.seq;obtain⟨c1,bN⟩:=aY (decide (h<0\/h>=cn\/f<0\/t<f\/t>=cs):Bool);refine aa.bL bb fw [(2,.v (.box [ti cn,ti cs,.sl (bl cl)])),(3,.v (.box [ti h,ti f,ti t])),(4,.ptr 1005 0),(35,.v (.bool c1))] ?_ ?_
 .by_cases q1:h<0
  .have:c1=true:=by rw[<-bN];simp[q1]
   simp[vR,q1,this]
  .skip
   by_cases q2:h>=cn
   .have:c1=true:=by rw[<-bN];simp[q2]
    simp[vR,q1,q2,this]
   .skip
    by_cases q3:f<0
    .have:c1=true:=by rw[<-bN];simp[q3]
     simp[vR,q1,q2,q3,this]
    .skip
     by_cases q4:t<f
     .have:c1=true:=by rw[<-bN];simp[q4]
      simp[vR,q1,q2,q3,q4,this]
     .skip
      by_cases q5:t>=cs
      .have:c1=true:=by rw[<-bN];simp[q5]
       simp[vR,q1,q2,q3,q4,q5,this]
      .skip
       have:c1=false:=by rw[<-bN];simp[q1,q2,q3,q4,q5]
       simp[vR,q1,q2,q3,q4,q5,this]
 refine aa.cond rfl (λg1=>?_) (λg1=>?_)
 .rw[g1]at bN;rw[ee (BN bN)]at hR;subst hR;apply aa.ai bb fw [4];simp[JR];apply aa.ret;simp[rY,vD,Cell.enc]
 .rw[g1]at bN;have bN:=uF bN;rw[iK bN]at hR;obtain⟨f,rfl⟩:=bX (a:=f) (by omega);obtain⟨t,rfl⟩:=bX (a:=t) (by omega);simp only[gN]at hR;have cQ:=Dh (nn:=cn) (st:=cs) (f:=f) (t:=t) (by omega) (by omega) (by omega) (i:=h) (by omega);have hib:=d5 k4 f (by omega);have hcp:=qD (nn:=cn) (st:=cs) (by omega);have hpn:pre cs 1<=pre cs cs.toNat:=Df (by omega) (by omega);have Zg:pre cs 1=cs:=by simp[pre]
  have uE:cn*cs<=cn*pre cs cs.toNat:=Zdi (by omega) (by omega);have Ij:cn*1<=cn*cs:=Zdi (by omega) (by omega);have hm3:1*cs<=cn*cs:=ZcC (by omega) (by omega);have hi0:0<=dO cn cs f t:=by unfold dO;exact Zc5 (by omega) (by omega)
  obtain⟨I,hI⟩:=aY (dO cn cs f t);rw[hI]at cQ hi0 hR;obtain⟨i,hi⟩:=bX (a:=I+h) (by omega);rw[hi]at hR;have sW:i<cl.length:=by omega
  have c9:cl.length<=1000000000000:=by
   have hb:=d5 k4 cs.toNat (by omega);have:=g9 (a:=cn) (A:=1000) (b:=pre cs cs.toNat) (B:=1000000) (by omega) (by omega) hb.1 (by omega);omega
  apply aa.skip;simp;apply aa.ai bb fw [2,3,4,5];simp[V5];apply aa.seq;have q1:¬(t:Int)>cl.length:=by omega
  have q2:¬cs>cl.length:=by omega
  have q3:¬cn>cl.length:=by omega
  have q4:¬h>=cl.length:=by omega
  have q1n:¬cl.length<t:=by omega
  refine aa.bL bb fw [(2,.v (.box [ti cn,ti cs,.sl (bl cl)])),(3,.v (.box [ti h,ti f,ti t])),(4,.ptr 1005 0),(5,.v (ti cl.length)),(71,.v (.bool false))] ?_ ?_
  .by_cases z1:0<f
   .by_cases z2:0<t
    .simp[FA,q1,q1n,q2,q3,q4,z1,z2]
    .simp[FA,q1,q1n,q2,q3,q4,z1,z2]
   .by_cases z2:0<t
    .simp[FA,q1,q1n,q2,q3,q4,z1,z2]
    .simp[FA,q1,q1n,q2,q3,q4,z1,z2]
  refine aa.cond rfl (λg4=>?_) (λg4=>?_)
  .exact qe g4 (by simp)
  .apply aa.skip;simp;apply aa.ai bb fw [2,4,5,6];simp[V6,XW,hI,hi,av (x:=(i:Int)) (by omega)];repeat (refine⟨by omega, ?_⟩)
   apply aa.sq bb fw [2,4,6,84];simp[aom];refine aa.cond rfl (λg7=>?_) (λg7=>?_)
   .exact qe g7 (by simp;omega)
   .apply aa.skip;simp;have rr:=iQ sW;have Ts:cl.getD i default=R:=by rw[<-hR];simp[List.getD,sW]
    rw[Ts]at rr;obtain⟨rc,rz,rr1,ra⟩:=R;apply aa.ai bb fw [4];simp[aon,sW,rr,Cell.enc];apply aa.ret;simp[rY]
def gH(l:List Bool):List (aG):=l.map λb=>[.bool b]
@[simp] def awx(l:List Bool):(gH l).length=l.length:=by simp[gH]
def acw(l:List Bool)(i:Nat)(b:Bool):gH (l.set i b)=(gH l).set i [.bool b]:=by simp[gH,Zco]
def eF{l:List Bool}{y:Nat}(h:y<l.length):DM.rowAt (gH l) y=[.bool (l.getD y default)]:=by simp[DM.rowAt,gH,h]
end aT
end Go.Proofs
