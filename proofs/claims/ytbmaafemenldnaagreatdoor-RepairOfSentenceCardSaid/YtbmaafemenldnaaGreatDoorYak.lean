/- Part. Conditions: none. -/
import Derived.Test.YtbmaafemenldnaaGreatDoorYaj
import Derived.Deep.Strs
import Derived.Test.YtbmaafemenldnaaGreatDoorCards
import Derived.Test.YtbmaafemenldnaaGreatDoorTie
import Derived.WalkKit
import Derived.ProofKit
import Derived.Deep.DeepHandedRow
import Derived.LaidMore
import Derived.Lib.LaidTab
set_option linter.all false
set_option maxRecDepth 100000
set_option maxHeartbeats 8000000
namespace Go.Proofs.It
open Go.DM Go.DM.iN
def ED(c z:Int)(ops:List (Int×Int))(y:ba)(d:Tr):aG:=[ti c,ti z,.sl (ca ops),.sl (au y)]++d.enc
def arM(n:ay)(x:Input)(d:Tr)(c z:Int)(y:ba)(ops:List (Int×Int))(u:Int)(h1:aJ ak 48 [n.enc,.agg d.enc] (.sl (au y)))(h2:aJ ak 120 [x.enc,.sl (au y)] (.dh [.sl (ca ops),ti u])):
  aJ ak 71 [n.enc,x.enc,.agg d.enc,.agg [ti c,ti z]] (.agg (ED c z ops y d)):=by
 have bb:aw ak (bz [(48,bp (λts=>ts=[n.enc,.agg d.enc]) (λ_=>.sl (au y)) false),(120,bp (λts=>ts=[x.enc,.sl (au y)]) (λ_=>.dh [.sl (ca ops),ti u]) false)]):=by
  refine aw.cons (aw.cons aw.nil ?_) ?_
  .rintro ts rfl;exact⟨h2,λh=>by cases h⟩
  .rintro ts rfl;exact⟨h1,λh=>by cases h⟩
 obtain⟨dn,dk⟩:=d;obtain⟨nt,nn,ns,aj⟩:=n;obtain⟨xc,xi,xs⟩:=x;simp only[ay.enc,Input.enc,Tr.enc]at bb;refine arN.ok (by simp) (aH ?_);simp[ay.enc,Input.enc,Tr.enc];apply aa.ai bb fw [4,5,6,7,8];simp[abd];refine aa.lk (o:=[(1009,.box [.v (ti 0),.v (ti 0),.aZ,.aZ,.v (ti 0),.aZ])]) (l:=[(4,.v (.box [ti nt,ti nn,ti ns,.sl (aQ aj)])),(5,.v (.box [.sl (bd xc),.sl (au xi),ti xs])),(6,.v (.box [ti dn,.sl (dT dk)])),(7,.v (.box [ti c,ti z])),(8,.ptr 1009 0)]) (bn:=1200) (by simp) ?_;apply aa.ai bb fw [5,6,7,8,9];simp[abe];apply aa.ai bb fw [6,7,8,9,10];simp[abf];apply aa.ai bb fw [8];simp[abg];apply aa.ret;simp[KH,ED,Tr.enc]
def SY:aG:=[ti 0,ti 0,.sl [],.sl [],ti 0,.sl []]
def aeU(n:ay)(x:Input)(l:aF)(c:aT.bI)(v1 v2 st:Int)(Za:aJ ak 21 [x.enc] l.enc)(h93:aJ ak 93 [n.enc,l.enc,c.enc] (.dh [.agg [ti v1,ti v2],ti st]))(R:aG)(e:Int)
  (h:(1099511627776<=v1/\R=SY/\e=6)\/(¬1099511627776<=v1/\e=0/\∃d ops y,R=ED v1 v2 ops y d/\aJ ak 94 (kh n c n.start 0 st) (.agg d.enc)/\aJ ak 71 [n.enc,x.enc,.agg d.enc,.agg [ti v1,ti v2]] (.agg (ED v1 v2 ops y d)))):
  aJ ak 37 [n.enc,x.enc,c.enc] (.dh [.agg R,ti e]):=by
 have bb:aw ak (bz [(21,bp (λts=>ts=[x.enc]) (λ_=>l.enc) false),(93,bp (λts=>ts=[n.enc,l.enc,c.enc]) (λ_=>.dh [.agg [ti v1,ti v2],ti st]) true)]):=by
  refine aw.cons (aw.cons aw.nil ?_) ?_
  .rintro ts rfl;exact⟨h93,λ_=>rfl⟩
  .rintro ts rfl;exact⟨Za,λh=>by cases h⟩
 obtain⟨nt,nn,ns,aj⟩:=n;obtain⟨xc,xi,xs⟩:=x;obtain⟨cn,cs,cl⟩:=c;obtain⟨ls,la,lf⟩:=l;simp only[ay.enc,Input.enc,aT.bI.enc,aF.enc]at bb;refine arO.ok (by simp) (aH ?_);simp[ay.enc,Input.enc,aT.bI.enc];apply aa.ai bb fw [3,4,5,6,7];simp[abh];refine aa.lk (o:=[(1007,.box [.v (ti 0),.v (ti 0),.aZ,.aZ,.v (ti 0),.aZ])]) (l:=[(3,.v (.box [ti nt,ti nn,ti ns,.sl (aQ aj)])),(4,.v (.box [.sl (bd xc),.sl (au xi),ti xs])),(5,.v (.box [ti cn,ti cs,.sl (aT.bl cl)])),(6,.ptr 1007 0),(7,.v (ti 0))]) (bn:=1200) (by simp) ?_;apply aa.ai bb fw [3,4,5,6,8,9];simp[abi];refine aa.lk (o:=[(1007,.box [.v (ti 0),.v (ti 0),.aZ,.aZ,.v (ti 0),.aZ])]) (l:=[(3,.v (.box [ti nt,ti nn,ti ns,.sl (aQ aj)])),(4,.v (.box [.sl (bd xc),.sl (au xi),ti xs])),(5,.v (.box [ti cn,ti cs,.sl (aT.bl cl)])),(6,.ptr 1007 0),(8,.v (.box [ti v1,ti v2])),(9,.v (ti st))]) (bn:=1400) (by simp) ?_;apply aa.sq bb fw [3,4,5,6,8,9,20];simp[abj];rcases h with⟨h1,rfl,rfl⟩|⟨h1,rfl,d,ops,y,rfl,k1,k2⟩
 .refine aa.cond rfl (λaS=>?_) (λaS=>by simp at aS;omega);apply aa.ai bb fw [6,7];simp[abk];apply aa.ret;simp[DR,SY]
 .refine aa.cond rfl (λaS=>by simp at aS;omega) (λaS=>?_);apply aa.skip;simp;obtain⟨dn,dk⟩:=d;have XO:aw ak (bz [(94,bp (λts=>ts=kh ⟨nt,nn,ns,aj⟩ ⟨cn,cs,cl⟩ ns 0 st) (λ_=>.agg (Tr.mk dn dk).enc) false),(71,bp (λts=>ts=[(⟨nt,nn,ns,aj⟩:ay).enc,(⟨xc,xi,xs⟩:Input).enc,.agg (Tr.mk dn dk).enc,.agg [ti v1,ti v2]]) (λ_=>.agg (ED v1 v2 ops y (Tr.mk dn dk))) false)]):=by
   refine aw.cons (aw.cons aw.nil ?_) ?_
   .rintro ts rfl;exact⟨k2,λh=>by cases h⟩
   .rintro ts rfl;exact⟨k1,λh=>by cases h⟩
  simp only[kh,ay.enc,Input.enc,aT.bI.enc,Tr.enc,ED]at XO;apply aa.ai XO fw [6,7];simp[abl];apply aa.ret;simp[DR,ED,Tr.enc]
def ajQ{x:Input}(h:JI x){y:ba}(hl:y.length<=4194304)(hy:∀a∈y,0<=a/\a<x.insert.length):pu x y:=by
 obtain⟨⟨hd,mZ,HG,NH,Xj,pB⟩,g2,g3,g4⟩:=pb h;have hc:=JJ h;have hx:=HY h;refine⟨g2,hl,λj hj=>?_,λc Ef=>⟨g4 c Ef,λp hp=>?_⟩,λi=>⟨hx.Ep i, ?_⟩,λt=>⟨hx.dm t, ?_⟩,Xj,pB⟩
 .exact hy _ (bu hj)
 .exact(mZ c Ef).2 p hp
 .unfold eL;by_cases hi:i<x.ag.length
  .exact(hd.2 (x.ag.getD i default) (by simp[List.getD,hi])).2
  .rw[List.getD,Ls (by omega)];decide
 .unfold f7;by_cases ht:t<x.insert.length
  .exact(NH (x.insert.getD t default) (by simp[List.getD,ht])).2
  .rw[List.getD,Ls (by omega)];decide
def Yf{n:ay}{l:aF}{A B:Nat}(h1:n.an<=A)(h2:l.bf<=B):aT.szB (toI n) l<=(2*B+1)*((A+1)*2^(A+1)):=by
 have e:(toI n).an=n.an:=rfl;unfold aT.szB aT.Lp aT.N4;rw[e];exact ZdG (by omega) (ZdG (by omega) (Zcw (by omega) (by omega)))
end Go.Proofs.It
namespace Go.Proofs
namespace It
open Go.DM
def aps:=aB 38 0
def apt:=aB 38 1
def apu:=aB 38 2
def apv:=aB 38 3
def apw:=aB 38 4
def apx:=aB 38 5
def apy:=aB 38 6
def apz:=aB 38 7
noncomputable def abK:cA:=tj [100096] 38 8
def apA:=aB 38 9
def aj1:=aB 38 10
def aj2:=aB 38 11
noncomputable def azL:DC:=fo 38
def abL:List cH:=[.cell 4 3 true]
def azc [bD]:aR ak 38 58 azL abL:=.at
def apD:=aB 11 0
def apE:=aB 11 1
noncomputable def azM:DC:=fo 11
def abM:List cH:=[.cell 4 6 true,.fB 5]
def azg [bD]:aR ak 11 15 azM abM:=.at
def apC:=aB 10 0
def yu:=aB 10 1
noncomputable def azN:DC:=fo 10
def azf [bD]:aR ak 10 63 azN (dI 8):=.at
def apB:=aB 42 0
def aeY:=aB 42 1
noncomputable def azO:DC:=fo 42
def aze [bD]:aR ak 42 19 azO (dI 6):=.at
def aeZ:=aB 14 0
def ae0:=aB 14 1
def aq0:=aB 14 2
def aqW:=aB 14 3
def aqX:=aB 14 4
def aqY:=aB 14 6
def aqZ:=aB 14 7
noncomputable def azP:DC:=fo 14
def avg [bD]:aR ak 14 60 azP (dI 6):=.at
def aq1:=aB 15 0
def aq2:=aB 15 1
def aq3:=aB 15 3
def aq4:=aB 15 4
def aq5:=aB 15 5
noncomputable def azQ:DC:=fo 15
def azm [bD]:aR ak 15 65 azQ (dI 6):=.at
def apG:=aB 104 0
def apH:=aB 104 1
def aqP:=aB 104 2
def aqQ:=aB 104 3
def aqR:=aB 104 4
def aqS:=aB 104 5
def aqT:=aB 104 6
def aqU:=aB 104 7
def QR:=aB 104 8
def aqV:=aB 104 9
def aj4:=aB 104 10
def aj5:=aB 104 11
def Xe:=aB 104 12
def aj6:=aB 104 13
def aj7:=aB 104 14
def abN:=aB 104 15
def aj8:=aB 104 16
def aj9:=aB 104 17
def ake:=aB 104 18
def akU:=aB 104 19
def alm:=aB 104 20
def alt:=aB 104 21
def alu:=aB 104 23
def alw:=aB 104 24
def alx:=aB 104 26
noncomputable def azR:DC:=fo 104
def abO:List cH:=[.fB 4,.fB 5,.fB 6]
def azi [bD]:aR ak 104 176 azR abO:=.at
def aq6:=aB 52 0
def ari:=aB 52 1
def arp:=aB 52 2
def arq:=aB 52 4
noncomputable def azS:DC:=fo 52
def abP:List cH:=[.fB 4,.fB 5]
def azo [bD]:aR ak 52 19 azS abP:=.at
def ars:=aB 53 0
def art:=aB 53 1
def aru:=aB 53 2
def arv:=aB 53 4
noncomputable def azT:DC:=fo 53
def abQ:List cH:=[.fB 4,.fB 5]
def azq [bD]:aR ak 53 19 azT abQ:=.at
def arx:=aB 39 0
def ary:=aB 39 1
def arz:=aB 39 3
def arP:=aB 39 4
def arQ:=aB 39 5
def arR:=aB 39 7
def arS:=aB 39 8
noncomputable def azU:DC:=fo 39
def azr [bD]:aR ak 39 26 azU (dI 4):=.at
def arT:=aB 40 0
def arU:=aB 40 1
def arV:=aB 40 3
def arW:=aB 40 4
def arX:yD 40 5=[
 n 0 17,
 n 5 18,
 x 2 17 18 19 [0,1],
 L 2 19 20 [2],
 n 1 21,
 n 5 22,
 x 2 21 22 23 [4,5],
 L 2 23 24 [6],
 ⟨.eqT true true [(.int .i64),(.int .i64)] (.tmp 20) (.tmp 24),(some 25),none,[3,7],none⟩]:=rgE (by kernel_rfl)
def arY:=aB 40 7
def arZ:=aB 40 8
noncomputable def azV:DC:=fo 40
def azt [bD]:aR ak 40 26 azV (dI 4):=.at
def asd:=aB 36 0
def ase:=aB 36 1
def asf:=aB 36 2
noncomputable def azW:DC:=(.seq (.region false (yD 36 0))
 (.seq (.region false (yD 36 1))
 (.seq (.region false (yD 36 2))
 (.seq (.rK (yD 36 3))
 .ret))))
def abT:List cH:=[.cell 0 4 true,.cell 1 3 true]
def azx [bD]:aR ak 36 18 azW abT:=.at
def ash:=aB 9 0
def asi:=aB 9 1
def asj:=aB 9 2
def ask:=aB 9 3
def asm:=aB 9 4
noncomputable def azX:DC:=fo 9
def azz [bD]:aR ak 9 67 azX (dI 0):=.at
def ar9:=aB 24 0
def asa:=aB 24 1
def asb:=aB 24 2
def asc:=aB 24 3
noncomputable def azY:DC:=(.seq (.region false (yD 24 0))
 (.seq (.region true (yD 24 1))
 (.seq (.seq (.region false (yD 24 2))
 (.cond (.tmp 20) (.seq (.region false (yD 24 3))
 .ret)
 .skip))
 (.seq (.region false (yD 24 4))
 (.seq (.region false (yD 24 5))
 (.seq (.rK (yD 24 6))
 .ret))))))
def abR:List cH:=[.cell 6 6 true,.fB 7]
def azv [bD]:aR ak 24 35 azY abR:=.at
def ar1:=aB 69 0
def ar4:=aB 69 1
def ar5:=aB 69 2
noncomputable def azZ:DC:=fo 69
def azu [bD]:aR ak 69 58 azZ (dI 6):=.at
def asn:=aB 4 0
def aso:=aB 4 1
def asp:=aB 4 3
def asq:=aB 4 4
def asr:=aB 4 5
def ae3:=aB 4 6
noncomputable def az0:DC:=fo 4
def azA [bD]:aR ak 4 45 az0 (dI 4):=.at
def asP:=aB 17 0
def asQ:=aB 17 1
def asR:=aB 17 2
noncomputable def az1:DC:=fo 17
def azF [bD]:aR ak 17 14 az1 (dI 4):=.at
def ae9:=aB 55 0
def afa:=aB 55 1
def ass:=aB 55 2
def asJ:=aB 55 3
def asK:=aB 55 4
def asL:=aB 55 5
def asM:=aB 55 6
def asN:=aB 55 7
def Zb:=aB 55 8
def asO:=aB 55 9
def anG:=aB 55 10
def anH:=aB 55 11
noncomputable def az2:DC:=fo 55
def N5:List cH:=[.fB 6,.fB 7]
def avi [bD]:aR ak 55 48 az2 N5:=.at
def asS:=aB 5 0
def asT:=aB 5 1
def Zd:=aB 5 3
def asY:=aB 5 4
def asU:=aB 5 5
def afb:=aB 5 6
def asX:=aB 5 7
def asV:=aB 5 8
def asW:=aB 5 9
def aco:=aB 5 10
def anJ:=aB 5 11
def anI:=aB 5 12
def anK:=aB 5 13
def anL:=aB 5 14
noncomputable def az3:DC:=fo 5
def azG [bD]:aR ak 5 72 az3 (dI 6):=.at
def asZ:=aB 6 0
def as0:=aB 6 1
def as1:=aB 6 3
def as2:=aB 6 4
def as8:=aB 6 5
def Zf:=aB 6 6
def afe:=aB 6 7
def atd:=aB 6 8
def atf:=aB 6 9
def anN:=aB 6 10
def anO:=aB 6 11
def anP:=aB 6 13
def anQ:=aB 6 14
def anR:=aB 6 15
def anS:=aB 6 16
def anT:=aB 6 17
def anU:=aB 6 18
def anV:=aB 6 19
def anW:=aB 6 20
def anX:=aB 6 21
def anY:=aB 6 22
noncomputable def az4:DC:=fo 6
def azJ [bD]:aR ak 6 111 az4 (dI 4):=.at
end It
end Go.Proofs
namespace Go.Proofs.It
open Go.DM Go.DM.iN
def azd(x:Input)(a b:Int):aJ ak 42 [x.enc,ti a,ti b] (.bool (decide ((x.ag.length:Int)<=a/\(x.insert.length:Int)<=b))):=by
 have bb:=(aw.nil:aw ak (bz []));obtain⟨R,hR⟩:=aY (decide ((x.ag.length:Int)<=a/\(x.insert.length:Int)<=b));rw[hR];obtain⟨cs,dm,sw⟩:=x;simp only at hR;refine aze.ok (by simp) (aH ?_);simp[Input.enc];apply aa.ai bb fw [1,2,3];simp[apB];refine aa.lk (o:=[]) (l:=[(1,.v (ti a)),(2,.v (ti b)),(3,.v (.box [.sl (bd cs),.sl (au dm),ti sw]))]) (bn:=1200) (by simp) ?_;refine aa.bL bb fw [(6,.v (.bool R))] ?_ ?_
 .by_cases q:(cs.length:Int)<=a
  .simp[aeY,q,<-hR]
  .simp[aeY,q,<-hR]
 apply aa.ret;simp[dI]
def uw(n:ay)(x:Input)(r t:Int):Prop:=0<=n.aX/\n.aX<=6/\0<=n.an/\n.an<=12/\(n.aj.length:Int)<=r/\fk n=true/\((x.ag.length:Int)<=t/\(x.insert.length:Int)<=6)/\(x.insert.length:Int)=n.aX/\inV x n.aX/\aT.Kb (toI n) x.insert
instance(n:ay)(x:Input)(r t:Int):Decidable (uw n x r t):=by unfold uw;infer_instance
def aj3(n:ay)(x:Input)(r t:Int)(h1:n.aj.length<=9223372036854775807)(h2:x.insert.length<=9223372036854775807):aJ ak 10 [n.enc,x.enc,ti r,ti t] (.bool (decide (uw n x r t))):=by
 obtain⟨R,hR⟩:=aY (decide (uw n x r t));rw[hR];have k41:=t44 (aw.nil:aw ak (bz [])) n h1;have k42:=azd x t 6;have k43:=λh=>_root_.Go.Proofs.t28 x n.aX h;have k44:=aT.t22 (toI n) x.insert (by simpa [toI]using h1) h2;rw[toI_enc]at k44;obtain⟨b1,yC⟩:=aY (decide (0<=n.aX));obtain⟨b2,jZ⟩:=aY (decide (n.aX<=6));obtain⟨b3,Eu⟩:=aY (decide (0<=n.an));obtain⟨b4,hb4⟩:=aY (decide (n.an<=12));obtain⟨b5,hb5⟩:=aY (decide ((n.aj.length:Int)<=r));obtain⟨b6,hb6⟩:=aY (fk n);obtain⟨b7,hb7⟩:=aY (decide ((x.ag.length:Int)<=t/\(x.insert.length:Int)<=6));obtain⟨b8,hb8⟩:=aY (decide ((x.insert.length:Int)=n.aX));obtain⟨b9,hb9⟩:=aY (decide (inV x n.aX));obtain⟨b10,aw6⟩:=aY (decide (aT.Kb (toI n) x.insert));rw[hb6]at k41;rw[hb7]at k42;rw[hb9]at k43;rw[aw6]at k44;have hRv:R=(b1&&(b2&&(b3&&(b4&&(b5&&(b6&&(b7&&(b8&&(b9&&b10))))))))):=by
  rw[<-hR,<-yC,<-jZ,<-Eu,<-hb4,<-hb5,<-hb6,<-hb7,<-hb8,<-hb9,<-aw6,ZcB,decide_eq_true_iff];simp[uw]
 have nJ:b2=true->n.aX<=1000000000000:=λhb=>by
  rw[<-jZ,yN]at hb;omega
 have bb:aw ak (bz [(41,bp (λts=>ts=[n.enc]) (λ_=>.bool b6) true),(42,bp (λts=>ts=[x.enc,ti t,ti 6]) (λ_=>.bool b7) true),(43,bp (λts=>ts=[x.enc,ti n.aX]/\b2=true) (λ_=>.bool b9) true),(44,bp (λts=>ts=[n.enc,.sl (au x.insert)]) (λ_=>.bool b10) true)]):=by
  refine aw.cons (aw.cons (aw.cons (aw.cons aw.nil ?_) ?_) ?_) ?_
  .rintro ts rfl;exact⟨k44,λ_=>rfl⟩
  .rintro ts ⟨rfl,hb⟩;exact⟨k43 (nJ hb),λ_=>rfl⟩
  .rintro ts rfl;exact⟨k42,λ_=>rfl⟩
  .rintro ts rfl;exact⟨k41,λ_=>rfl⟩
 clear hR hb6 hb7 hb9 aw6 k41 k42 k43 k44;obtain⟨nt,nn,ns,aj⟩:=n;obtain⟨cs,dm,sw⟩:=x;have qU:(aQ aj).length=aj.length:=by simp[aQ]
 simp only[ay.enc,Input.enc]at bb;simp only at yC jZ Eu hb4 hb5 hb8;refine azf.ok (by simp) (aH ?_);simp[ay.enc,Input.enc];apply aa.ai bb fw [2,3,4,5];simp[apC];refine aa.lk (o:=[]) (l:=[(2,.v (ti r)),(3,.v (ti t)),(4,.v (.box [ti nt,ti nn,ti ns,.sl (aQ aj)])),(5,.v (.box [.sl (bd cs),.sl (au dm),ti sw]))]) (bn:=1200) (by simp) ?_;refine aa.bL bb fw [(8,.v (.bool R))] ?_ ?_
 .cases b1
  .simp[yu,yC,hRv]
  cases b2
  .simp[yu,yC,jZ,hRv]
  cases b3
  .simp[yu,yC,jZ,Eu,hRv]
  cases b4
  .simp[yu,yC,jZ,Eu,hb4,hRv]
  cases b5
  .simp[yu,yC,jZ,Eu,hb4,hb5,qU,hRv]
  cases b6
  .simp[yu,yC,jZ,Eu,hb4,hb5,qU,hRv]
  cases b7
  .simp[yu,yC,jZ,Eu,hb4,hb5,qU,hRv]
  cases b8
  .simp[yu,yC,jZ,Eu,hb4,hb5,qU,hb8,hRv]
  cases b9
  .simp[yu,yC,jZ,Eu,hb4,hb5,qU,hb8,hRv]
  simp[yu,yC,jZ,Eu,hb4,hb5,qU,hb8,hRv]
 apply aa.ret;simp[dI]
def ave(n:ay)(x:Input)(lE cE:T)(a b d e:Int)(p q s:List (aG))(Za:aJ ak 21 [x.enc] lE)(h38:aJ ak 38 [n.enc,lE] cE)(h37:aJ ak 37 [n.enc,x.enc,cE] (.dh [.agg [ti a,ti b,.sl p,.sl q,ti d,.sl s],ti e])):
  aJ ak 11 [n.enc,x.enc] (.dh [.agg [ti a,ti b,.sl p,.sl q,ti d,.sl s],ti e]):=by
 have bb:aw ak (bz [(21,bp (λts=>ts=[x.enc]) (λ_=>lE) false),(38,bp (λts=>ts=[n.enc,lE]) (λ_=>cE) false),(37,bp (λts=>ts=[n.enc,x.enc,cE]) (λ_=>.dh [.agg [ti a,ti b,.sl p,.sl q,ti d,.sl s],ti e]) false)]):=by
  refine aw.cons (aw.cons (aw.cons aw.nil ?_) ?_) ?_
  .rintro ts rfl;exact⟨h37,λh=>by cases h⟩
  .rintro ts rfl;exact⟨h38,λh=>by cases h⟩
  .rintro ts rfl;exact⟨Za,λh=>by cases h⟩
 clear Za h38 h37;obtain⟨nt,nn,ns,aj⟩:=n;obtain⟨cs,dm,sw⟩:=x;simp only[ay.enc,Input.enc]at bb;refine azg.ok (by simp) (aH ?_);simp[ay.enc,Input.enc];apply aa.ai bb fw [2,3,4,5];simp[apD];refine aa.lk (o:=[(1005,.box [.v (ti 0),.v (ti 0),.aZ,.aZ,.v (ti 0),.aZ])]) (l:=[(2,.v (.box [ti nt,ti nn,ti ns,.sl (aQ aj)])),(3,.v (.box [.sl (bd cs),.sl (au dm),ti sw])),(4,.ptr 1005 0),(5,.v (ti 0))]) (bn:=1200) (by simp) ?_;apply aa.ai bb fw [4,5];simp[apE];apply aa.ret;simp[abM]
end Go.Proofs.It
namespace Go.Proofs.aT
open Go.DM Go.DM.iN
def aeX(B own:List Cell)(a:Nat)(h:a+own.length<=B.length):∀y,y<=own.length->wC B own a y=B.take a++(own.take y++B.drop (a+y))
 |0,_=>by simp[wC]
 |y+1,hy=>by
  have e:own.take (y+1)=own.take y++[own.getD y default]:=by rw[OS,mM (by omega)];simp[List.getD,show y<own.length by omega]
  rw[uX,aeX B own a h y (by omega),e,ZS _ _ (by rw[Ee];omega),Ee,ZS _ _ (by rw[Ee];omega),Ee,
   show a+y-min a B.length-min y own.length=0 by omega,If (i:=a+y) (by omega)]
  simp[pn]
def azb{n:ay}{l:aF}(hn:qf n)(hl:wB l)(ha:∀a∈l.aK,a.f<=a.t)(hs:Zs l){len f:Nat}(cQ:((f+len:Nat):Int)<l.bf){B:List Cell}(hB:(List.range f).foldl (ya n l len) ((List.range len).foldl (mf n l) (List.replicate (pj n.an l.bf).toNat ⟨0,0,0,0⟩))=B):
  Run ⟨n,l,⟨n.an,l.bf,B⟩,f,(f:Int)+len⟩:=by
 have h3:=hl.1;have h4:=hl.2.1;have hr:=Di hn hl len (by omega);have hc:=Bp hn hl hr f (len:=len) (by omega);have hd:=J1 hn hl ha hr (Sp hn hl ha len (by omega)) f (by omega);rw[hB]at hc hd;refine⟨⟨hn,hl,hc.ok hn hl,ha, ?_, ?_, ?_⟩,⟨hn,hl,hc.ok hn hl, ?_⟩,⟨hn.1,hn.2.1,h3,h4,hc.1⟩,hs⟩
 .simp only[gN];omega
 .simp only[gN];omega
 .simp only[gN];rw[show((f:Int)+len).toNat=f+len by omega];exact λh s' t' a1 a2 a3 a4 a5 a6=>hd h s' t' a1 a2 a4 (by omega) (by omega)
 .simp only;omega
abbrev s96:DM.Spec:=CA (λts=>∃nt nn ns aj ls aK dM cn cs cl,∃fr to:Int,ts=[.agg [ti nt,ti nn,ti ns,.sl (aQ aj)],.agg [ti ls,.sl (bq aK),.sl (au dM)],.agg [ti cn,ti cs,.sl (bl cl)],ti fr,ti to]/\Run ⟨⟨nt,nn,ns,aj⟩,⟨ls,aK,dM⟩,⟨cn,cs,cl⟩,fr,to⟩)
 (fun|[n,l,c,.int _ fr,.int _ to]=>bl (sP (mt n) (_root_.Go.Proofs.sV l) (ZA c) fr to)|_=>[]) 151 4
def aAG:aw ak (bz [(96,s96),(95,s64)]):=by
 refine aw.ad7 avy ?_;rintro ts ⟨nt,nn,ns,aj,ls,aK,dM,cn,cs,cl,fr,to,rfl,h1⟩;exact⟨by simpa [ay.enc,aF.enc,bI.enc]using t35 h1,Hr _⟩
def avd(n:ay)(l:aF)(hn:qf n)(hl:wB l)(ha:∀a∈l.aK,a.f<=a.t)(hs:Zs l):aJ ak 38 [n.enc,l.enc] (sU n l).enc:=by
 obtain⟨R,hR⟩:=aY (qR n l);have Ts:sU n l=⟨n.an,l.bf,R⟩:=by rw[<-hR];rfl
 rw[Ts];unfold qR at hR;have h0:=Wc hn hl;have cK:=Di hn hl;have gf:=λcells (h:jD n l cells) len=>Bp hn hl h (len:=len);have aN:=λcells (h:jD n l cells)=>h.ok hn hl;have bO:=λ{len f:Nat} h {B:List Cell} hB=>azb hn hl ha hs (len:=len) (f:=f) h (B:=B) hB;obtain⟨nt,nn,ns,aj⟩:=n;obtain⟨ls,aK,dM⟩:=l;have bb:=aAG;have hn1:1<=nn:=hn.1;have FF:nn<=1000:=hn.2.1;have hl1:1<=ls:=hl.1;have BS:ls<=1000:=hl.2.1;simp only at hR h0 cK gf aN bO;have wg:0<=pj nn ls/\pj nn ls<=1000000000:=by
  have:=(aN _ h0).2.2.2.2.1;have:=h0.1;simp only at*
  have:=qD (nn:=nn) (st:=ls) (by omega);have hb:=(d5 BS ls.toNat (by omega));have:=g9 (a:=nn) (A:=1000) (b:=pre ls ls.toNat) (B:=1000000) (by omega) (by omega) hb.1 (by omega);omega
 have uE:=g9 (a:=nn) (A:=1000) (b:=ls) (B:=1000) (by omega) (by omega) (by omega) (by omega);have Ij:=g9 (a:=nn*ls) (A:=1000000) (b:=ls+1) (B:=1001) (by omega) (by omega) (by omega) (by omega);have w1:IntKind.i64.wrap (nn*ls)=nn*ls:=av (by omega);have w2:IntKind.i64.wrap (ls+1)=ls+1:=av (by omega);have w3:IntKind.i64.wrap (nn*ls*(ls+1))=nn*ls*(ls+1):=av (by omega);have w4:(nn*ls*(ls+1)).tdiv 2=pj nn ls:=O6 Ij.1;have w5:IntKind.i64.wrap (pj nn ls)=pj nn ls:=av (by omega);refine It.azc.ok (by simp) (aH ?_);simp[ay.enc,aF.enc,bI.enc];apply aa.ai bb fw [2,3,4];simp[It.aps];refine aa.lk (o:=[(1005,.box [.v (ti 0),.v (ti 0),.aZ])]) (l:=[(2,.v (.box [ti nt,ti nn,ti ns,.sl (aQ aj)])),(3,.v (.box [ti ls,.sl (bq aK),.sl (au dM)])),(4,.ptr 1005 0)]) (bn:=1200) (by simp) ?_;apply aa.ai bb fw [2,3,4,5];simp[It.apt];apply aa.ai bb fw [2,3,4,5];simp[It.apu,w1,w2,w3,w4,w5,XW,cw];repeat (refine⟨by omega, ?_⟩)
 refine aa.le (Le.aL (o:=[(1005,.box [.v (ti 0),.v (ti 0),.aZ]),(1206,.box [.v (ti nn),.v (ti ls),.aW 1283 0]),(1283,.bm 0 151 4 (bl (List.replicate (pj nn ls).toNat ⟨0,0,0,0⟩)))]) (l:=[(2,.v (.box [ti nt,ti nn,ti ns,.sl (aQ aj)])),(3,.v (.box [ti ls,.sl (bq aK),.sl (au dM)])),(4,.ptr 1005 0),(5,.ptr 1206 0)]) (bn:=1600) ?_ ?_ ?_ ?_) ?_
 .simp
 .simp
 .simp[bl,Cell.enc]
 .simp
 apply aa.sq bb fw [2,3,4,5,26,27];simp[It.apv];apply aa.block;refine aa.loop (λa:Nat=>⟨DM.look [(2,.v (.box [ti nt,ti nn,ti ns,.sl (aQ aj)])),(3,.v (.box [ti ls,.sl (bq aK),.sl (au dM)])),(4,.ptr 1005 0),(5,.ptr 1206 0),(26,.v (ti ls)),(27,.v (ti a))],cR [(1005,.box [.v (ti 0),.v (ti 0),.aZ]),(1206,.box [.v (ti nn),.v (ti ls),.aW 1283 0]),(1283,.bm 0 151 4 (bl ((List.range a).foldl (mf ⟨nt,nn,ns,aj⟩ ⟨ls,aK,dM⟩) (List.replicate (pj nn ls).toNat ⟨0,0,0,0⟩))))],2000,1000,[]⟩)
  (λa=>(a:Int)<=ls) (λa=>ls.toNat-a) 0 (Le.aL ?_ ?_ ?_ ?_) (by omega) (λa hy=>?_)
 iterate 4(·simp)
 obtain⟨A,hA⟩:=aY ((List.range a).foldl (mf ⟨nt,nn,ns,aj⟩ ⟨ls,aK,dM⟩) (List.replicate (pj nn ls).toNat ⟨0,0,0,0⟩));have hA1:=cK a hy;rw[hA]at hA1;rw[hA];apply aa.ai bb fw [2,3,4,5,26,27,28];simp[It.apw];apply aa.seq;refine aa.cond rfl (λaS=>?_) (λaS=>?_)
 .have aS:(a:Int)<ls:=by simpa using aS
  apply aa.skip;simp;apply aa.seq;apply aa.block;apply aa.ai bb fw [2,3,4,5,6,26,27];simp[It.apx];apply aa.ai bb fw [2,3,4,5,6,7,26,27];simp[It.apy];apply aa.block;refine aa.loop (λb:Nat=>⟨DM.look [(2,.v (.box [ti nt,ti nn,ti ns,.sl (aQ aj)])),(3,.v (.box [ti ls,.sl (bq aK),.sl (au dM)])),(4,.ptr 1005 0),(5,.ptr 1206 0),(6,.v (ti a)),(7,.v (ti b)),(26,.v (ti ls)),(27,.v (ti a))],cR [(1005,.box [.v (ti 0),.v (ti 0),.aZ]),(1206,.box [.v (ti nn),.v (ti ls),.aW 1283 0]),(1283,.bm 0 151 4 (bl ((List.range b).foldl (ya ⟨nt,nn,ns,aj⟩ ⟨ls,aK,dM⟩ a) A)))],3000,1000,[]⟩)
   (λb=>(b:Int)+a<=ls) (λb=>ls.toNat-a-b) 0 (Le.aL ?_ ?_ ?_ ?_) (by simp;omega) (λb hb=>?_)
  iterate 4(·simp)
  obtain⟨B,hB⟩:=aY ((List.range b).foldl (ya ⟨nt,nn,ns,aj⟩ ⟨ls,aK,dM⟩ a) A);have hB1:=gf A hA1 a b (by omega);rw[hB]at hB1;rw[hB];have w1:IntKind.i64.wrap ((b:Int)+a)=(b:Int)+a:=av (by omega);apply aa.sq bb fw [2,3,4,5,6,7,26,27,35];simp[It.apz,w1];refine aa.cond rfl (λaaQ=>?_) (λaaQ=>?_)
  .have aaQ:(b:Int)+a<ls:=by simpa using aaQ
   apply aa.skip;simp;apply aa.seq;apply aa.block;obtain⟨own,iW⟩:=aY (sP ⟨nt,nn,ns,aj⟩ ⟨ls,aK,dM⟩ ⟨nn,ls,B⟩ b ((b:Int)+a));have aoB:=aN B hB1;have hR1:=bO (len:=a) (f:=b) (by omega) (B:=B) (by rw[hA];exact hB);have hso:=Dg hn hl aoB (fr:=b) (to:=b+a) (by omega) (by omega);rw[show((b+a:Nat):Int)=(b:Int)+a by omega,iW]at hso;have hol:(own.length:Int)=nn:=hso.1;obtain⟨zc,gG⟩:=aY (dO nn ls b (b+a));have hib:=oi (n:=nn) (st:=ls) (f:=b) (t:=b+a) (by omega) FF BS (by omega) (by omega) (by omega);have hix:=λ(i:Int) (hi:i<nn)=>Dh (nn:=nn) (st:=ls) (f:=b) (t:=b+a) (by omega) (by omega) (by omega) hi;rw[gG]at hib hix;obtain⟨zc,rfl⟩:=bX hib.1;have e1:((b:Int)+a).toNat=b+a:=by omega
   have Zw:(B.length:Int)=pj nn ls:=hB1.1;have aAL:=hix (nn-1) (by omega);have QT:zc+own.length<=B.length:=by omega
   have Cd:=aeX B own zc QT own.length (gJ _);rw[uJ]at Cd;have M4:ya ⟨nt,nn,ns,aj⟩ ⟨ls,aK,dM⟩ a B b=wC B own zc own.length:=by unfold ya;simp only[iW,gG,gN];rw[show nn.toNat=own.length by omega]
   refine aa.rP bb fw (rs:=It.abK) (.inr ⟨_,pV⟩) (by kernel_rfl) [2,3,4,5,6,7,26,27] ?_;simp[It.abK,XW,w1,e1,gG,iW];repeat (refine⟨by omega, ?_⟩)
   refine⟨λr hr=>by obtain⟨c,_,rfl⟩:=sE.1 hr;rfl, ?_⟩;apply aa.cZ bb fw [2,3,4,5,6,7,26,27];simp[It.apA];rw[av (x:=(b:Int)+1) (by omega)];refine⟨b+1,Le.aL ?_ ?_ ?_ ?_,by omega,by omega⟩
   .simp
   .simp
   .simp[Gy,hB,M4,Cd,bl];rw[show min (B.length-zc) own.length=own.length by omega,Lz (by simp;omega)]
   .simp
  .have hba:(b:Int)+a=ls:=by simp at aaQ;omega
   apply aa.exit;simp;apply aa.cZ bb fw [2,3,4,5,26,27];simp[It.aj1];rw[av (x:=(a:Int)+1) (by omega)];refine⟨a+1,Le.aL ?_ ?_ ?_ ?_,by omega,by omega⟩
   .simp
   .simp
   .have e:(List.range (a+1)).foldl (mf ⟨nt,nn,ns,aj⟩ ⟨ls,aK,dM⟩) (List.replicate (pj nn ls).toNat ⟨0,0,0,0⟩)=B:=by
     rw[Gy,uK,hA,<-hB];simp only[Br,Zcy];unfold mf;rw[show ls.toNat-a=b by omega]
    simp[e]
   .simp
 .have mE:(a:Int)=ls:=by simp at aS;omega
  have hAR:A=R:=by rw[<-hA,<-hR,show ls.toNat=a by omega]
  rw[hAR];apply aa.exit;simp;apply aa.ai bb fw [4];simp[It.aj2];apply aa.ret;simp[It.abL]
end Go.Proofs.aT
namespace Go.Proofs.It
open Go.DM Go.DM.iN
structure ahV(n:ay)(l:aF):Prop where
 nt:1<=n.an/\n.an<=12
 aX:0<=n.aX/\n.aX<=6
 nr:n.aj.length<=24
 start:0<=n.start/\n.start<n.an
 aj:∀r∈n.aj,¬fa n r/\fX n r
 st:1<=l.bf/\l.bf<=13
 AW:(l.bj.length:Int)=l.bf
 na:l.aK.length<=1000000
 dM:∀c∈l.bj,0<=c/\c<=kA
 XE:∀a∈l.aK,0<=a.f/\a.f<=a.t/\a.t<l.bf/\0<=a.aA/\a.aA<kA
def NW{n:ay}{l:aF}(hp:ahV n l):aT.DY (toI n) l (aT.sU (toI n) l)/\Az (aT.sU (toI n) l)/\aT.qf (toI n)/\aT.wB l/\∀a∈l.aK,a.f<=a.t:=by
 have h1:=hp.nt;have h2:=hp.st;have h3:=hp.nr;have h4:=hp.na;have hn:aT.qf (toI n):=by
  refine⟨h1.1,by simp only[toI];omega,by simp only[toI,we];omega,λr hr=>?_⟩;obtain⟨q,hq,rfl⟩:=sE.1 hr;obtain⟨k1,k2⟩:=hp.aj q hq;unfold fa at k1;unfold fX at k2;unfold aT.me;simp only[toI,toR];omega
 have hl:aT.wB l:=by
  refine⟨h2.1,by omega,by omega,λa ha=>?_⟩;have:=hp.XE a ha;simp only[kA]at this;omega
 have ha:∀a∈l.aK,a.f<=a.t:=λa h=>(hp.XE a h).2.1;have CX:=aT.Di hn hl l.bf.toNat (by omega);have e1:(toI n).an=n.an:=rfl;refine⟨⟨⟨hn,hl,ha, ?_⟩,rfl,rfl,λh s t a1 a2 a3 a4=>aT.MX hn hl ha a1 a2 a3 a4⟩,⟨⟨h1.1, ?_,h2.1, ?_,CX.1⟩,CX.ok hn hl⟩,hn,hl,ha⟩
 .have:=Yf (n:=n) (l:=l) (A:=12) (B:=13) (by omega) (by omega);omega
 .show n.an<=1000;omega
 .show l.bf<=1000;omega
def NX{n:ay}{l:aF}(hp:ahV n l){t:Nat}(ht:t<l.bj.length):0<=l.bj.getD t default/\l.bj.getD t default<=1099511627776:=hp.dM _ (bu ht)
def NY{n:ay}{l:aF}(hb:∀r∈n.aj,fX n r)(Og:∀a∈l.aK,0<=a.f/\a.f<=a.t/\0<=a.aA):
  ∀(N:Nat) (d:Tr) (h:Int) (s t:Nat) (w:Int),d.sz<=N->eG n.aj h d=true->AX l.aK s (dw n.aj d) t w->∃z,aT.DZ (toI n) l h s t (fF n.aj d+w) z
 |0,d,h,s,t,w,hd,_,_=>by have:=zy d;omega
 |N+1,.mk m ks,h,s,t,w,hd,hv,wV=>by
  have avf:∀a∈l.aK,a.f<=a.t/\0<=a.aA:=λa ha=>(Og a ha).2;obtain⟨⟨m1,m2⟩,zw,ct,H6⟩:=wP.1 hv;obtain⟨m,rfl⟩:=bX m1;rw[gN]at zw ct H6;have m2:m<n.aj.length:=by omega
  have hri:=toI_rule (n:=n) m2;obtain⟨r,hr⟩:=aY (n.aj.getD m default);rw[hr]at zw ct H6 hri;have hrm:r∈n.aj:=by rw[<-hr];exact bu m2
  have rk:=hb r hrm;unfold fX at rk;simp only[dw,fF,gN,hr]at wV⊢;simp only[Tr.sz]at hd;have hh:(toR r).head=h:=zw;rw[<-hh];rcases rk with⟨k1,_⟩|⟨k1,_⟩|⟨k1,ka1,ka2,_⟩|⟨k1,ka1,ka2,kb1,kb2⟩
  .have vr:eu r=[]:=by unfold eu;rw[iK (by omega),iK (by omega)]
   rw[vr]at ct;obtain rfl:ks=[]:=Zcj.1 ct;rw[iK (by omega)]at wV;obtain⟨e1,e2⟩:=wV;obtain rfl:s=t:=by omega
   subst e2;simp only[dD,Int.add_zero];exact⟨1,aT.DZ.empty hri k1⟩
  .rw[ee k1]at wV;obtain⟨c,hc,c1,c2,w',⟨c3,c4⟩,c5⟩:=wV;obtain⟨j,hj,rfl⟩:=ZR.1 hc;have vr:eu r=[]:=by unfold eu;rw[iK (by omega),iK (by omega)]
   rw[vr]at ct;obtain rfl:ks=[]:=Zcj.1 ct;subst c4 c5;simp only[dD,Int.add_zero];exact⟨1,aT.DZ.term hri k1 (mM hj) c1 c3 c2⟩
  .have vr:eu r=[r.a]:=by unfold eu;rw[ee k1]
   rw[vr]at ct H6;obtain⟨k,rfl⟩:=ZcF.1 ct;have Bb:=H6 0 (by simp);rw[iK (by omega)]at wV;simp only[dZ,Ej]at wV;simp only[gE]at hd;obtain⟨z,ih⟩:=NY hb Og N k r.a s t w (by omega) (by simpa using Bb) wV;have:=aT.DZ.unary hri k1 ih;refine⟨1+z, ?_⟩;have e:r.bi+dD n.aj [k]+w=(toR r).bi+(fF n.aj k+w):=by simp only[dD,toR];omega
   rw[e];exact this
  .have vr:eu r=[r.a,r.b]:=by unfold eu;rw[iK (by omega),ee k1]
   rw[vr]at ct H6;obtain⟨q1,q2,rfl⟩:∃a c,ks=[a,c]:=by
    match ks,ct with
    |[a,c],_=>exact⟨a,c,rfl⟩
   have Bb:=H6 0 (by simp);have nk:=H6 1 (by simp);rw[iK (by omega)]at wV;simp only[dZ,Ej]at wV;simp only[gE]at hd;obtain⟨u,w1,w2,s1,s2,hw⟩:=AX.split wV;have n1:=AX.mono avf s1;have n2:=AX.mono avf s2;obtain⟨u,rfl⟩:=bX (show 0<=u by omega);obtain⟨z1,ih1⟩:=NY hb Og N q1 r.a s u w1 (by omega) (by simpa using Bb) s1;obtain⟨z2,ZX⟩:=NY hb Og N q2 r.b u t w2 (by omega) (by simpa using nk) s2;have:=aT.DZ.fW hri k1 ih1 ZX;refine⟨1+z1+z2, ?_⟩;have e:r.bi+dD n.aj [q1,q2]+w=(toR r).bi+(fF n.aj q1+w1)+(fF n.aj q2+w2):=by simp only[dD,toR];omega
   rw[e];exact this
def yn{n:ay}(hb:∀r∈n.aj,fX n r):∀(N:Nat) (d:Tr) (h:Int),d.sz<=N->eG n.aj h d=true->∀a∈dw n.aj d,0<=a/\a<n.aX
 |0,d,h,hd,_,_,_=>by have:=zy d;omega
 |N+1,.mk m ks,h,hd,hv,a,ha=>by
  obtain⟨⟨m1,m2⟩,zw,ct,H6⟩:=wP.1 hv;obtain⟨m,rfl⟩:=bX m1;rw[gN]at zw ct H6;have m2:m<n.aj.length:=by omega
  obtain⟨r,hr⟩:=aY (n.aj.getD m default);rw[hr]at zw ct H6;have hrm:r∈n.aj:=by rw[<-hr];exact bu m2
  have rk:=hb r hrm;unfold fX at rk;simp only[dw,gN,hr]at ha;simp only[Tr.sz]at hd;rcases rk with⟨k1,_⟩|⟨k1,_⟩|⟨k1,ka1,ka2,_⟩|⟨k1,ka1,ka2,kb1,kb2⟩
  .have vr:eu r=[]:=by unfold eu;rw[iK (by omega),iK (by omega)]
   rw[vr]at ct;obtain rfl:ks=[]:=Zcj.1 ct;rw[iK (by omega)]at ha;cases ha
  .rw[ee k1]at ha;obtain rfl:=uy.1 ha;omega
  .have vr:eu r=[r.a]:=by unfold eu;rw[ee k1]
   rw[vr]at ct H6;obtain⟨k,rfl⟩:=ZcF.1 ct;have Bb:=H6 0 (by simp);rw[iK (by omega)]at ha;simp only[dZ,Ej]at ha;simp only[gE]at hd;exact yn hb N k r.a (by omega) (by simpa using Bb) a ha
  .have vr:eu r=[r.a,r.b]:=by unfold eu;rw[iK (by omega),ee k1]
   rw[vr]at ct H6;obtain⟨q1,q2,rfl⟩:∃a c,ks=[a,c]:=by
    match ks,ct with
    |[a,c],_=>exact⟨a,c,rfl⟩
   have Bb:=H6 0 (by simp);have nk:=H6 1 (by simp);rw[iK (by omega)]at ha;simp only[dZ,Ej]at ha;simp only[gE]at hd;rcases lF.1 ha with ha|ha
   .exact yn hb N q1 r.a (by omega) (by simpa using Bb) a ha
   .exact yn hb N q2 r.b (by omega) (by simpa using nk) a ha
def apF{n:ay}{x:Input}{c:aT.bI}(hp:ahV n (aI x))(h6:JI x)(ht:(x.insert.length:Int)=n.aX)(F:aT.DY (toI n) (aI x) c){d:Tr}(hv:eG n.aj n.start d=true):
  (kQ n (aI x) c (aI x).bj.length).1.aA<=1099511627776->(kQ n (aI x) c (aI x).bj.length).1.aA<=fF n.aj d+ed x (dw n.aj d) 0 0:=by
 intro io;obtain⟨g1,g2,g3,g4⟩:=pb h6;have hx:=HY h6;have hb:∀r∈n.aj,fX n r:=λr hr=>(hp.aj r hr).2;have hpr:=(nE (aj:=n.aj) (λr hr=>by have:=(hp.aj r hr).1;unfold fa at this;omega) d).1;have atx:=TK x (dw n.aj d) 0 0;have hI:kA=1099511627776:=rfl;have hI2:dV=1099511627776:=rfl;by_cases cQ:fF n.aj d+ed x (dw n.aj d) 0 0<dV
 .have ast:=yn hb _ d n.start (gJ _) hv;obtain⟨cc,hc,scr⟩:=(TL hx (dw n.aj d) _ 0 0 (TZ _) (ER _) (ER _) (ed x (dw n.aj d) 0 0) (by omega)).1 (Tg _);rw[ZcJ]at scr;obtain⟨e,c2,e1,e2,e3⟩:=TN g1.1 hx scr (λt ht=>by have:=ast t ht;omega) 0 [] 0 (gJ _) (Tg _) .nil (by rw[te];omega);rw[te]at e3;rw[jB]at e2;have Og:∀a∈(aI x).aK,0<=a.f/\a.f<=a.t/\0<=a.aA:=λa ha=>by have:=hp.XE a ha;omega
  have wV:=aka (λa ha=>by have:=hp.XE a ha;omega) e2;have hcn:=(AX.mono (λa ha=>(Og a ha).2) wV).2;have hfl:(aI x).bj.length=2*x.ag.length+1:=wA x _;have iO:(aI x).bf=2*x.ag.length+1:=rfl;have fN:=NX hp (t:=e) (by omega);obtain⟨z,dz⟩:=NY hb Og d.sz d n.start 0 e c2 (gJ _) hv wV;have aus:=dz.der F.nO F.lO F.aO (by omega);have hs:=hp.start;have pQ:=(F.dj n.start 0 e hs.1 hs.2 (ER _) (by omega)).le aus;have hK:=yh n (aI x) c (aI x).bj.length;have hl:=hK.sN e (by omega) (by omega);obtain⟨q,hq⟩:=aY (kQ n (aI x) c (aI x).bj.length);rw[hq]at hK hl io⊢;have hgv:(iS n (aI x) c e).aA<=fF n.aj d+ed x (dw n.aj d) 0 0:=by
   have h1:=pQ.1;simp only[aT.cX.lt,Int.natCast_zero]at h1;unfold iS;rw[aT.Av];simp only[aT.Cell.val,Int.natCast_zero]at*
   split
   .simp only;omega
   .simp only;omega
  simp only[aT.cX.lt]at hl;omega
 .omega
def aw7{x:Input}{l:List (Int×Int)}{s:ES}(hx:Zr x)(ct:l.length<=4000000)(h:ta x l=some s):sX x l=s/\s.dC=x.ag.length/\(∀j,j<=l.length->esG x (sX x (l.take j)) j)/\∀j,j<l.length->abv x (sX x (l.take j)) (l.getD j default):=by
 obtain⟨h1,h2⟩:=Zt h;have key:∀j,j<=l.length->zA x (l.take j)=some (sX x (l.take j))/\esG x (sX x (l.take j)) j:=by
  intro j;induction j with
  |zero=>intro _;exact⟨rfl,by simp[sX],by simp[sX],by simp[sX],by simp[sX]⟩
  |succ j ih=>
   intro hj;obtain⟨i1,i2⟩:=ih (by omega);have hs:=Tb x (l:=l) (j:=j) (q:=l.getD j default) (by omega) rfl;have hr:=Ri x (l:=l) (j:=j) (by omega);rw[i1]at hs;by_cases aN:abv x (sX x (l.take j)) (l.getD j default)
   .have e:N9 x (some (sX x (l.take j))) (l.getD j default)=some (stE x (sX x (l.take j)) (l.getD j default)):=by
     unfold N9 stE;simp only;rw[ee aN]
    rw[e]at hs;rw[hs,hr];refine⟨rfl, ?_⟩;unfold stE;exact K7 hx (by have:=aN.1;omega) i2 aN.2
   .have e:N9 x (some (sX x (l.take j))) (l.getD j default)=none:=by
     unfold N9;simp only;rw[iK aN]
    rw[e]at hs;have:=Tc hs;rw[h1]at this;cases this
 have dJ:=key l.length (gJ _);rw[uJ]at dJ;rw[h1]at dJ;refine⟨(TT dJ.1).symm,h2,λj hj=>(key j hj).2,λj hj=>?_⟩;have i1:=(key j (by omega)).1;have i2:=(key (j+1) (by omega)).1;have hs:=Tb x (l:=l) (j:=j) (q:=l.getD j default) hj rfl;rw[i1,i2]at hs;by_cases aN:abv x (sX x (l.take j)) (l.getD j default)
 .exact aN
 .exfalso;unfold N9 at hs;simp only at hs;rw[iK aN]at hs;cases hs
def ahW{x:Input}{l:List (Int×Int)}{j:Nat}{k:Nat}{t:Int}{s:ES}(h:j<l.length)(e:l.getD j default=((k:Int),t))(hs:sX x (l.take j)=s):sX x (l.take (j+1))=cj x s k t.toNat:=by
 rw[Ri x h,e,hs];rfl
def azh(x:Input)(l:List (Int×Int))(s:ES)(hx:Zr x)(Oy:∀c∈x.ag,c.read.length=x.insert.length)(ct:l.length<=4000000)(h:ta x l=some s):aJ ak 104 [x.enc,.sl (ca l)] (.dh [.sl (au s.out),ti s.aA,.bool true]):=by
 have bb:=axk;obtain⟨h1,h2,h3,h4⟩:=aw7 hx ct h;have c9:=hx.LN;have hI:dV=1099511627776:=rfl;refine azi.ok (by simp) (aH ?_);simp[Input.enc];apply aa.ai bb fw [1,2];simp[apG];refine aa.lk (o:=[]) (l:=[(1,.v (.sl (ca l))),(2,.v (.box [.sl (bd x.ag),.sl (au x.insert),ti x.swap]))]) (bn:=1200) (by simp) ?_;apply aa.ai bb fw [1,2,7];simp[apH];refine aa.le (Le.j7 (k:=7) 3 (sz:=1) (by omega) (by simp)) ?_;rw[jY];apply aa.ai bb fw [1,2,7,8,9];simp[aqP];apply aa.sq bb fw [1,2,7,8,9,10];simp[aqQ];apply aa.block;refine aa.loop (λj:Nat=>⟨DM.look [(1,.v (.sl (ca l))),(2,.v (.box [.sl (bd x.ag),.sl (au x.insert),ti x.swap])),(7,.aW 1377 0),(8,.v (ti (sX x (l.take j)).aA)),(9,.v (ti (sX x (l.take j)).dC)),(10,.v (ti j))],cR [(1377,.bm 0 3 1 (au (sX x (l.take j)).out))],2000,1000,[]⟩) (λj=>j<=l.length) (λj=>l.length-j) 0 (Le.aL ?_ ?_ ?_ ?_) (by simp) (λj hj=>?_)
 .simp
 .simp
 .simp[sX,au]
 .simp[sX]
 have nN:=h3 j hj;obtain⟨S,hS⟩:=aY (sX x (l.take j));rw[hS]at nN⊢;apply aa.sq bb fw [1,2,7,8,9,10,17];simp[aqR];refine aa.cond rfl (λaS=>?_) (λaS=>?_)
 .have aS:j<l.length:=by simpa using aS
  apply aa.skip;simp;have Uy:=h4 j aS;have gf:=EX aS;have M4:=λ(k:Nat) t e=>ahW (k:=k) (t:=t) aS e hS;obtain⟨⟨k,t⟩,ho⟩:=aY (l.getD j default);rw[ho]at Uy gf M4;rw[hS]at Uy;obtain⟨⟨k1,k4⟩,tE⟩:=Uy;simp only at k1 k4 tE gf;obtain⟨k,rfl⟩:=bX (show 0<=k by omega);rw[gN]at tE;have vr:k=1\/k=2\/k=3\/k=4:=by omega
  have ht0:=(akb hx vr tE).2;obtain⟨t,rfl⟩:=bX ht0;have M4:=M4 k t rfl;rw[gN]at M4;obtain⟨S',hS'⟩:=aY (sX x (l.take (j+1)));rw[hS']at M4;obtain⟨a,o,c⟩:=S;simp only at tE;obtain⟨b1,b2,b3,b4⟩:=nN;simp only at b1 b2 b3 b4;refine aa.seq (aa.to ⟨DM.look [(1,.v (.sl (ca l))),(2,.v (.box [.sl (bd x.ag),.sl (au x.insert),ti x.swap])),(7,.aW 1377 0),(8,.v (ti S'.aA)),(9,.v (ti S'.dC)),(10,.v (ti j))],cR [(1377,.bm 0 3 1 (au S'.out))],5000,1000,[]⟩ ?_ ?_)
  .apply aa.block;apply aa.ai bb fw [1,2,7,8,9,10,11];simp[aqS,aS,gf];refine aa.lk (o:=[(1377,.bm 0 3 1 (au o))]) (l:=[(1,.v (.sl (ca l))),(2,.v (.box [.sl (bd x.ag),.sl (au x.insert),ti x.swap])),(7,.aW 1377 0),(8,.v (ti c)),(9,.v (ti a)),(10,.v (ti j)),(11,.v (.box [ti k,ti t]))]) (bn:=2500) (by simp) ?_;apply aa.ai bb fw [1,2,7,8,9,10,11,12];simp[aqT];apply aa.ai bb fw [1,2,7,8,9,10,11,12,13];simp[aqU];apply aa.block;rcases vr with rfl|rfl|rfl|rfl
   .have tE:a<x.ag.length/\(0:Int)<=(t:Int)/\(t:Int)<(x.ag.getD a default).read.length/\0<=cV x a (t:Int).toNat:=tE;obtain⟨c1,_,c3,c4⟩:=tE;rw[gN]at c4;have hcr:=Oy _ (bu c1);have hrx:=hx.rd _ (bu c1);have iO:cj x ⟨a,o,c⟩ 1 t=⟨a+1,o++[(t:Int)],min (c+cV x a t) dV⟩:=rfl;unfold cV at c4 iO;have rc:=fg c1;obtain⟨⟨ck,cr,cd⟩,Q7⟩:=aY (x.ag.getD a default);rw[Q7]at c3 c4 hcr hrx rc iO;simp only at c3 c4 hcr hrx iO;have c3:t<cr.length:=by omega
    have c5:t<x.insert.length:=by omega
    have ri:=bA c3;have hrx:=hrx _ (bu c3);obtain⟨v,hv⟩:=aY (cr.getD t default);rw[hv]at c4 hrx iO ri;rw[iO]at M4;subst M4;apply aa.ai bb fw [1,2,7,8,9,10,11,40];simp[QR,c1,c3,c4,c5,rc,ri,bB.enc];refine aa.cond rfl (λJE=>?_) (λJE=>by simp at JE);apply aa.ai bb fw [1,2,7,8,9,10,11];simp[aqV];refine⟨by unfold cw;omega, ?_⟩;apply aa.ai bb fw [1,2,7,8,9,10];simp[aj4,c1,c3,rc,ri,bB.enc];refine⟨⟨_,_,⟨rfl,rfl⟩,⟨by omega,by omega⟩,by omega,by omega⟩, ?_⟩;apply aa.cZ bb fw [1,2,7,8,9,10];simp[aj5];rw[av (x:=(a:Int)+1) (by omega)];refine Le.aL ?_ ?_ ?_ ?_
    .simp
    .simp
    .simp[au]
    .simp
   .have tE:a<x.ag.length/\(t:Int)=0/\eL x a<dV:=tE;obtain⟨c1,c2,c3⟩:=tE;obtain rfl:t=0:=by omega
    have hdx:=hx.Ep a;have iO:cj x ⟨a,o,c⟩ 2 0=⟨a+1,o,min (c+eL x a) dV⟩:=rfl;unfold eL at c3 iO hdx;have rc:=fg c1;obtain⟨⟨ck,cr,cd⟩,Q7⟩:=aY (x.ag.getD a default);rw[Q7]at c3 rc iO hdx;simp only at c3 iO hdx;rw[hI]at c3;rw[iO]at M4;subst M4;apply aa.ai bb fw [1,2,7,8,9,10,11,12,13,40];simp[QR];refine aa.cond rfl (λJE=>by simp at JE) (λJE=>?_);apply aa.ai bb fw [1,2,7,8,9,10,11,82];simp[Xe,c1,c3,rc,bB.enc];refine aa.cond rfl (λJE=>?_) (λJE=>by simp at JE);apply aa.ai bb fw [1,2,7,8,9,10];simp[aj6,c1,rc,bB.enc];refine⟨⟨_,_,⟨rfl,rfl⟩,⟨by omega,by omega⟩,by omega,by omega⟩, ?_⟩;apply aa.cZ bb fw [1,2,7,8,9,10];simp[aj7];rw[av (x:=(a:Int)+1) (by omega)];refine Le.aL ?_ ?_ ?_ ?_;iterate 3(·simp)
    .simp
   .have tE:(0:Int)<=(t:Int)/\(t:Int)<x.insert.length:=tE;have c5:t<x.insert.length:=by omega
    have hix:=hx.dm t;have ri:=bA c5;have iO:cj x ⟨a,o,c⟩ 3 t=⟨a,o++[(t:Int)],min (c+f7 x t) dV⟩:=rfl;unfold f7 at iO hix;obtain⟨v,hv⟩:=aY (x.insert.getD t default);rw[hv]at hix iO ri;rw[iO]at M4;subst M4;apply aa.ai bb fw [1,2,7,8,9,10,11,12,13,40];simp[QR];refine aa.cond rfl (λJE=>by simp at JE) (λJE=>?_);apply aa.ai bb fw [1,2,7,8,9,10,11,12,13,82];simp[Xe];refine aa.cond rfl (λJE=>by simp at JE) (λJE=>?_);apply aa.ai bb fw [1,2,7,8,9,10,11,113];simp[abN,c5];refine aa.cond rfl (λJE=>?_) (λJE=>by simp at JE);apply aa.ai bb fw [1,2,7,8,9,10,11];simp[aj8];refine⟨by unfold cw;omega, ?_⟩;apply aa.cZ bb fw [1,2,7,8,9,10];simp[aj9,c5,ri];refine⟨⟨_,_,⟨rfl,rfl⟩,⟨by omega,by omega⟩,by omega,by omega⟩, ?_⟩;refine Le.aL ?_ ?_ ?_ ?_
    .simp
    .simp
    .simp[au]
    .simp
   .have tE:(t:Int)=0/\cG x a=true:=tE;obtain⟨c2,c3⟩:=tE;obtain rfl:t=0:=by omega
    have c6:=jj c3;have c1:a<x.ag.length:=by omega
    have hsx:=hx.sw;have rc:=fg c1;have rc2:=fg c6;have iO:cj x ⟨a,o,c⟩ 4 0=⟨a+2,o++[(x.ag.getD (a+1) default).kind,(x.ag.getD a default).kind],min (c+x.swap) dV⟩:=rfl;have pB:cG ⟨x.ag,x.insert,x.swap⟩ a=true:=c3;obtain⟨⟨ck,cr,cd⟩,Q7⟩:=aY (x.ag.getD a default);obtain⟨⟨ek,er,ed'⟩,azj⟩:=aY (x.ag.getD (a+1) default);rw[Q7]at rc iO;rw[azj]at rc2 iO;simp only at iO;rw[iO]at M4;subst M4;have w1:IntKind.i64.wrap ((a:Int)+1)=(a:Int)+1:=av (by omega);have rc3:DM.rowAt (bd x.ag) ((a:Int)+1)=(⟨ek,er,ed'⟩:bB).enc:=by rw[<-rc2];rfl
    apply aa.ai bb fw [1,2,7,8,9,10,11,12,13,40];simp[QR];refine aa.cond rfl (λJE=>by simp at JE) (λJE=>?_);apply aa.ai bb fw [1,2,7,8,9,10,11,12,13,82];simp[Xe];refine aa.cond rfl (λJE=>by simp at JE) (λJE=>?_);apply aa.ai bb fw [1,2,7,8,9,10,11,113];simp[abN];refine aa.cond rfl (λJE=>by simp at JE) (λJE=>?_);apply aa.ai bb fw [1,2,7,8,9,10,11,133];simp[ake,pB];refine⟨⟨x,a,⟨rfl,rfl⟩,by omega,c9⟩, ?_⟩;refine aa.cond rfl (λJE=>?_) (λJE=>by simp at JE);apply aa.ai bb fw [1,2,7,8,9,10,11];simp[akU,c1,rc,rc3,w1,bB.enc,show(0:Int)<=(a:Int)+1 by omega,show(a:Int)+1<x.ag.length by omega];refine⟨by unfold cw;omega, ?_⟩;apply aa.ai bb fw [1,2,7,8,9,10];simp[alm];refine⟨⟨_,_,⟨rfl,rfl⟩,⟨by omega,by omega⟩,by omega,by omega⟩, ?_⟩;apply aa.cZ bb fw [1,2,7,8,9,10];simp[alt];rw[av (x:=(a:Int)+2) (by omega)];refine Le.aL ?_ ?_ ?_ ?_
    .simp
    .simp
    .simp[au]
    .simp
  .apply aa.cZ bb fw [1,2,7,8,9,10];simp[alu];rw[av (x:=(j:Int)+1) (by omega)];refine⟨j+1,Le.aL ?_ ?_ ?_ ?_,by omega,by omega⟩
   .simp
   .simp
   .simp[hS']
   .simp[hS']
 .have Ia:j=l.length:=by simp at aS;omega
  subst Ia;rw[uJ]at hS;rw[h1]at hS;subst hS;apply aa.exit;simp;apply aa.sq bb fw [7,8,173];simp[alw,h2];refine aa.cond rfl (λJE=>by simp at JE) (λJE=>?_);apply aa.skip;simp;apply aa.ai bb fw [4,5,6];simp[alx];apply aa.ret;simp[abO]
def azk(n:ay)(x:Input)(c z p u:Int)(ops:List (Int×Int))(y:ba)(d:Tr)(h16:aJ ak 16 [n.enc,ti n.start,.agg d.enc] (.bool true))(h48:aJ ak 48 [n.enc,.agg d.enc] (.sl (au y)))(h47:aJ ak 47 [.sl (au y),.sl (au y)] (.bool true))
  (h49:aJ ak 49 [x.enc,.sl (ca ops)] (.dh [.sl (au y),ti 0])) (h50:aJ ak 50 [x.enc,.sl (ca ops)] (.dh [ti u,ti 0])) (h51:aJ ak 51 [n.enc,.agg d.enc] (ti p)) (hc:p+u=c) (hr: -9223372036854775808<=c/\c<=9223372036854775807):
  aJ ak 14 [n.enc,x.enc,.agg (ED c z ops y d)] (.bool true):=by
 have bb:aw ak (bz [(16,bp (λts=>ts=[n.enc,ti n.start,.agg d.enc]) (λ_=>.bool true) true),(48,bp (λts=>ts=[n.enc,.agg d.enc]) (λ_=>.sl (au y)) false),(47,bp (λts=>ts=[.sl (au y),.sl (au y)]) (λ_=>.bool true) true),
   (49,bp (λts=>ts=[x.enc,.sl (ca ops)]) (λ_=>.dh [.sl (au y),ti 0]) false),(50,bp (λts=>ts=[x.enc,.sl (ca ops)]) (λ_=>.dh [ti u,ti 0]) false),(51,bp (λts=>ts=[n.enc,.agg d.enc]) (λ_=>ti p) true)]):=by
  refine aw.cons (aw.cons (aw.cons (aw.cons (aw.cons (aw.cons aw.nil ?_) ?_) ?_) ?_) ?_) ?_
  .rintro ts rfl;exact⟨h51,λ_=>rfl⟩
  .rintro ts rfl;exact⟨h50,λh=>by cases h⟩
  .rintro ts rfl;exact⟨h49,λh=>by cases h⟩
  .rintro ts rfl;exact⟨h47,λ_=>rfl⟩
  .rintro ts rfl;exact⟨h48,λh=>by cases h⟩
  .rintro ts rfl;exact⟨h16,λ_=>rfl⟩
 clear h16 h48 h47 h49 h50 h51;obtain⟨nt,nn,ns,aj⟩:=n;obtain⟨cs,dm,sw⟩:=x;obtain⟨dn,dk⟩:=d;simp only[ay.enc,Input.enc,Tr.enc]at bb;refine avg.ok (by simp) (aH ?_);simp[ay.enc,Input.enc,Tr.enc,ED];apply aa.ai bb fw [3,4,5];simp[aeZ];refine aa.lk (o:=[]) (l:=[(3,.v (.box [ti nt,ti nn,ti ns,.sl (aQ aj)])),(4,.v (.box [.sl (bd cs),.sl (au dm),ti sw])),(5,.v (.box [ti c,ti z,.sl (ca ops),.sl (au y),ti dn,.sl (dT dk)]))]) (bn:=1200) (by simp) ?_;apply aa.sq bb fw [3,4,5,27];simp[ae0];refine aa.cond rfl (λaS=>by simp at aS) (λaS=>?_);apply aa.skip;simp;apply aa.ai bb fw [3,4,5,7,8];simp[aqW];apply aa.sq bb fw [3,4,5,43];simp[aqX];refine aa.cond rfl (λaS=>by simp at aS) (λaS=>?_);apply aa.skip;simp;apply aa.ai bb fw [3,4,5,9];simp[aqY];have w1:IntKind.i64.wrap (p+u)=c:=by rw[hc];exact av hr
 apply aa.ai bb fw [6];simp[aqZ,w1];apply aa.ret;simp[dI]
def aw8(n:ay)(x:Input)(c z:Int)(ops:List (Int×Int))(y:ba)(d:Tr)(h16:aJ ak 16 [n.enc,ti n.start,.agg d.enc] (.bool false)):aJ ak 14 [n.enc,x.enc,.agg (ED c z ops y d)] (.bool false):=by
 have bb:aw ak (bz [(16,bp (λts=>ts=[n.enc,ti n.start,.agg d.enc]) (λ_=>.bool false) true)]):=by
  refine aw.cons aw.nil ?_;rintro ts rfl;exact⟨h16,λ_=>rfl⟩
 clear h16;obtain⟨nt,nn,ns,aj⟩:=n;obtain⟨cs,dm,sw⟩:=x;obtain⟨dn,dk⟩:=d;simp only[ay.enc,Input.enc,Tr.enc]at bb;refine avg.ok (by simp) (aH ?_);simp[ay.enc,Input.enc,Tr.enc,ED];apply aa.ai bb fw [3,5];simp[aeZ];refine aa.lk (o:=[]) (l:=[(3,.v (.box [ti nt,ti nn,ti ns,.sl (aQ aj)])),(5,.v (.box [ti c,ti z,.sl (ca ops),.sl (au y),ti dn,.sl (dT dk)]))]) (bn:=1200) (by simp) ?_;apply aa.sq bb fw [27];simp[ae0];refine aa.cond rfl (λaS=>?_) (λaS=>by simp at aS);apply aa.ai bb fw [6];simp[aq0];apply aa.ret;simp[dI]
def azl(n:ay)(x:Input)(c z p u:Int)(ops:List (Int×Int))(y:ba)(d:Tr)(h18:aJ ak 18 [n.enc,ti n.start,.agg d.enc] (.bool true))(h19:aJ ak 19 [n.enc,.agg d.enc] (.sl (au y)))(h39:aJ ak 39 [.sl (au y),.sl (au y)] (.bool true))
  (h52:aJ ak 52 [x.enc,.sl (ca ops)] (.dh [.sl (au y),ti 0])) (h53:aJ ak 53 [x.enc,.sl (ca ops)] (.dh [ti u,ti 0])) (h20:aJ ak 20 [n.enc,.agg d.enc] (ti p)) (hc:p+u=c) (hr: -9223372036854775808<=c/\c<=9223372036854775807):
  aJ ak 15 [n.enc,x.enc,.agg (ED c z ops y d)] (.bool true):=by
 have bb:aw ak (bz [(18,bp (λts=>ts=[n.enc,ti n.start,.agg d.enc]) (λ_=>.bool true) true),(19,bp (λts=>ts=[n.enc,.agg d.enc]) (λ_=>.sl (au y)) false),(39,bp (λts=>ts=[.sl (au y),.sl (au y)]) (λ_=>.bool true) true),
   (52,bp (λts=>ts=[x.enc,.sl (ca ops)]) (λ_=>.dh [.sl (au y),ti 0]) false),(53,bp (λts=>ts=[x.enc,.sl (ca ops)]) (λ_=>.dh [ti u,ti 0]) false),(20,bp (λts=>ts=[n.enc,.agg d.enc]) (λ_=>ti p) true)]):=by
  refine aw.cons (aw.cons (aw.cons (aw.cons (aw.cons (aw.cons aw.nil ?_) ?_) ?_) ?_) ?_) ?_
  .rintro ts rfl;exact⟨h20,λ_=>rfl⟩
  .rintro ts rfl;exact⟨h53,λh=>by cases h⟩
  .rintro ts rfl;exact⟨h52,λh=>by cases h⟩
  .rintro ts rfl;exact⟨h39,λ_=>rfl⟩
  .rintro ts rfl;exact⟨h19,λh=>by cases h⟩
  .rintro ts rfl;exact⟨h18,λ_=>rfl⟩
 clear h18 h19 h39 h52 h53 h20;obtain⟨nt,nn,ns,aj⟩:=n;obtain⟨cs,dm,sw⟩:=x;obtain⟨dn,dk⟩:=d;simp only[ay.enc,Input.enc,Tr.enc]at bb;refine azm.ok (by simp) (aH ?_);simp[ay.enc,Input.enc,Tr.enc,ED];apply aa.ai bb fw [3,4,5];simp[aq1];refine aa.lk (o:=[]) (l:=[(3,.v (.box [ti nt,ti nn,ti ns,.sl (aQ aj)])),(4,.v (.box [.sl (bd cs),.sl (au dm),ti sw])),(5,.v (.box [ti c,ti z,.sl (ca ops),.sl (au y),ti dn,.sl (dT dk)]))]) (bn:=1200) (by simp) ?_;apply aa.sq bb fw [3,4,5,27];simp[aq2];refine aa.cond rfl (λaS=>by simp at aS) (λaS=>?_);apply aa.skip;simp;apply aa.ai bb fw [3,4,5,7,8];simp[aq3];apply aa.ai bb fw [3,4,5,7,8,9,10];simp[aq4];have w1:IntKind.i64.wrap (p+u)=c:=by rw[hc];exact av hr
 apply aa.ai bb fw [6];simp[aq5,w1];apply aa.ret;simp[dI]
def azn(x:Input)(ops:List (Int×Int))(y:ba)(u:Int)(h:aJ ak 104 [x.enc,.sl (ca ops)] (.dh [.sl (au y),ti u,.bool true])):aJ ak 52 [x.enc,.sl (ca ops)] (.dh [.sl (au y),ti 0]):=by
 have bb:aw ak (bz [(104,bp (λts=>ts=[x.enc,.sl (ca ops)]) (λ_=>.dh [.sl (au y),ti u,.bool true]) false)]):=by
  refine aw.cons aw.nil ?_;rintro ts rfl;exact⟨h,λh=>by cases h⟩
 obtain⟨cs,dm,sw⟩:=x;simp only[Input.enc]at bb;refine azo.ok (by simp) (aH ?_);simp[Input.enc];apply aa.ai bb fw [1,2];simp[aq6];apply aa.ai bb fw [6,8];simp[ari];apply aa.sq bb fw [6,17];simp[arp];refine aa.cond rfl (λaS=>by simp at aS) (λaS=>?_);apply aa.skip;simp;apply aa.ai bb fw [4,5];simp[arq];apply aa.ret;simp[abP]
def azp(x:Input)(ops:List (Int×Int))(y:ba)(u:Int)(h:aJ ak 104 [x.enc,.sl (ca ops)] (.dh [.sl (au y),ti u,.bool true])):aJ ak 53 [x.enc,.sl (ca ops)] (.dh [ti u,ti 0]):=by
 have bb:aw ak (bz [(104,bp (λts=>ts=[x.enc,.sl (ca ops)]) (λ_=>.dh [.sl (au y),ti u,.bool true]) false)]):=by
  refine aw.cons aw.nil ?_;rintro ts rfl;exact⟨h,λh=>by cases h⟩
 obtain⟨cs,dm,sw⟩:=x;simp only[Input.enc]at bb;refine azq.ok (by simp) (aH ?_);simp[Input.enc];apply aa.ai bb fw [1,2];simp[ars];apply aa.ai bb fw [7,8];simp[art];apply aa.sq bb fw [7,17];simp[aru];refine aa.cond rfl (λaS=>by simp at aS) (λaS=>?_);apply aa.skip;simp;apply aa.ai bb fw [4,5];simp[arv];apply aa.ret;simp[abQ]
def avh(a:ba)(hl:a.length<=1000000000):aJ ak 39 [.sl (au a),.sl (au a)] (.bool true):=by
 have bb:=(aw.nil:aw ak (bz []));refine azr.ok (by simp) (aH ?_);simp;apply aa.ai bb fw [0,1];simp[arx];apply aa.sq bb fw [0,1,10];simp[ary];refine aa.cond rfl (λaS=>by simp at aS) (λaS=>?_);apply aa.skip;simp;apply aa.sq bb fw [0,1,5];simp[arz];apply aa.block;refine aa.loop (λy:Nat=>⟨DM.look [(0,.v (.sl (au a))),(1,.v (.sl (au a))),(5,.v (ti y))],cR [],3000,1000,[]⟩) (λy=>y<=a.length) (λy=>a.length-y) 0 (Le.aL (o:=[]) ?_ ?_ ?_ ?_) (by simp) (λy hy=>?_);iterate 4(·simp)
 apply aa.sq bb fw [0,1,5,14];simp[arP];refine aa.cond rfl (λaS=>?_) (λaS=>?_)
 .have aS:y<a.length:=by simpa using aS
  have rr:=bA aS;apply aa.skip;simp;apply aa.seq;apply aa.block;apply aa.ai bb fw [0,1,5,25];simp[arQ,aS,rr];refine aa.cond rfl (λJE=>by simp at JE) (λJE=>?_);apply aa.skip;simp;apply aa.cZ bb fw [0,1,5];simp[arR];rw[av (x:=(y:Int)+1) (by omega)];refine⟨y+1,Le.aL (o:=[]) ?_ ?_ ?_ ?_,by omega,by omega⟩;iterate 3(·simp)
  .simp
 .apply aa.exit;simp;apply aa.ai bb fw [4];simp[arS];apply aa.ret;simp[dI]
def azs(a:List (Int×Int))(hl:a.length<=1000000000):aJ ak 40 [.sl (ca a),.sl (ca a)] (.bool true):=by
 have bb:=(aw.nil:aw ak (bz []));refine azt.ok (by simp) (aH ?_);simp;apply aa.ai bb fw [0,1];simp[arT];apply aa.sq bb fw [0,1,10];simp[arU];refine aa.cond rfl (λaS=>by simp at aS) (λaS=>?_);apply aa.skip;simp;apply aa.sq bb fw [0,1,5];simp[arV];apply aa.block;refine aa.loop (λy:Nat=>⟨DM.look [(0,.v (.sl (ca a))),(1,.v (.sl (ca a))),(5,.v (ti y))],cR [],3000,1000,[]⟩) (λy=>y<=a.length) (λy=>a.length-y) 0 (Le.aL (o:=[]) ?_ ?_ ?_ ?_) (by simp) (λy hy=>?_);iterate 4(·simp)
 apply aa.sq bb fw [0,1,5,14];simp[arW];refine aa.cond rfl (λaS=>?_) (λaS=>?_)
 .have aS:y<a.length:=by simpa using aS
  have rr:=EX aS;apply aa.skip;simp;apply aa.seq;apply aa.block;apply aa.ai bb fw [0,1,5,25];simp[arX,aS,rr];refine aa.cond rfl (λJE=>by simp at JE) (λJE=>?_);apply aa.skip;simp;apply aa.cZ bb fw [0,1,5];simp[arY];rw[av (x:=(y:Int)+1) (by omega)];refine⟨y+1,Le.aL (o:=[]) ?_ ?_ ?_ ?_,by omega,by omega⟩;iterate 3(·simp)
  .simp
 .apply aa.exit;simp;apply aa.ai bb fw [4];simp[arZ];apply aa.ret;simp[dI]
def aw9(nd r e:Int)(es:List (aG))(k:List (aG))(he:e<0):aJ ak 69 [.agg [ti nd,.sl es],ti r,.agg [ti e,.sl k]] (.bool false):=by
 have bb:=(aw.nil:aw ak (bz []));refine azu.ok (by simp) (aH ?_);simp;apply aa.ai bb fw [3,5];simp[ar1];refine aa.lk (o:=[]) (l:=[(3,.v (.box [ti nd,.sl es])),(5,.v (.box [ti e,.sl k]))]) (bn:=1200) (by simp) ?_;apply aa.sq bb fw [20];simp[ar4,he];refine aa.cond rfl (λaS=>?_) (λaS=>by simp at aS);apply aa.ai bb fw [6];simp[ar5];apply aa.ret;simp[dI]
def axa(n:ay)(x:Input)(lE:T)(nd e:Int)(es:List (aG))(he:e<0)(Bg: -1000000<=nd/\nd<=1000000)(Za:aJ ak 21 [x.enc] lE)(h22:aJ ak 22 [n.enc,lE] (.agg [ti nd,.sl es])):
  aJ ak 24 [n.enc,x.enc,.agg [ti e,.sl []]] (.dh [.agg SY,ti 1]):=by
 have bb:aw ak (bz [(21,bp (λts=>ts=[x.enc]) (λ_=>lE) false),(22,bp (λts=>ts=[n.enc,lE]) (λ_=>.agg [ti nd,.sl es]) false),(69,bp (λts=>ts=[.agg [ti nd,.sl es],ti (nd-1),.agg [ti e,.sl []]]) (λ_=>.bool false) true)]):=by
  refine aw.cons (aw.cons (aw.cons aw.nil ?_) ?_) ?_
  .rintro ts rfl;exact⟨aw9 nd (nd-1) e es [] he,λ_=>rfl⟩
  .rintro ts rfl;exact⟨h22,λh=>by cases h⟩
  .rintro ts rfl;exact⟨Za,λh=>by cases h⟩
 clear Za h22;obtain⟨nt,nn,ns,aj⟩:=n;obtain⟨cs,dm,sw⟩:=x;simp only[ay.enc,Input.enc]at bb;refine azv.ok (by simp) (aH ?_);simp[ay.enc,Input.enc];apply aa.ai bb fw [3,4,5,6,7];simp[ar9];refine aa.lk (o:=[(1007,.box [.v (ti 0),.v (ti 0),.aZ,.aZ,.v (ti 0),.aZ])]) (l:=[(3,.v (.box [ti nt,ti nn,ti ns,.sl (aQ aj)])),(4,.v (.box [.sl (bd cs),.sl (au dm),ti sw])),(5,.v (.box [ti e,.sl []])),(6,.ptr 1007 0),(7,.v (ti 0))]) (bn:=1200) (by simp) ?_;apply aa.ai bb fw [5,6,7,8];simp[asa];refine aa.lk (o:=[(1007,.box [.v (ti 0),.v (ti 0),.aZ,.aZ,.v (ti 0),.aZ])]) (l:=[(5,.v (.box [ti e,.sl []])),(6,.ptr 1007 0),(7,.v (ti 0)),(8,.v (.box [ti nd,.sl es]))]) (bn:=1500) (by simp) ?_;have w1:IntKind.i64.wrap (nd-1)=nd-1:=av (by omega);apply aa.sq bb fw [6,7,20];simp[asb,w1];refine aa.cond rfl (λaS=>?_) (λaS=>by simp at aS);apply aa.ai bb fw [6,7];simp[asc];apply aa.ret;simp[abR,SY]
def D7:ay:=⟨2,2,0,[⟨1,0,0,0,0,0⟩,⟨4,0,1,0,0,1⟩,⟨2,1,0,0,0,2⟩]⟩
def wN:Input:=⟨[⟨0,[0,-1],3⟩,⟨1,[4,0],3⟩],[9,9],0⟩
noncomputable def abS:cA:=tj [] 36 3
def azw:aJ ak 36 [] (.dh [D7.enc,wN.enc]):=by
 have bb:=(aw.nil:aw ak (bz []));refine azx.ok (by simp) (aH ?_);simp;apply aa.ai bb fw [0,1];simp[asd];apply aa.ai bb fw [0,1,2];simp[ase,di];refine aa.lk (o:=[(1001,.box [.v (ti 0),.v (ti 0),.v (ti 0),.aZ]),(1002,.box [.aZ,.aZ,.v (ti 0)])]) (l:=[(0,.ptr 1001 0),(1,.ptr 1002 0),(2,.v (.box [ti 2,ti 2,ti 0,.sl [[ti 1,ti 0,ti 0,ti 0,ti 0,ti 0],[ti 4,ti 0,ti 1,ti 0,ti 0,ti 1],[ti 2,ti 1,ti 0,ti 0,ti 0,ti 2]]]))]) (bn:=1200) (by simp) ?_;apply aa.ai bb fw [0,1,2,3];simp[asf,di];refine aa.lk (o:=[(1001,.box [.v (ti 0),.v (ti 0),.v (ti 0),.aZ]),(1002,.box [.aZ,.aZ,.v (ti 0)])]) (l:=[(0,.ptr 1001 0),(1,.ptr 1002 0),(2,.v (.box [ti 2,ti 2,ti 0,.sl [[ti 1,ti 0,ti 0,ti 0,ti 0,ti 0],[ti 4,ti 0,ti 1,ti 0,ti 0,ti 1],[ti 2,ti 1,ti 0,ti 0,ti 0,ti 2]]])),(3,.v (.box [.sl [[ti 0,.sl [[ti 0],[ti (-1)]],ti 3],[ti 1,.sl [[ti 4],[ti 0]],ti 3]],.sl [[ti 9],[ti 9]],ti 0]))]) (bn:=1500) (by simp) ?_;apply aa.fR bb fw (rs:=xK abS [some [],some [],some [1001],some [1002]]) (.inl (congrArg DC.rK (by kernel_rfl))) (by kernel_rfl) [0,1];simp[abS,xK,dN,bT,br];apply aa.ret;simp[abT,D7,wN,ay.enc,Input.enc,aQ,bC.enc,bd,bB.enc,au]
section
variable{r:Int}
def Yo(x:Input):aT.Zs (aI x):=by
 intro i j To hj;by_cases e:i=j
 .subst e;right;exact⟨rfl,Tg _⟩
 .have hs:=jI x;rw[Zcv]at hs;have:=hs i j (by show i<(aI x).aK.length;omega) hj (by omega);have e1:(aI x).aK.getD i default=(eK x)[i]'(by show i<(aI x).aK.length;omega):=by
   simp only[List.getD];rw[mM (by omega)];rfl
  have e2:(aI x).aK.getD j default=(eK x)[j]'hj:=by
   simp only[List.getD];rw[mM hj];rfl
  rw[e1,e2];unfold _root_.Go.Proofs.cb at this;omega
def yo{n:ay}{x:Input}{t:Int}(h:uw n x r t)(ht:t<=6):JI x:=by
 obtain⟨_,_,_,_,_,_,⟨h1,h2⟩,h3,h4,_⟩:=h;exact⟨by omega,by rw[h3];exact h4⟩
def BC{n:ay}{x:Input}{t:Int}(h:uw n x r t)(ht:t<=6)(hr:r<=24):ahV n (aI x):=by
 have h6:=yo h ht;obtain⟨⟨v1,v2⟩,v3,v4⟩:=Fw h6;obtain⟨a1,a2,a3,a4,a5,a6,⟨a7,a8⟩,a9,a10,_⟩:=h;have iO:(aI x).bf=2*x.ag.length+1:=rfl;have ct:=JM (x:=x) (pb h6).2.2.1 (pb h6).2.1;simp only[fk,mA,AF,mD,Jf,I0,sg,yN]at a6;obtain⟨b1,b2⟩:=a6;unfold sd at b1;refine⟨by omega,by omega,by omega,by omega,λq hq=>?_,by omega,v2, ?_,λc hc=>?_,λa ha=>?_⟩
 .obtain⟨i,hi,rfl⟩:=ZR.1 hq;have:=b2 i hi;simpa [hi]using this
 .show(eK x).length<=1000000;omega
 .obtain⟨i,hi,rfl⟩:=ZR.1 hc;have:=v3 i hi;unfold JL at this;simp only[List.getD,mM hi,GA]at this;exact this
 .obtain⟨i,hi,rfl⟩:=ZR.1 ha;have:=(v4 i hi).1;unfold C3 at this;simp only[List.getD,mM hi,GA]at this;simp only[kA];omega
def ads{n:ay}{x:Input}{c:aT.bI}(hp:ahV n (aI x))(hx:JI x)(F:aT.DY (toI n) (aI x) c){t:Nat}(ht:t<(aI x).bj.length)(hf:(aI x).bj.getD t default<1099511627776)
  (hv:(iS n (aI x) c t).aA<1099511627776) (py:∀d,eG n.aj n.start d=true->(iS n (aI x) c t).aA<=fF n.aj d+ed x (dw n.aj d) 0 0):
  ∃d,EE n c n.start 0 t d/\eG n.aj n.start d=true/\d.sz<=aT.szB (toI n) (aI x)/\fF n.aj d+ed x (dw n.aj d) 0 0=(iS n (aI x) c t).aA/\ed x (dw n.aj d) 0 0<1099511627776:=by
 have iO:=hp.start;have hnf:=hp.AW;have hd:=λy s c=>abX hx (y:=y) (s:=s) (c:=c);obtain⟨l,hl⟩:=aY (aI x);rw[hl]at hp F ht hf hv py hnf hd⊢;have hfo:=NX hp ht;have XU:(aT.gp c n.start 0 t).aA<1099511627776/\(iS n l c t).aA=l.bj.getD t default+(aT.gp c n.start 0 t).aA:=by
  unfold iS at hv⊢;rw[aT.Av]at hv⊢;split at hv
  .simp at hv
  .rename_i g;rw[iK g];simp only[]at hv g⊢;omega
 obtain⟨bN,gD⟩:=XU;have hg:=F.dj n.start 0 t iO.1 iO.2 (by omega) (by omega);obtain⟨z,_,hz,AS⟩:=hg.wm F.toFit bN (by omega);obtain⟨_,d,w,f1,f2,f3,f4,f5⟩:=KR F z (s:=0) (t:=t) iO.1 iO.2 (by omega) (by omega) bN hz;have Og:∀a∈l.aK,0<=a.f/\0<=a.t:=λa ha=>by have:=hp.XE a ha;omega
 have p:=F0 Og iV.nil f4;rw[jB,Int.zero_add]at p;have hpr:=(nE (aj:=n.aj) (λr hr=>by have:=(hp.aj r hr).1;unfold fa at this;omega) d).1;have f5:fF n.aj d+w=(aT.gp c n.start 0 t).aA:=f5;have io:=hd _ _ _ p ht (by omega);have:=py d f2;exact⟨d,f1,f2,by omega,by omega,by omega⟩
def gC(n:ay)(x:Input):Int:=(kQ n (aI x) (aT.sU (toI n) (aI x)) (aI x).bj.length).1.aA
def XP(x:Input)(y:ba):List (Int×Int):=Ip x y (x.ag.length+y.length+1) 0 0
structure abU(n:ay)(x:Input)(d:Tr):Prop where
 val:eG n.aj n.start d=true
 sz:d.sz<=2900000
 ed':pu x (dw n.aj d)
 dM:ed x (dw n.aj d) 0 0<dV
 aA:fF n.aj d+ed x (dw n.aj d) 0 0=gC n x
def adt{n:ay}{x:Input}(hp:ahV n (aI x)):0<=gC n x/\gC n x<=1099511627776:=by
 obtain⟨F,hc,hn,hl,ha⟩:=NW hp;have:=F1 (n:=n) (l:=aI x) (λt ht=>NX hp ht) hc (aI x).bj.length (gJ _);have h1:=this.1;unfold aT.mG at h1;exact⟨h1.1,h1.2.1⟩
def al7{n:ay}{x:Input}{t:Int}(h:uw n x r t)(ht:t<=6)(hr:r<=24){d:Tr}(hv:eG n.aj n.start d=true):gC n x<=fF n.aj d+ed x (dw n.aj d) 0 0:=by
 have hp:=BC h ht hr;obtain⟨F,hc,hn,hl,ha⟩:=NW hp;exact apF hp (yo h ht) h.2.2.2.2.2.2.2.1 F hv (adt hp).2
def NZ{n:ay}{x:Input}{t:Int}(h:uw n x r t)(ht:t<=6)(hr:r<=24):
  (1099511627776<=gC n x/\aJ ak 11 [n.enc,x.enc] (.dh [.agg SY,ti 6]))\/
  (gC n x<1099511627776/\∃d z,abU n x d/\aJ ak 11 [n.enc,x.enc] (.dh [.agg (ED (gC n x) z (XP x (dw n.aj d)) (dw n.aj d) d),ti 0])):=by
 have hp:=BC h ht hr;have h6:=yo h ht;have mX:=h.2.2.2.2.2.2.2.1;obtain⟨F,hc,hn,hlo,ha⟩:=NW hp;have io:=λd hv=>al7 h ht hr (d:=d) hv;have Za:=Fx h6;have h38:=aT.avd _ _ hn hlo ha (Yo x);rw[toI_enc]at h38;have hK:=yh n (aI x) (aT.sU (toI n) (aI x)) (aI x).bj.length;have iO:=hp.st;have h93:=ar0 n (aI x) (aT.sU (toI n) (aI x)) hc (λt ht=>NX hp ht) (by have:=hp.AW;omega);have hbd:=λt=>ads hp h6 F (t:=t);have ZY:gC n x=(kQ n (aI x) (aT.sU (toI n) (aI x)) (aI x).bj.length).1.aA:=rfl;have hb:∀r∈n.aj,fX n r:=λr hr=>(hp.aj r hr).2;have jc:=Yf (n:=n) (l:=aI x) (A:=12) (B:=13) (by have:=hp.nt;omega) (by omega);obtain⟨q,hq⟩:=aY (kQ n (aI x) (aT.sU (toI n) (aI x)) (aI x).bj.length);rw[hq]at hK h93 ZY;obtain⟨⟨b,z⟩,st⟩:=q;simp only at ZY h93;rw[ZY]at io⊢;by_cases Qi:1099511627776<=b
 .have h37:=aeU n x (aI x) (aT.sU (toI n) (aI x)) b z st Za h93 SY 6 (.inl ⟨Qi,rfl,rfl⟩);exact .inl ⟨Qi,ave n x _ _ 0 0 0 6 [] [] [] Za h38 h37⟩
 .have avC:¬st<0:=λh=>by
   have:=(hK.none h).1;simp only[mo,eX,aT.cX.mk.injEq]at this;omega
  obtain⟨t,hqt,ht1,ht2,ht3⟩:=hK.some avC;simp only[eX]at hqt;obtain⟨hq1,ZO⟩:=hqt;subst ZO;have hgb:(iS n (aI x) (aT.sU (toI n) (aI x)) t).aA=b:=by rw[<-hq1]
  obtain⟨d,f1,f2,f3,f4,f5⟩:=hbd t ht1 ht2 ht3 (by rw[hgb];exact io);have hd:d.sz<=2900000:=by omega
  have sZ:=qK n.aj d;have hed:pu x (dw n.aj d):=ajQ h6 (by omega) λa ha=>by have:=yn hb d.sz d n.start (gJ _) f2 a ha;omega
  have h94:=ar2 hc f1;have h48:=ae2 n.aX n.an n.start n.aj 4194304 d (by omega) (by omega) ⟨_,f2⟩;have avD:=ar3 x _ hed f5;have h71:=arM n x d b z _ _ 0 h48 avD;have h37:=aeU n x (aI x) (aT.sU (toI n) (aI x)) b z t Za h93 _ 0 (.inr ⟨Qi,rfl,d,_,_,rfl,h94,h71⟩);refine .inr ⟨by omega,d,z,⟨f2,hd,hed,f5,by omega⟩, ?_⟩;obtain⟨dn,dk⟩:=d;exact ave n x _ _ b z dn 0 _ _ _ Za h38 h37
end
def amA{n:ay}{x:Input}{d:Tr}(B:abU n x d):ta x (XP x (dw n.aj d))=some ⟨x.ag.length,dw n.aj d,ed x (dw n.aj d) 0 0⟩:=abw B.ed' B.dM
def amB{n:ay}{x:Input}{d:Tr}(h6:JI x)(B:abU n x d):(XP x (dw n.aj d)).length<=3000000/\(dw n.aj d).length<=2900000:=by
 have:=P4 x (dw n.aj d) (x.ag.length+(dw n.aj d).length+1) 0 0;have:=qK n.aj d;have:=B.sz;have:=(pb h6).2.1;unfold XP;omega
def Yp{n:ay}{x:Input}{d:Tr}(hr:∀r∈n.aj,0<=r.bi/\r.bi<=1000)(h6:JI x)(hg:0<=gC n x/\gC n x<=1099511627776)(B:abU n x d)(z:Int):
  aJ ak 14 [n.enc,x.enc,.agg (ED (gC n x) z (XP x (dw n.aj d)) (dw n.aj d) d)] (.bool true)/\aJ ak 15 [n.enc,x.enc,.agg (ED (gC n x) z (XP x (dw n.aj d)) (dw n.aj d) d)] (.bool true)/\aJ ak 16 [n.enc,ti n.start,.agg d.enc] (.bool true):=by
 obtain⟨l1,l2⟩:=amB h6 B;have hs:=amA B;have jc:=B.sz;have hd:d.sz<=4194304:=by omega
 have hx:=abV h6;obtain⟨g1,g2,g3,g4⟩:=pb h6;have k16:=asx n.aX n.an n.start n.aj 4194304 d n.start hd hd;rw[B.val]at k16;have In:=ae2 n.aX n.an n.start n.aj 4194304 d hd hd ⟨_,B.val⟩;have Z8:=asv n.aX n.an n.start n.aj hr 4194304 d hd hd ⟨_,B.val⟩;have k18:=t24 n.aX n.an n.start n.aj 4194304 d n.start hd hd;rw[B.val]at k18;have k19:=t27 n.aX n.an n.start n.aj 4194304 d hd hd ⟨_,B.val⟩;have k20:=t28 n.aX n.an n.start n.aj hr 4194304 d hd hd ⟨_,B.val⟩;have k49:=asH x (XP x (dw n.aj d)) hx (by omega);have SG:=asI x (XP x (dw n.aj d)) hx (by omega);have azy:=azh x (XP x (dw n.aj d)) _ hx g4 (by omega) hs;unfold Ok at k49;unfold Td at SG;rw[hs]at k49 SG;have k47:=asy (dw n.aj d) (dw n.aj d) (by omega);rw[decide_eq_true rfl]at k47;have k39:=avh (dw n.aj d) (by omega);refine⟨azk n x _ z _ _ _ _ d k16 In k47 k49 SG Z8 B.aA (by omega),azl n x _ z _ _ _ _ d k18 k19 k39 (azn x _ _ _ azy) (azp x _ _ _ azy) k20 B.aA (by omega),k16⟩
def ae1:uw D7 wN 14 5:=by
 unfold uw;decide+kernel
def dEx:Tr:=.mk 1 [.mk 2 [],.mk 0 []]
def axb:kQ D7 (aI wN) (aT.sU (toI D7) (aI wN)) (aI wN).bj.length=(⟨3,4⟩,2):=by kernel_rfl
def gEx:gC D7 wN=3:=by kernel_rfl
def anE:JI wN:=yo ae1 (by decide)
def yEx:dw D7.aj dEx=[0]:=by simp[dw,dZ,dEx,D7]
def pEx:fF D7.aj dEx=0:=by simp[fF,dD,dEx,D7]
def vEx:eG D7.aj D7.start dEx=true:=by simp[eG,ng,dEx,D7,eu]
def axc:pu wN [0]:=ajQ anE (by simp) (by simp[wN])
def e21:ed wN [0] 2 1=0:=TP wN [0] axc.nn
def e20:ed wN [0] 2 0=9:=by
 have e21:=e21;unfold ed;simp[wN,_root_.Go.Proofs.Eo,Oq,cG,cV,eL,f7,kI,dV]at*
 rw[e21];rfl
def e11:ed wN [0] 1 1=3:=by
 have e21:=e21;unfold ed;simp[wN,_root_.Go.Proofs.Eo,Oq,cG,cV,eL,f7,kI,dV]at*
 rw[e21];rfl
def e10:ed wN [0] 1 0=4:=by
 have e21:=e21;have e20:=e20;have e11:=e11;unfold ed;simp[wN,_root_.Go.Proofs.Eo,Oq,cG,cV,eL,f7,kI,dV]at*
 rw[e21,e20,e11];rfl
def e01:ed wN [0] 0 1=6:=by
 have e11:=e11;unfold ed;simp[wN,_root_.Go.Proofs.Eo,Oq,cG,cV,eL,f7,kI,dV]at*
 rw[e11];rfl
def e00:ed wN [0] 0 0=3:=by
 have e11:=e11;have e10:=e10;have e01:=e01;unfold ed;simp[wN,_root_.Go.Proofs.Eo,Oq,cG,cV,eL,f7,kI,dV]at*
 rw[e11,e10,e01];rfl
def aEx:Ip wN [0] 4 0 0=[(1,0),(2,0)]:=by
 have h1:(ff wN [0] 0 0).find? (uT wN [0] 0 0)=some ⟨1,0,0,1,1⟩:=by
  have hh:uT wN [0] 0 0 ⟨1,0,0,1,1⟩=true:=by
   unfold uT;rw[yN];show min (0+ed wN [0] 1 1) dV=ed wN [0] 0 0;rw[e11,e00];rfl
  have hl:ff wN [0] 0 0=[⟨1,0,0,1,1⟩,⟨2,0,3,1,0⟩,⟨3,0,9,0,1⟩]:=by simp[wN,ff,Ld,Lf,Es,A2,LB,Rg,_root_.Go.Proofs.Eo,Oq,cG,cV,eL,f7,kI,dV]
  rw[hl,Zc7 hh]
 have h2:(ff wN [0] 1 1).find? (uT wN [0] 1 1)=some ⟨2,0,3,1,0⟩:=by
  have hh:uT wN [0] 1 1 ⟨2,0,3,1,0⟩=true:=by
   unfold uT;rw[yN];show min (3+ed wN [0] 2 1) dV=ed wN [0] 1 1;rw[e11,e21];rfl
  have hl:ff wN [0] 1 1=[⟨2,0,3,1,0⟩]:=by simp[wN,ff,Ld,Lf,Es,A2,LB,Rg,_root_.Go.Proofs.Eo,Oq,cG,cV,eL,kI,dV]
  rw[hl,Zc7 hh]
 have h3:Ip wN [0] 2 2 1=[]:=P6 (x:=wN) (y:=[0]);rw[KL (by decide) h1];show(1,0)::Ip wN [0] 3 1 1=_;rw[KL (by decide) h2];show(1,0)::(2,0)::Ip wN [0] 2 2 1=_;rw[h3]
def bEx:abU D7 wN dEx:=⟨vEx,by decide,by rw[yEx];exact axc,by rw[yEx,e00];decide,by rw[pEx,yEx,e00,gEx];rfl⟩
def fEx{c:aT.bI}(h:c=aT.sU (toI D7) (aI wN)):EE D7 c D7.start 0 2 dEx:=by
 subst h;exact .fW (k:=1) (by kernel_rfl) (by decide) rfl (.leaf (k:=2) (by kernel_rfl) (by decide) (.inr rfl)) (.leaf (k:=0) (by kernel_rfl) (by decide) (.inl rfl))
def axd(nt nn ns sw z dn:Int)(R C I O Y K P Q S:List (aG))(a b c:Int)(lE cE:T)(h36:aJ ak 36 [] (.dh [.agg [ti nt,ti nn,ti ns,.sl R],.agg [.sl C,.sl I,ti sw]]))(Za:aJ ak 21 [.agg [.sl C,.sl I,ti sw]] lE)(h38:aJ ak 38 [.agg [ti nt,ti nn,ti ns,.sl R],lE] cE)
  (h37:aJ ak 37 [.agg [ti nt,ti nn,ti ns,.sl R],.agg [.sl C,.sl I,ti sw],cE] (.dh [.agg [ti 3,ti z,.sl O,.sl Y,ti dn,.sl K],ti 0])) (h24:aJ ak 24 [.agg [ti nt,ti nn,ti ns,.sl R],.agg [.sl C,.sl I,ti sw],.agg [ti (-1),.sl []]] (.dh [.agg [ti a,ti b,.sl P,.sl Q,ti c,.sl S],ti 1]))
  (h39:aJ ak 39 [.sl Y,.sl [[ti 0]]] (.bool true)) (h40:aJ ak 40 [.sl O,.sl [[ti 1,ti 0],[ti 2,ti 0]]] (.bool true)) (h14:aJ ak 14 [.agg [ti nt,ti nn,ti ns,.sl R],.agg [.sl C,.sl I,ti sw],.agg [ti 3,ti z,.sl O,.sl Y,ti dn,.sl K]] (.bool true))
  (asg:aJ ak 14 [.agg [ti nt,ti nn,ti ns,.sl R],.agg [.sl C,.sl I,ti sw],.agg [ti 0,ti 0,.sl [],.sl [],ti 7,.sl []]] (.bool false)):aJ ak 9 [] (.bool true):=by
 have bb:aw ak (bz [(36,bp (λts=>ts=[]) (λ_=>.dh [.agg [ti nt,ti nn,ti ns,.sl R],.agg [.sl C,.sl I,ti sw]]) false),(21,bp (λts=>ts=[.agg [.sl C,.sl I,ti sw]]) (λ_=>lE) false),(38,bp (λts=>ts=[.agg [ti nt,ti nn,ti ns,.sl R],lE]) (λ_=>cE) false),
   (37,bp (λts=>ts=[.agg [ti nt,ti nn,ti ns,.sl R],.agg [.sl C,.sl I,ti sw],cE]) (λ_=>.dh [.agg [ti 3,ti z,.sl O,.sl Y,ti dn,.sl K],ti 0]) false),(24,bp (λts=>ts=[.agg [ti nt,ti nn,ti ns,.sl R],.agg [.sl C,.sl I,ti sw],.agg [ti (-1),.sl []]]) (λ_=>.dh [.agg [ti a,ti b,.sl P,.sl Q,ti c,.sl S],ti 1]) false),
   (39,bp (λts=>ts=[.sl Y,.sl [[ti 0]]]) (λ_=>.bool true) true),(40,bp (λts=>ts=[.sl O,.sl [[ti 1,ti 0],[ti 2,ti 0]]]) (λ_=>.bool true) true),
   (14,bp (λts=>ts=[.agg [ti nt,ti nn,ti ns,.sl R],.agg [.sl C,.sl I,ti sw],.agg [ti 3,ti z,.sl O,.sl Y,ti dn,.sl K]]\/ts=[.agg [ti nt,ti nn,ti ns,.sl R],.agg [.sl C,.sl I,ti sw],.agg [ti 0,ti 0,.sl [],.sl [],ti 7,.sl []]]) (fun|[_,_,.agg (.int _ q::_)]=>.bool (decide (q=3))|_=>.bool false) true)]):=by
  refine aw.cons (aw.cons (aw.cons (aw.cons (aw.cons (aw.cons (aw.cons (aw.cons aw.nil ?_) ?_) ?_) ?_) ?_) ?_) ?_) ?_
  .rintro ts (rfl|rfl)
   .exact⟨h14,λ_=>rfl⟩
   .exact⟨asg,λ_=>rfl⟩
  .rintro ts rfl;exact⟨h40,λ_=>rfl⟩
  .rintro ts rfl;exact⟨h39,λ_=>rfl⟩
  .rintro ts rfl;exact⟨h24,λh=>by cases h⟩
  .rintro ts rfl;exact⟨h37,λh=>by cases h⟩
  .rintro ts rfl;exact⟨h38,λh=>by cases h⟩
  .rintro ts rfl;exact⟨Za,λh=>by cases h⟩
  .rintro ts rfl;exact⟨h36,λh=>by cases h⟩
 clear h36 Za h38 h37 h24 h39 h40 h14 asg;refine azz.ok (by simp) (aH ?_);simp;apply aa.ai bb fw [];simp[ash];apply aa.ai bb fw [1,2];simp[asi];refine aa.lk (o:=[]) (l:=[(1,.v (.box [ti nt,ti nn,ti ns,.sl R])),(2,.v (.box [.sl C,.sl I,ti sw]))]) (bn:=1500) (by simp) ?_;apply aa.ai bb fw [1,2,3,4];simp[asj];refine aa.lk (o:=[]) (l:=[(1,.v (.box [ti nt,ti nn,ti ns,.sl R])),(2,.v (.box [.sl C,.sl I,ti sw])),(3,.v (.box [ti 3,ti z,.sl O,.sl Y,ti dn,.sl K])),(4,.v (ti 0))]) (bn:=2000) (by simp) ?_;apply aa.ai bb fw [1,2,3,4,6];simp[ask];apply aa.ai bb fw [0];simp[asm,di];apply aa.ret;simp[dI]
def adu:dS D7 (aI wN):=aeS (by kernel_rfl)
def anF:aJ ak 9 [] (.bool true):=by
 have hp:=BC ae1 (by decide) (by decide);obtain⟨F,hc,hn,hlo,ha⟩:=NW hp;have h36:=azw;have Za:=Fx anE;have h38:=aT.avd _ _ hn hlo ha (Yo wN);rw[toI_enc]at h38;have h93:=ar0 D7 (aI wN) (aT.sU (toI D7) (aI wN)) hc (λt ht=>NX hp ht) (by have:=hp.AW;have:=hp.st;omega);rw[axb]at h93;have h94:=ar2 hc (fEx rfl);have h48:=ae2 D7.aX D7.an D7.start D7.aj 4194304 dEx (by decide) (by decide) ⟨_,vEx⟩;rw[yEx]at h48;have avD:=ar3 wN [0] axc (by rw[e00];decide);have avD:aJ ak 120 [wN.enc,.sl (au [0])] (.dh [.sl (ca [(1,0),(2,0)]),ti 0]):=by rw[<-aEx];exact avD
 have h71:=arM D7 wN dEx 3 4 [0] [(1,0),(2,0)] 0 h48 avD;have h37:=aeU D7 wN (aI wN) (aT.sU (toI D7) (aI wN)) 3 4 2 Za h93 _ 0 (.inr ⟨by decide,rfl,dEx,_,_,rfl,h94,h71⟩);have h22:=t11 D7 (aI wN) adu.Ik;have hgs:=ij adu.nt adu.st;have h24:=axa D7 wN _ _ (-1) _ (by decide) (by omega) Za h22;have hr:∀r∈D7.aj,0<=r.bi/\r.bi<=1000:=by simp[D7]
 have hv:=(Yp hr anE (adt hp) bEx 4).1;rw[gEx,yEx]at hv;have ha:XP wN [0]=[(1,0),(2,0)]:=aEx;rw[ha]at hv;have h16:=asx D7.aX D7.an D7.start D7.aj 4194304 (.mk 7 []) D7.start (by decide) (by decide);have h16:aJ ak 16 [D7.enc,ti D7.start,.agg (Tr.mk 7 []).enc] (.bool false):=by
  have e:eG D7.aj D7.start (.mk 7 [])=false:=by simp[eG,D7]
  rw[e]at h16;exact h16
 have asg:=aw8 D7 wN 0 0 [] [] (.mk 7 []) h16;exact axd 2 2 0 0 4 1 (aQ D7.aj) (bd wN.ag) (au wN.insert) (ca [(1,0),(2,0)]) (au [0]) (dT [.mk 2 [],.mk 0 []]) [] [] [] 0 0 0 _ _ h36 Za h38 h37 h24 (avh [0] (by decide)) (azs [(1,0),(2,0)] (by decide)) hv asg
def adw(n:ay)(x:Input)(v:Bool)(a b d e:Int)(p q s:List (aG))(K9:aJ ak 10 [n.enc,x.enc,ti 14,ti 5] (.bool v))(QU:v=true->aJ ak 11 [n.enc,x.enc] (.dh [.agg [ti a,ti b,.sl p,.sl q,ti d,.sl s],ti e]))
  (he:v=true->e=6\/e=0) (h14:v=true/\e=0->aJ ak 14 [n.enc,x.enc,.agg [ti a,ti b,.sl p,.sl q,ti d,.sl s]] (.bool true)) (h15:v=true/\e=0->aJ ak 15 [n.enc,x.enc,.agg [ti a,ti b,.sl p,.sl q,ti d,.sl s]] (.bool true)) (h16:v=true/\e=0->aJ ak 16 [n.enc,ti n.start,.agg [ti d,.sl s]] (.bool true)):
  aJ ak 4 [n.enc,x.enc] (.bool true):=by
 have bb:aw ak (bz [(9,bp (λts=>ts=[]) (λ_=>.bool true) true),(10,bp (λts=>ts=[n.enc,x.enc,ti 14,ti 5]) (λ_=>.bool v) true),(11,bp (λts=>ts=[n.enc,x.enc]/\v=true) (λ_=>.dh [.agg [ti a,ti b,.sl p,.sl q,ti d,.sl s],ti e]) false),
   (14,bp (λts=>ts=[n.enc,x.enc,.agg [ti a,ti b,.sl p,.sl q,ti d,.sl s]]/\v=true/\e=0) (λ_=>.bool true) true),(15,bp (λts=>ts=[n.enc,x.enc,.agg [ti a,ti b,.sl p,.sl q,ti d,.sl s]]/\v=true/\e=0) (λ_=>.bool true) true),(16,bp (λts=>ts=[n.enc,ti n.start,.agg [ti d,.sl s]]/\v=true/\e=0) (λ_=>.bool true) true)]):=by
  refine aw.cons (aw.cons (aw.cons (aw.cons (aw.cons (aw.cons aw.nil ?_) ?_) ?_) ?_) ?_) ?_
  .rintro ts ⟨rfl,h⟩;exact⟨h16 h,λ_=>rfl⟩
  .rintro ts ⟨rfl,h⟩;exact⟨h15 h,λ_=>rfl⟩
  .rintro ts ⟨rfl,h⟩;exact⟨h14 h,λ_=>rfl⟩
  .rintro ts ⟨rfl,h⟩;exact⟨QU h,λh=>by cases h⟩
  .rintro ts rfl;exact⟨K9,λ_=>rfl⟩
  .rintro ts rfl;exact⟨anF,λ_=>rfl⟩
 clear K9 QU h14 h15 h16;obtain⟨nt,nn,ns,aj⟩:=n;obtain⟨cs,dm,sw⟩:=x;simp only[ay.enc,Input.enc]at bb;refine azA.ok (by simp) (aH ?_);simp[ay.enc,Input.enc];apply aa.ai bb fw [2,3];simp[asn];refine aa.lk (o:=[]) (l:=[(2,.v (.box [ti nt,ti nn,ti ns,.sl (aQ aj)])),(3,.v (.box [.sl (bd cs),.sl (au dm),ti sw]))]) (bn:=1200) (by simp) ?_;apply aa.sq bb fw [2,3,8];simp[aso];refine aa.cond rfl (λaS=>by simp at aS) (λaS=>?_);apply aa.skip;simp;apply aa.sq bb fw [2,3,12];simp[asp];cases v with
 |false=>
  refine aa.cond rfl (λaS=>?_) (λaS=>by simp at aS);apply aa.ai bb fw [4];simp[asq];apply aa.ret;simp[dI]
 |true=>
 refine aa.cond rfl (λaS=>by simp at aS) (λaS=>?_);apply aa.skip;simp;apply aa.ai bb fw [2,3,5,6];simp[asr];refine aa.lk (o:=[]) (l:=[(2,.v (.box [ti nt,ti nn,ti ns,.sl (aQ aj)])),(3,.v (.box [.sl (bd cs),.sl (au dm),ti sw])),(5,.v (.box [ti a,ti b,.sl p,.sl q,ti d,.sl s])),(6,.v (ti e))]) (bn:=1500) (by simp) ?_;refine aa.bL bb fw [(4,.v (.bool true))] ?_ ?_
 .rcases he rfl with rfl|rfl
  .simp[ae3]
  .simp[ae3]
 apply aa.ret;simp[dI]
def azB(n:ay)(x:Input)(h1:n.aj.length<=9223372036854775807)(h2:x.insert.length<=9223372036854775807):aJ ak 4 [n.enc,x.enc] (.bool true):=by
 have K9:=aj3 n x 14 5 h1 h2;by_cases h:uw n x 14 5
 .rw[decide_eq_true h]at K9;have hp:=BC h (by decide) (by decide);have hr:∀r∈n.aj,0<=r.bi/\r.bi<=1000:=λr hr=>by have:=(hp.aj r hr).1;unfold fa at this;omega
  rcases NZ h (by decide) (by decide)with⟨_,QU⟩|⟨_,d,z,B,QU⟩
  .exact adw n x true 0 0 0 6 [] [] [] K9 (λ_=>QU) (λ_=>.inl rfl) (λh=>qe h.2 (by decide)) (λh=>qe h.2 (by decide)) (λh=>qe h.2 (by decide))
  .obtain⟨v1,v2,v3⟩:=Yp hr (yo h (by decide)) (adt hp) B z;obtain⟨dn,dk⟩:=d;exact adw n x true _ z dn 0 _ _ _ K9 (λ_=>QU) (λ_=>.inr rfl) (λ_=>v1) (λ_=>v2) (λ_=>v3)
 .rw[decide_eq_false h]at K9;exact adw n x false 0 0 0 0 [] [] [] K9 (λh=>by cases h) (λh=>by cases h) (λh=>by cases h.1) (λh=>by cases h.1) (λh=>by cases h.1)
section
variable{mn:Int}{ks:List Tr}
def vi(mn:Int):Nat->Tr->Int×Bool
 |0,_=>(mn+1,false)
 |k+1,.mk _ ks=>ks.foldl (λst t=>if st.2=true then(if(vi mn k t).2=true/\¬mn<st.1+(vi mn k t).1 then(st.1+(vi mn k t).1,true)else(mn+1,false))else st) (1,true)
def ux(mn:Int)(k:Nat)(ks:List Tr)(y:Nat):Int×Bool:=(ks.take y).foldl (λst t=>if st.2=true then(if(vi mn k t).2=true/\¬mn<st.1+(vi mn k t).1 then(st.1+(vi mn k t).1,true)else(mn+1,false))else st) (1,true)
def Ph{k:Nat}{y:Nat}(h:y<ks.length):ux mn k ks (y+1)=if(ux mn k ks y).2=true then(if(vi mn k (ks.getD y default)).2=true/\¬mn<(ux mn k ks y).1+(vi mn k (ks.getD y default)).1 then((ux mn k ks y).1+(vi mn k (ks.getD y default)).1,true)else(mn+1,false))else ux mn k ks y:=by
 unfold ux;rw[OS,mM h,Zcn,uK];simp only[Br,Zcy,List.getD,mM h,GA]
def ae8{k:Nat}{a:Int}:vi mn (k+1) (.mk a ks)=ux mn k ks ks.length:=by
 unfold ux;rw[uJ];rfl
def Yq{mn:Int}{k:Nat}{ks:List Tr}{y:Nat}(h:(ux mn k ks y).2=false):∀j,y+j<=ks.length->ux mn k ks (y+j)=ux mn k ks y
 |0,_=>rfl
 |j+1,hj=>by
  have ih:=Yq h j (by omega);rw[<-Nat.add_assoc,Ph (by omega),ih,h];simp
def PC{mn:Int}(h1:1<=mn):∀(k:Nat) (d:Tr),0<=(vi mn k d).1/\(vi mn k d).1<=mn+1/\((vi mn k d).2=true->(vi mn k d).1=d.sz/\(vi mn k d).1<=mn)/\((vi mn k d).2=false->(vi mn k d).1=mn+1)
 |0,d=>⟨by simp only[vi];omega,by simp only[vi];omega,λh=>by simp[vi]at h,λ_=>rfl⟩
 |k+1,.mk a ks=>by
  have key:∀y,y<=ks.length->0<=(ux mn k ks y).1/\(ux mn k ks y).1<=mn+1/\((ux mn k ks y).2=true->(ux mn k ks y).1=1+gE (ks.take y)/\(ux mn k ks y).1<=mn)/\((ux mn k ks y).2=false->(ux mn k ks y).1=mn+1):=by
   intro y;induction y with
   |zero=>intro _;exact⟨by simp[ux],by simp[ux];omega,λ_=>by simp[ux,gE];omega,λh=>by simp[ux]at h⟩
   |succ y ih=>
    intro hy;obtain⟨i1,i2,i3,i4⟩:=ih (by omega);obtain⟨n1,n2,n3,n4⟩:=PC h1 k (ks.getD y default);have ht:=DP (l:=ks) (y:=y) (by omega);rw[Ph (by omega)];split
    .rename_i g;split
     .rename_i g2;have:=i3 g;have:=n3 g2.1;exact⟨by simp only;omega,by simp only;omega,λ_=>by simp only;omega,λh=>by simp at h⟩
     .exact⟨by simp only;omega,by simp only;omega,λh=>by simp at h,λ_=>rfl⟩
    .exact⟨i1,i2,λh=>qe h (by assumption),i4⟩
  have:=key ks.length (gJ _);rw[uJ]at this;rw[ae8];obtain⟨a1,a2,a3,a4⟩:=this;refine⟨a1,a2,λh=>?_,a4⟩;have:=a3 h;simp only[Tr.sz];omega
noncomputable def Yr(mn:Int)(k:Nat):DM.Spec:=bp (λts=>∃a l,ts=[.agg [ti a,.sl (dT l)],ti mn,ti k]/\F4 (.mk a l)) (fun|[.agg d,_,_]=>.dh [ti (vi mn k (KE d)).1,.bool (vi mn k (KE d)).2]|_=>.bool false) true
def azC(hl:1<=mn/\mn<=1000):∀(k:Nat),k<=1000->∀(d:Tr),F4 d->aJ ak 55 [.agg d.enc,ti mn,ti k] (.dh [ti (vi mn k d).1,.bool (vi mn k d).2]):=by
 intro k;induction k with
 |zero=>
  rintro _ ⟨m,ks⟩ hd;have bb:=(aw.nil:aw ak (bz []));simp only[vi];refine avi.ok (by simp) (aH ?_);simp[Tr.enc];apply aa.ai bb fw [1,2,3,6,7];simp[ae9];refine aa.lk (o:=[]) (l:=[(1,.v (ti mn)),(2,.v (ti 0)),(3,.v (.box [ti m,.sl (dT ks)])),(6,.v (ti 0)),(7,.v (.bool false))]) (bn:=1200) (by simp) ?_;apply aa.sq bb fw [1,13];simp[afa];refine aa.cond rfl (λaS=>?_) (λaS=>by simp at aS);have w1:IntKind.i64.wrap (mn+1)=mn+1:=av (by omega);apply aa.ai bb fw [6,7];simp[ass,w1];apply aa.ret;simp[N5]
 |succ k ih=>
  rintro hk ⟨m,ks⟩ hd;have bb:aw ak (bz [(55,Yr mn k)]):=by
   refine aw.cons aw.nil ?_;rintro ts ⟨a,l,rfl,h⟩;exact⟨by simpa [Yr,Tr.enc]using ih (by omega) (.mk a l) h,λ_=>rfl⟩
  unfold F4 at hd;obtain⟨RG,hd2⟩:=hd;rw[ae8];have hb:=λd=>PC hl.1 k d;have azD:=λy h j=>Yq (mn:=mn) (k:=k) (ks:=ks) (y:=y) h j;refine avi.ok (by simp) (aH ?_);simp[Tr.enc];apply aa.ai bb fw [1,2,3,6,7];simp[ae9];refine aa.lk (o:=[]) (l:=[(1,.v (ti mn)),(2,.v (ti ((k:Int)+1))),(3,.v (.box [ti m,.sl (dT ks)])),(6,.v (ti 0)),(7,.v (.bool false))]) (bn:=1200) (by simp) ?_;apply aa.sq bb fw [1,2,3,6,7,13];simp[afa,show ¬(k:Int)+1=0 by omega];refine aa.cond rfl (λaS=>by simp at aS) (λaS=>?_);apply aa.skip;simp;apply aa.ai bb fw [1,2,3,8];simp[asJ];apply aa.sq bb fw [1,2,3,8,9];simp[asK];apply aa.block;refine aa.loop (λy:Nat=>⟨DM.look [(1,.v (ti mn)),(2,.v (ti ((k:Int)+1))),(3,.v (.box [ti m,.sl (dT ks)])),(8,.v (ti (ux mn k ks y).1)),(9,.v (ti y))],cR [],2000,1000,[]⟩) (λy=>y<=ks.length/\(ux mn k ks y).2=true/\0<=(ux mn k ks y).1/\(ux mn k ks y).1<=mn) (λy=>ks.length-y) 0 (Le.aL (o:=[]) ?_ ?_ ?_ ?_) ⟨by simp,by simp[ux],by simp[ux],by simp[ux];omega⟩ (λy hy=>?_);iterate 3(·simp)
  .simp[ux]
  obtain⟨hy,ho,hn0,hn1⟩:=hy;apply aa.sq bb fw [1,2,3,8,9,20];simp[asL];refine aa.cond rfl (λaS=>?_) (λaS=>?_)
  .have aS:y<ks.length:=by simpa using aS
   apply aa.skip;simp;have gh:=Ph (mn:=mn) (k:=k) aS;rw[ho,ee rfl]at gh;have aN:=Xr hd2 aS;obtain⟨⟨ka,kl⟩,vr⟩:=aY (ks.getD y default);rw[vr]at gh aN;have rr:=DO aS vr;obtain⟨b1,b2,b3,b4⟩:=hb (.mk ka kl);obtain⟨⟨qn,qo⟩,hq⟩:=aY (vi mn k (.mk ka kl));rw[hq]at gh b1 b2 b3 b4;simp only at gh b1 b2 b3 b4;obtain⟨c,hc⟩:=aY ((ux mn k ks y).1);rw[hc]at gh hn0 hn1⊢;have w1:IntKind.i64.wrap (k:Int)=(k:Int):=av (by omega);have w2:IntKind.i64.wrap (c+qn)=c+qn:=av (by omega);have w3:IntKind.i64.wrap (mn+1)=mn+1:=av (by omega);apply aa.seq;apply aa.block;apply aa.ai bb fw [1,2,3,8,9,10,11];simp[asM,aS,rr,w1,Yr,hq];refine⟨⟨_,_,⟨rfl,rfl⟩,aN⟩, ?_⟩;apply aa.ai bb fw [1,2,3,8,9,11];simp[asN,w2];have out:ux mn k ks (y+1)=(mn+1,false)->ux mn k ks ks.length=(mn+1,false):=λe=>by
    have:=azD (y+1) (by rw[e]) (ks.length-(y+1)) (by omega);rw[show y+1+(ks.length-(y+1))=ks.length by omega]at this;rw[this,e]
   by_cases g:qo=true/\¬mn<c+qn
   .rw[ee g]at gh;obtain⟨g1,g2⟩:=g;subst g1;apply aa.ai bb fw [1,2,3,8,9,44];simp[Zb,g2];refine aa.cond rfl (λJE=>by simp at JE) (λJE=>?_);apply aa.skip;simp;apply aa.cZ bb fw [1,2,3,8,9];simp[anG];rw[av (x:=(y:Int)+1) (by omega)];refine⟨y+1,Le.aL (o:=[]) ?_ ?_ ?_ ?_,⟨by omega,by rw[gh],by rw[gh];simp only;omega,by rw[gh];simp only;omega⟩,by omega⟩;iterate 3(·simp)
    .simp[gh]
   .rw[iK g]at gh;rw[out gh];refine aa.xj bb fw [(1,.v (ti mn)),(44,.v (.bool true))] (cR []) ?_ ?_
    .cases qo with
     |false=>simp[Zb]
     |true=>
      have g2:mn<c+qn:=by
       by_cases e:mn<c+qn
       .exact e
       .exact qe ⟨rfl,e⟩ g
      simp[Zb,g2]
    refine aa.cond rfl (λJE=>?_) (λJE=>by simp at JE);apply aa.ai bb fw [6,7];simp[asO,w3];apply aa.ret;simp[N5]
  .have sZ:y=ks.length:=by simp at aS;omega
   subst sZ;apply aa.exit;simp;apply aa.ai bb fw [6,7];simp[anH];apply aa.ret;simp[N5,ho]
def azE(hl:1<=mn/\mn<=1000)(d:Tr)(hd:F4 d):aJ ak 17 [.agg d.enc,ti mn] (.bool (vi mn 60 d).2):=by
 have bb:aw ak (bz [(55,Yr mn 60)]):=by
  refine aw.cons aw.nil ?_;rintro ts ⟨a,l,rfl,h⟩;exact⟨by simpa [Yr,Tr.enc]using azC hl 60 (by omega) (.mk a l) h,λ_=>rfl⟩
 obtain⟨m,ks⟩:=d;refine azF.ok (by simp) (aH ?_);simp[Tr.enc];apply aa.ai bb fw [1,2];simp[asP];refine aa.lk (o:=[]) (l:=[(1,.v (ti mn)),(2,.v (.box [ti m,.sl (dT ks)]))]) (bn:=1200) (by simp) ?_;apply aa.ai bb fw [6];simp[asQ,Yr];refine⟨⟨_,_,⟨rfl,rfl⟩,hd⟩, ?_⟩;apply aa.ai bb fw [4];simp[asR];apply aa.ret;simp[dI]
def abW{x:Input}(h6:JI x){y:ba}(hl:y.length=x.ag.length)(hk:∀i,i<y.length->(x.ag.getD i default).kind=y.getD i default)(hy:∀a∈y,0<=a/\a<x.insert.length):ed x y 0 0<=0:=by
 have mZ:pM x.ag x.insert.length:=by
  obtain⟨_,h3,_⟩:=h6;by_cases e:pM x.ag x.insert.length
  .exact e
  .exact qe (.inr (.inr (.inr (.inr (.inr e))))) h3
 have key:∀j i,i+j=y.length->vH x i (y.drop i) 0:=by
  intro j;induction j with
  |zero=>
   intro i hi;rw[show i=y.length by omega,List.drop_length,hl];exact .nil
  |succ j ih=>
   intro i hi;have h1:=ih (i+1) (by omega);rw[HX (j:=i) (by omega)];have hya:0<=kI y i/\kI y i<x.insert.length:=hy _ (bu (by omega));have vr:=hk i (by omega);have hc:=(mZ i (by omega)).2 (kI y i).toNat (by omega);have Oy:cV x i (kI y i).toNat=0:=by
    unfold pN at hc;unfold cV;by_cases e:(x.ag.getD i default).read.getD (kI y i).toNat default=0
    .exact e
    .exact qe (.inl ⟨by rw[vr];unfold kI at hya⊢;omega,e⟩) hc
   have:=vH.read (x:=x) (i:=i) (t:=kI y i) (by omega) (by rw[Oy];exact Tg _) h1;rw[Oy,Int.zero_add]at this;exact this
 have h0:=key y.length 0 (by omega);exact(TL (HY h6) y _ 0 0 (TZ _) (ER _) (ER _) 0 (by decide)).2 ⟨0,Tg _,h0⟩
end
def Zc(x:Input)(y:ba):Prop:=y.length=x.ag.length/\∀i,i<y.length->(x.ag.getD i default).kind=y.getD i default
def adx(n:ay)(x:Input)(d:Tr)(v1 v2 v3:Bool)(y:ba)(a b c pr:Int)(p q s:List (aG))(c9:x.ag.length<=1000000000\/v1=false)(K9:aJ ak 10 [n.enc,x.enc,ti 14,ti 6] (.bool v1))(h17:aJ ak 17 [.agg d.enc,ti 20] (.bool v2))(h18:v2=true->aJ ak 18 [n.enc,ti n.start,.agg d.enc] (.bool v3))
  (h19:v1=true/\v2=true/\v3=true->aJ ak 19 [n.enc,.agg d.enc] (.sl (au y))) (QU:(v1=true/\v2=true/\v3=true)/\Zc x y->aJ ak 11 [n.enc,x.enc] (.dh [.agg [ti a,ti b,.sl p,.sl q,ti c,.sl s],ti 0])/\a<=pr) (h20:v1=true/\v2=true/\v3=true->aJ ak 20 [n.enc,.agg d.enc] (ti pr)):
  aJ ak 5 [n.enc,x.enc,.agg d.enc] (.bool true):=by
 have bb:aw ak (bz [(9,bp (λts=>ts=[]) (λ_=>.bool true) true),(10,bp (λts=>ts=[n.enc,x.enc,ti 14,ti 6]) (λ_=>.bool v1) true),(17,bp (λts=>ts=[.agg d.enc,ti 20]) (λ_=>.bool v2) true),(18,bp (λts=>ts=[n.enc,ti n.start,.agg d.enc]/\v2=true) (λ_=>.bool v3) true),
   (19,bp (λts=>ts=[n.enc,.agg d.enc]/\v1=true/\v2=true/\v3=true) (λ_=>.sl (au y)) false),(11,bp (λts=>ts=[n.enc,x.enc]/\(v1=true/\v2=true/\v3=true)/\Zc x y) (λ_=>.dh [.agg [ti a,ti b,.sl p,.sl q,ti c,.sl s],ti 0]) false),(20,bp (λts=>ts=[n.enc,.agg d.enc]/\v1=true/\v2=true/\v3=true) (λ_=>ti pr) true)]):=by
  refine aw.cons (aw.cons (aw.cons (aw.cons (aw.cons (aw.cons (aw.cons aw.nil ?_) ?_) ?_) ?_) ?_) ?_) ?_
  .rintro ts ⟨rfl,h⟩;exact⟨h20 h,λ_=>rfl⟩
  .rintro ts ⟨rfl,h⟩;exact⟨(QU h).1,λh=>by cases h⟩
  .rintro ts ⟨rfl,h⟩;exact⟨h19 h,λh=>by cases h⟩
  .rintro ts ⟨rfl,h⟩;exact⟨h18 h,λ_=>rfl⟩
  .rintro ts rfl;exact⟨h17,λ_=>rfl⟩
  .rintro ts rfl;exact⟨K9,λ_=>rfl⟩
  .rintro ts rfl;exact⟨anF,λ_=>rfl⟩
 have io:=λh=>(QU h).2;clear K9 h17 h18 h19 QU h20;unfold Zc at io bb;obtain⟨nt,nn,ns,aj⟩:=n;obtain⟨cs,dm,sw⟩:=x;obtain⟨dn,dk⟩:=d;simp only[ay.enc,Input.enc,Tr.enc]at bb;simp only at c9 io;refine azG.ok (by simp) (aH ?_);simp[ay.enc,Input.enc,Tr.enc];apply aa.ai bb fw [3,4,5];simp[asS];refine aa.lk (o:=[]) (l:=[(3,.v (.box [ti nt,ti nn,ti ns,.sl (aQ aj)])),(4,.v (.box [.sl (bd cs),.sl (au dm),ti sw])),(5,.v (.box [ti dn,.sl (dT dk)]))]) (bn:=1200) (by simp) ?_;apply aa.sq bb fw [3,4,5,12];simp[asT];refine aa.cond rfl (λaS=>by simp at aS) (λaS=>?_);apply aa.skip;simp;apply aa.seq;refine aa.xj bb fw [(3,.v (.box [ti nt,ti nn,ti ns,.sl (aQ aj)])),(4,.v (.box [.sl (bd cs),.sl (au dm),ti sw])),(5,.v (.box [ti dn,.sl (dT dk)])),(29,.v (.bool (!(v1&&(v2&&v3)))))] (cR []) ?_ ?_
 .cases v1
  .simp[Zd]
  cases v2
  .simp[Zd]
  simp[Zd]
 by_cases hv:(v1&&(v2&&v3))=true
 .rw[hv];simp only[mA]at hv;obtain⟨Bb,nk,hv3⟩:=hv;subst Bb nk hv3;have c9:=c9.resolve_right (by simp);refine aa.cond rfl (λaS=>by simp at aS) (λaS=>?_);apply aa.skip;simp;apply aa.ai bb fw [3,4,5,7];simp[asU];refine aa.lk (o:=[]) (l:=[(3,.v (.box [ti nt,ti nn,ti ns,.sl (aQ aj)])),(4,.v (.box [.sl (bd cs),.sl (au dm),ti sw])),(5,.v (.box [ti dn,.sl (dT dk)])),(7,.v (.sl (au y)))]) (bn:=2000) (by simp) ?_;apply aa.seq;by_cases sZ:y.length=cs.length
  .apply aa.ai bb fw [3,4,5,7,38];simp[afb,sZ];refine aa.cond rfl (λaS=>by simp at aS) (λaS=>?_);apply aa.skip;simp;apply aa.sq bb fw [3,4,5,7,8];simp[asV];apply aa.block;refine aa.loop (λk:Nat=>⟨DM.look [(3,.v (.box [ti nt,ti nn,ti ns,.sl (aQ aj)])),(4,.v (.box [.sl (bd cs),.sl (au dm),ti sw])),(5,.v (.box [ti dn,.sl (dT dk)])),(7,.v (.sl (au y))),(8,.v (ti k))],cR [],3000,1000,[]⟩) (λk=>k<=y.length/\∀i,i<k->(cs.getD i default).kind=y.getD i default) (λk=>y.length-k) 0 (Le.aL (o:=[]) ?_ ?_ ?_ ?_) ⟨by simp,λi h=>by omega⟩ (λk hk=>?_);iterate 4(·simp)
   obtain⟨mr,sI⟩:=hk;apply aa.sq bb fw [3,4,5,7,8,42];simp[asW];refine aa.cond rfl (λaS=>?_) (λaS=>?_)
   .have aS:k<y.length:=by simpa using aS
    have wl:k<cs.length:=by omega
    apply aa.skip;simp;apply aa.seq;apply aa.block;have rc:=fg wl;have ry:=bA aS;obtain⟨⟨ck,cr,cd⟩,Q7⟩:=aY (cs.getD k default);obtain⟨t,ht⟩:=aY (y.getD k default);rw[Q7]at rc;rw[ht]at ry;by_cases e:ck=t
    .subst e;apply aa.ai bb fw [3,4,5,7,8,55];simp[aco,aS,wl,rc,ry,bB.enc];refine aa.cond rfl (λJE=>by simp at JE) (λJE=>?_);apply aa.skip;simp;apply aa.cZ bb fw [3,4,5,7,8];simp[anI];rw[av (x:=(k:Int)+1) (by omega)];refine⟨k+1,Le.aL (o:=[]) ?_ ?_ ?_ ?_,⟨by omega,λi hi=>?_⟩,by omega⟩;iterate 4(·simp)
     .by_cases e2:i=k
      .subst e2;have:(cs.getD i default).kind=y.getD i default:=by rw[Q7,ht]
       simpa using this
      .simpa using sI i (by omega)
    .apply aa.ai bb fw [55];simp[aco,aS,wl,rc,ry,bB.enc,e];refine aa.cond rfl (λJE=>?_) (λJE=>by simp at JE);apply aa.ai bb fw [6];simp[anJ];apply aa.ret;simp[dI]
   .have hky:k=y.length:=by simp at aS;omega
    subst hky;have io:=io ⟨⟨rfl,rfl,rfl⟩,sZ,sI⟩;apply aa.exit;simp;apply aa.ai bb fw [3,5,9,10];simp[anK,sZ];refine⟨λi hi=>sI i (by omega), ?_⟩;refine aa.lk (o:=[]) (l:=[(3,.v (.box [ti nt,ti nn,ti ns,.sl (aQ aj)])),(5,.v (.box [ti dn,.sl (dT dk)])),(9,.v (.box [ti a,ti b,.sl p,.sl q,ti c,.sl s])),(10,.v (ti 0))]) (bn:=4000) (by simp) ?_;apply aa.ai bb fw [6];simp[anL,io];apply aa.ret;simp[dI]
  .apply aa.ai bb fw [38];simp[afb,sZ,show ¬(y.length:Int)=cs.length by omega];refine aa.cond rfl (λaS=>?_) (λaS=>by simp at aS);apply aa.ai bb fw [6];simp[asX];apply aa.ret;simp[dI]
 .rw[show(v1&&(v2&&v3))=false by simpa using hv];refine aa.cond rfl (λaS=>?_) (λaS=>by simp at aS);apply aa.ai bb fw [6];simp[asY];apply aa.ret;simp[dI]
def azH(n:ay)(x:Input)(d:Tr)(h1:n.aj.length<=9223372036854775807)(h2:x.insert.length<=9223372036854775807)(hd:F4 d):aJ ak 5 [n.enc,x.enc,.agg d.enc] (.bool true):=by
 have K9:=aj3 n x 14 6 h1 h2;have h17:=azE (mn:=20) (by omega) d hd;have jc:(vi 20 60 d).2=true->d.sz<=20:=λh=>by have:=(PC (mn:=20) (by omega) 60 d).2.2.1 h;omega
 have h18:=λh=>t24 n.aX n.an n.start n.aj 4194304 d n.start (by have:=jc h;omega) (by have:=jc h;omega);have h19:=λ{v:Bool} (h:v=true/\(vi 20 60 d).2=true/\eG n.aj n.start d=true)=>t27 n.aX n.an n.start n.aj 4194304 d (by have:=jc h.2.1;omega) (by have:=jc h.2.1;omega) ⟨_,h.2.2⟩;by_cases h:uw n x 14 6
 .rw[decide_eq_true h]at K9;have hp:=BC h (by decide) (by decide);have h6:=yo h (by decide);have hr:∀r∈n.aj,0<=r.bi/\r.bi<=1000:=λr hr=>by have:=(hp.aj r hr).1;unfold fa at this;omega
  have h20:=λ(h:true=true/\(vi 20 60 d).2=true/\eG n.aj n.start d=true)=>t28 n.aX n.an n.start n.aj hr 4194304 d (by have:=jc h.2.1;omega) (by have:=jc h.2.1;omega) ⟨_,h.2.2⟩;have hb:∀r∈n.aj,fX n r:=λr hr=>(hp.aj r hr).2;have io:∀(hv:eG n.aj n.start d=true) (hk:Zc x (dw n.aj d)),gC n x<=fF n.aj d:=λhv hk=>by
   have h3:=al7 h (by decide) (by decide) hv;have h4:=abW h6 hk.1 hk.2 λa ha=>by have:=yn hb d.sz d n.start (gJ _) hv a ha;have:=h.2.2.2.2.2.2.2.1;omega
   omega
  have hpr:=nE hr d;have c9:x.ag.length<=1000000000:=by have:=(pb h6).2.1;omega
  rcases NZ h (by decide) (by decide)with⟨aAH,QU⟩|⟨_,e,z,B,QU⟩
  .refine adx n x d true _ _ _ 0 0 0 _ [] [] [] (.inl c9) K9 h17 h18 (λg=>h19 g) (λg=>?_) h20;have:=io g.1.2.2 g.2;have:=jc g.1.2.1;omega
  .obtain⟨en,ek⟩:=e;exact adx n x d true _ _ _ _ z en _ _ _ _ (.inl c9) K9 h17 h18 (λg=>h19 g) (λg=>⟨QU,io g.1.2.2 g.2⟩) h20
 .rw[decide_eq_false h]at K9;exact adx n x d false _ _ _ 0 0 0 0 [] [] [] (.inr rfl) K9 h17 h18 (λg=>h19 g) (λg=>by cases g.1.1) (λg=>by cases g.1)
def rdT(T:Nat)(k:Int):ba:=(List.replicate T (-1)).set k.toNat 0
def XQ(T:Nat)(k:Int):bB:=⟨k,rdT T k,9⟩
def stX(T:Nat)(y dm:ba):Input:=⟨y.map (XQ T),dm,0⟩
def HK(T t:Nat):ba:=List.replicate t (-1)++List.replicate (T-t) 0
def anM{T t:Nat}(h:t<T):(HK T t).set t (-1)=HK T (t+1):=by
 unfold HK;rw[ZS _ _ (by simp),ZbW,Nat.sub_self,show T-t=(T-(t+1))+1 by omega,Q5,Zb7,ZcQ (n:=t)];simp
def ints_set(l:ba)(i:Nat)(v:Int):(au l).set i [ti v]=au (l.set i v):=by simp[au,Zco]
def K3(l:ba):(au l).length=l.length:=by simp[au]
def Ze(n:ay)(x:Input)(v:Bool)(a b e a2 b2 e2 pr:Int)(ops:List (Int×Int))(y:ba)(d d2:Tr)(axe:List (Int×Int))(y2:ba)(T:Nat)(hT:n.aX=T\/v=false)(hT6:T<=6)(hy6:∀q∈y,0<=q/\q<T)(K9:aJ ak 10 [n.enc,x.enc,ti 14,ti 4] (.bool v))(he:v=true->e=0\/e=6)
  (QU:v=true->aJ ak 11 [n.enc,x.enc] (.dh [.agg (ED a b ops y d),ti e])) (azI:v=true/\e=0/\y.length<=6->aJ ak 11 [n.enc,(stX T y x.insert).enc] (.dh [.agg (ED a2 b2 axe y2 d2),ti 0])/\a2<=pr/\aJ ak 20 [n.enc,.agg d.enc] (ti pr)):aJ ak 6 [n.enc,x.enc] (.bool true):=by
 have bb:aw ak (bz [(9,bp (λts=>ts=[]) (λ_=>.bool true) true),(10,bp (λts=>ts=[n.enc,x.enc,ti 14,ti 4]) (λ_=>.bool v) true),(11,bp (λts=>ts=[n.enc,x.enc]/\v=true) (λ_=>.dh [.agg (ED a b ops y d),ti e]) false)]):=by
  refine aw.cons (aw.cons (aw.cons aw.nil ?_) ?_) ?_
  .rintro ts ⟨rfl,h⟩;exact⟨QU h,λh=>by cases h⟩
  .rintro ts rfl;exact⟨K9,λ_=>rfl⟩
  .rintro ts rfl;exact⟨anF,λ_=>rfl⟩
 clear K9 QU;obtain⟨nt,nn,ns,aj⟩:=n;obtain⟨cs,dm,sw⟩:=x;obtain⟨dn,dk⟩:=d;simp only[ay.enc,Input.enc,ED,Tr.enc]at bb;simp only at hT azI;refine azJ.ok (by simp) (aH ?_);simp[ay.enc,Input.enc];apply aa.ai bb fw [2,3];simp[asZ];refine aa.lk (o:=[]) (l:=[(2,.v (.box [ti nt,ti nn,ti ns,.sl (aQ aj)])),(3,.v (.box [.sl (bd cs),.sl (au dm),ti sw]))]) (bn:=1200) (by simp) ?_;apply aa.sq bb fw [2,3,14];simp[as0];refine aa.cond rfl (λaS=>by simp at aS) (λaS=>?_);apply aa.skip;simp;apply aa.sq bb fw [2,3,18];simp[as1];cases v with
 |false=>
  refine aa.cond rfl (λaS=>?_) (λaS=>by simp at aS);apply aa.ai bb fw [4];simp[as2];apply aa.ret;simp[dI]
 |true=>
 have hT:=hT.resolve_right (by simp);subst hT;refine aa.cond rfl (λaS=>by simp at aS) (λaS=>?_);apply aa.skip;simp;apply aa.ai bb fw [2,3,5,6];simp[as8];refine aa.lk (o:=[]) (l:=[(2,.v (.box [ti T,ti nn,ti ns,.sl (aQ aj)])),(3,.v (.box [.sl (bd cs),.sl (au dm),ti sw])),(5,.v (.box [ti a,ti b,.sl (ca ops),.sl (au y),ti dn,.sl (dT dk)])),(6,.v (ti e))]) (bn:=1500) (by simp) ?_;have sZ:=K3 y;apply aa.seq;by_cases hgo:e=0/\y.length<=6
 .obtain⟨he0,hy⟩:=hgo;subst he0;obtain⟨k11,io,k20⟩:=azI ⟨rfl,rfl,hy⟩;unfold stX at k11;obtain⟨Z,hZ⟩:=aY (y.map (XQ T));have hZl:Z.length=y.length:=by rw[<-hZ,we]
  have hZg:∀k,k<y.length->Z.getD k default=XQ T (y.getD k default):=λk h=>by rw[<-hZ];simp[List.getD,h]
  rw[hZ]at k11;apply aa.ai bb fw [2,3,5,32];simp[Zf,sZ,show ¬(6:Int)<y.length by omega];refine aa.cond rfl (λaS=>by simp at aS) (λaS=>?_);apply aa.skip;simp;apply aa.ai bb fw [2,3,5,7];simp[atd];refine aa.le (Le.j7 (k:=7) 47 (sz:=3) (by omega) (by simp)) ?_;rw[jY];apply aa.sq bb fw [2,3,5,7,8];simp[atf];apply aa.block;refine aa.loop (λk:Nat=>⟨DM.look [(2,.v (.box [ti T,ti nn,ti ns,.sl (aQ aj)])),(3,.v (.box [.sl (bd cs),.sl (au dm),ti sw])),(5,.v (.box [ti a,ti b,.sl (ca ops),.sl (au y),ti dn,.sl (dT dk)])),(7,.aW 1724 0),(8,.v (ti k))],cR [(1724,.bm 0 47 3 (bd (Z.take k)))],2000,1000,[]⟩) (λk=>k<=y.length) (λk=>y.length-k) 0 (Le.aL ?_ ?_ ?_ ?_) (by simp) (λk hk=>?_)
  .simp
  .simp
  .simp[bd]
  .simp
  apply aa.sq bb fw [2,3,5,7,8,43];simp[anN];refine aa.cond rfl (λaS=>?_) (λaS=>?_)
  .have aS:k<y.length:=by simpa using aS
   apply aa.skip;simp;have ry:=bA aS;have Tm:=hy6 _ (bu aS);have htk:Z.take (k+1)=Z.take k++[XQ T (y.getD k default)]:=by
    rw[<-hZg k aS,OS,mM (by omega)];simp[List.getD,show k<Z.length by omega]
   obtain⟨q,hq⟩:=aY (y.getD k default);rw[hq]at ry Tm htk;obtain⟨q,rfl⟩:=bX Tm.1;have hqT:q<T:=by omega
   obtain⟨R,hR⟩:=aY (bd (Z.take k));have hRl:R.length<=6:=by rw[<-hR];simp[bd];omega
   have hR2:bd (Z.take (k+1))=R++[(XQ T q).enc]:=by rw[htk,<-hR];simp[bd]
   rw[hR];apply aa.seq;apply aa.block;apply aa.sq bb fw [2,3,5,7,8,61];simp[anO,aS,ry,show ¬(T:Int)<=(q:Int)by omega,show ¬T<=q by omega];refine aa.cond rfl (λJE=>by simp at JE) (λJE=>?_);apply aa.skip;simp;apply aa.ai bb fw [2,3,5,7,8,9];simp[anP,cw];refine⟨by omega, ?_⟩;refine aa.le (Le.aL (o:=[(1724,.bm 0 47 3 R),(2289,.bm 0 3 1 (au (HK T 0)))]) (l:=[(2,.v (.box [ti T,ti nn,ti ns,.sl (aQ aj)])),(3,.v (.box [.sl (bd cs),.sl (au dm),ti sw])),(5,.v (.box [ti a,ti b,.sl (ca ops),.sl (au y),ti dn,.sl (dT dk)])),(7,.aW 1724 0),(8,.v (ti k)),(9,.aW 2289 0)]) (bn:=2500) ?_ ?_ ?_ ?_) ?_
   .simp
   .simp
   .simp[HK,au]
   .simp
   apply aa.sq bb fw [2,3,5,7,8,9,10];simp[anQ];apply aa.block;refine aa.loop (λt:Nat=>⟨DM.look [(2,.v (.box [ti T,ti nn,ti ns,.sl (aQ aj)])),(3,.v (.box [.sl (bd cs),.sl (au dm),ti sw])),(5,.v (.box [ti a,ti b,.sl (ca ops),.sl (au y),ti dn,.sl (dT dk)])),(7,.aW 1724 0),(8,.v (ti k)),(9,.aW 2289 0),(10,.v (ti t))],cR [(1724,.bm 0 47 3 R),(2289,.bm 0 3 1 (au (HK T t)))],3000,1000,[]⟩) (λt=>t<=T) (λt=>T-t) 0 (Le.aL ?_ ?_ ?_ ?_) (by simp) (λt ht=>?_);iterate 4(·simp)
   have hfl:(au (HK T t)).length=T:=by rw[K3];unfold HK;simp;omega
   apply aa.sq bb fw [2,3,5,7,8,9,10,68];simp[anR];refine aa.cond rfl (λtg=>?_) (λtg=>?_)
   .have tg:t<T:=by simpa using tg
    have ZN:=anM tg;have aAI:=bA (l:=HK T t) (y:=t) (by rw[<-K3,hfl];exact tg);apply aa.skip;simp;apply aa.seq;apply aa.block;apply aa.cZ bb fw [2,3,5,7,8,9,10];simp[anS,hfl,tg,aAI];apply aa.cZ bb fw [2,3,5,7,8,9,10];simp[anT];rw[av (x:=(t:Int)+1) (by omega)];refine⟨t+1,Le.aL ?_ ?_ ?_ ?_,by omega,by omega⟩
    .simp
    .simp
    .simp[<-ZN,<-ints_set]
    .simp
   .have htT:t=T:=by simp at tg;omega
    subst htT;have avj:HK t t=List.replicate t (-1):=by unfold HK;simp
    rw[avj]at hfl;apply aa.exit;simp;apply aa.ai bb fw [2,3,5,7,8,9];simp[anU,avj,hfl,aS,ry,hqT];refine aa.le (Le.aL (o:=[(1724,.bm 0 47 3 R)]) (l:=[(2,.v (.box [ti t,ti nn,ti ns,.sl (aQ aj)])),(3,.v (.box [.sl (bd cs),.sl (au dm),ti sw])),(5,.v (.box [ti a,ti b,.sl (ca ops),.sl (au y),ti dn,.sl (dT dk)])),(7,.aW 1724 0),(8,.v (ti k)),(9,.v (.sl (au (rdT t q))))]) (bn:=4000) ?_ ?_ ?_ ?_) ?_;iterate 3(·simp)
    .have rq:=bA (l:=List.replicate t (-1)) (y:=q) (by simpa using hqT);simp[rdT,<-ints_set,rq]
    apply aa.cZ bb fw [2,3,5,7,8];simp[anV,aS,ry];refine⟨by unfold cw;omega, ?_⟩;apply aa.cZ bb fw [2,3,5,7,8];simp[anW];rw[av (x:=(k:Int)+1) (by omega)];refine⟨k+1,Le.aL ?_ ?_ ?_ ?_,by omega,by omega⟩
    .simp
    .simp
    .simp[hR2,XQ,bB.enc]
    .simp
  .have hky:k=y.length:=by simp at aS;omega
   subst hky;rw[<-hZl,uJ];have XO:aw ak (bz [(11,bp (λts=>ts=[.agg [ti T,ti nn,ti ns,.sl (aQ aj)],.agg [.sl (bd Z),.sl (au dm),ti 0]]) (λ_=>.dh [.agg (ED a2 b2 axe y2 d2),ti 0]) false),(20,bp (λts=>ts=[.agg [ti T,ti nn,ti ns,.sl (aQ aj)],.agg [ti dn,.sl (dT dk)]]) (λ_=>ti pr) true)]):=by
    refine aw.cons (aw.cons aw.nil ?_) ?_
    .rintro ts rfl;exact⟨k20,λ_=>rfl⟩
    .rintro ts rfl;exact⟨k11,λh=>by cases h⟩
   obtain⟨en,ek⟩:=d2;simp only[ED,Tr.enc]at XO;apply aa.exit;simp;refine aa.lk (o:=[]) (l:=[(2,.v (.box [ti T,ti nn,ti ns,.sl (aQ aj)])),(3,.v (.box [.sl (bd cs),.sl (au dm),ti sw])),(5,.v (.box [ti a,ti b,.sl (ca ops),.sl (au y),ti dn,.sl (dT dk)])),(7,.v (.sl (bd Z)))]) (bn:=5000) (by simp) ?_;apply aa.ai XO fw [2,5,11,12];simp[anX];refine aa.lk (o:=[]) (l:=[(2,.v (.box [ti T,ti nn,ti ns,.sl (aQ aj)])),(5,.v (.box [ti a,ti b,.sl (ca ops),.sl (au y),ti dn,.sl (dT dk)])),(11,.v (.box [ti a2,ti b2,.sl (ca axe),.sl (au y2),ti en,.sl (dT ek)])),(12,.v (ti 0))]) (bn:=6000) (by simp) ?_;apply aa.ai XO fw [4];simp[anY,io];apply aa.ret;simp[dI]
 .have he:=he rfl;refine aa.xj bb fw [(6,.v (ti e)),(32,.v (.bool true))] (cR []) ?_ ?_
  .by_cases e0:e=0
   .have hy:(6:Int)<y.length:=by
     by_cases g:y.length<=6
     .exact qe ⟨e0,g⟩ hgo
     .omega
    simp[Zf,e0,sZ,hy]
   .simp[Zf,e0]
  refine aa.cond rfl (λaS=>?_) (λaS=>by simp at aS);apply aa.ai bb fw [4];rcases he with rfl|rfl
  .simp[afe];apply aa.ret;simp[dI]
  .simp[afe];apply aa.ret;simp[dI]
def axf{T t:Nat}{k:Nat}(ht:t<T):(rdT T k).getD t default=if t=k then 0 else-1:=by
 unfold rdT;rw[gN,List.getD];by_cases e:t=k
 .subst e;rw[List.getElem?_set_self (by simpa using ht),ee rfl];rfl
 .rw[List.getElem?_set_ne (λh=>e h.symm),iK e];simp[ht]
def anZ{n:ay}{x:Input}{r t:Int}(h:uw n x r t){T:Nat}(hT:n.aX=T){y:ba}(hy6:∀q∈y,0<=q/\q<T)(hy:y.length<=6):uw n (stX T y x.insert) r 6:=by
 obtain⟨a1,a2,a3,a4,a5,a6,⟨a7,a8⟩,a9,⟨a10,a11⟩,a12⟩:=h;have ct:(stX T y x.insert).ag.length=y.length:=by simp[stX]
 refine⟨a1,a2,a3,a4,a5,a6,⟨by omega,a8⟩,a9,⟨?_,a11⟩,a12⟩;rintro(h|h|h|h|h|h)
 .omega
 .omega
 .exact h a9
 .exact qe h (by simp[stX])
 .exact qe h (by simp[stX])
 .refine h λi hi=>?_;rw[ct]at hi;have hq:=hy6 _ (bu hi);have hc:(stX T y x.insert).ag.getD i default=XQ T (y.getD i default):=by simp[stX,List.getD,hi]
  rw[hc];obtain⟨q,hqq⟩:=aY (y.getD i default);rw[hqq]at hq⊢;obtain⟨q,rfl⟩:=bX hq.1;have qU:(rdT T q).length=T:=by simp[rdT]
  refine⟨?_,λt ht=>?_⟩
  .simp only[XQ,qU];omega
  .have hg:=axf (T:=T) (t:=t) (k:=q) (by omega);unfold pN;simp only[XQ];rw[hg];split
   .rename_i e;subst e;rintro(h|h)
    .exact h.2 rfl
    .exact h.1 rfl
   .rename_i e;rintro(h|h)
    .omega
    .exact h.2.1 rfl
def azK(n:ay)(x:Input)(h1:n.aj.length<=9223372036854775807)(h2:x.insert.length<=9223372036854775807):aJ ak 6 [n.enc,x.enc] (.bool true):=by
 have K9:=aj3 n x 14 4 h1 h2;by_cases h:uw n x 14 4
 .rw[decide_eq_true h]at K9;have hp:=BC h (by decide) (by decide);have hr:∀r∈n.aj,0<=r.bi/\r.bi<=1000:=λr hr=>by have:=(hp.aj r hr).1;unfold fa at this;omega
  have hb:∀r∈n.aj,fX n r:=λr hr=>(hp.aj r hr).2;have nJ:=hp.aX;obtain⟨T,hT⟩:=bX nJ.1;rcases NZ h (by decide) (by decide)with⟨_,QU⟩|⟨_,d,z,B,QU⟩
  .exact Ze n x true 0 0 6 0 0 0 0 [] [] (.mk 0 []) (.mk 0 []) [] [] T (.inl hT) (by omega) (λq hq=>by cases hq) K9 (λ_=>.inr rfl) (λ_=>QU) (λg=>qe g.2.1 (by decide))
  .have hy6:∀q∈dw n.aj d,0<=q/\q<(T:Int):=λq hq=>by
    have:=yn hb d.sz d n.start (gJ _) B.val q hq;omega
   have hpr:=nE hr d;have jc:=B.sz;have k20:=t28 n.aX n.an n.start n.aj hr 4194304 d (by omega) (by omega) ⟨_,B.val⟩;have mX:=h.2.2.2.2.2.2.2.1;by_cases hy:(dw n.aj d).length<=6
   .have hs:=anZ h hT hy6 hy;have Z2:=al7 hs (by decide) (by decide) B.val;have ct:(stX T (dw n.aj d) x.insert).ag.length=(dw n.aj d).length:=by simp[stX]
    have S3:=abW (yo hs (by decide)) ct.symm (λi hi=>by simp[stX,List.getD,hi,XQ]) (λa ha=>by have:=hy6 a ha;show 0<=a/\a<(x.insert.length:Int);omega);have io:gC n (stX T (dw n.aj d) x.insert)<=fF n.aj d:=by omega
    rcases NZ hs (by decide) (by decide)with⟨aAH,_⟩|⟨_,d2,z2,B2,k11⟩
    .omega
    .exact Ze n x true _ _ 0 _ _ 0 _ _ _ d d2 _ _ T (.inl hT) (by omega) hy6 K9 (λ_=>.inl rfl) (λ_=>QU) (λ_=>⟨k11,io,k20⟩)
   .exact Ze n x true _ _ 0 0 0 0 0 _ _ d (.mk 0 []) [] [] T (.inl hT) (by omega) hy6 K9 (λ_=>.inl rfl) (λ_=>QU) (λg=>qe g.2.2 hy)
 .rw[decide_eq_false h]at K9;exact Ze n x false 0 0 0 0 0 0 0 [] [] (.mk 0 []) (.mk 0 []) [] [] 0 (.inr rfl) (by omega) (λq hq=>by cases hq) K9 (λg=>by cases g) (λg=>by cases g) (λg=>by cases g.1)
open Go.DM
def XK:Ty:=.seq [.int .i64,.int .i64,.int .i64,.int .i64,.int .i64,.int .i64]
def DJ:Ty:=.seq [.int .i64,.int .i64,.int .i64,.slice XK]
def aba{ts:aG}(h:XK.CD ts):∃r:bC,ts=r.enc:=by
 obtain⟨_,_,rfl,h1,h⟩:=all_cons (XB h);obtain⟨_,_,rfl,h2,h⟩:=all_cons h;obtain⟨_,_,rfl,h3,h⟩:=all_cons h;obtain⟨_,_,rfl,h4,h⟩:=all_cons h;obtain⟨_,_,rfl,h5,h⟩:=all_cons h;obtain⟨_,_,rfl,h6,h⟩:=all_cons h;obtain rfl:=all_nil h;obtain⟨a,rfl⟩:=ml h1;obtain⟨b,rfl⟩:=ml h2;obtain⟨c,rfl⟩:=ml h3;obtain⟨d,rfl⟩:=ml h4;obtain⟨e,rfl⟩:=ml h5;obtain⟨f,rfl⟩:=ml h6;exact⟨⟨a,b,c,d,e,f⟩,rfl⟩
def SR{x:T}(h:DJ.arg x):∃n:ay,x=n.enc/\n.aj.length<=9223372036854775807:=by
 unfold DJ Ty.arg at h;obtain⟨ts,rfl,h⟩:=h;obtain⟨_,_,rfl,h1,h⟩:=all_cons h;obtain⟨_,_,rfl,h2,h⟩:=all_cons h;obtain⟨_,_,rfl,h3,h⟩:=all_cons h;obtain⟨_,_,rfl,h4,h⟩:=all_cons h;obtain rfl:=all_nil h;obtain⟨a,rfl⟩:=ml h1;obtain⟨b,rfl⟩:=ml h2;obtain⟨c,rfl⟩:=ml h3;obtain⟨l,rfl,hl⟩:=yf (λr=>aba) h4;exact⟨⟨a,b,c,l⟩,rfl,hl⟩
end Go.Proofs.It
namespace Go.Proofs.YtbmaafemenldnaaGreatDoor
open Go.ChangeShapes Go.WideShapes Go.ChangeAt Go.RowKit Go.DM Go.Proofs Go.Deep
section
variable{cs:List Value}{W:World}
abbrev HN:List (String×DataW Unit):=[("emendate/editscript.actions",Rows.laid_emendate_editscript_actions),("emendate/chart.none",Rows.laid_emendate_chart_none)]
def avo:ak.globalNamed "emendate/editscript.actions" =some 1:=by kernel_rfl
def avp:(ak.globals[1]?).map (·.type)=some 228:=by kernel_rfl
def avq:ak.underlying 228=some (.array 5 227):=by kernel_rfl
def uFn:ak.underlying 227=some (.func #[169,3] #[4] false):=by kernel_rfl
def ajA:ak.cellsOf 227=1:=by kernel_rfl
def ajB:ak.cellsOf 228=5:=by kernel_rfl
def HO{P:Program}{w:World}{base:Nat}{sp:Nat->Bool}{fuel:Nat}{t:TypeId}{ps rs:Array TypeId}{va:Bool}{v:Value}{q:List MemPlace}{H:Type}{enc:TypeId×Value->H}
  (ht:P.underlying t=some (.func ps rs va)) (h:DataW.trod enc P w base sp true fuel t [v]=some (.nil,q)):v=.nilFunc:=by
 cases fuel with
 |zero=>simp[DataW.trod]at h
 |succ n=>cases v<;>simp[DataW.trod,ht]at h⊢
def cs5(h:cs.length=5):∃a b c d e,cs=[a,b,c,d,e]:=by
 match cs,h with
 |[a,b,c,d,e],_=>exact⟨a,b,c,d,e,rfl⟩
def xs5{α:Type}{cs:List α}(h:cs.length=5):∃a b c d e,cs=[a,b,c,d,e]:=by
 match cs,h with
 |[a,b,c,d,e],_=>exact⟨a,b,c,d,e,rfl⟩
def XJ(h:laidMetH ak HN W):W.cell? ⟨1,0,none⟩=some .nilFunc/\W.cell? ⟨1,1,none⟩=some (.func (.func 267) #[] #[])/\
  W.cell? ⟨1,2,none⟩=some (.func (.func 268) #[] #[])/\W.cell? ⟨1,3,none⟩=some (.func (.func 269) #[] #[])/\W.cell? ⟨1,4,none⟩=some (.func (.func 270) #[] #[]):=by
 obtain⟨g,t,cs,fuel,p,hg,ht,hv,hd⟩:=h.funcs (Iu ..);obtain rfl:=TT (avo.symm.trans hg);obtain rfl:=TT (avp.symm.trans ht);obtain⟨xs,m,_,ex,ct,hl,hel⟩:=DataW.trod_array avq hd;rw[ajB]at ct;obtain⟨v0,v1,v2,v3,v4,mZ⟩:=cs5 ct;obtain⟨x0,x1,x2,x3,x4,rfl⟩:=xs5 hl;rw[mZ,ajA]at hel;have e0:=hel 0 (by omega);have e1:=hel 1 (by omega);have e2:=hel 2 (by omega);have e3:=hel 3 (by omega);have e4:=hel 4 (by omega);simp only[ZcH,ZcV,ZcJ,Zck,List.take_zero,Bd,Ou,Zdm,Nat.reduceMul]at e0 e1 e2 e3 e4;have ex2:(DataW.agg [x0.1,x1.1,x2.1,x3.1,x4.1]:DataW (List UInt8))=.agg [.nil,.held [40,42,101,109,101,110,100,97,116,101,47,101,100,105,116,115,99,114,105,112,116,46,115,116,97,116,101,41,46,114,101,97,100],.held [40,42,101,109,101,110,100,97,116,101,47,101,100,105,116,115,99,114,105,112,116,46,115,116,97,116,101,41,46,114,101,109,111,118,101],.held [40,42,101,109,101,110,100,97,116,101,47,101,100,105,116,115,99,114,105,112,116,46,115,116,97,116,101,41,46,105,110,115,101,114,116],.held [40,42,101,109,101,110,100,97,116,101,47,101,100,105,116,115,99,114,105,112,116,46,115,116,97,116,101,41,46,115,119,97,112]]:=(congrArg Prod.fst ex).symm;simp only[DataW.agg.injEq,Gf,ZI]at ex2;obtain⟨k0,k1,k2,k3,k4⟩:=ex2;obtain⟨y0,q0⟩:=x0;obtain⟨y1,q1⟩:=x1;obtain⟨y2,q2⟩:=x2;obtain⟨y3,q3⟩:=x3;obtain⟨y4,q4⟩:=x4;dsimp only at k0 k1 k2 k3 k4;subst k0 k1 k2 k3 k4;obtain rfl:=HO uFn e0;obtain rfl:=func_of_trod (f0:=267) uFn (by kernel_rfl) e1;obtain rfl:=func_of_trod (f0:=268) uFn (by kernel_rfl) e2;obtain rfl:=func_of_trod (f0:=269) uFn (by kernel_rfl) e3;obtain rfl:=func_of_trod (f0:=270) uFn (by kernel_rfl) e4;have hc:cs= #[.nilFunc,.func (.func 267) #[] #[],.func (.func 268) #[] #[],.func (.func 269) #[] #[],.func (.func 270) #[] #[]]:=by
  apply ZdA.1;rw[mZ]
 subst hc;exact⟨World.var?_cell hg hv 0,World.var?_cell hg hv 1,World.var?_cell hg hv 2,World.var?_cell hg hv 3,World.var?_cell hg hv 4⟩
def arA:ak.globalNamed "emendate/chart.none" =some 0:=by kernel_rfl
def arB:(ak.globals[0]?).map (·.type)=some 151:=by kernel_rfl
def arC:ak.underlying 151=some (.struct #[⟨"Value",64,0,false, "", "",0⟩,⟨"Rule",3,2,false, "", "",16⟩,⟨"Arg",3,3,false, "", "",24⟩]):=by kernel_rfl
def avr:ak.underlying 64=some (.struct #[⟨"Cost",3,0,false, "", "",0⟩,⟨"Size",3,1,false, "", "",8⟩]):=by kernel_rfl
def aa9:ak.underlying 3=some (.int .i64):=by kernel_rfl
def ajC:ak.cellsOf 151=4:=by kernel_rfl
def ajD:ak.cellsOf 64=2:=by kernel_rfl
def ajE:ak.cellsOf 3=1:=by kernel_rfl
def cs4(h:cs.length=4):∃a b c d,cs=[a,b,c,d]:=by
 match cs,h with
 |[a,b,c,d],_=>exact⟨a,b,c,d,rfl⟩
def SQ(h:laidMetH ak HN W):W.cell? ⟨0,0,none⟩=some (.int .i64 1099511627776)/\W.cell? ⟨0,1,none⟩=some (.int .i64 0)/\W.cell? ⟨0,2,none⟩=some (.int .i64 (-1))/\W.cell? ⟨0,3,none⟩=some (.int .i64 0):=by
 have h:laidMet ak [("emendate/chart.none",Rows.laid_emendate_chart_none)] W:=h.1;obtain⟨ps,⟨g,t,cs,fuel,p,q,hg,ht,hv,hd,_,_⟩,_⟩:=h;obtain rfl:=TT (arA.symm.trans hg);obtain rfl:=TT (arB.symm.trans ht);obtain⟨y0,y1,y2,n,ex,hl,e0,e1,e2⟩:=trod_struct3 arC hd;rw[ajC]at hl;obtain⟨v0,v1,v2,v3,mZ⟩:=cs4 hl;rw[mZ]at e0 e1 e2;obtain⟨z0,z1,m,ey,BS,f0,f1⟩:=trod_struct2 avr e0;simp only[ajD,ajE,ZcJ,Zck,List.take_zero,Zdm]at e1 e2 f0 f1;obtain⟨i1,r1,rfl,_⟩:=DataW.trod_int aa9 e1;obtain⟨i2,r2,rfl,_⟩:=DataW.trod_int aa9 e2;obtain⟨i3,r3,rfl,_⟩:=DataW.trod_int aa9 f0;obtain⟨i4,r4,rfl,_⟩:=DataW.trod_int aa9 f1;subst ey;have ex:=(congrArg Prod.fst ex).symm;simp only[Gf,ZI,Gf]at ex r1 r2 r3 r4;obtain⟨⟨rfl,rfl⟩,rfl,rfl⟩:=ex;subst r1 r2 r3 r4;have hc:cs= #[.int .i64 1099511627776,.int .i64 0,.int .i64 (-1),.int .i64 0]:=by
  apply ZdA.1;rw[mZ]
 subst hc;exact⟨World.var?_cell hg hv 0,World.var?_cell hg hv 1,World.var?_cell hg hv 2,World.var?_cell hg hv 3⟩
def ajF(h:laidMetH ak HN W):BY W λ_=>False:=by
 obtain⟨h0,h1,h2,h3,h4⟩:=XJ h;obtain⟨k0,k1,k2,k3⟩:=SQ h;intro p hp;rcases jv.1 hp with rfl|hp
 .refine⟨(GX k0).1,λx=>x, ?_⟩;simp only[dY,be,ZI,Ow,Nat.reduceAdd];exact⟨⟨_,k0,rfl,rfl⟩,⟨_,k1,rfl,rfl⟩,⟨_,k2,rfl,rfl⟩,⟨_,k3,rfl,rfl⟩⟩
 .obtain rfl:p=_:=uy.1 hp;refine⟨(GX h0).1,λx=>x, ?_⟩;simp only[dY,be,ZI,Ow,Nat.reduceAdd];refine⟨⟨_,h0,rfl,rfl⟩,⟨_,h1,rfl, ?_⟩,⟨_,h2,rfl, ?_⟩,⟨_,h3,rfl, ?_⟩,⟨_,h4,rfl, ?_⟩⟩<;>exact⟨#[],rfl,by simp[dt]⟩
noncomputable def DI(os:Os):World:=
 {World.holding ak os ⟨#[], #[],[]⟩with heap:=(World.holding ak os ⟨#[], #[],[]⟩).heap.modify 0 fun
   |.cells _ t frozen=>.cells #[.int .i64 1099511627776,.int .i64 0,.int .i64 (-1),.int .i64 0] t frozen
   |o=>o}
noncomputable def zx(os:Os):World:=
 {DI os with heap:=(DI os).heap.modify 1 fun
   |.cells _ t frozen=>.cells #[.nilFunc,.func (.func 267) #[] #[],.func (.func 268) #[] #[],.func (.func 269) #[] #[],.func (.func 270) #[] #[]] t frozen
   |o=>o}
end
end Go.Proofs.YtbmaafemenldnaaGreatDoor
namespace Go.Proofs.It
open Go.DM
def auw:(ak.underlying 34).bind (λd=>match d with|.struct fs=>some (fs.toList.map (·.type))|_=>none)=some [3,32]:=by kernel_rfl
def ayO:ak.underlying 32=some (.slice 34):=by kernel_rfl
def aAl:ak.underlying 3=some (.int .i64):=by kernel_rfl
def aiF{t:TypeId}{l:List TypeId}(h:(ak.underlying t).bind (λd=>match d with|.struct fs=>some (fs.toList.map (·.type))|_=>none)=some l):∃fs:Array Field,ak.underlying t=some (.struct fs)/\fs.toList.map (·.type)=l:=by
 obtain⟨d,h1,h2⟩:=jE.1 h;cases d with
 |struct fs=>exact⟨fs,h1,by simpa using h2⟩
 |_=>simp at h2
def XY:∀l:List Tr,(∀k∈l,F4 k)->Oa l
 |[],_=>trivial
 |k::l,h=>⟨h k (Iu ..),XY l λq hq=>h q (Ib _ hq)⟩
def ayP:∀(n:Nat) (ts:aG),ko ak n 34 ts->∃d:Tr,ts=d.enc/\F4 d:=by
 intro n;induction n using Nat.strongRecOn with
 |_ n ih=>
  intro ts h;obtain⟨fs,hu,ZN⟩:=aiF auw;cases n with
  |zero=>exact h.elim
  |succ n=>
   unfold ko at h;rw[hu]at h;simp only[ZN,o7]at h;obtain⟨a,_,rfl,h1,b,_,rfl,h2,rfl⟩:=h;cases n with
   |zero=>exact h1.elim
   |succ n=>
    unfold ko at h1 h2;rw[aAl]at h1;rw[ayO]at h2;obtain⟨x,rfl,_⟩:=h1;obtain⟨aC,rfl,hl,hr⟩:=h2;obtain⟨l,rfl⟩:=aa3 (enc:=λq:{d:Tr//F4 d}=>q.1.enc) λr nl=>by obtain⟨d,e,k⟩:=ih n (by omega) r (hr r nl);exact⟨⟨d,k⟩,e⟩
    rw[SO,we]at hl;refine⟨.mk x (l.map (·.1)),by rw[Tr.enc,DL,Zc3];rfl, ?_⟩;unfold F4;refine⟨by rw[we];exact hl,XY _ λk hk=>?_⟩;obtain⟨q,_,rfl⟩:=sE.1 hk;exact q.2
def awA{n:Nat}{x:T}(h:p8 ak n 34 x):∃d:Tr,x=.agg d.enc/\F4 d:=by
 obtain⟨fs,hu,ZN⟩:=aiF auw;unfold p8 at h;rw[hu]at h;obtain⟨ts,rfl,h⟩:=h;obtain⟨d,rfl,k⟩:=ayP _ ts h;exact⟨d,rfl,k⟩
end Go.Proofs.It
