/- Part. Conditions: none. -/
import Derived.Test.YtbmaafemenldnaaGreatDoorYag
set_option linter.all false
set_option maxRecDepth 20000
set_option maxHeartbeats 40000000
namespace Go.Proofs
namespace aT
open Go.DM
section
variable{f:bS}{sp:Nat}
structure Nms where
 (rb rf rh q a hp m:Nat)
structure nD where
 az:List cX
 dM:List Bool
 u7:ba
 s:Qs
structure mW where
 n:ay
 l:aF
 c:bI
 (fr to:Int)
def JO(k:Nms)(z:mW):bW:=[.v (ti z.n.aX),.v (ti z.n.an),.v (ti z.n.start),.v (.sl (aQ z.n.aj)),.v (ti z.l.bf),.v (.sl (bq z.l.aK)),.v (.sl (au z.l.bj)),.v (ti z.c.an),.v (ti z.c.bf),.v (.sl (bl z.c.cells)),.v (ti z.fr),.v (ti z.to),.aW k.rb 0,.aW k.rf 0,.aW k.rh 0,.ptr k.q 0]
def X0(s:nD):Ob:=.bm 0 64 2 (cU s.az)
def YH(s:nD):Ob:=.bm 0 4 1 (gH s.dM)
def Ya(s:nD):Ob:=.bm 0 3 1 (au s.u7)
structure SV where
 k:Nms
 z:mW
 s:nD
structure SV.at(v:SV)(f:bS)(p:Nat):Prop where
 sp:f p=some (.box (JO v.k v.z))
 rb:f v.k.rb=some (X0 v.s)
 rf:f v.k.rf=some (YH v.s)
 rh:f v.k.rh=some (Ya v.s)
 q:f v.k.q=some (qB v.k.a v.k.hp v.k.m v.s.s)
 hp:f v.k.hp=some (hB v.s.s)
 m:f v.k.m=some (mB v.s.s)
 a:f v.k.a=some (.box [.ptr p 0])
@[simp] def acy{a b:List Bool}:gH a=gH b↔a=b:=⟨λh=>by
 unfold gH at h;exact List.map_inj_right (f:=λb:Bool=>[T.bool b]) (λx y h=>by simpa using h)|>.1 h,λh=>by rw[h]⟩
def SV.XG{v w:SV}(h:v.at f sp)(k:w.at f sp):v=w:=by
 obtain⟨⟨rb,rf,rh,q,a,hp,m⟩,⟨⟨nt,nn,ns,aj⟩,⟨ls,aK,dM⟩,⟨cn,cs,cl⟩,fr,to⟩,⟨az,fn,u7,⟨heap,bG,es,mc,next,xo⟩⟩⟩:=v;obtain⟨⟨rb',rf',rh',q',a',hp',m'⟩,⟨⟨nt',nn',ns',aAo⟩,⟨ls',aAJ,aAM⟩,⟨cn',yJ,cl'⟩,fr',to'⟩,⟨ayQ,fn',aAN,⟨av0,bM,nW,mc',ayR,awD⟩⟩⟩:=w;obtain⟨h1,h2,h3,h4,h5,h6,h7,h8⟩:=h;obtain⟨k1,k2,k3,k4,k5,k6,k7,k8⟩:=k;simp only[JO]at h1 k1;rw[h1]at k1;simp only[cq,Ob.box.injEq,Gf,DV.v.injEq,T.int.injEq,T.sl.injEq,MY,akJ,FD,agM,DV.aW.injEq,DV.ptr.injEq,ZI,Em]at k1;obtain⟨rfl,rfl,rfl,rfl,rfl,rfl,rfl,rfl,rfl,rfl,rfl,rfl,rfl,rfl,rfl,rfl⟩:=k1;simp only[X0,YH,Ya]at h2 h3 h4 k2 k3 k4;rw[h2]at k2;rw[h3]at k3;rw[h4]at k4;simp only[cq,Ob.bm.injEq,zd,acy,FD,Em]at k2 k3 k4;subst k2 k3 k4;simp only[qB]at h5 k5;rw[h5]at k5;simp only[cq,Ob.box.injEq,Gf,DV.AI.injEq,DV.ptr.injEq,DV.aW.injEq,DV.fH.injEq,DV.v.injEq,T.int.injEq,Em,ZI]at k5;obtain⟨rfl,⟨rfl,rfl⟩,rfl,rfl,rfl⟩:=k5;simp only[hB]at h6 k6;rw[h6]at k6;simp only[cq,Ob.bm.injEq,Yb,Em]at k6;simp only[mB]at h7 k7;rw[h7]at k7;simp only[cq,Ob.map.injEq,adN,Em]at k7;obtain⟨rfl,rfl⟩:=k7;subst k6;rfl
open Classical in
noncomputable def fu(f:bS)(sp:Nat):SV:=if h:∃v:SV,v.at f sp then Classical.choose h else⟨⟨0,0,0,0,0,0,0⟩,⟨⟨0,0,0,[]⟩,⟨0,[],[]⟩,⟨0,0,[]⟩,0,0⟩,⟨[],[],[],⟨[],0,[],0,0,0⟩⟩⟩
def OG{v:SV}(h:v.at f sp):fu f sp=v:=by
 have hx:∃v:SV,v.at f sp:=⟨v,h⟩;unfold fu;rw[ZdH hx];exact SV.XG (Classical.choose_spec hx) h
def SV.qv(v:SV)(sp:Nat):QV:=⟨v.k.a,v.k.hp,v.k.m,⟨sp,v.k.rb,JO v.k v.z,v.s.az⟩,v.s.s⟩
def SV.at.qv{v:SV}(h:v.at f sp):(v.qv sp).at f v.k.q:=⟨h.q,h.hp,h.m,⟨h.a,h.sp,rfl,h.rb⟩⟩
abbrev SV.to(v:SV)(s:nD):SV:=⟨v.k,v.z,s⟩
def ig(f:bS)(v:SV)(s:nD):bS:=dA [(v.k.rb,X0 s),(v.k.rf,YH s),(v.k.rh,Ya s),(v.k.q,qB v.k.a v.k.hp v.k.m s.s),(v.k.hp,hB s.s),(v.k.m,mB s.s)] f
structure SV.Ne(v:SV)(sp:Nat):Prop where
 PX:sp≠v.k.rb
 PY:sp≠v.k.rf
 PZ:sp≠v.k.rh
 YI:sp≠v.k.q
 Lq:sp≠v.k.hp
 YJ:sp≠v.k.m
 acz:sp≠v.k.a
 QZ:v.k.rb≠sp
 Q0:v.k.rb≠v.k.rf
 Q3:v.k.rb≠v.k.rh
 acA:v.k.rb≠v.k.q
 Q4:v.k.rb≠v.k.hp
 acB:v.k.rb≠v.k.m
 acC:v.k.rb≠v.k.a
 R3:v.k.rf≠sp
 P3:v.k.rf≠v.k.rb
 SM:v.k.rf≠v.k.rh
 acD:v.k.rf≠v.k.q
 SN:v.k.rf≠v.k.hp
 acE:v.k.rf≠v.k.m
 acF:v.k.rf≠v.k.a
 SP:v.k.rh≠sp
 P7:v.k.rh≠v.k.rb
 P8:v.k.rh≠v.k.rf
 acG:v.k.rh≠v.k.q
 SZ:v.k.rh≠v.k.hp
 acH:v.k.rh≠v.k.m
 acI:v.k.rh≠v.k.a
 acJ:v.k.q≠sp
 YK:v.k.q≠v.k.rb
 YL:v.k.q≠v.k.rf
 YM:v.k.q≠v.k.rh
 ZE:v.k.q≠v.k.hp
 nqm:v.k.q≠v.k.m
 nqa:v.k.q≠v.k.a
 S0:v.k.hp≠sp
 MP:v.k.hp≠v.k.rb
 Nn:v.k.hp≠v.k.rf
 Ns:v.k.hp≠v.k.rh
 aaL:v.k.hp≠v.k.q
 aa1:v.k.hp≠v.k.m
 acK:v.k.hp≠v.k.a
 acL:v.k.m≠sp
 YN:v.k.m≠v.k.rb
 YO:v.k.m≠v.k.rf
 YP:v.k.m≠v.k.rh
 nmq:v.k.m≠v.k.q
 aa2:v.k.m≠v.k.hp
 nma:v.k.m≠v.k.a
 acM:v.k.a≠sp
 aa4:v.k.a≠v.k.rb
 aa5:v.k.a≠v.k.rf
 aa6:v.k.a≠v.k.rh
 naq:v.k.a≠v.k.q
 aa7:v.k.a≠v.k.hp
 nam:v.k.a≠v.k.m
def SV.at.ne{v:SV}(h:v.at f sp):v.Ne sp:=by
 obtain⟨Kv,T4,Qf,Oc,hq,Nw,hm,ha⟩:=h;simp only[JO,X0,YH,Ya,qB,hB,mB]at Kv T4 Qf Oc hq Nw hm;exact⟨λe=>by rw[e,T4]at Kv;simp at Kv,
  λe=>by rw[e,Qf]at Kv;simp at Kv,
  λe=>by rw[e,Oc]at Kv;simp at Kv,
  λe=>by rw[e,hq]at Kv;simp at Kv,
  λe=>by rw[e,Nw]at Kv;simp at Kv,
  λe=>by rw[e,hm]at Kv;simp at Kv,
  λe=>by rw[e,ha]at Kv;simp at Kv,
  λe=>by rw[e,Kv]at T4;simp at T4,
  λe=>by rw[e,Qf]at T4;simp at T4,
  λe=>by rw[e,Oc]at T4;simp at T4,
  λe=>by rw[e,hq]at T4;simp at T4,
  λe=>by rw[e,Nw]at T4;simp at T4,
  λe=>by rw[e,hm]at T4;simp at T4,
  λe=>by rw[e,ha]at T4;simp at T4,
  λe=>by rw[e,Kv]at Qf;simp at Qf,
  λe=>by rw[e,T4]at Qf;simp at Qf,
  λe=>by rw[e,Oc]at Qf;simp at Qf,
  λe=>by rw[e,hq]at Qf;simp at Qf,
  λe=>by rw[e,Nw]at Qf;simp at Qf,
  λe=>by rw[e,hm]at Qf;simp at Qf,
  λe=>by rw[e,ha]at Qf;simp at Qf,
  λe=>by rw[e,Kv]at Oc;simp at Oc,
  λe=>by rw[e,T4]at Oc;simp at Oc,
  λe=>by rw[e,Qf]at Oc;simp at Oc,
  λe=>by rw[e,hq]at Oc;simp at Oc,
  λe=>by rw[e,Nw]at Oc;simp at Oc,
  λe=>by rw[e,hm]at Oc;simp at Oc,
  λe=>by rw[e,ha]at Oc;simp at Oc,
  λe=>by rw[e,Kv]at hq;simp at hq,
  λe=>by rw[e,T4]at hq;simp at hq,
  λe=>by rw[e,Qf]at hq;simp at hq,
  λe=>by rw[e,Oc]at hq;simp at hq,
  λe=>by rw[e,Nw]at hq;simp at hq,
  λe=>by rw[e,hm]at hq;simp at hq,
  λe=>by rw[e,ha]at hq;simp at hq,
  λe=>by rw[e,Kv]at Nw;simp at Nw,
  λe=>by rw[e,T4]at Nw;simp at Nw,
  λe=>by rw[e,Qf]at Nw;simp at Nw,
  λe=>by rw[e,Oc]at Nw;simp at Nw,
  λe=>by rw[e,hq]at Nw;simp at Nw,
  λe=>by rw[e,hm]at Nw;simp at Nw,
  λe=>by rw[e,ha]at Nw;simp at Nw,
  λe=>by rw[e,Kv]at hm;simp at hm,
  λe=>by rw[e,T4]at hm;simp at hm,
  λe=>by rw[e,Qf]at hm;simp at hm,
  λe=>by rw[e,Oc]at hm;simp at hm,
  λe=>by rw[e,hq]at hm;simp at hm,
  λe=>by rw[e,Nw]at hm;simp at hm,
  λe=>by rw[e,ha]at hm;simp at hm,
  λe=>by rw[e,Kv]at ha;simp at ha,
  λe=>by rw[e,T4]at ha;simp at ha,
  λe=>by rw[e,Qf]at ha;simp at ha,
  λe=>by rw[e,Oc]at ha;simp at ha,
  λe=>by rw[e,hq]at ha;simp at ha,
  λe=>by rw[e,Nw]at ha;simp at ha,
  λe=>by rw[e,hm]at ha;simp at ha⟩
def H2{v:SV}(h:v.at f sp)(s:nD):(v.to s).at (ig f v s) sp:=by
 obtain⟨PX,PY,PZ,YI,Lq,YJ,acz,QZ,Q0,Q3,acA,Q4,acB,acC,R3,P3,SM,acD,SN,acE,acF,SP,P7,P8,acG,SZ,acH,acI,acJ,YK,YL,YM,ZE,nqm,nqa,S0,MP,Nn,Ns,aaL,aa1,acK,acL,YN,YO,YP,nmq,aa2,nma,acM,aa4,aa5,aa6,naq,aa7,nam⟩:=h.ne;refine⟨?_, ?_, ?_, ?_, ?_, ?_, ?_, ?_⟩
 .simp[ig,PX,PY,PZ,YI,Lq,YJ,h.sp]
 .simp[ig]
 .simp[ig,P3]
 .simp[ig,P7,P8]
 .simp[ig,YK,YL,YM]
 .simp[ig,MP,Nn,Ns,aaL]
 .simp[ig,YN,YO,YP,nmq,aa2]
 .simp[ig,aa4,aa5,aa6,naq,aa7,nam,h.a]
def aiG(f:bS)(v:SV)(s s':nD):ig (ig f v s) (v.to s) s'=ig f v s':=by
 funext k;simp only[ig,y9,amx];by_cases h1:k=v.k.rb<;>by_cases h2:k=v.k.rf<;>by_cases h3:k=v.k.rh<;>by_cases h4:k=v.k.q<;>by_cases h5:k=v.k.hp<;>by_cases h6:k=v.k.m<;>simp[h1,h2,h3,h4,h5,h6]
def BB{v:SV}{r:Nat}(h:v.at f sp)(s:nD)(hr:f r=none):ig f v s r=none:=by
 have e1:r≠v.k.rb:=λe=>by rw[e,h.rb]at hr;cases hr
 have e2:r≠v.k.rf:=λe=>by rw[e,h.rf]at hr;cases hr
 have e3:r≠v.k.rh:=λe=>by rw[e,h.rh]at hr;cases hr
 have e4:r≠v.k.q:=λe=>by rw[e,h.q]at hr;cases hr
 have e5:r≠v.k.hp:=λe=>by rw[e,h.hp]at hr;cases hr
 have e6:r≠v.k.m:=λe=>by rw[e,h.m]at hr;cases hr
 simp[ig,e1,e2,e3,e4,e5,e6,hr]
def nG{v:SV}(h:v.at f sp):ig f v v.s=f:=by
 funext k;simp only[ig,y9,amx];split
 .rename_i e;rw[e];exact h.rb.symm
 .split
  .rename_i e;rw[e];exact h.rf.symm
  .split
   .rename_i e;rw[e];exact h.rh.symm
   .split
    .rename_i e;rw[e];exact h.q.symm
    .split
     .rename_i e;rw[e];exact h.hp.symm
     .split
      .rename_i e;rw[e];exact h.m.symm
      .rfl
def ayS{f0:bS}{N aP bn:Nat}{tm:dW}{l:pe}{L:fS}{v:SV}(s:nD)(c9:qX f0 N)(hv:v.at f0 sp)(hn:N<=bn)
  (hL:∀p∈L,p.1=v.k.rb\/p.1=v.k.rf\/p.1=v.k.rh\/p.1=v.k.q\/p.1=v.k.hp\/p.1=v.k.m\/N<=p.1) (hF:∀r,r<N->dA L f0 r=ig f0 v s r)
  (nJ:oM (dA L f0) (ig f0 v s) id tm l):
  Le ⟨tm,dA L f0,aP,N,[]⟩ ⟨DM.look l,ig f0 v s,bn,N,[]⟩:=by
 have mX:∀{r o},f0 r=some o->r<N:=λh=>(c9 _ _ h).1;have hP:=H2 hv s;obtain⟨PX,PY,PZ,YI,Lq,YJ,acz,QZ,Q0,Q3,acA,Q4,acB,acC,R3,P3,SM,acD,SN,acE,acF,SP,P7,P8,acG,SZ,acH,acI,acJ,YK,YL,YM,ZE,nqm,nqa,S0,MP,Nn,Ns,aaL,aa1,acK,acL,YN,YO,YP,nmq,aa2,nma,acM,aa4,aa5,aa6,naq,aa7,nam⟩:=hv.ne;refine Le.iy c9 hn ?_ ?_ ?_ nJ
 .have:=mX hv.rb;have:=mX hv.rf;have:=mX hv.rh;have:=mX hv.q;have:=mX hv.hp;have:=mX hv.m;simp;omega
 .have:∀(L:fS),(∀p∈L,p.1=v.k.rb\/p.1=v.k.rf\/p.1=v.k.rh\/p.1=v.k.q\/p.1=v.k.hp\/p.1=v.k.m\/N<=p.1)->cY N [(v.k.rb,X0 s),(v.k.rf,YH s),(v.k.rh,Ya s),(v.k.q,qB v.k.a v.k.hp v.k.m s.s),(v.k.hp,hB s.s),(v.k.m,mB s.s)] L:=by
   intro L;induction L with
   |nil=>intro _;trivial
   |cons p L ih=>
    intro h;refine⟨λhq=>?_,ih λp hp=>h p (by simp[hp])⟩;rcases h p (by simp)with h|h|h|h|h|h|h
    .exact⟨_,by rw[h];exact .head _⟩
    .exact⟨_,by rw[h];exact .tail _ (.head _)⟩
    .exact⟨_,by rw[h];exact .tail _ (.tail _ (.head _))⟩
    .exact⟨_,by rw[h];exact .tail _ (.tail _ (.tail _ (.head _)))⟩
    .exact⟨_,by rw[h];exact .tail _ (.tail _ (.tail _ (.tail _ (.head _))))⟩
    .exact⟨_,by rw[h];exact .tail _ (.tail _ (.tail _ (.tail _ (.tail _ (.head _)))))⟩
    .omega
  exact this _ hL
 .have g:∀{r o o'},f0 r=some o'->ig f0 v s r=some o->dA L f0 r=some o:=λh1 h2=>(hF _ (mX h1)).trans h2;refine⟨⟨_,g hv.rb hP.rb,.inr ⟨rfl,λk hk=>by simp[jy,X0]at hk⟩,λ_=>ej _⟩,⟨_,g hv.rf hP.rf,.inr ⟨rfl,λk hk=>by simp[jy,YH]at hk⟩,λ_=>ej _⟩,⟨_,g hv.rh hP.rh,.inr ⟨rfl,λk hk=>by simp[jy,Ya]at hk⟩,λ_=>ej _⟩,
   ⟨_,g hv.q hP.q,.inr ⟨rfl,λk hk=>?_⟩,λ_=>ej _⟩,⟨_,g hv.hp hP.hp,.inr ⟨rfl,λk hk=>by simp[jy,hB]at hk⟩,λ_=>ej _⟩,⟨_,g hv.m hP.m,.inr ⟨rfl,λk hk=>?_⟩,λ_=>ej _⟩,trivial⟩
  .simp only[qB,jy,da,br,Ej,lF,jv,qg,AZ]at hk;rcases hk with rfl|rfl|rfl
   .exact⟨_,_,g hv.a hP.a,hP.a,ej _⟩
   .exact⟨_,_,g hv.hp hP.hp,hP.hp,ej _⟩
   .exact⟨_,_,g hv.m hP.m,hP.m,ej _⟩
  .exfalso;simp only[mB,jy,ZT,N7,sE]at hk;obtain⟨e,⟨e',_,rfl⟩,hk⟩:=hk;simp[br]at hk
end
abbrev s37:DM.Spec:=bp (λts=>∃cn cs cl h f t,ts=[.agg [ti cn,ti cs,.sl (bl cl)],.agg [ti h,ti f,ti t]]/\KG ⟨cn,cs,cl⟩) (fun|[c,.agg [.int _ h,.int _ f,.int _ t]]=>.agg [ti (gp (ZA c) h f t).aA,ti (gp (ZA c) h f t).size,ti (gp (ZA c) h f t).wQ,ti (gp (ZA c) h f t).arg]|_=>.bool false) true
def ajI{l:List (Nat×DM.Spec)}(h:aw ak (bz l)):aw ak (bz ((130,s37)::l)):=by
 refine aw.cons h ?_;rintro ts ⟨cn,cs,cl,h,f,t,rfl,h1⟩;exact⟨by simpa [bI.enc,Cell.enc]using t37 ⟨cn,cs,cl⟩ h f t h1,λ_=>rfl⟩
def tq(z:mW)(az:List cX)(h f t:Int):cX:=if f=z.fr/\t=z.to then bv az h else(gp z.c h f t).val
def t83{f0:bS}{p N:Nat}{h f t:Int}{v:SV}(hN:∀r,N<=r->f0 r=none)(hv:v.at f0 p)(hc:KG v.z.c)(hh:f=v.z.fr/\t=v.z.to->0<=h/\h<v.s.az.length):
  ce ak 179 [.ptr p 0,.v (ti h),.v (ti f),.v (ti t)] f0 ⟨True,.v (.agg [ti (tq v.z v.s.az h f t).aA,ti (tq v.z v.s.az h f t).size]),f0⟩:=by
 obtain⟨R,hR⟩:=aY (tq v.z v.s.az h f t);rw[hR];unfold tq at hR;have bb:=ajI aw.nil;refine c83.Ie hN (by simp) λc9=>?_;have h1:=hv.sp;have h2:=hv.rb;have K4:p<N:=(c9 p _ h1).1;have zV:v.k.rb<N:=(c9 v.k.rb _ h2).1;simp only[JO,X0]at h1 h2;obtain⟨⟨cn,cs,cl⟩,hz⟩:=aY v.z.c;rw[hz]at h1 hc hR;simp only at h1;have np:∀k,p≠N+k:=λk=>by omega
 have nb:∀k,v.k.rb≠N+k:=λk=>by omega
 simp;apply aa.ai bb fw [0,1,2,3,8];simp[axp];apply aa.seq;obtain⟨c1,bN⟩:=aY (decide (f=v.z.fr/\t=v.z.to):Bool);refine aa.bL bb fw [(0,.ptr p 0),(1,.v (ti h)),(2,.v (ti f)),(3,.v (ti t)),(8,.ptr (N+8+1) 0),(22,.v (.bool c1))] ?_ ?_
 .by_cases q1:f=v.z.fr
  .by_cases q2:t=v.z.to
   .have:c1=true:=by rw[<-bN];simp[q1,q2]
    simp[ah1,h1,np,pn,q1,q2,this]
   .have:c1=false:=by rw[<-bN];simp[q2]
    simp[ah1,h1,np,pn,q1,q2,this]
  .have:c1=false:=by rw[<-bN];simp[q1]
   simp[ah1,h1,np,pn,q1,this]
 refine aa.cond rfl (λg=>?_) (λg=>?_)
 .have g:c1=true:=by simpa using g
  rw[g]at bN;have q:=BN bN;rw[ee q]at hR;obtain⟨x0,x1⟩:=hh q;obtain⟨x,rfl⟩:=bX x0;have hx:x<v.s.az.length:=by omega
  have rr:=jU hx;have hb:v.s.az.getD x default=R:=by rw[<-hR];simp[bv]
  rw[hb]at rr;apply aa.ai bb fw [8];simp[axq,h1,h2,np,nb,pn,hx,rr];refine aa.le (ayS (v:=v) v.s (l:=[(8,.v (.box [ti R.aA,ti R.size]))]) (bn:=N+1000) c9 hv (by omega) ?_ ?_ ?_) ?_
  .simp
  .intro r hr;rw[nG hv];have:∀k,r≠N+k:=λk=>by omega
   simp[this,pn]
  .simp;rw[nG hv];exact j8 (l:=[]) c9 (by omega) (by simp)
  rw[nG hv];apply aa.ret;simp[acq]
 .have g:c1=false:=by simpa using g
  rw[g]at bN;have q:=uF bN;rw[iK q]at hR;obtain⟨⟨a1,a2,a3,a4⟩,ha⟩:=aY (gp ⟨cn,cs,cl⟩ h f t);rw[ha]at hR;subst hR;apply aa.skip;simp;apply aa.ai bb fw [8];simp[axr,h1,np,pn,XW,hc,ha];refine aa.le (ayS (v:=v) v.s (l:=[(8,.v (.box [ti a1,ti a2]))]) (bn:=N+1000) c9 hv (by omega) ?_ ?_ ?_) ?_
  .simp
  .intro r hr;rw[nG hv];have:∀k,r≠N+k:=λk=>by omega
   simp[this,pn]
  .simp;rw[nG hv];exact j8 (l:=[]) c9 (by omega) (by simp)
  rw[nG hv];apply aa.ret;simp[acq]
noncomputable def k83:bW->bS->iw
 |[.ptr p 0,.v (.int .i64 h),.v (.int .i64 g),.v (.int .i64 t)],f=>⟨(∃v:SV,v.at f p)/\KG (fu f p).z.c/\(g=(fu f p).z.fr/\t=(fu f p).z.to->0<=h/\h<(fu f p).s.az.length),.v (.agg [ti (tq (fu f p).z (fu f p).s.az h g t).aA,ti (tq (fu f p).z (fu f p).s.az h g t).size]),f⟩
 |_,f=>⟨False,.undef,f⟩
def awE{v:SV}{f:bS}{p:Nat}{h g t:Int}(hv:v.at f p):k83 [.ptr p 0,.v (ti h),.v (ti g),.v (ti t)] f=⟨KG v.z.c/\(g=v.z.fr/\t=v.z.to->0<=h/\h<v.s.az.length),.v (.agg [ti (tq v.z v.s.az h g t).aA,ti (tq v.z v.s.az h g t).size]),f⟩:=by
 have hx:∃v:SV,v.at f p:=⟨v,hv⟩;simp only[k83,OG hv,hx,Em]
def awF:∀args ab,(k83 args ab).ok->(∀N,(∀r,N<=r->ab r=none)->ce ak 179 args ab (k83 args ab))/\∀r,ab r=none->(k83 args ab).ab r=none:=by
 intro args ab h;unfold k83 at h⊢;split at h
 .rename_i p h' g t;obtain⟨⟨v,hv⟩,hc,hh⟩:=h;rw[OG hv]at hc hh⊢;exact⟨λN hN=>ce.of (t83 hN hv hc hh) rfl rfl,λr hr=>hr⟩
 .exact h.elim
def ayT{l:List (Nat×DM.Spec)}(h:aw ak (bz l)):aw ak (bz ((179,fl k83)::l)):=aw.il h awF
abbrev It:=Int×Int×Int
def itT(x:It):aG:=[ti x.1,ti x.2.1,ti x.2.2]
def awj(l:List It):List (aG):=l.map itT
@[simp] def S4(l:List It):(awj l).length=l.length:=by simp[awj]
def Od{l:List It}{y:Nat}(h:y<l.length):DM.rowAt (awj l) y=itT (l.getD y default):=by simp[DM.rowAt,awj,h]
def wR(z:mW)(x:It):Prop:=x.2.1=z.fr/\x.2.2=z.to
instance(z:mW)(x:It):Decidable (wR z x):=by unfold wR;infer_instance
def ats(z:mW)(l:List It):Bool:=l.any λx=>decide (wR z x)
def FW{f0:bS}{N aP bn:Nat}{tm:dW}{l:pe}{L:fS}(c9:qX f0 N)(hn:N<=bn)(hL:∀p∈L,N<=p.1)(nJ:oM (dA L f0) (dA [] f0) id tm l):
  Le ⟨tm,dA L f0,aP,N,[]⟩ ⟨DM.look l,dA [] f0,bn,N,[]⟩:=by
 refine Le.iy (l1:=[]) c9 hn (by simp) ?_ (by simp[kp]) nJ;clear nJ;induction L with
 |nil=>trivial
 |cons q L ih=>
  refine⟨λhq=>?_,ih λp hp=>hL p (by simp[hp])⟩;have:=hL q (by simp);omega
def t59{f0:bS}{p N:Nat}{l:List It}{v:SV}(hN:∀r,N<=r->f0 r=none)(hv:v.at f0 p)(hl:l.length<=1000):
  ce ak 136 [.ptr p 0,.v (.sl (awj l))] f0 ⟨True,.v (.bool (ats v.z l)),f0⟩:=by
 obtain⟨R,hR⟩:=aY (ats v.z l);rw[hR];have bb:=J2;refine c59.Ie hN (by simp) λc9=>?_;have h1:=hv.sp;have K4:p<N:=(c9 p _ h1).1;simp only[JO]at h1;have np:∀k,p≠N+k:=λk=>by omega
 simp;apply aa.ai bb fw [0,1];simp[ati];apply aa.sq bb fw [0,7,8,9];simp[atu];apply aa.block;refine aa.loop (λi:Nat=>⟨DM.look [(0,.ptr p 0),(7,.v (.sl (awj l))),(8,.v (ti l.length)),(9,.v (ti i))],dA [] f0,N+1000,N,[]⟩)
  (λi=>i<=l.length/\ats v.z (l.take i)=false) (λi=>l.length-i) 0 (FW c9 (by omega) (by simp) ?_) (by simp[ats]) (λi hi=>?_)
 .simp[h1]
 obtain⟨hi,hw⟩:=hi;apply aa.ai bb fw [0,7,8,9,10];simp[atD];apply aa.seq;refine aa.cond rfl (λg=>?_) (λg=>?_)
 .have g:i<l.length:=by simpa using g
  have rr:=Od g;obtain⟨⟨xh,xf,xt⟩,hx⟩:=aY (l.getD i default);rw[hx]at rr;simp only[itT]at rr;have yg:ats v.z (l.take (i+1))=decide (wR v.z (xh,xf,xt)):=by
   rw[dH g,hx];unfold ats at hw⊢;rw[List.any_append,hw];simp
  apply aa.skip;simp;apply aa.seq;apply aa.block;apply aa.ai bb fw [0,6,7,8,9];simp[axs,rr,g];refine aa.le (FW (l:=[(0,.ptr p 0),(6,.v (.box [ti xh,ti xf,ti xt])),(7,.v (.sl (awj l))),(8,.v (ti l.length)),(9,.v (ti i))]) (bn:=N+2000) c9 (by omega) (by simp;omega) ?_) ?_
  .simp[pn,h1];exact j8 (l:=[]) c9 (by omega) (by simp)
  obtain⟨c1,bN⟩:=aY (decide (wR v.z (xh,xf,xt)):Bool);refine aa.bL bb fw [(0,.ptr p 0),(7,.v (.sl (awj l))),(8,.v (ti l.length)),(9,.v (ti i)),(28,.v (.bool c1))] ?_ ?_
  .by_cases q1:xf=v.z.fr
   .by_cases q2:xt=v.z.to
    .have:c1=true:=by rw[<-bN];simp[wR,q1,q2]
     simp[ah2,h1,q1,q2,this]
    .have:c1=false:=by rw[<-bN];simp[wR,q2]
     simp[ah2,h1,q1,q2,this]
   .have:c1=false:=by rw[<-bN];simp[wR,q1]
    simp[ah2,h1,q1,this]
  refine aa.cond rfl (λg2=>?_) (λg2=>?_)
  .have g2:c1=true:=by simpa using g2
   subst g2;have:R=true:=by
    rw[<-hR];unfold ats;rw[ZcR];exact⟨(xh,xf,xt),hx▸bu g,by simpa using bN⟩
   subst this;apply aa.ai bb fw [4];simp[axt];apply aa.ret;simp[dI];rfl
  .have g2:c1=false:=by simpa using g2
   subst g2;apply aa.skip;simp;apply aa.cZ bb fw [0,7,8,9];simp[axu];rw[av (by omega)];refine⟨i+1,FW c9 (by omega) (by simp) ?_,⟨by omega,by rw[yg,bN]⟩,by omega⟩;simp[h1]
 .have g:¬i<l.length:=by simpa using g
  have:R=false:=by
   rw[<-hR,<-hw,Lz (by omega)]
  subst this;apply aa.exit;simp;apply aa.ai bb fw [4];simp[atE];apply aa.ret;simp[dI];rfl
def av5:aG->It
 |[a,b,c]=>(dg a,dg b,dg c)
 |_=>(0,0,0)
def ajJ(l:List (aG)):List It:=l.map av5
@[simp] def Kz(l:List It):ajJ (awj l)=l:=ja (λx=>by simp[av5,itT,dg]) l
@[simp] def ayU:awj []=[]:=rfl
def aAp{f0:bS}{p N:Nat}{v:SV}(hN:∀r,N<=r->f0 r=none)(hv:v.at f0 p):
  ce ak 136 [.ptr p 0,.aZ] f0 ⟨True,.v (.bool false),f0⟩:=by
 have bb:=J2;refine c59.Ie hN (by simp) λc9=>?_;have h1:=hv.sp;simp only[JO]at h1;simp;apply aa.ai bb fw [0,1];simp[ati];apply aa.sq bb fw [8,9];simp[atu];apply aa.block;refine aa.loop (λi:Nat=>⟨DM.look [(8,.v (ti 0)),(9,.v (ti 0))],dA [] f0,N+1000,N,[]⟩)
  (λi=>True) (λi=>0) 0 (FW c9 (by omega) (by simp) ?_) trivial (λi hi=>?_)
 .simp
 apply aa.ai bb fw [10];simp[atD];apply aa.seq;refine aa.cond rfl (λg=>by cases g) (λg=>?_);apply aa.exit;simp;apply aa.ai bb fw [4];simp[atE];apply aa.ret;simp[dI];rfl
noncomputable def k59:bW->bS->iw
 |[.ptr p 0,.v (.sl aC)],f=>⟨(∃v:SV,v.at f p)/\aC=awj (ajJ aC)/\aC.length<=1000,.v (.bool (ats (fu f p).z (ajJ aC))),f⟩
 |[.ptr p 0,.aZ],f=>⟨∃v:SV,v.at f p,.v (.bool false),f⟩
 |_,f=>⟨False,.undef,f⟩
def awG{v:SV}{f:bS}{p:Nat}{l:List It}(hv:v.at f p):k59 [.ptr p 0,.v (.sl (awj l))] f=⟨l.length<=1000,.v (.bool (ats v.z l)),f⟩:=by
 have hx:∃v:SV,v.at f p:=⟨v,hv⟩;simp only[k59,OG hv,hx,Em,Kz,S4]
def an4{v:SV}{f:bS}{p:Nat}(hv:v.at f p):k59 [.ptr p 0,.aZ] f=⟨True,.v (.bool false),f⟩:=by
 have hx:∃v:SV,v.at f p:=⟨v,hv⟩;simp only[k59,hx]
def awH:∀args ab,(k59 args ab).ok->(∀N,(∀r,N<=r->ab r=none)->ce ak 136 args ab (k59 args ab))/\∀r,ab r=none->(k59 args ab).ab r=none:=by
 intro args ab h;unfold k59 at h⊢;split at h
 .rename_i p aC;obtain⟨⟨v,hv⟩,hr,hl⟩:=h;obtain⟨l,hll⟩:=aY (ajJ aC);rw[hll]at hr⊢;subst hr;rw[OG hv];exact⟨λN hN=>ce.of (t59 hN hv (by simpa using hl)) rfl rfl,λr hr=>hr⟩
 .rename_i p;obtain⟨v,hv⟩:=h;exact⟨λN hN=>ce.of (aAp hN hv) rfl rfl,λr hr=>hr⟩
 .exact h.elim
def awI{l:List (Nat×DM.Spec)}(h:aw ak (bz l)):aw ak (bz ((136,fl k59)::l)):=aw.il h awH
abbrev s84:DM.Spec:=bp (λts=>∃c l,ts=[ti c,.sl (cU l)]/\(∀v∈l,mG v)/\0<=c/\c<=4000000000000/\l.length<=1000000) (fun|[.int _ c,.sl l]=>.agg [ti (gv c (yq l)).aA,ti (gv c (yq l)).size]|_=>.bool false) true
def avz{l:List (Nat×DM.Spec)}(h:aw ak (bz l)):aw ak (bz ((73,s84)::l)):=by
 refine aw.cons h ?_;rintro ts ⟨c,l,rfl,h1,h2,h3,h4⟩;exact⟨by simpa using t84 c l h1 h2 h3 h4,λ_=>rfl⟩
def uq(z:mW)(az:List cX)(bi:Int)(l:List It):cX:=gv bi (l.map λx=>tq z az x.1 x.2.1 x.2.2)
def aiH(z:mW)(az:List cX)(l:List It):Prop:=∀x∈l,x.2.1=z.fr/\x.2.2=z.to->0<=x.1/\x.1<az.length
def YQ{z:mW}{az:List cX}(hc:JT z.c)(hb:∀v∈az,mG v)(h f t:Int):mG (tq z az h f t):=by
 unfold tq;split
 .unfold bv;rw[List.getD];cases e:az[h.toNat]? with
  |none=>simp[mG,default];decide
  |some x=>exact hb x (Hf e)
 .exact MZ hc h f t
section
variable{az:List cX}
def Te{a b c:JG}(h:¬KY az b a)(k:¬KY az c b):¬KY az c a:=by
 unfold KY at*
 generalize bv az a.x=u at*
 generalize bv az b.x=v at*
 generalize bv az c.x=w at*
 obtain⟨u1,u2⟩:=u;obtain⟨v1,v2⟩:=v;obtain⟨w1,w2⟩:=w;simp only[cX.lt]at*
 omega
def YS(a:JG):¬KY az a a:=by
 unfold KY;generalize bv az a.x=u;obtain⟨u1,u2⟩:=u;simp only[cX.lt];omega
def S7{a b:JG}(h:KY az a b):¬KY az b a:=by
 unfold KY at*
 generalize bv az a.x=u at*
 generalize bv az b.x=v at*
 obtain⟨u1,u2⟩:=u;obtain⟨v1,v2⟩:=v;simp only[cX.lt]at*
 omega
def KA(az:List cX)(s:Qs):Prop:=∀i:Nat,0<i->i<s.heap.length->¬KY az (s.e i) (s.e ((i-1)/2:Nat))
def acT{s:Qs}(h:KA az s):∀i:Nat,i<s.heap.length->¬KY az (s.e i) (s.e (0:Nat)):=by
 intro i;induction i using Nat.strongRecOn with
 |_ i ih=>
  intro hi;by_cases hz:i=0
  .subst hz;exact YS _
  .exact Te (ih ((i-1)/2) (by omega) (by omega)) (h i (by omega) hi)
def DX{s:Qs}{i j k:Nat}(hi:i<s.heap.length)(hj:j<s.heap.length)(hk:k<s.heap.length):(s.swap i j).e k=if k=j then s.e i else if k=i then s.e j else s.e k:=by
 simp only[Qs.swap,Qs.e,gN,List.getD,Zb1];by_cases h1:k=j
 .subst h1;simp[hj]
 .by_cases h2:k=i
  .subst h2;have:¬j=k:=λe=>h1 e.symm;simp[this,h1,hi]
  .have a1:¬j=k:=λe=>h1 e.symm;have a2:¬i=k:=λe=>h2 e.symm;simp[a1,a2,h1,h2]
def adP:∀{i:Nat} {s:Qs},i<s.heap.length->(∀k:Nat,0<k->k<s.heap.length->k≠i->¬KY az (s.e k) (s.e ((k-1)/2:Nat)))->
  (∀k:Nat,0<k->k<s.heap.length->(k-1)/2=i->0<i->¬KY az (s.e k) (s.e ((i-1)/2:Nat)))->KA az (XZ az i s):=by
 intro i;induction i using Nat.strongRecOn with
 |_ i ih=>
  intro s hi h1 h2;unfold XZ;split
  .rename_i hc;obtain⟨c1,c2⟩:=hc;obtain⟨y,hy⟩:=aY ((i-1)/2);rw[hy]at c2⊢;have sZ:y<s.heap.length:=by omega
   have E:=λ{k:Nat} (hk:k<s.heap.length)=>DX (s:=s) (i:=i) (j:=y) hi sZ hk;refine ih y (by omega) (by simpa using sZ) (λk k1 k2 k3=>?_) (λk k1 k2 k3 k4=>?_)
   .simp only[Qs.s8]at k2;rw[E k2,E (k:=(k-1)/2) (by omega)];by_cases e1:k=i
    .subst e1;rw[iK k3,ee rfl,hy,ee rfl];exact S7 c2
    .rw[iK k3,iK e1];by_cases e2:(k-1)/2=y
     .rw[ee e2];have:=h1 k k1 k2 e1;rw[e2]at this;exact Te (S7 c2) this
     .rw[iK e2];by_cases e3:(k-1)/2=i
      .rw[ee e3];have:=h2 k k1 k2 e3 c1;rw[hy]at this;exact this
      .rw[iK e3];exact h1 k k1 k2 e1
   .simp only[Qs.s8]at k2;rw[E k2,E (k:=(y-1)/2) (by omega)];have p1:¬(y-1)/2=y:=by omega
    have p2:¬(y-1)/2=i:=by omega
    have p3:¬k=y:=by omega
    rw[iK p1,iK p2,iK p3];have hpy:=h1 y k4 sZ (by omega);by_cases e1:k=i
    .rw[ee e1];exact hpy
    .rw[iK e1];have:=h1 k k1 k2 e1;rw[k3]at this;exact Te hpy this
  .rename_i hc;intro k k1 k2;by_cases e:k=i
   .subst e;exact λhb=>hc ⟨k1,hb⟩
   .exact h1 k k1 k2 e
end
def adQ(az:List cX)(s:Qs)(i:Nat):∀t,¬KY az (s.e i) (s.e (Zj az s i t))/\∀u,u<t->¬KY az (s.e (2*i+1+u:Nat)) (s.e (Zj az s i t))
 |0=>⟨YS _,λu hu=>by omega⟩
 |t+1=>by
  obtain⟨h1,h2⟩:=adQ az s i t;unfold Zj;split
  .rename_i hc;have ha:=S7 hc;refine⟨Te ha h1,λu hu=>?_⟩;by_cases e:u=t
   .subst e;exact YS _
   .exact Te ha (h2 u (by omega))
  .rename_i hc;refine⟨h1,λu hu=>?_⟩;by_cases e:u=t
   .subst e;exact hc
   .exact h2 u (by omega)
def agw(az:List cX)(s:Qs)(i:Nat):¬KY az (s.e i) (s.e (sr az s i))/\∀k:Nat,0<k->k<s.heap.length->(k-1)/2=i->¬KY az (s.e k) (s.e (sr az s i)):=by
 obtain⟨h1,h2⟩:=adQ az s i (awi s i);refine⟨h1,λk k1 k2 k3=>?_⟩;have:=h2 (k-(2*i+1)) (by unfold awi;omega);rw[show 2*i+1+(k-(2*i+1))=k by omega]at this;exact this
def agx(az:List cX)(s:Qs)(i:Nat):sr az s i=i\/((sr az s i-1)/2=i/\i<sr az s i/\sr az s i<s.heap.length):=by
 have:=YT az s i (awi s i);have h3:=EF az s i;unfold sr at*
 unfold awi at*
 omega
def Yd{az:List cX}:∀{n:Nat} {i:Nat} {s:Qs},s.heap.length-i=n->(∀k:Nat,0<k->k<s.heap.length->(k-1)/2≠i->¬KY az (s.e k) (s.e ((k-1)/2:Nat)))->
  (∀k:Nat,0<k->k<s.heap.length->(k-1)/2=i->0<i->¬KY az (s.e k) (s.e ((i-1)/2:Nat)))->KA az (wU az i s):=by
 intro n;induction n using Nat.strongRecOn with
 |_ n ih=>
  intro i s hn h1 h2;obtain⟨m1,m2⟩:=agw az s i;have hp:=agx az s i;unfold wU;split
  .rename_i he;intro k k1 k2;by_cases e:(k-1)/2=i
   .rw[e];have:=m2 k k1 k2 e;rw[he]at this;exact this
   .exact h1 k k1 k2 e
  .rename_i he;obtain⟨j,hj⟩:=aY (sr az s i);rw[hj]at m1 m2 hp he⊢;obtain⟨p1,p2,p3⟩:=hp.resolve_left he;have hi:i<s.heap.length:=by omega
   have E:=λ{k:Nat} (hk:k<s.heap.length)=>DX (s:=s) (i:=i) (j:=j) hi p3 hk;refine ih (s.heap.length-j) (by omega) (by simp) (λk k1 k2 k3=>?_) (λk k1 k2 k3 k4=>?_)
   .simp only[Qs.s8]at k2;rw[E k2,E (k:=(k-1)/2) (by omega),iK k3];by_cases e1:k=j
    .subst e1;rw[ee rfl,ee p1];exact m1
    .rw[iK e1];by_cases e2:k=i
     .subst e2;have:¬(k-1)/2=k:=by omega
      rw[ee rfl,iK this];exact h2 j (by omega) p3 p1 k1
     .rw[iK e2];by_cases e3:(k-1)/2=i
      .rw[ee e3];exact m2 k k1 k2 e3
      .rw[iK e3];exact h1 k k1 k2 e3
   .simp only[Qs.s8]at k2;rw[p1,E k2,E hi];have q1:¬k=j:=by omega
    have q2:¬k=i:=by omega
    have q3:¬i=j:=by omega
    rw[iK q1,iK q2,iK q3,ee rfl];have:=h1 k k1 k2 (by omega);rw[k3]at this;exact this
section
variable{az:List cX}
def YU{s:Qs}{x:Int}{k:Nat}(hk:k<s.heap.length):(yy s x).e k=s.e k:=by
 simp only[yy,Qs.e,gN,List.getD];rw[ZbM hk]
def agy{s:Qs}{x:Int}(h:KA az s):KA az (C2 az s x):=by
 have hl:(yy s x).heap.length=s.heap.length+1:=by simp[yy]
 refine adP (by omega) (λk k1 k2 k3=>?_) (λk k1 k2 k3 k4=>?_)
 .rw[YU (by omega),YU (by omega)];exact h k k1 (by omega)
 .omega
def agz{s:Qs}(h:KA az s)(i:Nat):KA az (wU az i s):=
 Yd rfl (λk k1 k2 _=>h k k1 k2) λk k1 k2 k3 k4=>by
  have a:=h k k1 k2;rw[k3]at a;exact Te (h i k4 (by omega)) a
def S8{s:Qs}{k:Nat}(hk:k<s.heap.length-1):(zG s).e k=if k=0 then s.e (s.heap.length-1:Nat)else s.e k:=by
 have hj:s.heap.length-1<s.heap.length:=by omega
 have E:=DX (s:=s) (i:=0) (j:=s.heap.length-1) (k:=k) (by omega) hj (by omega);have hc:((s.heap.length-1:Nat):Int)=(s.heap.length:Int)-1:=by omega
 have:(zG s).e k=(s.swap (0:Nat) (s.heap.length-1:Nat)).e k:=by
  simp only[zG,Qs.e,gN,List.getD,L7,hk,Eg,hc];rfl
 rw[this,E,iK (by omega)]
def aiL{s:Qs}(h:KA az s):KA az (ww az s):=by
 unfold ww;split
 .exact h
 .rename_i dd;have Zh:0<s.heap.length:=Gr.2 dd;have hl:(zG s).heap.length=s.heap.length-1:=by
   simp only[zG,Ee,Qs.s8];omega
  refine Yd rfl (λk k1 k2 k3=>?_) (λk k1 k2 k3 k4=>by omega);rw[hl]at k2;rw[S8 k2,S8 (by omega),iK (by omega),iK k3];exact h k k1 (by omega)
end
def agA(c:Nat)(k v:Int):lC [] c k v=[(c,k,v)]:=rfl
def acU(a:Nat×Int×Int)(l:Pl)(c:Nat)(k v:Int):lC (a::l) c k v=if a.2.1=k then(a.1,a.2.1,v)::l else a::lC l c k v:=by
 unfold lC H3;rw[Rd];by_cases h:a.2.1=k
 .simp[h]
 .have:(a.2.1==k)=false:=by simpa using h
  rw[this,iK h];simp only[Ig,A0];cases List.findIdx? (λe=>e.2.1==k) l<;>simp
def agB(k:Int):vg [] k=none:=rfl
def vd(a:Nat×Int×Int)(l:Pl)(k:Int):vg (a::l) k=if a.2.1=k then some a.2.2 else vg l k:=by
 unfold vg;rw[Ii];by_cases h:a.2.1=k
 .simp[h]
 .have:(a.2.1==k)=false:=by simpa using h
  rw[this,iK h]
def Oe(l:Pl)(c:Nat)(k v k':Int):vg (lC l c k v) k'=if k'=k then some v else vg l k':=by
 induction l with
 |nil=>
  rw[agA,vd,agB];by_cases h:k'=k
  .simp[h]
  .have:¬k=k':=λe=>h e.symm;simp[h,this]
 |cons a l ih=>
  rw[acU];by_cases h:a.2.1=k
  .rw[ee h,vd,vd];simp only;by_cases h2:k'=k
   .rw[ee h2,ee (by rw[h,h2])]
   .have:¬a.2.1=k':=λe=>h2 (e▸h);rw[iK h2,iK this,iK this]
  .rw[iK h,vd,vd,ih];by_cases h2:k'=k
   .have:¬a.2.1=k':=λe=>h (e.trans h2);simp[h2,h]
   .simp[h2]
def iH(s:Qs):Prop:=∀k:Nat,k<s.heap.length->vg s.es (s.e k).h=some (k:Int)
def iH.nd{s:Qs}(h:iH s):s.nd:=λi j hi hj he=>by
 have h1:=h i hi;have h2:=h j hj;rw[he,h2]at h1;simp only[cq]at h1;omega
def KI{s:Qs}(h:iH s){i j:Nat}(hi:i<s.heap.length)(hj:j<s.heap.length):iH (s.swap i j):=by
 intro k hk;rw[Qs.s8]at hk;rw[DX hi hj hk];show vg (lC (lC s.es s.mc (s.e j).h i) s.mc (s.e i).h j) _=_;rw[Oe,Oe];have nd:=h.nd;by_cases h1:k=j
 .subst h1;rw[ee rfl,ee rfl]
 .rw[iK h1];by_cases h2:k=i
  .subst h2;rw[ee rfl];by_cases h3:(s.e j).h=(s.e k).h
   .have:=nd j k hj hk h3;exact qe this.symm h1
   .rw[iK h3,ee rfl]
  .rw[iK h2,iK (λe=>h2 (nd k i hk hi e)),iK (λe=>h1 (nd k j hk hj e))];exact h k hk
def S9{az:List cX}:∀{i:Nat} {s:Qs},i<s.heap.length->iH s->iH (XZ az i s):=by
 intro i;induction i using Nat.strongRecOn with
 |_ i ih=>
  intro s hi h;unfold XZ;split
  .exact ih _ (by omega) (by simp;omega) (KI h hi (by omega))
  .exact h
def Ta{az:List cX}:∀{n:Nat} {i:Nat} {s:Qs},s.heap.length-i=n->iH s->iH (wU az i s):=by
 intro n;induction n using Nat.strongRecOn with
 |_ n ih=>
  intro i s hn h;unfold wU;split
  .exact h
  .rename_i he;have hp:=(EF az s i).resolve_left he;exact ih (s.heap.length-sr az s i) (by omega) (by simp) (KI h (by omega) hp.2)
section
variable{az:List cX}
def qL{s:Qs}{e:JG}:e∈s.heap↔∃k:Nat,k<s.heap.length/\s.e k=e:=by
 constructor
 .intro h;obtain⟨k,hk,rfl⟩:=OQ h;exact⟨k,hk,by simp[Qs.e,List.getD,hk]⟩
 .rintro⟨k,hk,rfl⟩;simp only[Qs.e,gN];exact bu hk
def NR{s:Qs}{i j:Nat}(hi:i<s.heap.length)(hj:j<s.heap.length)(e:JG):e∈(s.swap i j).heap↔e∈s.heap:=by
 rw[qL,qL];simp only[Qs.s8];constructor
 .rintro⟨k,hk,rfl⟩;rw[DX hi hj hk];split
  .exact⟨i,hi,rfl⟩
  .split
   .exact⟨j,hj,rfl⟩
   .exact⟨k,hk,rfl⟩
 .rintro⟨k,hk,rfl⟩;by_cases h1:k=j
  .subst h1;by_cases h2:i=k
   .subst h2;exact⟨i,hi,by rw[DX hi hi hi];simp⟩
   .exact⟨i,hi,by rw[DX hi hk hi,iK h2,ee rfl]⟩
  .by_cases h2:k=i
   .subst h2;exact⟨j,hj,by rw[DX hk hj hj,ee rfl]⟩
   .exact⟨k,hk,by rw[DX hi hj hk,iK h1,iK h2]⟩
structure Hk(s s':Qs):Prop where
 len:s'.heap.length=s.heap.length
 mem:∀e,e∈s'.heap↔e∈s.heap
 next:s'.next=s.next
 xo:s'.xo=s.xo
 mc:s'.mc=s.mc
 bG:s'.bG=s.bG
def Hk.refl(s:Qs):Hk s s:=⟨rfl,λ_=>Iff.rfl,rfl,rfl,rfl,rfl⟩
def Hk.trans{a b c:Qs}(h:Hk a b)(k:Hk b c):Hk a c:=⟨k.len.trans h.len,λe=>(k.mem e).trans (h.mem e),k.next.trans h.next,k.xo.trans h.xo,k.mc.trans h.mc,k.bG.trans h.bG⟩
def Yg{s:Qs}{i j:Nat}(hi:i<s.heap.length)(hj:j<s.heap.length):Hk s (s.swap i j):=⟨by simp,NR hi hj,rfl,rfl,rfl,rfl⟩
def QL:∀{i:Nat} {s:Qs},i<s.heap.length->Hk s (XZ az i s):=by
 intro i;induction i using Nat.strongRecOn with
 |_ i ih=>
  intro s hi;unfold XZ;split
  .exact(Yg hi (by omega)).trans (ih _ (by omega) (by simp;omega))
  .exact Hk.refl s
def EG:∀{n:Nat} {i:Nat} {s:Qs},s.heap.length-i=n->Hk s (wU az i s):=by
 intro n;induction n using Nat.strongRecOn with
 |_ n ih=>
  intro i s hn;unfold wU;split
  .exact Hk.refl s
  .rename_i he;have hp:=(EF az s i).resolve_left he;exact(Yg (by omega) hp.2).trans (ih (s.heap.length-sr az s i) (by omega) (by simp))
def adR:∀{n:Nat} {i:Nat} {s:Qs},s.heap.length-i=n->s.ok az->(wU az i s).ok az:=by
 intro n;induction n using Nat.strongRecOn with
 |_ n ih=>
  intro i s hn h;unfold wU;split
  .exact h
  .rename_i he;have hp:=(EF az s i).resolve_left he;exact ih (s.heap.length-sr az s i) (by omega) (by simp) (h.swap ⟨by omega,by omega⟩ ⟨by omega,by omega⟩)
end
def acV(a:Nat×Int×Int)(l:Pl)(k:Int):DS (a::l) k=if a.2.1=k then l else a::DS l k:=by
 unfold DS H3;rw[Rd];by_cases h:a.2.1=k
 .simp[h]
 .have:(a.2.1==k)=false:=by simpa using h
  rw[this,iK h];simp only[Ig,A0];cases List.findIdx? (λe=>e.2.1==k) l<;>simp
def agE{l:Pl}{k k':Int}(h:k'≠k):vg (DS l k) k'=vg l k':=by
 induction l with
 |nil=>rfl
 |cons a l ih=>
  rw[acV,vd];by_cases h1:a.2.1=k
  .have:¬a.2.1=k':=λe=>h (e.symm.trans h1);rw[ee h1,iK this]
  .rw[iK h1,vd,ih]
def acW{az:List cX}{s:Qs}{x:Int}(h:iH s)(hn:∀e∈s.heap,e.h≠s.next):iH (C2 az s x):=by
 have hl:(yy s x).heap.length=s.heap.length+1:=by simp[yy]
 refine S9 (by omega) λk hk=>?_;rw[hl]at hk;show vg (lC s.es s.mc s.next s.heap.length) _=_;rw[Oe];by_cases h1:k<s.heap.length
 .rw[YU h1,iK (hn _ (qL.2 ⟨k,h1,rfl⟩))];exact h k h1
 .obtain rfl:k=s.heap.length:=by omega
  have:(yy s x).e (s.heap.length:Nat)=⟨x,s.next,s.xo⟩:=by simp[yy,Qs.e,List.getD]
  rw[this,ee rfl]
def agF{az:List cX}{s:Qs}(h:iH s):iH (ww az s):=by
 unfold ww;split
 .exact h
 .rename_i dd;have Zh:0<s.heap.length:=Gr.2 dd;have hl:(zG s).heap.length=s.heap.length-1:=by
   simp only[zG,Ee,Qs.s8];omega
  have hc:((s.heap.length-1:Nat):Int)=(s.heap.length:Int)-1:=by omega
  have pB:=KI h (i:=0) (j:=s.heap.length-1) Zh (by omega);refine Ta rfl λk hk=>?_;rw[hl]at hk;have he:(zG s).e k=(s.swap (0:Nat) (s.heap.length-1:Nat)).e k:=by
   simp only[zG,Qs.e,gN,List.getD,L7,hk,Eg,hc];rfl
  have nN:(zG s).es=DS (s.swap (0:Nat) (s.heap.length-1:Nat)).es (s.e (0:Nat)).h:=by
   simp only[zG,hc];rfl
  rw[he,nN,agE]
  .exact pB k (by simp;omega)
  .rw[DX Zh (by omega) (by omega),iK (by omega)];have nd:=h.nd;by_cases h1:k=0
   .subst h1;rw[ee rfl];exact λe=>by have:=nd (s.heap.length-1) 0 (by omega) Zh e;omega
   .rw[iK h1];exact λe=>h1 (nd k 0 (by omega) Zh e)
def Of{az:List cX}{x y:Int}{v:cX}(hx:0<=x/\x<az.length)(hy:0<=y):bv (az.set x.toNat v) y=if y=x then v else bv az y:=by
 unfold bv;simp only[List.getD,Zb1];by_cases h:y=x
 .subst h;have:y.toNat<az.length:=by omega
  simp[this]
 .have:¬x.toNat=y.toNat:=by omega
  simp[this,h]
def FX{s:Qs}{i k:Nat}{x:Int}(hi:i<s.heap.length):(yb s i x).e k=if k=i then⟨x,(s.e i).h,s.xo⟩else s.e k:=by
 simp only[yb,Qs.e,gN,List.getD,Zb1];by_cases h:k=i
 .subst h;simp[hi]
 .have:¬i=k:=λe=>h e.symm;simp[this,h]
def aiM{az:List cX}{s:Qs}{i:Nat}{x:Int}{v:cX}(h:KA az s)(hr:s.inR az)(hi:i<s.heap.length)(hx:0<=x/\x<az.length)(hix:(s.e i).x=x)
  (ho:∀k:Nat,k<s.heap.length->k≠i->(s.e k).x≠x) (hv:v.lt (bv az x)):KA (az.set x.toNat v) (XD (az.set x.toNat v) s i x):=by
 have hl:(yb s i x).heap.length=s.heap.length:=by simp[yb]
 have Uv:∀k:Nat,k<s.heap.length->0<=(s.e k).x:=λk hk=>(hr _ (qL.2 ⟨k,hk,rfl⟩)).1;have dB:∀k:Nat,k<s.heap.length->k≠i->bv (az.set x.toNat v) (s.e k).x=bv az (s.e k).x:=λk hk dd=>by
  rw[Of hx (Uv k hk),iK (ho k hk dd)]
 have ao8:∀k l:Nat,k<s.heap.length->l<s.heap.length->k≠i->l≠i->¬KY az (s.e k) (s.e l)->¬KY (az.set x.toNat v) (s.e k) (s.e l):=by
  intro k l hk BS dd amz hb;unfold KY at hb⊢;rw[dB k hk dd,dB l BS amz];exact hb
 refine adP (by omega) (λk k1 k2 k3=>?_) (λk k1 k2 k3 k4=>?_)
 .rw[hl]at k2;rw[FX hi,FX hi,iK k3];by_cases e:(k-1)/2=i
  .rw[ee e];have hb:=h k k1 k2;rw[e]at hb;unfold KY at hb⊢;rw[dB k k2 k3,Of hx hx.1,ee rfl];rw[hix]at hb;generalize bv az (s.e k).x=w at*
   generalize bv az x=u at*
   obtain⟨u1,u2⟩:=u;obtain⟨v1,v2⟩:=v;obtain⟨w1,w2⟩:=w;simp only[cX.lt]at*
   omega
  .rw[iK e];exact ao8 k _ k2 (by omega) k3 e (h k k1 k2)
 .rw[hl]at k2;have n1:k≠i:=by omega
  have n2:¬(i-1)/2=i:=by omega
  rw[FX hi,FX hi,iK n1,iK n2];have a:=h k k1 k2;rw[k3]at a;exact ao8 k _ k2 (by omega) n1 n2 (Te (h i k4 hi) a)
section
variable{az:List cX}
def Tv{s:Qs}{i:Nat}{x:Int}(h:iH s)(hi:i<s.heap.length):iH (yb s i x):=by
 intro k hk;have hl:(yb s i x).heap.length=s.heap.length:=by simp[yb]
 rw[hl]at hk;rw[FX hi];show vg s.es _=_;by_cases h1:k=i
 .subst h1;rw[ee rfl];exact h k hk
 .rw[iK h1];exact h k hk
def aiN{s:Qs}{i:Nat}{x:Int}(ho:s.ok az)(hp:iH s)(hi:i<s.heap.length)(hx:0<=x/\x<az.length)(hl:s.heap.length<=1000000)(hc:0<=s.xo/\s.xo<=1000000000000):ZB s az (s.e i).h x:=by
 have hl1:(yb s i x).heap.length=s.heap.length:=by simp[yb]
 have Un:iH (XD az s i x):=S9 (by omega) (Tv hp hi);have hs:=QL (az:=az) (i:=i) (s:=yb s i x) (by omega);have hm:(⟨x,(s.e i).h,s.xo⟩:JG)∈(XD az s i x).heap:=(hs.mem _).2 (qL.2 ⟨i,by omega,by rw[FX hi,ee rfl]⟩);obtain⟨j,hj,he⟩:=qL.1 hm;have hj2:=Un j hj;rw[he]at hj2;have ct:(XD az s i x).heap.length=s.heap.length:=hs.len.trans hl1;exact⟨ho,⟨i,hp i hi,hi,j,hj2,by omega⟩,hx,hl,hc⟩
def agG{s:Qs}{i:Nat}{x:Int}(hp:iH s)(hi:i<s.heap.length):iH (F8 az s (s.e i).h x):=by
 have hl1:(yb s i x).heap.length=s.heap.length:=by simp[yb]
 unfold F8;rw[hp i hi];simp only[GA,gN];exact Ta rfl (S9 (by omega) (Tv hp hi))
def ahL{s:Qs}{i:Nat}{x:Int}(hp:iH s)(hi:i<s.heap.length)(h:KA az (XD az s i x)):KA az (F8 az s (s.e i).h x):=by
 unfold F8;rw[hp i hi];simp only[GA,gN];exact agz h _
end
def S5{f0:bS}{N r:Nat}{L:fS}(hr:r<N)(hL:∀p∈L,N<=p.1):dA L f0 r=f0 r:=
 ui λo' h=>by have:=hL _ h;simp only at this;omega
def SV.at.dA{v:SV}{f0:bS}{p N:Nat}{L:fS}(h:v.at f0 p)(c9:qX f0 N)(hL:∀p∈L,N<=p.1):v.at (DM.dA L f0) p:=by
 have g:∀{r o},f0 r=some o->DM.dA L f0 r=some o:=λe=>(S5 (c9 _ _ e).1 hL).trans e;exact⟨g h.sp,g h.rb,g h.rf,g h.rh,g h.q,g h.hp,g h.m,g h.a⟩
def t61{f0:bS}{p N:Nat}{bi:Int}{l:List It}{v:SV}(hN:∀r,N<=r->f0 r=none)(hv:v.at f0 p)(hc:KG v.z.c)(gD:JT v.z.c)(hb:∀x∈v.s.az,mG x)(hi:aiH v.z v.s.az l)(hp:0<=bi/\bi<=4000000000000)(hl:l.length<=1000):
  ce ak 138 [.ptr p 0,.v (ti bi),.v (.sl (awj l))] f0 ⟨True,.v (.agg [ti (uq v.z v.s.az bi l).aA,ti (uq v.z v.s.az bi l).size]),f0⟩:=by
 obtain⟨R,hR⟩:=aY (uq v.z v.s.az bi l);rw[hR];unfold uq at hR;obtain⟨Vs,hVs⟩:=aY (l.map (λx=>tq v.z v.s.az x.1 x.2.1 x.2.2));rw[hVs]at hR;have hVl:Vs.length=l.length:=by rw[<-hVs];simp
 have agv:∀x∈Vs,mG x:=by
  rw[<-hVs];intro x hx;obtain⟨y,_,rfl⟩:=sE.1 hx;exact YQ gD hb _ _ _
 have bb:=ayT (avz aw.nil);refine c61.Ie hN (by simp) λc9=>?_;have h1:=hv.sp;have K4:p<N:=(c9 p _ h1).1;have np:∀k,p≠N+k:=λk=>by omega
 have zD:(∃cs,f0 p=some (.box cs)):=⟨_,h1⟩;simp;apply aa.ai bb fw [0,1,2,6];simp[atF];apply aa.ai bb fw [0,1,2,6,7];simp[atT];apply aa.sq bb fw [0,1,6,7,10,11,12];simp[aul];refine aa.le (Le.iy (l1:=[(N+7,.box [.v (ti 0),.v (ti 0)])]) (l:=[(0,.ptr p 0),(1,.v (ti bi)),(6,.ptr (N+7) 0),(7,.aZ),(10,.v (.sl (awj l))),(11,.v (ti l.length)),(12,.v (ti 0))]) (bn:=N+500) c9 ?_ ?_ ?_ ?_ ?_) ?_
 .omega
 .simp
 .simp[cY,pn]
 .simp[kp,kq,pn]
 .simp[np,pn,zD]
 refine aa.le (Le.j7 (k:=7) 64 (sz:=2) (by omega) (by simp)) ?_;rw[fJ];apply aa.block;refine aa.loop (λi:Nat=>⟨DM.look [(0,.ptr p 0),(1,.v (ti bi)),(6,.ptr (N+7) 0),(7,.aW (N+500) i),(10,.v (.sl (awj l))),(11,.v (ti l.length)),(12,.v (ti i))],dA [(N+7,.box [.v (ti 0),.v (ti 0)]),(N+500,.bm i 64 2 (cU (Vs.take i)))] f0,N+1000,N,[]⟩)
  (λi=>i<=l.length) (λi=>l.length-i) 0 (Le.iy c9 ?_ ?_ ?_ ?_ ?_) (by omega) (λi hi2=>?_)
 .omega
 .simp
 .simp[cY]
 .simp[kp,kq]
 .simp[np,zD]
 apply aa.ai bb fw [0,1,6,7,10,11,12,13];simp[aun];apply aa.seq;refine aa.cond rfl (λg=>?_) (λg=>?_)
 .have g:i<l.length:=by simpa using g
  have rr:=Od g;have hx0:=hi _ (show l.getD i default∈l by simp[List.getD,g]);have hV:Vs.take (i+1)=Vs.take i++[tq v.z v.s.az (l.getD i default).1 (l.getD i default).2.1 (l.getD i default).2.2]:=by
   rw[OS,mM (by omega)];simp only[<-hVs,Lm,Zcn];simp[List.getD,g]
  obtain⟨⟨xh,xf,xt⟩,hx⟩:=aY (l.getD i default);rw[hx]at rr hx0 hV;simp only[itT]at rr hx0 hV;obtain⟨⟨vc,vz⟩,hvv⟩:=aY (tq v.z v.s.az xh xf xt);rw[hvv]at hV;apply aa.skip;simp;apply aa.seq;apply aa.block;apply aa.ai bb fw [0,1,6,7,9,10,11,12];simp[axv,rr,g];refine aa.le (Le.iy (l1:=[(N+7,.box [.v (ti 0),.v (ti 0)]),(N+500,.bm i 64 2 (cU (Vs.take i)))]) (l:=[(0,.ptr p 0),(1,.v (ti bi)),(6,.ptr (N+7) 0),(7,.aW (N+500) i),(9,.v (.box [ti xh,ti xf,ti xt])),(10,.v (.sl (awj l))),(11,.v (ti l.length)),(12,.v (ti i))]) (bn:=N+3000) c9 ?_ ?_ ?_ ?_ ?_) ?_
  .omega
  .simp
  .simp[cY,pn]
  .simp[kp,kq,pn]
  .simp[np,pn,zD];exact j8 c9 (by omega) (by simp)
  have nk:v.at (dA [(N+7,.box [.v (ti 0),.v (ti 0)]),(N+500,.bm i 64 2 (cU (Vs.take i)))] f0) p:=hv.dA c9 (by simp);have k1:=awE (h:=xh) (g:=xf) (t:=xt) nk;rw[hvv]at k1;have hch:di 2 1 [ti vc,ti vz]=[[ti vc,ti vz]]:=rfl;have xx:cw 16 (i+1):=by simp[cw];omega
  have hTl:(Vs.take i).length=i:=by rw[Ee];omega
  apply aa.auk bb fw (rs:=ah3) pV (by kernel_rfl) [0,1,6,7,10,11,12];simp[ah3,k1,hc,hch,hTl,xx];refine⟨λz1 z2=>hx0 ⟨z1,z2⟩, ?_⟩;have hvt:cU (Vs.take (i+1))=cU (Vs.take i)++[[ti vc,ti vz]]:=by rw[hV];simp[cU]
  apply aa.cZ bb fw [0,1,6,7,10,11,12];simp[axw];rw[av (by omega)];refine⟨i+1,Le.iy c9 ?_ ?_ ?_ ?_ ?_,by omega,by omega⟩
  .omega
  .simp
  .simp[cY]
  .simp[kp,kq,hvt]
  .simp[np,zD,hvt]
 .have g:¬i<l.length:=by simpa using g
  have hie:i=l.length:=by omega
  subst hie;rw[Lz (by omega)];apply aa.exit;simp;refine aa.le (Le.iy (l1:=[(N+7,.box [.v (ti 0),.v (ti 0)])]) (l:=[(1,.v (ti bi)),(6,.ptr (N+7) 0),(7,.v (.sl (cU Vs)))]) (bn:=N+5000) c9 ?_ ?_ ?_ ?_ ?_) ?_
  .omega
  .simp
  .simp[cY]
  .simp[kp,kq]
  .simp;exact j8 c9 (by omega) (by simp)
  apply aa.ai bb fw [6];simp[auo,XW,hVl,hR];refine⟨agv,hp.1,hp.2,by omega, ?_⟩;refine aa.le (FW (l:=[(6,.v (.box [ti R.aA,ti R.size]))]) (bn:=N+6000) c9 (by omega) (by simp) ?_) ?_
  .simp;exact j8 (l:=[]) c9 (by omega) (by simp)
  apply aa.ret;simp[acr];rfl
def aAq{f0:bS}{p N:Nat}{bi:Int}{v:SV}(hN:∀r,N<=r->f0 r=none)(hv:v.at f0 p)(hp:0<=bi/\bi<=4000000000000):
  ce ak 138 [.ptr p 0,.v (ti bi),.aZ] f0 ⟨True,.v (.agg [ti (uq v.z v.s.az bi []).aA,ti (uq v.z v.s.az bi []).size]),f0⟩:=by
 obtain⟨R,hR⟩:=aY (uq v.z v.s.az bi []);rw[hR];unfold uq at hR;simp only[Zcg]at hR;have bb:=ayT (avz aw.nil);refine c61.Ie hN (by simp) λc9=>?_;simp;apply aa.ai bb fw [0,1,2,6];simp[atF];apply aa.ai bb fw [0,1,2,6,7];simp[atT];apply aa.sq bb fw [1,6,7,11,12];simp[aul];apply aa.block;refine aa.loop (λi:Nat=>⟨DM.look [(1,.v (ti bi)),(6,.ptr (N+7) 0),(7,.aZ),(11,.v (ti 0)),(12,.v (ti 0))],dA [(N+7,.box [.v (ti 0),.v (ti 0)])] f0,N+1000,N,[]⟩)
  (λi=>True) (λi=>0) 0 (Le.iy c9 ?_ ?_ ?_ ?_ ?_) trivial (λi hi=>?_)
 .omega
 .simp
 .simp[cY,pn]
 .simp[kp,kq,pn]
 .simp[pn]
 apply aa.ai bb fw [1,6,7,13];simp[aun];apply aa.seq;refine aa.cond rfl (λg=>by cases g) (λg=>?_);apply aa.exit;simp;apply aa.ai bb fw [6];simp[auo,XW,hR,hp];refine aa.le (FW (l:=[(6,.v (.box [ti R.aA,ti R.size]))]) (bn:=N+6000) c9 (by omega) (by simp) ?_) ?_
 .simp;exact j8 (l:=[]) c9 (by omega) (by simp)
 apply aa.ret;simp[acr];rfl
structure SV.okB(v:SV):Prop where
 cf:KG v.z.c
 co:JT v.z.c
 b:∀x∈v.s.az,mG x
noncomputable def k61:bW->bS->iw
 |[.ptr p 0,.v (.int .i64 c),.v (.sl aC)],f=>⟨(∃v:SV,v.at f p)/\(fu f p).okB/\aC=awj (ajJ aC)/\aC.length<=1000/\aiH (fu f p).z (fu f p).s.az (ajJ aC)/\0<=c/\c<=4000000000000,.v (.agg [ti (uq (fu f p).z (fu f p).s.az c (ajJ aC)).aA,ti (uq (fu f p).z (fu f p).s.az c (ajJ aC)).size]),f⟩
 |[.ptr p 0,.v (.int .i64 c),.aZ],f=>⟨(∃v:SV,v.at f p)/\0<=c/\c<=4000000000000,.v (.agg [ti (uq (fu f p).z (fu f p).s.az c []).aA,ti (uq (fu f p).z (fu f p).s.az c []).size]),f⟩
 |_,f=>⟨False,.undef,f⟩
def awJ{v:SV}{f:bS}{p:Nat}{c:Int}{l:List It}(hv:v.at f p):k61 [.ptr p 0,.v (ti c),.v (.sl (awj l))] f=⟨v.okB/\l.length<=1000/\aiH v.z v.s.az l/\0<=c/\c<=4000000000000,.v (.agg [ti (uq v.z v.s.az c l).aA,ti (uq v.z v.s.az c l).size]),f⟩:=by
 have hx:∃v:SV,v.at f p:=⟨v,hv⟩;simp only[k61,OG hv,hx,Em,Kz,S4]
def an5{v:SV}{f:bS}{p:Nat}{c:Int}(hv:v.at f p):k61 [.ptr p 0,.v (ti c),.aZ] f=⟨0<=c/\c<=4000000000000,.v (.agg [ti (uq v.z v.s.az c []).aA,ti (uq v.z v.s.az c []).size]),f⟩:=by
 have hx:∃v:SV,v.at f p:=⟨v,hv⟩;simp only[k61,OG hv,hx,Em]
def awK:∀args ab,(k61 args ab).ok->(∀N,(∀r,N<=r->ab r=none)->ce ak 138 args ab (k61 args ab))/\∀r,ab r=none->(k61 args ab).ab r=none:=by
 intro args ab h;unfold k61 at h⊢;split at h
 .rename_i p c aC;obtain⟨⟨v,hv⟩,ho,hr,hl,hi,hp⟩:=h;obtain⟨l,hll⟩:=aY (ajJ aC);rw[hll]at hr hi⊢;subst hr;rw[OG hv]at ho hi⊢;exact⟨λN hN=>ce.of (t61 hN hv ho.cf ho.co ho.b hi hp (by simpa using hl)) rfl rfl,λr hr=>hr⟩
 .rename_i p c;obtain⟨⟨v,hv⟩,hp⟩:=h;rw[OG hv];exact⟨λN hN=>ce.of (aAq hN hv hp) rfl rfl,λr hr=>hr⟩
 .exact h.elim
def awL{l:List (Nat×DM.Spec)}(h:aw ak (bz l)):aw ak (bz ((138,fl k61)::l)):=aw.il h awK
def zI(z:mW)(dM:List Bool)(l:List It):Bool:=l.any λx=>decide (wR z x)&& !(dM.getD x.1.toNat default)
def t89{f0:bS}{p N:Nat}{l:List It}{v:SV}(hN:∀r,N<=r->f0 r=none)(hv:v.at f0 p)(hf:∀x∈l,wR v.z x->0<=x.1/\x.1<v.s.dM.length)(hl:l.length<=1000):
  ce ak 184 [.ptr p 0,.v (.sl (awj l))] f0 ⟨True,.v (.bool (!zI v.z v.s.dM l)),f0⟩:=by
 obtain⟨R,hR⟩:=aY ((!zI v.z v.s.dM l));rw[hR];have bb:=J2;refine c89.Ie hN (by simp) λc9=>?_;have h1:=hv.sp;have K4:p<N:=(c9 p _ h1).1;simp only[JO]at h1;have h2:=hv.rf;simp only[YH]at h2;have np:∀k,p≠N+k:=λk=>by omega
 simp;apply aa.ai bb fw [0,1];simp[axx];apply aa.sq bb fw [0,7,8,9];simp[axy];apply aa.block;refine aa.loop (λi:Nat=>⟨DM.look [(0,.ptr p 0),(7,.v (.sl (awj l))),(8,.v (ti l.length)),(9,.v (ti i))],dA [] f0,N+1000,N,[]⟩)
  (λi=>i<=l.length/\zI v.z v.s.dM (l.take i)=false) (λi=>l.length-i) 0 (FW c9 (by omega) (by simp) ?_) (by simp[zI]) (λi hi=>?_)
 .simp[h1]
 obtain⟨hi,hw⟩:=hi;apply aa.ai bb fw [0,7,8,9,10];simp[axz];apply aa.seq;refine aa.cond rfl (λg=>?_) (λg=>?_)
 .have g:i<l.length:=by simpa using g
  have rr:=Od g;obtain⟨⟨xh,xf,xt⟩,hx⟩:=aY (l.getD i default);rw[hx]at rr;simp only[itT]at rr;have yg:zI v.z v.s.dM (l.take (i+1))=(decide (wR v.z (xh,xf,xt))&& !(v.s.dM.getD xh.toNat default)):=by
   rw[dH g,hx];unfold zI at hw⊢;rw[List.any_append,hw];simp
  apply aa.skip;simp;apply aa.seq;apply aa.block;apply aa.ai bb fw [0,6,7,8,9];simp[axA,rr,g];refine aa.le (FW (l:=[(0,.ptr p 0),(6,.v (.box [ti xh,ti xf,ti xt])),(7,.v (.sl (awj l))),(8,.v (ti l.length)),(9,.v (ti i))]) (bn:=N+2000) c9 (by omega) (by simp;omega) ?_) ?_
  .simp[pn,h1];exact j8 (l:=[]) c9 (by omega) (by simp)
  obtain⟨c1,bN⟩:=aY ((decide (wR v.z (xh,xf,xt))&& !(v.s.dM.getD xh.toNat default)):Bool);refine aa.bL bb fw [(0,.ptr p 0),(7,.v (.sl (awj l))),(8,.v (ti l.length)),(9,.v (ti i)),(39,.v (.bool c1))] ?_ ?_
  .by_cases q1:xf=v.z.fr
   .by_cases q2:xt=v.z.to
    .obtain⟨x0,x1⟩:=hf _ (show(xh,xf,xt)∈l from hx▸bu g) ⟨q1,q2⟩;simp only at x0 x1;obtain⟨y,rfl⟩:=bX x0;have hy:y<v.s.dM.length:=by omega
     have rb:=eF hy;obtain⟨b,hb⟩:=aY (v.s.dM.getD y default);rw[hb]at rb;have:c1= !b:=by rw[<-bN];simp only[gN,hb];simp[wR,q1,q2]
     cases b<;>simp[ah4,h1,h2,hy,rb,q1,q2,this]
    .have:c1=false:=by rw[<-bN];simp[wR,q2]
     simp[ah4,h1,q1,q2,this]
   .have:c1=false:=by rw[<-bN];simp[wR,q1]
    simp[ah4,h1,q1,this]
  refine aa.cond rfl (λg2=>?_) (λg2=>?_)
  .have g2:c1=true:=by simpa using g2
   subst g2;have:R=false:=by
    rw[<-hR];have:zI v.z v.s.dM l=true:=by
     unfold zI;rw[ZcR];exact⟨(xh,xf,xt),hx▸bu g,bN⟩
    rw[this];rfl
   subst this;apply aa.ai bb fw [4];simp[axB];apply aa.ret;simp[dI];rfl
  .have g2:c1=false:=by simpa using g2
   subst g2;apply aa.skip;simp;apply aa.cZ bb fw [0,7,8,9];simp[axC];rw[av (by omega)];refine⟨i+1,FW c9 (by omega) (by simp) ?_,⟨by omega,by rw[yg,bN]⟩,by omega⟩;simp[h1]
 .have g:¬i<l.length:=by simpa using g
  have:R=true:=by
   rw[Lz (by omega)]at hw;rw[<-hR,hw];rfl
  subst this;apply aa.exit;simp;apply aa.ai bb fw [4];simp[axD];apply aa.ret;simp[dI];rfl
noncomputable def k89:bW->bS->iw
 |[.ptr p 0,.v (.sl aC)],f=>⟨(∃v:SV,v.at f p)/\aC=awj (ajJ aC)/\aC.length<=1000/\(∀x∈ajJ aC,wR (fu f p).z x->0<=x.1/\x.1<(fu f p).s.dM.length),.v (.bool (!zI (fu f p).z (fu f p).s.dM (ajJ aC))),f⟩
 |_,f=>⟨False,.undef,f⟩
def awM{v:SV}{f:bS}{p:Nat}{l:List It}(hv:v.at f p):k89 [.ptr p 0,.v (.sl (awj l))] f=⟨l.length<=1000/\(∀x∈l,wR v.z x->0<=x.1/\x.1<v.s.dM.length),.v (.bool (!zI v.z v.s.dM l)),f⟩:=by
 have hx:∃v:SV,v.at f p:=⟨v,hv⟩;simp only[k89,OG hv,hx,Em,Kz,S4]
def awN:∀args ab,(k89 args ab).ok->(∀N,(∀r,N<=r->ab r=none)->ce ak 184 args ab (k89 args ab))/\∀r,ab r=none->(k89 args ab).ab r=none:=by
 intro args ab h;unfold k89 at h⊢;split at h
 .rename_i p aC;obtain⟨⟨v,hv⟩,hr,hl,hf⟩:=h;obtain⟨l,hll⟩:=aY (ajJ aC);rw[hll]at hr hf⊢;subst hr;rw[OG hv]at hf⊢;exact⟨λN hN=>ce.of (t89 hN hv hf (by simpa using hl)) rfl rfl,λr hr=>hr⟩
 .exact h.elim
def ayV{l:List (Nat×DM.Spec)}(h:aw ak (bz l)):aw ak (bz ((184,fl k89)::l)):=aw.il h awN
section
variable{az:List cX}
def ilt(a:Int):a<0\/0<=a:=by omega
def jX(st:nD)(h:Int)(v:cX):nD:=
 if st.dM.getD h.toNat false=true\/v.aA>=1099511627776\/¬v.lt (bv st.az h)then st
 else if 0<=st.u7.getD h.toNat 0 then⟨st.az.set h.toNat v,st.dM,st.u7,F8 (st.az.set h.toNat v) st.s (st.u7.getD h.toNat 0) h⟩
 else⟨st.az.set h.toNat v,st.dM,st.u7.set h.toNat st.s.next,C2 (st.az.set h.toNat v) st.s h⟩
def DH(st:nD):nD:=⟨st.az,st.dM.set (st.s.e 0).x.toNat true,st.u7,ww st.az st.s⟩
def aiO:∀(n:Nat) (l:cN),l.Nodup->(∀x∈l,x<n)->l.length<=n
 |0,[],_,_=>by simp
 |0,a::l,_,h=>by have:=h a (by simp);omega
 |n+1,l,hn,h=>by
  have:=aiO n (l.erase n) (hn.erase n) λx hx=>by
   have h1:=h x (List.mem_of_mem_erase hx);have h2:x≠n:=(hn.mem_erase_iff.1 hx).1;omega
  have:=List.le_length_erase (a:=n) (l:=l);omega
structure WF(n:Nat)(st:nD):Prop where
 lb:st.az.length=n
 lf:st.dM.length=n
 lh:st.u7.length=n
 ok:st.s.ok st.az
 pl:iH st.s
 hp:KA st.az st.s
 YV:∀e∈st.s.heap,0<=e.x/\e.x<n/\st.dM.getD e.x.toNat false=false/\st.u7.getD e.x.toNat 0=e.h/\0<=e.h
 inn:∀x:Nat,x<n->0<=st.u7.getD x 0->st.dM.getD x false=false->∃e∈st.s.heap,e.x=x
 old:∀x:Nat,x<n->st.u7.getD x 0<0->st.dM.getD x false=false/\st.az.getD x default=⟨1099511627776,0⟩
 acX:∀x:Nat,x<n->0<=st.u7.getD x 0->(st.az.getD x default).aA<1099511627776
 nx:∀x:Nat,x<n->st.u7.getD x 0<st.s.next
 nc:0<=st.s.next/\st.s.next<=st.s.xo
 bo:∀v∈st.az,mG v
def Qs.ok.of{s:Qs}{a b:List cX}(h:s.ok a)(e:b.length=a.length):s.ok b:=⟨h.pl,h.st,h.CD,λx hx=>by rw[e];exact h.r x hx⟩
def H4{α:Type}{l:List α}{i j:Nat}{d x:α}(hi:i<l.length):(l.set i x).getD j d=if j=i then x else l.getD j d:=by
 by_cases h:j=i
 .subst h;simp[List.getD,hi]
 .have:¬i=j:=λe=>h e.symm;simp[List.getD,this,h]
section
variable{n:Nat}{st:nD}
def WF.XG(h:WF n st){i j:Nat}(hi:i<st.s.heap.length)(hj:j<st.s.heap.length)(e:(st.s.e i).x=(st.s.e j).x):i=j:=by
 obtain⟨_,_,_,a,_⟩:=h.YV _ (qL.2 ⟨i,hi,rfl⟩);obtain⟨_,_,_,b,_⟩:=h.YV _ (qL.2 ⟨j,hj,rfl⟩);refine h.pl.nd i j hi hj ?_;rw[<-a,<-b,e]
def WF.len(h:WF n st):st.s.heap.length<=n:=by
 have:=aiO n (st.s.heap.map λe=>e.x.toNat) ?_ ?_
 .simpa using this
 .unfold List.Nodup;rw[Zcv];intro i j hi0 hj To e;simp only[we]at hj;have hi:i<st.s.heap.length:=by omega
  have a:=h.YV _ (qL.2 ⟨i,hi,rfl⟩);have b:=h.YV _ (qL.2 ⟨j,hj,rfl⟩);have:=h.XG hi hj ?_
  .omega
  .simp only[Lm]at e;simp only[Qs.e,gN,List.getD,mM hi,mM hj,GA]at a b⊢;omega
 .intro x hx;obtain⟨e,he,rfl⟩:=sE.1 hx;have:=h.YV e he;omega
def WF.ava(h:WF n st){x:Nat}(hx:x<n):(st.az.getD x default).aA<1099511627776\/(st.az.getD x default).size=0:=by
 rcases ilt (st.u7.getD x 0)with h0|h0
 .right;rw[(h.old x hx h0).2]
 .exact .inl (h.acX x hx h0)
def yi(st:nD)(h:Int)(v:cX):(jX st h v).dM=st.dM:=by
 unfold jX;split
 .rfl
 .split<;>rfl
def acY(st:nD)(h:Int)(v:cX):(jX st h v).az=st.az\/((jX st h v).az=st.az.set h.toNat v/\st.dM.getD h.toNat false=false/\v.aA<1099511627776/\v.lt (bv st.az h)):=by
 unfold jX;split
 .exact .inl rfl
 .rename_i hc;have gD:st.dM.getD h.toNat false=false/\v.aA<1099511627776/\v.lt (bv st.az h):=by
   simp only[Zds,Decidable.not_not]at hc;exact⟨by simpa using hc.1,by omega,hc.2.2⟩
  split<;>exact .inr ⟨rfl,gD⟩
def aiP{s:Qs}{i:Nat}{x:Int}(hi:i<s.heap.length)(e:JG):e∈(yb s i x).heap↔e=⟨x,(s.e i).h,s.xo⟩\/∃k:Nat,k<s.heap.length/\k≠i/\e=s.e k:=by
 have hl:(yb s i x).heap.length=s.heap.length:=by simp[yb]
 rw[qL];constructor
 .rintro⟨k,hk,rfl⟩;rw[FX hi];split
  .exact .inl rfl
  .exact .inr ⟨k,by omega,by assumption,rfl⟩
 .rintro(rfl|⟨k,hk,dd,rfl⟩)
  .exact⟨i,by omega,by rw[FX hi,ee rfl]⟩
  .exact⟨k,by omega,by rw[FX hi,iK dd]⟩
def abo{s:Qs}{i:Nat}{x:Int}(hp:iH s)(hi:i<s.heap.length):Hk (yb s i x) (F8 az s (s.e i).h x):=by
 have hl1:(yb s i x).heap.length=s.heap.length:=by simp[yb]
 unfold F8;rw[hp i hi];simp only[GA,gN];exact(QL (by omega)).trans (EG rfl)
def awT{s:Qs}{i:Nat}{x:Int}(ho:s.ok az)(hp:iH s)(hi:i<s.heap.length)(hx:0<=x/\x<az.length):(F8 az s (s.e i).h x).ok az:=by
 have hl1:(yb s i x).heap.length=s.heap.length:=by simp[yb]
 unfold F8;rw[hp i hi];simp only[GA,gN];exact adR rfl (acx (adK ho hi hx) (by omega)).1
def WF.adS(h:WF n st){x:Int}(hx:0<=x/\x<n){v:cX}(hv:mG v):WF n (jX st x v):=by
 unfold jX;split
 .exact h
 .rename_i hc;simp only[Zds,Decidable.not_not]at hc;obtain⟨c1,c2,c3⟩:=hc;have c1:st.dM.getD x.toNat false=false:=by simpa using c1
  have hxb:0<=x/\x<st.az.length:=by have:=h.lb;omega
  have hxn:x.toNat<n:=by omega
  have Zw:(st.az.set x.toNat v).length=st.az.length:=by simp
  have Rz:∀w∈st.az.set x.toNat v,mG w:=λw hw=>by
   rcases Zbv hw with hw|rfl
   .exact h.bo w hw
   .exact hv
  have hbd:∀y:Nat,y<n->(st.az.set x.toNat v).getD y default=if y=x.toNat then v else st.az.getD y default:=λy hy=>H4 (by omega)
  split
  .rename_i hh;obtain⟨e,he,Tj⟩:=h.inn x.toNat hxn hh c1;obtain⟨i,hi,rfl⟩:=qL.1 he;have Tj:(st.s.e i).x=x:=by omega
   have hd:st.u7.getD x.toNat 0=(st.s.e i).h:=by rw[<-Tj];exact(h.YV _ he).2.2.2.1
   rw[hd];have hs:=abo (az:=st.az.set x.toNat v) (x:=x) h.pl hi;have pq:∀e,e∈(F8 (st.az.set x.toNat v) st.s (st.s.e i).h x).heap↔e=⟨x,(st.s.e i).h,st.s.xo⟩\/∃k:Nat,k<st.s.heap.length/\k≠i/\e=st.s.e k:=λe=>(hs.mem e).trans (aiP hi e);have XA:(F8 (st.az.set x.toNat v) st.s (st.s.e i).h x).next=st.s.next:=hs.next;have aiQ:(F8 (st.az.set x.toNat v) st.s (st.s.e i).h x).xo=st.s.xo+1:=hs.xo;refine⟨by simp[h.lb],h.lf,h.lh,awT (h.ok.of Zw) h.pl hi (by rw[Zw];exact hxb),agG h.pl hi,
    ahL h.pl hi (aiM h.hp h.ok.r hi hxb Tj (λk hk dd e=>dd (h.XG hk hi (e.trans Tj.symm))) c3),λe he=>?_,λy hy vy fI=>?_,λy hy vy=>?_,λy hy vy=>?_,λy hy=>?_, ?_,Rz⟩
   .rcases(pq e).1 he with rfl|⟨k,hk,_,rfl⟩
    .exact⟨hx.1,hx.2,c1,hd,(h.YV _ (qL.2 ⟨i,hi,rfl⟩)).2.2.2.2⟩
    .exact h.YV _ (qL.2 ⟨k,hk,rfl⟩)
   .obtain⟨e,he,hey⟩:=h.inn y hy vy fI;obtain⟨k,hk,rfl⟩:=qL.1 he;by_cases Li:k=i
    .subst Li;exact⟨_,(pq _).2 (.inl rfl),by simp only;omega⟩
    .exact⟨_,(pq _).2 (.inr ⟨k,hk,Li,rfl⟩),hey⟩
   .have:=h.old y hy vy;refine⟨this.1, ?_⟩;simp only;rw[hbd y hy,iK]
    .exact this.2
    .rintro rfl;simp only at vy;omega
   .simp only;rw[hbd y hy];split
    .omega
    .exact h.acX y hy vy
   .rw[show(nD.mk (st.az.set x.toNat v) st.dM st.u7 (F8 (st.az.set x.toNat v) st.s (st.s.e i).h x)).s.next=st.s.next from XA];exact h.nx y hy
   .have:=h.nc;simp only[XA,aiQ];omega
  .rename_i hh;have dd:∀e∈st.s.heap,e.x≠x:=λe he ex=>by
    obtain⟨a1,a2,a3,a4,a5⟩:=h.YV e he;rw[ex]at a4;omega
   have ao8:∀a b:JG,a∈st.s.heap->b∈st.s.heap->(KY (st.az.set x.toNat v) a b↔KY st.az a b):=λa b ha hb=>by
    unfold KY;rw[Of hxb (h.YV a ha).1,Of hxb (h.YV b hb).1,iK (dd a ha),iK (dd b hb)]
   have Um:KA (st.az.set x.toNat v) st.s:=λk k1 k2 hk=>h.hp k k1 k2 ((ao8 _ _ (qL.2 ⟨k,k2,rfl⟩) (qL.2 ⟨_,by omega,rfl⟩)).1 hk);have hs:Hk (yy st.s x) (C2 (st.az.set x.toNat v) st.s x):=QL (by simp[yy]);have pq:∀e,e∈(C2 (st.az.set x.toNat v) st.s x).heap↔e∈st.s.heap\/e=⟨x,st.s.next,st.s.xo⟩:=λe=>(hs.mem e).trans (by simp[yy]);have XA:(C2 (st.az.set x.toNat v) st.s x).next=st.s.next+1:=hs.next;have aiQ:(C2 (st.az.set x.toNat v) st.s x).xo=st.s.xo+1:=hs.xo;have zw:∀y:Nat,y<n->(st.u7.set x.toNat st.s.next).getD y 0=if y=x.toNat then st.s.next else st.u7.getD y 0:=λy hy=>H4 (by have:=h.lh;omega)
   have Rv:=h.nc;refine⟨by simp[h.lb],h.lf,by simp[h.lh],(acx (abp (h.ok.of Zw) (by rw[Zw];exact hxb)) (by simp[yy])).1,acW h.pl (λe he=>?_),agy Um,λe he=>?_,λy hy vy fI=>?_,λy hy vy=>?_,λy hy vy=>?_,λy hy=>?_, ?_,Rz⟩
   .obtain⟨a1,a2,a3,a4,a5⟩:=h.YV e he;have:=h.nx e.x.toNat (by omega);omega
   .rcases(pq e).1 he with he|rfl
    .obtain⟨a1,a2,a3,a4,a5⟩:=h.YV e he;refine⟨a1,a2,a3, ?_,a5⟩;simp only;rw[zw _ (by omega),iK]
     .exact a4
     .have:=dd e he;omega
    .refine⟨hx.1,hx.2,c1, ?_,Rv.1⟩;simp only;rw[zw _ (by omega),ee rfl]
   .simp only at vy;rw[zw y hy]at vy;split at vy
    .rename_i e;exact⟨_,(pq _).2 (.inr rfl),by simp only;omega⟩
    .obtain⟨e,he,hey⟩:=h.inn y hy vy fI;exact⟨e,(pq e).2 (.inl he),hey⟩
   .simp only at vy;rw[zw y hy]at vy;split at vy
    .omega
    .rename_i e;have:=h.old y hy vy;refine⟨this.1, ?_⟩;simp only;rw[hbd y hy,iK e];exact this.2
   .simp only at vy⊢;rw[zw y hy]at vy;rw[hbd y hy];split
    .omega
    .rename_i e;rw[iK e]at vy;exact h.acX y hy vy
   .show(st.u7.set x.toNat st.s.next).getD y 0<(C2 (st.az.set x.toNat v) st.s x).next;rw[zw y hy,XA];have:=h.nx y hy;split<;>omega
   .simp only[XA,aiQ];omega
def P9(h:WF n st){x:Int}(hx:0<=x/\x<n)(v:cX):(jX st x v).s.xo<=st.s.xo+1:=by
 unfold jX;split
 .omega
 .rename_i hc;simp only[Zds,Decidable.not_not]at hc;obtain⟨c1,c2,c3⟩:=hc;have c1:st.dM.getD x.toNat false=false:=by simpa using c1
  split
  .rename_i hh;obtain⟨e,he,Tj⟩:=h.inn x.toNat (by omega) hh c1;obtain⟨i,hi,rfl⟩:=qL.1 he;have Tj:(st.s.e i).x=x:=by omega
   have hd:st.u7.getD x.toNat 0=(st.s.e i).h:=by rw[<-Tj];exact(h.YV _ he).2.2.2.1
   rw[hd];have hs:=abo (az:=st.az.set x.toNat v) (x:=x) h.pl hi;exact Int.le_of_eq hs.xo
  .have hs:Hk (yy st.s x) (C2 (st.az.set x.toNat v) st.s x):=QL (by simp[yy]);exact Int.le_of_eq hs.xo
def Tx(st:nD)(x:Int)(v:cX):Prop:=
 (0<=x/\x<st.az.length)/\st.dM.length=st.az.length/\st.u7.length=st.az.length/\mG v/\
  (¬(st.dM.getD x.toNat false=true\/v.aA>=1099511627776\/¬v.lt (bv st.az x))->
   if 0<=st.u7.getD x.toNat 0 then ZB st.s (st.az.set x.toNat v) (st.u7.getD x.toNat 0) x else YW st.s (st.az.set x.toNat v) x)
def WF.Tx(h:WF n st){x:Int}(hx:0<=x/\x<n){v:cX}(hv:mG v)(hn:n<=1000)(hc:st.s.xo<=1000000000000):Tx st x v:=by
 have hxb:0<=x/\x<st.az.length:=by have:=h.lb;omega
 refine⟨hxb,by rw[h.lf,h.lb],by rw[h.lh,h.lb],hv,λc=>?_⟩;simp only[Zds,Decidable.not_not]at c;obtain⟨c1,c2,c3⟩:=c;have c1:st.dM.getD x.toNat false=false:=by simpa using c1
 have hl:=h.len;have Rv:=h.nc;have Zw:(st.az.set x.toNat v).length=st.az.length:=by simp
 split
 .rename_i hh;obtain⟨e,he,Tj⟩:=h.inn x.toNat (by omega) hh c1;obtain⟨i,hi,rfl⟩:=qL.1 he;have Tj:(st.s.e i).x=x:=by omega
  have hd:st.u7.getD x.toNat 0=(st.s.e i).h:=by rw[<-Tj];exact(h.YV _ he).2.2.2.1
  rw[hd];exact aiN (h.ok.of Zw) h.pl hi (by rw[Zw];exact hxb) (by omega) (by omega)
 .exact⟨h.ok.of Zw,by rw[Zw];exact hxb,by omega,by omega,by omega⟩
def aeh{s:Qs}(dd:s.heap≠[])(e:JG):e∈(ww az s).heap↔∃k:Nat,0<k/\k<s.heap.length/\s.e k=e:=by
 have Zh:0<s.heap.length:=Gr.2 dd;have hl:(zG s).heap.length=s.heap.length-1:=by
  simp only[zG,Ee,Qs.s8];omega
 unfold ww;rw[iK dd,((EG rfl).mem e),qL,hl];constructor
 .rintro⟨k,hk,rfl⟩;rw[S8 hk];split
  .exact⟨s.heap.length-1,by omega,by omega,rfl⟩
  .exact⟨k,by omega,by omega,rfl⟩
 .rintro⟨k,k1,k2,rfl⟩;by_cases hk:k=s.heap.length-1
  .refine⟨0,by omega, ?_⟩;rw[S8 (by omega),ee rfl,hk]
  .refine⟨k,by omega, ?_⟩;rw[S8 (by omega),iK (by omega)]
def WF.Ua(h:WF n st)(hn:n<=1000):Ua st.s st.az:=⟨h.ok,h.pl.nd,by have:=h.len;omega⟩
def WF.pop(h:WF n st)(dd:st.s.heap≠[]):WF n (DH st):=by
 have Zh:0<st.s.heap.length:=Gr.2 dd;obtain⟨x,hx⟩:=aY ((st.s.e 0).x);have hx0:(st.s.e (0:Nat)).x=x:=hx;obtain⟨a1,a2,a3,a4,a5⟩:=h.YV _ (qL.2 ⟨0,Zh,rfl⟩);rw[hx0]at a1 a2 a3 a4;unfold DH;rw[hx];have hs:Hk (zG st.s) (ww st.az st.s):=by unfold ww;rw[iK dd];exact EG rfl
 have hfd:∀y:Nat,y<n->(st.dM.set x.toNat true).getD y false=if y=x.toNat then true else st.dM.getD y false:=λy hy=>H4 (by have:=h.lf;omega)
 have XA:(ww st.az st.s).next=st.s.next:=hs.next;have aiQ:(ww st.az st.s).xo=st.s.xo:=hs.xo;refine⟨h.lb,by simp[h.lf],h.lh, ?_,agF h.pl,aiL h.hp,λe he=>?_,λy hy vy fI=>?_,λy hy vy=>?_,h.acX,λy hy=>?_, ?_,h.bo⟩
 .show(ww st.az st.s).ok st.az;unfold ww;rw[iK dd];exact adR rfl (aei h.ok h.pl.nd Zh)
 .obtain⟨k,k1,k2,rfl⟩:=(aeh dd e).1 he;obtain⟨b1,b2,b3,b4,b5⟩:=h.YV _ (qL.2 ⟨k,k2,rfl⟩);refine⟨b1,b2, ?_,b4,b5⟩;simp only;rw[hfd _ (by omega),iK]
  .exact b3
  .intro e;have:=h.XG k2 Zh (by rw[hx0];omega);omega
 .simp only at fI vy;rw[hfd y hy]at fI;split at fI
  .cases fI
  .rename_i hyx;obtain⟨e,he,hey⟩:=h.inn y hy vy fI;obtain⟨k,hk,rfl⟩:=qL.1 he;refine⟨_,(aeh dd _).2 ⟨k, ?_,hk,rfl⟩,hey⟩;rcases Zc1 k with rfl|Fh
   .rw[hx0]at hey;omega
   .exact Fh
 .have:=h.old y hy vy;simp only at vy⊢;refine⟨?_,this.2⟩;rw[hfd y hy,iK]
  .exact this.1
  .rintro rfl;omega
 .show st.u7.getD y 0<(ww st.az st.s).next;rw[XA];exact h.nx y hy
 .show 0<=(ww st.az st.s).next/\(ww st.az st.s).next<=(ww st.az st.s).xo;rw[XA,aiQ];exact h.nc
end
end
def sA(r:bC)(x:Int):Prop:=(r.kind=3/\r.a=x)\/(r.kind=4/\(r.a=x\/r.b=x))
instance(r:bC)(x:Int):Decidable (sA r x):=by unfold sA;infer_instance
def t86(r:bC)(x:Int):aJ ak 181 [.agg r.enc,ti x] (.bool (decide (sA r x))):=by
 obtain⟨k,h,a,b,p,o⟩:=r;obtain⟨c1,bN⟩:=aY (decide (sA ⟨k,h,a,b,p,o⟩ x):Bool);rw[bN];simp only[sA]at bN;have bb:=J2;refine c86.ok (by simp) (aH ?_);simp[bC.enc];apply aa.ai bb fw [1,2];simp[axo];refine aa.lk (o:=[]) (l:=[(1,.v (ti x)),(2,.v (.box [ti k,ti h,ti a,ti b,ti p,ti o]))]) (bn:=1200) (by simp) ?_;refine aa.bL bb fw [(4,.v (.bool c1))] ?_ ?_
 .by_cases q1:k=3
  .have q4:¬(3:Int)=4:=by omega
   subst q1;by_cases q2:a=x
   .have:c1=true:=by rw[<-bN];simp[q2]
    simp[XT,q2,this]
   .have:c1=false:=by rw[<-bN];simp[q2]
    simp[XT,q2,this]
  .by_cases q4:k=4
   .subst q4;by_cases q2:a=x
    .have:c1=true:=by rw[<-bN];simp[q2]
     simp[XT,q2,this]
    .by_cases q3:b=x
     .have:c1=true:=by rw[<-bN];simp[q3]
      simp[XT,q2,q3,this]
     .have:c1=false:=by rw[<-bN];simp[q2,q3]
      simp[XT,q2,q3,this]
   .have:c1=false:=by rw[<-bN];simp[q1,q4]
    simp[XT,q1,q4,this]
 apply aa.ret;simp[dI]
abbrev s86:DM.Spec:=bp (λts=>∃k h a b p o x,ts=[.agg [ti k,ti h,ti a,ti b,ti p,ti o],ti x]) (fun|[.agg [.int _ k,.int _ h,.int _ a,.int _ b,.int _ p,.int _ o],.int _ x]=>.bool (decide (sA ⟨k,h,a,b,p,o⟩ x))|_=>.bool false) true
def aAr{l:List (Nat×DM.Spec)}(h:aw ak (bz l)):aw ak (bz ((181,s86)::l)):=by
 refine aw.cons h ?_;rintro ts ⟨k,h,a,b,p,o,x,rfl⟩;exact⟨by simpa [bC.enc]using t86 ⟨k,h,a,b,p,o⟩ x,λ_=>rfl⟩
def wd(z:mW)(a:bF):Prop:=a.f>z.fr\/(a.f=z.fr/\a.t>=z.to)
instance(z:mW)(a:bF):Decidable (wd z a):=by unfold wd;infer_instance
def lg(f:bS)(b:Nat):Nat:=match f b with
 |some (.box [.ptr p _])=>p
 |_=>0
def aAs{f0:bS}{b p N i:Nat}{v:SV}(hN:∀r,N<=r->f0 r=none)(hb:f0 b=some (.box [.ptr p 0]))(hv:v.at f0 p)(hi:i<v.z.l.aK.length):
  ce ak 208 [.v (ti i),.ptr b 0] f0 ⟨True,.v (.bool (decide (wd v.z (v.z.l.aK.getD i default)))),f0⟩:=by
 obtain⟨R,hR⟩:=aY (decide (wd v.z (v.z.l.aK.getD i default)));rw[hR];have bb:=J2;refine aAk.Ie hN (by simp) λc9=>?_;have h1:=hv.sp;have K4:p<N:=(c9 p _ h1).1;have zV:b<N:=(c9 b _ hb).1;simp only[JO]at h1;have np:∀k,p≠N+k:=λk=>by omega
 have nb:∀k,b≠N+k:=λk=>by omega
 have rr:=r8 hi;obtain⟨⟨af,dC,ae,ac,ao⟩,hx⟩:=aY (v.z.l.aK.getD i default);rw[hx]at rr;simp only[hx,wd]at hR;simp only[bF.enc]at rr;simp;apply aa.ai bb fw [0,1];simp[awl];apply aa.ai bb fw [1,4];simp[awn,hb,h1,hi,rr];refine aa.le (FW (l:=[(1,.ptr b 0),(4,.v (.box [ti af,ti dC,ti ae,ti ac,.sl (ca ao)]))]) (bn:=N+2000) c9 (by omega) (by simp;omega) ?_) ?_
 .simp[pn,hb];exact j8 (l:=[]) c9 (by omega) (by simp)
 refine aa.bL bb fw [(3,.v (.bool R))] ?_ ?_
 .by_cases q1:af>v.z.fr
  .have:R=true:=by rw[<-hR];simp[q1]
   simp[YE,hb,h1,q1,this]
  .by_cases q2:af=v.z.fr
   .subst q2;by_cases q3:dC>=v.z.to
    .have:R=true:=by rw[<-hR];simp[q3]
     simp[YE,hb,h1,q3,this]
    .have:R=false:=by rw[<-hR];simp[q3]
     simp[YE,hb,h1,q3,this]
   .have:R=false:=by rw[<-hR];simp[q1,q2]
    simp[YE,hb,h1,q1,q2,this]
 apply aa.ret;simp[dI];rfl
noncomputable def acR:bW->bS->iw
 |[.v (.int .i64 i),.ptr b 0],f=>⟨f b=some (.box [.ptr (lg f b) 0])/\(∃v:SV,v.at f (lg f b))/\0<=i/\i<(fu f (lg f b)).z.l.aK.length,.v (.bool (decide (wd (fu f (lg f b)).z ((fu f (lg f b)).z.l.aK.getD i.toNat default)))),f⟩
 |_,f=>⟨False,.undef,f⟩
def an6{v:SV}{f:bS}{b p:Nat}{i:Int}(hb:f b=some (.box [.ptr p 0]))(hv:v.at f p):acR [.v (ti i),.ptr b 0] f=⟨0<=i/\i<v.z.l.aK.length,.v (.bool (decide (wd v.z (v.z.l.aK.getD i.toNat default)))),f⟩:=by
 have hx:∃v:SV,v.at f p:=⟨v,hv⟩;have hd:lg f b=p:=by simp[lg,hb]
 simp only[acR,hd,OG hv,hx,hb,Em]
def an7:∀args ab,(acR args ab).ok->(∀N,(∀r,N<=r->ab r=none)->ce ak 208 args ab (acR args ab))/\∀r,ab r=none->(acR args ab).ab r=none:=by
 intro args ab h;unfold acR at h⊢;split at h
 .rename_i i b;obtain⟨hb,⟨v,hv⟩,i0,i1⟩:=h;rw[OG hv]at i1⊢;obtain⟨i,rfl⟩:=bX i0;exact⟨λN hN=>ce.of (aAs hN hb hv (by omega)) rfl rfl,λr hr=>hr⟩
 .exact h.elim
def ayW{l:List (Nat×DM.Spec)}(h:aw ak (bz l)):aw ak (bz ((208,fl acR)::l)):=aw.il h an7
def sx(z:mW):Nat:=z.l.aK.findIdx λa=>decide (wd z a)
def mono(z:mW):Prop:=∀i j:Nat,i<=j->j<z.l.aK.length->wd z (z.l.aK.getD i default)->wd z (z.l.aK.getD j default)
def awO{z:mW}{k:Nat}(hk:k<=z.l.aK.length)(h1:∀i,i<k->¬wd z (z.l.aK.getD i default))(h2:k<z.l.aK.length->wd z (z.l.aK.getD k default)):sx z=k:=by
 unfold sx;by_cases hl:k<z.l.aK.length
 .rw[List.findIdx_eq hl];refine⟨?_,λj hj=>?_⟩
  .have:=h2 hl;simpa [List.getD,hl]using this
  .have Ia:j<z.l.aK.length:=by omega
   have:=h1 j hj;simpa [List.getD,Ia]using this
 .obtain rfl:k=z.l.aK.length:=by omega
  rw[List.findIdx_eq_length];intro x hx;obtain⟨i,hi,rfl⟩:=OQ hx;have:=h1 i hi;simpa [List.getD,hi]using this
def aAt{f0:bS}{b p N:Nat}{v:SV}(hN:∀r,N<=r->f0 r=none)(hb:f0 b=some (.box [.ptr p 0]))(hv:v.at f0 p)(hm:mono v.z)(hl:v.z.l.aK.length<=1000000000):
  ce ak 207 [.v (ti v.z.l.aK.length),.AI (.func 208) [.ptr b 0]] f0 ⟨True,.v (ti (sx v.z)),f0⟩:=by
 obtain⟨n,hn⟩:=aY v.z.l.aK.length;rw[hn]at hl⊢;have bb:=ayW aw.nil;refine aAi.Ie hN (by simp) λc9=>?_;have zV:b<N:=(c9 b _ hb).1;have k1:=λi=>an6 (i:=i) hb hv;simp;apply aa.ai bb fw [0,1];simp[avQ];apply aa.ai bb fw [1,5,6];simp[avR];apply aa.seq;apply aa.block;refine aa.loop (λq:Nat×Nat=>⟨DM.look [(1,.AI (.func 208) [.ptr b 0]),(5,.v (ti q.1)),(6,.v (ti q.2))],dA [] f0,N+1000,N,[]⟩)
  (λq=>q.1<=q.2/\q.2<=n/\(∀i,i<q.1->¬wd v.z (v.z.l.aK.getD i default))/\(∀i,q.2<=i->i<n->wd v.z (v.z.l.aK.getD i default))) (λq=>q.2-q.1) (0,n) (FW c9 (by omega) (by simp) ?_) ⟨by simp,by simp,λi hi=>by simp at hi,λi h1 h2=>by simp at h1;omega⟩ (λq hq=>?_)
 .simp[hb]
 obtain⟨lo,hi⟩:=q;obtain⟨q1,q2,q3,q4⟩:=hq;simp only at q1 q2 q3 q4;apply aa.sq bb fw [1,5,6,11];simp[avS];refine aa.cond rfl (λg=>?_) (λg=>?_)
 .have g:lo<hi:=by simpa using g
  have w1:IntKind.i64.wrap ((lo:Int)+hi)=(lo:Int)+hi:=av (by omega);obtain⟨md,hmd⟩:=aY ((lo+hi)/2);apply aa.skip;simp;apply aa.block;apply aa.ai bb fw [1,5,6,7];have hu:IntKind.u64.wrap ((lo:Int)+hi)=(lo:Int)+hi:=by
   unfold IntKind.wrap;simp[IntKind.signed,IntKind.bits];omega
  have w2:IntKind.i64.wrap (IntKind.u64.wrap ((lo:Int)+hi)/2^min 1 IntKind.u64.bits)=md:=by
   rw[hu,show min 1 IntKind.u64.bits=1 from rfl,av (by omega)];omega
  have aAO:lo<=md/\md<hi:=by omega
  simp[av4,w1,w2];obtain⟨c1,bN⟩:=aY (decide (wd v.z (v.z.l.aK.getD md default)):Bool);have gD:=k1 md;simp only[gN,bN]at gD;have Q9:md<v.z.l.aK.length:=by omega
  apply aa.ai bb fw [1,5,6,7,21];rw[show dA [] f0=f0 from rfl];simp[awe,gD,Q9];refine aa.cond rfl (λg2=>?_) (λg2=>?_)
  .have g2:c1=false:=by simpa using g2
   subst g2;have h3:=uF bN;have w3:IntKind.i64.wrap ((md:Int)+1)=((md+1:Nat):Int):=by rw[av (by omega)];omega
   apply aa.cZ bb fw [1,5,6];simp[awg,w3];refine⟨md+1,hi,FW (L:=[]) c9 (by omega) (by simp) ?_,⟨by omega,by omega,λi hi3 hp=>h3 (hm i md (by omega) Q9 (by simpa using hp)),λi h4 h5=>by simpa using q4 i h4 h5⟩,by omega⟩;simp[hb]
  .have g2:c1=true:=by simpa using g2
   subst g2;have h3:=BN bN;apply aa.cZ bb fw [1,5,6];simp[awh];refine⟨lo,md,FW (L:=[]) c9 (by omega) (by simp) ?_,⟨by omega,by omega,λi hi3=>by simpa using q3 i hi3,λi h4 h5=>by simpa using hm md i h4 (by omega) h3⟩,by omega⟩;simp[hb]
 .have g:¬lo<hi:=by simpa using g
  have he:lo=hi:=by omega
  subst he;have hL:sx v.z=lo:=awO (by omega) q3 λh=>q4 lo (gJ _) (by omega);apply aa.exit;simp;apply aa.ai bb fw [4];simp[awk,hL];apply aa.ret;simp[dI];rfl
noncomputable def acS:bW->bS->iw
 |[.v (.int .i64 n),.AI (.func 208) [.ptr b 0]],f=>⟨f b=some (.box [.ptr (lg f b) 0])/\(∃v:SV,v.at f (lg f b))/\n=(fu f (lg f b)).z.l.aK.length/\mono (fu f (lg f b)).z/\(fu f (lg f b)).z.l.aK.length<=1000000000,.v (ti (sx (fu f (lg f b)).z)),f⟩
 |_,f=>⟨False,.undef,f⟩
def an8{v:SV}{f:bS}{b p:Nat}{n:Int}(hb:f b=some (.box [.ptr p 0]))(hv:v.at f p):acS [.v (ti n),.AI (.func 208) [.ptr b 0]] f=⟨n=v.z.l.aK.length/\mono v.z/\v.z.l.aK.length<=1000000000,.v (ti (sx v.z)),f⟩:=by
 have hx:∃v:SV,v.at f p:=⟨v,hv⟩;have hd:lg f b=p:=by simp[lg,hb]
 simp only[acS,hd,OG hv,hx,hb,Em]
def ao7:∀args ab,(acS args ab).ok->(∀N,(∀r,N<=r->ab r=none)->ce ak 207 args ab (acS args ab))/\∀r,ab r=none->(acS args ab).ab r=none:=by
 intro args ab h;unfold acS at h⊢;split at h
 .rename_i n b;obtain⟨hb,⟨v,hv⟩,hn,hm,hl⟩:=h;rw[OG hv]at hn hm hl⊢;subst hn;exact⟨λN hN=>ce.of (aAt hN hb hv hm hl) rfl rfl,λr hr=>hr⟩
 .exact h.elim
def ayX{l:List (Nat×DM.Spec)}(h:aw ak (bz l)):aw ak (bz ((207,fl acS)::l)):=aw.il h ao7
def Zi(z:mW)(a:bF):Prop:=a.f=z.fr/\a.t=z.to
instance(z:mW)(a:bF):Decidable (Zi z a):=by unfold Zi;infer_instance
def Hd(z:mW):Nat:=sx z+(z.l.aK.drop (sx z)).findIdx λa=> !decide (Zi z a)
def awP{z:mW}{k:Nat}(h0:sx z<=k)(hk:k<=z.l.aK.length)(h1:∀i,sx z<=i->i<k->Zi z (z.l.aK.getD i default))(h2:k<z.l.aK.length->¬Zi z (z.l.aK.getD k default)):Hd z=k:=by
 unfold Hd;have u7:(z.l.aK.drop (sx z)).length=z.l.aK.length-sx z:=OJ ..
 suffices (z.l.aK.drop (sx z)).findIdx (λa=> !decide (Zi z a))=k-sx z by omega
 by_cases hl:k<z.l.aK.length
 .rw[List.findIdx_eq (by omega)];refine⟨?_,λj hj=>?_⟩
  .have:=h2 hl;rw[ZM];simpa [List.getD,hl,show sx z+(k-sx z)=k by omega]using this
  .have Ia:sx z+j<z.l.aK.length:=by omega
   have:=h1 (sx z+j) (by omega) (by omega);rw[ZM];simpa [List.getD,Ia]using this
 .obtain rfl:k=z.l.aK.length:=by omega
  rw[<-u7,List.findIdx_eq_length];intro x hx;obtain⟨i,hi,rfl⟩:=OQ hx;rw[u7]at hi;have sW:sx z+i<z.l.aK.length:=by omega
  have:=h1 (sx z+i) (by omega) (by omega);rw[ZM];simpa [List.getD,sW]using this
def aiK(z:mW):sx z<=z.l.aK.length:=List.findIdx_le_length
def t80{f0:bS}{p N:Nat}{v:SV}(hN:∀r,N<=r->f0 r=none)(hv:v.at f0 p)(hm:mono v.z)(hl:v.z.l.aK.length<=1000000000):
  ce ak 176 [.ptr p 0] f0 ⟨True,.v (.dh [ti (sx v.z),ti (Hd v.z)]),f0⟩:=by
 have bb:=ayX aw.nil;refine c80.Ie hN (by simp) λc9=>?_;have h1:=hv.sp;have K4:p<N:=(c9 p _ h1).1;simp only[JO]at h1;have np:∀k,p≠N+k:=λk=>by omega
 have zD:∃cs,f0 p=some (.box cs):=⟨_,h1⟩;obtain⟨lo,hlo⟩:=aY (sx v.z);have hll:=aiK v.z;rw[hlo]at hll⊢;simp;apply aa.ai bb fw [1];simp[axX];refine aa.le (Le.iy (l1:=[(N+2,.box [.ptr p 0])]) (l:=[(1,.ptr (N+2) 0)]) (bn:=N+500) c9 ?_ ?_ ?_ ?_ ?_) ?_
 .omega
 .simp
 .simp[cY,pn]
 .simp[kp,kq,np,pn,zD]
 .simp[pn]
 have nk:v.at (dA [(N+2,.box [.ptr p 0])] f0) p:=hv.dA c9 (by simp);have k1:=λn=>an8 (n:=n) (b:=N+2) (f:=dA [(N+2,.box [.ptr p 0])] f0) (by simp) nk;rw[hlo]at k1;apply aa.uG bb fw (rs:=aid) pV (by kernel_rfl) [1,4];simp[aid,h1,np,k1,hm,hl];have io:∀{tm aP bn l},N+3<=bn->oM (dA [(N+2,.box [.ptr p 0])] f0) (dA [(N+2,.box [.ptr p 0])] f0) id tm l->Le ⟨tm,dA [(N+2,.box [.ptr p 0])] f0,aP,N,[]⟩ ⟨DM.look l,dA [(N+2,.box [.ptr p 0])] f0,bn,N,[]⟩:=by
  intro tm aP bn l hn nJ;refine Le.iy c9 (by omega) ?_ ?_ ?_ nJ
  .simp;omega
  .simp[cY]
  .simp[kp,kq,np,zD]
 apply aa.ai bb fw [1,4,5];simp[axY];apply aa.seq;apply aa.block;refine aa.loop (λj:Nat=>⟨DM.look [(1,.ptr (N+2) 0),(4,.v (ti lo)),(5,.v (ti j))],dA [(N+2,.box [.ptr p 0])] f0,N+1000,N,[]⟩)
  (λj=>lo<=j/\j<=v.z.l.aK.length/\∀i,lo<=i->i<j->Zi v.z (v.z.l.aK.getD i default)) (λj=>v.z.l.aK.length-j) lo (io (by omega) ?_) ⟨gJ _,hll,λi a b=>by omega⟩ (λj hj=>?_)
 .simp
 obtain⟨j1,j2,j3⟩:=hj;obtain⟨c1,bN⟩:=aY (decide (j<v.z.l.aK.length/\Zi v.z (v.z.l.aK.getD j default)):Bool);apply aa.seq;refine aa.bL bb fw [(1,.ptr (N+2) 0),(4,.v (ti lo)),(5,.v (ti j)),(54,.v (.bool c1))] ?_ ?_
 .by_cases q1:j<v.z.l.aK.length
  .have rr:=r8 q1;obtain⟨⟨af,dC,ae,ac,ao⟩,hx⟩:=aY (v.z.l.aK.getD j default);rw[hx]at rr bN;simp only[bF.enc]at rr;simp only[Zi]at bN;by_cases q2:af=v.z.fr
   .by_cases q3:dC=v.z.to
    .have:c1=true:=by rw[<-bN];simp[q1,q2,q3]
     simp[adE,h1,np,q1,rr,q2,q3,this]
    .have:c1=false:=by rw[<-bN];simp[q3]
     simp[adE,h1,np,q1,rr,q2,q3,this]
   .have:c1=false:=by rw[<-bN];simp[q2]
    simp[adE,h1,np,q1,rr,q2,this]
  .have:c1=false:=by rw[<-bN];simp;omega
   simp[adE,h1,np,q1,this]
 refine aa.cond rfl (λg=>?_) (λg=>?_)
 .have g:c1=true:=by simpa using g
  subst g;obtain⟨g1,g2⟩:=BN bN;have w1:IntKind.i64.wrap ((j:Int)+1)=((j+1:Nat):Int):=by rw[av (by omega)];omega
  apply aa.skip;simp;apply aa.block;apply aa.cZ bb fw [1,4,5];simp[axZ,w1];refine⟨j+1,io (by omega) ?_,⟨by omega,by omega,λi a b=>?_⟩,by omega⟩
  .simp
  .by_cases e:i=j
   .subst e;simpa using g2
   .simpa using j3 i a (by omega)
 .have g:c1=false:=by simpa using g
  subst g;have hn:=uF bN;have hH:Hd v.z=j:=awP (by omega) j2 (by rw[hlo];exact j3) λh hp=>hn ⟨h,hp⟩;rw[hH];apply aa.exit;simp;apply aa.ai bb fw [2,3];simp[ax0];refine aa.le (FW (l:=[(2,.v (ti lo)),(3,.v (ti j))]) (bn:=N+6000) c9 (by omega) (by simp) ?_) ?_
  .simp
  apply aa.ret;simp[aih];rfl
noncomputable def k80:bW->bS->iw
 |[.ptr p 0],f=>⟨(∃v:SV,v.at f p)/\mono (fu f p).z/\(fu f p).z.l.aK.length<=1000000000,.v (.dh [ti (sx (fu f p).z),ti (Hd (fu f p).z)]),f⟩
 |_,f=>⟨False,.undef,f⟩
def awQ{v:SV}{f:bS}{p:Nat}(hv:v.at f p):k80 [.ptr p 0] f=⟨mono v.z/\v.z.l.aK.length<=1000000000,.v (.dh [ti (sx v.z),ti (Hd v.z)]),f⟩:=by
 have hx:∃v:SV,v.at f p:=⟨v,hv⟩;simp only[k80,OG hv,hx,Em]
def awR:∀args ab,(k80 args ab).ok->(∀N,(∀r,N<=r->ab r=none)->ce ak 176 args ab (k80 args ab))/\∀r,ab r=none->(k80 args ab).ab r=none:=by
 intro args ab h;unfold k80 at h⊢;split at h
 .rename_i p;obtain⟨⟨v,hv⟩,hm,hl⟩:=h;rw[OG hv]at hm hl⊢;exact⟨λN hN=>ce.of (t80 hN hv hm hl) rfl rfl,λr hr=>hr⟩
 .exact h.elim
def aAu{l:List (Nat×DM.Spec)}(h:aw ak (bz l)):aw ak (bz ((176,fl k80)::l)):=aw.il h awR
section
variable{z:mW}{r:bC}{az:List cX}
abbrev mm:=Int×Int×List It
def Ga(z:mW)(r:bC)(i:Nat):Option mm:=if(z.l.aK.getD i default).term=r.a then some ((i:Int),r.bi+(z.l.aK.getD i default).aA,[])else none
def C8(z:mW)(r:bC)(m:Int):mm:=(m,r.bi,[(r.a,z.fr,m),(r.b,m,z.to)])
def ew(z:mW)(r:bC):List mm:=
 if r.kind=1 then(if z.fr=z.to then [(z.fr,r.bi,[])]else [])
 else if r.kind=2 then(List.range' (sx z) (Hd z-sx z)).filterMap (Ga z r)
 else if r.kind=3 then [(z.fr,r.bi,[(r.a,z.fr,z.to)])]
 else if r.kind=4 then(List.range ((z.to-z.fr).toNat+1)).map λ(d:Nat)=>C8 z r (z.fr+(d:Int))
 else []
def iq(z:mW)(r:bC):List mm:=if r.kind=4 then [C8 z r z.fr,C8 z r z.to]else ew z r
def D0(z:mW)(dM:List Bool)(i:mm):Prop:=∀x∈i.2.2,wR z x->dM.getD x.1.toNat false=true
abbrev D6(z:mW)(az:List cX)(i:mm):cX:=uq z az i.2.1 i.2.2
def Kl(z:mW):sx z<=Hd z/\Hd z<=z.l.aK.length:=by
 have:=aiK z;unfold Hd;have h:(z.l.aK.drop (sx z)).findIdx (λa=> !decide (Zi z a))<=(z.l.aK.drop (sx z)).length:=List.findIdx_le_length;rw[OJ]at h;omega
def abq{i:Nat}(h1:sx z<=i)(h2:i<Hd z):Zi z (z.l.aK.getD i default):=by
 have hh:=(Kl z).2;have h3:i-sx z<(z.l.aK.drop (sx z)).findIdx (λa=> !decide (Zi z a)):=by unfold Hd at h2;omega
 have:=List.not_of_lt_findIdx h3;rw[ZM]at this;have hl:i<z.l.aK.length:=by omega
 simpa [List.getD,hl,show sx z+(i-sx z)=i by omega]using this
def aiR(hm:mono z)(hs:∀i j:Nat,i<=j->j<z.l.aK.length->sx z<=i->Zi z (z.l.aK.getD j default)->Zi z (z.l.aK.getD i default)){i:Nat}(hi:i<z.l.aK.length)(h:Zi z (z.l.aK.getD i default)):sx z<=i/\i<Hd z:=by
 have hp:wd z (z.l.aK.getD i default):=.inr ⟨h.1,by have:=h.2;omega⟩;have h1:sx z<=i:=by
  rcases Zdg i (sx z)with cQ|Ba
  .have:=List.not_of_lt_findIdx cQ;have e:z.l.aK.getD i default=z.l.aK[i]:=by simp[List.getD,hi]
   rw[e]at hp;exact qe hp (by simpa using this)
  .exact Ba
 refine⟨h1, ?_⟩;rcases Zdg i (Hd z)with cQ|Ba
 .exact cQ
 .exfalso;have hh:=(Kl z).2;have hl:Hd z<z.l.aK.length:=by omega
  have h2:(z.l.aK.drop (sx z)).findIdx (λa=> !decide (Zi z a))<(z.l.aK.drop (sx z)).length:=by
   rw[OJ];unfold Hd at hl;omega
  have h3:=List.findIdx_getElem (w:=h2);rw[ZM]at h3;have h4:=hs (Hd z) i Ba hi (Kl z).1 h;simp only[AF,mD]at h3;apply h3;have e:z.l.aK.getD (Hd z) default=z.l.aK[Hd z]:=by simp[List.getD,hl]
  rw[e]at h4;exact h4
def Oi(yF:z.fr<=z.to){i:mm}(h:i∈iq z r):i∈ew z r:=by
 unfold iq at h;split at h
 .rename_i hk;unfold ew;rw[iK (by omega),iK (by omega),iK (by omega),ee hk,sE];simp only[jv,qg,AZ]at h;rcases h with rfl|rfl
  .exact⟨0,by simp,by simp⟩
  .exact⟨(z.to-z.fr).toNat,by simp,by rw[show z.fr+((z.to-z.fr).toNat:Int)=z.to by omega]⟩
 .exact h
def aiS{i:mm}(h:i∈ew z r){x:It}(hx:x∈i.2.2)(hi:wR z x):i∈iq z r/\sA r x.1:=by
 unfold ew at h;split at h
 .split at h
  .simp only[jv,qg,AZ]at h;subst h;cases hx
  .cases h
 .split at h
  .obtain⟨k,_,hk⟩:=ZV.1 h;unfold Ga at hk;split at hk
   .cases hk;cases hx
   .cases hk
  .split at h
   .rename_i h1 h2 h3;simp only[jv,qg,AZ]at h;subst h;simp only[jv,qg,AZ]at hx;subst hx;refine⟨?_,.inl ⟨h3,rfl⟩⟩;unfold iq ew;rw[iK (by omega),iK h1,iK h2,ee h3];simp
   .split at h
    .rename_i h4;obtain⟨d,_,rfl⟩:=sE.1 h;unfold iq;rw[ee h4];simp only[C8,jv,qg,AZ]at hx;unfold wR at hi;rcases hx with rfl|rfl
     .refine⟨?_,.inr ⟨h4,.inl rfl⟩⟩;simp only at hi;rw[hi.2];simp
     .refine⟨?_,.inr ⟨h4,.inr rfl⟩⟩;simp only at hi;rw[hi.1];simp
    .cases h
def ahM{a b:List cX}{i:mm}(h:∀x∈i.2.2,wR z x->bv a x.1=bv b x.1):D6 z a i=D6 z b i:=by
 show gv _ _=gv _ _
 congr 1
 refine ZbN λx hx=>?_;unfold tq;split
 .rename_i e;exact h x hx e
 .rfl
def ao9{p:Int}(hp:0<=p){l:List cX}(hl:∀v∈l,mG v){w:cX}(hw:w∈l)(hw2:w.aA<1099511627776\/w.size=0):¬(gv p l).lt w:=by
 have key:∀(l:List cX),(∀v∈l,mG v)->∀(c s:Int),0<=c->0<=s->(∀w∈l,¬(dR c s l).lt w)/\(dR c s l).aA>=min c 1099511627776/\(dR c s l).size>=min s 1099511627776:=by
  intro l;induction l with
  |nil=>intro _ c s _ _;exact⟨λw hw=>(by cases hw),(by simp only[dR];omega),(by simp only[dR];omega)⟩
  |cons v l ih=>
   intro hl c s hc hs;obtain⟨v1,v2,v3,v4⟩:=hl v (by simp);obtain⟨i1,i2,i3⟩:=ih (λv hv=>hl v (by simp[hv])) (min (c+v.aA) 1099511627776) (min (s+v.size) 1099511627776) (by omega) (by omega);simp only[dR];refine⟨λw hw=>?_,by omega,by omega⟩;rcases jv.1 hw with rfl|hw
   .unfold cX.lt;omega
   .exact i1 w hw
 have:=(key l hl p 1 hp (by omega)).1 w hw;unfold gv;split
 .rename_i h;obtain⟨v1,v2,v3,v4⟩:=hl w hw;unfold cX.lt at this⊢;simp only at this⊢;omega
 .exact this
structure Kx(z:mW):Prop where
 hn:qf z.n
 hl:wB z.l
 hc:JT z.c
 ft:0<=z.fr/\z.fr<=z.to
def Oj(K:Kx z)(hr:r∈z.n.aj){i:mm}(hi:i∈ew z r):0<=i.2.1/\i.2.1<=4000000000000:=by
 obtain⟨q1,q2,q3,q4,q5⟩:=K.hn.2.2.2 r hr;unfold ew at hi;split at hi
 .split at hi
  .simp only[jv,qg,AZ]at hi;subst hi;simp only;omega
  .cases hi
 .split at hi
  .obtain⟨k,Fh,hk⟩:=ZV.1 hi;have:=(Kl z).2;have:=(Kl z).1;simp only[Zcs]at Fh;have yE:k<z.l.aK.length:=by omega
   unfold Ga at hk;split at hk
   .cases hk;have:=K.hl.2.2.2 _ (bu yE);simp only;omega
   .cases hk
  .split at hi
   .simp only[jv,qg,AZ]at hi;subst hi;simp only;omega
   .split at hi
    .obtain⟨d,_,rfl⟩:=sE.1 hi;simp only[C8];omega
    .cases hi
def Dt(K:Kx z)(hr:r∈z.n.aj){i:mm}(hi:i∈ew z r){x:It}(hx:x∈i.2.2):0<=x.1/\x.1<z.n.an:=by
 obtain⟨q1,q2,q3,q4,q5⟩:=K.hn.2.2.2 r hr;unfold ew at hi;split at hi
 .split at hi
  .simp only[jv,qg,AZ]at hi;subst hi;cases hx
  .cases hi
 .split at hi
  .obtain⟨k,Fh,hk⟩:=ZV.1 hi;unfold Ga at hk;split at hk
   .cases hk;cases hx
   .cases hk
  .split at hi
   .simp only[jv,qg,AZ]at hi;subst hi;simp only[jv,qg,AZ]at hx;subst hx;simp only;omega
   .split at hi
    .obtain⟨d,_,rfl⟩:=sE.1 hi;simp only[C8,jv,qg,AZ]at hx;rcases hx with rfl|rfl<;>simp only<;>omega
    .cases hi
def abr(K:Kx z)(hb:∀v∈az,mG v)(i:mm):∀v∈i.2.2.map (λx=>tq z az x.1 x.2.1 x.2.2),mG v:=by
 intro v hv;obtain⟨x,_,rfl⟩:=sE.1 hv;exact YQ K.hc hb _ _ _
def YX(K:Kx z)(hb:∀v∈az,mG v)(hr:r∈z.n.aj){i:mm}(hi:i∈ew z r):mG (D6 z az i):=by
 have:=Oj K hr hi;exact iv (abr K hb i) this.1 this.2
def aiT(K:Kx z)(hb:∀v∈az,mG v)(hr:r∈z.n.aj){i:mm}(hi:i∈ew z r){x:It}(hx:x∈i.2.2)(mX:wR z x)(xA:(bv az x.1).aA<1099511627776\/(bv az x.1).size=0):¬(D6 z az i).lt (bv az x.1):=by
 refine ao9 (Oj K hr hi).1 (abr K hb i) (sE.2 ⟨x,hx, ?_⟩) xA;unfold tq;exact ee mX
end
section
variable{h:Int}{r:bC}
def K1(st:nD)(x:Int):Bool:=st.dM.getD x.toNat false
structure KN(z:mW)(st:nD):Prop where
 wf:WF z.n.an.toNat st
 ord:∀x y:Int,0<=x->x<z.n.an->0<=y->y<z.n.an->K1 st x=true->K1 st y=false->¬(bv st.az y).lt (bv st.az x)
 att:∀x:Int,0<=x->x<z.n.an->(bv st.az x).aA<1099511627776->∃(k:Nat) (r:bC),z.n.aj[k]? =some r/\r.head=x/\∃i∈ew z r,D0 z st.dM i/\D6 z st.az i=bv st.az x
 der:∀x:Int,0<=x->x<z.n.an->(bv st.az x).aA<1099511627776->Tq z.n z.l x z.fr.toNat z.to.toNat (bv st.az x)
def done(z:mW)(st:nD)(r:bC)(i:mm):Prop:=D0 z st.dM i->¬(D6 z st.az i).lt (bv st.az r.head)
section
variable{z:mW}{st:nD}
def Vv(st:nD)(x:Int):st.dM.getD x.toNat false=K1 st x:=rfl
def ve(K:Kx z)(W:WF z.n.an.toNat st)(hh:0<=h/\h<z.n.an){v:cX}{y:Int}(hy:0<=y):bv (jX st h v).az y=bv st.az y\/(y=h/\bv (jX st h v).az y=v/\K1 st h=false/\v.aA<1099511627776/\v.lt (bv st.az h)):=by
 rcases acY st h v with e|⟨e,h1,h2,h3⟩
 .rw[e];exact .inl rfl
 .rw[e,Of ⟨hh.1,by rw[W.lb];omega⟩ hy];split
  .rename_i e2;exact .inr ⟨e2,rfl,h1,h2,h3⟩
  .exact .inl rfl
def H5(K:Kx z)(W:WF z.n.an.toNat st)(hh:0<=h/\h<z.n.an){v:cX}(hr:r∈z.n.aj){i:mm}(hi:i∈ew z r)(hf:D0 z st.dM i):D6 z (jX st h v).az i=D6 z st.az i:=by
 refine ahM λx hx mX=>?_;rcases ve K W hh (v:=v) (Dt K hr hi hx).1 with e|⟨e,_,h1,_⟩
 .exact e
 .have:=hf x hx mX;rw[Vv,e,h1]at this;cases this
def aiV(K:Kx z)(W:WF z.n.an.toNat st)(hh:0<=h/\h<z.n.an){v w:cX}{y:Int}(hy:0<=y)(hw:¬w.lt (bv st.az y)):¬w.lt (bv (jX st h v).az y):=by
 rcases ve K W hh (v:=v) hy with e|⟨rfl,e,_,_,h3⟩
 .rw[e];exact hw
 .rw[e];unfold cX.lt at*
  omega
def KJ(K:Kx z)(W:WF z.n.an.toNat st)(hh:0<=h/\h<z.n.an){v:cX}(hr:r∈z.n.aj){i:mm}(hi:i∈ew z r)(hd:done z st r i):done z (jX st h v) r i:=by
 intro hf;rw[yi]at hf;rw[H5 K W hh hr hi hf];exact aiV K W hh (K.hn.2.2.2 r hr).1 (hd hf)
def apa(C:AU z.n z.l z.c z.fr.toNat z.to.toNat)(K:Kx z){az:List cX}(hb:∀v∈az,mG v)(hd:∀x:Int,0<=x->x<z.n.an->(bv az x).aA<1099511627776->Tq z.n z.l x z.fr.toNat z.to.toNat (bv az x))
  {k:Nat} (hk:z.n.aj[k]? =some r) {i:mm} (hi:i∈ew z r) (hf:(D6 z az i).aA<1099511627776):nu z.n z.l r.head z.fr.toNat z.to.toNat k i.1 (D6 z az i):=by
 have hr:r∈z.n.aj:=Hf hk;obtain⟨q1,q2,q3,q4,q5⟩:=K.hn.2.2.2 r hr;obtain⟨hf0,Z3⟩:=K.ft;obtain⟨s,hs⟩:=bX hf0;obtain⟨t,ht⟩:=bX (show 0<=z.to by omega);have es:z.fr.toNat=s:=by omega
 have et:z.to.toNat=t:=by omega
 have val:∀(x:Int) (a b:Nat),0<=x->x<z.n.an->s<=a->a<=b->b<=t->(tq z az x a b).aA<1099511627776->Tq z.n z.l x a b (tq z az x a b):=by
  intro x a b h0 h1 a1 a2 a3 hfv;unfold tq at hfv⊢;split
  .rename_i e;rw[ee e]at hfv;have e1:a=z.fr.toNat:=by omega
   have e2:b=z.to.toNat:=by omega
   rw[e1,e2];exact hd x h0 h1 hfv
  .rename_i e;rw[iK e]at hfv;rcases(C.inn x a b h0 h1 (by omega) a2 (by omega) (by omega)).top with e|⟨⟨k,_,d⟩,_⟩
   .rw[e]at hfv;exact qe hfv (by decide)
   .exact⟨k,_,d⟩
 have vok:∀(x a b:Int),mG (tq z az x a b):=λx a b=>YQ K.hc hb x a b;unfold ew at hi;split at hi
 .rename_i h1;split at hi
  .rename_i h2;simp only[jv,qg,AZ]at hi;subst hi;have e:z.to.toNat=z.fr.toNat:=by omega
   rw[e,show z.fr=(z.fr.toNat:Int)by omega];exact nu.empty hk h1 hf
  .cases hi
 .split at hi
  .rename_i h1;obtain⟨a,ha0,ha⟩:=ZV.1 hi;have:=Kl z;simp only[Zcs]at ha0;have mE:a<z.l.aK.length:=by omega
   have gG:=abq (z:=z) (i:=a) (by omega) (by omega);unfold Ga at ha;split at ha
   .rename_i ast;cases ha;exact nu.term hk h1 (a:=a) (x:=z.l.aK.getD a default) (by simp[List.getD,mE]) (by rw[gG.1];omega) (by rw[gG.2];omega) ast hf
   .cases ha
  .split at hi
   .rename_i h1;simp only[jv,qg,AZ]at hi;subst hi;have hf':(gv r.bi [tq z az r.a z.fr z.to]).aA<1099511627776:=hf;have hv:=Si q3 hf';have d:=val r.a s t (by omega) (by omega) (gJ _) (by omega) (gJ _) (by rw[<-hs,<-ht];exact hv);obtain⟨k1,g1,d1⟩:=d;rw[<-hs,<-ht]at d1;have:=nu.unary hk h1 d1 hf';rw[es,et];rw[hs]at this⊢;exact this
   .split at hi
    .rename_i h1;obtain⟨d,hd0,rfl⟩:=sE.1 hi;simp only[I0]at hd0;have hf':(gv r.bi [tq z az r.a z.fr (z.fr+(d:Int)),tq z az r.b (z.fr+(d:Int)) z.to]).aA<1099511627776:=hf;have hv:=Sj q3 (vok _ _ _).1 (vok _ _ _).1 hf';have em:z.fr+(d:Int)=((s+d:Nat):Int):=by omega
     rw[em,hs,ht]at hv;obtain⟨k1,g1,d1⟩:=val r.a s (s+d) (by omega) (by omega) (gJ _) (by omega) (by omega) hv.1;obtain⟨k2,g2,d2⟩:=val r.b (s+d) t (by omega) (by omega) (by omega) (by omega) (gJ _) hv.2;rw[em,hs,ht]at hf';have:=nu.fW hk h1 (by omega) (by omega) d1 d2 hf';rw[es,et];show nu z.n z.l r.head s t k (z.fr+(d:Int)) (gv r.bi [tq z az r.a z.fr (z.fr+(d:Int)),tq z az r.b (z.fr+(d:Int)) z.to]);rw[em,hs,ht];exact this
    .cases hi
def KN.adS(C:AU z.n z.l z.c z.fr.toNat z.to.toNat)(K:Kx z)(h:KN z st){k:Nat}(hk:z.n.aj[k]? =some r){i:mm}(hi:i∈ew z r)(hf:D0 z st.dM i)
  (ho:(D6 z st.az i).lt (bv st.az r.head)->∀x:Int,0<=x->x<z.n.an->K1 st x=true->¬(D6 z st.az i).lt (bv st.az x)):KN z (jX st r.head (D6 z st.az i)):=by
 have hr:r∈z.n.aj:=Hf hk;have hh:0<=r.head/\r.head<z.n.an:=⟨(K.hn.2.2.2 r hr).1,(K.hn.2.2.2 r hr).2.1⟩;obtain⟨V,hV⟩:=aY (D6 z st.az i);have agv:mG V:=by rw[<-hV];exact YX K h.wf.bo hr hi
 have W2:WF z.n.an.toNat (jX st r.head V):=h.wf.adS (by omega) agv;have fN:∀x,K1 (jX st r.head V) x=K1 st x:=λx=>by unfold K1;rw[yi]
 rw[hV]at ho⊢;refine⟨W2,λx y x0 x1 y0 y1 fx fy=>?_,λx x0 x1 hx=>?_,λx x0 x1 hx=>?_⟩
 .rw[fN]at fx fy;have ex:bv (jX st r.head V).az x=bv st.az x:=by
   rcases ve K h.wf hh (v:=V) x0 with e|⟨rfl,_,h1,_⟩
   .exact e
   .rw[fx]at h1;cases h1
  rw[ex];rcases ve K h.wf hh (v:=V) y0 with e|⟨rfl,e,h1,_,h3⟩
  .rw[e];exact h.ord x y x0 x1 y0 y1 fx fy
  .rw[e];exact ho h3 x x0 x1 fx
 .rcases ve K h.wf hh (v:=V) x0 with e|⟨rfl,e,h1,_,h3⟩
  .rw[e]at hx⊢;obtain⟨k',r',wi,nl,i',wY,hf',hc'⟩:=h.att x x0 x1 hx;exact⟨k',r',wi,nl,i',wY,by rw[yi];exact hf',by rw[H5 K h.wf hh (Hf wi) wY hf'];exact hc'⟩
  .rw[e];exact⟨k,r,hk,rfl,i,hi,by rw[yi];exact hf,by rw[H5 K h.wf hh hr hi hf];exact hV⟩
 .rcases ve K h.wf hh (v:=V) x0 with e|⟨rfl,e,h1,h2,h3⟩
  .rw[e]at hx⊢;exact h.der x x0 x1 hx
  .rw[e];have:=apa C K h.wf.bo h.der hk hi (by rw[hV];exact h2);rw[hV]at this;exact⟨_,_,this⟩
def Vw(K:Kx z)(W:WF z.n.an.toNat st)(hr:r∈z.n.aj){i:mm}(hi:i∈ew z r)(hf:D0 z st.dM i)
  (ho:K1 st r.head=true->¬(D6 z st.az i).lt (bv st.az r.head)):done z (jX st r.head (D6 z st.az i)) r i:=by
 have hh:0<=r.head/\r.head<z.n.an:=⟨(K.hn.2.2.2 r hr).1,(K.hn.2.2.2 r hr).2.1⟩;intro _;rw[H5 K W hh hr hi hf];have agv:=YX K W.bo hr hi;obtain⟨V,hV⟩:=aY (D6 z st.az i);rw[hV]at ho agv⊢;unfold jX;split
 .rename_i hc;rcases hc with hc|hc|hc
  .exact ho hc
  .have hb:mG (bv st.az r.head):=W.bo _ (bu (by rw[W.lb];omega));by_cases cQ:V.lt (bv st.az r.head)
   .exfalso;obtain⟨b1,b2,b3,b4⟩:=hb;have Rz:(bv st.az r.head).aA=1099511627776:=by unfold cX.lt at cQ;omega
    have Gi:(bv st.az r.head)=⟨1099511627776,0⟩:=by
     rcases ilt (st.u7.getD r.head.toNat 0)with h0|h0
     .exact(W.old r.head.toNat (by omega) h0).2
     .have:=W.acX r.head.toNat (by omega) h0;unfold bv at Rz;omega
    rw[Gi]at cQ;obtain⟨c1,c2,c3,c4⟩:=agv;unfold cX.lt at cQ;simp only at cQ;omega
   .exact cQ
  .exact hc
 .have hbs:bv (st.az.set r.head.toNat V) r.head=V:=by
   rw[Of ⟨hh.1,by rw[W.lb];omega⟩ hh.1,ee rfl]
  split;all_goals
   show ¬V.lt (bv (st.az.set r.head.toNat V) r.head);rw[hbs];unfold cX.lt;omega
end
end
section
variable{st:nD}{dM:List Bool}
def pk(z:mW)(r:bC)(st:nD)(i:mm):nD:=if ats z i.2.2=true then st else jX st r.head (D6 z st.az i)
def Qa(z:mW)(st:nD):nD:=z.n.aj.foldl (λst r=>(ew z r).foldl (pk z r) st) st
def su(z:mW)(r:bC)(st:nD)(i:mm):nD:=if ats z i.2.2=true/\zI z st.dM i.2.2=false then jX st r.head (D6 z st.az i)else st
def QM(z:mW)(x:Int)(st:nD)(r:bC):nD:=if sA r x then(iq z r).foldl (su z r) st else st
def AC(z:mW)(st:nD):nD:=z.n.aj.foldl (QM z (st.s.e 0).x) (DH st)
def ph(z:mW):Nat->nD->nD
 |0,st=>st
 |f+1,st=>if st.s.heap=[]then st else ph z f (AC z st)
def Hl(st:nD):Nat:=st.dM.count false
def nF(n:Nat):nD:=⟨List.replicate n ⟨1099511627776,0⟩,List.replicate n false,List.replicate n (-1),⟨[],0,[],0,0,0⟩⟩
abbrev PR:=bC×mm
def N6(z:mW)(p:PR):Prop:=p.1∈z.n.aj/\p.2∈ew z p.1
def Qb(z:mW)(st:nD)(p:PR):Prop:=done z st p.1 p.2
structure Vx(z:mW)(P:nD->Prop)(ok:PR->Prop)(f:nD->PR->nD):Prop where
 aL:∀st p,P st->ok p->P (f st p)
 self:∀st p,P st->ok p->Qb z (f st p) p
 rest:∀st p,P st->ok p->∀q,N6 z q->Qb z st q->Qb z (f st p) q
 xo:∀st p,P st->ok p->(f st p).s.xo<=st.s.xo+1
def Vx.aoy{z:mW}{P:nD->Prop}{ok:PR->Prop}{f:nD->PR->nD}(h:Vx z P ok f)(aN:∀p,ok p->N6 z p):∀(L:List PR),(∀p∈L,ok p)->∀st,P st->
  P (L.foldl f st)/\(∀p∈L,Qb z (L.foldl f st) p)/\(∀q,N6 z q->Qb z st q->Qb z (L.foldl f st) q)/\(L.foldl f st).s.xo<=st.s.xo+L.length
 |[],_,st,hp=>⟨hp,λp hp=>(by cases hp),λq _ h=>h,by simp⟩
 |p::L,hL,st,hp=>by
  have h1:=hL p (by simp);obtain⟨a1,a2,a3,a4⟩:=Vx.aoy h aN L (λq hq=>hL q (by simp[hq])) (f st p) (h.aL st p hp h1);rw[Br];refine⟨a1,λq hq=>?_,λq hq hd=>a3 q hq (h.rest st p hp h1 q hq hd), ?_⟩
  .rcases jv.1 hq with rfl|hq
   .exact a3 _ (aN _ h1) (h.self st _ hp h1)
   .exact a2 q hq
  .have:=h.xo st p hp h1;simp only[B8];omega
def DT{σ α β:Type}(f:σ->α×β->σ)(g:α->List β):∀(l:List α) (x:σ),l.foldl (λx a=>(g a).foldl (λx b=>f x (a,b)) x) x=(l.flatMap λa=>(g a).map λb=>(a,b)).foldl f x
 |[],x=>rfl
 |a::l,x=>by
  rw[Br,ZbS,uK,DT f g l,Zdr]
def KM{z:mW}{l:List It}(h:¬ats z l=true):∀x∈l,¬wR z x:=by
 intro x hx hi;exact h (ZcR.2 ⟨x,hx,by simpa using hi⟩)
section
variable{z:mW}
def zf{α:Type}{n x:Nat}{a d:α}(h:x<n):(List.replicate n a).getD x d=a:=by simp[List.getD,h]
def KN0(K:Kx z):KN z (nF z.n.an.toNat):=by
 have hb:∀x:Int,0<=x->x<z.n.an->bv (nF z.n.an.toNat).az x=⟨1099511627776,0⟩:=λx h0 h1=>zf (by omega);have hf:∀x:Int,0<=x->x<z.n.an->K1 (nF z.n.an.toNat) x=false:=λx h0 h1=>zf (by omega);refine⟨⟨by simp[nF],by simp[nF],by simp[nF],⟨by simp[nF,F9],λe he=>by simp[nF]at he,λe he=>by simp[nF]at he,λe he=>by simp[nF]at he⟩,λk hk=>by simp[nF]at hk,λk _ hk=>by simp[nF]at hk,
  λe he=>by simp[nF]at he,λx hx h0 _=>?_,λx hx h0=>⟨zf hx,zf hx⟩,λx hx h0=>?_,λx hx=>?_,by simp[nF],λv hv=>?_⟩,λx y x0 x1 _ _ fx _=>?_,λx x0 x1 hx=>?_,λx x0 x1 hx=>?_⟩
 .have:=zf (a:=(-1:Int)) (d:=0) hx;simp only[nF]at h0;omega
 .have:=zf (a:=(-1:Int)) (d:=0) hx;simp only[nF]at h0;omega
 .have:=zf (a:=(-1:Int)) (d:=0) hx;simp only[nF];omega
 .rw[Zce hv];exact⟨by decide,by decide,by decide,by decide⟩
 .rw[hf x x0 x1]at fx;cases fx
 .rw[hb x x0 x1]at hx;exact qe hx (by decide)
 .rw[hb x x0 x1]at hx;exact qe hx (by decide)
def aeu{p:PR}(h:N6 z p):∃k:Nat,z.n.aj[k]? =some p.1:=by
 obtain⟨k,hk,e⟩:=OQ h.1;exact⟨k,by rw[mM hk,e]⟩
def PI(z:mW)(st:nD):Prop:=KN z st/\∀x:Int,0<=x->x<z.n.an->K1 st x=false
def aev(C:AU z.n z.l z.c z.fr.toNat z.to.toNat)(K:Kx z):Vx z (PI z) (N6 z) (λst p=>pk z p.1 st p.2):=by
 have hh:∀p,N6 z p->0<=p.1.head/\p.1.head<z.n.an:=λp hp=>⟨(K.hn.2.2.2 _ hp.1).1,(K.hn.2.2.2 _ hp.1).2.1⟩;refine⟨λst p hp ho=>?_,λst p hp ho=>?_,λst p hp ho q hq hd=>?_,λst p hp ho=>?_⟩<;>unfold pk
 .split
  .exact hp
  .rename_i hw;obtain⟨k,hk⟩:=aeu ho;have hf:D0 z st.dM p.2:=λx hx hi=>qe hi (KM hw x hx);refine⟨hp.1.adS C K hk ho.2 hf λ_ x x0 x1 fx=>?_,λx x0 x1=>?_⟩
   .rw[hp.2 x x0 x1]at fx;cases fx
   .unfold K1;rw[yi];exact hp.2 x x0 x1
 .split
  .rename_i hw;intro hf;exfalso;obtain⟨x,hx,hi⟩:=ZcR.1 hw;have xA:=Dt K ho.1 ho.2 hx;have:=hf x hx (by simpa using hi);rw[Vv,hp.2 x.1 xA.1 xA.2]at this;cases this
  .rename_i hw;refine Vw K hp.1.wf ho.1 ho.2 (λx hx hi=>qe hi (KM hw x hx)) λhf=>?_;rw[hp.2 _ (hh p ho).1 (hh p ho).2]at hf;cases hf
 .split
  .exact hd
  .exact KJ K hp.1.wf (hh p ho) hq.1 hq.2 hd
 .split
  .omega
  .exact P9 hp.1.wf (by have:=hh p ho;omega) _
def IV(z:mW)(st:nD):Prop:=KN z st/\∀q,N6 z q->Qb z st q
def aiX(z:mW):List PR:=z.n.aj.flatMap λr=>(ew z r).map λi=>(r,i)
def abs{q:PR}:q∈aiX z↔N6 z q:=by
 unfold aiX N6;constructor
 .intro h;obtain⟨r,hr,h⟩:=ZT.1 h;obtain⟨i,hi,rfl⟩:=sE.1 h;exact⟨hr,hi⟩
 .rintro⟨h1,h2⟩;exact ZT.2 ⟨q.1,h1,sE.2 ⟨q.2,h2,rfl⟩⟩
def ajt(st:nD):Qa z st=(aiX z).foldl (λst p=>pk z p.1 st p.2) st:=DT (λst (p:PR)=>pk z p.1 st p.2) (ew z) _ _
def PI0(K:Kx z):PI z (nF z.n.an.toNat):=⟨KN0 K,λx h0 h1=>zf (by omega)⟩
def apb(C:AU z.n z.l z.c z.fr.toNat z.to.toNat)(K:Kx z):IV z (Qa z (nF z.n.an.toNat))/\(Qa z (nF z.n.an.toNat)).s.xo<=(aiX z).length:=by
 rw[ajt];obtain⟨a1,a2,a3,a4⟩:=(aev C K).aoy (λ_ h=>h) (aiX z) (λp hp=>abs.1 hp) _ (PI0 K);exact⟨⟨a1.1,λq hq=>a2 q (abs.2 hq)⟩,by simpa [nF]using a4⟩
def FY(h:WF z.n.an.toNat st)(dd:st.s.heap≠[]){y:Int}(h0:0<=y)(h1:y<z.n.an):K1 (DH st) y=if y=(st.s.e 0).x then true else K1 st y:=by
 have Zh:0<st.s.heap.length:=Gr.2 dd;have a:=h.YV _ (qL.2 ⟨0,Zh,rfl⟩);have e0:(st.s.e (0:Nat)).x=(st.s.e 0).x:=rfl;rw[e0]at a;unfold K1 DH;simp only;rw[H4 (by have:=h.lf;omega)];by_cases e:y=(st.s.e 0).x
 .rw[ee (by omega),ee e]
 .rw[iK (by omega),iK e]
def KN.pop(K:Kx z)(h:KN z st)(dd:st.s.heap≠[]):KN z (DH st)/\(0<=(st.s.e 0).x/\(st.s.e 0).x<z.n.an)/\K1 st (st.s.e 0).x=false/\(∀y:Int,0<=y->y<z.n.an->K1 (DH st) y=true->¬(bv st.az (st.s.e 0).x).lt (bv st.az y)):=by
 have Zh:0<st.s.heap.length:=Gr.2 dd;obtain⟨a1,a2,a3,a4,a5⟩:=h.wf.YV _ (qL.2 ⟨0,Zh,rfl⟩);have e0:(st.s.e (0:Nat)).x=(st.s.e 0).x:=rfl;rw[e0]at a1 a2 a3 a4;have hx:0<=(st.s.e 0).x/\(st.s.e 0).x<z.n.an:=by omega
 have Gk:∀y:Int,0<=y->y<z.n.an->K1 st y=false->¬(bv st.az y).lt (bv st.az (st.s.e 0).x):=by
  intro y y0 y1 fy;rcases ilt (st.u7.getD y.toNat 0)with h0|h0
  .have hy:=(h.wf.old y.toNat (by omega) h0).2;have hxf:=h.wf.acX (st.s.e 0).x.toNat (by omega) (by omega);unfold bv;rw[hy];unfold cX.lt;simp only;omega
  .obtain⟨e,he,hey⟩:=h.wf.inn y.toNat (by omega) h0 fy;obtain⟨i,hi,rfl⟩:=qL.1 he;have:=acT h.wf.hp i hi;unfold KY at this;rw[show(st.s.e i).x=y by omega]at this;exact λcQ=>this (.inl cQ)
 refine⟨⟨h.wf.pop dd,λx y x0 x1 y0 y1 fx fy=>?_,λx x0 x1 nK=>?_,h.der⟩,hx,a3,λy y0 y1 fy=>?_⟩
 .rw[FY h.wf dd x0 x1]at fx;rw[FY h.wf dd y0 y1]at fy;split at fy
  .cases fy
  .split at fx
   .rename_i e;rw[e];exact Gk y y0 y1 fy
   .exact h.ord x y x0 x1 y0 y1 fx fy
 .obtain⟨k,r,hk,hr,i,hi,hf,hc⟩:=h.att x x0 x1 nK;refine⟨k,r,hk,hr,i,hi,λw hw hwi=>?_,hc⟩;have hwb:=Dt K (Hf hk) hi hw;show K1 (DH st) w.1=true;rw[FY h.wf dd hwb.1 hwb.2];split
  .rfl
  .exact hf w hw hwi
 .rw[FY h.wf dd y0 y1]at fy;split at fy
  .rename_i e;rw[e];unfold cX.lt;omega
  .exact h.ord y _ y0 y1 hx.1 hx.2 fy a3
structure PS2(z:mW)(x:Int)(dM:List Bool)(st:nD):Prop where
 kn:KN z st
 dM:st.dM=dM
 mx:∀y:Int,0<=y->y<z.n.an->K1 st y=true->¬(bv st.az x).lt (bv st.az y)
 old:∀q,N6 z q->(∀w∈q.2.2.2,wR z w->w.1≠x)->Qb z st q
def VO{i:mm}:(zI z dM i.2.2=false)↔D0 z dM i:=by
 unfold zI D0;rw[List.any_eq_false];constructor
 .intro h x hx hi;have:=h x hx;simp only[hi,decide_true,Zc8,AF,Bool.not_eq_false]at this;exact this
 .intro h x hx;by_cases hi:wR z x
  .have:=h x hx hi;rw[show(default:Bool)=false from rfl,this];simp
  .simp[hi]
def aju(C:AU z.n z.l z.c z.fr.toNat z.to.toNat)(K:Kx z){x:Int}(hx:0<=x/\x<z.n.an)(hxf:dM.getD x.toNat false=true):Vx z (PS2 z x dM) (N6 z) (λst p=>su z p.1 st p.2):=by
 have hh:∀p,N6 z p->0<=p.1.head/\p.1.head<z.n.an:=λp hp=>⟨(K.hn.2.2.2 _ hp.1).1,(K.hn.2.2.2 _ hp.1).2.1⟩;have two:∀(st:nD) (p:PR),PS2 z x dM st->N6 z p->D0 z st.dM p.2->(∀y:Int,0<=y->y<z.n.an->K1 st y=true->¬(D6 z st.az p.2).lt (bv st.az y))\/¬(D6 z st.az p.2).lt (bv st.az p.1.head):=by
  intro st p hp ho hf;by_cases hq:∀w∈p.2.2.2,wR z w->w.1≠x
  .exact .inr (hp.old p ho hq hf)
  .left;intro y y0 y1 fy;have⟨w,hw⟩:=Classical.not_forall.1 hq;obtain⟨hw1,hw⟩:=Classical.not_imp.1 hw;obtain⟨hw2,hw⟩:=Classical.not_imp.1 hw;have hw3:w.1=x:=Decidable.not_not.1 hw;have h1:=aiT K hp.kn.wf.bo ho.1 ho.2 hw1 hw2 (by have:=Dt K ho.1 ho.2 hw1;exact hp.kn.wf.ava (by omega));rw[hw3]at h1;have h2:=hp.mx y y0 y1 fy;exact iP h2 h1
 refine⟨λst p hp ho=>?_,λst p hp ho=>?_,λst p hp ho q hq hd=>?_,λst p hp ho=>?_⟩<;>unfold su
 .split
  .rename_i hw;have hf:=VO.1 hw.2;obtain⟨k,hk⟩:=aeu ho;refine⟨hp.kn.adS C K hk ho.2 hf λcQ y y0 y1 fy=>?_,by rw[yi];exact hp.dM,λy y0 y1 fy=>?_,λq hq ZO=>KJ K hp.kn.wf (hh p ho) hq.1 hq.2 (hp.old q hq ZO)⟩
   .rcases two st p hp ho hf with h|h
    .exact h y y0 y1 fy
    .exact qe cQ h
   .unfold K1 at fy;rw[yi]at fy;have fx:K1 st x=true:=by unfold K1;rw[hp.dM];exact hxf
    have fix:∀w:Int,0<=w->K1 st w=true->bv (jX st p.1.head (D6 z st.az p.2)).az w=bv st.az w:=λw w0 fw=>by
     rcases ve K hp.kn.wf (hh p ho) (v:=D6 z st.az p.2) w0 with e|⟨rfl,_,h1,_⟩
     .exact e
     .rw[fw]at h1;cases h1
    rw[fix x hx.1 fx,fix y y0 fy];exact hp.mx y y0 y1 fy
  .exact hp
 .split
  .rename_i hw;have hf:=VO.1 hw.2;refine Vw K hp.kn.wf ho.1 ho.2 hf λfh=>?_;rcases two st p hp ho hf with h|h
   .exact h _ (hh p ho).1 (hh p ho).2 fh
   .exact h
  .rename_i hw;by_cases h1:ats z p.2.2.2=true
   .intro hf;exact qe ⟨h1,VO.2 hf⟩ hw
   .exact hp.old p ho λw hw hwi=>qe hwi (KM h1 w hw)
 .split
  .exact KJ K hp.kn.wf (hh p ho) hq.1 hq.2 hd
  .exact hd
 .split
  .exact P9 hp.kn.wf (by have:=hh p ho;omega) _
  .omega
def apc(z:mW)(x:Int):List PR:=(z.n.aj.filter λr=>decide (sA r x)).flatMap λr=>(iq z r).map λi=>(r,i)
def xV{σ α:Type}(p:α->Prop) [DecidablePred p](f:σ->α->σ):∀(l:List α) (x:σ),l.foldl (λx a=>if p a then f x a else x) x=(l.filter λa=>decide (p a)).foldl f x
 |[],x=>rfl
 |a::l,x=>by
  rw[Br,xV p f l];by_cases h:p a
  .rw[ee h,List.filter_cons_of_pos (by simpa using h),Br]
  .rw[iK h,List.filter_cons_of_neg (by simpa using h)]
def VP(x:Int)(l:List bC)(st:nD):l.foldl (QM z x) st=((l.filter λr=>decide (sA r x)).flatMap λr=>(iq z r).map λi=>(r,i)).foldl (λst (p:PR)=>su z p.1 st p.2) st:=by
 have:=xV (λr=>sA r x) (λst r=>(iq z r).foldl (su z r) st) l st;show l.foldl (λst r=>if sA r x then(iq z r).foldl (su z r) st else st) st=_;rw[this];exact DT (λst (p:PR)=>su z p.1 st p.2) (iq z) _ _
def aew(K:Kx z){x:Int}{l:List bC}(hl:∀r∈l,r∈z.n.aj):∀p∈(l.filter λr=>decide (sA r x)).flatMap λr=>(iq z r).map λi=>((r,i):PR),N6 z p:=by
 intro p hp;obtain⟨r,hr,h⟩:=ZT.1 hp;obtain⟨i,hi,rfl⟩:=sE.1 h;exact⟨hl r (RI.1 hr).1,Oi K.ft.2 hi⟩
def ajv(C:AU z.n z.l z.c z.fr.toNat z.to.toNat)(K:Kx z)(h:IV z st)(dd:st.s.heap≠[]):PS2 z (st.s.e 0).x (DH st).dM (DH st):=by
 obtain⟨k1,k2,k3,k4⟩:=h.1.pop K dd;refine⟨k1,rfl,k4,λq hq ZO hf=>h.2 q hq λw hw hwi=>?_⟩;have hwb:=Dt K hq.1 hq.2 hw;have:=hf w hw hwi;rw[Vv,FY h.1.wf dd hwb.1 hwb.2,iK (ZO w hw hwi)]at this;exact this
def Ol(C:AU z.n z.l z.c z.fr.toNat z.to.toNat)(K:Kx z)(h:IV z st)(dd:st.s.heap≠[]):IV z (AC z st)/\Hl (AC z st)<Hl st/\(AC z st).s.xo<=st.s.xo+(apc z (st.s.e 0).x).length:=by
 have hP:=ajv C K h dd;obtain⟨k1,k2,k3,k4⟩:=h.1.pop K dd;have Zh:0<st.s.heap.length:=Gr.2 dd;have hxf:(DH st).dM.getD (st.s.e 0).x.toNat false=true:=by
  show K1 (DH st) _=true;rw[FY h.1.wf dd k2.1 k2.2,ee rfl]
 have c9:(DH st).s.xo=st.s.xo:=by
  have hs:Hk (zG st.s) (ww st.az st.s):=by unfold ww;rw[iK dd];exact EG rfl
  exact hs.xo
 obtain⟨a1,a2,a3,a4⟩:=(aju C K k2 hxf).aoy (λ_ h=>h) (apc z (st.s.e 0).x) (aew K λr h=>h) _ hP;have e:AC z st=(apc z (st.s.e 0).x).foldl (λst p=>su z p.1 st p.2) (DH st):=VP _ _ _;rw[<-e]at a1 a2 a3 a4;refine⟨⟨a1.kn,λq hq=>?_⟩, ?_,by omega⟩
 .by_cases ZO:∀w∈q.2.2.2,wR z w->w.1≠(st.s.e 0).x
  .exact a1.old q hq ZO
  .have⟨w,hw⟩:=Classical.not_forall.1 ZO;obtain⟨hw1,hw⟩:=Classical.not_imp.1 hw;obtain⟨hw2,hw⟩:=Classical.not_imp.1 hw;have hw3:w.1=(st.s.e 0).x:=Decidable.not_not.1 hw;obtain⟨b1,b2⟩:=aiS hq.2 hw1 hw2;rw[hw3]at b2;exact a2 q (ZT.2 ⟨q.1,RI.2 ⟨hq.1,by simpa using b2⟩,sE.2 ⟨q.2,b1,rfl⟩⟩)
 .unfold Hl;rw[a1.dM];have cQ:(st.s.e 0).x.toNat<st.dM.length:=by rw[h.1.wf.lf];omega
  show(st.dM.set _ true).count false<_;have UX:st.dM[(st.s.e 0).x.toNat]=false:=by
   have:st.dM.getD (st.s.e 0).x.toNat false=false:=k3;rw[List.getD,mM cQ]at this;exact this
  rw[List.count_set cQ,UX];have:0<st.dM.count false:=List.count_pos_iff.2 (UX▸MK cQ);simp;omega
end
end
section
variable{f:bS}
def k1(A:bW)(O:bS)(v:DV)(O':bS):bW->bS->iw:=λargs ab=>⟨args=A/\ab=O,v,O'⟩
@[simp] def aAK(A:bW)(O:bS)(v:DV)(O':bS)(args:bW)(ab:bS):k1 A O v O' args ab=⟨args=A/\ab=O,v,O'⟩:=rfl
def ok1{f:Nat}{A:bW}{O:bS}{v:DV}{O':bS}{l:List (Nat×DM.Spec)}(h:aw ak (bz l))(hc:∀N,(∀r,N<=r->O r=none)->ce ak f A O ⟨True,v,O'⟩)(hn:∀r,O r=none->O' r=none):
  aw ak (bz ((f,fl (k1 A O v O'))::l)):=
 aw.il h (by
  rintro args ab ⟨rfl,rfl⟩;exact⟨λN hN=>ce.of (hc N hN) rfl rfl,hn⟩)
def Yj{v:SV}{p:Nat}(h:v.at f p)(a:nD)(s:Qs):ic (ig f v a) v.k.q ((v.to a).qv p) s=ig f v ⟨a.az,a.dM,a.u7,s⟩:=by
 obtain⟨PX,PY,PZ,YI,Lq,YJ,acz,QZ,Q0,Q3,acA,Q4,acB,acC,R3,P3,SM,acD,SN,acE,acF,SP,P7,P8,acG,SZ,acH,acI,acJ,YK,YL,YM,ZE,nqm,nqa,S0,MP,Nn,Ns,aaL,aa1,acK,acL,YN,YO,YP,nmq,aa2,nma,acM,aa4,aa5,aa6,naq,aa7,nam⟩:=h.ne;funext k;simp only[ic,ig,SV.qv,y9,amx,X0,YH,Ya];by_cases h1:k=v.k.q
 .subst h1;simp[YK,YL,YM]
 .by_cases h2:k=v.k.hp
  .subst h2;simp[h1,MP,Nn,Ns]
  .by_cases h3:k=v.k.m
   .subst h3;simp[h1,h2,YN,YO,YP]
   .simp[h1,h2,h3]
def aex(f:bS)(r:Nat)(o:Ob):cC f (some (r,o))=dA [(r,o)] f:=rfl
def VT{v:SV}{g:bS}{s:nD}(h1:g v.k.rb=some (X0 s))(h2:g v.k.rf=some (YH s))(h3:g v.k.rh=some (Ya s))(h4:g v.k.q=some (qB v.k.a v.k.hp v.k.m s.s))(h5:g v.k.hp=some (hB s.s))(h6:g v.k.m=some (mB s.s))
  (h7:∀k,k≠v.k.rb->k≠v.k.rf->k≠v.k.rh->k≠v.k.q->k≠v.k.hp->k≠v.k.m->g k=f k):g=ig f v s:=by
 funext k;simp only[ig,y9,amx];repeat' split
 all_goals first|(rename_i e;rw[e];assumption)|(apply h7<;>assumption)
def ajK{v:SV}{p:Nat}(h:v.at f p)(s:nD)(B:List cX):dA [(v.k.rb,.bm 0 64 2 (cU B))] (ig f v s)=ig f v ⟨B,s.dM,s.u7,s.s⟩:=by
 obtain⟨PX,PY,PZ,YI,Lq,YJ,acz,QZ,Q0,Q3,acA,Q4,acB,acC,R3,P3,SM,acD,SN,acE,acF,SP,P7,P8,acG,SZ,acH,acI,acJ,YK,YL,YM,ZE,nqm,nqa,S0,MP,Nn,Ns,aaL,aa1,acK,acL,YN,YO,YP,nmq,aa2,nma,acM,aa4,aa5,aa6,naq,aa7,nam⟩:=h.ne;refine VT ?_ ?_ ?_ ?_ ?_ ?_ λk a1 a2 a3 a4 a5 a6=>?_<;>simp[ig, *]<;>rfl
def apg{v:SV}{p:Nat}(h:v.at f p)(s:nD)(B:List Bool):dA [(v.k.rf,.bm 0 4 1 (gH B))] (ig f v s)=ig f v ⟨s.az,B,s.u7,s.s⟩:=by
 obtain⟨PX,PY,PZ,YI,Lq,YJ,acz,QZ,Q0,Q3,acA,Q4,acB,acC,R3,P3,SM,acD,SN,acE,acF,SP,P7,P8,acG,SZ,acH,acI,acJ,YK,YL,YM,ZE,nqm,nqa,S0,MP,Nn,Ns,aaL,aa1,acK,acL,YN,YO,YP,nmq,aa2,nma,acM,aa4,aa5,aa6,naq,aa7,nam⟩:=h.ne;refine VT ?_ ?_ ?_ ?_ ?_ ?_ λk a1 a2 a3 a4 a5 a6=>?_<;>simp[ig, *]<;>rfl
def aph{v:SV}{p:Nat}(h:v.at f p)(s:nD)(B:ba):dA [(v.k.rh,.bm 0 3 1 (au B))] (ig f v s)=ig f v ⟨s.az,s.dM,B,s.s⟩:=by
 obtain⟨PX,PY,PZ,YI,Lq,YJ,acz,QZ,Q0,Q3,acA,Q4,acB,acC,R3,P3,SM,acD,SN,acE,acF,SP,P7,P8,acG,SZ,acH,acI,acJ,YK,YL,YM,ZE,nqm,nqa,S0,MP,Nn,Ns,aaL,aa1,acK,acL,YN,YO,YP,nmq,aa2,nma,acM,aa4,aa5,aa6,naq,aa7,nam⟩:=h.ne;refine VT ?_ ?_ ?_ ?_ ?_ ?_ λk a1 a2 a3 a4 a5 a6=>?_<;>simp[ig, *]<;>rfl
def VU(a b c d N:Nat)(n:Nat):Nat:=if n=0 then a else if n=1 then b else if n=2 then c else if n=3 then d else N+n
def adk{a b c d N:Nat}(h1:a<N)(h2:b<N)(h3:c<N)(h4:d<N)(n1:a≠b)(n2:a≠c)(n3:a≠d)(n4:b≠c)(n5:b≠d)(n6:c≠d)(x y:Nat)(e:VU a b c d N x=VU a b c d N y):x=y:=by
 unfold VU at e;repeat' split at e
 all_goals omega
def bA{l:ba}{y:Nat}(h:y<l.length):DM.rowAt (au l) y=[ti (l.getD y default)]:=by simp[DM.rowAt,au,h]
def t60{f0:bS}{p N:Nat}{h:Int}{x:cX}{v:SV}(hN:∀r,N<=r->f0 r=none)(hv:v.at f0 p)(ho:Tx v.s h x):
  ce ak 137 [.ptr p 0,.v (ti h),.v (.agg [ti x.aA,ti x.size])] f0 ⟨True,.v (.dh []),ig f0 v (jX v.s h x)⟩:=by
 obtain⟨⟨hx0,GC⟩,hl1,BS,EC,aS⟩:=ho;obtain⟨y,rfl⟩:=bX hx0;have hy:y<v.s.az.length:=by omega
 obtain⟨xc,xs⟩:=x;obtain⟨R,hR⟩:=aY (jX v.s y ⟨xc,xs⟩);rw[hR];unfold jX at hR;have bb:=avA (aAn (aAw aw.nil));refine c60.Ie hN (by simp) λc9=>?_;obtain⟨PX,PY,PZ,YI,Lq,YJ,acz,QZ,Q0,Q3,acA,Q4,acB,acC,R3,P3,SM,acD,SN,acE,acF,SP,P7,P8,acG,SZ,acH,acI,acJ,YK,YL,YM,ZE,nqm,nqa,S0,MP,Nn,Ns,aaL,aa1,acK,acL,YN,YO,YP,nmq,aa2,nma,acM,aa4,aa5,aa6,naq,aa7,nam⟩:=hv.ne;have h1:=hv.sp;have h2:=hv.rb;have h3:=hv.rf;have h4:=hv.rh;have K4:p<N:=(c9 p _ h1).1;have zV:v.k.rb<N:=(c9 _ _ h2).1;have hfN:v.k.rf<N:=(c9 _ _ h3).1;have hhN:v.k.rh<N:=(c9 _ _ h4).1;have hqN:v.k.q<N:=(c9 _ _ hv.q).1;have aAx:v.k.hp<N:=(c9 _ _ hv.hp).1;have PL:v.k.m<N:=(c9 _ _ hv.m).1;simp only[JO,X0,YH,Ya]at h1 h2 h3 h4;have rr1:=jU hy;have rr2:=eF (show y<v.s.dM.length by omega);have rr3:=bA (show y<v.s.u7.length by omega);obtain⟨⟨bc,bs⟩,hbe⟩:=aY (v.s.az.getD y default);obtain⟨fb,hfb⟩:=aY (v.s.dM.getD y false);obtain⟨hd,zw⟩:=aY (v.s.u7.getD y 0);rw[hbe]at rr1;rw[show(default:Bool)=false from rfl,hfb]at rr2;rw[show(default:Int)=0 from rfl,zw]at rr3;have hbv:bv v.s.az y=⟨bc,bs⟩:=hbe;simp only[gN,hfb,zw,hbv]at hR aS;have vy:y<v.s.dM.length:=by omega
 have fI:y<v.s.u7.length:=by omega
 simp;apply aa.ai bb fw [0,1,5];simp[aqo];refine aa.le (FW (l:=[(0,.ptr p 0),(1,.v (ti y)),(5,.v (.box [ti xc,ti xs]))]) (bn:=N+500) c9 (by omega) (by simp;omega) ?_) ?_
 .have np:∀k,p≠N+k:=λk=>by omega
  simp[pn,hv.sp];exact j8 (l:=[]) c9 (by omega) (by simp)
 apply aa.seq;obtain⟨c1,bN⟩:=aY (decide (fb=true\/xc>=1099511627776\/¬(⟨xc,xs⟩:cX).lt ⟨bc,bs⟩):Bool);refine aa.bL bb fw [(0,.ptr p 0),(1,.v (ti y)),(5,.v (.box [ti xc,ti xs])),(29,.v (.bool c1))] ?_ ?_
 .cases fb with
  |true=>
   have:c1=true:=by rw[<-bN];simp
   simp[aqp,h1,h3,vy,rr2,this]
  |false=>
   by_cases q2:xc>=1099511627776
   .have:c1=true:=by rw[<-bN];simp[q2]
    simp[aqp,h1,h3,vy,rr2,q2,this]
   .by_cases q3:(⟨xc,xs⟩:cX).lt ⟨bc,bs⟩
    .have:c1=false:=by rw[<-bN];simp[q2,q3]
     simp[aqp,h1,h2,h3,hy,vy,rr1,rr2,q2,q3,this]
    .have:c1=true:=by rw[<-bN];simp[q3]
     simp[aqp,h1,h2,h3,hy,vy,rr1,rr2,q2,q3,this]
 refine aa.cond rfl (λg=>?_) (λg=>?_)
 .have g:c1=true:=by simpa using g
  subst g;rw[ee (BN bN)]at hR;rw[<-hR,nG hv];apply aa.ret;simp[Xd];rfl
 .have g:c1=false:=by simpa using g
  subst g;have hc:=uF bN;rw[iK hc]at hR;have aS:=aS hc;apply aa.skip;simp;obtain⟨B,hB⟩:=aY (v.s.az.set y ⟨xc,xs⟩);have hBT:cU B=(cU v.s.az).set y [ti xc,ti xs]:=by rw[<-hB];simp[cU,Zco]
  rw[hB]at hR aS;have gf:∀w,DM.rowAt ((cU v.s.az).set y w) (y:Int)=w:=λw=>by simp[DM.rowAt,hy]
  apply aa.ai bb fw [0,1];simp[aqq,h1,h2,hy,rr1];have e1:=ajK hv v.s B;rw[nG hv,hBT]at e1;rw[e1];have nk:=H2 hv ⟨B,v.s.dM,v.s.u7,v.s.s⟩;obtain⟨G,hG⟩:=aY (ig f0 v ⟨B,v.s.dM,v.s.u7,v.s.s⟩);have j1:=nk.sp;have j4:=nk.rh;have k81:=λa b=>awB (hd:=a) (x:=b) nk.qv;have k82:=λa=>awV (x:=a) nk.qv;have eq:=λs=>Yj hv ⟨B,v.s.dM,v.s.u7,v.s.s⟩ s;rw[hG]at j1 j4 k81 k82 eq⊢;simp only[JO,Ya,SV.qv]at j1 j4 k81 k82 eq;apply aa.ai bb fw [0,1,44];simp[aqr,j1,j4,fI,rr3];refine aa.cond rfl (λg=>?_) (λg=>?_)
  .have g:0<=hd:=by simpa using g
   rw[ee g]at hR aS;refine aa.rP bb fw (rs:=xK aib []) (.inr ⟨_,pV⟩) (by kernel_rfl) [] ?_;simp[aib,xK,j1,j4,fI,rr3,k81,aS,eq,Xd,hR]
  .have g:¬0<=hd:=by simpa using g
   rw[iK g]at hR aS;have hkn:∀s',O4 [v.k.q,v.k.hp,v.k.m] G (ig f0 v ⟨B,v.s.dM,v.s.u7,s'⟩):=by
    intro s' n hn;simp only[jv,qg,AZ,Zds]at hn;rw[<-eq s'];simp[ic,hn]
   obtain⟨S',hS'⟩:=aY (C2 B v.s.s y);rw[hS']at hR;have e2:=aph hv ⟨B,v.s.dM,v.s.u7,S'⟩ (v.s.u7.set y v.s.s.next);have hHT:au (v.s.u7.set y v.s.s.next)=(au v.s.u7).set y [ti v.s.s.next]:=by simp[au,Zco]
   rw[hHT]at e2;have hv3:=(H2 hv ⟨B,v.s.dM,v.s.u7,S'⟩).rh;simp only[Ya]at hv3;refine aa.rP bb fw (rs:=kX (VU p v.k.q v.k.hp v.k.m N) (xK aic [none,none,none,some [0],none,none,none,none,none,none,some [1,2,3],none,none])) (.inr ⟨_,pV⟩) ((He (adk K4 hqN aAx PL YI Lq YJ ZE nqm aa1) _ _ _).trans (by kernel_rfl)) [] ?_;simp[aic,xK,kX,qz,VU,dN,bT,br,j1,fI,rr3,k82,aS,eq,Xd,hS',hkn,hv3,aex,e2,hR]
end
section
variable{fn:Nat}{cz:bW}
def uv(l:List It):DV:=if l=[]then .aZ else .v (.sl (awj l))
def V1(D:DV)(r:bC):Prop:=pD D/\cellsOf D=[.v (ti r.kind),.v (ti r.head),.v (ti r.a),.v (ti r.b),.v (ti r.bi),.v (ti r.origin)]
def adl(r:bC):V1 (.agg [.v (ti r.kind),.v (ti r.head),.v (ti r.a),.v (ti r.b),.v (ti r.bi),.v (ti r.origin)]) r:=⟨trivial,rfl⟩
def awW(r:bC):V1 (.v (.agg r.enc)) r:=⟨trivial,rfl⟩
structure NT(fn:Nat)(cz:bW)(L:List mm)(F:Nat->bS)(B:Nat->Bool)(m:Nat):Prop where
 call:∀j i,L[j]? =some i->j<m->∀N,(∀r,N<=r->F j r=none)->ce ak fn ([.v (ti i.1),.v (ti i.2.1),uv i.2.2]++cz) (F j) ⟨True,.v (.bool (B j)),F (j+1)⟩
 none:∀j r,j<m->F j r=none->F (j+1) r=none
 go:∀j,j+1<m->B j=true
 stop:m=L.length\/(0<m/\m<=L.length/\B (m-1)=false)
def NT.le{L:List mm}{F:Nat->bS}{B:Nat->Bool}{m:Nat}(h:NT fn cz L F B m):m<=L.length:=by
 rcases h.stop with h|h<;>omega
def NT.next{L:List mm}{F:Nat->bS}{B:Nat->Bool}{m j:Nat}(h:NT fn cz L F B m)(hb:∀k,k<j->B k=true)(hj:j<L.length):j<m:=by
 rcases h.stop with h1|⟨h1,h2,h3⟩
 .omega
 .rcases Zdg j m with h4|h4
  .exact h4
  .have:=hb (m-1) (by omega);rw[h3]at this;cases this
def NT.end{L:List mm}{F:Nat->bS}{B:Nat->Bool}{m j:Nat}(h:NT fn cz L F B m)(hj:j<m)(hb:B j=false):m=j+1:=by
 rcases Zdg (j+1) m with h1|h1
 .have:=h.go j h1;rw[hb]at this;cases this
 .omega
def NT.env{L:List mm}{F:Nat->bS}{B:Nat->Bool}{m j:Nat}{i:mm}(h:NT fn cz L F B m)(hi:L[j]? =some i)(hj:j<m):
  aw ak (bz [(fn,fl (k1 ([.v (ti i.1),.v (ti i.2.1),uv i.2.2]++cz) (F j) (.v (.bool (B j))) (F (j+1))))]):=
 ok1 aw.nil (λN hN=>h.call j i hi hj N hN) (λr hr=>h.none j r hj hr)
structure apk(z:mW)(p N:Nat)(k:Nms)(F:Nat->bS)(m:Nat):Prop where
 dC:∀j,j<=m->∃s:nD,(⟨k,z,s⟩:SV).at (F j) p
 cl:∀j,j<=m->qX (F j) N
def apk.sp{z:mW}{p N m j:Nat}{k:Nms}{F:Nat->bS}(h:apk z p N k F m)(hj:j<=m):F j p=some (.box (JO k z)):=by
 obtain⟨s,hs⟩:=h.dC j hj;exact hs.sp
end
section
variable{z:mW}{r:bC}{fn:Nat}{cz:bW}
def ayZ(h:r.kind=1):ew z r=if z.fr=z.to then [(z.fr,r.bi,[])]else []:=by unfold ew;rw[ee h]
def ay0(h:r.kind=2):ew z r=(List.range' (sx z) (Hd z-sx z)).filterMap (Ga z r):=by unfold ew;rw[iK (by omega),ee h]
def ay1(h:r.kind=3):ew z r=[(z.fr,r.bi,[(r.a,z.fr,z.to)])]:=by unfold ew;rw[iK (by omega),iK (by omega),ee h]
def ay2(h:r.kind=4):ew z r=(List.range ((z.to-z.fr).toNat+1)).map λ(d:Nat)=>C8 z r (z.fr+(d:Int)):=by unfold ew;rw[iK (by omega),iK (by omega),iK (by omega),ee h]
def ay3(h:r.kind≠1/\r.kind≠2/\r.kind≠3/\r.kind≠4):ew z r=[]:=by unfold ew;rw[iK h.1,iK h.2.1,iK h.2.2.1,iK h.2.2.2]
def KO(z:mW)(r:bC)(i:Nat):Nat:=((List.range' (sx z) (i-sx z)).filterMap (Ga z r)).length
def YY(z:mW)(r:bC):KO z r (sx z)=0:=by simp[KO]
def aby(s n:Nat):List.range' s (n+1)=List.range' s n++[s+n]:=by
 rw[List.range'_concat];simp
def ahO{i:Nat}(h:sx z<=i):KO z r (i+1)=KO z r i+(if(z.l.aK.getD i default).term=r.a then 1 else 0):=by
 unfold KO;rw[show i+1-sx z=(i-sx z)+1 by omega,aby,List.filterMap_append,nH,show sx z+(i-sx z)=i by omega];by_cases e:(z.l.aK.getD i default).term=r.a
 .have:Ga z r i=some ((i:Int),r.bi+(z.l.aK.getD i default).aA,[]):=ee e;rw[Zdp,this,ee e];rfl
 .have:Ga z r i=none:=iK e;rw[Zdp,this,iK e];rfl
def ajL{i:Nat}(h:sx z<=i)(hi:i<Hd z)(e:(z.l.aK.getD i default).term=r.a):
  ((List.range' (sx z) (Hd z-sx z)).filterMap (Ga z r))[KO z r i]? =some ((i:Int),r.bi+(z.l.aK.getD i default).aA,[]):=by
 have h1:List.range' (sx z) (Hd z-sx z)=List.range' (sx z) (i-sx z)++i::List.range' (i+1) (Hd z-(i+1)):=by
  rw[show Hd z-sx z=(i-sx z)+(1+(Hd z-(i+1)))by omega,<-List.range'_append_1,<-List.range'_append_1,show sx z+(i-sx z)=i by omega];rfl
 rw[h1,List.filterMap_append];unfold KO;have:Ga z r i=some ((i:Int),r.bi+(z.l.aK.getD i default).aA,[]):=ee e;rw[ZbI (gJ _),Nat.sub_self,Zdp,this];rfl
def apl(z:mW)(r:bC):KO z r (Hd z)=((List.range' (sx z) (Hd z-sx z)).filterMap (Ga z r)).length:=rfl
def NT.one{L:List mm}{F:Nat->bS}{B:Nat->Bool}{m:Nat}(h:NT fn cz L F B m)(hL:L.length=1):m=1:=by
 have h1:=h.next (j:=0) (λ_ h=>qe h (Nat.not_lt_zero _)) (by omega);have:=h.le;omega
def NT.ay4{L:List mm}{F:Nat->bS}{B:Nat->Bool}{m j:Nat}(h:NT fn cz L F B m)(hj:j=L.length)(hb:∀k,k<j->B k=true):m=j:=by
 rcases h.stop with h1|⟨h1,h2,h3⟩
 .omega
 .have:=hb (m-1) (by omega);rw[h3]at this;cases this
def wM(l:cN):bW:=l.map λx=>.ptr x 0
def WH(l:cN)(f:bS):Prop:=∀x∈l,∃cs,f x=some (.box cs)
def H7{f g:bS}:∀{l:cN},WH l f->WH l g->kJ f g id (wM l) (wM l)
 |[],_,_=>rfl
 |x::l,h,k=>by
  obtain⟨cs,hc⟩:=h x (by simp);obtain⟨yJ,hc'⟩:=k x (by simp);refine⟨?_,H7 (λy hy=>h y (by simp[hy])) (λy hy=>k y (by simp[hy]))⟩;simp[hc']
def t57{p N m:Nat}{cz:cN}{F:Nat->bS}{B:Nat->Bool}{k:Nms}(hs:apk z p N k F m)(hf:NT fn (wM cz) (ew z r) F B m)
  (hm:mono z) (hla:z.l.aK.length<=1000000000) (yF:0<=z.fr/\z.fr<=z.to/\z.to<=1000) (hp:0<=r.bi/\r.bi<=1000) (hac:∀a∈z.l.aK,0<=a.aA/\a.aA<=1099511627776) (hcp:WH cz (F 0)) {D:DV} (hD:V1 D r):
  ce ak 134 [.ptr p 0,D,.AI (.func fn) (wM cz)] (F 0) ⟨True,.v (.dh []),F m⟩:=by
 have hN0:∀{j},j<=m->∀r,N<=r->F j r=none:=λ{j} hj r hr=>by
  cases h:F j r with
  |none=>rfl
  |some o=>have:=(hs.cl j hj r o h).1;omega
 have spj:=λ{j} (hj:j<=m)=>hs.sp (j:=j) hj;simp only[JO]at spj;have sp0:=spj (ER m);have K4:p<N:=(hs.cl 0 (ER m) p _ sp0).1;have np:∀k,p≠N+k:=λk=>by omega
 obtain⟨C,hC⟩:=aY (wM cz);have aS:kJ (dA [] (F 0)) (dA [] (F 0)) id C C:=by rw[<-hC];exact H7 hcp hcp
 obtain⟨rk,rh,ra,rb,rp,ro⟩:=r;obtain⟨RR,Ts⟩:=aY ((⟨rk,rh,ra,rb,rp,ro⟩:bC):bC);have hRa:RR.a=ra:=by rw[<-Ts]
 have hRb:RR.b=rb:=by rw[<-Ts]
 have hRp:RR.bi=rp:=by rw[<-Ts]
 have hRk:RR.kind=rk:=by rw[<-Ts]
 rw[Ts,hC]at hf;simp only at hp;refine c57.Ie (hN0 (ER m)) (by simp) λc9=>?_;obtain⟨hD1,Z9⟩:=hD;simp[hC];apply aa.ai J2 fw [0,2,4];simp[ak9,hD1,Z9,-pD,-cellsOf];have awX:kJ (dA [(N+5,.box [.v (ti rk),.v (ti rh),.v (ti ra),.v (ti rb),.v (ti rp),.v (ti ro)])] (F 0)) (dA [] (F 0)) id C C:=by
  rw[<-hC];refine H7 (λx hx=>?_) hcp;obtain⟨cs,hc⟩:=hcp x hx;have:=(c9 x _ hc).1;exact⟨cs,by simp[hc];omega⟩
 refine aa.le (FW (l:=[(0,.ptr p 0),(2,.AI (.func fn) C),(4,.v (.box [ti rk,ti rh,ti ra,ti rb,ti rp,ti ro]))]) (bn:=N+500) c9 (by omega) (by simp;omega) ?_) ?_
 .simp[pn,sp0,oM,jJ,awX];exact j8 (l:=[]) c9 (by omega) (by simp)
 show aa _ _ _ _ ⟨_,F 0,_,_,_⟩;apply aa.ai J2 fw [0,2,4,11];simp[ala];apply aa.block;apply aa.ai J2 fw [0,2,4,11,12];simp[ax1];refine aa.cond rfl (λg=>?_) (λg=>?_)
 .have g:rk=1:=by simpa using g
  rw[ayZ (by omega)]at hf;apply aa.ai J2 fw [0,2,4,22];simp[ax2,sp0];refine aa.cond rfl (λg2=>?_) (λg2=>?_)
  .have g2:z.fr=z.to:=by simpa using g2
   rw[ee g2]at hf;have uE:=hf.one rfl;have bb:=hf.env (j:=0) (i:=(z.fr,RR.bi,[])) rfl (by omega);apply aa.cZ bb fw [];simp[ax3,sp0,uv,hRp,zB,uE]
  .have g2:¬z.fr=z.to:=by simpa using g2
   rw[iK g2]at hf;have hm0:m=0:=by have:=hf.le;simpa using this
   apply aa.skip;simp[zB,hm0]
 have g1:rk≠1:=by simpa using g
 apply aa.ai J2 fw [0,2,4,11,31];simp[ax4];refine aa.cond rfl (λg=>?_) (λg=>?_)
 .have g:rk=2:=by simpa using g
  rw[ay0 (by omega)]at hf;obtain⟨s0,hv0⟩:=hs.dC 0 (ER m);have k80:=awQ hv0;have hih:=Kl z;apply aa.uG (aAu aw.nil) fw (rs:=ais) pV (by kernel_rfl) [0,2,4,6,7];simp[ais,k80,hm,hla];apply aa.ai J2 fw [0,2,4,7,8];simp[ax5];have e0:F 0=F (KO z RR (sx z)):=by rw[YY]
  apply aa.block;refine aa.loop (λi:Nat=>⟨DM.look [(0,.ptr p 0),(2,.AI (.func fn) C),(4,.v (.box [ti rk,ti rh,ti ra,ti rb,ti rp,ti ro])),(7,.v (ti (Hd z))),(8,.v (ti i))],F (KO z RR i),N+1000,N,[]⟩)
   (λi=>sx z<=i/\i<=Hd z/\KO z RR i<=m/\∀q,q<KO z RR i->B q=true) (λi=>Hd z-i) (sx z) (by rw[<-e0];exact Le.same (λr hr=>hN0 (ER m) r (by omega)) (by simp[Ak])) ⟨gJ _,hih.1,by rw[YY];omega,by rw[YY];intro q hq;omega⟩ (λi hi=>?_)
  obtain⟨i1,i2,i3,i4⟩:=hi;have spi:=spj i3;apply aa.sq J2 fw [0,2,4,7,8,41];simp[ax6];refine aa.cond rfl (λg=>?_) (λg=>?_)
  .have g:i<Hd z:=by simpa using g
   have sW:i<z.l.aK.length:=by omega
   have rr:=r8 sW;have nU:=hac _ (bu sW);have mZ:=ahO (z:=z) (r:=RR) (i:=i) i1;have hcg:=ajL (z:=z) (r:=RR) (i:=i) i1 g;have hch:=apl z RR;obtain⟨⟨af,dC,ae,ac,ao⟩,hx⟩:=aY (z.l.aK.getD i default);rw[hx]at rr nU mZ hcg;simp only[bF.enc]at rr;simp only[hRa,hRp]at nU mZ hcg;have w1:IntKind.i64.wrap (rp+ac)=rp+ac:=av (by omega);have w2:IntKind.i64.wrap ((i:Int)+1)=((i+1:Nat):Int):=by rw[av (by omega)];omega
   apply aa.skip;simp;apply aa.seq;apply aa.block;by_cases e:ae=ra
   .rw[ee e]at mZ;have UX:=hcg e;have hjm:=hf.next i4 (tp.1 UX).1;have bb:=hf.env UX hjm;obtain⟨b,hb⟩:=aY (B (KO z RR i));rw[hb]at bb;apply aa.ai bb fw [0,2,4,7,8,73];simp[aup,spi,sW,rr,e,uv,w1];refine aa.cond rfl (λg2=>?_) (λg2=>?_)
    .have g2:b=false:=by simpa using g2
     rw[g2]at hb;have hme:=hf.end hjm hb;apply aa.ret;simp[zB,hme]
    .have g2:b=true:=by simpa using g2
     rw[g2]at hb;apply aa.skip;simp;apply aa.cZ J2 fw [0,2,4,7,8];simp[ait,w2];refine⟨i+1,by rw[mZ];exact Le.same (λr hr=>hN0 hjm r (by omega)) (by simp[Ak]),⟨by omega,by omega,by omega,λq hq=>?_⟩,by omega⟩;by_cases hqe:q=KO z RR i
     .rw[hqe];exact hb
     .exact i4 q (by omega)
   .rw[iK e]at mZ;apply aa.ai J2 fw [0,2,4,7,8,73];simp[aup,spi,sW,rr,e];refine aa.cond rfl (λg2=>by cases g2) (λg2=>?_);apply aa.skip;simp;apply aa.cZ J2 fw [0,2,4,7,8];simp[ait,w2];exact⟨i+1,by rw[mZ];exact Le.same (λr hr=>hN0 i3 r (by omega)) (by simp[Ak]),⟨by omega,by omega,by omega,λq hq=>i4 q (by omega)⟩,by omega⟩
  .have g:¬i<Hd z:=by simpa using g
   have hie:i=Hd z:=by omega
   have hme:=hf.ay4 (j:=KO z RR i) (by rw[hie];rfl) i4;apply aa.exit;simp[zB,hme]
 have g2:rk≠2:=by simpa using g
 apply aa.ai J2 fw [0,2,4,11,74];simp[awo];refine aa.cond rfl (λg=>?_) (λg=>?_)
 .have g:rk=3:=by simpa using g
  rw[ay1 (by omega)]at hf;have uE:=hf.one rfl;have bb:=hf.env (j:=0) (i:=(z.fr,RR.bi,[(RR.a,z.fr,z.to)])) rfl (by omega);have hch:di 3 1 [ti ra,ti z.fr,ti z.to]=[[ti ra,ti z.fr,ti z.to]]:=rfl;apply aa.cZ bb fw [];simp[awp,sp0,uv,hRp,hRa,zB,uE,hch,awj,itT]
 have g3:rk≠3:=by simpa using g
 apply aa.ai J2 fw [0,2,4,11,96];simp[awq];refine aa.cond rfl (λg=>?_) (λg=>?_)
 .have g:rk=4:=by simpa using g
  rw[ay2 (by omega)]at hf;have hLl:((List.range ((z.to-z.fr).toNat+1)).map λ(d:Nat)=>C8 z RR (z.fr+(d:Int))).length=(z.to-z.fr).toNat+1:=by simp
  apply aa.ai J2 fw [0,2,4,9];simp[awr,sp0];apply aa.block;refine aa.loop (λd:Nat=>⟨DM.look [(0,.ptr p 0),(2,.AI (.func fn) C),(4,.v (.box [ti rk,ti rh,ti ra,ti rb,ti rp,ti ro])),(9,.v (ti (z.fr+(d:Int))))],F d,N+1000,N,[]⟩)
   (λd=>z.fr+(d:Int)<=z.to+1/\d<=m/\∀q,q<d->B q=true) (λd=>((z.to-z.fr).toNat+1)-d) 0 (Le.same (λr hr=>hN0 (ER m) r (by omega)) (by simp[Ak])) ⟨by omega,by omega,by intro q hq;omega⟩ (λd hd=>?_)
  obtain⟨d1,d2,d3⟩:=hd;have spd:=spj d2;apply aa.sq J2 fw [0,2,4,9,107];simp[aws,spd];refine aa.cond rfl (λg=>?_) (λg=>?_)
  .have g:z.fr+(d:Int)<=z.to:=by simpa using g
   have u7:d<(z.to-z.fr).toNat+1:=by omega
   have hjm:=hf.next d3 (by rw[hLl];exact u7);have UX:((List.range ((z.to-z.fr).toNat+1)).map λ(d:Nat)=>C8 z RR (z.fr+(d:Int)))[d]? =some (C8 z RR (z.fr+(d:Int))):=by simp[u7]
   have bb:=hf.env UX hjm;obtain⟨b,hb⟩:=aY (B d);rw[hb]at bb;have hch:di 3 2 [ti ra,ti z.fr,ti (z.fr+(d:Int)),ti rb,ti (z.fr+(d:Int)),ti z.to]=[[ti ra,ti z.fr,ti (z.fr+(d:Int))],[ti rb,ti (z.fr+(d:Int)),ti z.to]]:=rfl;have w2:IntKind.i64.wrap (z.fr+(d:Int)+1)=z.fr+((d+1:Nat):Int):=by rw[av (by omega)];omega
   apply aa.skip;simp;apply aa.seq;apply aa.block;apply aa.ai bb fw [0,2,4,9,132];simp[awt,spd,uv,C8,hRp,hRa,hRb,hch,awj,itT];refine aa.cond rfl (λg2=>?_) (λg2=>?_)
   .have g2:b=false:=by simpa using g2
    rw[g2]at hb;have hme:=hf.end hjm hb;apply aa.ret;simp[zB,hme]
   .have g2:b=true:=by simpa using g2
    rw[g2]at hb;apply aa.skip;simp;apply aa.cZ J2 fw [0,2,4,9];simp[awu,w2];refine⟨d+1,Le.same (λr hr=>hN0 hjm r (by omega)) (by simp[Ak]),⟨by omega,by omega,λq hq=>?_⟩,by omega⟩;by_cases hqe:q=d
    .rw[hqe];exact hb
    .exact d3 q (by omega)
  .have g:¬z.fr+(d:Int)<=z.to:=by simpa using g
   have hme:=hf.ay4 (j:=d) (by rw[hLl];omega) d3;apply aa.exit;simp[zB,hme]
 .have g4:rk≠4:=by simpa using g
  rw[ay3 (by rw[hRk];exact⟨g1,g2,g3,g4⟩)]at hf;have hm0:m=0:=by have:=hf.le;simpa using this
  apply aa.skip;simp[zB,hm0]
end
section
variable{z:mW}{r:bC}
def awY(h:r.kind=4):iq z r=[C8 z r z.fr,C8 z r z.to]:=by unfold iq;rw[ee h]
def awZ(h:r.kind≠4):iq z r=ew z r:=by unfold iq;rw[iK h]
def t87{fn p N m:Nat}{cz:cN}{F:Nat->bS}{k:Nms}(hs:apk z p N k F m)(hf:NT fn (wM cz) (iq z r) F (λ_=>true) m)(hml:m=(iq z r).length)
  (hm:mono z) (hla:z.l.aK.length<=1000000000) (yF:0<=z.fr/\z.fr<=z.to/\z.to<=1000) (hp:0<=r.bi/\r.bi<=1000) (hac:∀a∈z.l.aK,0<=a.aA/\a.aA<=1099511627776) (hcp:WH cz (F 0)) {D:DV} (hD:V1 D r):
  ce ak 182 [.ptr p 0,D,.AI (.func fn) (wM cz)] (F 0) ⟨True,.v (.dh []),F m⟩:=by
 have hN0:∀{j},j<=m->∀r,N<=r->F j r=none:=λ{j} hj r hr=>by
  cases h:F j r with
  |none=>rfl
  |some o=>have:=(hs.cl j hj r o h).1;omega
 have spj:=λ{j} (hj:j<=m)=>hs.sp (j:=j) hj;simp only[JO]at spj;have sp0:=spj (ER m);have K4:p<N:=(hs.cl 0 (ER m) p _ sp0).1;have np:∀k,p≠N+k:=λk=>by omega
 have ZU:∀r,F 0 r=none->F m r=none:=by
  have:∀j,j<=m->∀r,F 0 r=none->F j r=none:=by
   intro j;induction j with
   |zero=>intro _ r h;exact h
   |succ j ih=>intro hj r h;exact hf.none j r (by omega) (ih (by omega) r h)
  exact this m (gJ m)
 have adm:r.kind≠4->∀N',(∀r,N'<=r->F 0 r=none)->ce ak 134 [.ptr p 0,.v (.agg r.enc),.AI (.func fn) (wM cz)] (F 0) ⟨True,.v (.dh []),F m⟩:=λhk N' _=>by
  rw[awZ hk]at hf;exact t57 hs hf hm hla yF hp hac hcp (awW r)
 obtain⟨C,hC⟩:=aY (wM cz);obtain⟨rk,rh,ra,rb,rp,ro⟩:=r;obtain⟨RR,Ts⟩:=aY ((⟨rk,rh,ra,rb,rp,ro⟩:bC):bC);have hRa:RR.a=ra:=by rw[<-Ts]
 have hRb:RR.b=rb:=by rw[<-Ts]
 have hRp:RR.bi=rp:=by rw[<-Ts]
 have hRk:RR.kind=rk:=by rw[<-Ts]
 rw[hC]at adm;simp only[bC.enc]at adm;rw[Ts,hC]at hf;rw[Ts]at hml;refine c87.Ie (hN0 (ER m)) (by simp) λc9=>?_;obtain⟨hD1,Z9⟩:=hD;simp[hC];apply aa.ai J2 fw [0,2,4];simp[ax7,hD1,Z9,-pD,-cellsOf];have awX:kJ (dA [(N+5,.box [.v (ti rk),.v (ti rh),.v (ti ra),.v (ti rb),.v (ti rp),.v (ti ro)])] (F 0)) (dA [] (F 0)) id C C:=by
  rw[<-hC];refine H7 (λx hx=>?_) hcp;obtain⟨cs,hc⟩:=hcp x hx;have:=(c9 x _ hc).1;exact⟨cs,by simp[hc];omega⟩
 refine aa.le (FW (l:=[(0,.ptr p 0),(2,.AI (.func fn) C),(4,.v (.box [ti rk,ti rh,ti ra,ti rb,ti rp,ti ro]))]) (bn:=N+500) c9 (by omega) (by simp;omega) ?_) ?_
 .simp[pn,sp0,oM,jJ,awX];exact j8 (l:=[]) c9 (by omega) (by simp)
 show aa _ _ _ _ ⟨_,F 0,_,_,_⟩;apply aa.sq J2 fw [0,2,4,10];simp[ax8];refine aa.cond rfl (λg=>?_) (λg=>?_)
 .have g:rk≠4:=by simpa using g
  have bb:=ok1 (aw.nil) (adm g) ZU;apply aa.uG bb fw (rs:=aiu) pV (by kernel_rfl) [];simp[aiu];apply aa.ret;simp[acv]
 .have g:rk=4:=by simpa using g
  rw[awY (by omega)]at hf hml;simp only[B8,ZbJ]at hml;apply aa.skip;simp;have hch:di 1 2 [ti z.fr,ti z.to]=[[ti z.fr],[ti z.to]]:=rfl;apply aa.ai J2 fw [0,2,4,23,24,25];simp[ax9,sp0,hch];apply aa.block;refine aa.loop (λj:Nat=>⟨DM.look [(0,.ptr p 0),(2,.AI (.func fn) C),(4,.v (.box [ti rk,ti rh,ti ra,ti rb,ti rp,ti ro])),(23,.v (.sl [[ti z.fr],[ti z.to]])),(24,.v (ti 2)),(25,.v (ti j))],F j,N+1000,N,[]⟩)
   (λj=>j<=2) (λj=>2-j) 0 (Le.same (λr hr=>hN0 (ER m) r (by omega)) (by simp[Ak])) (by omega) (λj hj=>?_)
  have spd:=spj (show j<=m by omega);apply aa.ai J2 fw [0,2,4,23,24,25,26];simp[aya];apply aa.seq;refine aa.cond rfl (λg=>?_) (λg=>?_)
  .have gi:(j:Int)<2:=by simpa using g
   have g:j<2:=by omega
   obtain⟨x,hx⟩:=aY ((if j=0 then z.fr else z.to));have gf:DM.rowAt [[ti z.fr],[ti z.to]] (j:Int)=[ti x]:=by
    rw[<-hx];rcases(show j=0\/j=1 by omega)with rfl|rfl<;>rfl
   have UX:[C8 z RR z.fr,C8 z RR z.to][j]? =some (C8 z RR x):=by
    rw[<-hx];rcases(show j=0\/j=1 by omega)with rfl|rfl<;>rfl
   have bb:=hf.env UX (by omega);have hch:di 3 2 [ti ra,ti z.fr,ti x,ti rb,ti x,ti z.to]=[[ti ra,ti z.fr,ti x],[ti rb,ti x,ti z.to]]:=rfl;have w2:IntKind.i64.wrap ((j:Int)+1)=((j+1:Nat):Int):=by rw[av (by omega)];omega
   apply aa.skip;simp;apply aa.seq;apply aa.block;apply aa.ai J2 fw [0,2,4,7,23,24,25];simp[ayb,gf,gi];apply aa.cZ bb fw [0,2,4,23,24,25];simp[ayc,spd,uv,C8,hRp,hRa,hRb,hch,awj,itT];apply aa.cZ J2 fw [0,2,4,23,24,25];simp[ayd,w2];exact⟨j+1,Le.same (λr hr=>hN0 (show j+1<=m by omega) r (by omega)) (by simp[Ak]),by omega,by omega⟩
  .have gi:(2:Int)<=j:=by simpa using g
   have hme:m=j:=by omega
   apply aa.exit;simp[acv,hme]
end
section
variable{f:bS}{sB rB:Nat}{r:bC}
def KT(l:List It):br (uv l)=[]:=by unfold uv;split<;>simp[br]
def avc{v:SV}{p:Nat}{l:List It}(hv:v.at f p):k59 [.ptr p 0,uv l] f=⟨l.length<=1000,.v (.bool (ats v.z l)),f⟩:=by
 unfold uv;split
 .rename_i e;subst e;rw[an4 hv];simp[ats]
 .exact awG hv
def ajM{v:SV}{p:Nat}{c:Int}{l:List It}(hv:v.at f p)(hb:v.okB)(hl:l.length<=1000)(hi:aiH v.z v.s.az l)(hc:0<=c/\c<=4000000000000):k61 [.ptr p 0,.v (ti c),uv l] f=⟨True,.v (.agg [ti (uq v.z v.s.az c l).aA,ti (uq v.z v.s.az c l).size]),f⟩:=by
 unfold uv;split
 .rename_i e;subst e;rw[an5 hv];simp[hc]
 .rw[awJ hv];simp[hb,hl,hi,hc]
def ado{z:mW}{l:List It}(h:ats z l=true):l≠[]:=by
 rintro rfl;simp[ats]at h
def ay5{v:SV}{p:Nat}{l:List It}(hv:v.at f p)(hn:l≠[])(hl:l.length<=1000)(hf:∀x∈l,wR v.z x->0<=x.1/\x.1<v.s.dM.length):k89 [.ptr p 0,uv l] f=⟨True,.v (.bool (!zI v.z v.s.dM l)),f⟩:=by
 unfold uv;rw[iK hn,awM hv];simp[hl];exact λa b c h hi=>hf _ h hi
def im(r:bC):Ob:=.box [.v (ti r.kind),.v (ti r.head),.v (ti r.a),.v (ti r.b),.v (ti r.bi),.v (ti r.origin)]
structure YZ(v:SV)(i:mm):Prop where
 b:v.okB
 l:i.2.2.length<=1000
 it:aiH v.z v.s.az i.2.2
 p:0<=i.2.1/\i.2.1<=4000000000000
def FZ(a b c N:Nat)(n:Nat):Nat:=if n=0 then a else if n=1 then b else if n=2 then c else N+n
def K0{a b c N:Nat}(h1:a<N)(h2:b<N)(h3:c<N)(n1:a≠b)(n2:a≠c)(n4:b≠c)(x y:Nat)(e:FZ a b c N x=FZ a b c N y):x=y:=by
 unfold FZ at e;repeat' split at e
 all_goals omega
def K2(l:cN)(o:bS):O4 l o o:=λ_ _=>rfl
def t58{p N:Nat}{v:SV}{i:mm}(hN:∀r,N<=r->f r=none)(hv:v.at f p)(hs:f sB=some (.box [.ptr p 0]))(hr:f rB=some (im r))(ho:YZ v i)(XH:ats v.z i.2.2=false->Tx v.s r.head (D6 v.z v.s.az i)):
  ce ak 135 ([.v (ti i.1),.v (ti i.2.1),uv i.2.2]++wM [sB,rB]) f ⟨True,.v (.bool true),ig f v (pk v.z r v.s i)⟩:=by
 obtain⟨g,c,l⟩:=i;obtain⟨o1,o2,o3,o4⟩:=ho;simp only at o2 o3 o4 XH;obtain⟨R,hR⟩:=aY (pk v.z r v.s (g,c,l));rw[hR];unfold pk at hR;simp only at hR;have k1:=avc (l:=l) hv;have k2:=ajM (l:=l) (c:=c) hv o1 o2 o3 o4;obtain⟨U,hU⟩:=aY (uv l);have hUn:br U=[]:=by rw[<-hU];exact KT l
 simp only[hU]at k1 k2⊢;obtain⟨V,hV⟩:=aY (uq v.z v.s.az c l);have hV2:D6 v.z v.s.az (g,c,l)=V:=hV;rw[hV2]at XH hR;rw[hV]at k2;obtain⟨w,hw⟩:=aY (ats v.z l);rw[hw]at XH hR k1;refine c58.Ie hN (by simp[wM]) λc9=>?_;have K4:p<N:=(c9 p _ hv.sp).1;have hsN:sB<N:=(c9 _ _ hs).1;have hrN:rB<N:=(c9 _ _ hr).1;have n1:p≠sB:=λe=>by rw[<-e,hv.sp]at hs;simp[JO]at hs
 have n2:p≠rB:=λe=>by rw[<-e,hv.sp]at hr;simp[JO,im]at hr
 have n3:sB≠rB:=λe=>by rw[e,hr]at hs;simp[im]at hs
 simp only[im]at hr;simp[wM];show aa _ _ _ _ ⟨_,f,_,_,_⟩;apply aa.ai J2 fw [0,1,2,3,4];simp[aqH];apply aa.seq;apply aa.uG (awI aw.nil) fw (rs:=aiv) pV (by kernel_rfl) [0,1,2,3,4,12];simp[aiv,hs,k1,o2];refine aa.cond rfl (λq=>?_) (λq=>?_)
 .have q:w=false:=by simpa using q
  rw[iK (by rw[q];simp)]at hR;have bb:=awL (ok1 (aw.nil) (λN' hN'=>t60 hN' hv (XH q)) (λr hr=>BB hv _ hr));rw[hR]at bb;refine aa.rP bb fw (rs:=kX (FZ p sB rB N) (xK aiw [some [1],none,some [2],none,none,none,some [0],none])) (.inr ⟨_,pV⟩) ((He (K0 K4 hsN hrN n1 n2 n3) _ _ _).trans (by kernel_rfl)) [] ?_;simp[aiw,xK,kX,qz,FZ,dN,bT,br,hs,hr,k2,hUn,K2];apply aa.ai J2 fw [8];simp[aqJ];apply aa.ret;simp[Hj]
 .have q:w=true:=by simpa using q
  rw[ee q]at hR;apply aa.skip;simp;apply aa.ai J2 fw [8];simp[aqJ];rw[<-hR,nG hv];apply aa.ret;simp[Hj]
def t88{p N:Nat}{v:SV}{i:mm}(hN:∀r,N<=r->f r=none)(hv:v.at f p)(hs:f sB=some (.box [.ptr p 0]))(hr:f rB=some (im r))(ho:YZ v i)(hfl:v.s.dM.length=v.s.az.length)(XH:ats v.z i.2.2=true->zI v.z v.s.dM i.2.2=false->Tx v.s r.head (D6 v.z v.s.az i)):
  ce ak 183 ([.v (ti i.1),.v (ti i.2.1),uv i.2.2]++wM [sB,rB]) f ⟨True,.v (.bool true),ig f v (su v.z r v.s i)⟩:=by
 obtain⟨g,c,l⟩:=i;obtain⟨o1,o2,o3,o4⟩:=ho;simp only at o2 o3 o4 XH;obtain⟨R,hR⟩:=aY (su v.z r v.s (g,c,l));rw[hR];unfold su at hR;simp only at hR;have k1:=avc (l:=l) hv;have k2:=ajM (l:=l) (c:=c) hv o1 o2 o3 o4;have k3:l≠[]->_:=λhl=>ay5 (l:=l) hv hl o2 (λx hx hi=>by rw[hfl];exact o3 x hx hi);have hwn:ats v.z l=true->l≠[]:=ado;obtain⟨U,hU⟩:=aY (uv l);have hUn:br U=[]:=by rw[<-hU];exact KT l
 simp only[hU]at k1 k2 k3⊢;obtain⟨V,hV⟩:=aY (uq v.z v.s.az c l);have hV2:D6 v.z v.s.az (g,c,l)=V:=hV;rw[hV2]at XH hR;rw[hV]at k2;obtain⟨w,hw⟩:=aY (ats v.z l);rw[hw]at XH hR k1 hwn;obtain⟨y,hy⟩:=aY (zI v.z v.s.dM l);rw[hy]at XH hR k3;refine c88.Ie hN (by simp[wM]) λc9=>?_;have K4:p<N:=(c9 p _ hv.sp).1;have hsN:sB<N:=(c9 _ _ hs).1;have hrN:rB<N:=(c9 _ _ hr).1;have n1:p≠sB:=λe=>by rw[<-e,hv.sp]at hs;simp[JO]at hs
 have n2:p≠rB:=λe=>by rw[<-e,hv.sp]at hr;simp[JO,im]at hr
 have n3:sB≠rB:=λe=>by rw[e,hr]at hs;simp[im]at hs
 simp only[im]at hr;simp[wM];show aa _ _ _ _ ⟨_,f,_,_,_⟩;apply aa.ai J2 fw [0,1,2,3,4];simp[aye];apply aa.seq;obtain⟨c1,bN⟩:=aY ((w&& !y):Bool);cases w with
 |false=>
  rw[iK (by simp)]at hR;apply aa.uG (awI (ayV aw.nil)) fw (rs:=YF) pV (by kernel_rfl) [0,1,2,3,4,16];simp[YF,hs,k1,o2];refine aa.cond rfl (λq=>by cases q) (λq=>?_);apply aa.skip;simp;apply aa.ai J2 fw [8];simp[aiy];rw[<-hR,nG hv];apply aa.ret;simp[dI]
 |true=>
  have k3:=k3 (hwn rfl);apply aa.uG (awI (ayV aw.nil)) fw (rs:=YF) pV (by kernel_rfl) [0,1,2,3,4,16];simp[YF,hs,k1,o2,k3];refine aa.cond rfl (λq=>?_) (λq=>?_)
  .have q:y=false:=by simpa using q
   rw[ee ⟨rfl,q⟩]at hR;have bb:=awL (ok1 (aw.nil) (λN' hN'=>t60 hN' hv (XH rfl q)) (λr hr=>BB hv _ hr));rw[hR]at bb;refine aa.rP bb fw (rs:=kX (FZ p sB rB N) (xK aix [some [1],none,some [2],none,none,none,some [0],none])) (.inr ⟨_,pV⟩) ((He (K0 K4 hsN hrN n1 n2 n3) _ _ _).trans (by kernel_rfl)) [] ?_;simp[aix,xK,kX,qz,FZ,dN,bT,br,hs,hr,k2,hUn,K2];apply aa.ai J2 fw [8];simp[aiy];apply aa.ret;simp[dI]
  .have q:y=true:=by simpa using q
   rw[iK (by rw[q];simp)]at hR;apply aa.skip;simp;apply aa.ai J2 fw [8];simp[aiy];rw[<-hR,nG hv];apply aa.ret;simp[dI]
def zz(v:cX):Ob:=.box [.v (ti v.aA),.v (ti v.size)]
def g0(x:Cell):Ob:=.box [.v (ti x.aA),.v (ti x.size),.v (ti x.wQ),.v (ti x.arg)]
def t90{p N vB iB cB:Nat}{v:SV}{w:cX}{k:Int}{x:Cell}{i:mm}(hN:∀r,N<=r->f r=none)(hv:v.at f p)(hs:f sB=some (.box [.ptr p 0]))(hw:f vB=some (zz w))(hi:f iB=some (.box [.v (ti k)]))(hx:f cB=some (g0 x))(ho:YZ v i):
  ce ak 185 ([.v (ti i.1),.v (ti i.2.1),uv i.2.2]++wM [sB,vB,iB,cB]) f
   ⟨True,.v (.bool (!decide (D6 v.z v.s.az i=w))),if D6 v.z v.s.az i=w then dA [(cB,g0 ⟨w.aA,w.size,k,i.1⟩)] f else f⟩:=by
 obtain⟨g,c,l⟩:=i;obtain⟨o1,o2,o3,o4⟩:=ho;simp only at o2 o3 o4;have k2:=ajM (l:=l) (c:=c) hv o1 o2 o3 o4;obtain⟨U,hU⟩:=aY (uv l);have hUn:br U=[]:=by rw[<-hU];exact KT l
 simp only[hU]at k2⊢;obtain⟨⟨vc,vs⟩,hV⟩:=aY (uq v.z v.s.az c l);have hV2:D6 v.z v.s.az (g,c,l)=⟨vc,vs⟩:=hV;rw[hV2];rw[hV]at k2;obtain⟨wc,ws⟩:=w;refine c90.Ie hN (by simp[wM]) λc9=>?_;have K4:p<N:=(c9 p _ hv.sp).1;have hvN:vB<N:=(c9 _ _ hw).1;have hsN:sB<N:=(c9 _ _ hs).1;have n1:p≠vB:=λe=>by rw[<-e,hv.sp]at hw;simp[JO,zz]at hw
 have n2:p≠sB:=λe=>by rw[<-e,hv.sp]at hs;simp[JO]at hs
 have n3:vB≠sB:=λe=>by rw[e,hs]at hw;simp[zz]at hw
 have n4:vB≠cB:=λe=>by rw[e,hx]at hw;simp[zz,g0]at hw
 have n5:iB≠cB:=λe=>by rw[e,hx]at hi;simp[g0]at hi
 simp only[zz,g0]at hw hx⊢;simp[wM];show aa _ _ _ _ ⟨_,f,_,_,_⟩;apply aa.ai J2 fw [0,1,2,3,4,5,6];simp[ayl];apply aa.seq;refine aa.fR (awL aw.nil) fw (rs:=kX (FZ p vB sB N) (xK aiB [none,none,none,some [0],some [1],none])) (.inr ⟨_,pV⟩) ((He (K0 K4 hvN hsN n1 n2 n3) _ _ _).trans (by kernel_rfl)) [0,3,4,5,6,16] ?_;simp[aiB,xK,kX,qz,FZ,dN,bT,br,hs,hw,k2,hUn,K2];refine aa.cond rfl (λq=>?_) (λq=>?_)
 .have q:¬(vc=wc/\vs=ws):=by
   simp at q;rintro⟨rfl,rfl⟩;simp at q
  rw[iK q];apply aa.ai J2 fw [10];simp[aym];apply aa.ret;simp[dI];exact Classical.not_and_iff_not_or_not.1 q
 .have q:vc=wc/\vs=ws:=by simpa using q
  rw[ee q];apply aa.skip;simp;apply aa.ai J2 fw [0,3,4,5,6];simp[ayn,hw,hi,hx];apply aa.ai J2 fw [10];simp[ayo];apply aa.ret;simp[dI,q,aex]
end
section
variable{f:bS}{z:mW}{r:bC}{st:nD}
def NU(A B:fS)(f:bS):dA A (dA B f)=dA (A++B) f:=by
 funext k;induction A with
 |nil=>rfl
 |cons a A ih=>
  obtain⟨r,o⟩:=a;simp only[y9,IW,ih]
def Om{A B:fS}(h:∀a∈A,∀b∈B,a.1≠b.1):dA A (dA B f)=dA B (dA A f):=by
 funext k;by_cases hA:∃o,(k,o)∈A
 .obtain⟨o,ho⟩:=hA;have hB:∀o',(k,o')∉B:=λo' j5=>h _ ho _ j5 rfl;rw[ui (l:=B) hB];obtain⟨o1,h1,h2⟩:=Pf (f:=dA B f) ho;obtain⟨o2,h3,h4⟩:=Pf (f:=f) ho;have key:∀(A:fS) (g:bS),(∃o,(k,o)∈A)->dA A g k=dA A f k:=by
   intro A g;induction A with
   |nil=>rintro⟨o,ho⟩;cases ho
   |cons a A ih=>
    rintro⟨o,ho⟩;rw[y9,y9];split
    .rfl
    .rename_i dd;rcases jv.1 ho with e|ho
     .exact qe (by rw[<-e]) dd
     .exact ih ⟨o,ho⟩
  exact key A _ ⟨o,ho⟩
 .have hA:∀o',(k,o')∉A:=λo' j5=>hA ⟨o',j5⟩;rw[ui (l:=A) hA];by_cases hB:∃o,(k,o)∈B
  .obtain⟨o,ho⟩:=hB;have key:∀(B:fS) (g:bS),(∃o,(k,o)∈B)->dA B g k=dA B f k:=by
    intro B g;induction B with
    |nil=>rintro⟨o,ho⟩;cases ho
    |cons a B ih=>
     rintro⟨o,ho⟩;rw[y9,y9];split
     .rfl
     .rename_i dd;rcases jv.1 ho with e|ho
      .exact qe (by rw[<-e]) dd
      .exact ih ⟨o,ho⟩
   exact(key B _ ⟨o,ho⟩).symm
  .have hB:∀o',(k,o')∉B:=λo' j5=>hB ⟨o',j5⟩;rw[ui (l:=B) hB,ui (l:=B) hB,ui (l:=A) hA]
section
variable{v:SV}{f0:bS}{p N:Nat}{L:fS}
def ahP(c9:qX f0 N)(hv:v.at f0 p)(hL:∀q∈L,N<=q.1)(s s':nD):ig (dA L (ig f0 v s)) (v.to s) s'=dA L (ig f0 v s'):=by
 have h1:ig (dA L (ig f0 v s)) (v.to s) s'=dA L (ig (ig f0 v s) (v.to s) s'):=by
  have a1:=(c9 _ _ hv.rb).1;have a2:=(c9 _ _ hv.rf).1;have a3:=(c9 _ _ hv.rh).1;have a4:=(c9 _ _ hv.q).1;have a5:=(c9 _ _ hv.hp).1;have a6:=(c9 _ _ hv.m).1;refine Om λa ha b hb=>?_;have:=hL b hb;simp only[jv,qg,AZ]at ha;rcases ha with rfl|rfl|rfl|rfl|rfl|rfl<;>simp only[]<;>omega
 rw[h1,aiG]
def ahQ(c9:qX f0 N)(hv:v.at f0 p)(hL:∀q∈L,N<=q.1)(a:nD)(s:Qs):ic (dA L (ig f0 v a)) v.k.q ((v.to a).qv p) s=dA L (ig f0 v ⟨a.az,a.dM,a.u7,s⟩):=by
 rw[<-Yj hv a s];have a4:=(c9 _ _ hv.q).1;have a5:=(c9 _ _ hv.hp).1;have a6:=(c9 _ _ hv.m).1;refine Om λa ha b hb=>?_;have:=hL b hb;simp only[jv,qg,AZ]at ha;rcases ha with rfl|rfl|rfl<;>simp only[SV.qv]<;>omega
def HA(c9:qX f0 N)(hv:v.at f0 p)(s:nD):qX (ig f0 v s) N:=by
 have Fd:∀m,f0 m≠none->ig f0 v s m≠none:=by
  intro m hm;simp only[ig,y9,amx];repeat' split
  all_goals first|(intro h;cases h)|exact hm
 intro r o h;by_cases hr:f0 r=none
 .rw[BB hv s hr]at h;cases h
 .obtain⟨o',j5⟩:=Zcr.1 hr;obtain⟨h1,h2⟩:=c9 r o' j5;refine⟨h1,λm hm=>?_⟩;simp only[ig,y9,amx]at h;split at h
  .cases h;simp[X0,jy]at hm
  .split at h
   .cases h;simp[YH,jy]at hm
   .split at h
    .cases h;simp[Ya,jy]at hm
    .split at h
     .cases h;simp only[qB,jy,da,br,Ej,lF,jv,qg,AZ]at hm;apply Fd;rcases hm with rfl|rfl|rfl
      .rw[hv.a];simp
      .rw[hv.hp];simp
      .rw[hv.m];simp
     .split at h
      .cases h;simp[hB,jy]at hm
      .split at h
       .cases h;exfalso;simp only[mB,jy,ZT,N7,sE]at hm;obtain⟨e,⟨e',_,rfl⟩,hk⟩:=hm;simp[br]at hk
       .rw[j5]at h;cases h;exact Fd m (h2 m hm)
def NV(c9:qX f0 N)(hv:v.at f0 p)(hL:∀q∈L,N<=q.1)(s:nD):(v.to s).at (dA L (ig f0 v s)) p:=(H2 hv s).dA (HA c9 hv s) hL
def HB{N M:Nat}{L:fS}(h:qX f N)(hNM:N<=M)(hL:∀q∈L,q.1<M/\∀m∈jy q.2,dA L f m≠none):qX (dA L f) M:=by
 have Fd:∀m,f m≠none->dA L f m≠none:=by
  intro m hm;cases ho:dA L f m with
  |some o=>simp
  |none=>
   exfalso;clear hL;induction L with
   |nil=>exact hm ho
   |cons a L ih=>
    rw[y9]at ho;split at ho
    .cases ho
    .exact ih ho
 intro r o ho;rcases uh ho with h1|⟨_,h1⟩
 .exact⟨(hL _ h1).1,(hL _ h1).2⟩
 .obtain⟨h2,h3⟩:=h r o h1;exact⟨by omega,λm hm=>Fd m (h3 m hm)⟩
end
def ahR{i:mm}(h:i∈ew z r):i.2.2.length<=2:=by
 unfold ew at h;split at h
 .split at h
  .simp only[jv,qg,AZ]at h;subst h;simp
  .cases h
 .split at h
  .obtain⟨k,_,hk⟩:=ZV.1 h;unfold Ga at hk;split at hk
   .cases hk;simp
   .cases hk
  .split at h
   .simp only[jv,qg,AZ]at h;subst h;simp
   .split at h
    .obtain⟨d,_,rfl⟩:=sE.1 h;simp[C8]
    .cases h
def Yk{x:Int}(h:sA r x):(iq z r).length<=2:=by
 unfold sA at h;unfold iq;split
 .simp
 .unfold ew;rw[iK (by omega),iK (by omega),ee (by omega)];simp
def Pg(K:Kx z)(Kg:KG z.c){k:Nms}(W:WF z.n.an.toNat st)(hr:r∈z.n.aj){i:mm}(hi:i∈ew z r):YZ ⟨k,z,st⟩ i:=
 ⟨⟨Kg,K.hc,W.bo⟩,by have:=ahR hi;omega,λx hx _=>by
  have:=Dt K hr hi hx;have:=W.lb;exact⟨by omega,by simp only;omega⟩,Oj K hr hi⟩
def Qg(z:mW)(x:Int)(st:nD)(k:Nat):nD:=(z.n.aj.take k).foldl (QM z x) (DH st)
def EH(z:mW)(x:Int)(st:nD)(k j:Nat):nD:=((iq z (z.n.aj.getD k default)).take j).foldl (su z (z.n.aj.getD k default)) (Qg z x st k)
def WU{α β:Type}{f:α->List β}{c:Nat}:∀(l:List α),(∀a∈l,(f a).length<=c)->(l.flatMap f).length<=c*l.length
 |[],_=>by simp
 |a::l,h=>by
  have h1:=h a (by simp);have h2:=WU (f:=f) (c:=c) l (λb hb=>h b (by simp[hb]));rw[ZbS,nH,B8,Nat.mul_succ];omega
def abz{x:Int}(l:List bC):((l.filter λr=>decide (sA r x)).flatMap λr=>(iq z r).map λi=>((r,i):PR)).length<=2*l.length:=by
 have h1:=WU (c:=2) (f:=λr=>(iq z r).map λi=>((r,i):PR)) (l.filter λr=>decide (sA r x)) (λr hr=>by
  rw[we];exact Yk (by simpa using(RI.1 hr).2))
 have h2:=List.length_filter_le (λr=>decide (sA r x)) l;omega
def aw1(C:AU z.n z.l z.c z.fr.toNat z.to.toNat)(K:Kx z)(h:IV z st)(dd:st.s.heap≠[]){k j:Nat}(hk:k<z.n.aj.length)(hu:sA (z.n.aj.getD k default) (st.s.e 0).x):
  KN z (EH z (st.s.e 0).x st k j)/\(EH z (st.s.e 0).x st k j).s.xo<=st.s.xo+1202/\(EH z (st.s.e 0).x st k j).dM.length=(EH z (st.s.e 0).x st k j).az.length:=by
 obtain⟨k1,k2,k3,k4⟩:=h.1.pop K dd;have hP:=ajv C K h dd;have hxf:(DH st).dM.getD (st.s.e 0).x.toNat false=true:=by
  show K1 (DH st) _=true;rw[FY h.1.wf dd k2.1 k2.2,ee rfl]
 have c9:(DH st).s.xo=st.s.xo:=by
  have hs:Hk (zG st.s) (ww st.az st.s):=by unfold ww;rw[iK dd];exact EG rfl
  exact hs.xo
 have hrk:z.n.aj.getD k default∈z.n.aj:=bu hk;obtain⟨r,hr⟩:=aY (z.n.aj.getD k default);have e:EH z (st.s.e 0).x st k j=((((z.n.aj.take k).filter λr=>decide (sA r (st.s.e 0).x)).flatMap λr=>(iq z r).map λi=>((r,i):PR))++((iq z r).take j).map λi=>((r,i):PR)).foldl (λst (p:PR)=>su z p.1 st p.2) (DH st):=by
  rw[uK,<-VP,Zdr];unfold EH Qg;rw[hr]
 have aN:∀p∈(((z.n.aj.take k).filter λr=>decide (sA r (st.s.e 0).x)).flatMap λr=>(iq z r).map λi=>((r,i):PR))++((iq z r).take j).map λi=>((r,i):PR),N6 z p:=by
  intro p hp;rcases lF.1 hp with hp|hp
  .exact aew K (λr h=>yS h) p hp
  .obtain⟨i,hi,rfl⟩:=sE.1 hp;rw[hr]at hrk;exact⟨hrk,Oi K.ft.2 (yS hi)⟩
 obtain⟨a1,_,_,a4⟩:=(aju C K k2 hxf).aoy (λ_ h=>h) _ aN _ hP;rw[<-e]at a1 a4;have l1:=abz (z:=z) (x:=(st.s.e 0).x) (z.n.aj.take k);have l2:=Yk (z:=z) hu;have l3:=K.hn.2.2.1;rw[hr]at l2;rw[nH,we,Ee]at a4;rw[Ee]at l1;exact⟨a1.kn,by omega,by rw[a1.kn.wf.lf,a1.kn.wf.lb]⟩
def ahS{x:Int}{k:Nat}(hk:k<z.n.aj.length):Qg z x st (k+1)=if sA (z.n.aj.getD k default) x then EH z x st k (iq z (z.n.aj.getD k default)).length else Qg z x st k:=by
 unfold EH Qg;rw[dH hk,uK];simp only[Br,Zcy,QM,uJ]
def ahT{x:Int}{k j:Nat}{i:mm}(h:(iq z (z.n.aj.getD k default))[j]? =some i):EH z x st k (j+1)=su z (z.n.aj.getD k default) (EH z x st k j) i:=by
 unfold EH;rw[OS,h,uK];rfl
end
end aT
end Go.Proofs
