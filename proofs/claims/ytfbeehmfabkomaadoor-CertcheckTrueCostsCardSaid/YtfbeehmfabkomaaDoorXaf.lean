/- Part. Conditions: none. -/
import Derived.Test.YtfbeehmfabkomaaDoorXae
set_option linter.all false
set_option maxRecDepth 20000
set_option maxHeartbeats 8000000
namespace Go.Proofs.It
open Go.DM Go.DM.kC
section
variable{nt st h f:Int}{G:Nat}
def anI{t h' f' t':Int}(hi:bl nt st h f t)(hj:bl nt st h' f' t')(dR:cM st f t*nt+h<cM st f' t'*nt+h'):Ey h f t h' f' t'=true:=by
 have iU:cM st f t<=cM st f' t':=by
  by_cases e:cM st f t<=cM st f' t'
  ·exact e
  ·exfalso;unfold bl at hi hj;have h1:(cM st f' t'+1)*nt<=cM st f t*nt:=Zcs (by omega) (by omega);rw[ZcI]at h1;omega
 have hff:f<=f':=by
  by_cases e:f<=f'
  ·exact e
  ·exfalso;unfold bl at hi hj;have:=Hv (st:=st) (f:=f) (t:=t) (s:=f') (u:=t') (by omega) (by omega) (by omega) (by omega) (by omega);omega
 unfold Ey;by_cases e1:f=f'
 ·subst e1;rw[iV (by simp)];have h2:t<=t':=by unfold cM at iU;omega
  by_cases e2:t=t'
  ·subst e2;rw[iV (by simp)];exact decide_eq_true (by omega)
  ·rw[uV (by simpa using e2)];exact decide_eq_true (by omega)
 ·rw[uV (by simpa using e1)];exact decide_eq_true (by omega)
open Classical in
noncomputable def an4(nt st i:Int):Int×Int×Int:=if h:∃p:Int×Int×Int,bl nt st p.1 p.2.1 p.2.2/\i=cM st p.2.1 p.2.2*nt+p.1 then h.choose else default
def an8{i:Int}(hs:sm nt st)(h1:0<=i)(h2:i<da nt st):bl nt st (an4 nt st i).1 (an4 nt st i).2.1 (an4 nt st i).2.2/\i=cM st (an4 nt st i).2.1 (an4 nt st i).2.2*nt+(an4 nt st i).1:=by
 obtain⟨hd,f,t,k1,k2⟩:=TZ hs h1 h2;have hx:∃p:Int×Int×Int,bl nt st p.1 p.2.1 p.2.2/\i=cM st p.2.1 p.2.2*nt+p.1:=⟨(hd,f,t),k1,k2⟩;unfold an4;rw[dif_pos hx];exact hx.choose_spec
noncomputable def aqr(nt st:Int)(C:b8)(i:Nat):gh:=⟨(an4 nt st i).1,(an4 nt st i).2.1,(an4 nt st i).2.2,C.getD i default⟩
noncomputable def an5(nt st b:Int)(C:b8)(k:Nat):List gh:=(List.range k).flatMap λi=>if C.getD i default<b then [aqr nt st C i]else []
def aoF(nt st b:Int)(C:b8)(k:Nat):an5 nt st b C (k+1)=an5 nt st b C k++if C.getD k default<b then [aqr nt st C k]else []:=by simp[an5,TE,QM]
def aoM(nt st b:Int)(C:b8):∀k,(an5 nt st b C k).length<=k
 |0=>by simp[an5]
 |k+1=>by
  rw[aoF,l7];have:=aoM nt st b C k;split<;>simp<;>omega
def aoz{b:Int}{C:b8}{k:Nat}{p:gh}:p∈an5 nt st b C k↔∃i,i<k/\C.getD i default<b/\p=aqr nt st C i:=by
 unfold an5;rw[yJ];constructor
 ·rintro⟨i,hi,h⟩;rw[wb]at hi;split at h
  ·rename_i g;rw[o5]at h;exact⟨i,hi,g,h⟩
  ·cases h
 ·rintro⟨i,hi,g,rfl⟩;exact⟨i,wb.2 hi,by rw[uV g];exact o5.2 rfl⟩
def anu{b:Int}{C:b8}(hs:sm nt st)(hG:(G:Int)=da nt st)(hb:0<=b/\b<=1099511627776)(h0:∀i:Nat,0<=C.getD i default):sA nt st b (an5 nt st b C G):=by
 refine anE.2 ⟨hb,λp hp=>?_, ?_⟩
 ·obtain⟨i,hi,g,rfl⟩:=aoz.1 hp;exact⟨(an8 hs (by omega) (by omega)).1,h0 i,g⟩
 ·have:∀k,k<=G->(an5 nt st b C k).Pairwise λp q=>Ey p.h p.f p.t q.h q.f q.t=true:=by
   intro k;induction k with
   |zero=>intro _;simp[an5]
   |succ k ih=>
    intro hk;rw[aoF,List.pairwise_append];refine⟨ih (by omega),by split<;>simp,λp hp q hq=>?_⟩
    obtain⟨i,hi,_,rfl⟩:=aoz.1 hp;split at hq
    ·rw[o5]at hq;subst hq;obtain⟨a1,a2⟩:=an8 hs (i:=i) (by omega) (by omega);obtain⟨b1,b2⟩:=an8 hs (i:=k) (by omega) (by omega);exact anI a1 b1 (by show cM st (an4 nt st i).2.1 (an4 nt st i).2.2*nt+(an4 nt st i).1<cM st (an4 nt st k).2.1 (an4 nt st k).2.2*nt+(an4 nt st k).1;rw[<-a2,<-b2];omega)
    ·cases hq
  exact this G (fq _)
def aqs{b:Int}{C:b8}(hs:sm nt st)(hG:(G:Int)=da nt st){t:Int}(hi:bl nt st h f t):li (an5 nt st b C G) b nt st (cM st f t*nt+h)=min (C.getD (cM st f t*nt+h).toNat default) b:=by
 rw[tT hi rfl];have hx:=i5 hs hi;obtain⟨i,hii⟩:=dP hx.1;rw[hii]at hx⊢;rw[kx];obtain⟨a1,a2⟩:=an8 hs (i:=i) (by omega) hx.2;obtain⟨e1,e2,e3⟩:=vF a1 hi (by rw[<-a2,hii]);unfold pN;cases hf:(an5 nt st b C G).find? (B4 h f t)with
 |some p=>
  have h1:=List.find?_some hf;have h2:=Tm hf;obtain⟨j,hj,g,hp⟩:=aoz.1 h2;obtain⟨c1,c2⟩:=an8 hs (i:=j) (by omega) (by omega);unfold B4 at h1;have h1:=yV h1;rw[hp]at h1⊢;simp only[aqr]at h1;obtain⟨d1,d2,d3⟩:=h1;rw[d1,d2,d3,hii]at c2;have:j=i:=by have:(j:Int)=(i:Int):=c2;omega
  subst this;simp only[aqr];omega
 |none=>
  simp only;rw[Hp]at hf;by_cases g:C.getD i default<b
  ·have:=hf _ (aoz.2 ⟨i,by omega,g,rfl⟩);simp[B4,aqr,e1,e2,e3]at this
  ·omega
def anJ{n:aA}{l:aM}{b:Int}{C:b8}(hp:jq n l)(hG:(G:Int)=da n.ae l.aj)(hb:0<=b/\b<=1099511627776)(dI:(lT n l).length<=1000000)
  (hC:∀t:Int,C.getD t.toNat default=cst (an3 n l) t):BJ n l b (an5 n.ae l.aj b C G)=decide (b<=cst (an3 n l) (da n.ae l.aj)):=by
 have yn:=hp.Ug.sm;obtain⟨c0,c1,c2⟩:=anH hp dI;have hl:=anu (b:=b) (C:=C) yn hG hb λi=>by have:=hC (i:Int);rw[kx]at this;rw[this];exact c0 _
 obtain⟨L,hL⟩:=ba (an5 n.ae l.aj b C G);have Fh:∀{h f t:Int},bl n.ae l.aj h f t->li L b n.ae l.aj (cM l.aj f t*n.ae+h)=min (cst (an3 n l) (cM l.aj f t*n.ae+h)) b:=by
  intro h f t hi;rw[<-hL,aqs yn hG hi,hC]
 rw[hL]at hl⊢;obtain⟨c,hc⟩:=ba (cst (an3 n l));rw[hc]at c0 c1 c2 Fh⊢;have ano:∀e∈lT n l,tR L b n.ae l.aj e.aG e.dv=aos (λt=>min (c t) b) e.aG e.dv:=by
  intro e he;have yo:=(EG hp e he).2.2.1;have:∀(ts:b8) (s:Int),(∀t∈ts,t∈e.dv)->tR L b n.ae l.aj s ts=aos (λt=>min (c t) b) s ts:=by
   intro ts;induction ts with
   |nil=>intro s _;rfl
   |cons t ts ih=>
    intro s uW;obtain⟨h,f,t',hi,ht⟩:=yo t (uW t (Cq ..));have h1:=Fh hi;rw[<-ht]at h1;show tR L b n.ae l.aj (min (s+li L b n.ae l.aj t) mr) ts=aos (λt=>min (c t) b) (min (s+min (c t) b) mr) ts;rw[h1];exact ih _ λq hq=>uW q (pc _ hq)
  exact this e.dv e.aG λ_ h=>h
 have AF:∀e∈lT n l,min (aos c e.aG e.dv) b<=aos (λt=>min (c t) b) e.aG e.dv/\aos (λt=>min (c t) b) e.aG e.dv<=aos c e.aG e.dv:=by
  intro e he;exact⟨apV c0 hb e.dv e.aG e.aG (EG hp e he).1.1 (by omega),aoy e.dv e.aG e.aG (KN _) λt _=>by omega⟩
 have amZ:∀e∈lT n l,j5 L b n.ae l.aj e=true↔(e.head=da n.ae l.aj->b<=aos c e.aG e.dv):=by
  intro e he;have h1:=AF e he;have h2:=c1 e he;unfold j5;rw[ano e he,ic];rcases(EG hp e he).2.2.2 with hg|⟨h,f,t,hi,hh⟩
  ·rw[hg,zW yn (.inr (KN _))];constructor
   ·intro h _;omega
   ·intro h;have:=h rfl;omega
  ·rw[hh,Fh hi];rw[hh]at h2;have hx:=i5 yn hi;constructor
   ·intro _ h;omega
   ·intro _;simp only[mr]at h2;omega
 unfold BJ;rw[decide_eq_true hl,TQ,BE,pd,ic];constructor
 ·intro h;rcases c2 with e|⟨e,he,h1,h2⟩
  ·rw[e];simp only[mr];omega
  ·have:=(amZ e he).1 (h e he) h1;simp only[mr]at h2;omega
 ·intro h e he;refine(amZ e he).2 λh1=>?_;have:=c1 e he;rw[h1]at this;omega
end
def aoG(v:List VA):b8:=v.map (·.aG)
def aoe(C:b8)(k:Nat):b8:=(List.range C.length).map λi=>if i<k then C.getD i default else 0
def anv(C:b8)(k:Nat):(aoe C k).length=C.length:=by simp[aoe]
def anw{C:b8}{k:Nat}:(aoe C k).set k (C.getD k default)=aoe C (k+1):=by
 apply V2
 ·simp[aoe]
 ·intro i h1 h2;rw[Rc];simp only[aoe,Hj,MH];split
  ·rename_i e;subst e;rw[uV (by omega)]
  ·rename_i e;by_cases h:i<k
   ·rw[uV h,uV (by omega)]
   ·rw[iV h,iV (by omega)]
def aqt{C:b8}:aw (aoe C 0)=List.replicate C.length [ti 0]:=by
 apply V2
 ·simp[aoe,aw]
 ·intro i h1 h2;simp[aoe,aw]
def anx{C:b8}:aoe C C.length=C:=by
 apply V2
 ·simp[aoe]
 ·intro i h1 h2;simp only[aoe,Ub,yf]at h1;simp[aoe,h1]
def ao7(v:List VA)(t:Int):(aoG v).getD t.toNat default=cst v t:=by
 unfold aoG cst;by_cases h:t.toNat<v.length
 ·simp[List.getD,h]
 ·simp[List.getD,Nat.not_lt.1 h];rfl
def am2:au Tryd.prog (bG [(42,vu.s66)]):=by
 refine au.cons au.nil ?_;rintro ts ⟨nd,es,rfl,h⟩;exact⟨by simpa using vu.t66 nd es h,λh=>by cases h⟩
def am9(nd:Int)(H:List HE)(hh:vu.EW nd H):aI Tryd.prog 19 [.agg [ti nd,.sl (vu.cg H)]] (.sl (aw (aoG (vu.qD nd H)))):=by
 have am:=am2;obtain⟨V,hV⟩:=ba (vu.qD nd H);have hVo:vu.LS nd V:=hV▸vu.zA hh;have hVl:V.length<=1000000:=by have:=hVo.1;have:=hh.2.1;omega
 rw[hV];obtain⟨C,hC⟩:=ba (aoG V);have hCl:C.length=V.length:=by rw[<-hC];simp[aoG]
 have hCg:∀y:Nat,(V.getD y default).aG=C.getD y default:=λy=>by rw[<-hC];have:=ao7 V y;rw[kx]at this;rw[this];unfold cst;rw[kx]
 rw[hC];refine ana.ok (by simp) (aC ?_);simp;apply aa.ag am fw [1];simp[aq1];refine aa.lk (o:=[]) (l:=[(1,.v (.box [ti nd,.sl (vu.cg H)]))]) (bC:=1200) (by simp) ?_;apply aa.ag am fw [3];simp[aq2,hV];refine⟨⟨nd,H,⟨rfl,rfl⟩,hh⟩, ?_⟩;have sI:(vu.cm V).length=V.length:=by simp
 apply aa.ag am fw [3,5];simp[aq3,cw];refine⟨by omega, ?_⟩;rw[<-hCl,<-aqt];apply aa.sq am fw [3,5,6];simp[aq4];apply aa.block;refine aa.loop (λy:Nat=>⟨DM.look [(3,.v (.sl (vu.cm V))),(5,.aQ 1246 0),(6,.v (ti y))],cC [(1246,.aR 0 3 1 (aw (aoe C y)))],3000,1000,[]⟩)
  (λy=>y<=V.length) (λy=>V.length-y) 0 (Le.aD ?_ ?_ ?_ ?_) (by simp) (λy hy=>?_)
 iterate 4(·simp)
 apply aa.sq am fw [3,5,6,18];simp[aq5];refine aa.cond rfl (λaZ=>?_) (λaZ=>?_)
 ·have aZ:y<V.length:=by simpa using aZ
  apply aa.skip;simp;apply aa.seq;apply aa.block;have hfl:=anv C y;have ra:=bS (l:=aoe C y) (y:=y) (by omega);have rv:=vu.jJ aZ;have hcg:=hCg y;obtain⟨cv,SU⟩:=ba (C.getD y default);rw[SU]at hcg;have K0:=anw (C:=C) (k:=y);rw[SU]at K0;obtain⟨⟨w1,w2⟩,hw⟩:=ba (V.getD y default);rw[hw]at rv hcg;simp only at hcg;subst hcg;have sH:y<C.length:=by omega
  apply aa.cX am fw [3,5,6];simp[aq6,aZ,hfl,sH,ra,rv,aaF,K0];apply aa.cX am fw [3,5,6];simp[aq7];rw[aq (x:=(y:Int)+1) (by omega)];refine⟨y+1,Le.aD ?_ ?_ ?_ ?_,by omega,by omega⟩;iterate 3(·simp)
  ·simp
 ·have Dp:y=V.length:=by simp at aZ;omega
  subst Dp;rw[<-hCl,anx];apply aa.exit;simp;apply aa.ag am fw [2];simp[aq8];apply aa.ret;simp[ci]
def am3{n:aA}{l:aM}{x:Input}(yn:sm n.ae l.aj)(hx:Ig x):au Tryd.prog (bG [(18,g18),(47,bp abb MS false)]):=by
 refine au.cons (au.cons au.nil ?_) ?_
 ·rintro ts ⟨n,l,i,rfl,h⟩;exact⟨by simpa [MS]using t19 n l i h,λh=>by cases h⟩
 ·rintro ts ⟨x,rfl,h⟩;obtain⟨h1,h2,h3,h4⟩:=th h;exact⟨by simpa using _root_.Go.Proofs.t14 x h1 h2 h3 h4,λh=>by cases h⟩
def anb(n:aA)(x:Input)(b:Int)(C:b8)(G:Nat)(hx:Ig x)(hp:jq n (bn x))(hG:(G:Int)=da n.ae (bn x).aj)(hCl:C.length=G+1):
  aI Tryd.prog 22 [n.enc,x.enc,.sl (aw C),ti b] (.sl (dZ (an5 n.ae (bn x).aj b C G))):=by
 obtain⟨l,hl⟩:=ba (bn x);have Co:bn ⟨x.ai,x.insert,x.swap⟩=l:=hl;rw[hl]at hp hG⊢;have yn:=hp.Ug.sm;have am:=am3 yn hx;have hgs:=anZ hp.nt hp.st;refine anc.ok (by simp) (aC ?_);simp[aA.enc,Input.enc];apply aa.ag am fw [2,3,4,5];simp[aq9];refine aa.lk (o:=[]) (l:=[(2,.v (.sl (aw C))),(3,.v (ti b)),(4,.v (.box [ti n.aK,ti n.ae,ti n.start,.sl (aU n.ak)])),(5,.v (.box [.sl (bj x.ai),.sl (aw x.insert),ti x.swap]))]) (bC:=1500) (by simp) ?_;apply aa.ag am fw [2,3,4,9];simp[ara,Co,aM.enc];refine⟨⟨x,rfl,hx⟩, ?_⟩;refine aa.lk (o:=[]) (l:=[(2,.v (.sl (aw C))),(3,.v (ti b)),(4,.v (.box [ti n.aK,ti n.ae,ti n.start,.sl (aU n.ak)])),(9,.v (.box [ti l.aj,.sl (aV l.aL),.sl (aw l.bK)]))]) (bC:=2000) (by simp) ?_;apply aa.ag am fw [2,3,4,9,10];simp[arb];refine aa.lk (o:=[]) (l:=[(2,.v (.sl (aw C))),(3,.v (ti b)),(4,.v (.box [ti n.aK,ti n.ae,ti n.start,.sl (aU n.ak)])),(9,.v (.box [ti l.aj,.sl (aV l.aL),.sl (aw l.bK)])),(10,.aF)]) (bC:=2500) (by simp) ?_;refine aa.le (Le.lK (k:=10) 63 (sz:=4) (by omega) (by simp)) ?_;rw[gn];apply aa.sq am fw [2,3,4,9,10,11];simp[ard];apply aa.block;refine aa.loop (λy:Nat=>⟨DM.look [(2,.v (.sl (aw C))),(3,.v (ti b)),(4,.v (.box [ti n.aK,ti n.ae,ti n.start,.sl (aU n.ak)])),(9,.v (.box [ti l.aj,.sl (aV l.aL),.sl (aw l.bK)])),(10,.aQ 2500 0),(11,.v (ti y))],cC [(2500,.aR 0 63 4 (dZ (an5 n.ae l.aj b C y)))],3000,1000,[]⟩)
  (λy=>y<=G) (λy=>G-y) 0 (Le.aD ?_ ?_ ?_ ?_) (by simp) (λy hy=>?_)
 ·simp
 ·simp
 ·simp[dZ,an5]
 ·simp
 apply aa.seq;have w1:IntKind.i64.wrap ((C.length:Int)-1)=G:=by rw[hCl,aq (by omega)];omega
 apply aa.ag am fw [2,3,4,9,10,11,20];simp[are,w1];refine aa.cond rfl (λaZ=>?_) (λaZ=>?_)
 ·have aZ:y<G:=by simpa using aZ
  apply aa.skip;simp;apply aa.seq;apply aa.block;obtain⟨i1,i2⟩:=an8 yn (i:=y) (by omega) (by omega);have fF:=vH i1 i2;have hS:=aoF n.ae l.aj b C y;have hPl:=aoM n.ae l.aj b C y;have hpc:aqr n.ae l.aj C y=⟨(an4 n.ae l.aj y).1,(an4 n.ae l.aj y).2.1,(an4 n.ae l.aj y).2.2,C.getD y default⟩:=rfl;obtain⟨⟨ih,if_,it⟩,Lz⟩:=ba (an4 n.ae l.aj y);rw[Lz]at i1 i2 fF hpc;simp only at i1 i2 fF hpc;obtain⟨P,hP⟩:=ba (an5 n.ae l.aj b C y);rw[hP]at hS hPl⊢;apply aa.ag am fw [2,3,4,9,10,11,12,13];simp[arf,MS,fF];refine⟨⟨n,l,y,rfl,yn⟩, ?_⟩;refine aa.lk (o:=[(2500,.aR 0 63 4 (dZ P))]) (l:=[(2,.v (.sl (aw C))),(3,.v (ti b)),(4,.v (.box [ti n.aK,ti n.ae,ti n.start,.sl (aU n.ak)])),(9,.v (.box [ti l.aj,.sl (aV l.aL),.sl (aw l.bK)])),(10,.aQ 2500 0),(11,.v (ti y)),(12,.v (.box [ti ih,ti if_,ti it])),(13,.v (.bool true))]) (bC:=3500) (by simp) ?_;have hyc:y<C.length:=by omega
  have rc:=bS hyc;obtain⟨cv,SU⟩:=ba (C.getD y default);rw[SU]at rc hS hpc;apply aa.ag am fw [2,3,4,9,10,11,12,38];simp[arh,hyc,rc];refine aa.cond rfl (λg6=>?_) (λg6=>?_)
  ·have g6:cv<b:=by simpa using g6
   rw[uV g6,hpc]at hS;have hS:dZ (an5 n.ae l.aj b C (y+1))=dZ P++[[ti ih,ti if_,ti it,ti cv]]:=by rw[hS,apc];rfl
   apply aa.cX am fw [2,3,4,9,10,11];simp[ari,hyc,rc,dW,cw];repeat (refine⟨by omega, ?_⟩)
   apply aa.cX am fw [2,3,4,9,10,11];simp[apo];rw[aq (x:=(y:Int)+1) (by omega)];refine⟨y+1,Le.aD ?_ ?_ ?_ ?_,by omega,by omega⟩
   ·simp
   ·simp
   ·simp[hS]
   ·simp
  ·have g6:¬cv<b:=by simpa using g6
   rw[iV g6,Fo]at hS;apply aa.skip;simp;apply aa.cX am fw [2,3,4,9,10,11];simp[apo];rw[aq (x:=(y:Int)+1) (by omega)];refine⟨y+1,Le.aD ?_ ?_ ?_ ?_,by omega,by omega⟩
   ·simp
   ·simp
   ·simp[hS]
   ·simp
 ·have Dp:y=G:=by simp at aZ;omega
  subst Dp;apply aa.exit;simp;apply aa.ag am fw [8];simp[arj];apply aa.ret;simp[ci]
def anK(nt st:Int)(r:bU)(aL:List bk){f t k:Int}(ha:aL.length<=120)(hf:0<=f/\f<=t/\t<=10):(inst nt st r aL f t k).length<=120:=by
 unfold inst;split
 ·split<;>simp
 split
 ·have:=fu (λi=>if(aL.getD i default).f=f/\(aL.getD i default).t=t/\(aL.getD i default).term=r.a then [fU nt st r f t k (r.cA+(aL.getD i default).aG) i []]else []) 1 (List.range aL.length) λi _=>by split<;>simp
  simp only[yf]at this;omega
 split
 ·simp
 split
 ·simp only[Ub,yf];omega
 ·simp
def aoN{n:aA}{l:aM}(hp:jq n l):(lT n l).length<=1000000:=by
 have uR:=hp.st;have hnr:=hp.nr;have hna:=hp.na;have hnf:=hp.LX;have h1:∀f t:Int,0<=f/\f<=t/\t<=10->(si n.ae l.aj n.ak l.aL f t).length<=2880:=by
  intro f t hf;unfold si;rw[fy];have:=fu (λk=>inst n.ae l.aj (n.ak.getD k default) l.aL f t k) 120 (List.range n.ak.length) λi _=>anK _ _ _ _ hna hf;simp only[yf]at this;unfold ij;omega
 have h2:∀f:Nat,(qG n.ae l.aj n.ak l.aL f l.aj.toNat).length<=31680:=by
  intro f;have:=fu (λt:Nat=>si n.ae l.aj n.ak l.aL f t) 2880 ((List.range l.aj.toNat).drop f) λi hi=>h1 _ _ (by
   rw[ud]at hi;obtain⟨j,hj,rfl⟩:=hi;simp only[qQ,yf]at hj;rw[Fw,MH];omega)
  simp only[qQ,yf]at this;unfold qG;have:(l.aj.toNat-f)*2880<=11*2880:=CG _ (by omega);omega
 have h3:=fu (λf=>qG n.ae l.aj n.ak l.aL f l.aj.toNat) 31680 (List.range l.aj.toNat) λi _=>h2 i;simp only[yf]at h3;have h4:l.aj.toNat*31680<=11*31680:=CG _ (by omega);have h5:=fu (tB n.ae l.aj n.start l.bK) 1 (List.range l.bK.length) λi _=>by unfold tB;split<;>simp
 simp only[yf]at h5;unfold lT;rw[l7];unfold qH pL;omega
def am4{x:T}(h:(Ty.int .i64).arg x):∃n:Int,x=ti n/\-9223372036854775808<=n/\n<=9223372036854775807:=by
 unfold Ty.arg Ty.yk at h;obtain⟨m,hx,hw⟩:=h;simp only[EN,R8]at hx;subst hx;simp only[Lit.wf,gV,ic]at hw;have e1:IntKind.i64.min= -9223372036854775808:=by decide
 have e2:IntKind.i64.max=9223372036854775807:=by decide
 rw[e1,e2]at hw;exact⟨m,rfl,hw⟩
def ane(n:aA)(x:Input)(b:Int)(h1:n.ak.length<=9223372036854775807)(h2:x.insert.length<=9223372036854775807):aI Tryd.prog 6 [n.enc,x.enc,ti b] (.bool true):=by
 have k20:=agB n x h1 h2;obtain⟨v,hv⟩:=ba (decide (mq n x));rw[hv]at k20;obtain⟨ac,Y0⟩:=ba (amt n);obtain⟨l,hl⟩:=ba (bn x);have hfp:v=true->Ig x/\jq n l:=λe=>by
  rw[e]at hv;rw[<-hl];exact⟨x9 (yV hv),zT (yV hv)⟩
 have k21:v=true->aI Tryd.prog 21 [n.enc] (.bool ac):=λe=>by
  have hp:=(hfp e).2;have TT:=hp.nt;obtain⟨N,hN⟩:=dP (show 0<=n.ae by omega);have:=am6 n.aK n.start N n.ak (by omega) (by have:=hp.nr;omega) λr hr=>by
   have q:=hp.ak r hr;unfold jp fV at q;unfold am5;omega
  rw[<-Y0];obtain⟨a1,a2,a3,a4⟩:=n;simp only at hN;subst hN;exact this
 obtain⟨E,hE⟩:=ba (lT n l);obtain⟨G,hG⟩:∃G:Nat,da n.ae l.aj=G\/v=false:=by
  cases v with
  |false=>exact⟨0,.inr rfl⟩
  |true=>have hg:=anZ (hfp rfl).2.nt (hfp rfl).2.st;exact⟨(da n.ae l.aj).toNat,.inl (by omega)⟩
 obtain⟨C,hC⟩:=ba (aoG (an3 n l));have hCl:v=true->C.length=G+1:=λe=>by
  have hp:=(hfp e).2;have hgs:=anZ hp.nt hp.st;have:=(vu.zA (aoL hp (aoN hp))).1;have hgg:=hG.resolve_right (by rw[e];simp);rw[<-hC];unfold aoG an3;rw[Ub];omega
 have k19:v=true->aI Tryd.prog 19 [.agg [ti ((G:Int)+1),.sl (bw E)]] (.sl (aw C)):=λe=>by
  have hp:=(hfp e).2;have hgg:=hG.resolve_right (by rw[e];simp);have:=am9 _ _ (aoL hp (aoN hp));rw[toH_enc,hE,hgg]at this;rw[<-hC];unfold an3;rw[hE,hgg];exact this
 obtain⟨PL,hPL⟩:=ba (an5 n.ae l.aj b C G);have k22:v=true->aI Tryd.prog 22 [n.enc,x.enc,.sl (aw C),ti b] (.sl (dZ PL)):=λe=>by
  have:=anb n x b C G (hfp e).1 (by rw[hl];exact(hfp e).2) (by rw[hl];exact(hG.resolve_right (by rw[e];simp)).symm) (hCl e);rw[hl,hPL]at this;exact this
 obtain⟨w,hw⟩:=ba (BJ n l b PL);have k10:v=true->aI Tryd.prog 10 [n.enc,x.enc,ti b,.sl (dZ PL)] (.bool w):=λe=>by
  have:=aoM n.ae l.aj b C G;have hgs:=anZ (hfp e).2.nt (hfp e).2.st;have hgg:=hG.resolve_right (by rw[e];simp);have:=aa6 n x b PL (hfp e).1 (by rw[hl];exact(hfp e).2) (by rw[<-hPL];omega);rw[hl,hw]at this;exact this
 have anp:v=true->0<=b/\b<=1099511627776->w=decide (b<=C.getD G default):=λe hb=>by
  have hp:=(hfp e).2;have hgg:=hG.resolve_right (by rw[e];simp);have:=anJ (b:=b) (C:=C) (G:=G) hp hgg.symm hb (aoN hp) λt=>by rw[<-hC];exact ao7 _ t
  rw[hPL,hw]at this;rw[this,hgg];have:=ao7 (an3 n l) G;rw[kx,hC]at this;rw[this]
 have k18:v=true->aI Tryd.prog 18 [x.enc] l.enc:=λe=>by
  obtain⟨a1,a2,a3,a4⟩:=th (hfp e).1;rw[<-hl];exact _root_.Go.Proofs.t14 x a1 a2 a3 a4
 have k17:v=true->aI Tryd.prog 17 [n.enc,l.enc] (.agg [ti ((G:Int)+1),.sl (bw E)]):=λe=>by
  have:=t12 n l (hfp e).2;rw[hE,hG.resolve_right (by rw[e];simp)]at this;exact this
 obtain⟨lE,hlE⟩:=ba l.enc;rw[hlE]at k18 k17;have hG2:v=true->G<=1000:=λe=>by have hgs:=anZ (hfp e).2.nt (hfp e).2.st;have:=hG.resolve_right (by rw[e];simp);omega
 have am:au Tryd.prog (bG [(8,s8),(20,bp (λts=>ts=[n.enc,x.enc]) (λ_=>.bool v) true),(21,bp (λts=>ts=[n.enc]/\v=true) (λ_=>.bool ac) true),(18,bp (λts=>ts=[x.enc]/\v=true) (λ_=>lE) false),(17,bp (λts=>ts=[n.enc,lE]/\v=true) (λ_=>.agg [ti ((G:Int)+1),.sl (bw E)]) false),
   (19,bp (λts=>ts=[.agg [ti ((G:Int)+1),.sl (bw E)]]/\v=true) (λ_=>.sl (aw C)) false),(22,bp (λts=>ts=[n.enc,x.enc,.sl (aw C),ti b]/\v=true) (λ_=>.sl (dZ PL)) false),(10,bp (λts=>ts=[n.enc,x.enc,ti b,.sl (dZ PL)]/\v=true) (λ_=>.bool w) true)]):=by
  refine au.cons (au.cons (au.cons (au.cons (au.cons (au.cons (au.cons (au.cons au.nil ?_) ?_) ?_) ?_) ?_) ?_) ?_) ?_
  ·rintro ts ⟨rfl,e⟩;exact⟨k10 e,λ_=>rfl⟩
  ·rintro ts ⟨rfl,e⟩;exact⟨k22 e,λh=>by cases h⟩
  ·rintro ts ⟨rfl,e⟩;exact⟨k19 e,λh=>by cases h⟩
  ·rintro ts ⟨rfl,e⟩;exact⟨k17 e,λh=>by cases h⟩
  ·rintro ts ⟨rfl,e⟩;exact⟨k18 e,λh=>by cases h⟩
  ·rintro ts ⟨rfl,e⟩;exact⟨k21 e,λ_=>rfl⟩
  ·rintro ts rfl;exact⟨k20,λ_=>rfl⟩
  ·rintro ts rfl;exact⟨agh,λ_=>rfl⟩
 clear k20 k21 k22 k19 k17 k18 k10 Y0 hfp hE hG hC hPL hw hv h1 h2 hlE hl;obtain⟨nt,nn,ns,ak⟩:=n;obtain⟨cs,c7,sw⟩:=x;simp only[aA.enc,Input.enc]at am;refine anf.ok (by simp) (aC ?_);simp[aA.enc,Input.enc];apply aa.ag am fw [2,3,4];simp[ark];refine aa.lk (o:=[]) (l:=[(2,.v (ti b)),(3,.v (.box [ti nt,ti nn,ti ns,.sl (aU ak)])),(4,.v (.box [.sl (bj cs),.sl (aw c7),ti sw]))]) (bC:=1200) (by simp) ?_;apply aa.sq am fw [2,3,4,10];simp[arl];refine aa.cond rfl (λg=>by simp at g) (λg=>?_);apply aa.skip;simp;apply aa.seq;obtain⟨c1,cn⟩:=ba ((!v||(!ac||(decide (b<0)||decide (1099511627776<b)))):Bool);refine aa.co am fw [(2,.v (ti b)),(3,.v (.box [ti nt,ti nn,ti ns,.sl (aU ak)])),(4,.v (.box [.sl (bj cs),.sl (aw c7),ti sw])),(27,.v (.bool c1))] ?_ ?_
 ·cases v with
  |false=>simp[aoJ,<-cn]
  |true=>
   cases ac with
   |false=>simp[aoJ,<-cn]
   |true=>
    by_cases q1:b<0
    ·simp[aoJ,<-cn,q1]
    ·simp[aoJ,<-cn,q1]
 refine aa.cond rfl (λg3=>?_) (λg3=>?_)
 ·apply aa.ag am fw [6];simp[arm];apply aa.ret;simp[ci]
 ·rw[g3]at cn;simp only[Bool.or_eq_false_iff,QX,kf]at cn;obtain⟨E8,_,u3,i7⟩:=cn;have TF:=anp E8 (by omega);have cD:=hCl E8;have Mz:=hG2 E8;apply aa.skip;simp;apply aa.ag am fw [2,3,4,7];simp[anq,E8];apply aa.ag am fw [2,3,4,7,8];simp[anr,E8];have w1:IntKind.i64.wrap ((C.length:Int)-1)=(G:Int):=by rw[cD,aq (by omega)];omega
  have TO:G<C.length:=by omega
  have rc:=bS TO;obtain⟨cv,SU⟩:=ba (C.getD G default);rw[SU]at rc TF;apply aa.ag am fw [6];simp[ans,E8,w1,TO,rc,TF];apply aa.ret;simp[ci]
def Seg(aL:List bk):Int->b8->Int->Int->Prop
 |s,[],t,w=>s=t/\w=0
 |s,a::y,t,w=>∃c∈aL,c.f=s/\c.term=a/\∃w',Seg aL c.t y t w'/\w=c.aG+w'
def Seg.append{aL:List bk}:∀{a b:b8} {s m t w1 w2:Int},Seg aL s a m w1->Seg aL m b t w2->Seg aL s (a++b) t (w1+w2)
 |[],b,s,m,t,w1,w2,⟨h1,h2⟩,k=>by subst h1 h2;simpa using k
 |i::is,b,s,m,t,w1,w2,⟨q,h1,h2,h3,w',h4,h5⟩,k=>⟨q,h1,h2,h3,w'+w2,Seg.append h4 k,by omega⟩
def Seg.split{aL:List bk}:∀{a b:b8} {s t w:Int},Seg aL s (a++b) t w->∃m w1 w2,Seg aL s a m w1/\Seg aL m b t w2/\w=w1+w2
 |[],b,s,t,w,h=>⟨s,0,w,⟨rfl,rfl⟩,h,by omega⟩
 |i::is,b,s,t,w,⟨q,h1,h2,h3,w',h4,h5⟩=>by
  obtain⟨m,w1,w2,k1,k2,k3⟩:=Seg.split h4;exact⟨m,q.aG+w1,w2,⟨q,h1,h2,h3,w1,k1,rfl⟩,k2,by omega⟩
def Seg.mono{aL:List bk}(h:∀a∈aL,a.f<=a.t/\0<=a.aG):∀{y:b8} {s t w:Int},Seg aL s y t w->s<=t/\0<=w
 |[],s,t,w,⟨h1,h2⟩=>by omega
 |i::is,s,t,w,⟨q,h1,h2,h3,w',h4,h5⟩=>by
  have:=h q h1;have:=Seg.mono h h4;omega
def akG{aL:List bk}(h:∀a∈aL,0<=a.t){y:b8}{s:Nat}{c:Int}(p:qO aL y s c):Seg aL 0 y s c:=by
 induction p with
 |nil=>exact⟨rfl,rfl⟩
 | @agP ys s c a p ha hf ih=>
  refine Seg.append ih ⟨a,ha,hf,rfl,0,⟨?_,rfl⟩,by omega⟩;have:=h a ha;omega
def agF{n:aA}{l:aM}{s t:Int}{i:Nat}{e:Edge}(h0:0<=s)(h1:s<=t)(h2:t<l.aj)(hi:i<n.ak.length)(he:e∈inst n.ae l.aj (n.ak.getD i default) l.aL s t i):e∈lT n l:=by
 obtain⟨S,rfl⟩:=dP h0;obtain⟨U,rfl⟩:=dP (show 0<=t by omega);unfold lT qH;refine kL.2 (.inl (yJ.2 ⟨S,wb.2 (by omega), ?_⟩));unfold qG;refine yJ.2 ⟨U, ?_, ?_⟩
 ·rw[ud];exact⟨U-S,by simp;omega,by simp;omega⟩
 ·unfold si;rw[iD];unfold ij;exact yJ.2 ⟨i,wb.2 hi,he⟩
def ajc{n:aA}{l:aM}{t:Nat}(ht:t<l.bK.length)(hf:l.bK.getD t default<mr):(⟨da n.ae l.aj,[fo n.ae l.aj n.start 0 t],l.bK.getD t default,-1,t⟩:Edge)∈lT n l:=by
 unfold lT pL;refine kL.2 (.inr (yJ.2 ⟨t,wb.2 ht, ?_⟩));unfold tB;rw[uV hf];exact o5.2 rfl
def S2{L:List gh}{b nt st:Int}{e:Edge}(h:j5 L b nt st e=true):li L b nt st e.head<=tR L b nt st e.aG e.dv:=by
 have:=yV h;omega
def afI{n:aA}{l:aM}{b:Int}{L:List gh}(hp:jq n l)(hk:lj L b)(hf:∀e∈lT n l,j5 L b n.ae l.aj e=true):
  ∀(N:Nat) (d:Tr) (h s t w:Int),d.sz<=N->xo n.ak h d=true->0<=s->t<l.aj->Seg l.aL s (eY n.ak d) t w->li L b n.ae l.aj (fo n.ae l.aj h s t)<=an6 n.ak d+w
 |0,d,h,s,t,w,hd,_,_,_,_=>by have:=aan d;omega
 |N+1,.mk m ks,h,s,t,w,hd,hv,hs,ht,I5=>by
  have ajj:∀a∈l.aL,a.f<=a.t/\0<=a.aG:=λa ha=>by have:=hp.arc a ha;omega
  have UU:=Seg.mono ajj I5;obtain⟨⟨m1,m2⟩,hhd,dI,aaN⟩:=I3.1 hv;obtain⟨m,rfl⟩:=dP m1;rw[kx]at hhd dI aaN;have m2:m<n.ak.length:=by omega
  obtain⟨r,hr⟩:=ba (n.ak.getD m default);rw[hr]at hhd dI aaN;have hrm:r∈n.ak:=by rw[<-hr];exact eI m2
  obtain⟨rb,rk⟩:=hp.ak r hrm;unfold jp at rb;unfold fV at rk;have Ac:=λe he=>hf e (agF (n:=n) (l:=l) (s:=s) (t:=t) (i:=m) (e:=e) hs UU.1 ht m2 (by rw[hr];exact he));simp only[eY,an6,kx,hr]at I5⊢;simp only[Tr.sz]at hd;have hI:mr=1099511627776:=rfl;rcases rk with⟨k1,_⟩|⟨k1,_⟩|⟨k1,ka1,ka2,_⟩|⟨k1,ka1,ka2,kb1,kb2⟩
  ·have KT:anX r=[]:=by unfold anX;rw[iV (by omega),iV (by omega)]
   rw[KT]at dI;obtain rfl:ks=[]:=ZcN.1 dI;rw[iV (by omega)]at I5;obtain⟨e1,e2⟩:=I5;subst e1 e2;have:=S2 (Ac (fU n.ae l.aj r s s m r.cA s []) (by unfold inst;rw[uV k1,uV rfl];exact o5.2 rfl));simp only[fU,tR,Zcc,hhd]at this;simp only[anP];omega
  ·rw[uV k1]at I5;obtain⟨c,hc,c1,c2,w',⟨c3,c4⟩,c5⟩:=I5;obtain⟨j,hj,rfl⟩:=ud.1 hc;have yx:l.aL.getD j default=l.aL[j]:=by simp[List.getD,hj]
   have KT:anX r=[]:=by unfold anX;rw[iV (by omega),iV (by omega)]
   rw[KT]at dI;obtain rfl:ks=[]:=ZcN.1 dI;have:=S2 (Ac (fU n.ae l.aj r s t m (r.cA+(l.aL.getD j default).aG) j []) (by
    unfold inst;rw[iV (by omega),uV k1];refine yJ.2 ⟨j,wb.2 hj, ?_⟩;rw[uV (by rw[yx];exact⟨c1,c3,c2⟩)];exact o5.2 rfl))
   simp only[fU,tR,Zcc,hhd,yx]at this;simp only[anP];omega
  ·have KT:anX r=[r.a]:=by unfold anX;rw[uV k1]
   rw[KT]at dI aaN;obtain⟨k,rfl⟩:=Sk.1 dI;have E8:=aaN 0 (by simp);rw[iV (by omega)]at I5;simp only[anQ,Fo]at I5;simp only[anR]at hd;have ih:=afI hp hk hf N k r.a s t w (by omega) (by simpa using E8) hs ht I5;have:=S2 (Ac (fU n.ae l.aj r s t m r.cA s [fo n.ae l.aj r.a s t]) (by
    unfold inst;rw[iV (by omega),iV (by omega),uV k1];exact o5.2 rfl))
   simp only[fU,tR,Ba,Zcc,hhd]at this;simp only[anP];omega
  ·have KT:anX r=[r.a,r.b]:=by unfold anX;rw[iV (by omega),uV k1]
   rw[KT]at dI aaN;obtain⟨q1,q2,rfl⟩:∃a c,ks=[a,c]:=by
    match ks,dI with
    |[a,c],_=>exact⟨a,c,rfl⟩
   have E8:=aaN 0 (by simp);have nG:=aaN 1 (by simp);rw[iV (by omega)]at I5;simp only[anQ,Fo]at I5;simp only[anR]at hd;obtain⟨u,w1,w2,s1,s2,hw⟩:=Seg.split I5;have n1:=Seg.mono ajj s1;have n2:=Seg.mono ajj s2;have ih1:=afI hp hk hf N q1 r.a s u w1 (by omega) (by simpa using E8) hs (by omega) s1;have QN:=afI hp hk hf N q2 r.b u t w2 (by omega) (by simpa using nG) (by omega) ht s2;have:=S2 (Ac (fU n.ae l.aj r s t m r.cA (s+((u-s).toNat:Nat)) [fo n.ae l.aj r.a s (s+((u-s).toNat:Nat)),fo n.ae l.aj r.b (s+((u-s).toNat:Nat)) t]) (by
    unfold inst;rw[iV (by omega),iV (by omega),iV (by omega),uV k1];exact eM.2 ⟨(u-s).toNat,wb.2 (by omega),rfl⟩))
   rw[show s+((u-s).toNat:Int)=u by omega]at this;simp only[fU,tR,Ba,Zcc,hhd]at this;simp only[anP];omega
def ajk{x:Input}(h:Ig x):nnI x:=by
 obtain⟨g1,g2,g3,g4⟩:=th h;refine⟨λt=>?_,λi=>?_,g1.2.2.2.2.1⟩
 ·unfold yP;by_cases ht:t<x.insert.length
  ·have:=UT h ht;omega
  ·rw[List.getD,MI (by omega)];exact KN 0
 ·unfold yO;by_cases hi:i<x.ai.length
  ·exact(g1.1.2 (x.ai.getD i default) (by simp[List.getD,hi])).1
  ·rw[List.getD,MI (by omega)];exact KN 0
mutual
def aot{n:aA}{l:aM}(hp:jq n l):∀(d:Tr) (h:Int),xo n.ak h d=true->∀a∈eY n.ak d,0<=a/\a<n.aK
 |.mk m ks,h,hv=>by
  obtain⟨⟨m1,m2⟩,hhd,dI,aaN⟩:=I3.1 hv;have hrm:n.ak.getD m.toNat default∈n.ak:=eI (by omega);obtain⟨rb,rk⟩:=hp.ak _ hrm;unfold fV at rk;intro a ha;simp only[eY]at ha;split at ha
  ·rw[o5]at ha;subst ha;omega
  ·exact aak hp ks _ dI.symm aaN a ha
def aak{n:aA}{l:aM}(hp:jq n l):∀(ks:List Tr) (ts:b8),ts.length=ks.length->(∀y,y<ts.length->xo n.ak (ts.getD y default) (ks.getD y default)=true)->∀a∈anQ n.ak ks,0<=a/\a<n.aK
 |[],_,_,_,a,ha=>by simp[anQ]at ha
 |k::ks,[],h,_,_,_=>by simp at h
 |k::ks,t::ts,h,hk,a,ha=>by
  simp only[anQ,kL]at ha;rcases ha with ha|ha
  ·exact aot hp k t (by simpa using hk 0 (by simp)) a ha
  ·exact aak hp ks ts (by simpa using h) (λy hy=>by simpa using hk (y+1) (by simpa using hy)) a ha
end
def agG{n:aA}{x:Input}{b:Int}{L:List gh}{d:Tr}(hf:mq n x)(hl:BJ n (bn x) b L=true)(hv:xo n.ak n.start d=true):b<=an6 n.ak d+ed x (eY n.ak d) 0 0:=by
 have hp:=zT hf;have h6:=x9 hf;obtain⟨ht1,ht2⟩:=x8 hf;obtain⟨g1,g2,g3,g4⟩:=th h6;have hx:=ajk h6;unfold BJ at hl;rw[gV,ic,pd]at hl;obtain⟨ajV,yo⟩:=hl;have hk:lj L b:=⟨ajV.1,λp hp=>by
  obtain⟨i,hi,rfl⟩:=ud.1 hp;have:=(ajV.2 i hi).2.1;simp only[List.getD,mL hi,LQ]at this;have:=ajV.1;omega⟩
 have hpr:=(p9 (ak:=n.ak) (λr hr=>by have:=(hp.ak r hr).1;unfold jp at this;omega) d).1;have ht:=acV x (eY n.ak d) 0 0;have hb:=ajV.1;have hI:mr=1099511627776:=rfl;have hI2:u7=1099511627776:=rfl;by_cases dR:ed x (eY n.ak d) 0 0<u7
 ·have ak0:=aot hp d n.start hv;obtain⟨c,hc,scr⟩:=(ajY hx (eY n.ak d) _ 0 0 (Uc _) (GP _) (GP _) _ dR).1 (KN _);rw[Zdq]at scr;obtain⟨e,c2,e1,e2,e3⟩:=ag8 g1.1 hx scr (λt ht=>by have:=ak0 t ht;omega) 0 [] 0 (fq _) (KN _) .nil (by rw[j4];omega);rw[j4]at e3;rw[Fm]at e2;have ajj:∀a∈(bn x).aL,a.f<=a.t/\0<=a.aG:=λa ha=>by have:=hp.arc a ha;omega
  have I5:=akG (λa ha=>by have:=hp.arc a ha;omega) e2;have hcn:=(Seg.mono ajj I5).2;have uR:(bn x).aj=2*x.ai.length+1:=rfl;have hfl:(bn x).bK.length=2*x.ai.length+1:=Gn x _;have iv:=hp.je ((bn x).bK.getD e default) (eI (by omega));have h1:=afI hp hk yo d.sz d n.start 0 e c2 (fq _) hv (KN _) (by omega) I5;have h2:=S2 (yo _ (ajc (n:=n) (l:=bn x) (t:=e) (by omega) (by rw[hI];omega)));simp only[tR,Ba,Zcc]at h2;rw[zW hp.Ug.sm (.inr (KN _))]at h2;omega
 ·omega
def akH{x:Input}(h:Ig x){y:b8}(hl:y.length<=1000)(hy:∀a∈y,0<=a/\a<x.insert.length):RZ x y:=by
 obtain⟨⟨hd,pR,G3,acu,aiH,vO⟩,g2,g3,g4⟩:=th h;have hc:=O0 h;have hx:=ajk h;refine⟨g2,hl,λj hj=>?_,λc Ar=>⟨g4 c Ar,λp hp=>?_⟩,λi=>⟨hx.del i, ?_⟩,λt=>⟨hx.c7 t, ?_⟩,aiH,vO⟩
 ·exact hy _ (eI hj)
 ·exact(pR c Ar).2 p hp
 ·unfold yO;by_cases hi:i<x.ai.length
  ·exact(hd.2 (x.ai.getD i default) (by simp[List.getD,hi])).2
  ·rw[List.getD,MI (by omega)];decide
 ·unfold yP;by_cases ht:t<x.insert.length
  ·exact(acu (x.insert.getD t default) (by simp[List.getD,ht])).2
  ·rw[List.getD,MI (by omega)];decide
def ak1(c:Cas)(h:c.len)(hz:c.d.sz<=1048576):aI Tryd.prog 4 [c.enc] (.bool true):=by
 have k9:=ak2 c h;obtain⟨v,hv⟩:=ba (decide (xZ c));rw[hv]at k9;have hcE:c.enc=c.enc:=rfl;obtain⟨cE,hcE⟩:=ba c.enc;rw[hcE]at k9;obtain⟨n,x,b,L,d,ops⟩:=c;simp only at hz;have yn:v=true->mq n x/\L.length<=400:=λe=>by
  rw[e]at hv;have:=yV hv;exact⟨this.1,this.2.1⟩
 obtain⟨w,hw⟩:=ba (BJ n (bn x) b L);obtain⟨vp,hvp⟩:=ba (xo n.ak n.start d);have k12:=t24 n.aK n.ae n.start n.ak 1048576 d n.start hz hz;rw[hvp]at k12;have k10:v=true->aI Tryd.prog 10 [n.enc,x.enc,ti b,.sl (dZ L)] (.bool w):=λe=>by
  have:=yn e;rw[<-hw];exact aa6 n x b L (x9 this.1) (zT this.1) (by omega)
 obtain⟨y,hy⟩:=ba (eY n.ak d);obtain⟨pr,hpr⟩:=ba (an6 n.ak d);obtain⟨ev,E1⟩:=ba (ed x y 0 0);have sH:y.length<=1048576:=by rw[<-hy];exact Fz (aao n.ak d) hz
 have k13:vp=true->aI Tryd.prog 13 [n.enc,.agg d.enc] (.sl (aw y)):=λe=>by
  rw[<-hy];exact t27 n.aK n.ae n.start n.ak 1048576 d hz hz ⟨n.start,by rw[hvp,e]⟩
 have akI:v=true->vp=true->(0<=pr/\pr<=1048576000)/\aI Tryd.prog 14 [n.enc,.agg d.enc] (ti pr):=λe e2=>by
  have hr:∀r∈n.ak,0<=r.cA/\r.cA<=1000:=λr hr=>by have:=((zT (yn e).1).ak r hr).1;unfold jp at this;omega
  rw[<-hpr];have:=p9 hr d;exact⟨by omega,t28 n.aK n.ae n.start n.ak hr 1048576 d hz hz ⟨n.start,by rw[hvp,e2]⟩⟩
 have k15:v=true->vp=true->y.length<=20->(0<=ev/\ev<=1099511627776)/\aI Tryd.prog 15 [x.enc,.sl (aw y)] (ti ev):=λe e2 hl=>by
  obtain⟨hf,_⟩:=yn e;have ht:=(x8 hf).1;have hed:=akH (x9 hf) (y:=y) (by omega) λa ha=>by
   have:=aot (zT hf) d n.start (by rw[hvp,e2]) a (by rw[hy];exact ha);omega
  have:=_root_.Go.Proofs.t24 x y hed;rw[E1]at this;exact⟨⟨by rw[<-E1];exact aaA hed.nn y _ 0 0 (Uc _),by rw[<-E1];exact acV x y 0 0⟩,this⟩
 have anp:v=true->vp=true->w=true->b<=pr+ev:=λe1 e2 e3=>by
  have:=agG (yn e1).1 (by rw[hw,e3]) (d:=d) (by rw[hvp,e2]);rw[hy,hpr,E1]at this;exact this
 have am:au Tryd.prog (bG [(8,s8),(9,bp (λts=>ts=[cE]) (λ_=>.bool v) true),(12,bp (λts=>ts=[n.enc,ti n.start,.agg d.enc]) (λ_=>.bool vp) true),(10,bp (λts=>ts=[n.enc,x.enc,ti b,.sl (dZ L)]/\v=true) (λ_=>.bool w) true),(13,bp (λts=>ts=[n.enc,.agg d.enc]/\vp=true) (λ_=>.sl (aw y)) false),
   (14,bp (λts=>ts=[n.enc,.agg d.enc]/\v=true/\vp=true) (λ_=>ti pr) true),(15,bp (λts=>ts=[x.enc,.sl (aw y)]/\v=true/\vp=true/\y.length<=20) (λ_=>ti ev) true)]):=by
  refine au.cons (au.cons (au.cons (au.cons (au.cons (au.cons (au.cons au.nil ?_) ?_) ?_) ?_) ?_) ?_) ?_
  ·rintro ts ⟨rfl,e,e2,hl⟩;exact⟨(k15 e e2 hl).2,λ_=>rfl⟩
  ·rintro ts ⟨rfl,e,e2⟩;exact⟨(akI e e2).2,λ_=>rfl⟩
  ·rintro ts ⟨rfl,e⟩;exact⟨k13 e,λh=>by cases h⟩
  ·rintro ts ⟨rfl,e⟩;exact⟨k10 e,λ_=>rfl⟩
  ·rintro ts rfl;exact⟨k12,λ_=>rfl⟩
  ·rintro ts rfl;exact⟨k9,λ_=>rfl⟩
  ·rintro ts rfl;exact⟨agh,λ_=>rfl⟩
 have alf:=λe1 e2 hl=>(k15 e1 e2 hl).1;have alg:=λe1 e2=>(akI e1 e2).1;clear k9 k12 k10 k13 akI k15 hw hvp hy hpr E1 yn hv h;obtain⟨nt,nn,ns,ak⟩:=n;obtain⟨cs,c7,sw⟩:=x;obtain⟨m,ks⟩:=d;simp only[aA.enc,Input.enc,Tr.enc,Cas.enc,Cas.cells,z6,Fm]at am hcE;subst hcE;refine ak3.ok (by simp) (aC ?_);simp[Cas.enc,Cas.cells,Tr.enc];apply aa.ag am fw [1];simp[afJ];refine aa.lk (o:=[]) (l:=[(1,.v (.box [ti nt,ti nn,ti ns,.sl (aU ak),.sl (bj cs),.sl (aw c7),ti sw,ti b,.sl (dZ L),ti m,.sl (anW ks),.sl (ce ops)]))]) (bC:=1200) (by simp) ?_;apply aa.sq am fw [1,5];simp[afR];refine aa.cond rfl (λg=>by simp at g) (λg=>?_);apply aa.skip;simp;apply aa.seq;obtain⟨c1,cn⟩:=ba ((!(v&&(vp&&w))):Bool);refine aa.co am fw [(1,.v (.box [ti nt,ti nn,ti ns,.sl (aU ak),.sl (bj cs),.sl (aw c7),ti sw,ti b,.sl (dZ L),ti m,.sl (anW ks),.sl (ce ops)])),(31,.v (.bool c1))] ?_ ?_
 ·cases v with
  |false=>simp[aau,<-cn]
  |true=>
   cases vp with
   |false=>simp[aau,<-cn]
   |true=>simp[aau,<-cn]
 refine aa.cond rfl (λg3=>?_) (λg3=>?_)
 ·apply aa.ag am fw [2];simp[afS];apply aa.ret;simp[ci]
 ·rw[g3]at cn;simp only[QX,gV]at cn;obtain⟨E8,nG,Up⟩:=cn;have TF:=anp E8 nG Up;have hp3:=alg E8 nG;apply aa.skip;simp;apply aa.ag am fw [1,3];simp[afV,nG];refine aa.co am fw [(2,.v (.bool true))] ?_ ?_
  ·by_cases q1:y.length<=20
   ·have q2:¬(20:Int)<y.length:=by omega
    have:=alf E8 nG q1;have w1:IntKind.i64.wrap (pr+ev)=pr+ev:=aq (by omega);simp[aaU,q2,q1,E8,nG,w1,TF]
   ·have q2:(20:Int)<y.length:=by omega
    have q3:20<y.length:=by omega
    simp[aaU,q2]
  apply aa.ret;simp[ci]
end Go.Proofs.It
