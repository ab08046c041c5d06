/- Part of the proof. Conditions: none. -/
import Derived.Test.YtljcdomdjgolkaaGreatDoorXad
import Derived.Shelf.SlSortCmp.NoneTotal
import Derived.ChangeArms
import Derived.ChangeStays
import Derived.ChangeSame
import Derived.RowKit
import Derived.OpenShut
import Derived.Test.YtljcdomdjgolkaaGreatDoorXac
import Derived.Test.YtljcdomdjgolkaaGreatDoorProg
import Derived.KernelRfl
set_option linter.unusedSectionVars false
set_option linter.unusedSimpArgs false
set_option linter.unusedVariables false
set_option maxHeartbeats 1000000
set_option maxRecDepth 100000
namespace Go.DM
open Go.RowKit
variable [Laid]
theorem Q2{base:Nat}{W M:Nat->Prop}{w0 w:World}{o1:aU}{L1:Loc}(pn:bK base W M w0 o1 w L1){r k:Nat}{cs:List DV}{d:DV}(lO:o1 r=some (.box cs))
  (hd:∀c f xs,w.heap[L1.gU r]? =some (.cells c f (0,0))->c.toList=xs->∀x,xs[k]? =some x->iW W o1 L1 w (cZ o1 r (.box (cs.set k d))) L1 w->av w W (cZ o1 r (.box (cs.set k d))) L1 d x):
  bK base W M w0 (cZ o1 r (.box (cs.set k d))) w L1/\iW W o1 L1 w (cZ o1 r (.box (cs.set k d))) L1 w:=by
 have wJ:∀{V:Nat->Prop} b,WW V (cZ o1 r (.box (cs.set k d))) L1 b->WW V o1 L1 b:=by
  intro V b hb;rcases hb with hb|⟨r',o,fa,hb⟩
  ·exact .inl hb
  ·rcases dK fa with⟨rfl,rfl⟩|⟨_,fa⟩
   ·exact .inr ⟨r',_,lO,hb⟩
   ·exact .inr ⟨r',o,fa,hb⟩
 have tK:iW W o1 L1 w (cZ o1 r (.box (cs.set k d))) L1 w:=by
  refine⟨cb.refl _ _,λb _ h=>wJ b h,λr' o' fa sQ=>?_,λr' ver e' fW rows fa=>?_,rfl⟩
  ·by_cases he:r'=r
   ·subst he;rw[lO]at fa;cases fa;exact⟨rfl,.box (cs.set k d),by simp[cZ],rfl⟩
   ·exact⟨rfl,o',kZ he fa,rfl⟩
  ·have he:r'≠r:=λhe=>by rw[he,lO]at fa;cases fa
   exact⟨ver,e',fW,rows,kZ he fa,Zae _,λ_=>⟨rfl,rfl,rfl⟩⟩
 refine⟨⟨pn.fr,λr' o fa=>?_,λp p' o o' b bG h1 h2 hb=>?_,λp o b hp hb=>?_,pn.under,pn.gl.aD tK.keeps.toKeepsC tK.sub⟩,tK⟩
 ·rcases dK fa with⟨rfl,rfl⟩|⟨bG,fa⟩
  ·obtain⟨c,f,bM,eG,hm⟩:=pn.ob r' _ lO;exact⟨c,f,bM,wR _ _ _ _ (aK.dZ tK _ _ eG) λy hy=>hd c f _ bM rfl y hy tK,hm⟩
  ·have sQ:=pn.ob r' o fa;cases o with
   |box qH=>
    obtain⟨c',f',AF,AG,D4⟩:=sQ;exact⟨c',f',AF,aK.dZ tK qH _ AG,D4⟩
   |map shs agg c es=>
    obtain⟨arr,AF,AG,q1,q2,q3,D4⟩:=sQ;exact⟨arr,AF,bj.dZ tK es _ AG,q1,q2,q3,D4⟩
   |iter m s sn l=>
    obtain⟨AF,Jb,D4⟩:=sQ;exact⟨AF,(tK.mp m Jb).2,D4⟩
   |arr ver e' fW rows=>
    obtain⟨g1,g2,g3,g4⟩:=sQ;refine⟨g1,g2,g3, ?_⟩;rcases g4 with g4|⟨g,cap,cur,hv,hp,hh,k1,k2,k3,k4⟩
    ·exact .inl g4
    ·exact .inr ⟨g,cap,cur,hv,hp,hh,k1,k2,k3,aP.aD (cb.refl (WW W o1 L1) w).toKeepsC (λb _ hb=>wJ b hb) _ _ k4⟩
 ·have key:∀{p o},cZ o1 r (.box (cs.set k d)) p=some o->∃o2,o1 p=some o2/\L1.own p o=L1.own p o2:=by
   intro p o hp;rcases dK hp with⟨rfl,rfl⟩|⟨_,hp⟩
   ·exact⟨_,lO,rfl⟩
   ·exact⟨o,hp,rfl⟩
  obtain⟨x1,y1,z1⟩:=key h1;obtain⟨x2,y2,z2⟩:=key h2;rw[z1]at hb;rw[z2];exact pn.apart p p' x1 x2 b bG y1 y2 hb
 ·rcases dK hp with⟨rfl,rfl⟩|⟨_,hp⟩
  ·exact pn.outer p _ b lO hb
  ·exact pn.outer p o b hp hb
theorem OD{rows:List (List T)}{sz n:Nat}(h:∀x∈rows,x.length=sz):(rows.take n).flatten=rows.flatten.take (n*sz):=by
 induction rows generalizing n with
 |nil=>simp
 |cons r rs ih=>
  cases n with
  |zero=>simp
  |succ n=>
   have hr:r.length=sz:=h r (by simp);have e1:r.take ((n+1)*sz)=r:=Za2 (by rw[hr,Nat.add_mul];omega);have e2:(n+1)*sz-sz=n*sz:=by rw[Nat.add_mul];omega
   rw[ZbY,Zbe,Zbe,ZcH,hr,e1,e2,ih λx hx=>h x (by simp[hx])]
theorem Le.cut{tm:Nat->DV}{ob:aU}{nxt low:Nat}{td:List (List T)}(r:Nat)(k:Nat){cs:List DV}{q ver n e sz:Nat}{rows:List (List T)}(hr:ob r=some (.box cs))(hk:cs[k]? =some (.sO q ver 0 n))
  (hq:ob q=some (.arr ver e sz rows)):
  Le ⟨tm,ob,nxt,low,td⟩ ⟨tm,cZ (cZ ob q (.arr (ver+1) e sz (rows.take n))) r (.box (cs.set k (.bk q (ver+1)))),nxt,low,td⟩:=by
 intro κ nt a w L h;have hrq:r≠q:=λe=>by rw[e,hq]at hr;cases hr
 obtain⟨W,base,M,w0,dF,h0⟩:=h.r.ex;have hO:=h0.o;obtain⟨c,f,bM,eG,hm⟩:=hO.ob r _ hr;obtain⟨x,hx⟩:=tP _ _ _ _ eG hk;have B9:=wS _ _ _ _ _ eG hk hx;simp only[av]at B9;obtain⟨_,ver',e',fW,dh,fY,_,hv⟩:=B9;rw[hq]at fY;cases fY;obtain⟨PW,p,cap,p2,sP,Mi,Mb⟩:=hv rfl;simp only[Zb1,Zcm,ZaX]at PW Mi Mb;obtain⟨gv,hlen,uw,kj⟩:=hO.ob q _ hq;have o9:aO (L.sl q)=aO x:=by
  rw[sP,Mi];by_cases h0:cap=0
  ·subst h0;cases p<;>cases p2<;>simp[aO]
  ·rw[Mb (by omega)];cases p<;>simp[aO,h0,Addr.add]
 have step:∃xs,aP w (WW W ob L) (rows.take n).flatten xs/\(((rows.take n).length+([]:List (List T)).length=0/\∃a:Option Addr,x=.slice a 0 0)\/∃g cap cur,x=.slice (some ⟨g,0,none⟩) ((rows.take n).length+([]:List (List T)).length) cap/\0<cap/\w.heap[g]? =some (.cells cur e (0,0))/\(rows.take n).length+([]:List (List T)).length<=cap/\cap<=maxLen/\cur.size=cap*sz/\
     cur.toList.take (((rows.take n).length+([]:List (List T)).length)*sz)=xs++[]):=by
  have hl:(rows.take n).length=n:=by rw[Zaw];omega
  rcases kj with⟨rfl,a0,Xj⟩|⟨g,cap',cur,h1,h2,h3,h4,h5,h6,h7⟩
  ·simp only[Zcb]at PW;obtain rfl:n=0:=by omega
   rw[sP]at Xj;simp only[Value.slice.injEq]at Xj;obtain⟨rfl,_,rfl⟩:=Xj;exact⟨[],by simp[aP],.inl ⟨by simp,p2,by rw[Mi]⟩⟩
  ·rw[sP]at h1;simp only[Value.slice.injEq]at h1;obtain⟨rfl,_,rfl⟩:=h1;have:=Mb h2;subst this;refine⟨cur.toList.take (n*sz), ?_,.inr ⟨g,cap,cur,by rw[Mi,hl];simp[Addr.add],h2,h3,by simp only[hl,Zcb];omega,h5,h6,by rw[hl];simp⟩⟩;rw[OD hlen];have:=aP.take (n*sz) h7;rw[Zcv,ZcN (Zba _ PW)]at this;exact this
 obtain⟨xs,hxs,qI⟩:=step;obtain⟨pn,hA⟩:=pa (ys:=[]) (rows:=rows.take n) (ver':=ver+1) (v:=x) (v':=x) (w':=w) (vs:=[]) hO gv (λy hy=>hlen y (by simp only[ZaJ]at hy;exact Zav hy)) (.inr ⟨hq,o9,by omega⟩) hxs (by simp[aP]) qI
  ⟨rfl,rfl,rfl,Zae _,λ_ _ _=>rfl⟩ (λb hb=>.inl hb) (Zae _)
 simp only[ZaJ]at pn hA;obtain⟨o1,GC⟩:∃o1,cZ ob q (.arr (ver+1) e sz (rows.take n))=o1:=⟨_,rfl⟩;have nJ:bR ob (some (q,.arr (ver+1) e sz (rows.take n)))=o1:=GC;rw[nJ]at pn hA;obtain⟨L1,Ow⟩:∃L1,L.gB q x=L1:=⟨_,rfl⟩;rw[Ow]at pn hA;have lO:o1 r=some (.box cs):=by rw[<-GC];exact kZ hrq hr
 have hq1:o1 q=some (.arr (ver+1) e sz (rows.take n)):=by rw[<-GC];simp[cZ]
 obtain⟨Ms,tK⟩:=Q2 (k:=k) (d:=.bk q (ver+1)) pn lO (λc' f' jI zX fX y hy tK=>by
  have hb:L1.gU r=L.gU r:=by rw[<-Ow];rfl
  rw[hb,bM]at zX;cases zX;rw[<-fX,hx]at hy;cases hy;simp only[av];refine⟨⟨_,_,_,Mi⟩,ver+1,e,sz,rows.take n,kZ (Ne.symm hrq) hq1,Zae _,λ_=>?_⟩;rw[<-Ow];simp[Loc.gB])
 have oF:=dF.sub;have we:∀r',nxt<=r'->cZ o1 r (.box (cs.set k (.bk q (ver+1)))) r'=none:=λr' fa=>by
  have hn:=h.fresh r' fa;simp only at hn;have e1:r'≠r:=λe=>by rw[e,hr]at hn;cases hn
  have e2:r'≠q:=λe=>by rw[e,hq]at hn;cases hn
  rw[<-GC];simp only[cZ];rw[if_neg e1,if_neg e2];exact hn
 rw[GC];exact⟨L1,⟨⟨W,base,M,w0,dF,h0.size,λt=>av.dZ tK _ _ (av.dZ hA _ _ (h0.tmps t)),Ms⟩,iW.comp (iW.comp h.r.dZ hA oF.1 oF.2) tK oF.1 oF.2,h.r.defers,h.r.bg,⟨_,we⟩⟩,we,h.low,h.it⟩
end Go.DM
namespace Go.DM
open Go.RowKit
variable [Laid]
section
variable{P:Program}
structure Ez(P:Program)(f:FuncId)(args:List DV)(objs:aU)(N N':Nat)(qg:DV->aU->Prop):Prop where
 entry:Entry P f
 le:N<=N'
 none:∀val aA,qg val aA->(∀r,r<N->objs r=none->aA r=none)/\∀r,N'<=r->aA r=none
 run:∀(base:Nat) (W M:Nat->Prop) (w0 w:World) (L:Loc) (vals:Array Value),bK base W M w0 objs w L->kl w W objs L args vals.toList->
  Calls P f vals w λe w'=>∃v L' val aA,e=.returned v/\qg val aA/\bK base W M w0 aA w' L'/\iW W objs L w aA L' w'/\av w' W aA L' val v
def finN(t:Nat)(qg:DV->aU->Prop):Exit->kV->Prop
 |.normal,st|.ret,st=>qg (st.tmps t) st.objs
 |_,_=>False
theorem aQ.okNs{f:FuncId}{nt:Nat}{d:DC}{t:Nat}(h:aQ P f nt d [.slot t]){args:List DV}{objs:aU}{qg:DV->aU->Prop}{N:Nat}(hN:∀r,N<=r->objs r=none)(hlen:args.length<=nt)
  {N':Nat} (hle:N<=N') (lP:∀val aA,qg val aA->(∀r,r<N->objs r=none->aA r=none)/\∀r,N'<=r->aA r=none)
  (k:dL objs N->aa P nt d (finN t qg) ⟨look (args.zipIdx.map λp=>(p.2,p.1)),over [] objs,N,N,[]⟩):Ez P f args objs N N' qg:=by
 have Am:=h.entry;obtain⟨fn,wi,rfl,h3,hr,_⟩:=h;obtain⟨c,hb,hc⟩:=Zab.1 h3;refine⟨Am,hle,lP,λbase W M w0 w L vals hO NX=>?_⟩;have k:=CX (k (C3 hO hN));have hl:=NX.1;simp only[ZaT]at hl;have uX:Rel ⟨W,objs,L,w,base,M,w0,none,none⟩ fn.ntmps (yh args objs N) {tmps:=vals++Array.replicate (fn.ntmps-vals.size) Go.undef,defers:=[]} w L:=by
  refine⟨⟨⟨W,base,M,w0,⟨rfl,rfl,rfl,rfl,rfl⟩,by simp;omega,λk=>?_,hO⟩,
   iW.cd (cb.refl _ _),⟨[],rfl,ZbT,(λ_ h=>by cases h),λ_=>rfl⟩,λ_=>ZaE hO.fr.gZ hO.fr.size,⟨N,hN⟩⟩,hN,hN,λh=>by cases h⟩
  simp only[yh];cases hk:args[k]? with
  |some x=>
   have hv:∃v,vals.toList[k]? =some v:=by
    have:k<vals.size:=by rw[hl];exact(Zas.1 hk).1
    exact⟨vals[k],by simp[this]⟩
   obtain⟨v,hv⟩:=hv;simp only[oG hv,JP];exact NX.2 k x v hk hv
  |none=>
   have y9:vals.size<=k:=by
    have:=ZbF.1 hk;omega
   simp only[JP,av,oH y9]
 refine callsIn_wide.1 (callsIn_of_wp_marks (n:=0) wi hb trivial ?_);refine wpIn_mono (k.run c hc 0 _ _ _ _ ⟨λJ hJ=>(by cases hJ),λl hl=>(by cases hl)⟩ uX) ?_;rintro e a' w' ⟨dd,L',q,r'⟩;have done:qg (dd.tmps t) dd.objs->LeavesInM Fence.wide 0 P fn a'.tmps (λe w'=>∃v L' val aA,e=.returned v/\qg val aA/\bK base W M w0 aA w' L'/\iW W objs L w aA L' w'/\av w' W aA L' val v) a'.defers .returning w':=by
  intro Wl;obtain⟨Ds,h1,h2,h3,_⟩:=r'.r.defers;rw[h1];refine leaves (κ:=⟨W,objs,L,w,base,M,w0,none,none⟩) rfl ?_ Ds a' w' L' r'.r h1 h2 h3;intro a2 w2 L2 h4;obtain⟨W',Mr,M',w0',dF,h0⟩:=h4.ex;obtain⟨_,e1,e2,e3,e4⟩:=dF
  replace h0:R0 base W M w0 fn.ntmps dd.tmps dd.objs a2 w2 L2:=by rw[e1,e2,e3,e4]at h0;exact h0
  exact⟨_,vo hr,_,L2,dd.tmps t,dd.objs,rfl,Wl,h0.o,h4.dZ,h0.tmps t⟩
 cases e with
 |normal=>exact done q
 |ret=>exact done q
 |_=>exact q.elim
section
variable{nt:Nat}{Γ:Env}{Q:Exit->kV->Prop}{tm:Nat->DV}{ob:aU}{nxt low:Nat}{td:List (List T)}
end
end
end Go.DM
namespace Go.DM
open Go.RowKit
variable [Laid]
section
variable{P:Program}{nt:Nat}{Γ:Env}{κ:Ctx}{ro:Option Nat}{n:Nat}
theorem AM(wj:κ.Good P){ops:Array Oper}{i:Nat}{o:Oper}{f:FuncId}{args:List bp}{dst:Option Nat}{af:List Nat}(hi:ops[i]? =some o)(hco:cL P ops o=some ⟨.call f args,dst,none,af,none⟩)(ya:ke nt ⟨.call f args,dst,none,af,none⟩=true)
  {s1:RS} {a1:Act} {w1:World} {L1:Loc} (R1:dE κ nt s1 a1 w1 L1) {N N':Nat} {qg:DV->aU->Prop} (bd:Ez P f (args.map (·.ev s1.tmps)) s1.objs N N' qg) {K:Act->World->Prop} {Q:Exit->Act->World->Prop}
  (hK:∀a' w' L' val ob',qg val ob'->dE κ nt ⟨b7 s1.tmps dst val,ob',s1.todo⟩ a' w' L'->K a' w'):wpOpIn (iH κ.ro) n P ops Q i K a1 w1:=by
 obtain⟨hd,hgd,jP,_⟩:=fe (r:=⟨.call f args,dst,none,af,none⟩) hco;rw[wpOpIn];simp only[hi];rw[CO (b:=true) hgd R1 rfl];simp only[if_true];refine⟨mE _ w1 _, ?_⟩;have hd':cD P o=some (.call f args):=hd;have yX:∀c,o.op≠ .defer c:=pV hd';rw[show(iH κ.ro).round=κ.ro from rfl,Oper.semAt_eq κ.ro _ _ yX];obtain⟨c,ho,bM⟩:=en hd' (.inl ⟨f,args,rfl⟩);obtain⟨fn,jf,wi,hne',FO,nZ⟩:=lk bM;have bz:=jw (P:=P) (w:=w1) (a:=a1) (g:=f) (caps:= #[]) ho (λx hx=>by rw[jf]at hx;cases hx;rfl) ⟨_,jf⟩ ⟨fn,wi,hne',FO⟩;rw[ZbD]at bz;rw[bz,Oper.uponIn_enter];refine⟨λhx=>(by cases hx),dQ ?_⟩;obtain⟨W,base,M,w0,dF,h0⟩:=R1.ex;refine(bd.run base W M w0 w1 L1 (c.args.map a1.eval) h0.o (by simpa using gb h0.o.gl h0.tmps nZ)).mono ?_;rintro e w2 ⟨v,L2,val,ob2,rfl,hP,Ms,tK,ji⟩;have Wm:∀d,dst=some d->d<nt:=by
  intro d hd;have:=ya;subst hd;simp only[ke,Zam,decide_eq_true_eq]at this;exact this.2
 have R2:=dE.put R1 dF h0 dst Wm Ms tK ji ⟨N',(bd.none val ob2 hP).2⟩;have YW:dst=o.dst:=jP;rw[YW]at R2;rw[YW]at hK;exact hK _ _ _ _ _ hP R2
end
section
variable{P:Program}{nt:Nat}{Γ:Env}{Q:Exit->kV->Prop}{tm:Nat->DV}{ob:aU}{nxt low:Nat}{td:List (List T)}
def CN(P:Program)(nt nxt N':Nat)(f:FuncId)(args:List bp)(s:RS)(k:DV->aU->Prop):Prop:=
 ∃qg,((∀r,nxt+nt+1<=r->s.objs r=none)->Ez P f (args.map (·.ev s.tmps)) s.objs (nxt+nt+1) N' qg)/\∀val ob',qg val ob'->k val ob'
theorem pz{a:Array Bool}{i:Nat}(h:i<a.size)(d e:Bool):a.getD i d=a.getD i e:=by
 rw[Zax,Zax];simp[h]
theorem aa.regND(ay:aw P Γ)(hm:P.follows .mixedOrders=true){r0 r1:RO}{post:List RO}{f:FuncId}{args:List bp}{dst:Option Nat}{N':Nat}(ks:List Nat){rs:List RO}(jH:rs=r0::r1::⟨.call f args,dst,none,[1],none⟩::post)
  (ha:r0.after=[]/\r1.after=[]) (hp:∀y∈post,0∈y.after/\1∈y.after/\2∈y.after)
  (hA:exec Γ nxt [r0,r1] ⟨tm,ob,td⟩ λs=>CN P nt nxt N' f args s λval ob'=>exec Γ nxt post ⟨b7 s.tmps dst val,ob',s.todo⟩ λs'=>Q .normal ⟨look (ko ks s'.tmps),s'.objs,N',low,s'.todo⟩)
  (hB:exec Γ nxt [r1,r0] ⟨tm,ob,td⟩ λs=>CN P nt nxt N' f args s λval ob'=>exec Γ nxt post ⟨b7 s.tmps dst val,ob',s.todo⟩ λs'=>Q .normal ⟨look (ko ks s'.tmps),s'.objs,N',low,s'.todo⟩)
  (hC:exec Γ nxt [r1] ⟨tm,ob,td⟩ λs=>CN P nt nxt N' f args s λval ob'=>exec Γ nxt (r0::post) ⟨b7 s.tmps dst val,ob',s.todo⟩ λs'=>Q .normal ⟨look (ko ks s'.tmps),s'.objs,N',low,s'.todo⟩):
  aa P nt (.region true rs) Q ⟨tm,ob,nxt,low,td⟩:=by
 refine⟨λc hc=>?_⟩;obtain⟨id,ops,rfl,mA,aF⟩:=ph hc;have YX:=pX mA;have hcs':eI P ops=some (rs.map bare):=by rw[YX];exact mA
 obtain⟨hlen,pg⟩:=mI hcs';simp only[c8,Zam,Zci,Bool.false_or]at aF;obtain⟨⟨dH,El⟩,hpr⟩:=aF;obtain⟨cW,Qu⟩:=Aj hpr;have gv:ops.size=3+post.length:=by rw[<-hlen,jH];simp;omega
 let g:Nat->RO:=λi=>(rs[i]?).getD ⟨.bP (.cm .undef),none,none,[],none⟩
 have gg:∀i,i<ops.size->rs[i]? =some (g i):=λi hi=>by
  have:i<rs.length:=by omega
  simp[g,this]
 have hbr:∀x∈rs,bare x=x:=λx hx=>by
  obtain⟨i,hi,rfl⟩:=ZaY hx;have:=congrArg (λl=>l[i]?) YX;simp only[Zbp,Zan hi,Za0,Zaa]at this;exact this
 have YF:∀(i:Nat) (o:Oper),ops[i]? =some o->cL P ops o=some (bare (g i)):=λi o ho=>by
  obtain⟨r,h1,h2⟩:=pg i o ho;have:g i=r:=by simp[g,h1]
  rw[this];exact h2
 have g0:g 0=r0:=by simp[g,jH]
 have g1:g 1=r1:=by simp[g,jH]
 have g2:g 2=⟨.call f args,dst,none,[1],none⟩:=by simp[g,jH]
 have jR:∀i,i<ops.size->ke nt (g i)=true:=λi hi=>ZaI.1 dH _ (Zaq (gg i hi));have jS:∀(i:Nat) (listed:Array Bool),i∈Region.ready .any ops listed↔listed.getD i true=false/\i<ops.size/\∀e∈(g i).after,listed.getD e false=true:=by
  intro i listed;rw[mem_ready];constructor
  ·rintro⟨h0,o,ho,h⟩;refine⟨h0,(Zai.1 ho).1,λe he=>?_⟩;have:=(fe (YF i o ho)).2.2.2;rw[this]at he;simp only[Zal,ZaN]at he;obtain⟨x,⟨hx,hb⟩,rfl⟩:=he;exact h x (by simpa using hx) hb
  ·rintro⟨h0,hi,h⟩;have ho:ops[i]? =some ops[i]:=by simp[hi]
   refine⟨h0,ops[i],ho,λe he hb=>h e.on ?_⟩;rw[(fe (YF i _ ho)).2.2.2];exact Zal.2 ⟨e,ZaN.2 ⟨by simpa using he,hb⟩,rfl⟩
 have MG:∀i,3<=i->i<ops.size->g i∈post:=λi h3 hi=>by
  have h:=gg i hi;rw[jH]at h;obtain⟨k,rfl⟩:∃k,i=k+3:=⟨i-3,by omega⟩;simp only[ZaW]at h;exact Zaq h
 have AN:(List.range' 3 post.length).map g=post:=by
  apply Zbk;intro k;by_cases hk:k<post.length
  ·have h:=gg (k+3) (by omega);rw[jH]at h;simp only[ZaW]at h;rw[Zbp,List.getElem?_range' hk,h];simp[Nat.add_comm]
  ·rw[ZaR (by simp;omega),ZaR (by omega)]
 have bG:∀l:List Nat,l.Nodup->(∀i∈l,i<ops.size)->dJ (l.map g)=true:=by
  intro l;induction l with
  |nil=>intro _ _;rfl
  |cons i l ih=>
   intro hl hb;simp only[Zau,dJ,Zam,ZaI];rw[ZbM]at hl;refine⟨λy hy=>?_,ih hl.2 λj hj=>hb j (by simp[hj])⟩;obtain⟨j,hj,rfl⟩:=Zal.1 hy;exact nK El i j _ _ (by rintro rfl;exact hl.1 hj) (gg i (hb i (by simp))) (gg j (hb j (by simp[hj])))
 have hind:∀(listed:Array Bool) (i x:Nat),i<ops.size->x<i->listed.getD x true=false->(∀(j:Nat),j<ops.size->listed.getD j false=true->∀e∈(g j).after,listed.getD e false=true)->(∀e∈(g i).after,listed.getD e false=true)->indep (g x) (g i)=true:=by
  intro listed i x hi hx sa bd hd;rcases Qu i x (g i) (g x) (gg i hi) hx (gg x (by omega))with h1|⟨m,wk,D5⟩
  ·exact h1
  ·exfalso;have:=uT (rs:=rs) (listed:=listed) cW (λj y hj hy=>by
    have hjn:j<ops.size:=by have:=(Zas.1 hy).1;omega
    have:y=g j:=by rw[gg j hjn]at hy;exact(ZbK hy).symm
    rw[this];exact bd j hjn hj) i (g i) m x (gg i hi) wk D5 hd
   rw[Zax]at this sa;cases qn:listed[x]? with
   |none=>rw[qn]at this;simp at this
   |some b=>rw[qn]at this sa;simp at this sa;rw[this]at sa;cases sa
 intro n κ act w L wj r;have J3:∀t,nxt<=t->ob t=none:=λt ht=>r.fresh t ht;have du:∀x:RO,∃k,nm nxt x=nxt+k:=λx=>by
  unfold nm nameOf;cases x.dst with
  |none=>exact⟨0,rfl⟩
  |some d=>exact⟨d+1,by simp only[Nat.add_assoc]⟩
 have Cd:∀i,i<ops.size->nm nxt (g i)<nxt+nt+1:=by
  intro i hi;have:=jR i hi;simp only[ke,Zam]at this;unfold nm nameOf;cases hyd:(g i).dst with
  |none=>simp only;omega
  |some d=>
   have:=this.2;rw[hyd]at this;simp only[decide_eq_true_eq]at this;simp only;omega
 have YY:∀i,i<ops.size->eH (g i)=true:=λi hi=>by have:=jR i hi;simp only[ke,Zam]at this;exact this.1.2
 have fin3:∀(listed:Array Bool),listed.size=ops.size->(∀i,i<ops.size->listed.getD i true=decide (i<3))->∀(st:RS) (a:Act) (w:World) (L:Loc),dE κ nt st a w L->gf nxt post st->nxt+nt+1<=N'->(∀t,N'<=t->st.objs t=none)->
   iJ Γ nxt post st->Q .normal ⟨look (ko ks (cM Γ nxt post st).tmps),(cM Γ nxt post st).objs,N',low,(cM Γ nxt post st).todo⟩->
   wpAnyIn (iH κ.ro) n P .any ops (λe a w=>∃dd L',Q e dd/\Rel κ nt dd a w L') post.length listed a w:=by
  intro listed hs hl st a w L hR hF hle hhigh bz hQ;have Xk:rem ops.size listed=List.range' 3 post.length:=by
   unfold rem;rw[gv,Zcp,<-List.range'_append_1,List.filter_append];have e1:(List.range' 0 3).filter (λi=> !listed.getD i true)=[]:=by
    rw[List.filter_eq_nil_iff];intro i hi;have:=Zbg.1 hi;rw[hl i (by omega)];simp;omega
   have e2:(List.range' (0+3) post.length).filter (λi=> !listed.getD i true)=List.range' (0+3) post.length:=by
    rw[List.filter_eq_self];intro i hi;have:=Zbg.1 hi;rw[hl i (by omega)];simp;omega
   rw[e1,e2];simp
  refine Mm ay wj (g:=g) YF jR bG hind (λi hi=>cW i (g i) (gg i hi)) post.length listed hs (by rw[Xk];simp) (λj hj Mn e he=>?_) st a w L hR (by rw[Xk,AN];exact hF) (by rw[Xk,AN];exact bz) ?_
  ·have h1:=hl j hj;rw[pz (by omega) true false]at h1;rw[h1]at Mn;have hj3:j<3:=by simpa using Mn
   have h3:j=0\/j=1\/j=2:=by omega
   rcases h3 with rfl|rfl|rfl
   ·rw[g0,ha.1]at he;cases he
   ·rw[g1,ha.2]at he;cases he
   ·rw[g2]at he;simp only[Zag,Zap,or_false]at he;subst he;have:=hl 1 (by omega);rw[pz (by omega) true false]at this;rw[this];rfl
  ·rw[Xk,AN];intro a3 w3 L3 R3;have hall2:post.all (ke nt)=true:=by
    rw[ZaI];intro y hy;exact ZaI.1 dH y (by rw[jH];simp[hy])
   have we:∀t,N'<=t->(cM Γ nxt post st).objs t=none:=λt ht=>qX ay post hall2 _ bz t (ZaE hle ht) (hhigh t ht);obtain⟨L4,R4⟩:=Le.uZ (st:=⟨(cM Γ nxt post st).tmps,(cM Γ nxt post st).objs,N',low,(cM Γ nxt post st).todo⟩) (mM _ ks) κ nt a3 w3 L3 ⟨R3,we,r.low,r.it⟩;exact⟨_,L4,hQ,R4⟩
 have J4:∀{l:Array Bool} {i j:Nat},l.size=ops.size->i<ops.size->j<ops.size->(l.setIfInBounds i true).getD j true=if j=i then true else l.getD j true:=λ{l i j} hs hi hj=>by
  rw[Zax,Zb2,Zax];by_cases e:j=i
  ·subst e;simp[hs,hj]
  ·have:¬i=j:=λh=>e h.symm;simp[e,this]
 obtain⟨a1,hA⟩:=eJ _ _ _ hA;obtain⟨b1,hB⟩:=eJ _ _ _ hB;obtain⟨c1,hC⟩:=eJ _ _ _ hC;simp only[iJ,cM,and_true]at a1 b1 c1 hA hB hC;have hh:dE κ nt ⟨tm,ob,td⟩ act {w with drawn:=w.drawn+1} L:=by
  have hb:tA w.heap.size w {w with drawn:=w.drawn+1}:=⟨⟨rfl,rfl,rfl,Zae _,λ_ _=>rfl⟩,ZcO _⟩;obtain⟨W,base,M,w0,dF,h0⟩:=r.r.ex;obtain⟨hO,hA⟩:=bK.grow h0.o hb;obtain⟨Ds,h1,h2,h3,h4⟩:=r.r.defers;exact⟨⟨W,base,M,w0,dF,h0.size,λt=>av.dZ hA _ _ (h0.tmps t),hO⟩,r.r.dZ.comp hA dF.sub.1 dF.sub.2,⟨Ds,h1,h2,λD hD=>⟨hA.keeps.NL D (h3 D hD).1,(h3 D hD).2⟩,h4⟩,r.r.bg,r.r.fin⟩
 have B5:∀i (hi:i<ops.size),ops[i]? =some ops[i]:=λi hi=>by simp[hi]
 have y9:nxt<=nxt+nt+1:=by omega
 have F0:gf nxt (r0::r1::⟨.call f args,dst,none,[1],none⟩::post) ⟨tm,ob,td⟩:=⟨J3 nxt (Zae _),λx _=>by obtain⟨k,hk⟩:=du x;rw[hk];exact J3 _ (by omega)⟩;have dA:dJ (r0::r1::⟨.call f args,dst,none,[1],none⟩::post)=true:=by rw[<-jH];exact El
 have dB:dJ (r1::r0::⟨.call f args,dst,none,[1],none⟩::post)=true:=by
  have:=bG (1::0::2::List.range' 3 post.length) (by
   simp only[ZbM,Zag,Zbg];refine⟨by omega,by omega,by omega,List.nodup_range'⟩) (λi hi=>by
   simp only[Zag,Zbg]at hi;omega)
  simpa only[Zau,g0,g1,g2,AN]using this
 have sub:∀{l l':List RO} {st:RS},gf nxt l st->(∀x∈l',x∈l)->gf nxt l' st:=λh k=>⟨h.1,λy hy=>h.2 y (k y hy)⟩;have lowp:∀y∈post,nm nxt y<nxt+nt+1:=λy hy=>by
  rw[<-AN]at hy;obtain⟨i,hi,rfl⟩:=Zal.1 hy;exact Cd i (by have:=Zbg.1 hi;omega)
 have low0:nm nxt r0<nxt+nt+1:=by rw[<-g0];exact Cd 0 (by omega)
 have ro0:ke nt r0=true:=by rw[<-g0];exact jR 0 (by omega)
 have ro1:ke nt r1=true:=by rw[<-g1];exact jR 1 (by omega)
 have ro2:ke nt ⟨.call f args,dst,none,[1],none⟩=true:=by rw[<-g2];exact jR 2 (by omega)
 have co0:cL P ops ops[0]=some (bare r0):=by rw[<-g0];exact YF 0 _ (B5 0 (by omega))
 have co1:cL P ops ops[1]=some (bare r1):=by rw[<-g1];exact YF 1 _ (B5 1 (by omega))
 have co2:cL P ops ops[2]=some ⟨.call f args,dst,none,[1],none⟩:=by have:=YF 2 _ (B5 2 (by omega));rw[g2]at this;exact this
 have la0:eH r0=true:=by rw[<-g0];exact YY 0 (by omega)
 have la1:eH r1=true:=by rw[<-g1];exact YY 1 (by omega)
 have Yw:∀t,nxt+nt+1<=t->(⟨tm,ob,td⟩:RS).objs t=none:=λt ht=>J3 t (by omega);have high:∀{r:RO} {st:RS},ke nt r=true->bT Γ nxt r st->(∀t,nxt+nt+1<=t->st.objs t=none)->∀t,nxt+nt+1<=t->(cI Γ nxt r st).objs t=none:=λ{r st} hr hk h t ht=>
  qX (nt:=nt) ay [r] (by simp[hr]) st ⟨hk,trivial⟩ t ht (h t ht)
 have hbig:∀(l:Array Bool) (m:Nat),l.size=ops.size->(∀i,i<ops.size->l.getD i true=decide (i<m))->m<=3->∀i,i∈Region.ready .any ops l->3<=i->m=3:=by
  intro l m hs hl hm3 i hi h3;obtain⟨_,sS,hd⟩:=(jS i l).1 hi;have h2:=hd 2 (hp _ (MG i h3 sS)).2.2;rw[pz (by omega) false true,hl 2 (by omega)]at h2;have:2<m:=by simpa using h2
  omega
 have Q3:∀(l:Array Bool),l.size=ops.size->(∀i,i<ops.size->l.getD i true=decide (i<2))->∀(s:RS) (a:Act) (w:World) (L:Loc),dE κ nt s a w L->gf nxt post s->(∀t,nxt+nt+1<=t->s.objs t=none)->
   CN P nt nxt N' f args s (λval ob'=>exec Γ nxt post ⟨b7 s.tmps dst val,ob',s.todo⟩ λs'=>Q .normal ⟨look (ko ks s'.tmps),s'.objs,N',low,s'.todo⟩)->
   wpAnyIn (iH κ.ro) n P .any ops (λe a w=>∃dd L',Q e dd/\Rel κ nt dd a w L') (post.length+1) l a w:=by
  rintro l hs hl s a w L hR hF hh ⟨qg,bd,hpo⟩;have bd:=bd hh;refine⟨λhr=>?_,λi hi=>?_⟩
  ·exfalso;have:2∈Region.ready .any ops l:=(jS 2 l).2 ⟨by rw[hl 2 (by omega)];rfl,by omega,λe he=>by
    rw[g2]at he;simp only[Zag,Zap,or_false]at he;subst he;rw[pz (by omega) false true,hl 1 (by omega)];rfl⟩
   rw[hr]at this;cases this
  ·have ni:=(jS i l).1 hi;have h2:i=2:=by
    rcases Zbz i 3 with h|h
    ·have h0:=ni.1;rw[hl i ni.2.1]at h0;have:¬i<2:=by simpa using h0
     omega
    ·have:=hbig l 2 hs hl (by omega) i hi h;omega
   subst h2;refine AM wj (B5 2 (by omega)) co2 ro2 hR bd λa' w' L' val ob' hP YZ=>?_;obtain⟨x1,x2⟩:=eJ _ _ _ (hpo val ob' hP);have ux:=bd.none val ob' hP;refine fin3 _ (by simpa using hs) (λj hj=>?_) _ a' w' L' YZ ⟨ux.1 _ (by omega) hF.1,λy hy=>ux.1 _ (lowp y hy) (hF.2 y hy)⟩ bd.le ux.2 x1 x2;rw[J4 hs (by omega) hj,hl j hj];split
   ·rename_i e;subst e;rfl
   ·rename_i e;rw[decide_eq_decide];omega
 have start:∀(w':World),dE κ nt ⟨tm,ob,td⟩ act w' L->wpAnyIn (iH κ.ro) n P .any ops (λe a w=>∃dd L',Q e dd/\Rel κ nt dd a w L') ops.size (Array.replicate ops.size false) act w':=by
  intro w0 hh;have Q4:(Array.replicate ops.size false).size=ops.size:=by simp
  have B8:∀i,i<ops.size->(Array.replicate ops.size false).getD i true=false:=λi hi=>by rw[Zax];simp[hi]
  obtain⟨l0,hl0e⟩:∃l0,Array.replicate ops.size false=l0:=⟨_,rfl⟩;rw[hl0e]at Q4 B8⊢;rw[show ops.size=post.length+1+1+1 by omega];refine⟨λhr=>?_,λi hi=>?_⟩
  ·exfalso;have:0∈Region.ready .any ops l0:=(jS 0 l0).2 ⟨B8 0 (by omega),by omega,λe he=>by rw[g0,ha.1]at he;cases he⟩;rw[hr]at this;cases this
  ·obtain⟨_,sS,hd⟩:=(jS i l0).1 hi;have h01:i=0\/i=1:=by
    rcases Zbz i 2 with h|h
    ·omega
    ·exfalso;rcases Zbz i 3 with h3|h3
     ·obtain rfl:i=2:=by omega
      have:=hd 1 (by rw[g2];simp);rw[pz (by omega) false true,B8 1 (by omega)]at this;cases this
     ·have:=hd 2 (hp _ (MG i h3 sS)).2.2;rw[pz (by omega) false true,B8 2 (by omega)]at this;cases this
   rcases h01 with rfl|rfl
   ·refine ia ay wj (B5 0 (by omega)) co0 ro0 hh (F0.2 r0 (by simp)) a1.1 λa' w' L' h'=>?_;have FA:=jx ay la0 a1.1 (λy hy=>ib dA y hy) (sub F0 (l':=r1::⟨.call f args,dst,none,[1],none⟩::post) (by simp+contextual));have J5:(l0.setIfInBounds 0 true).size=ops.size:=by simpa using Q4
    have wq:∀j,j<ops.size->(l0.setIfInBounds 0 true).getD j true=decide (j<1):=λj hj=>by
     rw[J4 Q4 (by omega) hj,B8 j hj];split
     ·rename_i e;subst e;rfl
     ·rename_i e;symm;rw[decide_eq_false_iff_not];omega
    refine⟨λhr=>?_,λi hi=>?_⟩
    ·exfalso;have:1∈Region.ready .any ops (l0.setIfInBounds 0 true):=(jS 1 _).2 ⟨by rw[wq 1 (by omega)];rfl,by omega,λe he=>by rw[g1,ha.2]at he;cases he⟩;rw[hr]at this;cases this
    ·obtain⟨h0,sS,hd⟩:=(jS i _).1 hi;have hi1:i=1:=by
      rcases Zbz i 3 with h3|h3
      ·rw[wq i sS]at h0;have:¬i<1:=by simpa using h0
       rcases(show i=1\/i=2 by omega)with h|rfl
       ·exact h
       ·exfalso;have:=hd 1 (by rw[g2];simp);rw[pz (by omega) false true,wq 1 (by omega)]at this;cases this
      ·have:=hbig _ 1 J5 wq (by omega) i hi h3;omega
     subst hi1;refine ia ay wj (B5 1 (by omega)) co1 ro1 h' (FA.2 r1 (by simp)) a1.2 λa2 w2 L2 h2=>?_;have dA1:dJ (r1::⟨.call f args,dst,none,[1],none⟩::post)=true:=by simp only[dJ,Zam]at dA⊢;exact dA.2
     have FA2:=jx ay la1 a1.2 (λy hy=>ib dA1 y hy) (sub FA (l':=⟨.call f args,dst,none,[1],none⟩::post) (by simp+contextual));refine Q3 _ (by simpa using J5) (λj hj=>?_) _ a2 w2 L2 h2 (sub FA2 (by simp+contextual)) (high ro1 a1.2 (high ro0 a1.1 Yw)) hA;rw[J4 J5 (by omega) hj,wq j hj];split
     ·rename_i e;subst e;rfl
     ·rename_i e;rw[decide_eq_decide];omega
   ·refine ia ay wj (B5 1 (by omega)) co1 ro1 hh (F0.2 r1 (by simp)) b1.1 λa' w' L' h'=>?_;have FB:=jx ay la1 b1.1 (λy hy=>ib dB y hy) (sub F0 (l':=r0::⟨.call f args,dst,none,[1],none⟩::post) (by simp+contextual));have J5:(l0.setIfInBounds 1 true).size=ops.size:=by simpa using Q4
    have wq:∀j,j<ops.size->(l0.setIfInBounds 1 true).getD j true=decide (j=1):=λj hj=>by
     rw[J4 Q4 (by omega) hj,B8 j hj];split
     ·rename_i e;subst e;rfl
     ·rename_i e;symm;rw[decide_eq_false_iff_not];exact e
    have dB1:dJ (r0::⟨.call f args,dst,none,[1],none⟩::post)=true:=by simp only[dJ,Zam]at dB⊢;exact dB.2
    refine⟨λhr=>?_,λi hi=>?_⟩
    ·exfalso;have:0∈Region.ready .any ops (l0.setIfInBounds 1 true):=(jS 0 _).2 ⟨by rw[wq 0 (by omega)];rfl,by omega,λe he=>by rw[g0,ha.1]at he;cases he⟩;rw[hr]at this;cases this
    ·obtain⟨h0,sS,hd⟩:=(jS i _).1 hi;have hi02:i=0\/i=2:=by
      rcases Zbz i 3 with h3|h3
      ·rw[wq i sS]at h0;have:¬i=1:=by simpa using h0
       omega
      ·exfalso;have:=hd 2 (hp _ (MG i h3 sS)).2.2;rw[pz (by omega) false true,wq 2 (by omega)]at this;cases this
     rcases hi02 with rfl|rfl
     ·refine ia ay wj (B5 0 (by omega)) co0 ro0 h' (FB.2 r0 (by simp)) b1.2 λa2 w2 L2 h2=>?_;have FB2:=jx ay la0 b1.2 (λy hy=>ib dB1 y hy) (sub FB (l':=⟨.call f args,dst,none,[1],none⟩::post) (by simp+contextual));refine Q3 _ (by simpa using J5) (λj hj=>?_) _ a2 w2 L2 h2 (sub FB2 (by simp+contextual)) (high ro0 b1.2 (high ro1 b1.1 Yw)) hB;rw[J4 J5 (by omega) hj,wq j hj];split
      ·rename_i e;subst e;rfl
      ·rename_i e;rw[decide_eq_decide];omega
     ·obtain⟨qg,bd,hpo⟩:=hC;have bd:=bd (high ro1 c1 Yw);refine AM wj (B5 2 (by omega)) co2 ro2 h' bd λa2 w2 L2 val ob' hP YZ=>?_;obtain⟨x1,x2⟩:=eJ _ _ _ (hpo val ob' hP);simp only[iJ,cM]at x1 x2;have ux:=bd.none val ob' hP;have FC:gf nxt (r0::post) ⟨b7 (cI Γ nxt r1 ⟨tm,ob,td⟩).tmps dst val,ob',(cI Γ nxt r1 ⟨tm,ob,td⟩).todo⟩:=by
       refine⟨ux.1 _ (by omega) FB.1,λy hy=>?_⟩;rcases Zag.1 hy with rfl|hy
       ·exact ux.1 _ low0 (FB.2 _ (by simp))
       ·exact ux.1 _ (lowp y hy) (FB.2 _ (by simp[hy]))
      have NU:((l0.setIfInBounds 1 true).setIfInBounds 2 true).size=ops.size:=by simpa using J5
      have qc:∀j,j<ops.size->((l0.setIfInBounds 1 true).setIfInBounds 2 true).getD j true=decide (j=1\/j=2):=λj hj=>by
       rw[J4 J5 (by omega) hj,wq j hj];split
       ·rename_i e;subst e;rfl
       ·rename_i e;rw[decide_eq_decide];omega
      refine⟨λhr=>?_,λi hi=>?_⟩
      ·exfalso;have:0∈Region.ready .any ops ((l0.setIfInBounds 1 true).setIfInBounds 2 true):=(jS 0 _).2 ⟨by rw[qc 0 (by omega)];rfl,by omega,λe he=>by rw[g0,ha.1]at he;cases he⟩;rw[hr]at this;cases this
      ·obtain⟨h0,sS,hd⟩:=(jS i _).1 hi;have hi0':i=0:=by
        rcases Zbz i 3 with h3|h3
        ·rw[qc i sS]at h0;have:¬(i=1\/i=2):=by simpa using h0
         omega
        ·exfalso;have:=hd 0 (hp _ (MG i h3 sS)).1;rw[pz (by omega) false true,qc 0 (by omega)]at this;cases this
       subst hi0';refine ia ay wj (B5 0 (by omega)) co0 ro0 YZ (FC.2 r0 (by simp)) x1.1 λa3 w3 L3 h3=>?_;have dC:dJ (r0::post)=true:=by
        simp only[dJ,Zam,ZcB]at dB1⊢;exact⟨dB1.1.2,dB1.2.2⟩
       have FC2:=jx ay la0 x1.1 (λy hy=>ib dC y hy) (sub FC (l':=post) (by simp+contextual));refine fin3 _ (by simpa using NU) (λj hj=>?_) _ a3 w3 L3 h3 FC2 bd.le (λt ht=>?_) x1.2 x2
       ·rw[J4 NU (by omega) hj,qc j hj];split
        ·rename_i e;subst e;rfl
        ·rename_i e;rw[decide_eq_decide];omega
       ·exact qX (nt:=nt) ay [r0] (by simp[ro0]) _ ⟨x1.1,trivial⟩ t (ZaE bd.le ht) (ux.2 t ht)
 exact wpIn_region_any hm (start _ hh)
end
end Go.DM
namespace Go.DM.NF
section
variable{α:Type}(lt:α->α->Bool)
structure SWO:Prop where
 irrefl:∀x,lt x x=false
 trans:∀x y z,lt x y=true->lt y z=true->lt x z=true
 ntrans:∀x y z,lt x y=false->lt y z=false->lt x z=false
def tw(l:List α):Prop:=l.Pairwise λa b=>lt b a=false
def eqv(x y:α):Bool:= !lt x y&& !lt y x
def oa(x:α):List α->List α
 |[]=>[x]
 |y::ys=>if lt x y then y::oa x ys else x::y::ys
def zA(l:List α):List α:=l.foldl (λacc x=>oa lt x acc) []
def iY(l:List α):List α:=(zA lt l).reverse
variable{lt}
theorem SWO.asymm(h:SWO lt){x y:α}(h1:lt x y=true):lt y x=false:=by
 cases h2:lt y x with
 |false=>rfl
 |true=>have:=h.trans x y x h1 h2;rw[h.irrefl]at this;cases this
theorem AE(x:α):∀(l:List α) (z:α),z∈oa lt x l↔z=x\/z∈l
 |[],z=>by simp[oa]
 |y::ys,z=>by
  simp only[oa];split
  ·simp only[Zag,AE x ys z];constructor
   ·rintro(h|h|h)<;>simp[h]
   ·rintro(h|h|h)<;>simp[h]
  ·simp
theorem yo(h:SWO lt)(x:α):∀l:List α,l.Pairwise (λa b=>lt a b=false)->(oa lt x l).Pairwise λa b=>lt a b=false
 |[],_=>by simp[oa]
 |y::ys,hs=>by
  simp only[oa];rw[ZaL]at hs;split
  ·rename_i YT;rw[ZaL];refine⟨λz hz=>?_,yo h x ys hs.2⟩;rcases(AE x ys z).1 hz with rfl|hz
   ·exact h.asymm YT
   ·exact hs.1 z hz
  ·rename_i YT;have YT:lt x y=false:=by simpa using YT
   rw[ZaL];refine⟨λz hz=>?_,ZaL.2 hs⟩;rcases Zag.1 hz with rfl|hz
   ·exact YT
   ·exact h.ntrans x y z YT (hs.1 z hz)
theorem yq(h:SWO lt)(x z:α):∀l:List α,(oa lt x l).filter (eqv lt z)=(if eqv lt z x then x::l.filter (eqv lt z)else l.filter (eqv lt z))
 |[]=>by simp[oa,Za7]
 |y::ys=>by
  simp only[oa];split
  ·rename_i YT;rw[Za7,yq h x z ys];have hn:eqv lt z x=true->eqv lt z y=false:=by
    intro hx;simp only[eqv,Zam,Zbl]at hx;cases hy:eqv lt z y with
    |false=>rfl
    |true=>
     simp only[eqv,Zam,Zbl]at hy;have:=h.ntrans x z y hx.2 hy.1;rw[YT]at this;cases this
   by_cases hzx:eqv lt z x=true
   ·simp[hzx,hn hzx]
   ·simp only[ZcJ]at hzx;simp[hzx,Za7]
  ·rw[Za7]
theorem u9(h:SWO lt):∀(l acc:List α),acc.Pairwise (λa b=>lt a b=false)->(l.foldl (λacc x=>oa lt x acc) acc).Pairwise λa b=>lt a b=false
 |[],acc,ha=>ha
 |x::l,acc,ha=>u9 h l _ (yo h x acc ha)
theorem foldl_filter(h:SWO lt)(z:α):∀(l acc:List α),(l.foldl (λacc x=>oa lt x acc) acc).filter (eqv lt z)=(l.filter (eqv lt z)).reverse++acc.filter (eqv lt z)
 |[],acc=>by simp
 |x::l,acc=>by
  rw[ZaB,foldl_filter h z l,yq h];by_cases hx:eqv lt z x=true
  ·simp[hx]
  ·simp only[ZcJ]at hx;simp[hx]
theorem oX(h:SWO lt)(l:List α):tw lt (iY lt l):=by
 unfold tw iY;rw[List.pairwise_reverse];exact u9 h l [] List.Pairwise.nil
theorem vd(h:SWO lt)(z:α)(l:List α):(iY lt l).filter (eqv lt z)=l.filter (eqv lt z):=by
 unfold iY zA;rw[List.filter_reverse,foldl_filter h z];simp
theorem rn(h:SWO lt)(x:α):eqv lt x x=true:=by simp[eqv,h.irrefl]
theorem CY:∀(l acc:List α) (z:α),z∈l.foldl (λacc x=>oa lt x acc) acc↔z∈l\/z∈acc
 |[],acc,z=>by simp
 |x::l,acc,z=>by
  rw[ZaB,CY l,AE];simp only[Zag];constructor
  ·rintro(h|h|h)<;>simp[h]
  ·rintro((h|h)|h)<;>simp[h]
@[simp] theorem rX(l:List α)(z:α):z∈iY lt l↔z∈l:=by simp[iY,zA,CY]
theorem yr(x:α):∀l:List α,(oa lt x l).length=l.length+1
 |[]=>rfl
 |y::ys=>by simp only[oa];split<;>simp[yr x ys]
theorem ve:∀l acc:List α,(l.foldl (λacc x=>oa lt x acc) acc).length=l.length+acc.length
 |[],acc=>by simp
 |x::l,acc=>by rw[ZaB,ve l,yr];simp;omega
@[simp] theorem uH(l:List α):(iY lt l).length=l.length:=by simp[iY,zA,ve]
theorem te(h:SWO lt):∀(l1 l2:List α),tw lt l1->tw lt l2->(∀x,l1.filter (eqv lt x)=l2.filter (eqv lt x))->l1=l2
 |[],[],_,_,_=>rfl
 |[],b::t,_,_,hf=>by
  have:=hf b;simp[Za7,rn h]at this
 |a::t,[],_,_,hf=>by
  have:=hf a;simp[Za7,rn h]at this
 |a::t1,b::t2,s1,s2,hf=>by
  have s1':=ZaL.1 s1;have s2':=ZaL.1 s2;have Yu:lt b a=false:=by
   have:b∈a::t1:=by
    have:b∈(a::t1).filter (eqv lt b):=by rw[hf b];simp[rn h]
    exact(ZaN.1 this).1
   rcases Zag.1 this with rfl|hm
   ·exact h.irrefl _
   ·exact s1'.1 b hm
  have hba:lt a b=false:=by
   have:a∈b::t2:=by
    have:a∈(b::t2).filter (eqv lt a):=by rw[<-hf a];simp[rn h]
    exact(ZaN.1 this).1
   rcases Zag.1 this with rfl|hm
   ·exact h.irrefl _
   ·exact s2'.1 a hm
  have he:eqv lt a b=true:=by simp[eqv,Yu,hba]
  have h1:=hf a;rw[Za7,Za7,rn h,he]at h1;simp only[if_true,Za5]at h1;obtain⟨rfl,_⟩:=h1
  congr 1
  refine te h t1 t2 s1'.2 s2'.2 λx=>?_;have:=hf x;rw[Za7,Za7]at this;split at this
  ·exact(List.cons.inj this).2
  ·exact this
theorem GA(h:SWO lt){l l':List α}(hs:tw lt l')(hf:∀x,l'.filter (eqv lt x)=l.filter (eqv lt x)):iY lt l=l':=
 te h _ _ (oX h l) hs λx=>by rw[vd h,hf]
end
section
variable{α:Type}
end
end Go.DM.NF
namespace Go.DM.NF
section
variable{α:Type}{lt:α->α->Bool}
end
end Go.DM.NF
namespace Go.DM
open Go.RowKit
variable [Laid]
abbrev tI(n:Int):T:=.int .i64 n
abbrev lY(k:Nat):Type:={l:List Int//l.length=k}
instance(k:Nat):Inhabited (lY k):=⟨⟨List.replicate k 0,by simp⟩⟩
def nO{k:Nat}(x:lY k):List Value:=x.1.map (Value.int .i64)
def gh{k:Nat}(x:lY k):List T:=x.1.map tI
theorem Oq{w w':World}(h:tA w.heap.size w w'):∃q os',w'=Go.Sort.grow (w.drewN q) os':=by
 refine⟨w'.drawn-w.drawn,w'.heap.extract w.heap.size w'.heap.size, ?_⟩;obtain⟨⟨h1,h2,h3,h4,h5⟩,h6⟩:=h;cases w with
 |mk heap tape drawn os output=>
  cases w' with
  |mk YO tape' drawn' os' output'=>
   simp only at h1 h2 h3 h4 h5 h6;subst h1 h2 h3;simp only[Go.Sort.grow,World.drewN,World.mk.injEq,and_true,true_and];refine⟨?_,by omega⟩;apply Array.ext_getElem?;intro k;rw[Array.getElem?_append];split
   ·rename_i hk;exact h5 k hk
   ·rename_i hk;rw[Array.getElem?_extract];split
    ·rw[show heap.size+(k-heap.size)=k by omega]
    ·rename_i h7;rw[Array.getElem?_eq_none (by omega)]
theorem sh{w:World}{W:Nat->Prop}:∀l:List Int,aP w W (l.map tI) (l.map (Value.int .i64))
 |[]=>by simp[aP]
 |n::l=>by
  simp only[Zau,aP];exact⟨_,_,rfl,rfl,by simp[aR],sh l⟩
theorem u6{w:World}{W:Nat->Prop}:∀{l:List Int} {vs:List Value},aP w W (l.map tI) vs->vs=l.map (Value.int .i64)
 |[],vs,h=>by simpa [aP]using h
 |n::l,vs,h=>by
  simp only[Zau,aP]at h;obtain⟨v,gW,rfl,_,h1,h2⟩:=h;simp only[aR]at h1;rw[h1,u6 h2];rfl
theorem yk{α:Type}{sz:Nat}:∀{rows:List (List α)} {j:Nat},(∀r∈rows,r.length=sz)->rows.flatten[j]? =(rows[j/sz]?).bind λr=>r[j % sz]?
 |[],j,_=>by simp
 |r::rows,j,h=>by
  have hr:=h r (by simp);by_cases hs:sz=0
  ·subst hs;have:∀x∈r::rows,x=[]:=λx hx=>List.length_eq_zero_iff.1 (h x hx);have h2:(r::rows).flatten=[]:=by
    rw[List.flatten_eq_nil_iff];exact this
   rw[h2];simp[this r (by simp)]
  rw[Zbe,Zb8];split
  ·rename_i hj;rw[hr]at hj;rw[Nat.div_eq_of_lt hj,Zck hj];simp
  ·rename_i hj;rw[hr]at hj;rw[hr,yk λx hx=>h x (by simp[hx])];obtain⟨i,rfl⟩:∃i,j=i+sz:=⟨j-sz,by omega⟩;rw[Zcc,Nat.add_div_right i (by omega),Nat.add_mod_right];rw[ZaW]
theorem Ay{k:Nat}(D:List (lY k)):(Go.Sort.flatK nO k D.toArray).toList=((D.map (·.1)).flatten).map (Value.int .i64):=by
 have hl:∀r∈D.map (·.1),r.length=k:=by
  intro r hr;obtain⟨x,_,rfl⟩:=Zal.1 hr;exact x.2
 have hflen:(D.map (·.1)).flatten.length=D.length*k:=by
  clear hl;induction D with
  |nil=>simp
  |cons x D ih=>simp only[Zau,Zbe,ZaA,x.2,ih,Za9,Nat.add_mul];omega
 apply Zbk;intro j;by_cases hj:j<D.length*k
 ·have wo:0<k:=by
   cases k with
   |zero=>simp at hj
   |succ k=>omega
  have h1:j/k<D.length:=Nat.div_lt_of_lt_mul (by rwa [Nat.mul_comm]);have h2:j % k<k:=Nat.mod_lt _ wo;have gv:j<(Go.Sort.flatK nO k D.toArray).size:=by simpa using hj
  rw[Zbp,yk hl,Zbp,Zan h1];simp only[Za0,Zb7];have h3:=Go.Sort.get_flatK nO k D.toArray j (by simpa using hj);rw[Array.getElem?_toList,Zbs gv];rw[getElem!_pos _ j gv]at h3;rw[h3];have h4:D.toArray[j/k]! =D[j/k]:=by rw[getElem!_pos _ _ (by simpa using h1)];simp
  rw[h4];have h5:j % k<(D[j/k]).1.length:=by rw[(D[j/k]).2];exact h2
  unfold nO;rw[getElem!_pos _ _ (by simpa using h5)];simp[h5]
 ·rw[ZaR (by simpa using hj),ZaR (by rw[Zbt,hflen];omega)]
theorem CT{k:Nat}(D:List (lY k)):(D.map gh).flatten=((D.map (·.1)).flatten).map tI:=by
 induction D with
 |nil=>rfl
 |cons x D ih=>simp only[Zau,Zbe,ih,ZaO];rfl
theorem JX{objs:aU}{r:Nat}{o:Ob}(h:objs r=some o):cZ objs r o=objs:=by
 funext k;rw[JY];split
 ·rename_i e;rw[e,h]
 ·rfl
theorem QO{P:Program}{g:FuncId}{k:Nat}{x y:lY k}{c:Int}(hg: @aT Laid.none P g [.agg (gh x),.agg (gh y)] (tI c))(w:World):
  Calls P g (#[.agg (nO x).toArray,.agg (nO y).toArray]++ #[]) w λe w'=>e=.returned (.int .i64 c)/\∃q os',w'=Go.Sort.grow (w.drewN q) os':=by
 rw[ZbD];refine(@aT.calls Laid.none P g _ _ hg w #[.agg (nO x).toArray,.agg (nO y).toArray] (zH.empty _ _) ?_).mono ?_
 ·show dt w (λ_=>False) [.agg (gh x),.agg (gh y)] [.agg (nO x).toArray,.agg (nO y).toArray];simp only[dt];exact⟨_,_,rfl,⟨_,rfl,sh x.1⟩,_,_,rfl,⟨_,rfl,sh y.1⟩,rfl⟩
 ·rintro e' w' ⟨v,rfl,hb,hv⟩;simp only[aR]at hv;subst hv;exact⟨rfl,Oq hb⟩
def ym{k:Nat}(cf:lY k->lY k->Int)(D:List (lY k)):List (lY k):=D.mergeSort λx y=> !(Go.Proofs.ltOf cf) y x
open Go.Proofs Go.Sort in
theorem Gx{P:Program}{ρ:Go.Shelf.Ren}(Lay:SlLaysF0.n6 P ρ){k:Nat}(hk:0<k)(aE:∀w,(isAgg (ρ.t 24)).run P w=.ok true w)(zE:∀w,(Go.sizeOf (ρ.t 24)).run P w=.ok k w)
  {g:FuncId} {cf:lY k->lY k->Int} (hg:∀x y:lY k, @aT Laid.none P g [.agg (gh x),.agg (gh y)] (tI (cf x y))) (hO:Go.Sort.SWO (ltOf cf)) (hT:∀x y,(ltOf cf) x y=false->(ltOf cf) y x=false->x=y)
  (D:List (lY k)) {objs:aU} {r ver e:Nat} (fE:objs r=some (.arr ver e k (D.map gh))) (hlen:D.length<4611686018427387904):
  aY P (ρ.f 6) [.bk r ver,.v (.fn (.func g) [])] objs ⟨True,.v (.eD []),cZ objs r (.arr ver e k ((ym cf D).map gh))⟩:=by
 have eg:∀args w,(callFunc g args).run P w=.ok (.enter g args) w:=by
  obtain⟨fn,h1,h2,h3⟩:= @aT.entry Laid.none _ _ _ _ (hg default default);cases hb:fn.body with
  |none=>rw[hb]at h3;cases h3
  |some c=>exact enters_of h1 (by simpa using h2) hb
 refine⟨?_,λbase W M w0 w L vals YP hr=>?_⟩
 ·obtain⟨nm,hn,hf⟩:=Lay.f6;exact⟨_,hf,by simpa using hn,rfl⟩
 obtain⟨lO,pT⟩:=hr;obtain⟨x,f,wg⟩:∃x f,vals.toList=[x,f]:=by
  match wg:vals.toList,lO with
  |[x,f],_=>exact⟨x,f,rfl⟩
 have CU:vals= #[x,f]:=Array.ext' (by simpa using wg);subst CU;have hx:=pT 0 _ x rfl rfl;have hf:=pT 1 _ f rfl rfl;simp only[av,aR]at hf;obtain⟨cv,rfl,hcv⟩:=hf;have hcv:cv= #[]:=by
  simp only[aP]at hcv;exact Array.ext' (by simpa using hcv)
 subst hcv;simp only[av]at hx;obtain⟨_,ver',e',fW,dh,hob',hver,Az⟩:=hx;rw[fE]at hob';cases hob';have Az:=Az rfl;subst Az;obtain⟨gv,cS,hm,kj⟩:=YP.ob r _ fE;have sP:(ym cf D).length=D.length:=List.length_mergeSort ..;rcases kj with⟨Gm,a,ha⟩|⟨g',cap,cur,hv,hp,hh,hle,o9,D1,eG⟩
 ·rw[ha];refine(AnyF.slices_SortFunc_none Lay a 0 _ w).mono ?_;rintro e' w' ⟨rfl,rfl⟩;have hD:D=[]:=by simpa using Gm
  subst hD;have hs:ym cf []=[]:=by simp[ym]
  rw[hs,JX fE];exact⟨_,L,rfl,YP,iW.cd (cb.refl _ _),by simp[av,aR,dt]⟩
 ·rw[hv];have hgl:g'<w.heap.size:=(Zai.1 hh).1;rw[CT]at eG;have mK:=u6 eG;rw[<-Ay]at mK;have hcellG:∀j,w.cell? ⟨g',j,none⟩=cur[j]? :=by
   intro j;simp only[World.cell?,hh];rfl
  have hH:HoldsK nO k w g' 0 D.toArray:=by
   intro j hj;refine⟨?_, ?_⟩
   ·rw[ZaX,hcellG];have h1:=congrArg (λl:List Value=>l[j]?) mK;have YQ:j<(D.map gh).length*k:=by simpa using hj
    rw[ZaF,if_pos YQ,Array.getElem?_toList,Array.getElem?_toList,Zbs hj]at h1;rw[h1,getElem!_pos _ j hj];rfl
   ·simp only[World.frozen?,hh];simp
  have hlays:CmpLays P g #[] nO k cf g' 0 D.toArray.size w:=by
   intro m os dk hdk x y;obtain⟨w1,PB⟩:∃w1,sortWorldK nO k w g' 0 m dk os=w1:=⟨_,rfl⟩;rw[PB];exact QO (hg x y) w1
  have pd:=AnyQ.slices_SortFunc_total Lay k aE zE nO (λx=>by simp[nO,x.2]) (λx v hv=>by
   simp only[nO,Zal]at hv;obtain⟨n,_,rfl⟩:=hv;rfl) cf hO g #[] g' 0 cap D.toArray w eg hlays hH hgl (by simpa using hlen) hT
  rw[show(D.map gh).length=D.toArray.size by simp];refine pd.mono ?_;rintro e' w' ⟨rfl,n,os,rfl⟩;refine⟨_,L,rfl, ?_⟩;obtain⟨S,hS⟩:∃S,ym cf D=S:=⟨_,rfl⟩;have hS2:(D.toArray.toList.mergeSort λx y=> !(ltOf cf) y x).toArray=S.toArray:=by rw[<-hS];rfl
  rw[hS2];rw[hS]at sP⊢;obtain⟨F,hF⟩:∃F,flatK nO k S.toArray=F:=⟨_,rfl⟩;have hFs:F.size=D.length*k:=by rw[<-hF];simp[sP]
  have hFl:F.toList=((S.map (·.1)).flatten).map (Value.int .i64):=by rw[<-hF];exact Ay S
  have mA:(D.map gh).length*k<=cur.size:=by rw[D1];exact Zba k hle
  have hcs2:D.length*k<=cur.size:=by simpa using mA
  have QP:∀b:Nat,b<w.heap.size->(sortWorldK nO k w g' 0 n S.toArray os).heap[b]? =if b=g' then some (.cells (Go.Sort.putCells id 0 F cur) e (0,0))else w.heap[b]? :=by
   intro b hb;have kU:b<(putRowK nO k (Go.Sort.ahead w n) g' 0 S.toArray).heap.size:=by
    simp[Go.Sort.putRowK,Go.Sort.putRow,Go.Sort.mapBlock,Go.Sort.ahead,hb]
   simp only[sortWorldK,Go.Sort.grow];rw[ZcC kU];simp only[putRowK,Go.Sort.putRow,Go.Sort.mapBlock,Go.Sort.ahead,hF,Array.getElem?_modify];by_cases e1:b=g'
   ·subst e1;rw[if_pos rfl,if_pos rfl,hh];rfl
   ·rw[if_neg (λh=>e1 h.symm),if_neg e1]
  have sY:w.heap.size<=(sortWorldK nO k w g' 0 n S.toArray os).heap.size:=by
   simp[sortWorldK,Go.Sort.grow,putRowK,Go.Sort.putRow,Go.Sort.mapBlock,Go.Sort.ahead]
  have eS:L.own r (.arr ver e k (D.map gh))=some g':=by simp[Loc.own,hv,aO,Zay.1 hp]
  have nJ:∀j,(Go.Sort.putCells id 0 F cur)[j]? =if j<F.size then F[j]? else cur[j]? :=by
   intro j;simp only[Go.Sort.putCells,Array.getElem?_mapIdx];by_cases hj:j<F.size
   ·rw[if_pos hj,Zbs (show j<cur.size by omega),Zbs hj];simp[hj]
   ·rw[if_neg hj];cases cur[j]? with
    |none=>rfl
    |some v=>simp;intro h;omega
  have we:Fr base M w0 (sortWorldK nO k w g' 0 n S.toArray os):=by
   refine YP.fr.trans ⟨rfl,rfl,rfl,ZaE YP.fr.gZ YP.fr.size,sY,λb hb D4=>?_,by simp[sortWorldK,Go.Sort.grow,putRowK,Go.Sort.putRow,Go.Sort.mapBlock,Go.Sort.ahead]⟩;have hbw:b<w.heap.size:=ZaQ hb (ZaE YP.fr.gZ YP.fr.size);rw[QP b hbw,if_neg];rintro rfl;rcases hm b (by simp[hv,aO,Zay.1 hp])with h|h
   ·omega
   ·exact D4 h
  have On:=bK.put (r:=r) (o':=.arr ver e k (S.map gh)) (L':=L) YP we sY (λ_ _=>⟨rfl,rfl⟩) rfl
   (λb hb bG=>by rw[QP b hb,if_neg];rintro rfl;exact bG _ fE eS)
   (λb hb=>.inl ⟨_,fE,hb⟩) (λo' fY sQ=>by rw[fE]at fY;cases fY;exact absurd rfl sQ)
   (λver' e' fW dh h=>by rw[fE]at h;cases h;exact⟨ver,e,k,_,rfl,Zae _,λ_=>⟨rfl,rfl,by simp[sP]⟩⟩)
   (λdZ=>by
    refine⟨gv,λx hx=>?_,hm,.inr ⟨g',cap,Go.Sort.putCells id 0 F cur,by rw[hv];simp[sP],hp,by rw[QP g' hgl,if_pos rfl],by simpa [sP]using hle,o9,by simpa [Go.Sort.putCells]using D1, ?_⟩⟩
    ·obtain⟨y,_,rfl⟩:=Zal.1 hx;simp[gh,y.2]
    ·rw[CT];have e1:(Go.Sort.putCells id 0 F cur).toList.take ((S.map gh).length*k)=((S.map (·.1)).flatten).map (Value.int .i64):=by
      rw[<-hFl];apply Zbk;intro j;rw[ZaF,Zbt,sP,Array.getElem?_toList,Array.getElem?_toList,nJ,hFs];by_cases hj:j<D.length*k
      ·simp[hj]
      ·rw[if_neg hj,Array.getElem?_eq_none (by omega)]
     rw[e1];exact sh _)
  rw[show bR objs (some (r,.arr ver e k (S.map gh)))=cZ objs r (.arr ver e k (S.map gh))from rfl]at On;exact⟨On.1,On.2,by simp[av,aR,dt]⟩
end Go.DM
namespace Go.DM
open Go.RowKit Go.ChangeShapes Go.WideShapes
variable [Laid]
def lp(P:Program)(L:List TypeId):Nat->List Field->Nat->Bool
 |o,[],n=>o==n
 |o,f::fs,n=>f.offset==o&&L.contains f.type&&lp P L (o+P.cellsOf f.type) fs n
def sd(P:Program)(L:List TypeId)(t:TypeId):Bool:=
 match P.underlying t with
 |some .bool|some (.int _)|some .string=>true
 |some (.slice e)=>L.contains e&&decide (0<P.cellsOf e)
 |some (.struct fs)=>lp P L 0 fs.toList (P.cellsOf t)
 |some (.array n e)=>L.contains e&&P.cellsOf t==n*P.cellsOf e
 |_=>false
def lq(P:Program)(L:List TypeId):Bool:=L.all (sd P L)
def mN(q:TypeId->List T->Prop):List TypeId->List T->Prop
 |[],ts=>ts=[]
 |t::sR,ts=>∃a b,ts=a++b/\q t a/\mN q sR b
def iK(P:Program):Nat->TypeId->List T->Prop
 |0,_,_=>False
 |n+1,t,ts=>
  match P.underlying t with
  |some .bool=>∃b,ts=[.bool b]
  |some (.int k)=>∃x,ts=[.int k x]/\(Lit.int k x).wf=true
  |some .string=>∃s,ts=[.str s]/\s.size<=maxLen
  |some (.slice e)=>∃rows,ts=[.sl rows]/\rows.length<=maxLen/\∀r∈rows,iK P n e r
  |some (.struct fs)=>mN (iK P n) (fs.toList.map (·.type)) ts
  |some (.array k e)=>mN (iK P n) (List.replicate k e) ts
  |_=>False
def nM(P:Program)(n:Nat)(t:TypeId)(x:T):Prop:=
 match P.underlying t with
 |some (.struct _)|some (.array _ _)=>∃ts,x=.agg ts/\iK P n t ts
 |_=>iK P n t [x]
def zf(P:Program):List TypeId->List T->Prop
 |[],xs=>xs=[]
 |t::ts,xs=>∃x jI,xs=x::jI/\(∃n,nM P n t x)/\zf P ts jI
section
variable{P:Program}{L:List TypeId}
theorem se(h:lq P L=true){t:TypeId}(ht:t∈L):sd P L t=true:=ZaI.1 h t ht
theorem ta:∀(fs:List Field) (o n:Nat),lp P L o fs n=true->(∀f∈fs,f.type∈L)/\n=o+(fs.map λf=>P.cellsOf f.type).sum/\∀(j:Nat) f,fs[j]? =some f->f.offset=o+((fs.take j).map λf=>P.cellsOf f.type).sum
 |[],o,n,h=>by
  simp only[lp,beq_iff_eq]at h;exact⟨λ_ h=>(by cases h),by simp[h],λj f h=>by simp at h⟩
 |f::fs,o,n,h=>by
  simp only[lp,Zam,beq_iff_eq,ZbE]at h;obtain⟨⟨h1,h2⟩,h3⟩:=h;obtain⟨k1,k2,k3⟩:=ta fs _ n h3;refine⟨λg hg=>?_, ?_,λj g hg=>?_⟩
  ·rcases Zag.1 hg with rfl|hg
   ·exact h2
   ·exact k1 g hg
  ·rw[k2];simp;omega
  ·cases j with
   |zero=>simp at hg;subst hg;simp[h1]
   |succ j=>
    have:=k3 j g (by simpa using hg);rw[this];simp;omega
theorem JV(h:lq P L=true):Kids P (·∈L):=by
 refine⟨λ{t e} ht hu=>?_,λ{t e} ht hu=>?_,λ{t e n} ht hu=>?_,λ{t fs} ht hu=>?_,λ{t k e} ht hu=>?_⟩;all_goals
  have:=se h ht;simp only[sd,hu]at this
 ·cases this
 ·simp only[Zam,ZbE]at this;exact this.1
 ·simp only[Zam,ZbE,beq_iff_eq]at this;exact this
 ·obtain⟨k1,k2,k3⟩:=ta _ _ _ this;exact⟨k1,by simpa using k2,λj f hf=>by simpa using k3 j f hf⟩
 ·cases this
theorem Aq{H:Type}{enc:TypeId×Value->H}{w:World}{n:Nat}{sp:Nat->Bool}{held:Bool}{cs:List Value}
  (ih:∀t cs x,t∈L->DataW.trod enc P w 0 sp held n t cs=some x->∃ts,aP w (λ_=>False) ts cs/\iK P n t ts):
  ∀(fs:List Field) (o N:Nat),lp P L o fs N=true->(∀f∈fs,∃x,DataW.trod enc P w 0 sp held n f.type ((cs.drop f.offset).take (P.cellsOf f.type))=some x)->cs.length=N->
   ∃ts,aP w (λ_=>False) ts (cs.drop o)/\mN (iK P n) (fs.map (·.type)) ts
 |[],o,N,h,_,hl=>by
  simp only[lp,beq_iff_eq]at h;exact⟨[],by simp only[aP];rw[Zby (by omega)],rfl⟩
 |f::fs,o,N,h,hx,hl=>by
  simp only[lp,Zam,beq_iff_eq,ZbE]at h;obtain⟨⟨h1,h2⟩,h3⟩:=h;obtain⟨x,Om⟩:=hx f (Za4 ..);obtain⟨a,ha,hta⟩:=ih _ _ _ h2 Om;obtain⟨b,hb,htb⟩:=Aq ih fs _ N h3 (λg hg=>hx g (ZaV _ hg)) hl;refine⟨a++b, ?_,a,b,rfl,hta,htb⟩;have:=aP.append ha hb;rw[h1,<-List.drop_drop,Zbd]at this;exact this
theorem Mt{H:Type}{enc:TypeId×Value->H}{w:World}{n:Nat}{sp:Nat->Bool}{held:Bool}{cs:List Value}{e:TypeId}(he:e∈L)
  (ih:∀t cs x,t∈L->DataW.trod enc P w 0 sp held n t cs=some x->∃ts,aP w (λ_=>False) ts cs/\iK P n t ts):
  ∀(k i:Nat),(∀j,i<=j->j<i+k->∃x,DataW.trod enc P w 0 sp held n e ((cs.drop (j*P.cellsOf e)).take (P.cellsOf e))=some x)->cs.length=(i+k)*P.cellsOf e->
   ∃ts,aP w (λ_=>False) ts (cs.drop (i*P.cellsOf e))/\mN (iK P n) (List.replicate k e) ts
 |0,i,_,hl=>by
  exact⟨[],by simp only[aP];rw[Zby (by rw[hl];simp)],rfl⟩
 |k+1,i,hx,hl=>by
  obtain⟨x,Om⟩:=hx i (Zae _) (by omega);obtain⟨a,ha,hta⟩:=ih _ _ _ he Om;obtain⟨b,hb,htb⟩:=Mt he ih k (i+1) (λj h1 h2=>hx j (by omega) (by omega)) (by rw[hl];congr 1;omega);refine⟨a++b, ?_,a,b,rfl,hta,htb⟩;have:=aP.append ha hb;rw[show(i+1)*P.cellsOf e=i*P.cellsOf e+P.cellsOf e by rw[Nat.add_mul];omega,<-List.drop_drop,Zbd]at this;exact this
theorem yj{α:Type}{q:Nat->α->Prop}:∀(n:Nat),(∀i,i<n->∃x,q i x)->∃l:List α,l.length=n/\∀i x,l[i]? =some x->q i x
 |0,_=>⟨[],rfl,λi x h=>by simp at h⟩
 |n+1,h=>by
  obtain⟨l,hl,hq⟩:=yj n λi hi=>h i (by omega);obtain⟨x,hx⟩:=h n (by omega);refine⟨l++[x],by simp[hl],λi y hy=>?_⟩;by_cases hi:i<l.length
  ·rw[Zbj hi]at hy;exact hq i y hy
  ·rw[Zbh (by omega)]at hy;have:i=n:=by
    have:=(Zas.1 hy).1;simp at this;omega
   subst this;simp[hl]at hy;subst hy;exact hx
theorem sf{w:World}{a:Addr}{n:Nat}{cs:List Value}(h:w.cells? 0 a n=some cs):cs.length=n/\∀j v,cs[j]? =some v->w.cell? (a.add j)=some v:=by
 simp only[World.cells?,Zbf,if_true]at h;refine⟨by simpa using mapM_some_length h,λj v hj=>?_⟩;have cW:j<n:=by
  have:=(Zas.1 hj).1;have h2:=mapM_some_length h;simp at h2;omega
 have:=mapM_some_get h j j (by simp[cW]);rw[hj]at this;simpa using this.symm
where
 mapM_some_length {α β:Type} {f:α->Option β} {l:List α} {r:List β} (h:l.mapM f=some r):r.length=l.length:=by
  induction l generalizing r with
  |nil=>simp at h;simp[h]
  |cons x l ih=>
   simp only[Za1,Zaj,Zaf,Zac,Zaa]at h;obtain⟨y,_,ys,nZ,rfl⟩:=h;simp[ih nZ]
 mapM_some_get {α β:Type} {f:α->Option β} {l:List α} {r:List β} (h:l.mapM f=some r) (i:Nat) (x:α) (hx:l[i]? =some x):r[i]? =f x:=by
  induction l generalizing r i with
  |nil=>simp at hx
  |cons y l ih=>
   simp only[Za1,Zaj,Zaf,Zac,Zaa]at h;obtain⟨z,hz,ys,nZ,rfl⟩:=h;cases i with
   |zero=>simp at hx;subst hx;simp[hz]
   |succ i=>simpa using ih nZ i (by simpa using hx)
theorem Mu{w:World}{a:Addr}{v:Value}(h:w.cell? a=some v):a.block<w.heap.size/\a.spot=none:=by
 unfold World.cell? at h;split at h
 ·rename_i c e f hb;split at h
  ·cases h
  ·rename_i hs;exact⟨(Zai.1 hb).1,by simpa using hs⟩
 ·cases h
theorem add_zero(a:Addr):a.add 0=a:=by simp[Addr.add]
theorem Gr(b o k:Nat):(⟨b,o,none⟩:Addr).add k=⟨b,o+k,none⟩:=by
 unfold Addr.add;by_cases h:k=0<;>simp[h]
theorem QJ{H:Type}{enc:TypeId×Value->H}{w:World}{sp:Nat->Bool}{held:Bool}(hL:lq P L=true):∀(n:Nat) (t:TypeId) (cs:List Value) (x:DataW H×List MemPlace),t∈L->
  DataW.trod enc P w 0 sp held n t cs=some x->∃ts,aP w (λ_=>False) ts cs/\iK P n t ts:=by
 intro n;induction n with
 |zero=>intro t cs x _ h;simp[DataW.trod]at h
 |succ n ih=>
  intro t cs x ht h;have hp:=se hL ht;have one:∀{y:T} {v:Value},v.oneCell'=true->aR w (λ_=>False) y v->aP w (λ_=>False) [y] [v]:=λh1 h2=>by simp only[aP];exact⟨_,_,rfl,h1,h2,rfl⟩
  unfold sd at hp;split at hp
  ·rename_i hu;obtain⟨b,rfl,rfl⟩:∃b,cs=[.bool b]/\x=(.lit (.bool b),[]):=by
    unfold DataW.trod at h;rw[hu]at h;split at h<;>simp_all
   exact⟨[.bool b],one rfl (by simp[aR]),by simp[iK,hu]⟩
  ·rename_i k hu;obtain⟨m,rfl,rfl,hw⟩:=DataW.trod_int hu h;exact⟨[.int k m],one rfl (by simp[aR]),by simp[iK,hu,hw]⟩
  ·rename_i hu;obtain⟨s,rfl,rfl,hs⟩:=DataW.trod_string hu h;exact⟨[.str s],one rfl (by simp[aR]),by simp[iK,hu,hs]⟩
  ·rename_i e hu;simp only[Zam,ZbE,decide_eq_true_eq]at hp;obtain⟨he,NQ⟩:=hp;rcases DataW.trod_slice hu h with⟨rfl,rfl⟩|⟨a,len,cap,elems,rest,m,hm,rfl,rfl,_,hlc,o9,hel,pg,_,_⟩
   ·exact⟨[.sl []],one rfl (by simp[aR]),by simp[iK,hu]⟩
   ·obtain rfl:n=m:=by omega
    have lV:∀i,i<len->∃r:List T,(∃qH,w.cells? 0 (a.add (i*P.cellsOf e)) (P.cellsOf e)=some qH/\aP w (λ_=>False) r qH)/\iK P n e r:=by
     intro i hi;have h1:=pg i hi;have h2:∃y,elems[i]? =some y:=⟨elems[i],Zan (by omega)⟩;obtain⟨y,hy⟩:=h2;rw[hy]at h1;obtain⟨qH,h3,h4⟩:=Zac.1 h1;obtain⟨ts,h5,h6⟩:=ih e qH y he h4;exact⟨ts,⟨qH,h3,h5⟩,h6⟩
    obtain⟨rows,hlen,hq⟩:=yj len lV;refine⟨[.sl rows], ?_, ?_⟩
    ·simp only[aP];refine⟨_,[],rfl,rfl, ?_,rfl⟩;simp only[aR];cases rows with
     |nil=>
      simp at hlen;subst hlen;exact .inl ⟨rfl,_,_,rfl⟩
     |cons r0 rows=>
      right;obtain⟨⟨cs0,h3,h4⟩,_⟩:=hq 0 r0 rfl;obtain⟨h5,h6⟩:=sf h3;have Py:∃v,cs0[0]? =some v:=⟨cs0[0],Zan (by omega)⟩;obtain⟨v0,hv0⟩:=Py;have h60:=h6 0 v0 hv0;simp only[Zcm,add_zero]at h60;obtain⟨hb,hs⟩:=Mu h60;obtain⟨b,o,sp'⟩:=a;simp only at hb hs;subst hs;have dF:∀i r,(r0::rows)[i]? =some r->r.length=P.cellsOf e/\cV w (λ_=>False) b (o+i*P.cellsOf e) r:=by
       intro i r hr;obtain⟨⟨qH,h3,h4⟩,_⟩:=hq i r hr;obtain⟨h5,h6⟩:=sf h3;refine⟨by rw[<-aP.length h4,h5],cV.o7 h4 λj v hj=>?_⟩;have h7:=h6 j v hj;rw[Gr,Gr]at h7;exact h7
      exact⟨b,o,cap,P.cellsOf e,by rw[hlen],hb,λh=>h,by omega,aX.y8 _ _ dF⟩
    ·simp only[iK,hu];refine⟨rows,rfl,by omega,λr hr=>?_⟩;obtain⟨i,hi⟩:=ZbH hr;exact(hq i r hi).2
  ·rename_i fs hu;obtain⟨xs,m,hm,rfl,hl,sa,hf⟩:=DataW.trod_struct hu h;obtain rfl:n=m:=by omega
   obtain⟨ts,h1,h2⟩:=Aq (cs:=cs) ih fs.toList 0 _ hp (λf hfm=>by
    obtain⟨i,hi⟩:=ZbH hfm;have ni:fs[i]? =some f:=by simpa using hi
    have:=hf i f ni;have cW:i<xs.length:=by rw[sa];exact(Zai.1 ni).1
    rw[Zan cW]at this;exact⟨_,this⟩) hl
   exact⟨ts,by simpa using h1,by simpa [iK,hu]using h2⟩
  ·rename_i k e hu;simp only[Zam,ZbE,beq_iff_eq]at hp;have key:cs.length=P.cellsOf t/\∀i,i<k->∃y,DataW.trod enc P w 0 sp held n e ((cs.drop (i*P.cellsOf e)).take (P.cellsOf e))=some y:=by
    unfold DataW.trod at h;rw[hu]at h;split at h<;>simp_all
    obtain⟨hl,xs,Mc,_⟩:=h;intro i hi;have:=sf.mapM_some_get Mc i i (by simp[hi]);have cW:i<xs.length:=by rw[sf.mapM_some_length Mc];simp[hi]
    rw[Zan cW]at this;exact⟨_,_,this.symm⟩
   obtain⟨ts,h1,h2⟩:=Mt (cs:=cs) hp.1 ih k 0 (λj _ hj=>key.2 j (by omega)) (by rw[key.1,hp.2];simp);exact⟨ts,by simpa using h1,by simpa [iK,hu]using h2⟩
  ·cases hp
theorem Xf{H:Type}{enc:TypeId×Value->H}{w:World}{sp:Nat->Bool}{held:Bool}(hL:lq P L=true){t:TypeId}(ht:t∈L){v:Value}{base:Nat}(hv:Value.okWide P w .any base t v){d:DataW H}{ps:List MemPlace}
  (h:DataW.Trod enc P w 0 sp held t v d ps):∃x,aR w (λ_=>False) x v/\∃n,nM P n t x:=by
 obtain⟨n,h⟩:=h;obtain⟨ts,h1,h2⟩:=QJ hL n t _ _ ht h;have hp:=se hL ht;have single:(∀cs,v≠ .agg cs)->∃x,ts=[x]/\aR w (λ_=>False) x v:=by
  intro bG;have hc:v.cells.toList=[v]:=by cases v<;>first|rfl|exact absurd rfl (bG _)
  rw[hc]at h1;cases ts with
  |nil=>simp only[aP]at h1;cases h1
  |cons x xs=>
   simp only[aP]at h1;obtain⟨_,_,e,_,hr,jH⟩:=h1;simp only[Za5]at e;obtain⟨rfl,rfl⟩:=e;have:=aP.length jH;simp at this;have e:xs=[]:=ZaC this.symm;exact⟨x,by rw[e],hr⟩
 have agg:(∃cs,v=.agg cs)->∃x,x=T.agg ts/\aR w (λ_=>False) x v:=by
  rintro⟨cs,rfl⟩;exact⟨_,rfl,by simp only[aR];exact⟨cs,rfl,by simpa [Value.cells]using h1⟩⟩
 unfold sd at hp;split at hp
 ·rename_i hu;obtain⟨b,rfl⟩:=okWide_bool hu hv;obtain⟨x,rfl,hr⟩:=single (λ_ h=>by cases h);exact⟨x,hr,n,by simp only[nM,hu];exact h2⟩
 ·rename_i k hu;obtain⟨b,rfl⟩:=okWide_int hu hv;obtain⟨x,rfl,hr⟩:=single (λ_ h=>by cases h);exact⟨x,hr,n,by simp only[nM,hu];exact h2⟩
 ·rename_i hu;obtain⟨b,rfl⟩:=okWide_string hu hv;obtain⟨x,rfl,hr⟩:=single (λ_ h=>by cases h);exact⟨x,hr,n,by simp only[nM,hu];exact h2⟩
 ·rename_i e hu;obtain⟨a,l,c,rfl⟩:=okWide_slice hu hv;obtain⟨x,rfl,hr⟩:=single (λ_ h=>by cases h);exact⟨x,hr,n,by simp only[nM,hu];exact h2⟩
 ·rename_i fs hu;obtain⟨cs,rfl,_⟩:=okWide_struct hu hv;obtain⟨x,rfl,hr⟩:=agg ⟨_,rfl⟩;exact⟨_,hr,n,by simp only[nM,hu];exact⟨_,rfl,h2⟩⟩
 ·rename_i k e hu;have:∃cs,v=.agg cs:=by
   simp only[Value.okWide,hu]at hv;cases v<;>simp_all
  obtain⟨cs,rfl⟩:=this;obtain⟨x,rfl,hr⟩:=agg ⟨_,rfl⟩;exact⟨_,hr,n,by simp only[nM,hu];exact⟨_,rfl,h2⟩⟩
 ·cases hp
theorem Gs{H:Type}{enc:TypeId×Value->H}{w:World}{sp:Nat->Bool}{held:Bool}(hL:lq P L=true){base:Nat}:∀{sR:List TypeId} {vs:List Value} {ds:List (DataW H)} {ps:List MemPlace},(∀t∈sR,t∈L)->
  (∀(j:Nat) t v,sR[j]? =some t->vs[j]? =some v->Value.okWide P w .any base t v)->DataW.TrodAll enc P w 0 sp held sR vs ds ps->∃xs,dt w (λ_=>False) xs vs/\zf P sR xs
 |[],vs,ds,ps,_,_,h=>by
  obtain⟨rfl,rfl,rfl⟩:=trodAll_nil h;exact⟨[],by simp[dt],rfl⟩
 |t::sR,vs,ds,ps,ht,hv,h=>by
  obtain⟨v,vs1,d,ds1,a,b,rfl,rfl,rfl,h1,h2⟩:=trodAll_cons h;obtain⟨x,k1,k2⟩:=Xf hL (ht t (Za4 ..)) (hv 0 t v rfl rfl) h1;obtain⟨xs,k3,k4⟩:=Gs hL (λu hu=>ht u (ZaV _ hu)) (λj u y h1 h2=>hv (j+1) u y (by simpa using h1) (by simpa using h2)) h2;exact⟨x::xs,by simp only[dt];exact⟨v,vs1,rfl,k1,k3⟩,x,xs,rfl,k2,k4⟩
theorem Ar{H:Type}{enc:TypeId×Value->H}{w w':World}{sp':Nat->Bool}{held:Bool}(hL:lq P L=true)(YM:held=true):∀{sR:List TypeId} {vs:List Value} {ds:List (DataW H)} {ps:List MemPlace},(∀t∈sR,t∈L)->
  DataW.TrodAll enc P w 0 (λ_=>true) held sR vs ds ps->(∀p∈ps,w.sameAt w' p)->(∀p∈ps,sp' p.block=true)->DataW.TrodAll enc P w' 0 sp' held sR vs ds ps
 |[],vs,ds,ps,_,h,_,_=>by
  obtain⟨rfl,rfl,rfl⟩:=trodAll_nil h;exact trodAll_mk0
 |t::sR,vs,ds,ps,ht,h,h1,h2=>by
  obtain⟨v,vs1,d,ds1,a,b,rfl,rfl,rfl,⟨n,k1⟩,k2⟩:=trodAll_cons h;refine trodAll_cons_mk ⟨n,DataW.trod_stays (JV hL) (λ{t e} ht hu=>?_) (λh=>by rw[YM]at h;cases h) (ht t (Za4 ..)) k1 (λp hp=>h1 p (List.mem_append_left _ hp)) (λp hp=>h2 p (List.mem_append_left _ hp))⟩
   (Ar hL YM (λu hu=>ht u (ZaV _ hu)) k2 (λp hp=>h1 p (List.mem_append_right _ hp)) (λp hp=>h2 p (List.mem_append_right _ hp)))
  have:=se hL ht;simp only[sd,hu,Zam,decide_eq_true_eq]at this;exact this.2
theorem Gt{H:Type}{enc:TypeId×Value->H}{w:World}{b:Nat}{sp:Nat->Bool}{held:Bool}:∀{sR:List TypeId} {vs:List Value} {ds:List (DataW H)} {ps:List MemPlace},DataW.TrodAll enc P w b sp held sR vs ds ps->ds.length=sR.length
 |[],vs,ds,ps,h=>by
  obtain⟨rfl,rfl,rfl⟩:=trodAll_nil h;rfl
 |t::sR,vs,ds,ps,h=>by
  obtain⟨v,vs1,d,ds1,a,b,rfl,rfl,rfl,h1,h2⟩:=trodAll_cons h;simp[Gt h2]
theorem En{H:Type}{enc:TypeId×Value->H}{W:World}{base:Nat}{args:Array Value}{ds gs:List (DataW H)}{before:List MemPlace}{f:FuncId}{fn:Func}{s:ChangeSpec}{tb:TypeId}{apart fresh handsOn again:Bool}
  (hL:lq P L=true) (Gu:∀t∈fn.params.toList,t∈L) (On:fn.resultTypes= #[tb]) (hb:P.underlying tb=some .bool) (YN:s.vars=[]) (wi:∀ds:List (DataW H),ds.length=fn.params.size->s.fn H ds={results:=[.lit (.bool true)],args:=ds})
  (pd:∀xs,zf P fn.params.toList xs->aT P f xs (.bool true))
  (cY:∀(j:Nat) t v,fn.params[j]? =some t->args[j]? =some v->Value.okWide P W .any base t v)
  (hW:DataW.Whole enc P fn.params.toList s.vars apart W args.toList ds gs before) (hg:zH W λ_=>False):
  Calls P f args W λe W'=>∃v,e=.returned v/\s.post enc P fn apart fresh handsOn again W args v W':=by
 have hW':=hW;obtain⟨p,q,hA,hV,rfl,hfz,yX⟩:=hW;rw[YN]at hV;obtain⟨rfl,rfl⟩:=trodVars_none hV;obtain⟨xs,hr,hx⟩:=Gs hL Gu (λj t v h1 h2=>cY j t v (by simpa using h1) (by simpa using h2)) hA;have hlen:ds.length=fn.params.size:=by
  have:=Gt hA;simpa using this
 refine((pd xs hx).calls hg hr).mono ?_;rintro e w' ⟨v,rfl,Mv,hv⟩;simp only[aR]at hv;subst hv;have cW:=hW'.lt;have uR:∀sp:Nat->Bool,(∀x∈p,sp x.block=true)->DataW.TrodAll enc P w' 0 sp true fn.params.toList args.toList ds p:=λsp uL=>
  Ar hL rfl Gu hA (λx hx=>Mv.same (cW x (by simpa using hx))) uL
 have jH:∀(b:Nat) (sp:Nat->Bool) (hd:Bool),DataW.TrodAll enc P w' b sp hd fn.resultTypes.toList ((Value.bool true).resultList fn.resultTypes.size) [.lit (.bool true)] []:=λb sp hd=>by
  rw[On];exact trodAll_cons_mk (shut_bool hb _) trodAll_mk0
 have he:s.fn H (ds++[])={results:=[.lit (.bool true)],args:=ds}:=by rw[ZaJ];exact wi ds hlen
 have hv0:∀sp:Nat->Bool,DataW.TrodVars enc P w' sp s.vars [] []:=λsp=>by rw[YN];rfl
 have hev:(s.fn H (ds++[])).vars=[]:=by rw[he]
 refine⟨_,rfl,ds,[],p++[],[],p,[],hW',by rw[he];exact jH _ _ _,by rw[he];exact uR _ (λx hx=>by simpa using cW x (by simpa using hx)),by rw[hev];exact hv0 _,Mv.frame _,λ_=>?_⟩;refine⟨ok_one On rfl (okWide_bool_mk hb _),_,_,([]++p)++[],⟨[]++p,[],trodAll_append (uR _ (λ_ _=>rfl)) (jH _ _ _),hv0 _,rfl, ?_, ?_⟩, ?_⟩
 ·intro b off hp;rw[Mv.frozen (cW _ (by simpa using hp))];exact hfz b off (by simpa using hp)
 ·intro ha;simpa using yX ha
 ·intro x hx _;simpa using hx
end
inductive Ty where
 |bool|int (k:IntKind)|str
 |slice (e:Ty)
 |seq (fs:List Ty)
mutual
def Ty.has:Ty->List T->Prop
 |.bool,ts=>∃b,ts=[.bool b]
 |.int k,ts=>∃x,ts=[.int k x]/\(Lit.int k x).wf=true
 |.str,ts=>∃s,ts=[.str s]/\s.size<=maxLen
 |.slice e,ts=>∃rows,ts=[.sl rows]/\rows.length<=maxLen/\∀r∈rows,e.has r
 |.seq fs,ts=>Ty.hasAll fs ts
def Ty.hasAll:List Ty->List T->Prop
 |[],ts=>ts=[]
 |t::sR,ts=>∃a b,ts=a++b/\t.has a/\Ty.hasAll sR b
end
def Ty.arg:Ty->T->Prop
 |.seq fs,x=>∃ts,x=.agg ts/\Ty.hasAll fs ts
 |ty,x=>ty.has [x]
def Ty.args:List Ty->List T->Prop
 |[],xs=>xs=[]
 |t::sR,xs=>∃x jI,xs=x::jI/\t.arg x/\Ty.args sR jI
def pk(P:Program):Nat->TypeId->Option Ty
 |0,_=>none
 |n+1,t=>
  match P.underlying t with
  |some .bool=>some .bool
  |some (.int k)=>some (.int k)
  |some .string=>some .str
  |some (.slice e)=>(pk P n e).map .slice
  |some (.struct fs)=>(u4 (pk P n) (fs.toList.map (·.type))).map .seq
  |some (.array k e)=>(pk P n e).map λx=>.seq (List.replicate k x)
  |_=>none
where
 u4 (q:TypeId->Option Ty):List TypeId->Option (List Ty)
 |[]=>some []
 |t::ts=>match q t,u4 q ts with
  |some x,some xs=>some (x::xs)
  |_,_=>none
section
variable{P:Program}
theorem wQ:∀(m n:Nat) (t:TypeId) (ty:Ty) (ts:List T),pk P m t=some ty->iK P n t ts->ty.has ts:=by
 intro m;induction m with
 |zero=>intro n t ty ts h;simp[pk]at h
 |succ m ih=>
  intro n t ty ts h hs;cases n with
  |zero=>exact hs.elim
  |succ n=>
   unfold pk at h;unfold iK at hs;split at h
   ·rename_i hu;rw[hu]at hs;cases h;simpa [Ty.has]using hs
   ·rename_i hu;rw[hu]at hs;cases h;simpa [Ty.has]using hs
   ·rename_i hu;rw[hu]at hs;cases h;simpa [Ty.has]using hs
   ·rename_i e hu;rw[hu]at hs;obtain⟨x,hx,rfl⟩:=Zab.1 h;obtain⟨rows,rfl,h1,h2⟩:=hs;simp only[Ty.has];exact⟨rows,rfl,h1,λr hr=>ih n e x r hx (h2 r hr)⟩
   ·rename_i fs hu;rw[hu]at hs;obtain⟨x,hx,rfl⟩:=Zab.1 h;simp only[Ty.has];have key:∀(sR:List TypeId) (xs:List Ty) (ts:List T),pk.u4 (pk P m) sR=some xs->mN (iK P n) sR ts->Ty.hasAll xs ts:=by
     intro sR;induction sR with
     |nil=>intro xs ts h hs;simp only[pk.u4,Zaa]at h;subst h;simpa [Ty.hasAll,mN]using hs
     |cons u sR N8=>
      intro xs ts h hs;simp only[pk.u4]at h;split at h
      ·rename_i y ys hy nZ;cases h;simp only[mN]at hs;obtain⟨a,b,rfl,h1,h2⟩:=hs;simp only[Ty.hasAll];exact⟨a,b,rfl,ih n u y a hy h1,N8 ys b nZ h2⟩
      ·cases h
    exact key _ _ _ hx hs
   ·rename_i k e hu;rw[hu]at hs;obtain⟨x,hx,rfl⟩:=Zab.1 h;simp only[Ty.has];have key:∀(k:Nat) (ts:List T),mN (iK P n) (List.replicate k e) ts->Ty.hasAll (List.replicate k x) ts:=by
     intro k;induction k with
     |zero=>intro ts hs;simpa [Ty.hasAll,mN]using hs
     |succ k N8=>
      intro ts hs;simp only[Za6,mN]at hs;obtain⟨a,b,rfl,h1,h2⟩:=hs;simp only[Za6,Ty.hasAll];exact⟨a,b,rfl,ih n e x a hx h1,N8 b h2⟩
    exact key k ts hs
   ·cases h
theorem arg_of{m n:Nat}{t:TypeId}{ty:Ty}{x:T}(h:pk P m t=some ty)(hs:nM P n t x):ty.arg x:=by
 cases m with
 |zero=>simp[pk]at h
 |succ m=>
  have h0:=h;unfold pk at h;unfold nM at hs;split at h
  ·rename_i hu;rw[hu]at hs;cases h;exact wQ _ _ _ _ _ h0 hs
  ·rename_i hu;rw[hu]at hs;cases h;exact wQ _ _ _ _ _ h0 hs
  ·rename_i hu;rw[hu]at hs;cases h;exact wQ _ _ _ _ _ h0 hs
  ·rename_i e hu;rw[hu]at hs;obtain⟨y,hy,rfl⟩:=Zab.1 h;exact wQ _ _ _ _ _ h0 hs
  ·rename_i fs hu;rw[hu]at hs;obtain⟨y,hy,rfl⟩:=Zab.1 h;obtain⟨ts,rfl,h2⟩:=hs;have:=wQ _ _ _ _ _ h0 h2;simp only[Ty.has]at this;exact⟨ts,rfl,this⟩
  ·rename_i k e hu;rw[hu]at hs;obtain⟨y,hy,rfl⟩:=Zab.1 h;obtain⟨ts,rfl,h2⟩:=hs;have:=wQ _ _ _ _ _ h0 h2;simp only[Ty.has]at this;exact⟨ts,rfl,this⟩
  ·cases h
theorem Mw{m:Nat}:∀{sR:List TypeId} {l:List Ty} {xs:List T},pk.u4 (pk P m) sR=some l->zf P sR xs->Ty.args l xs
 |[],l,xs,h,hs=>by simp only[pk.u4,Zaa]at h;subst h;exact hs
 |t::sR,l,xs,h,hs=>by
  simp only[pk.u4]at h;split at h
  ·rename_i y ys hy nZ;cases h;obtain⟨x,jI,rfl,⟨n,h1⟩,h2⟩:=hs;exact⟨x,jI,rfl,arg_of hy h1,Mw nZ h2⟩
  ·cases h
end
end Go.DM
namespace Go.Proofs
open Go.DM
instance seatLaid:Laid:=⟨[(0,[.int .i64 (1099511627776),.int .i64 (0),.int .i64 (-1),.int .i64 (0)])]⟩
def d12r0:List RO:=[
 o (.box (t 0)) 1 [],
 o (.alloc [(.v (.int .i64 0)),.aI,.aI]) 2 []]
def d12r1:List RO:=[
 L 3 1 11 [],
 o (.mkMap [(.int .i64),(.int .i64),(.int .i64)] true) 12 [],
 o (.build [.aI,.aI,(.v (.int .i64 0)),(.v (.raw (Go.Value.map Option.none)))] [(0,3,(t 11)),(3,1,(t 12))]) 13 [0,1],
 o (.box (t 13)) 14 [2],
 m 14 3 [3,0,1,2,3]]
def d12r2:List RO:=[
 a 0 1 15 [],
 l 15 16 [0],
 o (.len (t 16)) 17 [1],
 m 17 4 [2,0,1,2]]
def KT:List RO:=[
 n 4 18,
 o (.bin .mul (i 2) (t 18)) 19 [0],
 o (.bin .add (t 19) (i 1)) 20 [1],
 o (.bslice 1 1 [(.v (.int .i64 0))] [(0,1,(i 1099511627776))]) 21 [],
 n 4 22,
 o (.bin .mul (i 2) (t 22)) 23 [4],
 o (.bin .add (t 23) (i 1)) 24 [5],
 o (.callF 48 [(t 21),(t 24)]) 25 [3,6],
 o (.build [(.v (.int .i64 0)),.aI,.aI] [(0,1,(t 20)),(2,1,(t 25))]) 26 [2,7],
 o (.alloc [(.v (.int .i64 0)),.aI,.aI]) 5 [],
 S 3 5 26 (k [9,8,7] 9)]
def d12r3:List RO:=KT.map bare
def d12r4:List RO:=[
 n 4 27,
 o (.bin .add (t 27) (i 1)) 28 [0],
 o (.bP (i 0)) 29 []]
def d12r5:List RO:=[
 b .lss 29 28 30 []]
def d12r6:List RO:=[
 n 29 31,
 m 31 6 [0,0]]
def KU:List RO:=[
 n 3 32,
 n 6 33,
 o (.callS 49 [(t 32),(t 33)]) 34 [0,1]]
def d12r7:List RO:=KU.map bare
def d12r8:List RO:=[
 a 2 5 36 [],
 l 36 37 [0],
 n 6 38,
 o (.bin .mul (i 2) (t 38)) 39 [2],
 n 3 40,
 n 6 41,
 n 4 42,
 o (.call 50 [(t 40),(t 41),(t 42)]) 43 [4,5,6],
 m 43 35 [7],
 e 0 35 44 [8],
 e 1 35 45 [8],
 x 1 37 39 46 (k [1,3] 9),
 S 1 46 44 (k [11,9,7] 9)]
def d12r9:List RO:=[
 o (.bin .add (t 29) (i 1)) 47 [],
 m 47 29 [0]]
def TU:List RO:=[
 o (.bP (.cm .aI)) 7 []]
def TV:List RO:=[
 n 3 48,
 c 48 49 [0],
 a 3 49 50 [1],
 l 50 51 [2],
 o (.rangeM (t 51)) 52 [3]]
def TW:List RO:=[
 o (.entryM (t 52)) 55 [],
 e 0 55 56 [0],
 o (.alloc [(.v (.int .i64 0)),(.v (.int .i64 0)),(.v (.int .i64 0))]) 8 [],
 S 3 8 56 [2,1,0,1,2]]
def TX:List RO:=[
 n 7 57,
 L 3 8 58 [],
 o (.bslice 1 3 [(.v (.int .i64 0)),(.v (.int .i64 0)),(.v (.int .i64 0))] [(0,3,(t 58))]) 59 [1],
 o (.append 106 3 24 (t 57) (t 59)) 60 [0,2],
 m 60 7 [3,3,0,1,2,3]]
def E4:List RO:=[
 n 7 61,
 o (.callS 51 [(t 61),(.cm (.v (.fn (.func 52) [])))]) 62 [0]]
def d12r14:List RO:=E4.map bare
def TY:List RO:=[
 n 7 63,
 o (.len (t 63)) 64 [0],
 o (.bP (i 0)) 65 []]
def TZ:List RO:=[
 b .lss 65 64 66 []]
def T0:List RO:=[
 x 3 63 65 67 [],
 L 3 67 68 [0],
 o (.alloc [(.v (.int .i64 0)),(.v (.int .i64 0)),(.v (.int .i64 0))]) 10 [],
 S 3 10 68 [2,1,0,1,2]]
def T1:List RO:=[
 a 1 5 69 [],
 l 69 70 [0],
 n 3 71,
 c 71 72 [2],
 a 3 72 73 [3],
 l 73 74 [4],
 L 3 10 75 [],
 o (.lookup [(.int .i64),(.int .i64),(.int .i64)] true (.agg [(.v (.int .i64 0)),(.v (.int .i64 0)),(.v (.int .i64 0)),(.v (.int .i64 0)),.aI]) false (t 74) (t 75)) 76 [5,6],
 o (.bslice 1 5 [(.v (.int .i64 0)),(.v (.int .i64 0)),(.v (.int .i64 0)),(.v (.int .i64 0)),.aI] [(0,5,(t 76))]) 77 [7],
 o (.append 77 5 56 (t 70) (t 77)) 78 [1,8],
 a 1 5 79 (k [] 9),
 S 1 79 78 (k [10,9,9] 9)]
def T2:List RO:=[
 o (.bin .add (t 65) (i 1)) 80 [],
 m 80 65 [0]]
def T3:List RO:=[
 L 3 5 81 [],
 S 3 2 81 [0,0]]
def d12:DC:=(j (y d12r0)
 (j (y d12r1)
 (j (y d12r2)
 (j (y d12r3)
 (j (j (y d12r4)
 (.block 0 (.loop (j (y d12r5)
 (j (.cond (.tmp 30) .skip
 (.exit 0))
 (j (.block 1 (j (y d12r6)
 (j (y d12r7)
 (Y d12r8))))
 (y d12r9)))))))
 (j (y TU)
 (j (j (y TV)
 (.block 2 (.loop (j (.Mp (.tmp 52) 53 54)
 (j (.cond (.tmp 54) .skip
 (.exit 2))
 (.block 3 (j (y TW)
 (y TX))))))))
 (j (y d12r14)
 (j (j (y TY)
 (.block 4 (.loop (j (y TZ)
 (j (.cond (.tmp 66) .skip
 (.exit 4))
 (j (.block 5 (j (y T0)
 (Y T1)))
 (y T2)))))))
 (j (y T3)
 .ret))))))))))
def T4:List bN:=[.cell 2 3 true]
theorem c12 [Laid]:aQ Tryz.prog 32 82 d12 T4:=⟨Tryz.f32,by kernel_rfl,by kernel_rfl,by kernel_rfl,by kernel_rfl,by kernel_rfl⟩
def d30r0:List RO:=[
 n 0 12,
 c 12 13 [0],
 a 0 13 14 [1],
 a 0 14 15 [2],
 l 15 16 [3],
 o (.len (t 16)) 17 [4],
 m 17 4 (k [5] 5)]
def d30r1:List RO:=[
 n 1 18,
 m 18 5 [0,0]]
def d30r2:List RO:=[
 n 5 19,
 n 4 20,
 b .leq 19 20 21 [0,1]]
def KV:List RO:=[
 n 0 25,
 n 1 26,
 n 5 27,
 o (.callS 50 [(t 25),(t 26),(t 27)]) 28 [0,1,2],
 m 28 24 [3],
 e 0 24 29 [4],
 e 1 24 30 [4],
 m 29 6 (k [5,3] 5),
 m 30 7 (k [6,7] 7)]
def d30r3:List RO:=KV.map bare
def d30r4:List RO:=[
 n 5 31,
 n 1 32,
 b .gtr 31 32 33 [0,1]]
def KW:List RO:=[
 n 0 35,
 n 1 36,
 n 5 37,
 o (.bin .sub (t 37) (i 1)) 38 [2],
 o (.callS 50 [(t 35),(t 36),(t 38)]) 39 [0,1,3],
 m 39 34 [4],
 e 0 34 40 [5],
 e 1 34 41 [5],
 m 40 8 (k [6,4] 6),
 m 41 9 (k [7,8] 8)]
def d30r5:List RO:=KW.map bare
def KX:List RO:=[
 n 0 42,
 n 1 43,
 n 5 44,
 o (.bin .sub (t 44) (i 1)) 45 [2],
 n 8 46,
 n 9 47,
 o (.callS 72 [(t 42),(t 43),(t 45),(t 46),(t 47)]) 48 [0,1,3,4,5]]
def d30r6:List RO:=KX.map bare
def d30r7:List RO:=[
 n 0 49,
 c 49 50 [0],
 a 0 50 51 [1],
 a 1 51 52 [2],
 l 52 53 [3],
 o (.len (t 53)) 54 [4],
 o (.bP (i 0)) 55 []]
def d30r8:List RO:=[
 b .lss 55 54 56 []]
def d30r9:List RO:=[
 n 55 57,
 x 1 53 55 58 [],
 l 58 59 [1],
 m 57 10 [0,0,1,2],
 m 59 11 [2,3,0,1,2,3]]
def E5:List RO:=[
 n 0 60,
 n 1 61,
 o (.bin .mul (i 2) (t 61)) 62 [1],
 n 5 63,
 o (.bin .mul (i 2) (t 63)) 64 [3],
 n 10 65,
 n 6 66,
 n 11 67,
 b .add 66 67 68 [6,7],
 n 7 69,
 o (.callF 74 [(t 69)]) 70 [9],
 n 10 71,
 o (.build [(.v (.int .i64 0)),(.v (.int .i64 0))] [(0,1,(i 3)),(1,1,(t 71))]) 72 [11],
 o (.bslice 1 2 [(.v (.int .i64 0)),(.v (.int .i64 0))] [(0,2,(t 72))]) 73 [12],
 o (.append 75 2 16 (t 70) (t 73)) 74 [10,13,10],
 o (.build [(.v (.int .i64 0)),(.v (.int .i64 0)),(.v (.int .i64 0)),(.v (.int .i64 0)),.aI] [(0,1,(t 62)),(1,1,(t 64)),(2,1,(t 65)),(3,1,(t 68)),(4,1,(t 74))]) 75 [2,4,5,8,14],
 o (.callS 73 [(t 60),(t 75)]) 76 [0,15,14]]
def d30r10:List RO:=E5.map bare
def T5:List RO:=[
 o (.bin .add (t 55) (i 1)) 77 [],
 m 77 55 [0]]
def E6:List RO:=[
 n 0 78,
 n 5 79,
 o (.callS 75 [(t 78),(t 79)]) 80 [0,1]]
def d30r12:List RO:=E6.map bare
def E7:List RO:=[
 n 0 81,
 n 1 82,
 o (.bin .mul (i 2) (t 82)) 83 [1],
 n 5 84,
 o (.bin .mul (i 2) (t 84)) 85 [3],
 o (.bin .add (t 85) (i 1)) 86 [4],
 n 0 87,
 c 87 88 [6],
 a 0 88 89 [7],
 a 0 89 90 [8],
 l 90 91 [9],
 n 5 92,
 o (.bin .add (t 92) (i 1)) 93 [11],
 x 3 91 93 94 [10,12],
 a 0 94 95 [13],
 l 95 96 [14],
 n 6 97,
 n 0 98,
 c 98 99 [17],
 a 0 99 100 [18],
 a 2 100 101 [19],
 l 101 102 [20],
 b .add 97 102 103 [16,21],
 n 7 104,
 o (.callF 74 [(t 104)]) 105 [23],
 o (.build [(.v (.int .i64 0)),(.v (.int .i64 0))] [(0,1,(i 4))]) 106 [],
 o (.bslice 1 2 [(.v (.int .i64 0)),(.v (.int .i64 0))] [(0,2,(t 106))]) 107 [25],
 o (.append 75 2 16 (t 105) (t 107)) 108 [24,26,24],
 o (.build [(.v (.int .i64 0)),(.v (.int .i64 0)),(.v (.int .i64 0)),(.v (.int .i64 0)),.aI] [(0,1,(t 83)),(1,1,(t 86)),(2,1,(t 96)),(3,1,(t 103)),(4,1,(t 108))]) 109 [2,5,15,22,27],
 o (.callS 73 [(t 81),(t 109)]) 110 [0,28,27]]
def d30r13:List RO:=E7.map bare
def T6:List RO:=[
 n 5 22,
 o (.bin .add (t 22) (i 1)) 23 [0],
 m 23 5 [1,0,1]]
def E8:List RO:=[
 n 0 111,
 n 1 112,
 o (.callS 75 [(t 111),(t 112)]) 113 [0,1]]
def d30r15:List RO:=E8.map bare
def E9:List RO:=[
 n 0 114,
 n 1 115,
 o (.bin .mul (i 2) (t 115)) 116 [1],
 o (.bin .add (t 116) (i 1)) 117 [2],
 n 1 118,
 o (.bin .mul (i 2) (t 118)) 119 [4],
 o (.bin .add (t 119) (i 4)) 120 [5],
 n 0 121,
 c 121 122 [7],
 a 0 122 123 [8],
 a 0 123 124 [9],
 l 124 125 [10],
 n 1 126,
 x 3 125 126 127 [11,12],
 a 0 127 128 [13],
 l 128 129 [14],
 o (.build [(.v (.int .i64 0)),(.v (.int .i64 0)),(.v (.int .i64 0)),(.v (.int .i64 0)),.aI] [(0,1,(t 117)),(1,1,(t 120)),(2,1,(t 129))]) 130 [3,6,15],
 o (.callS 73 [(t 114),(t 130)]) 131 [0,16]]
def d30r16:List RO:=E9.map bare
def d30:DC:=(j (y d30r0)
 (j (j (y d30r1)
 (.block 0 (.loop (j (j (y d30r2)
 (.cond (.tmp 21) .skip
 (.exit 0)))
 (j (.block 1 (j (y d30r3)
 (j (j (y d30r4)
 (.cond (.tmp 33) (j (y d30r5)
 (y d30r6))
 .skip))
 (j (j (y d30r7)
 (.block 2 (.loop (j (y d30r8)
 (j (.cond (.tmp 56) .skip
 (.exit 2))
 (j (.block 3 (j (y d30r9)
 (y d30r10)))
 (y T5)))))))
 (j (y d30r12)
 (.cond (.tmp 80) (.jT d30r13)
 .skip))))))
 (y T6))))))
 (j (y d30r15)
 (.cond (.tmp 113) (y d30r16)
 .skip))))
def T7:List bN:=[]
theorem c30 [Laid]:aQ Tryz.prog 49 132 d30 T7:=⟨Tryz.f49,by kernel_rfl,by kernel_rfl,by kernel_rfl,by kernel_rfl,by kernel_rfl⟩
def GW:List RO:=[
 o (.bP (i 0)) 6 [],
 o (.bP (.cm .aI)) 7 [0]]
def GX:List RO:=[
 o (.bP (i 0)) 8 []]
def d31r2:List RO:=[
 o (.bP (.cm .aI)) 9 []]
def d31r3:List RO:=[
 n 0 12,
 c 12 13 [0],
 a 0 13 14 [1],
 a 0 14 15 [2],
 l 15 16 [3],
 n 1 17,
 n 2 18,
 o (.slice 3 (t 16) (some (t 17)) (some (t 18))) 19 [4,5,6],
 o (.len (t 19)) 20 [7],
 o (.bP (i 0)) 21 []]
def d31r4:List RO:=[
 b .lss 21 20 22 []]
def d31r5:List RO:=[
 x 3 19 21 23 [],
 L 3 23 24 [0],
 o (.alloc [(.v (.int .i64 0)),.aI,(.v (.int .i64 0))]) 11 [],
 S 3 11 24 [2,1,0,1,2]]
def d31r6:List RO:=[
 n 8 25,
 a 2 11 26 [],
 l 26 27 [1],
 b .add 25 27 28 [0,2],
 o (.minmax false (t 28) (i 1099511627776)) 29 [3],
 m 29 8 (k [4] 4)]
def d31r7:List RO:=[
 n 9 30,
 o (.build [(.v (.int .i64 0)),(.v (.int .i64 0))] [(0,1,(i 2))]) 31 [],
 o (.bslice 1 2 [(.v (.int .i64 0)),(.v (.int .i64 0))] [(0,2,(t 31))]) 32 [1],
 o (.append 75 2 16 (t 30) (t 32)) 33 [0,2],
 m 33 9 [3,3,0,1,2,3]]
def d31r8:List RO:=[
 o (.bin .add (t 21) (i 1)) 34 [],
 m 34 21 [0]]
def d31r9:List RO:=[
 n 8 35,
 n 9 36,
 m 35 6 [0,0],
 m 36 7 [1,2,0,1,2]]
def d31:DC:=(j (y GW)
 (j (y GX)
 (j (y d31r2)
 (j (j (y d31r3)
 (.block 0 (.loop (j (y d31r4)
 (j (.cond (.tmp 22) .skip
 (.exit 0))
 (j (.block 1 (j (y d31r5)
 (j (y d31r6)
 (y d31r7))))
 (y d31r8)))))))
 (j (y d31r9)
 .ret)))))
def AX:List bN:=[.slot 6,.slot 7]
theorem c31 [Laid]:aQ Tryz.prog 50 37 d31 AX:=⟨Tryz.f50,by kernel_rfl,by kernel_rfl,by kernel_rfl,by kernel_rfl,by kernel_rfl⟩
def d47r0:List RO:=[
 n 0 12,
 c 12 13 [0],
 a 0 13 14 [1],
 a 0 14 15 [2],
 l 15 16 [3],
 n 2 17,
 x 3 16 17 18 [4,5],
 a 1 18 19 [6],
 l 19 20 [7],
 o (.len (t 20)) 21 [8],
 o (.bP (i 0)) 22 []]
def d47r1:List RO:=[
 b .lss 22 21 23 []]
def d47r2:List RO:=[
 n 22 24,
 x 1 20 22 25 [],
 l 25 26 [1],
 m 24 10 [0,0,1,2],
 m 26 11 [2,3,0,1,2,3]]
def d47r3:List RO:=[
 n 11 27,
 o (.bin .geq (t 27) (i 0)) 28 [0]]
def KY:List RO:=[
 n 0 29,
 n 1 30,
 o (.bin .mul (i 2) (t 30)) 31 [1],
 n 2 32,
 o (.bin .mul (i 2) (t 32)) 33 [3],
 o (.bin .add (t 33) (i 2)) 34 [4],
 n 10 35,
 n 3 36,
 n 11 37,
 b .add 36 37 38 [7,8],
 n 4 39,
 o (.callF 74 [(t 39)]) 40 [10],
 n 10 41,
 o (.build [(.v (.int .i64 0)),(.v (.int .i64 0))] [(0,1,(i 1)),(1,1,(t 41))]) 42 [12],
 o (.bslice 1 2 [(.v (.int .i64 0)),(.v (.int .i64 0))] [(0,2,(t 42))]) 43 [13],
 o (.append 75 2 16 (t 40) (t 43)) 44 [11,14,11],
 o (.build [(.v (.int .i64 0)),(.v (.int .i64 0)),(.v (.int .i64 0)),(.v (.int .i64 0)),.aI] [(0,1,(t 31)),(1,1,(t 34)),(2,1,(t 35)),(3,1,(t 38)),(4,1,(t 44))]) 45 [2,5,6,9,15],
 o (.callS 73 [(t 29),(t 45)]) 46 [0,16,15]]
def d47r4:List RO:=KY.map bare
def d47r5:List RO:=[
 o (.bin .add (t 22) (i 1)) 47 [],
 m 47 22 [0]]
def d47:DC:=(j (y d47r0)
 (.block 0 (.loop (j (y d47r1)
 (j (.cond (.tmp 23) .skip
 (.exit 0))
 (j (.block 1 (j (y d47r2)
 (j (y d47r3)
 (.cond (.tmp 28) (y d47r4)
 .skip))))
 (y d47r5)))))))
def T8:List bN:=[]
theorem c47 [Laid]:aQ Tryz.prog 72 48 d47 T8:=⟨Tryz.f72,by kernel_rfl,by kernel_rfl,by kernel_rfl,by kernel_rfl,by kernel_rfl⟩
def d48r0:List RO:=[
 o (.box (t 1)) 3 []]
def d48r1:List RO:=[
 a 0 3 7 [],
 l 7 8 [0],
 a 1 3 9 [],
 l 9 10 [2],
 a 2 3 11 [],
 l 11 12 [4],
 o (.build [(.v (.int .i64 0)),(.v (.int .i64 0)),(.v (.int .i64 0))] [(0,1,(t 8)),(1,1,(t 10)),(2,1,(t 12))]) 13 [1,3,5],
 o (.alloc [(.v (.int .i64 0)),(.v (.int .i64 0)),(.v (.int .i64 0))]) 4 [],
 S 3 4 13 (k [7,6] 7)]
def T9:List RO:=[
 n 0 15,
 c 15 16 [0],
 a 3 16 17 [1],
 l 17 18 [2],
 L 3 4 19 [],
 o (.lookup [(.int .i64),(.int .i64),(.int .i64)] true (.agg [(.v (.int .i64 0)),(.v (.int .i64 0)),(.v (.int .i64 0)),(.v (.int .i64 0)),.aI]) true (t 18) (t 19)) 20 [3,4],
 m 20 14 [5],
 e 0 14 21 [6],
 e 1 14 22 [6],
 o (.alloc [(.v (.int .i64 0)),(.v (.int .i64 0)),(.v (.int .i64 0)),(.v (.int .i64 0)),.aI]) 5 [],
 S 5 5 21 [9,7,0,1,2,3,4,5,6,7,9],
 m 22 6 (k [8,10] 10)]
def Ua:List RO:=[
 a 3 3 23 [],
 l 23 24 [0],
 o (.bin .lss (t 24) (i 1099511627776)) 25 [1],
 m 25 26 [2],
 w 6 27 26 true [3],
 g (.un .not (t 27)) 28 26 true [4,3],
 w 28 29 26 true [5,3,3],
 u 3 3 30 29 false [6],
 v 30 31 29 false [7,6],
 u 3 5 32 29 false [6],
 v 32 33 29 false [9,6],
 g (.bin .lss (t 31) (t 33)) 34 29 false [8,10,6],
 g (.pick (t 29) (.cm (.v (.bool true))) (t 34)) 35 26 true [6,11,3],
 q 26 35 36 [3,12]]
def Ub:List RO:=[
 n 0 37,
 c 37 38 [0],
 a 3 38 39 [1],
 l 39 40 [2],
 L 3 4 41 [],
 L 5 3 42 [],
 s (.mapUpd [(.int .i64),(.int .i64),(.int .i64)] true (t 40) (t 41) (t 42)) (k [3,4,5] 5)]
def d48:DC:=(j (y d48r0)
 (j (y d48r1)
 (j (Y T9)
 (j (y Ua)
 (.cond (.tmp 36) (Y Ub)
 .skip)))))
def KZ:List bN:=[]
theorem c48 [Laid]:aQ Tryz.prog 73 43 d48 KZ:=⟨Tryz.f73,by kernel_rfl,by kernel_rfl,by kernel_rfl,by kernel_rfl,by kernel_rfl⟩
def d49r0:List RO:=[
 o (.bP (.cm .aI)) 2 []]
def Uc:List RO:=[
 n 0 3,
 o (.isNil 0 false (t 3)) 4 [0]]
def d49r2:List RO:=[
 o (.bP (.cm .aI)) 2 []]
def Ud:List RO:=[
 o (.bslice 0 2 [] []) 5 [],
 n 0 6,
 o (.append 75 2 16 (t 5) (t 6)) 7 [0,1],
 m 7 2 [2,2,0,1,2]]
def d49:DC:=(j (y d49r0)
 (j (j (y Uc)
 (.cond (.tmp 4) (j (y d49r2)
 .ret)
 .skip))
 (j (y Ud)
 .ret)))
def d49res:List bN:=[.slot 2]
theorem c49 [Laid]:aQ Tryz.prog 74 8 d49 d49res:=⟨Tryz.f74,by kernel_rfl,by kernel_rfl,by kernel_rfl,by kernel_rfl,by kernel_rfl⟩
def d50r0:List RO:=[
 o (.bP (.cm (.v (.bool false)))) 4 []]
def d50r1:List RO:=[
 n 0 6,
 c 6 7 [0],
 a 0 7 8 [1],
 a 0 8 9 [2],
 l 9 10 [3],
 m 10 5 (k [4] 4)]
def Ue:List RO:=[
 n 1 11,
 o (.bin .add (t 11) (i 1)) 12 [0],
 n 5 13,
 o (.len (t 13)) 14 [2],
 b .lss 12 14 15 [1,3],
 m 15 16 [4],
 w 0 17 16 true [5],
 g (.nilCheck (t 17)) 18 16 true [6,5],
 u 0 18 19 16 true [7,5],
 u 2 19 20 16 true [8,5],
 v 20 21 16 true [9,5],
 g (.bin .gtr (t 21) (i 0)) 22 16 true [10,5],
 q 16 22 23 [5,11],
 m 23 24 [12,5],
 w 5 25 24 true [13],
 w 1 26 24 true [13],
 g (.idxAddr 3 (t 25) (t 26)) 27 24 true [14,15,13],
 u 0 27 28 24 true [16,13],
 v 28 29 24 true [17,13],
 g (.bin .geq (t 29) (i 0)) 30 24 true [18,13],
 q 24 30 31 [13,19],
 m 31 32 [20,13],
 w 5 33 32 true [21],
 w 1 34 32 true [21],
 g (.bin .add (t 34) (i 1)) 35 32 true [23,21],
 g (.idxAddr 3 (t 33) (t 35)) 36 32 true [22,24,21],
 u 0 36 37 32 true [25,21],
 v 37 38 32 true [26,21],
 g (.bin .geq (t 38) (i 0)) 39 32 true [27,21],
 q 32 39 40 [21,28],
 m 40 4 (k [29,21] 29)]
def d50:DC:=(j (y d50r0)
 (j (y d50r1)
 (j (y Ue)
 .ret)))
def Uf:List bN:=[.slot 4]
theorem c50 [Laid]:aQ Tryz.prog 75 41 d50 Uf:=⟨Tryz.f75,by kernel_rfl,by kernel_rfl,by kernel_rfl,by kernel_rfl,by kernel_rfl⟩
def d29r0:List RO:=[
 o (.bP (.cm .aI)) 4 []]
def d29r1:List RO:=[
 n 1 9,
 o (.bin .lss (t 9) (i 0)) 10 [0]]
def d29r2:List RO:=[
 o (.fail) 11 [],
 s (.fail) [0]]
def d29r3:List RO:=[
 n 0 13,
 o (.len (t 13)) 14 [0],
 o (.conv .u64 (t 14)) 15 [1],
 n 1 16,
 o (.conv .u64 (t 16)) 17 [3],
 o (.call 71 [(t 15),(t 17)]) 18 [2,4],
 m 18 12 [5],
 e 0 12 19 [6],
 e 1 12 20 [6],
 m 19 5 (k [7,5] 7),
 m 20 6 (k [8,9] 9)]
def d29r4:List RO:=[
 n 5 21,
 o (.bin .gtr (t 21) (.cm (.v (.int .u64 0)))) 22 [0],
 m 22 23 [1],
 w 6 24 23 false [2],
 g (.bin .gtr (t 24) (.cm (.v (.int .u64 9223372036854775807)))) 25 23 false [3,2],
 p 23 25 26 [2,4]]
def d29r5:List RO:=[
 o (.fail) 27 [],
 s (.fail) [0]]
def d29r6:List RO:=[
 n 6 28,
 o (.conv .i64 (t 28)) 29 [0],
 o (.mkSlice 3 1 8 [(.int .i64 0)] (t 29)) 30 [1,1],
 m 30 7 [2,0,1,2]]
def d29r7:List RO:=[
 n 7 31,
 n 0 32,
 o (.copy 1 (t 31) (t 32)) 33 [0,1],
 m 33 8 [2,2,0,1,2]]
def d29r8:List RO:=[
 n 8 34,
 n 7 35,
 o (.len (t 35)) 36 [1],
 b .lss 34 36 37 [0,2]]
def d29r9:List RO:=[
 n 8 38,
 n 7 39,
 n 8 40,
 o (.slice 1 (t 39) (some (t 40)) none) 41 [1,2],
 n 7 42,
 n 8 43,
 o (.slice 1 (t 42) none (some (t 43))) 44 [4,5],
 o (.copy 1 (t 41) (t 44)) 45 [3,6],
 b .add 38 45 46 [0,7],
 m 46 8 (k [8,7] 8)]
def Ug:List RO:=[
 n 7 47,
 m 47 4 [0,0]]
def d29:DC:=(j (y d29r0)
 (j (j (y d29r1)
 (.cond (.tmp 10) (y d29r2)
 .skip))
 (j (y d29r3)
 (j (j (y d29r4)
 (.cond (.tmp 26) (y d29r5)
 .skip))
 (j (y d29r6)
 (j (y d29r7)
 (j (.block 0 (.loop (j (j (y d29r8)
 (.cond (.tmp 37) .skip
 (.exit 0)))
 (.block 1 (Y d29r9)))))
 (j (y Ug)
 .ret))))))))
def d29res:List bN:=[.slot 4]
theorem c29 [Laid]:aQ Tryz.prog 48 48 d29 d29res:=⟨Tryz.f48,by kernel_rfl,by kernel_rfl,by kernel_rfl,by kernel_rfl,by kernel_rfl⟩
def GY:List RO:=[
 o (.box (t 0)) 2 [],
 o (.box (t 1)) 3 [],
 o (.bP (i 0)) 4 []]
def GZ:List RO:=[
 a 0 2 5 [],
 l 5 6 [0],
 a 0 3 7 [],
 l 7 8 [2],
 o (.call 79 [(t 6),(t 8)]) 9 [1,3],
 a 1 2 10 [],
 l 10 11 [5],
 a 1 3 12 [],
 l 12 13 [7],
 o (.call 79 [(t 11),(t 13)]) 14 [6,8,4],
 a 2 2 15 [],
 l 15 16 [10],
 a 2 3 17 [],
 l 17 18 [12],
 o (.call 79 [(t 16),(t 18)]) 19 [11,13,9],
 o (.bslice 3 1 [(.v (.int .i64 0)),(.v (.int .i64 0)),(.v (.int .i64 0))] [(0,1,(t 9)),(1,1,(t 14)),(2,1,(t 19))]) 20 [4,9,14],
 o (.call 78 [(t 20)]) 21 [15,14],
 m 21 4 (k [16,16] 16)]
def d33:DC:=(j (y GY)
 (j (Y GZ)
 .ret))
def AY:List bN:=[.slot 4]
theorem c33 [Laid]:aQ Tryz.prog 52 22 d33 AY:=⟨Tryz.f52,by kernel_rfl,by kernel_rfl,by kernel_rfl,by kernel_rfl,by kernel_rfl⟩
def G0:List RO:=[
 o (.bP (i 0)) 2 []]
def Ha:List RO:=[
 o (.bP (i 0)) 3 []]
def Hb:List RO:=[
 n 0 6,
 o (.len (t 6)) 7 [0],
 o (.bP (i 0)) 8 []]
def Hc:List RO:=[
 b .lss 8 7 9 []]
def Hd:List RO:=[
 x 1 6 8 10 [],
 l 10 11 [0],
 m 11 5 [1,0,1]]
def He:List RO:=[
 n 5 12,
 n 3 13,
 b .neq 12 13 14 [0,1]]
def Hf:List RO:=[
 n 5 15,
 m 15 2 [0,0]]
def Hg:List RO:=[
 o (.bin .add (t 8) (i 1)) 16 [],
 m 16 8 [0]]
def d53r8:List RO:=[
 n 3 17,
 m 17 2 [0,0]]
def d53:DC:=(j (y G0)
 (j (y Ha)
 (j (j (y Hb)
 (.block 0 (.loop (j (y Hc)
 (j (.cond (.tmp 9) .skip
 (.exit 0))
 (j (.block 1 (j (y Hd)
 (j (y He)
 (.cond (.tmp 14) (j (y Hf)
 .ret)
 .skip))))
 (y Hg)))))))
 (j (y d53r8)
 .ret))))
def AZ:List bN:=[.slot 2]
theorem c53 [Laid]:aQ Tryz.prog 78 18 d53 AZ:=⟨Tryz.f78,by kernel_rfl,by kernel_rfl,by kernel_rfl,by kernel_rfl,by kernel_rfl⟩
def Hw:List RO:=[
 o (.bP (i 0)) 4 []]
def Hx:List RO:=[
 n 0 7,
 o (.call 106 [(t 7)]) 8 [0],
 m 8 5 [1,1,0,1]]
def d54r2:List RO:=[
 n 1 9,
 o (.call 106 [(t 9)]) 10 [0],
 m 10 6 [1,1,0,1]]
def d54r3:List RO:=[
 n 5 11]
def d54r4:List RO:=[
 n 6 12]
def d54r5:List RO:=[
 o (.bP (i 0)) 4 []]
def d54r6:List RO:=[
 o (.bP (i (-1))) 4 []]
def d54r7:List RO:=[
 n 6 13]
def d54r8:List RO:=[
 o (.bP (i 1)) 4 []]
def d54r9:List RO:=[
 n 0 14,
 n 1 15,
 b .lss 14 15 16 [0,1]]
def Uh:List RO:=[
 o (.bP (i (-1))) 4 []]
def Ui:List RO:=[
 n 0 17,
 n 1 18,
 b .gtr 17 18 19 [0,1]]
def Uj:List RO:=[
 o (.bP (i 1)) 4 []]
def Uk:List RO:=[
 o (.bP (i 0)) 4 []]
def d54:DC:=(j (y Hw)
 (j (y Hx)
 (j (y d54r2)
 (j (j (y d54r3)
 (.cond (.tmp 11) (j (j (y d54r4)
 (.cond (.tmp 12) (j (y d54r5)
 .ret)
 .skip))
 (j (y d54r6)
 .ret))
 .skip))
 (j (j (y d54r7)
 (.cond (.tmp 13) (j (y d54r8)
 .ret)
 .skip))
 (j (j (y d54r9)
 (.cond (.tmp 16) (j (y Uh)
 .ret)
 .skip))
 (j (j (y Ui)
 (.cond (.tmp 19) (j (y Uj)
 .ret)
 .skip))
 (j (y Uk)
 .ret))))))))
def xj:List bN:=[.slot 4]
theorem c54 [Laid]:aQ Tryz.prog 79 20 d54 xj:=⟨Tryz.f79,by kernel_rfl,by kernel_rfl,by kernel_rfl,by kernel_rfl,by kernel_rfl⟩
def d71r0:List RO:=[
 o (.bP (.cm (.v (.bool false)))) 2 []]
def d71r1:List RO:=[
 n 0 3,
 n 0 4,
 b .neq 3 4 5 [0,1],
 m 5 2 [2,0,1,2]]
def d71:DC:=(j (y d71r0)
 (j (y d71r1)
 .ret))
def Ul:List bN:=[.slot 2]
theorem c71 [Laid]:aQ Tryz.prog 106 6 d71 Ul:=⟨Tryz.f106,by kernel_rfl,by kernel_rfl,by kernel_rfl,by kernel_rfl,by kernel_rfl⟩
def GP:List RO:=[
 o (.bP (.cm (.v (.int .u64 0)))) 4 [],
 o (.bP (.cm (.v (.int .u64 0)))) 5 [0]]
def MK:List RO:=[
 n 0 11,
 o (.conv .u32 (t 11)) 12 [0],
 n 1 13,
 o (.conv .u32 (t 13)) 14 [2],
 o (.call 94 [(t 12),(t 14)]) 15 [1,3],
 m 15 10 [4],
 e 0 10 16 [5],
 e 1 10 17 [5],
 m 16 6 (k [6,4] 6),
 m 17 7 (k [7,8] 8)]
def ML:List RO:=[
 n 6 18,
 o (.conv .u64 (t 18)) 19 [0],
 n 7 20,
 o (.conv .u64 (t 20)) 21 [2],
 m 19 4 [1,0,1],
 m 21 5 (k [3,4] 4)]
def GQ:List RO:=[
 n 0 23,
 n 1 24,
 o (.call 95 [(t 23),(t 24)]) 25 [0,1],
 m 25 22 [2],
 e 0 22 26 [3],
 e 1 22 27 [3],
 m 26 8 (k [4,2] 4),
 m 27 9 (k [5,6] 6)]
def GR:List RO:=[
 n 8 28,
 n 9 29,
 m 28 4 [0,0],
 m 29 5 [1,2,0,1,2]]
def d46:DC:=(j (y GP)
 (j (.cond (.cm (.v (.bool false))) (j (y MK)
 (j (y ML)
 .ret))
 .skip)
 (j (y GQ)
 (j (y GR)
 .ret))))
def pB:List bN:=[.slot 4,.slot 5]
theorem c46 [Laid]:aQ Tryz.prog 71 30 d46 pB:=⟨Tryz.f71,by kernel_rfl,by kernel_rfl,by kernel_rfl,by kernel_rfl,by kernel_rfl⟩
def Hy:List RO:=[
 o (.bP (.cm (.v (.int .u64 0)))) 4 [],
 o (.bP (.cm (.v (.int .u64 0)))) 5 [0]]
def yA:List RO:=[
 n 0 14,
 o (.bin .and (t 14) (.cm (.v (.int .u64 4294967295)))) 15 [0],
 m 15 6 [1,0,1]]
def Hz:List RO:=[
 n 0 16,
 o (.bin .shr (t 16) (.cm (.v (.int .u64 32)))) 17 [0],
 m 17 7 [1,0,1]]
def HA:List RO:=[
 n 1 18,
 o (.bin .and (t 18) (.cm (.v (.int .u64 4294967295)))) 19 [0],
 m 19 8 [1,0,1]]
def MT:List RO:=[
 n 1 20,
 o (.bin .shr (t 20) (.cm (.v (.int .u64 32)))) 21 [0],
 m 21 9 [1,0,1]]
def MU:List RO:=[
 n 6 22,
 n 8 23,
 b .mul 22 23 24 [0,1],
 m 24 10 [2,0,1,2]]
def d60r6:List RO:=[
 n 7 25,
 n 8 26,
 b .mul 25 26 27 [0,1],
 n 10 28,
 o (.bin .shr (t 28) (.cm (.v (.int .u64 32)))) 29 [3],
 b .add 27 29 30 [2,4],
 m 30 11 (k [5] 5)]
def d60r7:List RO:=[
 n 11 31,
 o (.bin .and (t 31) (.cm (.v (.int .u64 4294967295)))) 32 [0],
 m 32 12 [1,0,1]]
def d60r8:List RO:=[
 n 11 33,
 o (.bin .shr (t 33) (.cm (.v (.int .u64 32)))) 34 [0],
 m 34 13 [1,0,1]]
def d60r9:List RO:=[
 n 12 35,
 n 6 36,
 n 9 37,
 b .mul 36 37 38 [1,2],
 b .add 35 38 39 [0,3],
 m 39 12 (k [4] 4)]
def Um:List RO:=[
 n 7 40,
 n 9 41,
 b .mul 40 41 42 [0,1],
 n 13 43,
 b .add 42 43 44 [2,3],
 n 12 45,
 o (.bin .shr (t 45) (.cm (.v (.int .u64 32)))) 46 [5],
 b .add 44 46 47 [4,6],
 m 47 4 (k [7] 7)]
def Un:List RO:=[
 n 0 48,
 n 1 49,
 b .mul 48 49 50 [0,1],
 m 50 5 [2,0,1,2]]
def d60:DC:=(j (y Hy)
 (j (y yA)
 (j (y Hz)
 (j (y HA)
 (j (y MT)
 (j (y MU)
 (j (y d60r6)
 (j (y d60r7)
 (j (y d60r8)
 (j (y d60r9)
 (j (y Um)
 (j (y Un)
 .ret))))))))))))
def tU:List bN:=[.slot 4,.slot 5]
theorem c60 [Laid]:aQ Tryz.prog 95 51 d60 tU:=⟨Tryz.f95,by kernel_rfl,by kernel_rfl,by kernel_rfl,by kernel_rfl,by kernel_rfl⟩
theorem follows:Tryz.prog.follows .mixedOrders=true:=by kernel_rfl
abbrev fw:=follows
abbrev ti(n:Int):T:=.int .i64 n
def cX:T->Int
 |.int _ n=>n
 |_=>0
structure bn where
 (f t term cost:Int)
 ops:List (Int×Int)
 deriving DecidableEq,Inhabited
structure aL where
 aN:Int
 aC:List bn
 final:List Int
structure bC where
 kind:Int
 read:List Int
 delete:Int
 deriving Inhabited
structure Input where
 aj:List bC
 insert:List Int
 swap:Int
def cR(l:List (Int×Int)):List (List T):=l.map λo=>[ti o.1,ti o.2]
def bn.enc(a:bn):List T:=[ti a.f,ti a.t,ti a.term,ti a.cost,.sl (cR a.ops)]
def ba(l:List bn):List (List T):=l.map bn.enc
def aB(l:List Int):List (List T):=l.map λx=>[ti x]
def aL.enc(l:aL):T:=.agg [ti l.aN,.sl (ba l.aC),.sl (aB l.final)]
def bC.enc(c:bC):List T:=[ti c.kind,.sl (aB c.read),ti c.delete]
def aZ(l:List bC):List (List T):=l.map bC.enc
def Input.enc(x:Input):T:=.agg [.sl (aZ x.aj),.sl (aB x.insert),ti x.swap]
theorem fA{α β:Type}{f:α->β}{g:β->α}(h:∀a,g (f a)=a)(l:List α):(l.map f).map g=l:=by
 rw[ZcK];conv=>rhs;rw[<-List.map_id l]
 exact Zbq λa _=>h a
def fo(l:List (List T)):List Int:=l.map λx=>cX (x.getD 0 (ti 0))
def xp(l:List (List T)):List (Int×Int):=l.map λx=>(cX (x.getD 0 (ti 0)),cX (x.getD 1 (ti 0)))
def lK:List T->bn
 |[a,b,c,d,.sl o]=>⟨cX a,cX b,cX c,cX d,xp o⟩
 |_=>default
def zm(l:List (List T)):List bn:=l.map lK
def Bp:List T->bC
 |[a,.sl b,c]=>⟨cX a,fo b,cX c⟩
 |_=>default
def fH(l:List (List T)):List bC:=l.map Bp
def tW:T->aL
 |.agg [a,.sl b,.sl c]=>⟨cX a,zm b,fo c⟩
 |_=>⟨0,[],[]⟩
def Ci:T->Input
 |.agg [.sl a,.sl b,c]=>⟨fH a,fo b,cX c⟩
 |_=>⟨[],[],0⟩
@[simp] theorem H9(l:List Int):fo (aB l)=l:=fA (λ_=>rfl) l
@[simp] theorem K0(l:List (Int×Int)):xp (cR l)=l:=fA (λ_=>rfl) l
@[simp] theorem mR(a:bn):lK a.enc=a:=by simp[lK,bn.enc,cX]
@[simp] theorem decArcs_enc(l:List bn):zm (ba l)=l:=fA mR l
@[simp] theorem Bq(a:bC):Bp a.enc=a:=by simp[Bp,bC.enc,cX]
@[simp] theorem decCols_enc(l:List bC):fH (aZ l)=l:=fA Bq l
@[simp] theorem decL_enc'(a:Int)(l:List bn)(f:List Int):tW (.agg [ti a,.sl (ba l),.sl (aB f)])=⟨a,l,f⟩:=by simp[tW,cX]
@[simp] theorem decL_enc(n:aL):tW n.enc=n:=by simp[aL.enc]
@[simp] theorem decX_enc'(a:List bC)(b:List Int)(c:Int):Ci (.agg [.sl (aZ a),.sl (aB b),ti c])=⟨a,b,c⟩:=by simp[Ci,cX]
@[simp] theorem decX_enc(x:Input):Ci x.enc=x:=by simp[Input.enc]
theorem cP{l:List Int}{y:Nat}(h:y<l.length):DM.rowAt (aB l) y=[ti (l.getD y default)]:=by simp[DM.rowAt,aB,h]
theorem kN{l:List bn}{y:Nat}(h:y<l.length):DM.rowAt (ba l) y=(l.getD y default).enc:=by simp[DM.rowAt,ba,h]
theorem dO{l:List bC}{y:Nat}(h:y<l.length):DM.rowAt (aZ l) y=(l.getD y default).enc:=by simp[DM.rowAt,aZ,h]
@[simp] theorem intsT_len(l:List Int):(aB l).length=l.length:=by simp[aB]
@[simp] theorem opsT_len(l:List (Int×Int)):(cR l).length=l.length:=by simp[cR]
@[simp] theorem arcsT_len(l:List bn):(ba l).length=l.length:=by simp[ba]
@[simp] theorem colsT_len(l:List bC):(aZ l).length=l.length:=by simp[aZ]
abbrev kp:List Sh:=[.int .i64,.int .i64,.int .i64]
def keyOf(f t x:Int):T:=.agg [ti f,ti t,ti x]
def bn.key(a:bn):T:=keyOf a.f a.t a.term
def entries(al:List bn):List (Nat×T×DV):=al.zipIdx.map λp=>(p.2,p.1.key,.v (.agg p.1.enc))
def bU(al:List bn):Ob:=.map kp true al.length (entries al)
def ch(x:Input)(m:Nat):List DV:=[.v (.sl (aZ x.aj)),.v (.sl (aB x.insert)),.v (ti x.swap),.iq m]
def sameKey(a b:bn):Bool:=decide (a.f=b.f/\a.t=b.t/\a.term=b.term)
def tt(al:List bn)(a:bn):List bn:=
 if a.cost<1099511627776 then
  match al.findIdx? (sameKey a)with
  |none=>al++[a]
  |some i=>if a.cost<(al.getD i default).cost then al.set i a else al
 else al
def Fe:DV->Int
 |.v (.agg [_,_,_,.int _ c,_])=>c
 |_=>0
def better(k:T)(c:Int)(es:List (Nat×T×DV)):Bool:=
 decide (c<1099511627776)&&match oq k es with|none=>true|some e=>decide (c<Fe e.2.2)
def oN(k:T)(c:Int)(y:DV)(wv:Nat)(es:List (Nat×T×DV)):List (Nat×T×DV):=if better k c es then DX k y wv es else es
def uf(k:T)(c:Int)(wv:Nat)(es:List (Nat×T×DV)):Nat:=if better k c es then mw k wv es else wv
theorem key_eq(a b:bn):eZ a.key b.key=sameKey a b:=by
 simp[bn.key,keyOf,eZ,oj,sameKey]
theorem nz(a:bn)(al:List bn):((entries al).findIdx? λe=>eZ a.key e.2.1)=al.findIdx? (sameKey a):=by
 have h:∀(l:List bn) (i:Nat),(((l.zipIdx i).map λp=>((p.2,p.1.key,DV.v (.agg p.1.enc)):Nat×T×DV)).findIdx? λe=>eZ a.key e.2.1)=l.findIdx? (sameKey a):=by
  intro l;induction l with
  |nil=>intro i;rfl
  |cons b l ih=>intro i;simp only[Zb6,Zau,Za3,key_eq,ih (i+1)]
 exact h al 0
theorem fp(al:List bn)(i:Nat):(entries al)[i]? =(al[i]?).map λa=>(i,a.key,.v (.agg a.enc)):=by
 simp[entries,Zbp,List.getElem?_zipIdx,Function.comp_def]
theorem jC(al:List bn):(entries al).length=al.length:=by simp[entries]
theorem OT(al:List bn):∀e∈entries al,∃a:bn,e.2.2=.v (.agg a.enc):=by
 intro e he;simp only[entries,Zal]at he;obtain⟨p,_,rfl⟩:=he;exact⟨p.1,rfl⟩
theorem sC{α:Type}{p:α->Bool}{l:List α}{i:Nat}(h:l.findIdx? p=some i):i<l.length:=by
 rw[ZbA]at h;exact h.1
theorem Br(a:bn)(al:List bn):better a.key a.cost (entries al)=(decide (a.cost<1099511627776)&&match al.findIdx? (sameKey a)with|none=>true|some i=>decide (a.cost<(al.getD i default).cost)):=by
 unfold better;rw[vk,nz];cases h:al.findIdx? (sameKey a)with
 |none=>rfl
 |some i=>
  have hi:=sC h;simp[fp,hi,Fe,bn.enc];rfl
theorem Ff(a:bn)(al:List bn):oN a.key a.cost (.v (.agg a.enc)) al.length (entries al)=entries (tt al a)/\uf a.key a.cost al.length (entries al)=(tt al a).length:=by
 unfold oN uf tt;rw[Br];by_cases hc:a.cost<1099511627776
 ·simp only[hc,decide_true,Zcj,if_true];cases h:al.findIdx? (sameKey a)with
  |none=>
   simp only[if_true,DX,mw,nz,h];refine⟨?_,by simp⟩;apply Zbk;intro j;rw[fp,Zb8,Zb8,jC,fp];split
   ·rfl
   ·rename_i hj;by_cases YQ:j=al.length
    ·subst YQ;simp
    ·rw[ZaR (by simp;omega),ZaR (by simp;omega)];rfl
  |some i=>
   have hi:=sC h;have J2:a.key=(al.getD i default).key:=by
    rw[ZbA]at h;obtain⟨_,h1,_⟩:=h;simp only[sameKey,decide_eq_true_eq]at h1;simp[bn.key,keyOf,List.getD,hi,h1]
   simp only;by_cases h2:a.cost<(al.getD i default).cost
   ·simp only[h2,decide_true,if_true,DX,mw,nz,h];refine⟨?_,by simp⟩;apply Zbk;intro j;rw[fp,List.getElem?_modify,fp,Zbx];by_cases hj:i=j
    ·subst hj;simp[hi,J2,List.getD]
    ·simp[hj]
   ·simp only[h2,decide_false,ZaS,if_false];exact⟨trivial,trivial⟩
 ·simp[hc]
theorem dY:aw Tryz.prog (aW []):=aw.nil
theorem cT{f:aU}{l:List (Nat×Ob)}{low r:Nat}(hf:dL f low)(h:low<=r)(hl:∀p∈l,p.1≠r):gone (over l f) id r:=by
 intro r' fa e;simp only[id]at e;subst e;cases ho:over l f r' with
 |none=>exact fa ho
 |some o=>
  rcases oI ho with h1|⟨_,h1⟩
  ·exact hl _ h1 rfl
  ·have:=(hf r' o h1).1;omega
def dX:List bC->Int->Int
 |[],c=>c
 |x::l,c=>dX l (min (c+x.delete) 1099511627776)
def dc(n:Nat):List (Int×Int):=List.replicate n (2,0)
theorem vO(l:List bC)(x:bC)(c:Int):dX (l++[x]) c=min (dX l c+x.delete) 1099511627776:=by
 induction l generalizing c with
 |nil=>rfl
 |cons y l ih=>simp[dX,ih]
theorem nS{l:List bC}(h:∀c∈l,0<=c.delete):∀c,0<=c/\c<=1099511627776->0<=dX l c/\dX l c<=1099511627776:=by
 induction l with
 |nil=>intro c hc;exact hc
 |cons y l ih=>
  intro c hc;have:=h y (by simp);exact ih (λz hz=>h z (by simp[hz])) _ (by omega)
theorem K1(l:List bC)(n:Nat):(aZ l).take n=aZ (l.take n):=by simp[aZ,List.map_take]
theorem K2(l:List bC)(n:Nat):(aZ l).drop n=aZ (l.drop n):=by simp[aZ,List.map_drop]
def nf(cK:List bC):Prop:=cK.length<=1000000/\∀c∈cK,0<=c.delete/\c.delete<=1099511627776
theorem t31{f:aU}{b m:Nat}{x:Input}{i j:Nat}{N:Nat}(hN:∀r,N<=r->f r=none)(hb:f b=some (.box (ch x m)))(Wi:i<=j)(hj:j<=x.aj.length)(hd:nf x.aj):
  aY Tryz.prog 50 [.ptr b 0,.v (ti i),.v (ti j)] f ⟨True,.v (.eD [ti (dX ((x.aj.take j).drop i) 0),.sl (cR (dc (j-i)))]),f⟩:=by
 have ay:=dY;refine c31.uy hN (by simp) λbd=>?_;have Wr:b<N:=(bd b _ hb).1;obtain⟨part,tn⟩:∃p,(x.aj.take j).drop i=p:=⟨_,rfl⟩;have Pz:part.length=j-i:=by rw[<-tn];simp;omega
 have hpd:∀c∈part,0<=c.delete/\c.delete<=1099511627776:=λc hc=>hd.2 c (by rw[<-tn]at hc;exact Zav (Zbv hc));have Qb:((aZ x.aj).take j).drop i=aZ part:=by rw[K1,K2,tn]
 have cS:∀r∈aZ x.aj,r.length=3:=by intro r hr;simp only[aZ,Zal]at hr;obtain⟨c,_,rfl⟩:=hr;rfl
 have hlen:=hd.1;rw[tn];clear tn;simp;refine aa.ab ay fw [0,1,2,7] ?_;simp[GW];refine aa.ab ay fw [0,1,2,8] ?_;simp[GX];refine aa.ab ay fw [0,1,2,8,9] ?_;simp[d31r2];refine aa.seq ?_;refine aa.ab ay fw [8,9,19,20,21] ?_;simp[d31r3,hb,ch,Wi,hj,Qb];refine⟨cS, ?_⟩;refine aa.le (Le.fl (l1:=[]) (l:=[(8,.v (ti 0)),(9,.aI),(19,.v (.sl (aZ part))),(20,.v (ti part.length)),(21,.v (ti 0))]) (nxt':=N+200) bd ?_ ?_ ?_ ?_ ?_) ?_
 ·omega
 ·simp
 ·simp[bY]
 ·simp[gM]
 ·simp
 refine aa.le (Le.l7 (k:=9) 75 (sz:=2) (by omega) (by simp)) ?_;rw[kI];refine aa.block ?_;refine aa.loop (λy:Nat=>⟨DM.look [(8,.v (ti (dX (part.take y) 0))),(9,.bk (N+200) 0),(19,.v (.sl (aZ part))),(20,.v (ti part.length)),(21,.v (ti y))],over [(N+200,.arr 0 75 2 (cR (dc y)))] f,N+300,N,[]⟩)
  (λy=>y<=part.length) (λy=>part.length-y) 0 (Le.fl bd ?_ ?_ ?_ ?_ ?_) (by simp) (λy hy=>?_)
 ·omega
 ·simp
 ·simp[bY]
 ·simp[gM,ij,dc,cR]
 ·simp[dX]
 refine aa.ab ay fw [8,9,19,20,21,22] ?_;simp[d31r4];refine aa.seq ?_;have Jf:=nS (l:=part.take y) (λc hc=>(hpd c (Zav hc)).1) 0 (by omega);refine aa.cond rfl (λhc=>?_) (λhc=>?_)
 ·simp at hc;refine aa.skip ?_;simp;refine aa.seq ?_;refine aa.block ?_;refine aa.ab ay fw [8,9,11,19,20,21] ?_;have lV:=dO hc;obtain⟨c,zb⟩:∃c,part[y]=c:=⟨_,rfl⟩;have D3:c∈part:=by rw[<-zb];exact Zbi hc
  have Wm:=hpd c D3;have NP:part.take (y+1)=part.take y++[c]:=by rw[Zbw,Zan hc,zb];rfl
  simp[d31r5,lV,zb,hc,bC.enc];refine aa.ab ay fw [8,9,11,19,20,21] ?_;simp[d31r6];rw[au (by omega)];refine aa.dv ay fw [8,9,19,20,21] ?_;simp[d31r7,cG,chunk];refine⟨by
    have:(dc y).length=y:=by simp[dc]
    omega, ?_⟩
  refine aa.dv ay fw [8,9,19,20,21] ?_;simp[d31r8];refine⟨y+1,Le.fl bd ?_ ?_ ?_ ?_ ?_,by omega,by omega⟩
  ·omega
  ·simp
  ·simp[bY];omega
  ·simp[gM,ij,dc,cR,ZbR]
  ·simp[NP,vO];rw[au (by omega)]
 ·simp at hc;have sX:y=part.length:=by omega
  subst sX;refine aa.exit ?_;simp;refine aa.ab ay fw [6,7] ?_;simp[d31r9];refine aa.le (Le.fl (l1:=[]) (l:=[(6,.v (ti (dX part 0))),(7,.v (.sl (cR (dc part.length))))]) (nxt':=N+1000) bd ?_ ?_ ?_ ?_ ?_) ?_
  ·omega
  ·simp
  ·simp[bY]
  ·simp[gM]
  ·simp;exact cT bd (by omega) (by simp)
  refine aa.ret ?_;simp[AX,Pz];rfl
def bX(x:Input)(m:Nat):Bool:=
 decide (m+1<x.aj.length/\0<x.swap/\0<=(x.aj.getD m default).kind/\0<=(x.aj.getD (m+1) default).kind)
theorem t50{f:aU}{b m:Nat}{x:Input}{i:Nat}{N:Nat}(hN:∀r,N<=r->f r=none)(hb:f b=some (.box (ch x m)))(hi:i<=1000000)(hl:x.aj.length<=1000000):
  aY Tryz.prog 75 [.ptr b 0,.v (ti i)] f ⟨True,.v (.bool (bX x i)),f⟩:=by
 have ay:=dY;refine c50.uy hN (by simp) λbd=>?_;simp;refine aa.ab ay fw [0,1,4] ?_;simp[d50r0];refine aa.ab ay fw [0,1,5] ?_;simp[d50r1,hb,ch];have hw:IntKind.i64.wrap ((i:Int)+1)=i+1:=au (by omega);refine aa.bZ ay fw [(4,.v (.bool (bX x i)))] ?_ ?_
 ·by_cases h1:i+1<x.aj.length
  ·have lO:=dO (l:=x.aj) (y:=i) (by omega);have pT:DM.rowAt (aZ x.aj) ((i:Int)+1)=(x.aj.getD (i+1) default).enc:=dO (l:=x.aj) h1;obtain⟨c1,bb⟩:∃c,x.aj.getD i default=c:=⟨_,rfl⟩;obtain⟨c2,dR⟩:∃c,x.aj.getD (i+1) default=c:=⟨_,rfl⟩;rw[bb]at lO;rw[dR]at pT;have N4:((i:Int)+1<x.aj.length)=True:=by simp;omega
   have hd2:((i:Int)<x.aj.length)=True:=by simp;omega
   have hd3:(0<=(i:Int)+1)=True:=by simp;omega
   have hd4:i<x.aj.length:=by omega
   have zF:bX x i=(decide (0<x.swap)&&(decide (0<=c1.kind)&&decide (0<=c2.kind))):=by
    unfold bX;rw[bb,dR];simp[h1]
   by_cases s1:0<x.swap<;>by_cases s2:0<=c1.kind<;>by_cases s3:0<=c2.kind<;>simp[Ue,hb,ch,hw,lO,pT,N4,hd2,hd3,bC.enc,s1,s2,s3,zF]
  ·have N4:((i:Int)+1<x.aj.length)=False:=by simp;omega
   simp[Ue,hw,N4];simp[bX]
   intros;omega
 refine aa.ret ?_;simp[Uf];rfl
theorem Le.OU{tm:Nat->DV}{ob:aU}{nxt low:Nat}{td:List (List T)}{P:Program}{nt:Nat}{d:DC}{Q:Exit->kV->Prop}{k:Nat}(hk:tm k=.v (.sl []))
  (h:∀(p:Option Addr) (c:Nat),aa P nt d Q ⟨b7 tm (some k) (.v (.raw (.slice p 0 c))),ob,nxt,low,td⟩):aa P nt d Q ⟨tm,ob,nxt,low,td⟩:=by
 refine⟨λc hc n κ a w L g r=>?_⟩;obtain⟨W,base,M,w0,dF,h0⟩:=r.r.ex;have hx:=h0.tmps k;simp only[hk,av,aR]at hx;have fX:∃(p:Option Addr) (cp:Nat),a.tmps.getD k Go.undef=.slice p 0 cp:=by
  rcases hx with⟨_,p,cp,hx⟩|⟨b,o,cp,sz,hx,_⟩
  ·exact⟨p,cp,hx⟩
  ·exact⟨_,cp,hx⟩
 obtain⟨p,cp,hx⟩:=fX;refine(h p cp).run c hc n κ a w L g ⟨⟨⟨W,base,M,w0,dF,h0.size,λt=>?_,h0.o⟩,r.r.dZ,r.r.defers,r.r.bg,r.r.fin⟩,r.fresh,r.low,r.it⟩;simp only[b7];by_cases ht:t=k
 ·subst ht;simp only[if_true,av,aR];exact hx
 ·simp only[ht,if_false];exact h0.tmps t
theorem t49(l:List (Int×Int))(hl:l.length<=1000000):lI Tryz.prog 74 [.sl (cR l)] 75 2 (cR l):=by
 have ay:=dY;refine c49.okF (by simp) (aJ ?_);simp;have cS:∀r∈cR l,r.length=2:=by intro r hr;simp only[cR,Zal]at hr;obtain⟨c,_,rfl⟩:=hr;rfl
 refine aa.ab ay fw [0,2] ?_;simp[d49r0];cases l with
 |nil=>
  refine Le.OU (k:=0) (by simp[cR]) λp c=>?_;refine aa.seq ?_;refine aa.ab ay fw [0,2,4] ?_;simp[Uc];refine aa.cond rfl (λh=>?_) (λh=>?_)
  ·refine aa.ab ay fw [2] ?_;simp[d49r2];refine aa.ret ?_;exact .inl ⟨by simp,by simp[cR],by omega⟩
  ·refine aa.skip ?_;simp;refine aa.ab ay fw [2] ?_;simp[Ud,cG];refine aa.ret ?_;exact .inr ⟨1026,0,by simp,by simp[cR]⟩
 |cons o l=>
  refine aa.seq ?_;refine aa.ab ay fw [0,2,4] ?_;simp[Uc];refine⟨by simp[cR], ?_⟩;refine aa.cond rfl (λh=>by cases h) (λh=>?_);refine aa.skip ?_;simp;refine aa.ab ay fw [2] ?_;simp[Ud,cG];refine⟨⟨cS,by simp at hl⊢;omega⟩, ?_⟩;refine aa.ret ?_;exact .inr ⟨1026,0,by simp,by simp⟩
variable [Laid]
theorem okE:aw Tryz.prog (aW []):=aw.nil
def qi(a b:Int):Int:=if a<b then-1 else if b<a then 1 else 0
def Nf(l:List Int):Int:=(l.find? λx=>x !=0).getD 0
def dw(x y:List T):Int:=Nf [qi (cX (x.getD 0 (ti 0))) (cX (y.getD 0 (ti 0))),qi (cX (x.getD 1 (ti 0))) (cX (y.getD 1 (ti 0))),qi (cX (x.getD 2 (ti 0))) (cX (y.getD 2 (ti 0)))]
theorem t71(a:Int):aT Tryz.prog 106 [ti a] (.bool false):=by
 have ay:=okE;refine c71.ok (by simp) (aJ ?_);simp;refine aa.ab ay fw [0] ?_;simp[d71r0];refine aa.ab ay fw [2] ?_;simp[d71r1];refine aa.ret ?_;simp[Ul]
abbrev spec71:DM.Spec:=ct (λts=>∃a,ts=[ti a]) (λ_=>.bool false) true
theorem ok71:aw Tryz.prog (aW [(106,spec71)]):=by
 refine aw.cons aw.nil ?_;rintro ts ⟨a,rfl⟩;exact⟨t71 a,λ_=>rfl⟩
theorem t54(a b:Int):aT Tryz.prog 79 [ti a,ti b] (ti (qi a b)):=by
 have ay:=ok71;refine c54.ok (by simp) (aJ ?_);simp;refine aa.ab ay fw [0,1] ?_;simp[Hw];refine aa.ab ay fw [0,1,5] ?_;simp[Hx];refine aa.ab ay fw [0,1,5,6] ?_;simp[d54r2];refine aa.seq ?_;refine aa.ab ay fw [0,1,6,11] ?_;simp[d54r3];refine aa.cond rfl (λh=>by cases h) (λh=>?_);refine aa.skip ?_;simp;refine aa.seq ?_;refine aa.ab ay fw [0,1,13] ?_;simp[d54r7];refine aa.cond rfl (λh=>by cases h) (λh=>?_);refine aa.skip ?_;simp;refine aa.seq ?_;refine aa.ab ay fw [0,1,16] ?_;simp[d54r9];refine aa.cond rfl (λh=>?_) (λh=>?_)
 ·simp at h;refine aa.ab ay fw [4] ?_;simp[Uh];refine aa.ret ?_;simp[xj,qi,h]
 ·simp at h;refine aa.skip ?_;simp;refine aa.seq ?_;refine aa.ab ay fw [0,1,19] ?_;simp[Ui];refine aa.cond rfl (λh2=>?_) (λh2=>?_)
  ·simp at h2;refine aa.ab ay fw [4] ?_;simp[Uj];refine aa.ret ?_;simp[xj,qi,h2,show ¬a<b by omega]
  ·simp at h2;refine aa.skip ?_;simp;refine aa.ab ay fw [4] ?_;simp[Uk];refine aa.ret ?_;simp[xj,qi,show ¬a<b by omega,show ¬b<a by omega]
theorem UZ{l:List Int}{y:Nat}(hy:y<l.length)(h:l.getD y default=0):Nf (l.drop y)=Nf (l.drop (y+1)):=by
 rw[ZbS hy];have:l[y]=0:=by simpa [List.getD,hy]using h
 simp[Nf,this]
theorem XI{l:List Int}{y:Nat}(hy:y<l.length)(h:l.getD y default≠0):Nf (l.drop y)=l.getD y default:=by
 rw[ZbS hy];have e:l.getD y default=l[y]:=by simp[List.getD,hy]
 rw[e]at h⊢;simp only[Nf,ZaM,Zbc,(bne_iff_ne (a:=l[y]) (b:=(0:Int))).2 h]
theorem t53(l:List Int)(hl:l.length<=1000000):aT Tryz.prog 78 [.sl (aB l)] (ti (Nf l)):=by
 have ay:=okE;refine c53.ok (by simp) (aJ ?_);simp;refine aa.ab ay fw [0] ?_;simp[G0];refine aa.ab ay fw [0,3] ?_;simp[Ha];refine aa.seq ?_;refine aa.ab ay fw [3,6,7,8] ?_;simp[Hb];refine aa.block ?_;refine aa.loop (λy:Nat=>⟨DM.look [(3,.v (ti 0)),(6,.v (.sl (aB l))),(7,.v (ti l.length)),(8,.v (ti y))],cE [],2000,1000,[]⟩)
  (λy=>y<=l.length/\Nf (l.drop y)=Nf l) (λy=>l.length-y) 0 (Le.aD (o:=[]) ?_ ?_ ?_ ?_) (by simp) (λy hy=>?_)
 iterate 4(·simp)
 obtain⟨jQ,fg⟩:=hy;refine aa.ab ay fw [3,6,7,8,9] ?_;simp[Hc];refine aa.seq ?_;refine aa.cond rfl (λh=>?_) (λh=>?_)
 ·simp at h;refine aa.skip ?_;simp;refine aa.seq ?_;refine aa.block ?_;have hr:=cP h;obtain⟨p,hp⟩:∃p,l.getD y default=p:=⟨_,rfl⟩;rw[hp]at hr;refine aa.ab ay fw [3,5,6,7,8] ?_;simp[Hd,hr,h];refine aa.ab ay fw [3,5,6,7,8,14] ?_;simp[He];refine aa.cond rfl (λh2=>?_) (λh2=>?_)
  ·simp at h2;refine aa.ab ay fw [2] ?_;simp[Hf];refine aa.ret ?_;rw[XI h (by rw[hp];exact h2),hp]at fg;simp[AZ,fg]
  ·simp at h2;refine aa.skip ?_;simp;refine aa.dv ay fw [3,6,7,8] ?_;simp[Hg];rw[au (by omega)];refine⟨y+1,Le.aD (o:=[]) ?_ ?_ ?_ ?_,⟨by omega, ?_⟩,by omega⟩;iterate 4(·simp)
   ·rw[<-fg,UZ h (by rw[hp];exact h2)]
 ·simp at h;refine aa.exit ?_;simp;refine aa.ab ay fw [2] ?_;simp[d53r8];refine aa.ret ?_;have:l.drop y=[]:=Zby (by omega);rw[this]at fg;simp only[AZ];rw[<-fg];simp[Nf]
abbrev spec54:DM.Spec:=ct (λts=>∃a b,ts=[ti a,ti b]) (fun|[.int _ a,.int _ b]=>ti (qi a b)|_=>.bool false) true
abbrev spec53:DM.Spec:=ct (λts=>∃l:List Int,ts=[.sl (aB l)]/\l.length<=1000000) (fun|[.sl l]=>ti (Nf (fo l))|_=>.bool false) true
theorem ok54:aw Tryz.prog (aW [(79,spec54),(78,spec53)]):=by
 refine aw.cons (aw.cons aw.nil ?_) ?_
 ·rintro ts ⟨l,rfl,h⟩;have:=t53 l h;rw[<-H9 l]at this;exact⟨by simpa using t53 l h,λ_=>rfl⟩
 ·rintro ts ⟨a,b,rfl⟩;exact⟨t54 a b,λ_=>rfl⟩
theorem t33(a b c d e f:Int):aT Tryz.prog 52 [.agg [ti a,ti b,ti c],.agg [ti d,ti e,ti f]] (ti (Nf [qi a d,qi b e,qi c f])):=by
 have ay:=ok54;refine c33.ok (by simp) (aJ ?_);simp;refine aa.ab ay fw [2,3] ?_;simp[GY];refine aa.ab ay fw [4] ?_;simp[GZ];refine⟨⟨[qi a d,qi b e,qi c f],rfl,by simp⟩, ?_⟩;refine aa.ret ?_;simp[AY];rfl
def d28r0:List RO:=[
 o (.box (t 0)) 2 [],
 o (.bP (.cm (.v (.bool false)))) 4 []]
def yD:List RO:=[
 n 1 6,
 o (.bin .lss (t 6) (i 0)) 7 [0],
 m 7 8 [1],
 u 0 2 9 8 false [2],
 v 9 10 8 false [3,2],
 g (.len (t 10)) 11 8 false [4,2],
 g (.bin .gtr (t 11) (i 60)) 12 8 false [5,2],
 p 8 12 13 [2,6],
 m 13 14 [7,2],
 u 1 2 15 14 false [8],
 v 15 16 14 false [9,8],
 g (.len (t 16)) 17 14 false [10,8],
 w 1 18 14 false [8],
 g (.bin .neq (t 17) (t 18)) 19 14 false [11,12,8],
 p 14 19 20 [8,13],
 m 20 21 [14,8],
 u 2 2 22 21 false [15],
 v 22 23 21 false [16,15],
 g (.bin .lss (t 23) (i 0)) 24 21 false [17,15],
 p 21 24 25 [15,18],
 m 25 26 [19,15],
 u 2 2 27 26 false [20],
 v 27 28 26 false [21,20],
 g (.bin .gtr (t 28) (i 60000)) 29 26 false [22,20],
 p 26 29 30 [20,23],
 m 30 31 [24,20],
 u 0 2 32 31 false [25],
 v 32 33 31 false [26,25],
 w 1 34 31 false [25],
 g (.call 43 [(t 33),(t 34)]) 35 31 false [27,28,25,25],
 g (.un .not (t 35)) 36 31 false [29,25],
 p 31 36 37 [25,30]]
def d28r2:List RO:=[
 o (.bP (.cm (.v (.bool false)))) 4 []]
def d28r3:List RO:=[
 o (.bP (i 0)) 5 []]
def d28r4:List RO:=[
 n 5 38,
 n 1 39,
 b .lss 38 39 40 [0,1]]
def Uo:List RO:=[
 a 1 2 43 [],
 l 43 44 [0],
 n 5 45,
 x 1 44 45 46 [1,2],
 l 46 47 [3],
 o (.bin .lss (t 47) (i 1)) 48 [4],
 m 48 49 [5],
 u 1 2 50 49 false [6],
 v 50 51 49 false [7,6],
 w 5 52 49 false [6],
 g (.idxAddr 1 (t 51) (t 52)) 53 49 false [8,9,6],
 v 53 54 49 false [10,6],
 g (.bin .gtr (t 54) (i 60000)) 55 49 false [11,6],
 p 49 55 56 [6,12]]
def d28r6:List RO:=[
 o (.bP (.cm (.v (.bool false)))) 4 []]
def d28r7:List RO:=[
 n 5 41,
 o (.bin .add (t 41) (i 1)) 42 [0],
 m 42 5 [1,0,1]]
def d28r8:List RO:=[
 o (.bP (.cm (.v (.bool true)))) 4 []]
def d28:DC:=(j (y d28r0)
 (j (j (y yD)
 (.cond (.tmp 37) (j (y d28r2)
 .ret)
 .skip))
 (j (j (y d28r3)
 (.block 0 (.loop (j (j (y d28r4)
 (.cond (.tmp 40) .skip
 (.exit 0)))
 (j (.block 1 (j (y Uo)
 (.cond (.tmp 56) (j (y d28r6)
 .ret)
 .skip)))
 (y d28r7))))))
 (j (y d28r8)
 .ret))))
def Fa:List bN:=[.slot 4]
theorem c28 [Laid]:aQ Tryz.prog 21 57 d28 Fa:=⟨Tryz.f21,by kernel_rfl,by kernel_rfl,by kernel_rfl,by kernel_rfl,by kernel_rfl⟩
def GL:List RO:=[
 o (.bP (.cm (.v (.bool false)))) 4 []]
def AO:List RO:=[
 o (.bP (i 0)) 5 []]
def GM:List RO:=[
 n 5 6,
 n 0 7,
 o (.len (t 7)) 8 [1],
 b .lss 6 8 9 [0,2]]
def GN:List RO:=[
 n 0 12,
 n 5 13,
 x 3 12 13 14 [0,1],
 L 3 14 15 [2],
 n 1 16,
 o (.call 65 [(t 15),(t 16)]) 17 [3,4],
 o (.un .not (t 17)) 18 [5]]
def GO:List RO:=[
 o (.bP (.cm (.v (.bool false)))) 4 []]
def d45r5:List RO:=[
 n 5 10,
 o (.bin .add (t 10) (i 1)) 11 [0],
 m 11 5 [1,0,1]]
def d45r6:List RO:=[
 o (.bP (.cm (.v (.bool true)))) 4 []]
def d45:DC:=(j (y GL)
 (j (j (y AO)
 (.block 0 (.loop (j (j (y GM)
 (.cond (.tmp 9) .skip
 (.exit 0)))
 (j (.block 1 (j (y GN)
 (.cond (.tmp 18) (j (y GO)
 .ret)
 .skip)))
 (y d45r5))))))
 (j (y d45r6)
 .ret)))
def tT:List bN:=[.slot 4]
theorem c45 [Laid]:aQ Tryz.prog 43 19 d45 tT:=⟨Tryz.f43,by kernel_rfl,by kernel_rfl,by kernel_rfl,by kernel_rfl,by kernel_rfl⟩
def HC:List RO:=[
 o (.box (t 0)) 2 [],
 o (.bP (.cm (.v (.bool false)))) 4 []]
def tg:List RO:=[
 a 0 2 7 [],
 l 7 8 [0],
 o (.bin .lss (t 8) (i (-1))) 9 [1],
 m 9 10 [2],
 u 0 2 11 10 false [3],
 v 11 12 10 false [4,3],
 w 1 13 10 false [3],
 g (.bin .geq (t 12) (t 13)) 14 10 false [5,6,3],
 p 10 14 15 [3,7],
 m 15 16 [8,3],
 u 1 2 17 16 false [9],
 v 17 18 16 false [10,9],
 g (.len (t 18)) 19 16 false [11,9],
 w 1 20 16 false [9],
 g (.bin .neq (t 19) (t 20)) 21 16 false [12,13,9],
 p 16 21 22 [9,14],
 m 22 23 [15,9],
 u 2 2 24 23 false [16],
 v 24 25 23 false [17,16],
 g (.bin .lss (t 25) (i 1)) 26 23 false [18,16],
 p 23 26 27 [16,19],
 m 27 28 [20,16],
 u 2 2 29 28 false [21],
 v 29 30 28 false [22,21],
 g (.bin .gtr (t 30) (i 60000)) 31 28 false [23,21],
 w 31 32 28 false [24,21,21],
 u 2 2 33 32 true [25],
 v 33 34 32 true [26,25],
 g (.bin .neq (t 34) (i 1099511627776)) 35 32 true [27,25],
 g (.pick (t 32) (t 35) (.cm (.v (.bool false)))) 36 28 false [25,28,21],
 p 28 36 37 [21,29]]
def MX:List RO:=[
 o (.bP (.cm (.v (.bool false)))) 4 []]
def C6:List RO:=[
 o (.bP (i 0)) 5 []]
def d58r4:List RO:=[
 n 5 38,
 n 1 39,
 b .lss 38 39 40 [0,1]]
def d58r5:List RO:=[
 a 1 2 43 [],
 l 43 44 [0],
 n 5 45,
 x 1 44 45 46 [1,2],
 l 46 47 [3],
 m 47 6 (k [4] 4)]
def Bo:List RO:=[
 n 5 48,
 a 0 2 49 [],
 l 49 50 [1],
 b .eql 48 50 51 [0,2],
 m 51 52 [3],
 w 6 53 52 true [4],
 g (.bin .neq (t 53) (i 0)) 54 52 true [5,4],
 q 52 54 55 [4,6],
 m 55 56 [7,4],
 w 5 57 56 false [8],
 u 0 2 58 56 false [8],
 v 58 59 56 false [10,8],
 g (.bin .neq (t 57) (t 59)) 60 56 false [9,11,8],
 w 60 61 56 false [12,8,8],
 w 6 62 61 true [13],
 g (.bin .neq (t 62) (i (-1))) 63 61 true [14,13],
 g (.pick (t 61) (t 63) (.cm (.v (.bool false)))) 64 56 false [13,15,8],
 w 64 65 56 false [16,13,8],
 w 6 66 65 true [17],
 g (.bin .lss (t 66) (i 1)) 67 65 true [18,17],
 w 67 68 65 true [19,17,17],
 w 6 69 68 false [20],
 g (.bin .gtr (t 69) (i 60000)) 70 68 false [21,20],
 g (.pick (t 68) (.cm (.v (.bool true))) (t 70)) 71 65 true [20,22,17],
 g (.pick (t 65) (t 71) (.cm (.v (.bool false)))) 72 56 false [17,23,8],
 p 56 72 73 [8,24]]
def d58r7:List RO:=[
 o (.bP (.cm (.v (.bool false)))) 4 []]
def d58r8:List RO:=[
 n 5 41,
 o (.bin .add (t 41) (i 1)) 42 [0],
 m 42 5 [1,0,1]]
def d58r9:List RO:=[
 o (.bP (.cm (.v (.bool true)))) 4 []]
def d58:DC:=(j (y HC)
 (j (j (y tg)
 (.cond (.tmp 37) (j (y MX)
 .ret)
 .skip))
 (j (j (y C6)
 (.block 0 (.loop (j (j (y d58r4)
 (.cond (.tmp 40) .skip
 (.exit 0)))
 (j (.block 1 (j (y d58r5)
 (j (y Bo)
 (.cond (.tmp 73) (j (y d58r7)
 .ret)
 .skip))))
 (y d58r8))))))
 (j (y d58r9)
 .ret))))
def rD:List bN:=[.slot 4]
theorem c58 [Laid]:aQ Tryz.prog 65 74 d58 rD:=⟨Tryz.f65,by kernel_rfl,by kernel_rfl,by kernel_rfl,by kernel_rfl,by kernel_rfl⟩
def d39r0:List RO:=[
 o (.box (t 0)) 2 [],
 o (.box (t 1)) 3 [],
 o (.bP (.cm (.v (.bool false)))) 4 []]
def d39r1:List RO:=[
 a 0 2 5 [],
 l 5 6 [0],
 a 0 3 7 [],
 l 7 8 [2],
 b .neq 6 8 9 [1,3]]
def d39r2:List RO:=[
 a 0 2 10 [],
 l 10 11 [0],
 a 0 3 12 [],
 l 12 13 [2],
 b .lss 11 13 14 [1,3],
 m 14 4 (k [4] 4)]
def d39r3:List RO:=[
 a 1 2 15 [],
 l 15 16 [0],
 a 1 3 17 [],
 l 17 18 [2],
 b .neq 16 18 19 [1,3]]
def d39r4:List RO:=[
 a 1 2 20 [],
 l 20 21 [0],
 a 1 3 22 [],
 l 22 23 [2],
 b .lss 21 23 24 [1,3],
 m 24 4 (k [4] 4)]
def d39r5:List RO:=[
 a 2 2 25 [],
 l 25 26 [0],
 a 2 3 27 [],
 l 27 28 [2],
 b .lss 26 28 29 [1,3],
 m 29 4 (k [4] 4)]
def d39:DC:=(j (y d39r0)
 (j (j (y d39r1)
 (.cond (.tmp 9) (j (y d39r2)
 .ret)
 .skip))
 (j (j (y d39r3)
 (.cond (.tmp 19) (j (y d39r4)
 .ret)
 .skip))
 (j (y d39r5)
 .ret))))
def Fb:List bN:=[.slot 4]
theorem c39 [Laid]:aQ Tryz.prog 47 30 d39 Fb:=⟨Tryz.f47,by kernel_rfl,by kernel_rfl,by kernel_rfl,by kernel_rfl,by kernel_rfl⟩
def Ho:List RO:=[
 o (.bP (i 0)) 4 []]
def vu:List RO:=[
 n 0 5,
 o (.bin .geq (t 5) (i 1099511627776)) 6 [0],
 m 6 7 [1],
 w 1 8 7 false [2],
 g (.bin .geq (t 8) (i 1099511627776)) 9 7 false [3,2],
 p 7 9 10 [2,4],
 m 10 11 [5,2],
 w 0 12 11 false [6],
 w 1 13 11 false [6],
 g (.bin .add (t 12) (t 13)) 14 11 false [7,8,6],
 g (.bin .geq (t 14) (i 1099511627776)) 15 11 false [9,6],
 p 11 15 16 [6,10]]
def Hp:List RO:=[
 o (.bP (i 1099511627776)) 4 []]
def Hq:List RO:=[
 n 0 17,
 n 1 18,
 b .add 17 18 19 [0,1],
 m 19 4 [2,0,1,2]]
def d36:DC:=(j (y Ho)
 (j (j (y vu)
 (.cond (.tmp 16) (j (y Hp)
 .ret)
 .skip))
 (j (y Hq)
 .ret)))
def rC:List bN:=[.slot 4]
theorem c36 [Laid]:aQ Tryz.prog 28 20 d36 rC:=⟨Tryz.f28,by kernel_rfl,by kernel_rfl,by kernel_rfl,by kernel_rfl,by kernel_rfl⟩
def F5(s aV:Int)(a:bn):Prop:=¬(a.f<0\/a.f>a.t\/a.t>=s\/a.term<0\/a.term>=aV\/a.cost<0\/a.cost>=1099511627776\/(a.f=a.t/\a.cost=0))
instance(s aV:Int)(a:bn):Decidable (F5 s aV a):=by unfold F5;infer_instance
def before(a b:bn):Prop:=a.f<b.f\/(a.f=b.f/\(a.t<b.t\/(a.t=b.t/\a.term<b.term)))
instance(a b:bn):Decidable (before a b):=by unfold before;infer_instance
def L9(f:List Int)(i:Nat):Prop:=0<=f.getD i default/\f.getD i default<=1099511627776
def Lc(l:aL)(aV:Int)(i:Nat):Prop:=F5 l.aN aV (l.aC.getD i default)/\(i=0\/before (l.aC.getD (i-1) default) (l.aC.getD i default))
def qC(l:aL)(aV:Int):Prop:=(1<=l.aN/\(l.final.length:Int)=l.aN)/\(∀i,i<l.final.length->L9 l.final i)/\∀i,i<l.aC.length->Lc l aV i
instance(f:List Int)(i:Nat):Decidable (L9 f i):=by unfold L9;infer_instance
instance(l:aL)(aV:Int)(i:Nat):Decidable (Lc l aV i):=by unfold Lc;infer_instance
instance(l:aL)(aV:Int):Decidable (qC l aV):=by unfold qC;infer_instance
theorem t39(a b:bn):aT Tryz.prog 47 [.agg a.enc,.agg b.enc] (.bool (decide (before a b))):=by
 have ay:=okE;obtain⟨v,hv⟩:∃v,decide (before a b)=v:=⟨_,rfl⟩;rw[hv];refine c39.ok (by simp) (aJ ?_);simp[bn.enc];refine aa.ab ay fw [2,3] ?_;simp[d39r0];refine aa.seq ?_;refine aa.ab ay fw [2,3,9] ?_;simp[d39r1];refine aa.cond rfl (λh=>?_) (λh=>?_)
 ·simp at h;refine aa.ab ay fw [4] ?_;simp[d39r2];refine aa.ret ?_;simp[Fb,<-hv,before,h]
 ·simp at h;refine aa.skip ?_;simp;refine aa.seq ?_;refine aa.ab ay fw [2,3,19] ?_;simp[d39r3];refine aa.cond rfl (λh2=>?_) (λh2=>?_)
  ·simp at h2;refine aa.ab ay fw [4] ?_;simp[d39r4];refine aa.ret ?_;simp[Fb,<-hv,before,h,h2]
  ·simp at h2;refine aa.skip ?_;simp;refine aa.ab ay fw [4] ?_;simp[d39r5];refine aa.ret ?_;simp[Fb,<-hv,before,h,h2]
abbrev spec39:DM.Spec:=ct (λts=>∃a b:bn,ts=[.agg a.enc,.agg b.enc]) (fun|[.agg x,.agg y]=>.bool (decide (before (lK x) (lK y)))|_=>.bool false) true
theorem ok39:aw Tryz.prog (aW [(47,spec39)]):=by
 refine aw.cons aw.nil ?_;rintro ts ⟨a,b,rfl⟩;exact⟨by simpa using t39 a b,λ_=>rfl⟩
theorem xD{n:Int}(h:0<=n/\n<18446744073709551616):IntKind.u64.wrap n=n:=by
 unfold IntKind.wrap;simp[IntKind.bits,IntKind.signed];omega
theorem K9{n:Nat}(h:n<4294967296):n % 2^IntKind.u64.bits&&&4294967295 % 2^IntKind.u64.bits=n:=by
 have e:IntKind.u64.bits=64:=rfl;rw[e,Zck (show n<2^64 by omega),show 4294967295 % 2^64=2^32-1 by decide,Nat.and_two_pow_sub_one_eq_mod,Zck (by omega)]
theorem t60(x y:Nat)(hx:x<4294967296)(hy:y<4294967296):aT Tryz.prog 95 [.int .u64 x,.int .u64 y] (.eD [.int .u64 0,.int .u64 ((x*y:Nat):Int)]):=by
 have ay:=okE;refine c60.ok (by simp) (aJ ?_);simp;refine aa.ab ay fw [0,1] ?_;simp[Hy];obtain⟨p,hp⟩:∃p,x*y=p:=⟨_,rfl⟩;have PA:p<18446744073709551616:=by
  rw[<-hp]
  calc x*y<=4294967295*4294967295:=ZcQ (by omega) (by omega)
   _<_:=by decide
 have hpi:(x:Int)*y=p:=by rw[<-hp];simp
 have e1:=xD (n:=x) (by omega);have e2:=xD (n:=y) (by omega);have e3:=xD (n:=p) (by omega);have b:IntKind.u64.bits=64:=rfl;have e0:IntKind.u64.wrap 0=0:=rfl;have d1:(x:Int)/4294967296=0:=by omega
 have d2:(y:Int)/4294967296=0:=by omega
 have d3:(p:Int)/4294967296<4294967296:=by omega
 obtain⟨q,hq⟩:∃q:Nat,(p:Int)/4294967296=q:=⟨p/4294967296,by omega⟩;have hqb:q<4294967296:=by omega
 have e4:=xD (n:=q) (by omega);have d4:(q:Int)/4294967296=0:=by omega
 rw[hpi];refine aa.ab ay fw [0,1,6] ?_;simp[yA,K9 hx,e1];refine aa.ab ay fw [0,1,6,7] ?_;simp[Hz,b,d1];refine aa.ab ay fw [0,1,6,7,8] ?_;simp[HA,K9 hy,e2];refine aa.ab ay fw [0,1,6,7,8,9] ?_;simp[MT,b,d2];refine aa.ab ay fw [0,1,6,7,8,9,10] ?_;simp[MU,hpi,e3];refine aa.ab ay fw [0,1,6,7,8,9,10,11] ?_;simp[d60r6,e0,b,hq,e4];refine aa.ab ay fw [0,1,6,7,8,9,10,11,12] ?_;simp[d60r7,K9 hqb,e4];refine aa.ab ay fw [0,1,6,7,8,9,10,11,12,13] ?_;simp[d60r8,b,d4];refine aa.ab ay fw [0,1,6,7,8,9,10,11,12,13] ?_;simp[d60r9,e0,e4];refine aa.ab ay fw [0,1,4] ?_;simp[Um,e0,b,d4];refine aa.ab ay fw [4,5] ?_;simp[Un,hpi,e3];refine aa.ret ?_;simp[tU]
abbrev spec60:DM.Spec:=ct (λts=>∃x y:Nat,ts=[.int .u64 x,.int .u64 y]/\x<4294967296/\y<4294967296) (fun|[.int _ x,.int _ y]=>.eD [.int .u64 0,.int .u64 (x*y)]|_=>.bool false) false
theorem ok60:aw Tryz.prog (aW [(95,spec60)]):=by
 refine aw.cons aw.nil ?_;rintro ts ⟨x,y,rfl,h1,h2⟩;exact⟨by simpa using t60 x y h1 h2,λh=>by cases h⟩
theorem t46(x y:Nat)(hx:x<4294967296)(hy:y<4294967296):aT Tryz.prog 71 [.int .u64 x,.int .u64 y] (.eD [.int .u64 0,.int .u64 ((x*y:Nat):Int)]):=by
 have ay:=ok60;refine c46.ok (by simp) (aJ ?_);simp;refine aa.ab ay fw [0,1] ?_;simp[GP];refine aa.seq ?_;refine aa.cond rfl (λh=>by cases h) (λh=>?_);refine aa.skip ?_;simp;refine aa.ab ay fw [8,9] ?_;simp[GQ];refine⟨⟨x,y,⟨rfl,rfl⟩,hx,hy⟩, ?_⟩;refine aa.ab ay fw [4,5] ?_;simp[GR];refine aa.ret ?_;simp[pB]
abbrev spec46:DM.Spec:=ct (λts=>∃x y:Nat,ts=[.int .u64 x,.int .u64 y]/\x<4294967296/\y<4294967296) (fun|[.int _ x,.int _ y]=>.eD [.int .u64 0,.int .u64 (x*y)]|_=>.bool false) false
theorem ok46:aw Tryz.prog (aW [(71,spec46)]):=by
 refine aw.cons aw.nil ?_;rintro ts ⟨x,y,rfl,h1,h2⟩;exact⟨by simpa using t46 x y h1 h2,λh=>by cases h⟩
theorem t29(v:Int)(n:Nat)(h1:1<=n)(hn:n<=10000000):lI Tryz.prog 48 [.sl (aB [v]),ti n] 3 1 (aB (List.replicate n v)):=by
 have ay:=ok46;refine c29.okF (by simp) (aJ ?_);simp;refine aa.ab ay fw [0,1] ?_;simp[d29r0];refine aa.seq ?_;refine aa.ab ay fw [0,1,10] ?_;simp[d29r1];refine aa.cond rfl (λh=>by simp at h;omega) (λh=>?_);refine aa.skip ?_;simp;have e1:=xD (n:=1) (by omega);have e2:=xD (n:=n) (by omega);refine aa.ab ay fw [0,1,5,6] ?_;simp[d29r3,e1,e2];refine⟨⟨1,n,⟨rfl,rfl⟩,by omega,by omega⟩, ?_⟩;refine aa.seq ?_;refine aa.ab ay fw [0,6,26] ?_;simp[d29r4];refine aa.cond rfl (λh=>by simp at h;omega) (λh=>?_);refine aa.skip ?_;simp;refine aa.ab ay fw [0,7] ?_;have w1:IntKind.i64.wrap (n:Int)=n:=au (by omega);simp[d29r6,w1];refine⟨by simp[cG];omega, ?_⟩;refine aa.ab ay fw [7,8] ?_;have hrp:∀(k:Nat),aB [v]=[[ti v]]:=λ_=>rfl;obtain⟨n',rfl⟩:∃n',n=n'+1:=⟨n-1,by omega⟩;simp[d29r7,aB,Za6];refine aa.seq ?_;refine aa.block ?_;refine aa.loop (λy:Nat=>⟨DM.look [(7,.bk 1227 0),(8,.v (ti (y+1:Nat)))],cE [(1227,.arr 0 3 1 (List.replicate (y+1) [ti v]++List.replicate (n'-y) [ti 0]))],3000,1000,[]⟩)
  (λy=>y<=n') (λy=>n'-y) 0 (Le.aD ?_ ?_ ?_ ?_) (by simp) (λy hy=>?_)
 iterate 4(·simp)
 refine aa.seq ?_;refine aa.ab ay fw [7,8,37] ?_;simp[d29r8];refine aa.cond rfl (λh=>?_) (λh=>?_)
 ·simp at h;refine aa.skip ?_;simp;refine aa.block ?_;refine aa.dv ay fw [7,8] ?_;have q1:((y:Int)+1<=(y:Int)+1+((n'-y:Nat):Int))=True:=by simp;omega
  simp[d29r9,q1];obtain⟨k,hk⟩:∃k,min (n'-y) (y+1)=k:=⟨_,rfl⟩;have k1:min ((↑y+1+((n'-y:Nat):Int)).toNat-(y+1)) (y+1)=k:=by omega
  have k2:min (y+1) ((↑y+1+((n'-y:Nat):Int)).toNat-(y+1))=k:=by omega
  rw[k1,k2];have e:List.drop (y+1+k) (List.replicate (y+1) [ti v]++List.replicate (n'-y) [ti 0])=List.replicate (n'-(y+k)) [ti 0]:=by
   rw[List.drop_append];simp;omega
  rw[e];refine⟨by omega,y+k,Le.aD ?_ ?_ ?_ ?_,by omega,by omega⟩
  ·simp
  ·simp
  ·simp;omega
  ·simp;rw[au (by omega)];omega
 ·simp at h;have:y=n':=by omega
  subst this;refine aa.exit ?_;simp;refine aa.ab ay fw [4] ?_;simp[Ug];refine aa.ret ?_;exact .inr ⟨1227,0,by simp,by simp[Za6]⟩
def pre29(ts:List T):Prop:=∃(v:Int) (n:Nat),ts=[.sl (aB [v]),ti n]/\1<=n/\n<=10000000
def fn29:List T->List (List T)
 |[.sl [[v]],.int _ n]=>List.replicate n.toNat [v]
 |_=>[]
theorem Ik(l:List Int)(i:Nat)(v:Int):(aB l).set i [ti v]=aB (l.set i v):=by simp[aB,ZbJ]
def jF(a b:Int):Int:=if 1099511627776<=a\/1099511627776<=b\/1099511627776<=a+b then 1099511627776 else a+b
theorem t36(a b:Int)(ha: -1000000000000000000<=a)(hb: -1000000000000000000<=b):aT Tryz.prog 28 [ti a,ti b] (ti (jF a b)):=by
 have ay:=okE;refine c36.ok (by simp) (aJ ?_);simp;refine aa.ab ay fw [0,1] ?_;simp[Ho];refine aa.seq ?_;refine aa.bZ ay fw [(0,.v (ti a)),(1,.v (ti b)),(16,.v (.bool (decide (1099511627776<=a\/1099511627776<=b\/1099511627776<=a+b))))] ?_ ?_
 ·by_cases q1:1099511627776<=a
  ·simp[vu,q1]
  ·by_cases q2:1099511627776<=b
   ·simp[vu,q1,q2]
   ·have w:IntKind.i64.wrap (a+b)=a+b:=au (by omega);by_cases q3:1099511627776<=a+b
    ·simp[vu,q1,q2,w,q3]
    ·simp[vu,q1,q2,w,q3]
 refine aa.cond rfl (λh=>?_) (λh=>?_)
 ·simp only[decide_eq_true_eq]at h;refine aa.ab ay fw [4] ?_;simp[Hp];refine aa.ret ?_;simp[rC,jF,h]
 ·simp only[decide_eq_false_iff_not]at h;refine aa.skip ?_;simp;refine aa.ab ay fw [4] ?_;simp[Hq];refine aa.ret ?_;rw[au (by omega)];simp only[jF,h,if_false];simp[rC]
abbrev U4:DM.Spec:=ct (λts=>∃a b:Int,ts=[ti a,ti b]/\-1000000000000000000<=a/\-1000000000000000000<=b) (fun|[.int _ a,.int _ b]=>ti (jF a b)|_=>.bool false) true
theorem XN:aw Tryz.prog (aW [(28,U4)]):=by
 refine aw.cons aw.nil ?_;rintro ts ⟨a,b,rfl,h1,h2⟩;exact⟨t36 a b h1 h2,λ_=>rfl⟩
end Go.Proofs
namespace Go.Proofs
open Go.DM
end Go.Proofs
