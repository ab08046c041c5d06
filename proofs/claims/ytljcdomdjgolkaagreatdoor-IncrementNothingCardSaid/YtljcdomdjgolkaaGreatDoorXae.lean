/- Part of the proof. Conditions: none. -/
import Derived.Test.YtljcdomdjgolkaaGreatDoorXad
import Derived.Shelf.SlSortCmp.NoneTotal
import Derived.ChangeArms
import Derived.ChangeStays
import Derived.ChangeSame
import Derived.RowKit
import Derived.OpenShut
import Derived.Test.YtljcdomdjgolkaaGreatDoorXac
import Derived.Test.YtljcdomdjgolkaaGreatDoorProg
import Derived.KernelRfl
set_option linter.unusedSectionVars false
set_option linter.unusedSimpArgs false
set_option linter.unusedVariables false
set_option maxHeartbeats 1000000
set_option maxRecDepth 100000
namespace Go.DM
open Go.RowKit
variable [Laid]
theorem Rl{base:Nat}{W M:Nat->Prop}{w0 w:World}{o1:aU}{L1:Loc}(pq:bK base W M w0 o1 w L1){r k:Nat}{cs:List DV}{d:DV}(lP:o1 r=some (.box cs))
  (hd:∀c f xs,w.heap[L1.gW r]? =some (.cells c f (0,0))->c.toList=xs->∀x,xs[k]? =some x->iX W o1 L1 w (cZ o1 r (.box (cs.set k d))) L1 w->av w W (cZ o1 r (.box (cs.set k d))) L1 d x):
  bK base W M w0 (cZ o1 r (.box (cs.set k d))) w L1/\iX W o1 L1 w (cZ o1 r (.box (cs.set k d))) L1 w:=by
 have wO:∀{V:Nat->Prop} b,WW V (cZ o1 r (.box (cs.set k d))) L1 b->WW V o1 L1 b:=by
  intro V b hb;rcases hb with hb|⟨r',o,ff,hb⟩
  ·exact .inl hb
  ·rcases dN ff with⟨rfl,rfl⟩|⟨_,ff⟩
   ·exact .inr ⟨r',_,lP,hb⟩
   ·exact .inr ⟨r',o,ff,hb⟩
 have wv:iX W o1 L1 w (cZ o1 r (.box (cs.set k d))) L1 w:=by
  refine⟨cb.refl _ _,λb _ h=>wO b h,λr' o' ff sS=>?_,λr' ver e' fY rows ff=>?_,rfl⟩
  ·by_cases he:r'=r
   ·subst he;rw[lP]at ff;cases ff;exact⟨rfl,.box (cs.set k d),by simp[cZ],rfl⟩
   ·exact⟨rfl,o',k9 he ff,rfl⟩
  ·have he:r'≠r:=λhe=>by rw[he,lP]at ff;cases ff
   exact⟨ver,e',fY,rows,k9 he ff,Zae _,λ_=>⟨rfl,rfl,rfl⟩⟩
 refine⟨⟨pq.fr,λr' o ff=>?_,λp p' o o' b bG h1 h2 hb=>?_,λp o b hp hb=>?_,pq.under,pq.gl.aC wv.keeps.toKeepsC wv.sub⟩,wv⟩
 ·rcases dN ff with⟨rfl,rfl⟩|⟨bG,ff⟩
  ·obtain⟨c,f,bM,eI,hm⟩:=pq.ob r' _ lP;exact⟨c,f,bM,wV _ _ _ _ (aK.ee wv _ _ eI) λy hy=>hd c f _ bM rfl y hy wv,hm⟩
  ·have sS:=pq.ob r' o ff;cases o with
   |box qI=>
    obtain⟨c',f',AL,AM,Ec⟩:=sS;exact⟨c',f',AL,aK.ee wv qI _ AM,Ec⟩
   |map shs agg c es=>
    obtain⟨arr,AL,AM,q1,q2,q3,Ec⟩:=sS;exact⟨arr,AL,bj.ee wv es _ AM,q1,q2,q3,Ec⟩
   |iter m s sn l=>
    obtain⟨AL,Jn,Ec⟩:=sS;exact⟨AL,(wv.mp m Jn).2,Ec⟩
   |arr ver e' fY rows=>
    obtain⟨g1,g2,g3,g4⟩:=sS;refine⟨g1,g2,g3, ?_⟩;rcases g4 with g4|⟨g,cap,cur,hv,hp,hh,k1,k2,k3,k4⟩
    ·exact .inl g4
    ·exact .inr ⟨g,cap,cur,hv,hp,hh,k1,k2,k3,aP.aC (cb.refl (WW W o1 L1) w).toKeepsC (λb _ hb=>wO b hb) _ _ k4⟩
 ·have key:∀{p o},cZ o1 r (.box (cs.set k d)) p=some o->∃o2,o1 p=some o2/\L1.own p o=L1.own p o2:=by
   intro p o hp;rcases dN hp with⟨rfl,rfl⟩|⟨_,hp⟩
   ·exact⟨_,lP,rfl⟩
   ·exact⟨o,hp,rfl⟩
  obtain⟨x1,y1,z1⟩:=key h1;obtain⟨x2,y2,z2⟩:=key h2;rw[z1]at hb;rw[z2];exact pq.apart p p' x1 x2 b bG y1 y2 hb
 ·rcases dN hp with⟨rfl,rfl⟩|⟨_,hp⟩
  ·exact pq.outer p _ b lP hb
  ·exact pq.outer p o b hp hb
theorem OU{rows:List (List T)}{sz n:Nat}(h:∀x∈rows,x.length=sz):(rows.take n).flatten=rows.flatten.take (n*sz):=by
 induction rows generalizing n with
 |nil=>simp
 |cons r rs ih=>
  cases n with
  |zero=>simp
  |succ n=>
   have hr:r.length=sz:=h r (by simp);have e1:r.take ((n+1)*sz)=r:=Za3 (by rw[hr,Nat.add_mul];omega);have e2:(n+1)*sz-sz=n*sz:=by rw[Nat.add_mul];omega
   rw[ZbY,Zbe,Zbe,ZcI,hr,e1,e2,ih λx hx=>h x (by simp[hx])]
theorem Le.cut{tm:Nat->DV}{ob:aU}{nxt low:Nat}{td:List (List T)}(r:Nat)(k:Nat){cs:List DV}{q ver n e sz:Nat}{rows:List (List T)}(hr:ob r=some (.box cs))(hk:cs[k]? =some (.sP q ver 0 n))
  (hq:ob q=some (.arr ver e sz rows)):
  Le ⟨tm,ob,nxt,low,td⟩ ⟨tm,cZ (cZ ob q (.arr (ver+1) e sz (rows.take n))) r (.box (cs.set k (.bk q (ver+1)))),nxt,low,td⟩:=by
 intro κ nt a w L h;have hrq:r≠q:=λe=>by rw[e,hq]at hr;cases hr
 obtain⟨W,base,M,w0,dI,h0⟩:=h.r.ex;have hO:=h0.o;obtain⟨c,f,bM,eI,hm⟩:=hO.ob r _ hr;obtain⟨x,hx⟩:=tS _ _ _ _ eI hk;have Cg:=wW _ _ _ _ _ eI hk hx;simp only[av]at Cg;obtain⟨_,ver',e',fY,di,ga,_,hv⟩:=Cg;rw[hq]at ga;cases ga;obtain⟨Qe,p,cap,p2,sQ,Mu,Mn⟩:=hv rfl;simp only[Zb1,Zcn,ZaY]at Qe Mu Mn;obtain⟨gB,hlen,uA,kl⟩:=hO.ob q _ hq;have pb:aO (L.sl q)=aO x:=by
  rw[sQ,Mu];by_cases h0:cap=0
  ·subst h0;cases p<;>cases p2<;>simp[aO]
  ·rw[Mn (by omega)];cases p<;>simp[aO,h0,Addr.add]
 have step:∃xs,aP w (WW W ob L) (rows.take n).flatten xs/\(((rows.take n).length+([]:List (List T)).length=0/\∃a:Option Addr,x=.slice a 0 0)\/∃g cap cur,x=.slice (some ⟨g,0,none⟩) ((rows.take n).length+([]:List (List T)).length) cap/\0<cap/\w.heap[g]? =some (.cells cur e (0,0))/\(rows.take n).length+([]:List (List T)).length<=cap/\cap<=maxLen/\cur.size=cap*sz/\
     cur.toList.take (((rows.take n).length+([]:List (List T)).length)*sz)=xs++[]):=by
  have hl:(rows.take n).length=n:=by rw[Zaw];omega
  rcases kl with⟨rfl,a0,Xw⟩|⟨g,cap',cur,h1,h2,h3,h4,h5,h6,h7⟩
  ·simp only[Zcc]at Qe;obtain rfl:n=0:=by omega
   rw[sQ]at Xw;simp only[Value.slice.injEq]at Xw;obtain⟨rfl,_,rfl⟩:=Xw;exact⟨[],by simp[aP],.inl ⟨by simp,p2,by rw[Mu]⟩⟩
  ·rw[sQ]at h1;simp only[Value.slice.injEq]at h1;obtain⟨rfl,_,rfl⟩:=h1;have:=Mn h2;subst this;refine⟨cur.toList.take (n*sz), ?_,.inr ⟨g,cap,cur,by rw[Mu,hl];simp[Addr.add],h2,h3,by simp only[hl,Zcc];omega,h5,h6,by rw[hl];simp⟩⟩;rw[OU hlen];have:=aP.take (n*sz) h7;rw[Zcw,ZcO (ZaM _ Qe)]at this;exact this
 obtain⟨xs,hxs,qJ⟩:=step;obtain⟨pq,hA⟩:=pc (ys:=[]) (rows:=rows.take n) (ver':=ver+1) (v:=x) (v':=x) (w':=w) (vs:=[]) hO gB (λy hy=>hlen y (by simp only[ZaJ]at hy;exact Zav hy)) (.inr ⟨hq,pb,by omega⟩) hxs (by simp[aP]) qJ
  ⟨rfl,rfl,rfl,Zae _,λ_ _ _=>rfl⟩ (λb hb=>.inl hb) (Zae _)
 simp only[ZaJ]at pq hA;obtain⟨o1,GP⟩:∃o1,cZ ob q (.arr (ver+1) e sz (rows.take n))=o1:=⟨_,rfl⟩;have nL:bR ob (some (q,.arr (ver+1) e sz (rows.take n)))=o1:=GP;rw[nL]at pq hA;obtain⟨L1,OM⟩:∃L1,L.gD q x=L1:=⟨_,rfl⟩;rw[OM]at pq hA;have lP:o1 r=some (.box cs):=by rw[<-GP];exact k9 hrq hr
 have hq1:o1 q=some (.arr (ver+1) e sz (rows.take n)):=by rw[<-GP];simp[cZ]
 obtain⟨ME,wv⟩:=Rl (k:=k) (d:=.bk q (ver+1)) pq lP (λc' f' jJ Ab fZ y hy wv=>by
  have hb:L1.gW r=L.gW r:=by rw[<-OM];rfl
  rw[hb,bM]at Ab;cases Ab;rw[<-fZ,hx]at hy;cases hy;simp only[av];refine⟨⟨_,_,_,Mu⟩,ver+1,e,sz,rows.take n,k9 (Ne.symm hrq) hq1,Zae _,λ_=>?_⟩;rw[<-OM];simp[Loc.gD])
 have oG:=dI.sub;have wi:∀r',nxt<=r'->cZ o1 r (.box (cs.set k (.bk q (ver+1)))) r'=none:=λr' ff=>by
  have hn:=h.fresh r' ff;simp only at hn;have e1:r'≠r:=λe=>by rw[e,hr]at hn;cases hn
  have e2:r'≠q:=λe=>by rw[e,hq]at hn;cases hn
  rw[<-GP];simp only[cZ];rw[if_neg e1,if_neg e2];exact hn
 rw[GP];exact⟨L1,⟨⟨W,base,M,w0,dI,h0.size,λt=>av.ee wv _ _ (av.ee hA _ _ (h0.tmps t)),ME⟩,iX.comp (iX.comp h.r.ee hA oG.1 oG.2) wv oG.1 oG.2,h.r.defers,h.r.bg,⟨_,wi⟩⟩,wi,h.low,h.it⟩
end Go.DM
namespace Go.DM
open Go.RowKit
variable [Laid]
section
variable{P:Program}
structure EH(P:Program)(f:FuncId)(args:List DV)(objs:aU)(N N':Nat)(qj:DV->aU->Prop):Prop where
 entry:Entry P f
 le:N<=N'
 none:∀val aA,qj val aA->(∀r,r<N->objs r=none->aA r=none)/\∀r,N'<=r->aA r=none
 run:∀(base:Nat) (W M:Nat->Prop) (w0 w:World) (L:Loc) (vals:Array Value),bK base W M w0 objs w L->km w W objs L args vals.toList->
  Calls P f vals w λe w'=>∃v L' val aA,e=.returned v/\qj val aA/\bK base W M w0 aA w' L'/\iX W objs L w aA L' w'/\av w' W aA L' val v
def finN(t:Nat)(qj:DV->aU->Prop):Exit->kW->Prop
 |.normal,st|.ret,st=>qj (st.tmps t) st.objs
 |_,_=>False
theorem aQ.okNs{f:FuncId}{nt:Nat}{d:DC}{t:Nat}(h:aQ P f nt d [.slot t]){args:List DV}{objs:aU}{qj:DV->aU->Prop}{N:Nat}(hN:∀r,N<=r->objs r=none)(hlen:args.length<=nt)
  {N':Nat} (hle:N<=N') (lQ:∀val aA,qj val aA->(∀r,r<N->objs r=none->aA r=none)/\∀r,N'<=r->aA r=none)
  (k:dO objs N->aa P nt d (finN t qj) ⟨look (args.zipIdx.map λp=>(p.2,p.1)),over [] objs,N,N,[]⟩):EH P f args objs N N' qj:=by
 have As:=h.entry;obtain⟨fn,wo,rfl,h3,hr,_⟩:=h;obtain⟨c,hb,hc⟩:=Zab.1 h3;refine⟨As,hle,lQ,λbase W M w0 w L vals hO Od=>?_⟩;have k:=C4 (k (Da hO hN));have hl:=Od.1;simp only[ZaU]at hl;have u0:Rel ⟨W,objs,L,w,base,M,w0,none,none⟩ fn.ntmps (yn args objs N) {tmps:=vals++Array.replicate (fn.ntmps-vals.size) Go.undef,defers:=[]} w L:=by
  refine⟨⟨⟨W,base,M,w0,⟨rfl,rfl,rfl,rfl,rfl⟩,by simp;omega,λk=>?_,hO⟩,
   iX.cd (cb.refl _ _),⟨[],rfl,ZbT,(λ_ h=>by cases h),λ_=>rfl⟩,λ_=>ZaC hO.fr.hZ hO.fr.size,⟨N,hN⟩⟩,hN,hN,λh=>by cases h⟩
  simp only[yn];cases hk:args[k]? with
  |some x=>
   have hv:∃v,vals.toList[k]? =some v:=by
    have:k<vals.size:=by rw[hl];exact(Zas.1 hk).1
    exact⟨vals[k],by simp[this]⟩
   obtain⟨v,hv⟩:=hv;simp only[oH hv,JZ];exact Od.2 k x v hk hv
  |none=>
   have zf:vals.size<=k:=by
    have:=ZbF.1 hk;omega
   simp only[JZ,av,oI zf]
 refine callsIn_wide.1 (callsIn_of_wp_marks (n:=0) wo hb trivial ?_);refine wpIn_mono (k.run c hc 0 _ _ _ _ ⟨λJ hJ=>(by cases hJ),λl hl=>(by cases hl)⟩ u0) ?_;rintro e a' w' ⟨df,L',q,r'⟩;have done:qj (df.tmps t) df.objs->LeavesInM Fence.wide 0 P fn a'.tmps (λe w'=>∃v L' val aA,e=.returned v/\qj val aA/\bK base W M w0 aA w' L'/\iX W objs L w aA L' w'/\av w' W aA L' val v) a'.defers .returning w':=by
  intro Wz;obtain⟨Ds,h1,h2,h3,_⟩:=r'.r.defers;rw[h1];refine leaves (κ:=⟨W,objs,L,w,base,M,w0,none,none⟩) rfl ?_ Ds a' w' L' r'.r h1 h2 h3;intro a2 w2 L2 h4;obtain⟨W',MD,M',w0',dI,h0⟩:=h4.ex;obtain⟨_,e1,e2,e3,e4⟩:=dI
  replace h0:R0 base W M w0 fn.ntmps df.tmps df.objs a2 w2 L2:=by rw[e1,e2,e3,e4]at h0;exact h0
  exact⟨_,vu hr,_,L2,df.tmps t,df.objs,rfl,Wz,h0.o,h4.ee,h0.tmps t⟩
 cases e with
 |normal=>exact done q
 |ret=>exact done q
 |_=>exact q.elim
section
variable{nt:Nat}{Γ:Env}{Q:Exit->kW->Prop}{tm:Nat->DV}{ob:aU}{nxt low:Nat}{td:List (List T)}
end
end
end Go.DM
namespace Go.DM
open Go.RowKit
variable [Laid]
section
variable{P:Program}{nt:Nat}{Γ:Env}{κ:Ctx}{ro:Option Nat}{n:Nat}
theorem AS(wq:κ.Good P){ops:Array Oper}{i:Nat}{o:Oper}{f:FuncId}{args:List bp}{dst:Option Nat}{af:List Nat}(hi:ops[i]? =some o)(hco:cK P ops o=some ⟨.call f args,dst,none,af,none⟩)(yg:kf nt ⟨.call f args,dst,none,af,none⟩=true)
  {s1:RS} {a1:Act} {w1:World} {L1:Loc} (R1:dH κ nt s1 a1 w1 L1) {N N':Nat} {qj:DV->aU->Prop} (bd:EH P f (args.map (·.ev s1.tmps)) s1.objs N N' qj) {K:Act->World->Prop} {Q:Exit->Act->World->Prop}
  (hK:∀a' w' L' val ob',qj val ob'->dH κ nt ⟨b7 s1.tmps dst val,ob',s1.todo⟩ a' w' L'->K a' w'):wpOpIn (iK κ.ro) n P ops Q i K a1 w1:=by
 obtain⟨hd,hgd,jQ,_⟩:=fj (r:=⟨.call f args,dst,none,af,none⟩) hco;rw[wpOpIn];simp only[hi];rw[CU (b:=true) hgd R1 rfl];simp only[if_true];refine⟨mF _ w1 _, ?_⟩;have hd':cE P o=some (.call f args):=hd;have y7:∀c,o.op≠ .defer c:=pX hd';rw[show(iK κ.ro).round=κ.ro from rfl,Oper.semAt_eq κ.ro _ _ y7];obtain⟨c,ho,bM⟩:=ep hd' (.inl ⟨f,args,rfl⟩);obtain⟨fn,jg,wo,hne',F1,oa⟩:=ll bM;have bz:=jx (P:=P) (w:=w1) (a:=a1) (g:=f) (caps:= #[]) ho (λx hx=>by rw[jg]at hx;cases hx;rfl) ⟨_,jg⟩ ⟨fn,wo,hne',F1⟩;rw[ZbD]at bz;rw[bz,Oper.uponIn_enter];refine⟨λhx=>(by cases hx),dT ?_⟩;obtain⟨W,base,M,w0,dI,h0⟩:=R1.ex;refine(bd.run base W M w0 w1 L1 (c.args.map a1.eval) h0.o (by simpa using gh h0.o.gl h0.tmps oa)).mono ?_;rintro e w2 ⟨v,L2,val,ob2,rfl,hP,ME,wv,jj⟩;have WA:∀d,dst=some d->d<nt:=by
  intro d hd;have:=yg;subst hd;simp only[kf,Zam,decide_eq_true_eq]at this;exact this.2
 have R2:=dH.put R1 dI h0 dst WA ME wv jj ⟨N',(bd.none val ob2 hP).2⟩;have Zb:dst=o.dst:=jQ;rw[Zb]at R2;rw[Zb]at hK;exact hK _ _ _ _ _ hP R2
end
section
variable{P:Program}{nt:Nat}{Γ:Env}{Q:Exit->kW->Prop}{tm:Nat->DV}{ob:aU}{nxt low:Nat}{td:List (List T)}
def CN(P:Program)(nt nxt N':Nat)(f:FuncId)(args:List bp)(s:RS)(k:DV->aU->Prop):Prop:=
 ∃qj,((∀r,nxt+nt+1<=r->s.objs r=none)->EH P f (args.map (·.ev s.tmps)) s.objs (nxt+nt+1) N' qj)/\∀val ob',qj val ob'->k val ob'
theorem pB{a:Array Bool}{i:Nat}(h:i<a.size)(d e:Bool):a.getD i d=a.getD i e:=by
 rw[Zax,Zax];simp[h]
theorem aa.regND(aw:ay P Γ)(hm:P.follows .mixedOrders=true){r0 r1:RO}{post:List RO}{f:FuncId}{args:List bp}{dst:Option Nat}{N':Nat}(ks:List Nat){rs:List RO}(jI:rs=r0::r1::⟨.call f args,dst,none,[1],none⟩::post)
  (ha:r0.after=[]/\r1.after=[]) (hp:∀y∈post,0∈y.after/\1∈y.after/\2∈y.after)
  (hA:exec Γ nxt [r0,r1] ⟨tm,ob,td⟩ λs=>CN P nt nxt N' f args s λval ob'=>exec Γ nxt post ⟨b7 s.tmps dst val,ob',s.todo⟩ λs'=>Q .normal ⟨look (kp ks s'.tmps),s'.objs,N',low,s'.todo⟩)
  (hB:exec Γ nxt [r1,r0] ⟨tm,ob,td⟩ λs=>CN P nt nxt N' f args s λval ob'=>exec Γ nxt post ⟨b7 s.tmps dst val,ob',s.todo⟩ λs'=>Q .normal ⟨look (kp ks s'.tmps),s'.objs,N',low,s'.todo⟩)
  (hC:exec Γ nxt [r1] ⟨tm,ob,td⟩ λs=>CN P nt nxt N' f args s λval ob'=>exec Γ nxt (r0::post) ⟨b7 s.tmps dst val,ob',s.todo⟩ λs'=>Q .normal ⟨look (kp ks s'.tmps),s'.objs,N',low,s'.todo⟩):
  aa P nt (.region true rs) Q ⟨tm,ob,nxt,low,td⟩:=by
 refine⟨λc hc=>?_⟩;obtain⟨id,ops,rfl,mC,aF⟩:=pk hc;have Zc:=pZ mC;have hcs':eK P ops=some (rs.map bare):=by rw[Zc];exact mC
 obtain⟨hlen,pj⟩:=mJ hcs';simp only[da,Zam,Zcj,Bool.false_or]at aF;obtain⟨⟨dK,Eu⟩,hpr⟩:=aF;obtain⟨cW,QM⟩:=Ap hpr;have gB:ops.size=3+post.length:=by rw[<-hlen,jI];simp;omega
 let g:Nat->RO:=λi=>(rs[i]?).getD ⟨.bP (.cq .undef),none,none,[],none⟩
 have gg:∀i,i<ops.size->rs[i]? =some (g i):=λi hi=>by
  have:i<rs.length:=by omega
  simp[g,this]
 have hbr:∀x∈rs,bare x=x:=λx hx=>by
  obtain⟨i,hi,rfl⟩:=ZaZ hx;have:=congrArg (λl=>l[i]?) Zc;simp only[Zbp,Zan hi,Za1,Zaa]at this;exact this
 have YU:∀(i:Nat) (o:Oper),ops[i]? =some o->cK P ops o=some (bare (g i)):=λi o ho=>by
  obtain⟨r,h1,h2⟩:=pj i o ho;have:g i=r:=by simp[g,h1]
  rw[this];exact h2
 have g0:g 0=r0:=by simp[g,jI]
 have g1:g 1=r1:=by simp[g,jI]
 have g2:g 2=⟨.call f args,dst,none,[1],none⟩:=by simp[g,jI]
 have jS:∀i,i<ops.size->kf nt (g i)=true:=λi hi=>ZaI.1 dK _ (Zaq (gg i hi));have jT:∀(i:Nat) (listed:Array Bool),i∈Region.ready .any ops listed↔listed.getD i true=false/\i<ops.size/\∀e∈(g i).after,listed.getD e false=true:=by
  intro i listed;rw[mem_ready];constructor
  ·rintro⟨h0,o,ho,h⟩;refine⟨h0,(Zai.1 ho).1,λe he=>?_⟩;have:=(fj (YU i o ho)).2.2.2;rw[this]at he;simp only[Zal,ZaO]at he;obtain⟨x,⟨hx,hb⟩,rfl⟩:=he;exact h x (by simpa using hx) hb
  ·rintro⟨h0,hi,h⟩;have ho:ops[i]? =some ops[i]:=by simp[hi]
   refine⟨h0,ops[i],ho,λe he hb=>h e.on ?_⟩;rw[(fj (YU i _ ho)).2.2.2];exact Zal.2 ⟨e,ZaO.2 ⟨by simpa using he,hb⟩,rfl⟩
 have MS:∀i,3<=i->i<ops.size->g i∈post:=λi h3 hi=>by
  have h:=gg i hi;rw[jI]at h;obtain⟨k,rfl⟩:∃k,i=k+3:=⟨i-3,by omega⟩;simp only[ZaX]at h;exact Zaq h
 have AT:(List.range' 3 post.length).map g=post:=by
  apply Zbk;intro k;by_cases hk:k<post.length
  ·have h:=gg (k+3) (by omega);rw[jI]at h;simp only[ZaX]at h;rw[Zbp,List.getElem?_range' hk,h];simp[Nat.add_comm]
  ·rw[ZaS (by simp;omega),ZaS (by omega)]
 have bG:∀l:List Nat,l.Nodup->(∀i∈l,i<ops.size)->dM (l.map g)=true:=by
  intro l;induction l with
  |nil=>intro _ _;rfl
  |cons i l ih=>
   intro hl hb;simp only[Zau,dM,Zam,ZaI];rw[ZbM]at hl;refine⟨λy hy=>?_,ih hl.2 λj hj=>hb j (by simp[hj])⟩;obtain⟨j,hj,rfl⟩:=Zal.1 hy;exact nM Eu i j _ _ (by rintro rfl;exact hl.1 hj) (gg i (hb i (by simp))) (gg j (hb j (by simp[hj])))
 have hind:∀(listed:Array Bool) (i x:Nat),i<ops.size->x<i->listed.getD x true=false->(∀(j:Nat),j<ops.size->listed.getD j false=true->∀e∈(g j).after,listed.getD e false=true)->(∀e∈(g i).after,listed.getD e false=true)->indep (g x) (g i)=true:=by
  intro listed i x hi hx sc bd hd;rcases QM i x (g i) (g x) (gg i hi) hx (gg x (by omega))with h1|⟨m,wu,Ed⟩
  ·exact h1
  ·exfalso;have:=uW (rs:=rs) (listed:=listed) cW (λj y hj hy=>by
    have hjn:j<ops.size:=by have:=(Zas.1 hy).1;omega
    have:y=g j:=by rw[gg j hjn]at hy;exact(ZbK hy).symm
    rw[this];exact bd j hjn hj) i (g i) m x (gg i hi) wu Ed hd
   rw[Zax]at this sc;cases sR:listed[x]? with
   |none=>rw[sR]at this;simp at this
   |some b=>rw[sR]at this sc;simp at this sc;rw[this]at sc;cases sc
 intro n κ act w L wq r;have Kd:∀t,nxt<=t->ob t=none:=λt ht=>r.fresh t ht;have dx:∀x:RO,∃k,nm nxt x=nxt+k:=λx=>by
  unfold nm nameOf;cases x.dst with
  |none=>exact⟨0,rfl⟩
  |some d=>exact⟨d+1,by simp only[Nat.add_assoc]⟩
 have Ck:∀i,i<ops.size->nm nxt (g i)<nxt+nt+1:=by
  intro i hi;have:=jS i hi;simp only[kf,Zam]at this;unfold nm nameOf;cases hyd:(g i).dst with
  |none=>simp only;omega
  |some d=>
   have:=this.2;rw[hyd]at this;simp only[decide_eq_true_eq]at this;simp only;omega
 have Zd:∀i,i<ops.size->eJ (g i)=true:=λi hi=>by have:=jS i hi;simp only[kf,Zam]at this;exact this.1.2
 have fin3:∀(listed:Array Bool),listed.size=ops.size->(∀i,i<ops.size->listed.getD i true=decide (i<3))->∀(st:RS) (a:Act) (w:World) (L:Loc),dH κ nt st a w L->gj nxt post st->nxt+nt+1<=N'->(∀t,N'<=t->st.objs t=none)->
   iL Γ nxt post st->Q .normal ⟨look (kp ks (cL Γ nxt post st).tmps),(cL Γ nxt post st).objs,N',low,(cL Γ nxt post st).todo⟩->
   wpAnyIn (iK κ.ro) n P .any ops (λe a w=>∃df L',Q e df/\Rel κ nt df a w L') post.length listed a w:=by
  intro listed hs hl st a w L hR hF hle hhigh bz hQ;have Xx:rem ops.size listed=List.range' 3 post.length:=by
   unfold rem;rw[gB,Zcq,<-List.range'_append_1,List.filter_append];have e1:(List.range' 0 3).filter (λi=> !listed.getD i true)=[]:=by
    rw[List.filter_eq_nil_iff];intro i hi;have:=Zbg.1 hi;rw[hl i (by omega)];simp;omega
   have e2:(List.range' (0+3) post.length).filter (λi=> !listed.getD i true)=List.range' (0+3) post.length:=by
    rw[List.filter_eq_self];intro i hi;have:=Zbg.1 hi;rw[hl i (by omega)];simp;omega
   rw[e1,e2];simp
  refine My aw wq (g:=g) YU jS bG hind (λi hi=>cW i (g i) (gg i hi)) post.length listed hs (by rw[Xx];simp) (λj hj Mz e he=>?_) st a w L hR (by rw[Xx,AT];exact hF) (by rw[Xx,AT];exact bz) ?_
  ·have h1:=hl j hj;rw[pB (by omega) true false]at h1;rw[h1]at Mz;have hj3:j<3:=by simpa using Mz
   have h3:j=0\/j=1\/j=2:=by omega
   rcases h3 with rfl|rfl|rfl
   ·rw[g0,ha.1]at he;cases he
   ·rw[g1,ha.2]at he;cases he
   ·rw[g2]at he;simp only[Zag,Zap,or_false]at he;subst he;have:=hl 1 (by omega);rw[pB (by omega) true false]at this;rw[this];rfl
  ·rw[Xx,AT];intro a3 w3 L3 R3;have hall2:post.all (kf nt)=true:=by
    rw[ZaI];intro y hy;exact ZaI.1 dK y (by rw[jI];simp[hy])
   have wi:∀t,N'<=t->(cL Γ nxt post st).objs t=none:=λt ht=>qY aw post hall2 _ bz t (ZaC hle ht) (hhigh t ht);obtain⟨L4,R4⟩:=Le.u5 (st:=⟨(cL Γ nxt post st).tmps,(cL Γ nxt post st).objs,N',low,(cL Γ nxt post st).todo⟩) (mN _ ks) κ nt a3 w3 L3 ⟨R3,wi,r.low,r.it⟩;exact⟨_,L4,hQ,R4⟩
 have Ke:∀{l:Array Bool} {i j:Nat},l.size=ops.size->i<ops.size->j<ops.size->(l.setIfInBounds i true).getD j true=if j=i then true else l.getD j true:=λ{l i j} hs hi hj=>by
  rw[Zax,Zb2,Zax];by_cases e:j=i
  ·subst e;simp[hs,hj]
  ·have:¬i=j:=λh=>e h.symm;simp[e,this]
 obtain⟨a1,hA⟩:=eL _ _ _ hA;obtain⟨b1,hB⟩:=eL _ _ _ hB;obtain⟨c1,hC⟩:=eL _ _ _ hC;simp only[iL,cL,and_true]at a1 b1 c1 hA hB hC;have hh:dH κ nt ⟨tm,ob,td⟩ act {w with drawn:=w.drawn+1} L:=by
  have hb:tE w.heap.size w {w with drawn:=w.drawn+1}:=⟨⟨rfl,rfl,rfl,Zae _,λ_ _=>rfl⟩,ZcP _⟩;obtain⟨W,base,M,w0,dI,h0⟩:=r.r.ex;obtain⟨hO,hA⟩:=bK.grow h0.o hb;obtain⟨Ds,h1,h2,h3,h4⟩:=r.r.defers;exact⟨⟨W,base,M,w0,dI,h0.size,λt=>av.ee hA _ _ (h0.tmps t),hO⟩,r.r.ee.comp hA dI.sub.1 dI.sub.2,⟨Ds,h1,h2,λD hD=>⟨hA.keeps.NZ D (h3 D hD).1,(h3 D hD).2⟩,h4⟩,r.r.bg,r.r.fin⟩
 have Cc:∀i (hi:i<ops.size),ops[i]? =some ops[i]:=λi hi=>by simp[hi]
 have zf:nxt<=nxt+nt+1:=by omega
 have F0:gj nxt (r0::r1::⟨.call f args,dst,none,[1],none⟩::post) ⟨tm,ob,td⟩:=⟨Kd nxt (Zae _),λx _=>by obtain⟨k,hk⟩:=dx x;rw[hk];exact Kd _ (by omega)⟩;have dA:dM (r0::r1::⟨.call f args,dst,none,[1],none⟩::post)=true:=by rw[<-jI];exact Eu
 have dB:dM (r1::r0::⟨.call f args,dst,none,[1],none⟩::post)=true:=by
  have:=bG (1::0::2::List.range' 3 post.length) (by
   simp only[ZbM,Zag,Zbg];refine⟨by omega,by omega,by omega,List.nodup_range'⟩) (λi hi=>by
   simp only[Zag,Zbg]at hi;omega)
  simpa only[Zau,g0,g1,g2,AT]using this
 have sub:∀{l l':List RO} {st:RS},gj nxt l st->(∀x∈l',x∈l)->gj nxt l' st:=λh k=>⟨h.1,λy hy=>h.2 y (k y hy)⟩;have lowp:∀y∈post,nm nxt y<nxt+nt+1:=λy hy=>by
  rw[<-AT]at hy;obtain⟨i,hi,rfl⟩:=Zal.1 hy;exact Ck i (by have:=Zbg.1 hi;omega)
 have low0:nm nxt r0<nxt+nt+1:=by rw[<-g0];exact Ck 0 (by omega)
 have ro0:kf nt r0=true:=by rw[<-g0];exact jS 0 (by omega)
 have ro1:kf nt r1=true:=by rw[<-g1];exact jS 1 (by omega)
 have ro2:kf nt ⟨.call f args,dst,none,[1],none⟩=true:=by rw[<-g2];exact jS 2 (by omega)
 have co0:cK P ops ops[0]=some (bare r0):=by rw[<-g0];exact YU 0 _ (Cc 0 (by omega))
 have co1:cK P ops ops[1]=some (bare r1):=by rw[<-g1];exact YU 1 _ (Cc 1 (by omega))
 have co2:cK P ops ops[2]=some ⟨.call f args,dst,none,[1],none⟩:=by have:=YU 2 _ (Cc 2 (by omega));rw[g2]at this;exact this
 have la0:eJ r0=true:=by rw[<-g0];exact Zd 0 (by omega)
 have la1:eJ r1=true:=by rw[<-g1];exact Zd 1 (by omega)
 have YK:∀t,nxt+nt+1<=t->(⟨tm,ob,td⟩:RS).objs t=none:=λt ht=>Kd t (by omega);have high:∀{r:RO} {st:RS},kf nt r=true->bT Γ nxt r st->(∀t,nxt+nt+1<=t->st.objs t=none)->∀t,nxt+nt+1<=t->(cI Γ nxt r st).objs t=none:=λ{r st} hr hk h t ht=>
  qY (nt:=nt) aw [r] (by simp[hr]) st ⟨hk,trivial⟩ t ht (h t ht)
 have hbig:∀(l:Array Bool) (m:Nat),l.size=ops.size->(∀i,i<ops.size->l.getD i true=decide (i<m))->m<=3->∀i,i∈Region.ready .any ops l->3<=i->m=3:=by
  intro l m hs hl hm3 i hi h3;obtain⟨_,sU,hd⟩:=(jT i l).1 hi;have h2:=hd 2 (hp _ (MS i h3 sU)).2.2;rw[pB (by omega) false true,hl 2 (by omega)]at h2;have:2<m:=by simpa using h2
  omega
 have Rm:∀(l:Array Bool),l.size=ops.size->(∀i,i<ops.size->l.getD i true=decide (i<2))->∀(s:RS) (a:Act) (w:World) (L:Loc),dH κ nt s a w L->gj nxt post s->(∀t,nxt+nt+1<=t->s.objs t=none)->
   CN P nt nxt N' f args s (λval ob'=>exec Γ nxt post ⟨b7 s.tmps dst val,ob',s.todo⟩ λs'=>Q .normal ⟨look (kp ks s'.tmps),s'.objs,N',low,s'.todo⟩)->
   wpAnyIn (iK κ.ro) n P .any ops (λe a w=>∃df L',Q e df/\Rel κ nt df a w L') (post.length+1) l a w:=by
  rintro l hs hl s a w L hR hF hh ⟨qj,bd,hpo⟩;have bd:=bd hh;refine⟨λhr=>?_,λi hi=>?_⟩
  ·exfalso;have:2∈Region.ready .any ops l:=(jT 2 l).2 ⟨by rw[hl 2 (by omega)];rfl,by omega,λe he=>by
    rw[g2]at he;simp only[Zag,Zap,or_false]at he;subst he;rw[pB (by omega) false true,hl 1 (by omega)];rfl⟩
   rw[hr]at this;cases this
  ·have nj:=(jT i l).1 hi;have h2:i=2:=by
    rcases Zbz i 3 with h|h
    ·have h0:=nj.1;rw[hl i nj.2.1]at h0;have:¬i<2:=by simpa using h0
     omega
    ·have:=hbig l 2 hs hl (by omega) i hi h;omega
   subst h2;refine AS wq (Cc 2 (by omega)) co2 ro2 hR bd λa' w' L' val ob' hP Ze=>?_;obtain⟨x1,x2⟩:=eL _ _ _ (hpo val ob' hP);have uB:=bd.none val ob' hP;refine fin3 _ (by simpa using hs) (λj hj=>?_) _ a' w' L' Ze ⟨uB.1 _ (by omega) hF.1,λy hy=>uB.1 _ (lowp y hy) (hF.2 y hy)⟩ bd.le uB.2 x1 x2;rw[Ke hs (by omega) hj,hl j hj];split
   ·rename_i e;subst e;rfl
   ·rename_i e;rw[decide_eq_decide];omega
 have start:∀(w':World),dH κ nt ⟨tm,ob,td⟩ act w' L->wpAnyIn (iK κ.ro) n P .any ops (λe a w=>∃df L',Q e df/\Rel κ nt df a w L') ops.size (Array.replicate ops.size false) act w':=by
  intro w0 hh;have Rn:(Array.replicate ops.size false).size=ops.size:=by simp
  have Cf:∀i,i<ops.size->(Array.replicate ops.size false).getD i true=false:=λi hi=>by rw[Zax];simp[hi]
  obtain⟨l0,hl0e⟩:∃l0,Array.replicate ops.size false=l0:=⟨_,rfl⟩;rw[hl0e]at Rn Cf⊢;rw[show ops.size=post.length+1+1+1 by omega];refine⟨λhr=>?_,λi hi=>?_⟩
  ·exfalso;have:0∈Region.ready .any ops l0:=(jT 0 l0).2 ⟨Cf 0 (by omega),by omega,λe he=>by rw[g0,ha.1]at he;cases he⟩;rw[hr]at this;cases this
  ·obtain⟨_,sU,hd⟩:=(jT i l0).1 hi;have h01:i=0\/i=1:=by
    rcases Zbz i 2 with h|h
    ·omega
    ·exfalso;rcases Zbz i 3 with h3|h3
     ·obtain rfl:i=2:=by omega
      have:=hd 1 (by rw[g2];simp);rw[pB (by omega) false true,Cf 1 (by omega)]at this;cases this
     ·have:=hd 2 (hp _ (MS i h3 sU)).2.2;rw[pB (by omega) false true,Cf 2 (by omega)]at this;cases this
   rcases h01 with rfl|rfl
   ·refine ij aw wq (Cc 0 (by omega)) co0 ro0 hh (F0.2 r0 (by simp)) a1.1 λa' w' L' h'=>?_;have FA:=jy aw la0 a1.1 (λy hy=>ik dA y hy) (sub F0 (l':=r1::⟨.call f args,dst,none,[1],none⟩::post) (by simp+contextual));have Kf:(l0.setIfInBounds 0 true).size=ops.size:=by simpa using Rn
    have wy:∀j,j<ops.size->(l0.setIfInBounds 0 true).getD j true=decide (j<1):=λj hj=>by
     rw[Ke Rn (by omega) hj,Cf j hj];split
     ·rename_i e;subst e;rfl
     ·rename_i e;symm;rw[decide_eq_false_iff_not];omega
    refine⟨λhr=>?_,λi hi=>?_⟩
    ·exfalso;have:1∈Region.ready .any ops (l0.setIfInBounds 0 true):=(jT 1 _).2 ⟨by rw[wy 1 (by omega)];rfl,by omega,λe he=>by rw[g1,ha.2]at he;cases he⟩;rw[hr]at this;cases this
    ·obtain⟨h0,sU,hd⟩:=(jT i _).1 hi;have hi1:i=1:=by
      rcases Zbz i 3 with h3|h3
      ·rw[wy i sU]at h0;have:¬i<1:=by simpa using h0
       rcases(show i=1\/i=2 by omega)with h|rfl
       ·exact h
       ·exfalso;have:=hd 1 (by rw[g2];simp);rw[pB (by omega) false true,wy 1 (by omega)]at this;cases this
      ·have:=hbig _ 1 Kf wy (by omega) i hi h3;omega
     subst hi1;refine ij aw wq (Cc 1 (by omega)) co1 ro1 h' (FA.2 r1 (by simp)) a1.2 λa2 w2 L2 h2=>?_;have dA1:dM (r1::⟨.call f args,dst,none,[1],none⟩::post)=true:=by simp only[dM,Zam]at dA⊢;exact dA.2
     have FA2:=jy aw la1 a1.2 (λy hy=>ik dA1 y hy) (sub FA (l':=⟨.call f args,dst,none,[1],none⟩::post) (by simp+contextual));refine Rm _ (by simpa using Kf) (λj hj=>?_) _ a2 w2 L2 h2 (sub FA2 (by simp+contextual)) (high ro1 a1.2 (high ro0 a1.1 YK)) hA;rw[Ke Kf (by omega) hj,wy j hj];split
     ·rename_i e;subst e;rfl
     ·rename_i e;rw[decide_eq_decide];omega
   ·refine ij aw wq (Cc 1 (by omega)) co1 ro1 hh (F0.2 r1 (by simp)) b1.1 λa' w' L' h'=>?_;have FB:=jy aw la1 b1.1 (λy hy=>ik dB y hy) (sub F0 (l':=r0::⟨.call f args,dst,none,[1],none⟩::post) (by simp+contextual));have Kf:(l0.setIfInBounds 1 true).size=ops.size:=by simpa using Rn
    have wy:∀j,j<ops.size->(l0.setIfInBounds 1 true).getD j true=decide (j=1):=λj hj=>by
     rw[Ke Rn (by omega) hj,Cf j hj];split
     ·rename_i e;subst e;rfl
     ·rename_i e;symm;rw[decide_eq_false_iff_not];exact e
    have dB1:dM (r0::⟨.call f args,dst,none,[1],none⟩::post)=true:=by simp only[dM,Zam]at dB⊢;exact dB.2
    refine⟨λhr=>?_,λi hi=>?_⟩
    ·exfalso;have:0∈Region.ready .any ops (l0.setIfInBounds 1 true):=(jT 0 _).2 ⟨by rw[wy 0 (by omega)];rfl,by omega,λe he=>by rw[g0,ha.1]at he;cases he⟩;rw[hr]at this;cases this
    ·obtain⟨h0,sU,hd⟩:=(jT i _).1 hi;have hi02:i=0\/i=2:=by
      rcases Zbz i 3 with h3|h3
      ·rw[wy i sU]at h0;have:¬i=1:=by simpa using h0
       omega
      ·exfalso;have:=hd 2 (hp _ (MS i h3 sU)).2.2;rw[pB (by omega) false true,wy 2 (by omega)]at this;cases this
     rcases hi02 with rfl|rfl
     ·refine ij aw wq (Cc 0 (by omega)) co0 ro0 h' (FB.2 r0 (by simp)) b1.2 λa2 w2 L2 h2=>?_;have FB2:=jy aw la0 b1.2 (λy hy=>ik dB1 y hy) (sub FB (l':=⟨.call f args,dst,none,[1],none⟩::post) (by simp+contextual));refine Rm _ (by simpa using Kf) (λj hj=>?_) _ a2 w2 L2 h2 (sub FB2 (by simp+contextual)) (high ro0 b1.2 (high ro1 b1.1 YK)) hB;rw[Ke Kf (by omega) hj,wy j hj];split
      ·rename_i e;subst e;rfl
      ·rename_i e;rw[decide_eq_decide];omega
     ·obtain⟨qj,bd,hpo⟩:=hC;have bd:=bd (high ro1 c1 YK);refine AS wq (Cc 2 (by omega)) co2 ro2 h' bd λa2 w2 L2 val ob' hP Ze=>?_;obtain⟨x1,x2⟩:=eL _ _ _ (hpo val ob' hP);simp only[iL,cL]at x1 x2;have uB:=bd.none val ob' hP;have FC:gj nxt (r0::post) ⟨b7 (cI Γ nxt r1 ⟨tm,ob,td⟩).tmps dst val,ob',(cI Γ nxt r1 ⟨tm,ob,td⟩).todo⟩:=by
       refine⟨uB.1 _ (by omega) FB.1,λy hy=>?_⟩;rcases Zag.1 hy with rfl|hy
       ·exact uB.1 _ low0 (FB.2 _ (by simp))
       ·exact uB.1 _ (lowp y hy) (FB.2 _ (by simp[hy]))
      have N9:((l0.setIfInBounds 1 true).setIfInBounds 2 true).size=ops.size:=by simpa using Kf
      have qe:∀j,j<ops.size->((l0.setIfInBounds 1 true).setIfInBounds 2 true).getD j true=decide (j=1\/j=2):=λj hj=>by
       rw[Ke Kf (by omega) hj,wy j hj];split
       ·rename_i e;subst e;rfl
       ·rename_i e;rw[decide_eq_decide];omega
      refine⟨λhr=>?_,λi hi=>?_⟩
      ·exfalso;have:0∈Region.ready .any ops ((l0.setIfInBounds 1 true).setIfInBounds 2 true):=(jT 0 _).2 ⟨by rw[qe 0 (by omega)];rfl,by omega,λe he=>by rw[g0,ha.1]at he;cases he⟩;rw[hr]at this;cases this
      ·obtain⟨h0,sU,hd⟩:=(jT i _).1 hi;have hi0':i=0:=by
        rcases Zbz i 3 with h3|h3
        ·rw[qe i sU]at h0;have:¬(i=1\/i=2):=by simpa using h0
         omega
        ·exfalso;have:=hd 0 (hp _ (MS i h3 sU)).1;rw[pB (by omega) false true,qe 0 (by omega)]at this;cases this
       subst hi0';refine ij aw wq (Cc 0 (by omega)) co0 ro0 Ze (FC.2 r0 (by simp)) x1.1 λa3 w3 L3 h3=>?_;have dC:dM (r0::post)=true:=by
        simp only[dM,Zam,ZcC]at dB1⊢;exact⟨dB1.1.2,dB1.2.2⟩
       have FC2:=jy aw la0 x1.1 (λy hy=>ik dC y hy) (sub FC (l':=post) (by simp+contextual));refine fin3 _ (by simpa using N9) (λj hj=>?_) _ a3 w3 L3 h3 FC2 bd.le (λt ht=>?_) x1.2 x2
       ·rw[Ke N9 (by omega) hj,qe j hj];split
        ·rename_i e;subst e;rfl
        ·rename_i e;rw[decide_eq_decide];omega
       ·exact qY (nt:=nt) aw [r0] (by simp[ro0]) _ ⟨x1.1,trivial⟩ t (ZaC bd.le ht) (uB.2 t ht)
 exact wpIn_region_any hm (start _ hh)
end
end Go.DM
namespace Go.DM.NT
section
variable{α:Type}(lt:α->α->Bool)
structure SWO:Prop where
 irrefl:∀x,lt x x=false
 trans:∀x y z,lt x y=true->lt y z=true->lt x z=true
 ntrans:∀x y z,lt x y=false->lt y z=false->lt x z=false
def tC(l:List α):Prop:=l.Pairwise λa b=>lt b a=false
def eqv(x y:α):Bool:= !lt x y&& !lt y x
def oe(x:α):List α->List α
 |[]=>[x]
 |y::ys=>if lt x y then y::oe x ys else x::y::ys
def zH(l:List α):List α:=l.foldl (λacc x=>oe lt x acc) []
def iZ(l:List α):List α:=(zH lt l).reverse
variable{lt}
theorem SWO.asymm(h:SWO lt){x y:α}(h1:lt x y=true):lt y x=false:=by
 cases h2:lt y x with
 |false=>rfl
 |true=>have:=h.trans x y x h1 h2;rw[h.irrefl]at this;cases this
theorem AK(x:α):∀(l:List α) (z:α),z∈oe lt x l↔z=x\/z∈l
 |[],z=>by simp[oe]
 |y::ys,z=>by
  simp only[oe];split
  ·simp only[Zag,AK x ys z];constructor
   ·rintro(h|h|h)<;>simp[h]
   ·rintro(h|h|h)<;>simp[h]
  ·simp
theorem yx(h:SWO lt)(x:α):∀l:List α,l.Pairwise (λa b=>lt a b=false)->(oe lt x l).Pairwise λa b=>lt a b=false
 |[],_=>by simp[oe]
 |y::ys,hs=>by
  simp only[oe];rw[ZaL]at hs;split
  ·rename_i Y8;rw[ZaL];refine⟨λz hz=>?_,yx h x ys hs.2⟩;rcases(AK x ys z).1 hz with rfl|hz
   ·exact h.asymm Y8
   ·exact hs.1 z hz
  ·rename_i Y8;have Y8:lt x y=false:=by simpa using Y8
   rw[ZaL];refine⟨λz hz=>?_,ZaL.2 hs⟩;rcases Zag.1 hz with rfl|hz
   ·exact Y8
   ·exact h.ntrans x y z Y8 (hs.1 z hz)
theorem yy(h:SWO lt)(x z:α):∀l:List α,(oe lt x l).filter (eqv lt z)=(if eqv lt z x then x::l.filter (eqv lt z)else l.filter (eqv lt z))
 |[]=>by simp[oe,Za8]
 |y::ys=>by
  simp only[oe];split
  ·rename_i Y8;rw[Za8,yy h x z ys];have hn:eqv lt z x=true->eqv lt z y=false:=by
    intro hx;simp only[eqv,Zam,Zbl]at hx;cases hy:eqv lt z y with
    |false=>rfl
    |true=>
     simp only[eqv,Zam,Zbl]at hy;have:=h.ntrans x z y hx.2 hy.1;rw[Y8]at this;cases this
   by_cases hzx:eqv lt z x=true
   ·simp[hzx,hn hzx]
   ·simp only[ZcK]at hzx;simp[hzx,Za8]
  ·rw[Za8]
theorem vf(h:SWO lt):∀(l acc:List α),acc.Pairwise (λa b=>lt a b=false)->(l.foldl (λacc x=>oe lt x acc) acc).Pairwise λa b=>lt a b=false
 |[],acc,ha=>ha
 |x::l,acc,ha=>vf h l _ (yx h x acc ha)
theorem foldl_filter(h:SWO lt)(z:α):∀(l acc:List α),(l.foldl (λacc x=>oe lt x acc) acc).filter (eqv lt z)=(l.filter (eqv lt z)).reverse++acc.filter (eqv lt z)
 |[],acc=>by simp
 |x::l,acc=>by
  rw[ZaB,foldl_filter h z l,yy h];by_cases hx:eqv lt z x=true
  ·simp[hx]
  ·simp only[ZcK]at hx;simp[hx]
theorem oZ(h:SWO lt)(l:List α):tC lt (iZ lt l):=by
 unfold tC iZ;rw[List.pairwise_reverse];exact vf h l [] List.Pairwise.nil
theorem vh(h:SWO lt)(z:α)(l:List α):(iZ lt l).filter (eqv lt z)=l.filter (eqv lt z):=by
 unfold iZ zH;rw[List.filter_reverse,foldl_filter h z];simp
theorem ru(h:SWO lt)(x:α):eqv lt x x=true:=by simp[eqv,h.irrefl]
theorem C5:∀(l acc:List α) (z:α),z∈l.foldl (λacc x=>oe lt x acc) acc↔z∈l\/z∈acc
 |[],acc,z=>by simp
 |x::l,acc,z=>by
  rw[ZaB,C5 l,AK];simp only[Zag];constructor
  ·rintro(h|h|h)<;>simp[h]
  ·rintro((h|h)|h)<;>simp[h]
@[simp] theorem rZ(l:List α)(z:α):z∈iZ lt l↔z∈l:=by simp[iZ,zH,C5]
theorem yz(x:α):∀l:List α,(oe lt x l).length=l.length+1
 |[]=>rfl
 |y::ys=>by simp only[oe];split<;>simp[yz x ys]
theorem vi:∀l acc:List α,(l.foldl (λacc x=>oe lt x acc) acc).length=l.length+acc.length
 |[],acc=>by simp
 |x::l,acc=>by rw[ZaB,vi l,yz];simp;omega
@[simp] theorem uK(l:List α):(iZ lt l).length=l.length:=by simp[iZ,zH,vi]
theorem tg(h:SWO lt):∀(l1 l2:List α),tC lt l1->tC lt l2->(∀x,l1.filter (eqv lt x)=l2.filter (eqv lt x))->l1=l2
 |[],[],_,_,_=>rfl
 |[],b::t,_,_,hf=>by
  have:=hf b;simp[Za8,ru h]at this
 |a::t,[],_,_,hf=>by
  have:=hf a;simp[Za8,ru h]at this
 |a::t1,b::t2,s1,s2,hf=>by
  have s1':=ZaL.1 s1;have s2':=ZaL.1 s2;have YI:lt b a=false:=by
   have:b∈a::t1:=by
    have:b∈(a::t1).filter (eqv lt b):=by rw[hf b];simp[ru h]
    exact(ZaO.1 this).1
   rcases Zag.1 this with rfl|hm
   ·exact h.irrefl _
   ·exact s1'.1 b hm
  have hba:lt a b=false:=by
   have:a∈b::t2:=by
    have:a∈(b::t2).filter (eqv lt a):=by rw[<-hf a];simp[ru h]
    exact(ZaO.1 this).1
   rcases Zag.1 this with rfl|hm
   ·exact h.irrefl _
   ·exact s2'.1 a hm
  have he:eqv lt a b=true:=by simp[eqv,YI,hba]
  have h1:=hf a;rw[Za8,Za8,ru h,he]at h1;simp only[if_true,Za6]at h1;obtain⟨rfl,_⟩:=h1
  congr 1
  refine tg h t1 t2 s1'.2 s2'.2 λx=>?_;have:=hf x;rw[Za8,Za8]at this;split at this
  ·exact(List.cons.inj this).2
  ·exact this
theorem GN(h:SWO lt){l l':List α}(hs:tC lt l')(hf:∀x,l'.filter (eqv lt x)=l.filter (eqv lt x)):iZ lt l=l':=
 tg h _ _ (oZ h l) hs λx=>by rw[vh h,hf]
end
section
variable{α:Type}
end
end Go.DM.NT
namespace Go.DM.NT
section
variable{α:Type}{lt:α->α->Bool}
end
end Go.DM.NT
namespace Go.DM
open Go.RowKit
variable [Laid]
abbrev tI(n:Int):T:=.int .i64 n
abbrev lZ(k:Nat):Type:={l:List Int//l.length=k}
instance(k:Nat):Inhabited (lZ k):=⟨⟨List.replicate k 0,by simp⟩⟩
def nQ{k:Nat}(x:lZ k):List Value:=x.1.map (Value.int .i64)
def gk{k:Nat}(x:lZ k):List T:=x.1.map tI
theorem OI{w w':World}(h:tE w.heap.size w w'):∃q os',w'=Go.Sort.grow (w.drewN q) os':=by
 refine⟨w'.drawn-w.drawn,w'.heap.extract w.heap.size w'.heap.size, ?_⟩;obtain⟨⟨h1,h2,h3,h4,h5⟩,h6⟩:=h;cases w with
 |mk heap tape drawn os output=>
  cases w' with
  |mk Y3 tape' drawn' os' output'=>
   simp only at h1 h2 h3 h4 h5 h6;subst h1 h2 h3;simp only[Go.Sort.grow,World.drewN,World.mk.injEq,and_true,true_and];refine⟨?_,by omega⟩;apply Array.ext_getElem?;intro k;rw[Array.getElem?_append];split
   ·rename_i hk;exact h5 k hk
   ·rename_i hk;rw[Array.getElem?_extract];split
    ·rw[show heap.size+(k-heap.size)=k by omega]
    ·rename_i h7;rw[Array.getElem?_eq_none (by omega)]
theorem sj{w:World}{W:Nat->Prop}:∀l:List Int,aP w W (l.map tI) (l.map (Value.int .i64))
 |[]=>by simp[aP]
 |n::l=>by
  simp only[Zau,aP];exact⟨_,_,rfl,rfl,by simp[aR],sj l⟩
theorem vd{w:World}{W:Nat->Prop}:∀{l:List Int} {vs:List Value},aP w W (l.map tI) vs->vs=l.map (Value.int .i64)
 |[],vs,h=>by simpa [aP]using h
 |n::l,vs,h=>by
  simp only[Zau,aP]at h;obtain⟨v,gY,rfl,_,h1,h2⟩:=h;simp only[aR]at h1;rw[h1,vd h2];rfl
theorem yr{α:Type}{sz:Nat}:∀{rows:List (List α)} {j:Nat},(∀r∈rows,r.length=sz)->rows.flatten[j]? =(rows[j/sz]?).bind λr=>r[j % sz]?
 |[],j,_=>by simp
 |r::rows,j,h=>by
  have hr:=h r (by simp);by_cases hs:sz=0
  ·subst hs;have:∀x∈r::rows,x=[]:=λx hx=>List.length_eq_zero_iff.1 (h x hx);have h2:(r::rows).flatten=[]:=by
    rw[List.flatten_eq_nil_iff];exact this
   rw[h2];simp[this r (by simp)]
  rw[Zbe,Zb9];split
  ·rename_i hj;rw[hr]at hj;rw[Nat.div_eq_of_lt hj,Zcl hj];simp
  ·rename_i hj;rw[hr]at hj;rw[hr,yr λx hx=>h x (by simp[hx])];obtain⟨i,rfl⟩:∃i,j=i+sz:=⟨j-sz,by omega⟩;rw[Zcd,Nat.add_div_right i (by omega),Nat.add_mod_right];rw[ZaX]
theorem AF{k:Nat}(D:List (lZ k)):(Go.Sort.flatK nQ k D.toArray).toList=((D.map (·.1)).flatten).map (Value.int .i64):=by
 have hl:∀r∈D.map (·.1),r.length=k:=by
  intro r hr;obtain⟨x,_,rfl⟩:=Zal.1 hr;exact x.2
 have hflen:(D.map (·.1)).flatten.length=D.length*k:=by
  clear hl;induction D with
  |nil=>simp
  |cons x D ih=>simp only[Zau,Zbe,ZaA,x.2,ih,Zba,Nat.add_mul];omega
 apply Zbk;intro j;by_cases hj:j<D.length*k
 ·have wx:0<k:=by
   cases k with
   |zero=>simp at hj
   |succ k=>omega
  have h1:j/k<D.length:=Nat.div_lt_of_lt_mul (by rwa [Nat.mul_comm]);have h2:j % k<k:=Nat.mod_lt _ wx;have gB:j<(Go.Sort.flatK nQ k D.toArray).size:=by simpa using hj
  rw[Zbp,yr hl,Zbp,Zan h1];simp only[Za1,Zb8];have h3:=Go.Sort.get_flatK nQ k D.toArray j (by simpa using hj);rw[Array.getElem?_toList,Zbs gB];rw[getElem!_pos _ j gB]at h3;rw[h3];have h4:D.toArray[j/k]! =D[j/k]:=by rw[getElem!_pos _ _ (by simpa using h1)];simp
  rw[h4];have h5:j % k<(D[j/k]).1.length:=by rw[(D[j/k]).2];exact h2
  unfold nQ;rw[getElem!_pos _ _ (by simpa using h5)];simp[h5]
 ·rw[ZaS (by simpa using hj),ZaS (by rw[Zbt,hflen];omega)]
theorem CZ{k:Nat}(D:List (lZ k)):(D.map gk).flatten=((D.map (·.1)).flatten).map tI:=by
 induction D with
 |nil=>rfl
 |cons x D ih=>simp only[Zau,Zbe,ih,ZaP];rfl
theorem J7{objs:aU}{r:Nat}{o:Ob}(h:objs r=some o):cZ objs r o=objs:=by
 funext k;rw[J8];split
 ·rename_i e;rw[e,h]
 ·rfl
theorem Q7{P:Program}{g:FuncId}{k:Nat}{x y:lZ k}{c:Int}(hg: @aT Laid.none P g [.agg (gk x),.agg (gk y)] (tI c))(w:World):
  Calls P g (#[.agg (nQ x).toArray,.agg (nQ y).toArray]++ #[]) w λe w'=>e=.returned (.int .i64 c)/\∃q os',w'=Go.Sort.grow (w.drewN q) os':=by
 rw[ZbD];refine(@aT.calls Laid.none P g _ _ hg w #[.agg (nQ x).toArray,.agg (nQ y).toArray] (zN.empty _ _) ?_).mono ?_
 ·show dw w (λ_=>False) [.agg (gk x),.agg (gk y)] [.agg (nQ x).toArray,.agg (nQ y).toArray];simp only[dw];exact⟨_,_,rfl,⟨_,rfl,sj x.1⟩,_,_,rfl,⟨_,rfl,sj y.1⟩,rfl⟩
 ·rintro e' w' ⟨v,rfl,hb,hv⟩;simp only[aR]at hv;subst hv;exact⟨rfl,OI hb⟩
def yu{k:Nat}(cf:lZ k->lZ k->Int)(D:List (lZ k)):List (lZ k):=D.mergeSort λx y=> !(Go.Proofs.ltOf cf) y x
open Go.Proofs Go.Sort in
theorem GK{P:Program}{ρ:Go.Shelf.Ren}(Lay:SlLaysF0.n6 P ρ){k:Nat}(hk:0<k)(aE:∀w,(isAgg (ρ.t 24)).run P w=.ok true w)(zE:∀w,(Go.sizeOf (ρ.t 24)).run P w=.ok k w)
  {g:FuncId} {cf:lZ k->lZ k->Int} (hg:∀x y:lZ k, @aT Laid.none P g [.agg (gk x),.agg (gk y)] (tI (cf x y))) (hO:Go.Sort.SWO (ltOf cf)) (hT:∀x y,(ltOf cf) x y=false->(ltOf cf) y x=false->x=y)
  (D:List (lZ k)) {objs:aU} {r ver e:Nat} (fH:objs r=some (.arr ver e k (D.map gk))) (hlen:D.length<4611686018427387904):
  aY P (ρ.f 6) [.bk r ver,.v (.fn (.func g) [])] objs ⟨True,.v (.eF []),cZ objs r (.arr ver e k ((yu cf D).map gk))⟩:=by
 have eg:∀args w,(callFunc g args).run P w=.ok (.enter g args) w:=by
  obtain⟨fn,h1,h2,h3⟩:= @aT.entry Laid.none _ _ _ _ (hg default default);cases hb:fn.body with
  |none=>rw[hb]at h3;cases h3
  |some c=>exact enters_of h1 (by simpa using h2) hb
 refine⟨?_,λbase W M w0 w L vals Y4 hr=>?_⟩
 ·obtain⟨nm,hn,hf⟩:=Lay.f6;exact⟨_,hf,by simpa using hn,rfl⟩
 obtain⟨lP,pV⟩:=hr;obtain⟨x,f,wj⟩:∃x f,vals.toList=[x,f]:=by
  match wj:vals.toList,lP with
  |[x,f],_=>exact⟨x,f,rfl⟩
 have C1:vals= #[x,f]:=Array.ext' (by simpa using wj);subst C1;have hx:=pV 0 _ x rfl rfl;have hf:=pV 1 _ f rfl rfl;simp only[av,aR]at hf;obtain⟨cv,rfl,hcv⟩:=hf;have hcv:cv= #[]:=by
  simp only[aP]at hcv;exact Array.ext' (by simpa using hcv)
 subst hcv;simp only[av]at hx;obtain⟨_,ver',e',fY,di,hob',hver,AG⟩:=hx;rw[fH]at hob';cases hob';have AG:=AG rfl;subst AG;obtain⟨gB,cS,hm,kl⟩:=Y4.ob r _ fH;have sQ:(yu cf D).length=D.length:=List.length_mergeSort ..;rcases kl with⟨Gy,a,ha⟩|⟨g',cap,cur,hv,hp,hh,hle,pb,D9,eI⟩
 ·rw[ha];refine(AnyF.slices_SortFunc_none Lay a 0 _ w).mono ?_;rintro e' w' ⟨rfl,rfl⟩;have hD:D=[]:=by simpa using Gy
  subst hD;have hs:yu cf []=[]:=by simp[yu]
  rw[hs,J7 fH];exact⟨_,L,rfl,Y4,iX.cd (cb.refl _ _),by simp[av,aR,dw]⟩
 ·rw[hv];have hgl:g'<w.heap.size:=(Zai.1 hh).1;rw[CZ]at eI;have mL:=vd eI;rw[<-AF]at mL;have hcellG:∀j,w.cell? ⟨g',j,none⟩=cur[j]? :=by
   intro j;simp only[World.cell?,hh];rfl
  have hH:HoldsK nQ k w g' 0 D.toArray:=by
   intro j hj;refine⟨?_, ?_⟩
   ·rw[ZaY,hcellG];have h1:=congrArg (λl:List Value=>l[j]?) mL;have Y5:j<(D.map gk).length*k:=by simpa using hj
    rw[ZaF,if_pos Y5,Array.getElem?_toList,Array.getElem?_toList,Zbs hj]at h1;rw[h1,getElem!_pos _ j hj];rfl
   ·simp only[World.frozen?,hh];simp
  have hlays:CmpLays P g #[] nQ k cf g' 0 D.toArray.size w:=by
   intro m os dk hdk x y;obtain⟨w1,Oe⟩:∃w1,sortWorldK nQ k w g' 0 m dk os=w1:=⟨_,rfl⟩;rw[Oe];exact Q7 (hg x y) w1
  have pf:=AnyQ.slices_SortFunc_total Lay k aE zE nQ (λx=>by simp[nQ,x.2]) (λx v hv=>by
   simp only[nQ,Zal]at hv;obtain⟨n,_,rfl⟩:=hv;rfl) cf hO g #[] g' 0 cap D.toArray w eg hlays hH hgl (by simpa using hlen) hT
  rw[show(D.map gk).length=D.toArray.size by simp];refine pf.mono ?_;rintro e' w' ⟨rfl,n,os,rfl⟩;refine⟨_,L,rfl, ?_⟩;obtain⟨S,hS⟩:∃S,yu cf D=S:=⟨_,rfl⟩;have hS2:(D.toArray.toList.mergeSort λx y=> !(ltOf cf) y x).toArray=S.toArray:=by rw[<-hS];rfl
  rw[hS2];rw[hS]at sQ⊢;obtain⟨F,hF⟩:∃F,flatK nQ k S.toArray=F:=⟨_,rfl⟩;have hFs:F.size=D.length*k:=by rw[<-hF];simp[sQ]
  have hFl:F.toList=((S.map (·.1)).flatten).map (Value.int .i64):=by rw[<-hF];exact AF S
  have mC:(D.map gk).length*k<=cur.size:=by rw[D9];exact ZaM k hle
  have hcs2:D.length*k<=cur.size:=by simpa using mC
  have Q8:∀b:Nat,b<w.heap.size->(sortWorldK nQ k w g' 0 n S.toArray os).heap[b]? =if b=g' then some (.cells (Go.Sort.putCells id 0 F cur) e (0,0))else w.heap[b]? :=by
   intro b hb;have kv:b<(putRowK nQ k (Go.Sort.ahead w n) g' 0 S.toArray).heap.size:=by
    simp[Go.Sort.putRowK,Go.Sort.putRow,Go.Sort.mapBlock,Go.Sort.ahead,hb]
   simp only[sortWorldK,Go.Sort.grow];rw[ZcD kv];simp only[putRowK,Go.Sort.putRow,Go.Sort.mapBlock,Go.Sort.ahead,hF,Array.getElem?_modify];by_cases e1:b=g'
   ·subst e1;rw[if_pos rfl,if_pos rfl,hh];rfl
   ·rw[if_neg (λh=>e1 h.symm),if_neg e1]
  have s8:w.heap.size<=(sortWorldK nQ k w g' 0 n S.toArray os).heap.size:=by
   simp[sortWorldK,Go.Sort.grow,putRowK,Go.Sort.putRow,Go.Sort.mapBlock,Go.Sort.ahead]
  have eX:L.own r (.arr ver e k (D.map gk))=some g':=by simp[Loc.own,hv,aO,Zay.1 hp]
  have nL:∀j,(Go.Sort.putCells id 0 F cur)[j]? =if j<F.size then F[j]? else cur[j]? :=by
   intro j;simp only[Go.Sort.putCells,Array.getElem?_mapIdx];by_cases hj:j<F.size
   ·rw[if_pos hj,Zbs (show j<cur.size by omega),Zbs hj];simp[hj]
   ·rw[if_neg hj];cases cur[j]? with
    |none=>rfl
    |some v=>simp;intro h;omega
  have wi:Fr base M w0 (sortWorldK nQ k w g' 0 n S.toArray os):=by
   refine Y4.fr.trans ⟨rfl,rfl,rfl,ZaC Y4.fr.hZ Y4.fr.size,s8,λb hb Ec=>?_,by simp[sortWorldK,Go.Sort.grow,putRowK,Go.Sort.putRow,Go.Sort.mapBlock,Go.Sort.ahead]⟩;have hbw:b<w.heap.size:=ZaR hb (ZaC Y4.fr.hZ Y4.fr.size);rw[Q8 b hbw,if_neg];rintro rfl;rcases hm b (by simp[hv,aO,Zay.1 hp])with h|h
   ·omega
   ·exact Ec h
  have OG:=bK.put (r:=r) (o':=.arr ver e k (S.map gk)) (L':=L) Y4 wi s8 (λ_ _=>⟨rfl,rfl⟩) rfl
   (λb hb bG=>by rw[Q8 b hb,if_neg];rintro rfl;exact bG _ fH eX)
   (λb hb=>.inl ⟨_,fH,hb⟩) (λo' ga sS=>by rw[fH]at ga;cases ga;exact absurd rfl sS)
   (λver' e' fY di h=>by rw[fH]at h;cases h;exact⟨ver,e,k,_,rfl,Zae _,λ_=>⟨rfl,rfl,by simp[sQ]⟩⟩)
   (λee=>by
    refine⟨gB,λx hx=>?_,hm,.inr ⟨g',cap,Go.Sort.putCells id 0 F cur,by rw[hv];simp[sQ],hp,by rw[Q8 g' hgl,if_pos rfl],by simpa [sQ]using hle,pb,by simpa [Go.Sort.putCells]using D9, ?_⟩⟩
    ·obtain⟨y,_,rfl⟩:=Zal.1 hx;simp[gk,y.2]
    ·rw[CZ];have e1:(Go.Sort.putCells id 0 F cur).toList.take ((S.map gk).length*k)=((S.map (·.1)).flatten).map (Value.int .i64):=by
      rw[<-hFl];apply Zbk;intro j;rw[ZaF,Zbt,sQ,Array.getElem?_toList,Array.getElem?_toList,nL,hFs];by_cases hj:j<D.length*k
      ·simp[hj]
      ·rw[if_neg hj,Array.getElem?_eq_none (by omega)]
     rw[e1];exact sj _)
  rw[show bR objs (some (r,.arr ver e k (S.map gk)))=cZ objs r (.arr ver e k (S.map gk))from rfl]at OG;exact⟨OG.1,OG.2,by simp[av,aR,dw]⟩
end Go.DM
namespace Go.DM
open Go.RowKit Go.ChangeShapes Go.WideShapes
variable [Laid]
def lq(P:Program)(L:List TypeId):Nat->List Field->Nat->Bool
 |o,[],n=>o==n
 |o,f::fs,n=>f.offset==o&&L.contains f.type&&lq P L (o+P.cellsOf f.type) fs n
def sf(P:Program)(L:List TypeId)(t:TypeId):Bool:=
 match P.underlying t with
 |some .bool|some (.int _)|some .string=>true
 |some (.slice e)=>L.contains e&&decide (0<P.cellsOf e)
 |some (.struct fs)=>lq P L 0 fs.toList (P.cellsOf t)
 |some (.array n e)=>L.contains e&&P.cellsOf t==n*P.cellsOf e
 |_=>false
def lr(P:Program)(L:List TypeId):Bool:=L.all (sf P L)
def mO(q:TypeId->List T->Prop):List TypeId->List T->Prop
 |[],ts=>ts=[]
 |t::sT,ts=>∃a b,ts=a++b/\q t a/\mO q sT b
def iN(P:Program):Nat->TypeId->List T->Prop
 |0,_,_=>False
 |n+1,t,ts=>
  match P.underlying t with
  |some .bool=>∃b,ts=[.bool b]
  |some (.int k)=>∃x,ts=[.int k x]/\(Lit.int k x).wf=true
  |some .string=>∃s,ts=[.str s]/\s.size<=maxLen
  |some (.slice e)=>∃rows,ts=[.sl rows]/\rows.length<=maxLen/\∀r∈rows,iN P n e r
  |some (.struct fs)=>mO (iN P n) (fs.toList.map (·.type)) ts
  |some (.array k e)=>mO (iN P n) (List.replicate k e) ts
  |_=>False
def nO(P:Program)(n:Nat)(t:TypeId)(x:T):Prop:=
 match P.underlying t with
 |some (.struct _)|some (.array _ _)=>∃ts,x=.agg ts/\iN P n t ts
 |_=>iN P n t [x]
def zl(P:Program):List TypeId->List T->Prop
 |[],xs=>xs=[]
 |t::ts,xs=>∃x jJ,xs=x::jJ/\(∃n,nO P n t x)/\zl P ts jJ
section
variable{P:Program}{L:List TypeId}
theorem sg(h:lr P L=true){t:TypeId}(ht:t∈L):sf P L t=true:=ZaI.1 h t ht
theorem tf:∀(fs:List Field) (o n:Nat),lq P L o fs n=true->(∀f∈fs,f.type∈L)/\n=o+(fs.map λf=>P.cellsOf f.type).sum/\∀(j:Nat) f,fs[j]? =some f->f.offset=o+((fs.take j).map λf=>P.cellsOf f.type).sum
 |[],o,n,h=>by
  simp only[lq,beq_iff_eq]at h;exact⟨λ_ h=>(by cases h),by simp[h],λj f h=>by simp at h⟩
 |f::fs,o,n,h=>by
  simp only[lq,Zam,beq_iff_eq,ZbE]at h;obtain⟨⟨h1,h2⟩,h3⟩:=h;obtain⟨k1,k2,k3⟩:=tf fs _ n h3;refine⟨λg hg=>?_, ?_,λj g hg=>?_⟩
  ·rcases Zag.1 hg with rfl|hg
   ·exact h2
   ·exact k1 g hg
  ·rw[k2];simp;omega
  ·cases j with
   |zero=>simp at hg;subst hg;simp[h1]
   |succ j=>
    have:=k3 j g (by simpa using hg);rw[this];simp;omega
theorem J5(h:lr P L=true):Kids P (·∈L):=by
 refine⟨λ{t e} ht hu=>?_,λ{t e} ht hu=>?_,λ{t e n} ht hu=>?_,λ{t fs} ht hu=>?_,λ{t k e} ht hu=>?_⟩;all_goals
  have:=sg h ht;simp only[sf,hu]at this
 ·cases this
 ·simp only[Zam,ZbE]at this;exact this.1
 ·simp only[Zam,ZbE,beq_iff_eq]at this;exact this
 ·obtain⟨k1,k2,k3⟩:=tf _ _ _ this;exact⟨k1,by simpa using k2,λj f hf=>by simpa using k3 j f hf⟩
 ·cases this
theorem Ax{H:Type}{enc:TypeId×Value->H}{w:World}{n:Nat}{sp:Nat->Bool}{held:Bool}{cs:List Value}
  (ih:∀t cs x,t∈L->DataW.trod enc P w 0 sp held n t cs=some x->∃ts,aP w (λ_=>False) ts cs/\iN P n t ts):
  ∀(fs:List Field) (o N:Nat),lq P L o fs N=true->(∀f∈fs,∃x,DataW.trod enc P w 0 sp held n f.type ((cs.drop f.offset).take (P.cellsOf f.type))=some x)->cs.length=N->
   ∃ts,aP w (λ_=>False) ts (cs.drop o)/\mO (iN P n) (fs.map (·.type)) ts
 |[],o,N,h,_,hl=>by
  simp only[lq,beq_iff_eq]at h;exact⟨[],by simp only[aP];rw[Zby (by omega)],rfl⟩
 |f::fs,o,N,h,hx,hl=>by
  simp only[lq,Zam,beq_iff_eq,ZbE]at h;obtain⟨⟨h1,h2⟩,h3⟩:=h;obtain⟨x,OF⟩:=hx f (Za5 ..);obtain⟨a,ha,hta⟩:=ih _ _ _ h2 OF;obtain⟨b,hb,htb⟩:=Ax ih fs _ N h3 (λg hg=>hx g (ZaW _ hg)) hl;refine⟨a++b, ?_,a,b,rfl,hta,htb⟩;have:=aP.append ha hb;rw[h1,<-List.drop_drop,Zbd]at this;exact this
theorem MF{H:Type}{enc:TypeId×Value->H}{w:World}{n:Nat}{sp:Nat->Bool}{held:Bool}{cs:List Value}{e:TypeId}(he:e∈L)
  (ih:∀t cs x,t∈L->DataW.trod enc P w 0 sp held n t cs=some x->∃ts,aP w (λ_=>False) ts cs/\iN P n t ts):
  ∀(k i:Nat),(∀j,i<=j->j<i+k->∃x,DataW.trod enc P w 0 sp held n e ((cs.drop (j*P.cellsOf e)).take (P.cellsOf e))=some x)->cs.length=(i+k)*P.cellsOf e->
   ∃ts,aP w (λ_=>False) ts (cs.drop (i*P.cellsOf e))/\mO (iN P n) (List.replicate k e) ts
 |0,i,_,hl=>by
  exact⟨[],by simp only[aP];rw[Zby (by rw[hl];simp)],rfl⟩
 |k+1,i,hx,hl=>by
  obtain⟨x,OF⟩:=hx i (Zae _) (by omega);obtain⟨a,ha,hta⟩:=ih _ _ _ he OF;obtain⟨b,hb,htb⟩:=MF he ih k (i+1) (λj h1 h2=>hx j (by omega) (by omega)) (by rw[hl];congr 1;omega);refine⟨a++b, ?_,a,b,rfl,hta,htb⟩;have:=aP.append ha hb;rw[show(i+1)*P.cellsOf e=i*P.cellsOf e+P.cellsOf e by rw[Nat.add_mul];omega,<-List.drop_drop,Zbd]at this;exact this
theorem yq{α:Type}{q:Nat->α->Prop}:∀(n:Nat),(∀i,i<n->∃x,q i x)->∃l:List α,l.length=n/\∀i x,l[i]? =some x->q i x
 |0,_=>⟨[],rfl,λi x h=>by simp at h⟩
 |n+1,h=>by
  obtain⟨l,hl,hq⟩:=yq n λi hi=>h i (by omega);obtain⟨x,hx⟩:=h n (by omega);refine⟨l++[x],by simp[hl],λi y hy=>?_⟩;by_cases hi:i<l.length
  ·rw[Zbj hi]at hy;exact hq i y hy
  ·rw[Zbh (by omega)]at hy;have:i=n:=by
    have:=(Zas.1 hy).1;simp at this;omega
   subst this;simp[hl]at hy;subst hy;exact hx
theorem sh{w:World}{a:Addr}{n:Nat}{cs:List Value}(h:w.cells? 0 a n=some cs):cs.length=n/\∀j v,cs[j]? =some v->w.cell? (a.add j)=some v:=by
 simp only[World.cells?,Zbf,if_true]at h;refine⟨by simpa using mapM_some_length h,λj v hj=>?_⟩;have cW:j<n:=by
  have:=(Zas.1 hj).1;have h2:=mapM_some_length h;simp at h2;omega
 have:=mapM_some_get h j j (by simp[cW]);rw[hj]at this;simpa using this.symm
where
 mapM_some_length {α β:Type} {f:α->Option β} {l:List α} {r:List β} (h:l.mapM f=some r):r.length=l.length:=by
  induction l generalizing r with
  |nil=>simp at h;simp[h]
  |cons x l ih=>
   simp only[Za2,Zaj,Zaf,Zac,Zaa]at h;obtain⟨y,_,ys,oa,rfl⟩:=h;simp[ih oa]
 mapM_some_get {α β:Type} {f:α->Option β} {l:List α} {r:List β} (h:l.mapM f=some r) (i:Nat) (x:α) (hx:l[i]? =some x):r[i]? =f x:=by
  induction l generalizing r i with
  |nil=>simp at hx
  |cons y l ih=>
   simp only[Za2,Zaj,Zaf,Zac,Zaa]at h;obtain⟨z,hz,ys,oa,rfl⟩:=h;cases i with
   |zero=>simp at hx;subst hx;simp[hz]
   |succ i=>simpa using ih oa i (by simpa using hx)
theorem MG{w:World}{a:Addr}{v:Value}(h:w.cell? a=some v):a.block<w.heap.size/\a.spot=none:=by
 unfold World.cell? at h;split at h
 ·rename_i c e f hb;split at h
  ·cases h
  ·rename_i hs;exact⟨(Zai.1 hb).1,by simpa using hs⟩
 ·cases h
theorem add_zero(a:Addr):a.add 0=a:=by simp[Addr.add]
theorem GC(b o k:Nat):(⟨b,o,none⟩:Addr).add k=⟨b,o+k,none⟩:=by
 unfold Addr.add;by_cases h:k=0<;>simp[h]
theorem Q2{H:Type}{enc:TypeId×Value->H}{w:World}{sp:Nat->Bool}{held:Bool}(hL:lr P L=true):∀(n:Nat) (t:TypeId) (cs:List Value) (x:DataW H×List MemPlace),t∈L->
  DataW.trod enc P w 0 sp held n t cs=some x->∃ts,aP w (λ_=>False) ts cs/\iN P n t ts:=by
 intro n;induction n with
 |zero=>intro t cs x _ h;simp[DataW.trod]at h
 |succ n ih=>
  intro t cs x ht h;have hp:=sg hL ht;have one:∀{y:T} {v:Value},v.oneCell'=true->aR w (λ_=>False) y v->aP w (λ_=>False) [y] [v]:=λh1 h2=>by simp only[aP];exact⟨_,_,rfl,h1,h2,rfl⟩
  unfold sf at hp;split at hp
  ·rename_i hu;obtain⟨b,rfl,rfl⟩:∃b,cs=[.bool b]/\x=(.lit (.bool b),[]):=by
    unfold DataW.trod at h;rw[hu]at h;split at h<;>simp_all
   exact⟨[.bool b],one rfl (by simp[aR]),by simp[iN,hu]⟩
  ·rename_i k hu;obtain⟨m,rfl,rfl,hw⟩:=DataW.trod_int hu h;exact⟨[.int k m],one rfl (by simp[aR]),by simp[iN,hu,hw]⟩
  ·rename_i hu;obtain⟨s,rfl,rfl,hs⟩:=DataW.trod_string hu h;exact⟨[.str s],one rfl (by simp[aR]),by simp[iN,hu,hs]⟩
  ·rename_i e hu;simp only[Zam,ZbE,decide_eq_true_eq]at hp;obtain⟨he,N4⟩:=hp;rcases DataW.trod_slice hu h with⟨rfl,rfl⟩|⟨a,len,cap,elems,rest,m,hm,rfl,rfl,_,hlc,pb,hel,pj,_,_⟩
   ·exact⟨[.sl []],one rfl (by simp[aR]),by simp[iN,hu]⟩
   ·obtain rfl:n=m:=by omega
    have lW:∀i,i<len->∃r:List T,(∃qI,w.cells? 0 (a.add (i*P.cellsOf e)) (P.cellsOf e)=some qI/\aP w (λ_=>False) r qI)/\iN P n e r:=by
     intro i hi;have h1:=pj i hi;have h2:∃y,elems[i]? =some y:=⟨elems[i],Zan (by omega)⟩;obtain⟨y,hy⟩:=h2;rw[hy]at h1;obtain⟨qI,h3,h4⟩:=Zac.1 h1;obtain⟨ts,h5,h6⟩:=ih e qI y he h4;exact⟨ts,⟨qI,h3,h5⟩,h6⟩
    obtain⟨rows,hlen,hq⟩:=yq len lW;refine⟨[.sl rows], ?_, ?_⟩
    ·simp only[aP];refine⟨_,[],rfl,rfl, ?_,rfl⟩;simp only[aR];cases rows with
     |nil=>
      simp at hlen;subst hlen;exact .inl ⟨rfl,_,_,rfl⟩
     |cons r0 rows=>
      right;obtain⟨⟨cs0,h3,h4⟩,_⟩:=hq 0 r0 rfl;obtain⟨h5,h6⟩:=sh h3;have PU:∃v,cs0[0]? =some v:=⟨cs0[0],Zan (by omega)⟩;obtain⟨v0,hv0⟩:=PU;have h60:=h6 0 v0 hv0;simp only[Zcn,add_zero]at h60;obtain⟨hb,hs⟩:=MG h60;obtain⟨b,o,sp'⟩:=a;simp only at hb hs;subst hs;have dI:∀i r,(r0::rows)[i]? =some r->r.length=P.cellsOf e/\cV w (λ_=>False) b (o+i*P.cellsOf e) r:=by
       intro i r hr;obtain⟨⟨qI,h3,h4⟩,_⟩:=hq i r hr;obtain⟨h5,h6⟩:=sh h3;refine⟨by rw[<-aP.length h4,h5],cV.o9 h4 λj v hj=>?_⟩;have h7:=h6 j v hj;rw[GC,GC]at h7;exact h7
      exact⟨b,o,cap,P.cellsOf e,by rw[hlen],hb,λh=>h,by omega,aX.ze _ _ dI⟩
    ·simp only[iN,hu];refine⟨rows,rfl,by omega,λr hr=>?_⟩;obtain⟨i,hi⟩:=ZbH hr;exact(hq i r hi).2
  ·rename_i fs hu;obtain⟨xs,m,hm,rfl,hl,sc,hf⟩:=DataW.trod_struct hu h;obtain rfl:n=m:=by omega
   obtain⟨ts,h1,h2⟩:=Ax (cs:=cs) ih fs.toList 0 _ hp (λf hfm=>by
    obtain⟨i,hi⟩:=ZbH hfm;have nj:fs[i]? =some f:=by simpa using hi
    have:=hf i f nj;have cW:i<xs.length:=by rw[sc];exact(Zai.1 nj).1
    rw[Zan cW]at this;exact⟨_,this⟩) hl
   exact⟨ts,by simpa using h1,by simpa [iN,hu]using h2⟩
  ·rename_i k e hu;simp only[Zam,ZbE,beq_iff_eq]at hp;have key:cs.length=P.cellsOf t/\∀i,i<k->∃y,DataW.trod enc P w 0 sp held n e ((cs.drop (i*P.cellsOf e)).take (P.cellsOf e))=some y:=by
    unfold DataW.trod at h;rw[hu]at h;split at h<;>simp_all
    obtain⟨hl,xs,Mo,_⟩:=h;intro i hi;have:=sh.mapM_some_get Mo i i (by simp[hi]);have cW:i<xs.length:=by rw[sh.mapM_some_length Mo];simp[hi]
    rw[Zan cW]at this;exact⟨_,_,this.symm⟩
   obtain⟨ts,h1,h2⟩:=MF (cs:=cs) hp.1 ih k 0 (λj _ hj=>key.2 j (by omega)) (by rw[key.1,hp.2];simp);exact⟨ts,by simpa using h1,by simpa [iN,hu]using h2⟩
  ·cases hp
theorem Xs{H:Type}{enc:TypeId×Value->H}{w:World}{sp:Nat->Bool}{held:Bool}(hL:lr P L=true){t:TypeId}(ht:t∈L){v:Value}{base:Nat}(hv:Value.okWide P w .any base t v){d:DataW H}{ps:List MemPlace}
  (h:DataW.Trod enc P w 0 sp held t v d ps):∃x,aR w (λ_=>False) x v/\∃n,nO P n t x:=by
 obtain⟨n,h⟩:=h;obtain⟨ts,h1,h2⟩:=Q2 hL n t _ _ ht h;have hp:=sg hL ht;have single:(∀cs,v≠ .agg cs)->∃x,ts=[x]/\aR w (λ_=>False) x v:=by
  intro bG;have hc:v.cells.toList=[v]:=by cases v<;>first|rfl|exact absurd rfl (bG _)
  rw[hc]at h1;cases ts with
  |nil=>simp only[aP]at h1;cases h1
  |cons x xs=>
   simp only[aP]at h1;obtain⟨_,_,e,_,hr,jI⟩:=h1;simp only[Za6]at e;obtain⟨rfl,rfl⟩:=e;have:=aP.length jI;simp at this;have e:xs=[]:=ZaD this.symm;exact⟨x,by rw[e],hr⟩
 have agg:(∃cs,v=.agg cs)->∃x,x=T.agg ts/\aR w (λ_=>False) x v:=by
  rintro⟨cs,rfl⟩;exact⟨_,rfl,by simp only[aR];exact⟨cs,rfl,by simpa [Value.cells]using h1⟩⟩
 unfold sf at hp;split at hp
 ·rename_i hu;obtain⟨b,rfl⟩:=okWide_bool hu hv;obtain⟨x,rfl,hr⟩:=single (λ_ h=>by cases h);exact⟨x,hr,n,by simp only[nO,hu];exact h2⟩
 ·rename_i k hu;obtain⟨b,rfl⟩:=okWide_int hu hv;obtain⟨x,rfl,hr⟩:=single (λ_ h=>by cases h);exact⟨x,hr,n,by simp only[nO,hu];exact h2⟩
 ·rename_i hu;obtain⟨b,rfl⟩:=okWide_string hu hv;obtain⟨x,rfl,hr⟩:=single (λ_ h=>by cases h);exact⟨x,hr,n,by simp only[nO,hu];exact h2⟩
 ·rename_i e hu;obtain⟨a,l,c,rfl⟩:=okWide_slice hu hv;obtain⟨x,rfl,hr⟩:=single (λ_ h=>by cases h);exact⟨x,hr,n,by simp only[nO,hu];exact h2⟩
 ·rename_i fs hu;obtain⟨cs,rfl,_⟩:=okWide_struct hu hv;obtain⟨x,rfl,hr⟩:=agg ⟨_,rfl⟩;exact⟨_,hr,n,by simp only[nO,hu];exact⟨_,rfl,h2⟩⟩
 ·rename_i k e hu;have:∃cs,v=.agg cs:=by
   simp only[Value.okWide,hu]at hv;cases v<;>simp_all
  obtain⟨cs,rfl⟩:=this;obtain⟨x,rfl,hr⟩:=agg ⟨_,rfl⟩;exact⟨_,hr,n,by simp only[nO,hu];exact⟨_,rfl,h2⟩⟩
 ·cases hp
theorem GD{H:Type}{enc:TypeId×Value->H}{w:World}{sp:Nat->Bool}{held:Bool}(hL:lr P L=true){base:Nat}:∀{sT:List TypeId} {vs:List Value} {ds:List (DataW H)} {ps:List MemPlace},(∀t∈sT,t∈L)->
  (∀(j:Nat) t v,sT[j]? =some t->vs[j]? =some v->Value.okWide P w .any base t v)->DataW.TrodAll enc P w 0 sp held sT vs ds ps->∃xs,dw w (λ_=>False) xs vs/\zl P sT xs
 |[],vs,ds,ps,_,_,h=>by
  obtain⟨rfl,rfl,rfl⟩:=trodAll_nil h;exact⟨[],by simp[dw],rfl⟩
 |t::sT,vs,ds,ps,ht,hv,h=>by
  obtain⟨v,vs1,d,ds1,a,b,rfl,rfl,rfl,h1,h2⟩:=trodAll_cons h;obtain⟨x,k1,k2⟩:=Xs hL (ht t (Za5 ..)) (hv 0 t v rfl rfl) h1;obtain⟨xs,k3,k4⟩:=GD hL (λu hu=>ht u (ZaW _ hu)) (λj u y h1 h2=>hv (j+1) u y (by simpa using h1) (by simpa using h2)) h2;exact⟨x::xs,by simp only[dw];exact⟨v,vs1,rfl,k1,k3⟩,x,xs,rfl,k2,k4⟩
theorem Ay{H:Type}{enc:TypeId×Value->H}{w w':World}{sp':Nat->Bool}{held:Bool}(hL:lr P L=true)(Y1:held=true):∀{sT:List TypeId} {vs:List Value} {ds:List (DataW H)} {ps:List MemPlace},(∀t∈sT,t∈L)->
  DataW.TrodAll enc P w 0 (λ_=>true) held sT vs ds ps->(∀p∈ps,w.sameAt w' p)->(∀p∈ps,sp' p.block=true)->DataW.TrodAll enc P w' 0 sp' held sT vs ds ps
 |[],vs,ds,ps,_,h,_,_=>by
  obtain⟨rfl,rfl,rfl⟩:=trodAll_nil h;exact trodAll_mk0
 |t::sT,vs,ds,ps,ht,h,h1,h2=>by
  obtain⟨v,vs1,d,ds1,a,b,rfl,rfl,rfl,⟨n,k1⟩,k2⟩:=trodAll_cons h;refine trodAll_cons_mk ⟨n,DataW.trod_stays (J5 hL) (λ{t e} ht hu=>?_) (λh=>by rw[Y1]at h;cases h) (ht t (Za5 ..)) k1 (λp hp=>h1 p (List.mem_append_left _ hp)) (λp hp=>h2 p (List.mem_append_left _ hp))⟩
   (Ay hL Y1 (λu hu=>ht u (ZaW _ hu)) k2 (λp hp=>h1 p (List.mem_append_right _ hp)) (λp hp=>h2 p (List.mem_append_right _ hp)))
  have:=sg hL ht;simp only[sf,hu,Zam,decide_eq_true_eq]at this;exact this.2
theorem GF{H:Type}{enc:TypeId×Value->H}{w:World}{b:Nat}{sp:Nat->Bool}{held:Bool}:∀{sT:List TypeId} {vs:List Value} {ds:List (DataW H)} {ps:List MemPlace},DataW.TrodAll enc P w b sp held sT vs ds ps->ds.length=sT.length
 |[],vs,ds,ps,h=>by
  obtain⟨rfl,rfl,rfl⟩:=trodAll_nil h;rfl
 |t::sT,vs,ds,ps,h=>by
  obtain⟨v,vs1,d,ds1,a,b,rfl,rfl,rfl,h1,h2⟩:=trodAll_cons h;simp[GF h2]
theorem Ew{H:Type}{enc:TypeId×Value->H}{W:World}{base:Nat}{args:Array Value}{ds gs:List (DataW H)}{before:List MemPlace}{f:FuncId}{fn:Func}{s:ChangeSpec}{tb:TypeId}{apart fresh handsOn again:Bool}
  (hL:lr P L=true) (GG:∀t∈fn.params.toList,t∈L) (OG:fn.resultTypes= #[tb]) (hb:P.underlying tb=some .bool) (Y2:s.vars=[]) (wo:∀ds:List (DataW H),ds.length=fn.params.size->s.fn H ds={results:=[.lit (.bool true)],args:=ds})
  (pf:∀xs,zl P fn.params.toList xs->aT P f xs (.bool true))
  (cY:∀(j:Nat) t v,fn.params[j]? =some t->args[j]? =some v->Value.okWide P W .any base t v)
  (hW:DataW.Whole enc P fn.params.toList s.vars apart W args.toList ds gs before) (hg:zN W λ_=>False):
  Calls P f args W λe W'=>∃v,e=.returned v/\s.post enc P fn apart fresh handsOn again W args v W':=by
 have hW':=hW;obtain⟨p,q,hA,hV,rfl,hfz,y7⟩:=hW;rw[Y2]at hV;obtain⟨rfl,rfl⟩:=trodVars_none hV;obtain⟨xs,hr,hx⟩:=GD hL GG (λj t v h1 h2=>cY j t v (by simpa using h1) (by simpa using h2)) hA;have hlen:ds.length=fn.params.size:=by
  have:=GF hA;simpa using this
 refine((pf xs hx).calls hg hr).mono ?_;rintro e w' ⟨v,rfl,MH,hv⟩;simp only[aR]at hv;subst hv;have cW:=hW'.lt;have uU:∀sp:Nat->Bool,(∀x∈p,sp x.block=true)->DataW.TrodAll enc P w' 0 sp true fn.params.toList args.toList ds p:=λsp uO=>
  Ay hL rfl GG hA (λx hx=>MH.same (cW x (by simpa using hx))) uO
 have jI:∀(b:Nat) (sp:Nat->Bool) (hd:Bool),DataW.TrodAll enc P w' b sp hd fn.resultTypes.toList ((Value.bool true).resultList fn.resultTypes.size) [.lit (.bool true)] []:=λb sp hd=>by
  rw[OG];exact trodAll_cons_mk (shut_bool hb _) trodAll_mk0
 have he:s.fn H (ds++[])={results:=[.lit (.bool true)],args:=ds}:=by rw[ZaJ];exact wo ds hlen
 have hv0:∀sp:Nat->Bool,DataW.TrodVars enc P w' sp s.vars [] []:=λsp=>by rw[Y2];rfl
 have hev:(s.fn H (ds++[])).vars=[]:=by rw[he]
 refine⟨_,rfl,ds,[],p++[],[],p,[],hW',by rw[he];exact jI _ _ _,by rw[he];exact uU _ (λx hx=>by simpa using cW x (by simpa using hx)),by rw[hev];exact hv0 _,MH.frame _,λ_=>?_⟩;refine⟨ok_one OG rfl (okWide_bool_mk hb _),_,_,([]++p)++[],⟨[]++p,[],trodAll_append (uU _ (λ_ _=>rfl)) (jI _ _ _),hv0 _,rfl, ?_, ?_⟩, ?_⟩
 ·intro b off hp;rw[MH.frozen (cW _ (by simpa using hp))];exact hfz b off (by simpa using hp)
 ·intro ha;simpa using y7 ha
 ·intro x hx _;simpa using hx
end
inductive Ty where
 |bool|int (k:IntKind)|str
 |slice (e:Ty)
 |seq (fs:List Ty)
mutual
def Ty.has:Ty->List T->Prop
 |.bool,ts=>∃b,ts=[.bool b]
 |.int k,ts=>∃x,ts=[.int k x]/\(Lit.int k x).wf=true
 |.str,ts=>∃s,ts=[.str s]/\s.size<=maxLen
 |.slice e,ts=>∃rows,ts=[.sl rows]/\rows.length<=maxLen/\∀r∈rows,e.has r
 |.seq fs,ts=>Ty.hasAll fs ts
def Ty.hasAll:List Ty->List T->Prop
 |[],ts=>ts=[]
 |t::sT,ts=>∃a b,ts=a++b/\t.has a/\Ty.hasAll sT b
end
def Ty.arg:Ty->T->Prop
 |.seq fs,x=>∃ts,x=.agg ts/\Ty.hasAll fs ts
 |ty,x=>ty.has [x]
def Ty.args:List Ty->List T->Prop
 |[],xs=>xs=[]
 |t::sT,xs=>∃x jJ,xs=x::jJ/\t.arg x/\Ty.args sT jJ
def po(P:Program):Nat->TypeId->Option Ty
 |0,_=>none
 |n+1,t=>
  match P.underlying t with
  |some .bool=>some .bool
  |some (.int k)=>some (.int k)
  |some .string=>some .str
  |some (.slice e)=>(po P n e).map .slice
  |some (.struct fs)=>(u7 (po P n) (fs.toList.map (·.type))).map .seq
  |some (.array k e)=>(po P n e).map λx=>.seq (List.replicate k x)
  |_=>none
where
 u7 (q:TypeId->Option Ty):List TypeId->Option (List Ty)
 |[]=>some []
 |t::ts=>match q t,u7 q ts with
  |some x,some xs=>some (x::xs)
  |_,_=>none
section
variable{P:Program}
theorem wU:∀(m n:Nat) (t:TypeId) (ty:Ty) (ts:List T),po P m t=some ty->iN P n t ts->ty.has ts:=by
 intro m;induction m with
 |zero=>intro n t ty ts h;simp[po]at h
 |succ m ih=>
  intro n t ty ts h hs;cases n with
  |zero=>exact hs.elim
  |succ n=>
   unfold po at h;unfold iN at hs;split at h
   ·rename_i hu;rw[hu]at hs;cases h;simpa [Ty.has]using hs
   ·rename_i hu;rw[hu]at hs;cases h;simpa [Ty.has]using hs
   ·rename_i hu;rw[hu]at hs;cases h;simpa [Ty.has]using hs
   ·rename_i e hu;rw[hu]at hs;obtain⟨x,hx,rfl⟩:=Zab.1 h;obtain⟨rows,rfl,h1,h2⟩:=hs;simp only[Ty.has];exact⟨rows,rfl,h1,λr hr=>ih n e x r hx (h2 r hr)⟩
   ·rename_i fs hu;rw[hu]at hs;obtain⟨x,hx,rfl⟩:=Zab.1 h;simp only[Ty.has];have key:∀(sT:List TypeId) (xs:List Ty) (ts:List T),po.u7 (po P m) sT=some xs->mO (iN P n) sT ts->Ty.hasAll xs ts:=by
     intro sT;induction sT with
     |nil=>intro xs ts h hs;simp only[po.u7,Zaa]at h;subst h;simpa [Ty.hasAll,mO]using hs
     |cons u sT Ot=>
      intro xs ts h hs;simp only[po.u7]at h;split at h
      ·rename_i y ys hy oa;cases h;simp only[mO]at hs;obtain⟨a,b,rfl,h1,h2⟩:=hs;simp only[Ty.hasAll];exact⟨a,b,rfl,ih n u y a hy h1,Ot ys b oa h2⟩
      ·cases h
    exact key _ _ _ hx hs
   ·rename_i k e hu;rw[hu]at hs;obtain⟨x,hx,rfl⟩:=Zab.1 h;simp only[Ty.has];have key:∀(k:Nat) (ts:List T),mO (iN P n) (List.replicate k e) ts->Ty.hasAll (List.replicate k x) ts:=by
     intro k;induction k with
     |zero=>intro ts hs;simpa [Ty.hasAll,mO]using hs
     |succ k Ot=>
      intro ts hs;simp only[Za7,mO]at hs;obtain⟨a,b,rfl,h1,h2⟩:=hs;simp only[Za7,Ty.hasAll];exact⟨a,b,rfl,ih n e x a hx h1,Ot b h2⟩
    exact key k ts hs
   ·cases h
theorem arg_of{m n:Nat}{t:TypeId}{ty:Ty}{x:T}(h:po P m t=some ty)(hs:nO P n t x):ty.arg x:=by
 cases m with
 |zero=>simp[po]at h
 |succ m=>
  have h0:=h;unfold po at h;unfold nO at hs;split at h
  ·rename_i hu;rw[hu]at hs;cases h;exact wU _ _ _ _ _ h0 hs
  ·rename_i hu;rw[hu]at hs;cases h;exact wU _ _ _ _ _ h0 hs
  ·rename_i hu;rw[hu]at hs;cases h;exact wU _ _ _ _ _ h0 hs
  ·rename_i e hu;rw[hu]at hs;obtain⟨y,hy,rfl⟩:=Zab.1 h;exact wU _ _ _ _ _ h0 hs
  ·rename_i fs hu;rw[hu]at hs;obtain⟨y,hy,rfl⟩:=Zab.1 h;obtain⟨ts,rfl,h2⟩:=hs;have:=wU _ _ _ _ _ h0 h2;simp only[Ty.has]at this;exact⟨ts,rfl,this⟩
  ·rename_i k e hu;rw[hu]at hs;obtain⟨y,hy,rfl⟩:=Zab.1 h;obtain⟨ts,rfl,h2⟩:=hs;have:=wU _ _ _ _ _ h0 h2;simp only[Ty.has]at this;exact⟨ts,rfl,this⟩
  ·cases h
theorem MI{m:Nat}:∀{sT:List TypeId} {l:List Ty} {xs:List T},po.u7 (po P m) sT=some l->zl P sT xs->Ty.args l xs
 |[],l,xs,h,hs=>by simp only[po.u7,Zaa]at h;subst h;exact hs
 |t::sT,l,xs,h,hs=>by
  simp only[po.u7]at h;split at h
  ·rename_i y ys hy oa;cases h;obtain⟨x,jJ,rfl,⟨n,h1⟩,h2⟩:=hs;exact⟨x,jJ,rfl,arg_of hy h1,MI oa h2⟩
  ·cases h
end
end Go.DM
namespace Go.Proofs
open Go.DM
instance seatLaid:Laid:=⟨[(0,[.int .i64 (1099511627776),.int .i64 (0),.int .i64 (-1),.int .i64 (0)])]⟩
def d12r0:List RO:=[
 o (.box (t 0)) 1 [],
 o (.alloc [(.v (.int .i64 0)),.aI,.aI]) 2 []]
def d12r1:List RO:=[
 L 3 1 11 [],
 o (.mkMap [(.int .i64),(.int .i64),(.int .i64)] true) 12 [],
 o (.build [.aI,.aI,(.v (.int .i64 0)),(.v (.raw (Go.Value.map Option.none)))] [(0,3,(t 11)),(3,1,(t 12))]) 13 [0,1],
 o (.box (t 13)) 14 [2],
 m 14 3 [3,0,1,2,3]]
def d12r2:List RO:=[
 a 0 1 15 [],
 l 15 16 [0],
 o (.len (t 16)) 17 [1],
 m 17 4 [2,0,1,2]]
def K3:List RO:=[
 n 4 18,
 o (.bin .mul (i 2) (t 18)) 19 [0],
 o (.bin .add (t 19) (i 1)) 20 [1],
 o (.bslice 1 1 [(.v (.int .i64 0))] [(0,1,(i 1099511627776))]) 21 [],
 n 4 22,
 o (.bin .mul (i 2) (t 22)) 23 [4],
 o (.bin .add (t 23) (i 1)) 24 [5],
 o (.callF 48 [(t 21),(t 24)]) 25 [3,6],
 o (.build [(.v (.int .i64 0)),.aI,.aI] [(0,1,(t 20)),(2,1,(t 25))]) 26 [2,7],
 o (.alloc [(.v (.int .i64 0)),.aI,.aI]) 5 [],
 S 3 5 26 (k [9,8,7] 9)]
def d12r3:List RO:=K3.map bare
def d12r4:List RO:=[
 n 4 27,
 o (.bin .add (t 27) (i 1)) 28 [0],
 o (.bP (i 0)) 29 []]
def d12r5:List RO:=[
 b .lss 29 28 30 []]
def d12r6:List RO:=[
 n 29 31,
 m 31 6 [0,0]]
def K4:List RO:=[
 n 3 32,
 n 6 33,
 o (.callS 49 [(t 32),(t 33)]) 34 [0,1]]
def d12r7:List RO:=K4.map bare
def d12r8:List RO:=[
 a 2 5 36 [],
 l 36 37 [0],
 n 6 38,
 o (.bin .mul (i 2) (t 38)) 39 [2],
 n 3 40,
 n 6 41,
 n 4 42,
 o (.call 50 [(t 40),(t 41),(t 42)]) 43 [4,5,6],
 m 43 35 [7],
 e 0 35 44 [8],
 e 1 35 45 [8],
 x 1 37 39 46 (k [1,3] 9),
 S 1 46 44 (k [11,9,7] 9)]
def d12r9:List RO:=[
 o (.bin .add (t 29) (i 1)) 47 [],
 m 47 29 [0]]
def Uc:List RO:=[
 o (.bP (.cq .aI)) 7 []]
def Ud:List RO:=[
 n 3 48,
 c 48 49 [0],
 a 3 49 50 [1],
 l 50 51 [2],
 o (.rangeM (t 51)) 52 [3]]
def Ue:List RO:=[
 o (.entryM (t 52)) 55 [],
 e 0 55 56 [0],
 o (.alloc [(.v (.int .i64 0)),(.v (.int .i64 0)),(.v (.int .i64 0))]) 8 [],
 S 3 8 56 [2,1,0,1,2]]
def Uf:List RO:=[
 n 7 57,
 L 3 8 58 [],
 o (.bslice 1 3 [(.v (.int .i64 0)),(.v (.int .i64 0)),(.v (.int .i64 0))] [(0,3,(t 58))]) 59 [1],
 o (.append 106 3 24 (t 57) (t 59)) 60 [0,2],
 m 60 7 [3,3,0,1,2,3]]
def Fe:List RO:=[
 n 7 61,
 o (.callS 51 [(t 61),(.cq (.v (.fn (.func 52) [])))]) 62 [0]]
def d12r14:List RO:=Fe.map bare
def Ug:List RO:=[
 n 7 63,
 o (.len (t 63)) 64 [0],
 o (.bP (i 0)) 65 []]
def Uh:List RO:=[
 b .lss 65 64 66 []]
def Ui:List RO:=[
 x 3 63 65 67 [],
 L 3 67 68 [0],
 o (.alloc [(.v (.int .i64 0)),(.v (.int .i64 0)),(.v (.int .i64 0))]) 10 [],
 S 3 10 68 [2,1,0,1,2]]
def Uj:List RO:=[
 a 1 5 69 [],
 l 69 70 [0],
 n 3 71,
 c 71 72 [2],
 a 3 72 73 [3],
 l 73 74 [4],
 L 3 10 75 [],
 o (.lookup [(.int .i64),(.int .i64),(.int .i64)] true (.agg [(.v (.int .i64 0)),(.v (.int .i64 0)),(.v (.int .i64 0)),(.v (.int .i64 0)),.aI]) false (t 74) (t 75)) 76 [5,6],
 o (.bslice 1 5 [(.v (.int .i64 0)),(.v (.int .i64 0)),(.v (.int .i64 0)),(.v (.int .i64 0)),.aI] [(0,5,(t 76))]) 77 [7],
 o (.append 77 5 56 (t 70) (t 77)) 78 [1,8],
 a 1 5 79 (k [] 9),
 S 1 79 78 (k [10,9,9] 9)]
def Uk:List RO:=[
 o (.bin .add (t 65) (i 1)) 80 [],
 m 80 65 [0]]
def Ul:List RO:=[
 L 3 5 81 [],
 S 3 2 81 [0,0]]
def d12:DC:=(j (y d12r0)
 (j (y d12r1)
 (j (y d12r2)
 (j (y d12r3)
 (j (j (y d12r4)
 (.block 0 (.loop (j (y d12r5)
 (j (.cond (.tmp 30) .skip
 (.exit 0))
 (j (.block 1 (j (y d12r6)
 (j (y d12r7)
 (Y d12r8))))
 (y d12r9)))))))
 (j (y Uc)
 (j (j (y Ud)
 (.block 2 (.loop (j (.MB (.tmp 52) 53 54)
 (j (.cond (.tmp 54) .skip
 (.exit 2))
 (.block 3 (j (y Ue)
 (y Uf))))))))
 (j (y d12r14)
 (j (j (y Ug)
 (.block 4 (.loop (j (y Uh)
 (j (.cond (.tmp 66) .skip
 (.exit 4))
 (j (.block 5 (j (y Ui)
 (Y Uj)))
 (y Uk)))))))
 (j (y Ul)
 .ret))))))))))
def Um:List bN:=[.cell 2 3 true]
theorem c12 [Laid]:aQ Tryz.prog 32 82 d12 Um:=⟨Tryz.f32,by kernel_rfl,by kernel_rfl,by kernel_rfl,by kernel_rfl,by kernel_rfl⟩
def d30r0:List RO:=[
 n 0 12,
 c 12 13 [0],
 a 0 13 14 [1],
 a 0 14 15 [2],
 l 15 16 [3],
 o (.len (t 16)) 17 [4],
 m 17 4 (k [5] 5)]
def d30r1:List RO:=[
 n 1 18,
 m 18 5 [0,0]]
def d30r2:List RO:=[
 n 5 19,
 n 4 20,
 b .leq 19 20 21 [0,1]]
def K5:List RO:=[
 n 0 25,
 n 1 26,
 n 5 27,
 o (.callS 50 [(t 25),(t 26),(t 27)]) 28 [0,1,2],
 m 28 24 [3],
 e 0 24 29 [4],
 e 1 24 30 [4],
 m 29 6 (k [5,3] 5),
 m 30 7 (k [6,7] 7)]
def d30r3:List RO:=K5.map bare
def d30r4:List RO:=[
 n 5 31,
 n 1 32,
 b .gtr 31 32 33 [0,1]]
def K6:List RO:=[
 n 0 35,
 n 1 36,
 n 5 37,
 o (.bin .sub (t 37) (i 1)) 38 [2],
 o (.callS 50 [(t 35),(t 36),(t 38)]) 39 [0,1,3],
 m 39 34 [4],
 e 0 34 40 [5],
 e 1 34 41 [5],
 m 40 8 (k [6,4] 6),
 m 41 9 (k [7,8] 8)]
def d30r5:List RO:=K6.map bare
def K7:List RO:=[
 n 0 42,
 n 1 43,
 n 5 44,
 o (.bin .sub (t 44) (i 1)) 45 [2],
 n 8 46,
 n 9 47,
 o (.callS 72 [(t 42),(t 43),(t 45),(t 46),(t 47)]) 48 [0,1,3,4,5]]
def d30r6:List RO:=K7.map bare
def d30r7:List RO:=[
 n 0 49,
 c 49 50 [0],
 a 0 50 51 [1],
 a 1 51 52 [2],
 l 52 53 [3],
 o (.len (t 53)) 54 [4],
 o (.bP (i 0)) 55 []]
def d30r8:List RO:=[
 b .lss 55 54 56 []]
def d30r9:List RO:=[
 n 55 57,
 x 1 53 55 58 [],
 l 58 59 [1],
 m 57 10 [0,0,1,2],
 m 59 11 [2,3,0,1,2,3]]
def Ff:List RO:=[
 n 0 60,
 n 1 61,
 o (.bin .mul (i 2) (t 61)) 62 [1],
 n 5 63,
 o (.bin .mul (i 2) (t 63)) 64 [3],
 n 10 65,
 n 6 66,
 n 11 67,
 b .add 66 67 68 [6,7],
 n 7 69,
 o (.callF 74 [(t 69)]) 70 [9],
 n 10 71,
 o (.build [(.v (.int .i64 0)),(.v (.int .i64 0))] [(0,1,(i 3)),(1,1,(t 71))]) 72 [11],
 o (.bslice 1 2 [(.v (.int .i64 0)),(.v (.int .i64 0))] [(0,2,(t 72))]) 73 [12],
 o (.append 75 2 16 (t 70) (t 73)) 74 [10,13,10],
 o (.build [(.v (.int .i64 0)),(.v (.int .i64 0)),(.v (.int .i64 0)),(.v (.int .i64 0)),.aI] [(0,1,(t 62)),(1,1,(t 64)),(2,1,(t 65)),(3,1,(t 68)),(4,1,(t 74))]) 75 [2,4,5,8,14],
 o (.callS 73 [(t 60),(t 75)]) 76 [0,15,14]]
def d30r10:List RO:=Ff.map bare
def Un:List RO:=[
 o (.bin .add (t 55) (i 1)) 77 [],
 m 77 55 [0]]
def Fg:List RO:=[
 n 0 78,
 n 5 79,
 o (.callS 75 [(t 78),(t 79)]) 80 [0,1]]
def d30r12:List RO:=Fg.map bare
def Fh:List RO:=[
 n 0 81,
 n 1 82,
 o (.bin .mul (i 2) (t 82)) 83 [1],
 n 5 84,
 o (.bin .mul (i 2) (t 84)) 85 [3],
 o (.bin .add (t 85) (i 1)) 86 [4],
 n 0 87,
 c 87 88 [6],
 a 0 88 89 [7],
 a 0 89 90 [8],
 l 90 91 [9],
 n 5 92,
 o (.bin .add (t 92) (i 1)) 93 [11],
 x 3 91 93 94 [10,12],
 a 0 94 95 [13],
 l 95 96 [14],
 n 6 97,
 n 0 98,
 c 98 99 [17],
 a 0 99 100 [18],
 a 2 100 101 [19],
 l 101 102 [20],
 b .add 97 102 103 [16,21],
 n 7 104,
 o (.callF 74 [(t 104)]) 105 [23],
 o (.build [(.v (.int .i64 0)),(.v (.int .i64 0))] [(0,1,(i 4))]) 106 [],
 o (.bslice 1 2 [(.v (.int .i64 0)),(.v (.int .i64 0))] [(0,2,(t 106))]) 107 [25],
 o (.append 75 2 16 (t 105) (t 107)) 108 [24,26,24],
 o (.build [(.v (.int .i64 0)),(.v (.int .i64 0)),(.v (.int .i64 0)),(.v (.int .i64 0)),.aI] [(0,1,(t 83)),(1,1,(t 86)),(2,1,(t 96)),(3,1,(t 103)),(4,1,(t 108))]) 109 [2,5,15,22,27],
 o (.callS 73 [(t 81),(t 109)]) 110 [0,28,27]]
def d30r13:List RO:=Fh.map bare
def Uo:List RO:=[
 n 5 22,
 o (.bin .add (t 22) (i 1)) 23 [0],
 m 23 5 [1,0,1]]
def Fi:List RO:=[
 n 0 111,
 n 1 112,
 o (.callS 75 [(t 111),(t 112)]) 113 [0,1]]
def d30r15:List RO:=Fi.map bare
def Fj:List RO:=[
 n 0 114,
 n 1 115,
 o (.bin .mul (i 2) (t 115)) 116 [1],
 o (.bin .add (t 116) (i 1)) 117 [2],
 n 1 118,
 o (.bin .mul (i 2) (t 118)) 119 [4],
 o (.bin .add (t 119) (i 4)) 120 [5],
 n 0 121,
 c 121 122 [7],
 a 0 122 123 [8],
 a 0 123 124 [9],
 l 124 125 [10],
 n 1 126,
 x 3 125 126 127 [11,12],
 a 0 127 128 [13],
 l 128 129 [14],
 o (.build [(.v (.int .i64 0)),(.v (.int .i64 0)),(.v (.int .i64 0)),(.v (.int .i64 0)),.aI] [(0,1,(t 117)),(1,1,(t 120)),(2,1,(t 129))]) 130 [3,6,15],
 o (.callS 73 [(t 114),(t 130)]) 131 [0,16]]
def d30r16:List RO:=Fj.map bare
def d30:DC:=(j (y d30r0)
 (j (j (y d30r1)
 (.block 0 (.loop (j (j (y d30r2)
 (.cond (.tmp 21) .skip
 (.exit 0)))
 (j (.block 1 (j (y d30r3)
 (j (j (y d30r4)
 (.cond (.tmp 33) (j (y d30r5)
 (y d30r6))
 .skip))
 (j (j (y d30r7)
 (.block 2 (.loop (j (y d30r8)
 (j (.cond (.tmp 56) .skip
 (.exit 2))
 (j (.block 3 (j (y d30r9)
 (y d30r10)))
 (y Un)))))))
 (j (y d30r12)
 (.cond (.tmp 80) (.jU d30r13)
 .skip))))))
 (y Uo))))))
 (j (y d30r15)
 (.cond (.tmp 113) (y d30r16)
 .skip))))
def Up:List bN:=[]
theorem c30 [Laid]:aQ Tryz.prog 49 132 d30 Up:=⟨Tryz.f49,by kernel_rfl,by kernel_rfl,by kernel_rfl,by kernel_rfl,by kernel_rfl⟩
def Hh:List RO:=[
 o (.bP (i 0)) 6 [],
 o (.bP (.cq .aI)) 7 [0]]
def Hi:List RO:=[
 o (.bP (i 0)) 8 []]
def d31r2:List RO:=[
 o (.bP (.cq .aI)) 9 []]
def d31r3:List RO:=[
 n 0 12,
 c 12 13 [0],
 a 0 13 14 [1],
 a 0 14 15 [2],
 l 15 16 [3],
 n 1 17,
 n 2 18,
 o (.slice 3 (t 16) (some (t 17)) (some (t 18))) 19 [4,5,6],
 o (.len (t 19)) 20 [7],
 o (.bP (i 0)) 21 []]
def d31r4:List RO:=[
 b .lss 21 20 22 []]
def d31r5:List RO:=[
 x 3 19 21 23 [],
 L 3 23 24 [0],
 o (.alloc [(.v (.int .i64 0)),.aI,(.v (.int .i64 0))]) 11 [],
 S 3 11 24 [2,1,0,1,2]]
def d31r6:List RO:=[
 n 8 25,
 a 2 11 26 [],
 l 26 27 [1],
 b .add 25 27 28 [0,2],
 o (.minmax false (t 28) (i 1099511627776)) 29 [3],
 m 29 8 (k [4] 4)]
def d31r7:List RO:=[
 n 9 30,
 o (.build [(.v (.int .i64 0)),(.v (.int .i64 0))] [(0,1,(i 2))]) 31 [],
 o (.bslice 1 2 [(.v (.int .i64 0)),(.v (.int .i64 0))] [(0,2,(t 31))]) 32 [1],
 o (.append 75 2 16 (t 30) (t 32)) 33 [0,2],
 m 33 9 [3,3,0,1,2,3]]
def d31r8:List RO:=[
 o (.bin .add (t 21) (i 1)) 34 [],
 m 34 21 [0]]
def d31r9:List RO:=[
 n 8 35,
 n 9 36,
 m 35 6 [0,0],
 m 36 7 [1,2,0,1,2]]
def d31:DC:=(j (y Hh)
 (j (y Hi)
 (j (y d31r2)
 (j (j (y d31r3)
 (.block 0 (.loop (j (y d31r4)
 (j (.cond (.tmp 22) .skip
 (.exit 0))
 (j (.block 1 (j (y d31r5)
 (j (y d31r6)
 (y d31r7))))
 (y d31r8)))))))
 (j (y d31r9)
 .ret)))))
def A3:List bN:=[.slot 6,.slot 7]
theorem c31 [Laid]:aQ Tryz.prog 50 37 d31 A3:=⟨Tryz.f50,by kernel_rfl,by kernel_rfl,by kernel_rfl,by kernel_rfl,by kernel_rfl⟩
def d47r0:List RO:=[
 n 0 12,
 c 12 13 [0],
 a 0 13 14 [1],
 a 0 14 15 [2],
 l 15 16 [3],
 n 2 17,
 x 3 16 17 18 [4,5],
 a 1 18 19 [6],
 l 19 20 [7],
 o (.len (t 20)) 21 [8],
 o (.bP (i 0)) 22 []]
def d47r1:List RO:=[
 b .lss 22 21 23 []]
def d47r2:List RO:=[
 n 22 24,
 x 1 20 22 25 [],
 l 25 26 [1],
 m 24 10 [0,0,1,2],
 m 26 11 [2,3,0,1,2,3]]
def d47r3:List RO:=[
 n 11 27,
 o (.bin .geq (t 27) (i 0)) 28 [0]]
def K8:List RO:=[
 n 0 29,
 n 1 30,
 o (.bin .mul (i 2) (t 30)) 31 [1],
 n 2 32,
 o (.bin .mul (i 2) (t 32)) 33 [3],
 o (.bin .add (t 33) (i 2)) 34 [4],
 n 10 35,
 n 3 36,
 n 11 37,
 b .add 36 37 38 [7,8],
 n 4 39,
 o (.callF 74 [(t 39)]) 40 [10],
 n 10 41,
 o (.build [(.v (.int .i64 0)),(.v (.int .i64 0))] [(0,1,(i 1)),(1,1,(t 41))]) 42 [12],
 o (.bslice 1 2 [(.v (.int .i64 0)),(.v (.int .i64 0))] [(0,2,(t 42))]) 43 [13],
 o (.append 75 2 16 (t 40) (t 43)) 44 [11,14,11],
 o (.build [(.v (.int .i64 0)),(.v (.int .i64 0)),(.v (.int .i64 0)),(.v (.int .i64 0)),.aI] [(0,1,(t 31)),(1,1,(t 34)),(2,1,(t 35)),(3,1,(t 38)),(4,1,(t 44))]) 45 [2,5,6,9,15],
 o (.callS 73 [(t 29),(t 45)]) 46 [0,16,15]]
def d47r4:List RO:=K8.map bare
def d47r5:List RO:=[
 o (.bin .add (t 22) (i 1)) 47 [],
 m 47 22 [0]]
def d47:DC:=(j (y d47r0)
 (.block 0 (.loop (j (y d47r1)
 (j (.cond (.tmp 23) .skip
 (.exit 0))
 (j (.block 1 (j (y d47r2)
 (j (y d47r3)
 (.cond (.tmp 28) (y d47r4)
 .skip))))
 (y d47r5)))))))
def Uq:List bN:=[]
theorem c47 [Laid]:aQ Tryz.prog 72 48 d47 Uq:=⟨Tryz.f72,by kernel_rfl,by kernel_rfl,by kernel_rfl,by kernel_rfl,by kernel_rfl⟩
def d48r0:List RO:=[
 o (.box (t 1)) 3 []]
def d48r1:List RO:=[
 a 0 3 7 [],
 l 7 8 [0],
 a 1 3 9 [],
 l 9 10 [2],
 a 2 3 11 [],
 l 11 12 [4],
 o (.build [(.v (.int .i64 0)),(.v (.int .i64 0)),(.v (.int .i64 0))] [(0,1,(t 8)),(1,1,(t 10)),(2,1,(t 12))]) 13 [1,3,5],
 o (.alloc [(.v (.int .i64 0)),(.v (.int .i64 0)),(.v (.int .i64 0))]) 4 [],
 S 3 4 13 (k [7,6] 7)]
def Ur:List RO:=[
 n 0 15,
 c 15 16 [0],
 a 3 16 17 [1],
 l 17 18 [2],
 L 3 4 19 [],
 o (.lookup [(.int .i64),(.int .i64),(.int .i64)] true (.agg [(.v (.int .i64 0)),(.v (.int .i64 0)),(.v (.int .i64 0)),(.v (.int .i64 0)),.aI]) true (t 18) (t 19)) 20 [3,4],
 m 20 14 [5],
 e 0 14 21 [6],
 e 1 14 22 [6],
 o (.alloc [(.v (.int .i64 0)),(.v (.int .i64 0)),(.v (.int .i64 0)),(.v (.int .i64 0)),.aI]) 5 [],
 S 5 5 21 [9,7,0,1,2,3,4,5,6,7,9],
 m 22 6 (k [8,10] 10)]
def Us:List RO:=[
 a 3 3 23 [],
 l 23 24 [0],
 o (.bin .lss (t 24) (i 1099511627776)) 25 [1],
 m 25 26 [2],
 w 6 27 26 true [3],
 g (.un .not (t 27)) 28 26 true [4,3],
 w 28 29 26 true [5,3,3],
 u 3 3 30 29 false [6],
 v 30 31 29 false [7,6],
 u 3 5 32 29 false [6],
 v 32 33 29 false [9,6],
 g (.bin .lss (t 31) (t 33)) 34 29 false [8,10,6],
 g (.pick (t 29) (.cq (.v (.bool true))) (t 34)) 35 26 true [6,11,3],
 q 26 35 36 [3,12]]
def Ut:List RO:=[
 n 0 37,
 c 37 38 [0],
 a 3 38 39 [1],
 l 39 40 [2],
 L 3 4 41 [],
 L 5 3 42 [],
 s (.mapUpd [(.int .i64),(.int .i64),(.int .i64)] true (t 40) (t 41) (t 42)) (k [3,4,5] 5)]
def d48:DC:=(j (y d48r0)
 (j (y d48r1)
 (j (Y Ur)
 (j (y Us)
 (.cond (.tmp 36) (Y Ut)
 .skip)))))
def K9:List bN:=[]
theorem c48 [Laid]:aQ Tryz.prog 73 43 d48 K9:=⟨Tryz.f73,by kernel_rfl,by kernel_rfl,by kernel_rfl,by kernel_rfl,by kernel_rfl⟩
def d49r0:List RO:=[
 o (.bP (.cq .aI)) 2 []]
def Uu:List RO:=[
 n 0 3,
 o (.isNil 0 false (t 3)) 4 [0]]
def d49r2:List RO:=[
 o (.bP (.cq .aI)) 2 []]
def Uv:List RO:=[
 o (.bslice 0 2 [] []) 5 [],
 n 0 6,
 o (.append 75 2 16 (t 5) (t 6)) 7 [0,1],
 m 7 2 [2,2,0,1,2]]
def d49:DC:=(j (y d49r0)
 (j (j (y Uu)
 (.cond (.tmp 4) (j (y d49r2)
 .ret)
 .skip))
 (j (y Uv)
 .ret)))
def d49res:List bN:=[.slot 2]
theorem c49 [Laid]:aQ Tryz.prog 74 8 d49 d49res:=⟨Tryz.f74,by kernel_rfl,by kernel_rfl,by kernel_rfl,by kernel_rfl,by kernel_rfl⟩
def d50r0:List RO:=[
 o (.bP (.cq (.v (.bool false)))) 4 []]
def d50r1:List RO:=[
 n 0 6,
 c 6 7 [0],
 a 0 7 8 [1],
 a 0 8 9 [2],
 l 9 10 [3],
 m 10 5 (k [4] 4)]
def Uw:List RO:=[
 n 1 11,
 o (.bin .add (t 11) (i 1)) 12 [0],
 n 5 13,
 o (.len (t 13)) 14 [2],
 b .lss 12 14 15 [1,3],
 m 15 16 [4],
 w 0 17 16 true [5],
 g (.nilCheck (t 17)) 18 16 true [6,5],
 u 0 18 19 16 true [7,5],
 u 2 19 20 16 true [8,5],
 v 20 21 16 true [9,5],
 g (.bin .gtr (t 21) (i 0)) 22 16 true [10,5],
 q 16 22 23 [5,11],
 m 23 24 [12,5],
 w 5 25 24 true [13],
 w 1 26 24 true [13],
 g (.idxAddr 3 (t 25) (t 26)) 27 24 true [14,15,13],
 u 0 27 28 24 true [16,13],
 v 28 29 24 true [17,13],
 g (.bin .geq (t 29) (i 0)) 30 24 true [18,13],
 q 24 30 31 [13,19],
 m 31 32 [20,13],
 w 5 33 32 true [21],
 w 1 34 32 true [21],
 g (.bin .add (t 34) (i 1)) 35 32 true [23,21],
 g (.idxAddr 3 (t 33) (t 35)) 36 32 true [22,24,21],
 u 0 36 37 32 true [25,21],
 v 37 38 32 true [26,21],
 g (.bin .geq (t 38) (i 0)) 39 32 true [27,21],
 q 32 39 40 [21,28],
 m 40 4 (k [29,21] 29)]
def d50:DC:=(j (y d50r0)
 (j (y d50r1)
 (j (y Uw)
 .ret)))
def Ux:List bN:=[.slot 4]
theorem c50 [Laid]:aQ Tryz.prog 75 41 d50 Ux:=⟨Tryz.f75,by kernel_rfl,by kernel_rfl,by kernel_rfl,by kernel_rfl,by kernel_rfl⟩
def d29r0:List RO:=[
 o (.bP (.cq .aI)) 4 []]
def d29r1:List RO:=[
 n 1 9,
 o (.bin .lss (t 9) (i 0)) 10 [0]]
def d29r2:List RO:=[
 o (.fail) 11 [],
 s (.fail) [0]]
def d29r3:List RO:=[
 n 0 13,
 o (.len (t 13)) 14 [0],
 o (.conv .u64 (t 14)) 15 [1],
 n 1 16,
 o (.conv .u64 (t 16)) 17 [3],
 o (.call 71 [(t 15),(t 17)]) 18 [2,4],
 m 18 12 [5],
 e 0 12 19 [6],
 e 1 12 20 [6],
 m 19 5 (k [7,5] 7),
 m 20 6 (k [8,9] 9)]
def d29r4:List RO:=[
 n 5 21,
 o (.bin .gtr (t 21) (.cq (.v (.int .u64 0)))) 22 [0],
 m 22 23 [1],
 w 6 24 23 false [2],
 g (.bin .gtr (t 24) (.cq (.v (.int .u64 9223372036854775807)))) 25 23 false [3,2],
 p 23 25 26 [2,4]]
def d29r5:List RO:=[
 o (.fail) 27 [],
 s (.fail) [0]]
def d29r6:List RO:=[
 n 6 28,
 o (.conv .i64 (t 28)) 29 [0],
 o (.mkSlice 3 1 8 [(.int .i64 0)] (t 29)) 30 [1,1],
 m 30 7 [2,0,1,2]]
def d29r7:List RO:=[
 n 7 31,
 n 0 32,
 o (.copy 1 (t 31) (t 32)) 33 [0,1],
 m 33 8 [2,2,0,1,2]]
def d29r8:List RO:=[
 n 8 34,
 n 7 35,
 o (.len (t 35)) 36 [1],
 b .lss 34 36 37 [0,2]]
def d29r9:List RO:=[
 n 8 38,
 n 7 39,
 n 8 40,
 o (.slice 1 (t 39) (some (t 40)) none) 41 [1,2],
 n 7 42,
 n 8 43,
 o (.slice 1 (t 42) none (some (t 43))) 44 [4,5],
 o (.copy 1 (t 41) (t 44)) 45 [3,6],
 b .add 38 45 46 [0,7],
 m 46 8 (k [8,7] 8)]
def Uy:List RO:=[
 n 7 47,
 m 47 4 [0,0]]
def d29:DC:=(j (y d29r0)
 (j (j (y d29r1)
 (.cond (.tmp 10) (y d29r2)
 .skip))
 (j (y d29r3)
 (j (j (y d29r4)
 (.cond (.tmp 26) (y d29r5)
 .skip))
 (j (y d29r6)
 (j (y d29r7)
 (j (.block 0 (.loop (j (j (y d29r8)
 (.cond (.tmp 37) .skip
 (.exit 0)))
 (.block 1 (Y d29r9)))))
 (j (y Uy)
 .ret))))))))
def d29res:List bN:=[.slot 4]
theorem c29 [Laid]:aQ Tryz.prog 48 48 d29 d29res:=⟨Tryz.f48,by kernel_rfl,by kernel_rfl,by kernel_rfl,by kernel_rfl,by kernel_rfl⟩
def Hj:List RO:=[
 o (.box (t 0)) 2 [],
 o (.box (t 1)) 3 [],
 o (.bP (i 0)) 4 []]
def Hk:List RO:=[
 a 0 2 5 [],
 l 5 6 [0],
 a 0 3 7 [],
 l 7 8 [2],
 o (.call 79 [(t 6),(t 8)]) 9 [1,3],
 a 1 2 10 [],
 l 10 11 [5],
 a 1 3 12 [],
 l 12 13 [7],
 o (.call 79 [(t 11),(t 13)]) 14 [6,8,4],
 a 2 2 15 [],
 l 15 16 [10],
 a 2 3 17 [],
 l 17 18 [12],
 o (.call 79 [(t 16),(t 18)]) 19 [11,13,9],
 o (.bslice 3 1 [(.v (.int .i64 0)),(.v (.int .i64 0)),(.v (.int .i64 0))] [(0,1,(t 9)),(1,1,(t 14)),(2,1,(t 19))]) 20 [4,9,14],
 o (.call 78 [(t 20)]) 21 [15,14],
 m 21 4 (k [16,16] 16)]
def d33:DC:=(j (y Hj)
 (j (Y Hk)
 .ret))
def A4:List bN:=[.slot 4]
theorem c33 [Laid]:aQ Tryz.prog 52 22 d33 A4:=⟨Tryz.f52,by kernel_rfl,by kernel_rfl,by kernel_rfl,by kernel_rfl,by kernel_rfl⟩
def Hl:List RO:=[
 o (.bP (i 0)) 2 []]
def Hm:List RO:=[
 o (.bP (i 0)) 3 []]
def Hn:List RO:=[
 n 0 6,
 o (.len (t 6)) 7 [0],
 o (.bP (i 0)) 8 []]
def Ho:List RO:=[
 b .lss 8 7 9 []]
def Hp:List RO:=[
 x 1 6 8 10 [],
 l 10 11 [0],
 m 11 5 [1,0,1]]
def Hq:List RO:=[
 n 5 12,
 n 3 13,
 b .neq 12 13 14 [0,1]]
def Hr:List RO:=[
 n 5 15,
 m 15 2 [0,0]]
def Hs:List RO:=[
 o (.bin .add (t 8) (i 1)) 16 [],
 m 16 8 [0]]
def d53r8:List RO:=[
 n 3 17,
 m 17 2 [0,0]]
def d53:DC:=(j (y Hl)
 (j (y Hm)
 (j (j (y Hn)
 (.block 0 (.loop (j (y Ho)
 (j (.cond (.tmp 9) .skip
 (.exit 0))
 (j (.block 1 (j (y Hp)
 (j (y Hq)
 (.cond (.tmp 14) (j (y Hr)
 .ret)
 .skip))))
 (y Hs)))))))
 (j (y d53r8)
 .ret))))
def A5:List bN:=[.slot 2]
theorem c53 [Laid]:aQ Tryz.prog 78 18 d53 A5:=⟨Tryz.f78,by kernel_rfl,by kernel_rfl,by kernel_rfl,by kernel_rfl,by kernel_rfl⟩
def HI:List RO:=[
 o (.bP (i 0)) 4 []]
def HJ:List RO:=[
 n 0 7,
 o (.call 106 [(t 7)]) 8 [0],
 m 8 5 [1,1,0,1]]
def d54r2:List RO:=[
 n 1 9,
 o (.call 106 [(t 9)]) 10 [0],
 m 10 6 [1,1,0,1]]
def d54r3:List RO:=[
 n 5 11]
def d54r4:List RO:=[
 n 6 12]
def d54r5:List RO:=[
 o (.bP (i 0)) 4 []]
def d54r6:List RO:=[
 o (.bP (i (-1))) 4 []]
def d54r7:List RO:=[
 n 6 13]
def d54r8:List RO:=[
 o (.bP (i 1)) 4 []]
def d54r9:List RO:=[
 n 0 14,
 n 1 15,
 b .lss 14 15 16 [0,1]]
def Uz:List RO:=[
 o (.bP (i (-1))) 4 []]
def UA:List RO:=[
 n 0 17,
 n 1 18,
 b .gtr 17 18 19 [0,1]]
def UB:List RO:=[
 o (.bP (i 1)) 4 []]
def UC:List RO:=[
 o (.bP (i 0)) 4 []]
def d54:DC:=(j (y HI)
 (j (y HJ)
 (j (y d54r2)
 (j (j (y d54r3)
 (.cond (.tmp 11) (j (j (y d54r4)
 (.cond (.tmp 12) (j (y d54r5)
 .ret)
 .skip))
 (j (y d54r6)
 .ret))
 .skip))
 (j (j (y d54r7)
 (.cond (.tmp 13) (j (y d54r8)
 .ret)
 .skip))
 (j (j (y d54r9)
 (.cond (.tmp 16) (j (y Uz)
 .ret)
 .skip))
 (j (j (y UA)
 (.cond (.tmp 19) (j (y UB)
 .ret)
 .skip))
 (j (y UC)
 .ret))))))))
def xo:List bN:=[.slot 4]
theorem c54 [Laid]:aQ Tryz.prog 79 20 d54 xo:=⟨Tryz.f79,by kernel_rfl,by kernel_rfl,by kernel_rfl,by kernel_rfl,by kernel_rfl⟩
def d71r0:List RO:=[
 o (.bP (.cq (.v (.bool false)))) 2 []]
def d71r1:List RO:=[
 n 0 3,
 n 0 4,
 b .neq 3 4 5 [0,1],
 m 5 2 [2,0,1,2]]
def d71:DC:=(j (y d71r0)
 (j (y d71r1)
 .ret))
def UD:List bN:=[.slot 2]
theorem c71 [Laid]:aQ Tryz.prog 106 6 d71 UD:=⟨Tryz.f106,by kernel_rfl,by kernel_rfl,by kernel_rfl,by kernel_rfl,by kernel_rfl⟩
def Hb:List RO:=[
 o (.bP (.cq (.v (.int .u64 0)))) 4 [],
 o (.bP (.cq (.v (.int .u64 0)))) 5 [0]]
def MW:List RO:=[
 n 0 11,
 o (.conv .u32 (t 11)) 12 [0],
 n 1 13,
 o (.conv .u32 (t 13)) 14 [2],
 o (.call 94 [(t 12),(t 14)]) 15 [1,3],
 m 15 10 [4],
 e 0 10 16 [5],
 e 1 10 17 [5],
 m 16 6 (k [6,4] 6),
 m 17 7 (k [7,8] 8)]
def MX:List RO:=[
 n 6 18,
 o (.conv .u64 (t 18)) 19 [0],
 n 7 20,
 o (.conv .u64 (t 20)) 21 [2],
 m 19 4 [1,0,1],
 m 21 5 (k [3,4] 4)]
def Hc:List RO:=[
 n 0 23,
 n 1 24,
 o (.call 95 [(t 23),(t 24)]) 25 [0,1],
 m 25 22 [2],
 e 0 22 26 [3],
 e 1 22 27 [3],
 m 26 8 (k [4,2] 4),
 m 27 9 (k [5,6] 6)]
def Hd:List RO:=[
 n 8 28,
 n 9 29,
 m 28 4 [0,0],
 m 29 5 [1,2,0,1,2]]
def d46:DC:=(j (y Hb)
 (j (.cond (.cq (.v (.bool false))) (j (y MW)
 (j (y MX)
 .ret))
 .skip)
 (j (y Hc)
 (j (y Hd)
 .ret))))
def pD:List bN:=[.slot 4,.slot 5]
theorem c46 [Laid]:aQ Tryz.prog 71 30 d46 pD:=⟨Tryz.f71,by kernel_rfl,by kernel_rfl,by kernel_rfl,by kernel_rfl,by kernel_rfl⟩
def HK:List RO:=[
 o (.bP (.cq (.v (.int .u64 0)))) 4 [],
 o (.bP (.cq (.v (.int .u64 0)))) 5 [0]]
def yF:List RO:=[
 n 0 14,
 o (.bin .and (t 14) (.cq (.v (.int .u64 4294967295)))) 15 [0],
 m 15 6 [1,0,1]]
def HL:List RO:=[
 n 0 16,
 o (.bin .shr (t 16) (.cq (.v (.int .u64 32)))) 17 [0],
 m 17 7 [1,0,1]]
def HM:List RO:=[
 n 1 18,
 o (.bin .and (t 18) (.cq (.v (.int .u64 4294967295)))) 19 [0],
 m 19 8 [1,0,1]]
def M8:List RO:=[
 n 1 20,
 o (.bin .shr (t 20) (.cq (.v (.int .u64 32)))) 21 [0],
 m 21 9 [1,0,1]]
def M9:List RO:=[
 n 6 22,
 n 8 23,
 b .mul 22 23 24 [0,1],
 m 24 10 [2,0,1,2]]
def d60r6:List RO:=[
 n 7 25,
 n 8 26,
 b .mul 25 26 27 [0,1],
 n 10 28,
 o (.bin .shr (t 28) (.cq (.v (.int .u64 32)))) 29 [3],
 b .add 27 29 30 [2,4],
 m 30 11 (k [5] 5)]
def d60r7:List RO:=[
 n 11 31,
 o (.bin .and (t 31) (.cq (.v (.int .u64 4294967295)))) 32 [0],
 m 32 12 [1,0,1]]
def d60r8:List RO:=[
 n 11 33,
 o (.bin .shr (t 33) (.cq (.v (.int .u64 32)))) 34 [0],
 m 34 13 [1,0,1]]
def d60r9:List RO:=[
 n 12 35,
 n 6 36,
 n 9 37,
 b .mul 36 37 38 [1,2],
 b .add 35 38 39 [0,3],
 m 39 12 (k [4] 4)]
def UE:List RO:=[
 n 7 40,
 n 9 41,
 b .mul 40 41 42 [0,1],
 n 13 43,
 b .add 42 43 44 [2,3],
 n 12 45,
 o (.bin .shr (t 45) (.cq (.v (.int .u64 32)))) 46 [5],
 b .add 44 46 47 [4,6],
 m 47 4 (k [7] 7)]
def UF:List RO:=[
 n 0 48,
 n 1 49,
 b .mul 48 49 50 [0,1],
 m 50 5 [2,0,1,2]]
def d60:DC:=(j (y HK)
 (j (y yF)
 (j (y HL)
 (j (y HM)
 (j (y M8)
 (j (y M9)
 (j (y d60r6)
 (j (y d60r7)
 (j (y d60r8)
 (j (y d60r9)
 (j (y UE)
 (j (y UF)
 .ret))))))))))))
def tX:List bN:=[.slot 4,.slot 5]
theorem c60 [Laid]:aQ Tryz.prog 95 51 d60 tX:=⟨Tryz.f95,by kernel_rfl,by kernel_rfl,by kernel_rfl,by kernel_rfl,by kernel_rfl⟩
theorem follows:Tryz.prog.follows .mixedOrders=true:=by kernel_rfl
abbrev fw:=follows
abbrev ti(n:Int):T:=.int .i64 n
def cX:T->Int
 |.int _ n=>n
 |_=>0
structure bn where
 (f t term cost:Int)
 ops:List (Int×Int)
 deriving DecidableEq,Inhabited
structure aM where
 aN:Int
 aD:List bn
 final:List Int
structure bD where
 kind:Int
 read:List Int
 delete:Int
 deriving Inhabited
structure Input where
 aj:List bD
 insert:List Int
 swap:Int
def cR(l:List (Int×Int)):List (List T):=l.map λo=>[ti o.1,ti o.2]
def bn.enc(a:bn):List T:=[ti a.f,ti a.t,ti a.term,ti a.cost,.sl (cR a.ops)]
def ba(l:List bn):List (List T):=l.map bn.enc
def aB(l:List Int):List (List T):=l.map λx=>[ti x]
def aM.enc(l:aM):T:=.agg [ti l.aN,.sl (ba l.aD),.sl (aB l.final)]
def bD.enc(c:bD):List T:=[ti c.kind,.sl (aB c.read),ti c.delete]
def aZ(l:List bD):List (List T):=l.map bD.enc
def Input.enc(x:Input):T:=.agg [.sl (aZ x.aj),.sl (aB x.insert),ti x.swap]
theorem fD{α β:Type}{f:α->β}{g:β->α}(h:∀a,g (f a)=a)(l:List α):(l.map f).map g=l:=by
 rw[ZcL];conv=>rhs;rw[<-List.map_id l]
 exact Zbq λa _=>h a
def fu(l:List (List T)):List Int:=l.map λx=>cX (x.getD 0 (ti 0))
def xy(l:List (List T)):List (Int×Int):=l.map λx=>(cX (x.getD 0 (ti 0)),cX (x.getD 1 (ti 0)))
def lL:List T->bn
 |[a,b,c,d,.sl o]=>⟨cX a,cX b,cX c,cX d,xy o⟩
 |_=>default
def zt(l:List (List T)):List bn:=l.map lL
def Bv:List T->bD
 |[a,.sl b,c]=>⟨cX a,fu b,cX c⟩
 |_=>default
def eS(l:List (List T)):List bD:=l.map Bv
def tZ:T->aM
 |.agg [a,.sl b,.sl c]=>⟨cX a,zt b,fu c⟩
 |_=>⟨0,[],[]⟩
def Cp:T->Input
 |.agg [.sl a,.sl b,c]=>⟨eS a,fu b,cX c⟩
 |_=>⟨[],[],0⟩
@[simp] theorem Io(l:List Int):fu (aB l)=l:=fD (λ_=>rfl) l
@[simp] theorem La(l:List (Int×Int)):xy (cR l)=l:=fD (λ_=>rfl) l
@[simp] theorem mS(a:bn):lL a.enc=a:=by simp[lL,bn.enc,cX]
@[simp] theorem decArcs_enc(l:List bn):zt (ba l)=l:=fD mS l
@[simp] theorem Bw(a:bD):Bv a.enc=a:=by simp[Bv,bD.enc,cX]
@[simp] theorem decCols_enc(l:List bD):eS (aZ l)=l:=fD Bw l
@[simp] theorem decL_enc'(a:Int)(l:List bn)(f:List Int):tZ (.agg [ti a,.sl (ba l),.sl (aB f)])=⟨a,l,f⟩:=by simp[tZ,cX]
@[simp] theorem decL_enc(n:aM):tZ n.enc=n:=by simp[aM.enc]
@[simp] theorem decX_enc'(a:List bD)(b:List Int)(c:Int):Cp (.agg [.sl (aZ a),.sl (aB b),ti c])=⟨a,b,c⟩:=by simp[Cp,cX]
@[simp] theorem decX_enc(x:Input):Cp x.enc=x:=by simp[Input.enc]
theorem cO{l:List Int}{y:Nat}(h:y<l.length):DM.rowAt (aB l) y=[ti (l.getD y default)]:=by simp[DM.rowAt,aB,h]
theorem kP{l:List bn}{y:Nat}(h:y<l.length):DM.rowAt (ba l) y=(l.getD y default).enc:=by simp[DM.rowAt,ba,h]
theorem dR{l:List bD}{y:Nat}(h:y<l.length):DM.rowAt (aZ l) y=(l.getD y default).enc:=by simp[DM.rowAt,aZ,h]
@[simp] theorem intsT_len(l:List Int):(aB l).length=l.length:=by simp[aB]
@[simp] theorem opsT_len(l:List (Int×Int)):(cR l).length=l.length:=by simp[cR]
@[simp] theorem arcsT_len(l:List bn):(ba l).length=l.length:=by simp[ba]
@[simp] theorem colsT_len(l:List bD):(aZ l).length=l.length:=by simp[aZ]
abbrev kq:List Sh:=[.int .i64,.int .i64,.int .i64]
def keyOf(f t x:Int):T:=.agg [ti f,ti t,ti x]
def bn.key(a:bn):T:=keyOf a.f a.t a.term
def entries(al:List bn):List (Nat×T×DV):=al.zipIdx.map λp=>(p.2,p.1.key,.v (.agg p.1.enc))
def bU(al:List bn):Ob:=.map kq true al.length (entries al)
def ch(x:Input)(m:Nat):List DV:=[.v (.sl (aZ x.aj)),.v (.sl (aB x.insert)),.v (ti x.swap),.iv m]
def sameKey(a b:bn):Bool:=decide (a.f=b.f/\a.t=b.t/\a.term=b.term)
def tA(al:List bn)(a:bn):List bn:=
 if a.cost<1099511627776 then
  match al.findIdx? (sameKey a)with
  |none=>al++[a]
  |some i=>if a.cost<(al.getD i default).cost then al.set i a else al
 else al
def Fo:DV->Int
 |.v (.agg [_,_,_,.int _ c,_])=>c
 |_=>0
def better(k:T)(c:Int)(es:List (Nat×T×DV)):Bool:=
 decide (c<1099511627776)&&match ou k es with|none=>true|some e=>decide (c<Fo e.2.2)
def oO(k:T)(c:Int)(y:DV)(wB:Nat)(es:List (Nat×T×DV)):List (Nat×T×DV):=if better k c es then D6 k y wB es else es
def ui(k:T)(c:Int)(wB:Nat)(es:List (Nat×T×DV)):Nat:=if better k c es then my k wB es else wB
theorem key_eq(a b:bn):fe a.key b.key=sameKey a b:=by
 simp[bn.key,keyOf,fe,oq,sameKey]
theorem nB(a:bn)(al:List bn):((entries al).findIdx? λe=>fe a.key e.2.1)=al.findIdx? (sameKey a):=by
 have h:∀(l:List bn) (i:Nat),(((l.zipIdx i).map λp=>((p.2,p.1.key,DV.v (.agg p.1.enc)):Nat×T×DV)).findIdx? λe=>fe a.key e.2.1)=l.findIdx? (sameKey a):=by
  intro l;induction l with
  |nil=>intro i;rfl
  |cons b l ih=>intro i;simp only[Zb7,Zau,Za4,key_eq,ih (i+1)]
 exact h al 0
theorem fz(al:List bn)(i:Nat):(entries al)[i]? =(al[i]?).map λa=>(i,a.key,.v (.agg a.enc)):=by
 simp[entries,Zbp,List.getElem?_zipIdx,Function.comp_def]
theorem jD(al:List bn):(entries al).length=al.length:=by simp[entries]
theorem O9(al:List bn):∀e∈entries al,∃a:bn,e.2.2=.v (.agg a.enc):=by
 intro e he;simp only[entries,Zal]at he;obtain⟨p,_,rfl⟩:=he;exact⟨p.1,rfl⟩
theorem sD{α:Type}{p:α->Bool}{l:List α}{i:Nat}(h:l.findIdx? p=some i):i<l.length:=by
 rw[ZbA]at h;exact h.1
theorem Bx(a:bn)(al:List bn):better a.key a.cost (entries al)=(decide (a.cost<1099511627776)&&match al.findIdx? (sameKey a)with|none=>true|some i=>decide (a.cost<(al.getD i default).cost)):=by
 unfold better;rw[vo,nB];cases h:al.findIdx? (sameKey a)with
 |none=>rfl
 |some i=>
  have hi:=sD h;simp[fz,hi,Fo,bn.enc];rfl
theorem Fp(a:bn)(al:List bn):oO a.key a.cost (.v (.agg a.enc)) al.length (entries al)=entries (tA al a)/\ui a.key a.cost al.length (entries al)=(tA al a).length:=by
 unfold oO ui tA;rw[Bx];by_cases hc:a.cost<1099511627776
 ·simp only[hc,decide_true,Zck,if_true];cases h:al.findIdx? (sameKey a)with
  |none=>
   simp only[if_true,D6,my,nB,h];refine⟨?_,by simp⟩;apply Zbk;intro j;rw[fz,Zb9,Zb9,jD,fz];split
   ·rfl
   ·rename_i hj;by_cases Y5:j=al.length
    ·subst Y5;simp
    ·rw[ZaS (by simp;omega),ZaS (by simp;omega)];rfl
  |some i=>
   have hi:=sD h;have Kc:a.key=(al.getD i default).key:=by
    rw[ZbA]at h;obtain⟨_,h1,_⟩:=h;simp only[sameKey,decide_eq_true_eq]at h1;simp[bn.key,keyOf,List.getD,hi,h1]
   simp only;by_cases h2:a.cost<(al.getD i default).cost
   ·simp only[h2,decide_true,if_true,D6,my,nB,h];refine⟨?_,by simp⟩;apply Zbk;intro j;rw[fz,List.getElem?_modify,fz,Zbx];by_cases hj:i=j
    ·subst hj;simp[hi,Kc,List.getD]
    ·simp[hj]
   ·simp only[h2,decide_false,ZaT,if_false];exact⟨trivial,trivial⟩
 ·simp[hc]
theorem ed:ay Tryz.prog (aW []):=ay.nil
theorem cT{f:aU}{l:List (Nat×Ob)}{low r:Nat}(hf:dO f low)(h:low<=r)(hl:∀p∈l,p.1≠r):gone (over l f) id r:=by
 intro r' ff e;simp only[id]at e;subst e;cases ho:over l f r' with
 |none=>exact ff ho
 |some o=>
  rcases oJ ho with h1|⟨_,h1⟩
  ·exact hl _ h1 rfl
  ·have:=(hf r' o h1).1;omega
def dZ:List bD->Int->Int
 |[],c=>c
 |x::l,c=>dZ l (min (c+x.delete) 1099511627776)
def dd(n:Nat):List (Int×Int):=List.replicate n (2,0)
theorem vR(l:List bD)(x:bD)(c:Int):dZ (l++[x]) c=min (dZ l c+x.delete) 1099511627776:=by
 induction l generalizing c with
 |nil=>rfl
 |cons y l ih=>simp[dZ,ih]
theorem nT{l:List bD}(h:∀c∈l,0<=c.delete):∀c,0<=c/\c<=1099511627776->0<=dZ l c/\dZ l c<=1099511627776:=by
 induction l with
 |nil=>intro c hc;exact hc
 |cons y l ih=>
  intro c hc;have:=h y (by simp);exact ih (λz hz=>h z (by simp[hz])) _ (by omega)
theorem Lb(l:List bD)(n:Nat):(aZ l).take n=aZ (l.take n):=by simp[aZ,List.map_take]
theorem Lc(l:List bD)(n:Nat):(aZ l).drop n=aZ (l.drop n):=by simp[aZ,List.map_drop]
def ng(ct:List bD):Prop:=ct.length<=1000000/\∀c∈ct,0<=c.delete/\c.delete<=1099511627776
theorem t31{f:aU}{b m:Nat}{x:Input}{i j:Nat}{N:Nat}(hN:∀r,N<=r->f r=none)(hb:f b=some (.box (ch x m)))(Wx:i<=j)(hj:j<=x.aj.length)(hd:ng x.aj):
  aY Tryz.prog 50 [.ptr b 0,.v (ti i),.v (ti j)] f ⟨True,.v (.eF [ti (dZ ((x.aj.take j).drop i) 0),.sl (cR (dd (j-i)))]),f⟩:=by
 have aw:=ed;refine c31.uC hN (by simp) λbd=>?_;have WE:b<N:=(bd b _ hb).1;obtain⟨part,tq⟩:∃p,(x.aj.take j).drop i=p:=⟨_,rfl⟩;have PV:part.length=j-i:=by rw[<-tq];simp;omega
 have hpd:∀c∈part,0<=c.delete/\c.delete<=1099511627776:=λc hc=>hd.2 c (by rw[<-tq]at hc;exact Zav (Zbv hc));have Qu:((aZ x.aj).take j).drop i=aZ part:=by rw[Lb,Lc,tq]
 have cS:∀r∈aZ x.aj,r.length=3:=by intro r hr;simp only[aZ,Zal]at hr;obtain⟨c,_,rfl⟩:=hr;rfl
 have hlen:=hd.1;rw[tq];clear tq;simp;refine aa.ab aw fw [0,1,2,7] ?_;simp[Hh];refine aa.ab aw fw [0,1,2,8] ?_;simp[Hi];refine aa.ab aw fw [0,1,2,8,9] ?_;simp[d31r2];refine aa.seq ?_;refine aa.ab aw fw [8,9,19,20,21] ?_;simp[d31r3,hb,ch,Wx,hj,Qu];refine⟨cS, ?_⟩;refine aa.le (Le.fp (l1:=[]) (l:=[(8,.v (ti 0)),(9,.aI),(19,.v (.sl (aZ part))),(20,.v (ti part.length)),(21,.v (ti 0))]) (nxt':=N+200) bd ?_ ?_ ?_ ?_ ?_) ?_
 ·omega
 ·simp
 ·simp[bZ]
 ·simp[gP]
 ·simp
 refine aa.le (Le.l8 (k:=9) 75 (sz:=2) (by omega) (by simp)) ?_;rw[kK];refine aa.block ?_;refine aa.loop (λy:Nat=>⟨DM.look [(8,.v (ti (dZ (part.take y) 0))),(9,.bk (N+200) 0),(19,.v (.sl (aZ part))),(20,.v (ti part.length)),(21,.v (ti y))],over [(N+200,.arr 0 75 2 (cR (dd y)))] f,N+300,N,[]⟩)
  (λy=>y<=part.length) (λy=>part.length-y) 0 (Le.fp bd ?_ ?_ ?_ ?_ ?_) (by simp) (λy hy=>?_)
 ·omega
 ·simp
 ·simp[bZ]
 ·simp[gP,il,dd,cR]
 ·simp[dZ]
 refine aa.ab aw fw [8,9,19,20,21,22] ?_;simp[d31r4];refine aa.seq ?_;have GJ:=nT (l:=part.take y) (λc hc=>(hpd c (Zav hc)).1) 0 (by omega);refine aa.cond rfl (λhc=>?_) (λhc=>?_)
 ·simp at hc;refine aa.skip ?_;simp;refine aa.seq ?_;refine aa.block ?_;refine aa.ab aw fw [8,9,11,19,20,21] ?_;have lW:=dR hc;obtain⟨c,zh⟩:∃c,part[y]=c:=⟨_,rfl⟩;have Eb:c∈part:=by rw[<-zh];exact Zbi hc
  have WA:=hpd c Eb;have N3:part.take (y+1)=part.take y++[c]:=by rw[Zbw,Zan hc,zh];rfl
  simp[d31r5,lW,zh,hc,bD.enc];refine aa.ab aw fw [8,9,11,19,20,21] ?_;simp[d31r6];rw[au (by omega)];refine aa.dp aw fw [8,9,19,20,21] ?_;simp[d31r7,cG,chunk];refine⟨by
    have:(dd y).length=y:=by simp[dd]
    omega, ?_⟩
  refine aa.dp aw fw [8,9,19,20,21] ?_;simp[d31r8];refine⟨y+1,Le.fp bd ?_ ?_ ?_ ?_ ?_,by omega,by omega⟩
  ·omega
  ·simp
  ·simp[bZ];omega
  ·simp[gP,il,dd,cR,ZbR]
  ·simp[N3,vR];rw[au (by omega)]
 ·simp at hc;have sZ:y=part.length:=by omega
  subst sZ;refine aa.exit ?_;simp;refine aa.ab aw fw [6,7] ?_;simp[d31r9];refine aa.le (Le.fp (l1:=[]) (l:=[(6,.v (ti (dZ part 0))),(7,.v (.sl (cR (dd part.length))))]) (nxt':=N+1000) bd ?_ ?_ ?_ ?_ ?_) ?_
  ·omega
  ·simp
  ·simp[bZ]
  ·simp[gP]
  ·simp;exact cT bd (by omega) (by simp)
  refine aa.ret ?_;simp[A3,PV];rfl
def bX(x:Input)(m:Nat):Bool:=
 decide (m+1<x.aj.length/\0<x.swap/\0<=(x.aj.getD m default).kind/\0<=(x.aj.getD (m+1) default).kind)
theorem t50{f:aU}{b m:Nat}{x:Input}{i:Nat}{N:Nat}(hN:∀r,N<=r->f r=none)(hb:f b=some (.box (ch x m)))(hi:i<=1000000)(hl:x.aj.length<=1000000):
  aY Tryz.prog 75 [.ptr b 0,.v (ti i)] f ⟨True,.v (.bool (bX x i)),f⟩:=by
 have aw:=ed;refine c50.uC hN (by simp) λbd=>?_;simp;refine aa.ab aw fw [0,1,4] ?_;simp[d50r0];refine aa.ab aw fw [0,1,5] ?_;simp[d50r1,hb,ch];have hw:IntKind.i64.wrap ((i:Int)+1)=i+1:=au (by omega);refine aa.bY aw fw [(4,.v (.bool (bX x i)))] ?_ ?_
 ·by_cases h1:i+1<x.aj.length
  ·have lP:=dR (l:=x.aj) (y:=i) (by omega);have pV:DM.rowAt (aZ x.aj) ((i:Int)+1)=(x.aj.getD (i+1) default).enc:=dR (l:=x.aj) h1;obtain⟨c1,bb⟩:∃c,x.aj.getD i default=c:=⟨_,rfl⟩;obtain⟨c2,dG⟩:∃c,x.aj.getD (i+1) default=c:=⟨_,rfl⟩;rw[bb]at lP;rw[dG]at pV;have Om:((i:Int)+1<x.aj.length)=True:=by simp;omega
   have hd2:((i:Int)<x.aj.length)=True:=by simp;omega
   have hd3:(0<=(i:Int)+1)=True:=by simp;omega
   have hd4:i<x.aj.length:=by omega
   have zL:bX x i=(decide (0<x.swap)&&(decide (0<=c1.kind)&&decide (0<=c2.kind))):=by
    unfold bX;rw[bb,dG];simp[h1]
   by_cases s1:0<x.swap<;>by_cases s2:0<=c1.kind<;>by_cases s3:0<=c2.kind<;>simp[Uw,hb,ch,hw,lP,pV,Om,hd2,hd3,bD.enc,s1,s2,s3,zL]
  ·have Om:((i:Int)+1<x.aj.length)=False:=by simp;omega
   simp[Uw,hw,Om];simp[bX]
   intros;omega
 refine aa.ret ?_;simp[Ux];rfl
theorem Le.Pa{tm:Nat->DV}{ob:aU}{nxt low:Nat}{td:List (List T)}{P:Program}{nt:Nat}{d:DC}{Q:Exit->kW->Prop}{k:Nat}(hk:tm k=.v (.sl []))
  (h:∀(p:Option Addr) (c:Nat),aa P nt d Q ⟨b7 tm (some k) (.v (.raw (.slice p 0 c))),ob,nxt,low,td⟩):aa P nt d Q ⟨tm,ob,nxt,low,td⟩:=by
 refine⟨λc hc n κ a w L g r=>?_⟩;obtain⟨W,base,M,w0,dI,h0⟩:=r.r.ex;have hx:=h0.tmps k;simp only[hk,av,aR]at hx;have fZ:∃(p:Option Addr) (cp:Nat),a.tmps.getD k Go.undef=.slice p 0 cp:=by
  rcases hx with⟨_,p,cp,hx⟩|⟨b,o,cp,sz,hx,_⟩
  ·exact⟨p,cp,hx⟩
  ·exact⟨_,cp,hx⟩
 obtain⟨p,cp,hx⟩:=fZ;refine(h p cp).run c hc n κ a w L g ⟨⟨⟨W,base,M,w0,dI,h0.size,λt=>?_,h0.o⟩,r.r.ee,r.r.defers,r.r.bg,r.r.fin⟩,r.fresh,r.low,r.it⟩;simp only[b7];by_cases ht:t=k
 ·subst ht;simp only[if_true,av,aR];exact hx
 ·simp only[ht,if_false];exact h0.tmps t
theorem t49(l:List (Int×Int))(hl:l.length<=1000000):lJ Tryz.prog 74 [.sl (cR l)] 75 2 (cR l):=by
 have aw:=ed;refine c49.okF (by simp) (aJ ?_);simp;have cS:∀r∈cR l,r.length=2:=by intro r hr;simp only[cR,Zal]at hr;obtain⟨c,_,rfl⟩:=hr;rfl
 refine aa.ab aw fw [0,2] ?_;simp[d49r0];cases l with
 |nil=>
  refine Le.Pa (k:=0) (by simp[cR]) λp c=>?_;refine aa.seq ?_;refine aa.ab aw fw [0,2,4] ?_;simp[Uu];refine aa.cond rfl (λh=>?_) (λh=>?_)
  ·refine aa.ab aw fw [2] ?_;simp[d49r2];refine aa.ret ?_;exact .inl ⟨by simp,by simp[cR],by omega⟩
  ·refine aa.skip ?_;simp;refine aa.ab aw fw [2] ?_;simp[Uv,cG];refine aa.ret ?_;exact .inr ⟨1026,0,by simp,by simp[cR]⟩
 |cons o l=>
  refine aa.seq ?_;refine aa.ab aw fw [0,2,4] ?_;simp[Uu];refine⟨by simp[cR], ?_⟩;refine aa.cond rfl (λh=>by cases h) (λh=>?_);refine aa.skip ?_;simp;refine aa.ab aw fw [2] ?_;simp[Uv,cG];refine⟨⟨cS,by simp at hl⊢;omega⟩, ?_⟩;refine aa.ret ?_;exact .inr ⟨1026,0,by simp,by simp⟩
variable [Laid]
theorem okE:ay Tryz.prog (aW []):=ay.nil
def qk(a b:Int):Int:=if a<b then-1 else if b<a then 1 else 0
def Nt(l:List Int):Int:=(l.find? λx=>x !=0).getD 0
def dy(x y:List T):Int:=Nt [qk (cX (x.getD 0 (ti 0))) (cX (y.getD 0 (ti 0))),qk (cX (x.getD 1 (ti 0))) (cX (y.getD 1 (ti 0))),qk (cX (x.getD 2 (ti 0))) (cX (y.getD 2 (ti 0)))]
theorem t71(a:Int):aT Tryz.prog 106 [ti a] (.bool false):=by
 have aw:=okE;refine c71.ok (by simp) (aJ ?_);simp;refine aa.ab aw fw [0] ?_;simp[d71r0];refine aa.ab aw fw [2] ?_;simp[d71r1];refine aa.ret ?_;simp[UD]
abbrev spec71:DM.Spec:=cy (λts=>∃a,ts=[ti a]) (λ_=>.bool false) true
theorem ok71:ay Tryz.prog (aW [(106,spec71)]):=by
 refine ay.cons ay.nil ?_;rintro ts ⟨a,rfl⟩;exact⟨t71 a,λ_=>rfl⟩
theorem t54(a b:Int):aT Tryz.prog 79 [ti a,ti b] (ti (qk a b)):=by
 have aw:=ok71;refine c54.ok (by simp) (aJ ?_);simp;refine aa.ab aw fw [0,1] ?_;simp[HI];refine aa.ab aw fw [0,1,5] ?_;simp[HJ];refine aa.ab aw fw [0,1,5,6] ?_;simp[d54r2];refine aa.seq ?_;refine aa.ab aw fw [0,1,6,11] ?_;simp[d54r3];refine aa.cond rfl (λh=>by cases h) (λh=>?_);refine aa.skip ?_;simp;refine aa.seq ?_;refine aa.ab aw fw [0,1,13] ?_;simp[d54r7];refine aa.cond rfl (λh=>by cases h) (λh=>?_);refine aa.skip ?_;simp;refine aa.seq ?_;refine aa.ab aw fw [0,1,16] ?_;simp[d54r9];refine aa.cond rfl (λh=>?_) (λh=>?_)
 ·simp at h;refine aa.ab aw fw [4] ?_;simp[Uz];refine aa.ret ?_;simp[xo,qk,h]
 ·simp at h;refine aa.skip ?_;simp;refine aa.seq ?_;refine aa.ab aw fw [0,1,19] ?_;simp[UA];refine aa.cond rfl (λh2=>?_) (λh2=>?_)
  ·simp at h2;refine aa.ab aw fw [4] ?_;simp[UB];refine aa.ret ?_;simp[xo,qk,h2,show ¬a<b by omega]
  ·simp at h2;refine aa.skip ?_;simp;refine aa.ab aw fw [4] ?_;simp[UC];refine aa.ret ?_;simp[xo,qk,show ¬a<b by omega,show ¬b<a by omega]
theorem Vh{l:List Int}{y:Nat}(hy:y<l.length)(h:l.getD y default=0):Nt (l.drop y)=Nt (l.drop (y+1)):=by
 rw[ZbS hy];have:l[y]=0:=by simpa [List.getD,hy]using h
 simp[Nt,this]
theorem XV{l:List Int}{y:Nat}(hy:y<l.length)(h:l.getD y default≠0):Nt (l.drop y)=l.getD y default:=by
 rw[ZbS hy];have e:l.getD y default=l[y]:=by simp[List.getD,hy]
 rw[e]at h⊢;simp only[Nt,ZaN,Zbc,(bne_iff_ne (a:=l[y]) (b:=(0:Int))).2 h]
theorem t53(l:List Int)(hl:l.length<=1000000):aT Tryz.prog 78 [.sl (aB l)] (ti (Nt l)):=by
 have aw:=okE;refine c53.ok (by simp) (aJ ?_);simp;refine aa.ab aw fw [0] ?_;simp[Hl];refine aa.ab aw fw [0,3] ?_;simp[Hm];refine aa.seq ?_;refine aa.ab aw fw [3,6,7,8] ?_;simp[Hn];refine aa.block ?_;refine aa.loop (λy:Nat=>⟨DM.look [(3,.v (ti 0)),(6,.v (.sl (aB l))),(7,.v (ti l.length)),(8,.v (ti y))],cA [],2000,1000,[]⟩)
  (λy=>y<=l.length/\Nt (l.drop y)=Nt l) (λy=>l.length-y) 0 (Le.aC (o:=[]) ?_ ?_ ?_ ?_) (by simp) (λy hy=>?_)
 iterate 4(·simp)
 obtain⟨jR,fl⟩:=hy;refine aa.ab aw fw [3,6,7,8,9] ?_;simp[Ho];refine aa.seq ?_;refine aa.cond rfl (λh=>?_) (λh=>?_)
 ·simp at h;refine aa.skip ?_;simp;refine aa.seq ?_;refine aa.block ?_;have hr:=cO h;obtain⟨p,hp⟩:∃p,l.getD y default=p:=⟨_,rfl⟩;rw[hp]at hr;refine aa.ab aw fw [3,5,6,7,8] ?_;simp[Hp,hr,h];refine aa.ab aw fw [3,5,6,7,8,14] ?_;simp[Hq];refine aa.cond rfl (λh2=>?_) (λh2=>?_)
  ·simp at h2;refine aa.ab aw fw [2] ?_;simp[Hr];refine aa.ret ?_;rw[XV h (by rw[hp];exact h2),hp]at fl;simp[A5,fl]
  ·simp at h2;refine aa.skip ?_;simp;refine aa.dp aw fw [3,6,7,8] ?_;simp[Hs];rw[au (by omega)];refine⟨y+1,Le.aC (o:=[]) ?_ ?_ ?_ ?_,⟨by omega, ?_⟩,by omega⟩;iterate 4(·simp)
   ·rw[<-fl,Vh h (by rw[hp];exact h2)]
 ·simp at h;refine aa.exit ?_;simp;refine aa.ab aw fw [2] ?_;simp[d53r8];refine aa.ret ?_;have:l.drop y=[]:=Zby (by omega);rw[this]at fl;simp only[A5];rw[<-fl];simp[Nt]
abbrev spec54:DM.Spec:=cy (λts=>∃a b,ts=[ti a,ti b]) (fun|[.int _ a,.int _ b]=>ti (qk a b)|_=>.bool false) true
abbrev spec53:DM.Spec:=cy (λts=>∃l:List Int,ts=[.sl (aB l)]/\l.length<=1000000) (fun|[.sl l]=>ti (Nt (fu l))|_=>.bool false) true
theorem ok54:ay Tryz.prog (aW [(79,spec54),(78,spec53)]):=by
 refine ay.cons (ay.cons ay.nil ?_) ?_
 ·rintro ts ⟨l,rfl,h⟩;have:=t53 l h;rw[<-Io l]at this;exact⟨by simpa using t53 l h,λ_=>rfl⟩
 ·rintro ts ⟨a,b,rfl⟩;exact⟨t54 a b,λ_=>rfl⟩
theorem t33(a b c d e f:Int):aT Tryz.prog 52 [.agg [ti a,ti b,ti c],.agg [ti d,ti e,ti f]] (ti (Nt [qk a d,qk b e,qk c f])):=by
 have aw:=ok54;refine c33.ok (by simp) (aJ ?_);simp;refine aa.ab aw fw [2,3] ?_;simp[Hj];refine aa.ab aw fw [4] ?_;simp[Hk];refine⟨⟨[qk a d,qk b e,qk c f],rfl,by simp⟩, ?_⟩;refine aa.ret ?_;simp[A4];rfl
def d28r0:List RO:=[
 o (.box (t 0)) 2 [],
 o (.bP (.cq (.v (.bool false)))) 4 []]
def yI:List RO:=[
 n 1 6,
 o (.bin .lss (t 6) (i 0)) 7 [0],
 m 7 8 [1],
 u 0 2 9 8 false [2],
 v 9 10 8 false [3,2],
 g (.len (t 10)) 11 8 false [4,2],
 g (.bin .gtr (t 11) (i 60)) 12 8 false [5,2],
 p 8 12 13 [2,6],
 m 13 14 [7,2],
 u 1 2 15 14 false [8],
 v 15 16 14 false [9,8],
 g (.len (t 16)) 17 14 false [10,8],
 w 1 18 14 false [8],
 g (.bin .neq (t 17) (t 18)) 19 14 false [11,12,8],
 p 14 19 20 [8,13],
 m 20 21 [14,8],
 u 2 2 22 21 false [15],
 v 22 23 21 false [16,15],
 g (.bin .lss (t 23) (i 0)) 24 21 false [17,15],
 p 21 24 25 [15,18],
 m 25 26 [19,15],
 u 2 2 27 26 false [20],
 v 27 28 26 false [21,20],
 g (.bin .gtr (t 28) (i 60000)) 29 26 false [22,20],
 p 26 29 30 [20,23],
 m 30 31 [24,20],
 u 0 2 32 31 false [25],
 v 32 33 31 false [26,25],
 w 1 34 31 false [25],
 g (.call 43 [(t 33),(t 34)]) 35 31 false [27,28,25,25],
 g (.un .not (t 35)) 36 31 false [29,25],
 p 31 36 37 [25,30]]
def d28r2:List RO:=[
 o (.bP (.cq (.v (.bool false)))) 4 []]
def d28r3:List RO:=[
 o (.bP (i 0)) 5 []]
def d28r4:List RO:=[
 n 5 38,
 n 1 39,
 b .lss 38 39 40 [0,1]]
def UG:List RO:=[
 a 1 2 43 [],
 l 43 44 [0],
 n 5 45,
 x 1 44 45 46 [1,2],
 l 46 47 [3],
 o (.bin .lss (t 47) (i 1)) 48 [4],
 m 48 49 [5],
 u 1 2 50 49 false [6],
 v 50 51 49 false [7,6],
 w 5 52 49 false [6],
 g (.idxAddr 1 (t 51) (t 52)) 53 49 false [8,9,6],
 v 53 54 49 false [10,6],
 g (.bin .gtr (t 54) (i 60000)) 55 49 false [11,6],
 p 49 55 56 [6,12]]
def d28r6:List RO:=[
 o (.bP (.cq (.v (.bool false)))) 4 []]
def d28r7:List RO:=[
 n 5 41,
 o (.bin .add (t 41) (i 1)) 42 [0],
 m 42 5 [1,0,1]]
def d28r8:List RO:=[
 o (.bP (.cq (.v (.bool true)))) 4 []]
def d28:DC:=(j (y d28r0)
 (j (j (y yI)
 (.cond (.tmp 37) (j (y d28r2)
 .ret)
 .skip))
 (j (j (y d28r3)
 (.block 0 (.loop (j (j (y d28r4)
 (.cond (.tmp 40) .skip
 (.exit 0)))
 (j (.block 1 (j (y UG)
 (.cond (.tmp 56) (j (y d28r6)
 .ret)
 .skip)))
 (y d28r7))))))
 (j (y d28r8)
 .ret))))
def Fk:List bN:=[.slot 4]
theorem c28 [Laid]:aQ Tryz.prog 21 57 d28 Fk:=⟨Tryz.f21,by kernel_rfl,by kernel_rfl,by kernel_rfl,by kernel_rfl,by kernel_rfl⟩
def GY:List RO:=[
 o (.bP (.cq (.v (.bool false)))) 4 []]
def AU:List RO:=[
 o (.bP (i 0)) 5 []]
def GZ:List RO:=[
 n 5 6,
 n 0 7,
 o (.len (t 7)) 8 [1],
 b .lss 6 8 9 [0,2]]
def G0:List RO:=[
 n 0 12,
 n 5 13,
 x 3 12 13 14 [0,1],
 L 3 14 15 [2],
 n 1 16,
 o (.call 65 [(t 15),(t 16)]) 17 [3,4],
 o (.un .not (t 17)) 18 [5]]
def Ha:List RO:=[
 o (.bP (.cq (.v (.bool false)))) 4 []]
def d45r5:List RO:=[
 n 5 10,
 o (.bin .add (t 10) (i 1)) 11 [0],
 m 11 5 [1,0,1]]
def d45r6:List RO:=[
 o (.bP (.cq (.v (.bool true)))) 4 []]
def d45:DC:=(j (y GY)
 (j (j (y AU)
 (.block 0 (.loop (j (j (y GZ)
 (.cond (.tmp 9) .skip
 (.exit 0)))
 (j (.block 1 (j (y G0)
 (.cond (.tmp 18) (j (y Ha)
 .ret)
 .skip)))
 (y d45r5))))))
 (j (y d45r6)
 .ret)))
def tW:List bN:=[.slot 4]
theorem c45 [Laid]:aQ Tryz.prog 43 19 d45 tW:=⟨Tryz.f43,by kernel_rfl,by kernel_rfl,by kernel_rfl,by kernel_rfl,by kernel_rfl⟩
def HO:List RO:=[
 o (.box (t 0)) 2 [],
 o (.bP (.cq (.v (.bool false)))) 4 []]
def tj:List RO:=[
 a 0 2 7 [],
 l 7 8 [0],
 o (.bin .lss (t 8) (i (-1))) 9 [1],
 m 9 10 [2],
 u 0 2 11 10 false [3],
 v 11 12 10 false [4,3],
 w 1 13 10 false [3],
 g (.bin .geq (t 12) (t 13)) 14 10 false [5,6,3],
 p 10 14 15 [3,7],
 m 15 16 [8,3],
 u 1 2 17 16 false [9],
 v 17 18 16 false [10,9],
 g (.len (t 18)) 19 16 false [11,9],
 w 1 20 16 false [9],
 g (.bin .neq (t 19) (t 20)) 21 16 false [12,13,9],
 p 16 21 22 [9,14],
 m 22 23 [15,9],
 u 2 2 24 23 false [16],
 v 24 25 23 false [17,16],
 g (.bin .lss (t 25) (i 1)) 26 23 false [18,16],
 p 23 26 27 [16,19],
 m 27 28 [20,16],
 u 2 2 29 28 false [21],
 v 29 30 28 false [22,21],
 g (.bin .gtr (t 30) (i 60000)) 31 28 false [23,21],
 w 31 32 28 false [24,21,21],
 u 2 2 33 32 true [25],
 v 33 34 32 true [26,25],
 g (.bin .neq (t 34) (i 1099511627776)) 35 32 true [27,25],
 g (.pick (t 32) (t 35) (.cq (.v (.bool false)))) 36 28 false [25,28,21],
 p 28 36 37 [21,29]]
def Nc:List RO:=[
 o (.bP (.cq (.v (.bool false)))) 4 []]
def Dd:List RO:=[
 o (.bP (i 0)) 5 []]
def d58r4:List RO:=[
 n 5 38,
 n 1 39,
 b .lss 38 39 40 [0,1]]
def d58r5:List RO:=[
 a 1 2 43 [],
 l 43 44 [0],
 n 5 45,
 x 1 44 45 46 [1,2],
 l 46 47 [3],
 m 47 6 (k [4] 4)]
def Bu:List RO:=[
 n 5 48,
 a 0 2 49 [],
 l 49 50 [1],
 b .eql 48 50 51 [0,2],
 m 51 52 [3],
 w 6 53 52 true [4],
 g (.bin .neq (t 53) (i 0)) 54 52 true [5,4],
 q 52 54 55 [4,6],
 m 55 56 [7,4],
 w 5 57 56 false [8],
 u 0 2 58 56 false [8],
 v 58 59 56 false [10,8],
 g (.bin .neq (t 57) (t 59)) 60 56 false [9,11,8],
 w 60 61 56 false [12,8,8],
 w 6 62 61 true [13],
 g (.bin .neq (t 62) (i (-1))) 63 61 true [14,13],
 g (.pick (t 61) (t 63) (.cq (.v (.bool false)))) 64 56 false [13,15,8],
 w 64 65 56 false [16,13,8],
 w 6 66 65 true [17],
 g (.bin .lss (t 66) (i 1)) 67 65 true [18,17],
 w 67 68 65 true [19,17,17],
 w 6 69 68 false [20],
 g (.bin .gtr (t 69) (i 60000)) 70 68 false [21,20],
 g (.pick (t 68) (.cq (.v (.bool true))) (t 70)) 71 65 true [20,22,17],
 g (.pick (t 65) (t 71) (.cq (.v (.bool false)))) 72 56 false [17,23,8],
 p 56 72 73 [8,24]]
def d58r7:List RO:=[
 o (.bP (.cq (.v (.bool false)))) 4 []]
def d58r8:List RO:=[
 n 5 41,
 o (.bin .add (t 41) (i 1)) 42 [0],
 m 42 5 [1,0,1]]
def d58r9:List RO:=[
 o (.bP (.cq (.v (.bool true)))) 4 []]
def d58:DC:=(j (y HO)
 (j (j (y tj)
 (.cond (.tmp 37) (j (y Nc)
 .ret)
 .skip))
 (j (j (y Dd)
 (.block 0 (.loop (j (j (y d58r4)
 (.cond (.tmp 40) .skip
 (.exit 0)))
 (j (.block 1 (j (y d58r5)
 (j (y Bu)
 (.cond (.tmp 73) (j (y d58r7)
 .ret)
 .skip))))
 (y d58r8))))))
 (j (y d58r9)
 .ret))))
def rE:List bN:=[.slot 4]
theorem c58 [Laid]:aQ Tryz.prog 65 74 d58 rE:=⟨Tryz.f65,by kernel_rfl,by kernel_rfl,by kernel_rfl,by kernel_rfl,by kernel_rfl⟩
def d39r0:List RO:=[
 o (.box (t 0)) 2 [],
 o (.box (t 1)) 3 [],
 o (.bP (.cq (.v (.bool false)))) 4 []]
def d39r1:List RO:=[
 a 0 2 5 [],
 l 5 6 [0],
 a 0 3 7 [],
 l 7 8 [2],
 b .neq 6 8 9 [1,3]]
def d39r2:List RO:=[
 a 0 2 10 [],
 l 10 11 [0],
 a 0 3 12 [],
 l 12 13 [2],
 b .lss 11 13 14 [1,3],
 m 14 4 (k [4] 4)]
def d39r3:List RO:=[
 a 1 2 15 [],
 l 15 16 [0],
 a 1 3 17 [],
 l 17 18 [2],
 b .neq 16 18 19 [1,3]]
def d39r4:List RO:=[
 a 1 2 20 [],
 l 20 21 [0],
 a 1 3 22 [],
 l 22 23 [2],
 b .lss 21 23 24 [1,3],
 m 24 4 (k [4] 4)]
def d39r5:List RO:=[
 a 2 2 25 [],
 l 25 26 [0],
 a 2 3 27 [],
 l 27 28 [2],
 b .lss 26 28 29 [1,3],
 m 29 4 (k [4] 4)]
def d39:DC:=(j (y d39r0)
 (j (j (y d39r1)
 (.cond (.tmp 9) (j (y d39r2)
 .ret)
 .skip))
 (j (j (y d39r3)
 (.cond (.tmp 19) (j (y d39r4)
 .ret)
 .skip))
 (j (y d39r5)
 .ret))))
def Fl:List bN:=[.slot 4]
theorem c39 [Laid]:aQ Tryz.prog 47 30 d39 Fl:=⟨Tryz.f47,by kernel_rfl,by kernel_rfl,by kernel_rfl,by kernel_rfl,by kernel_rfl⟩
def HA:List RO:=[
 o (.bP (i 0)) 4 []]
def vx:List RO:=[
 n 0 5,
 o (.bin .geq (t 5) (i 1099511627776)) 6 [0],
 m 6 7 [1],
 w 1 8 7 false [2],
 g (.bin .geq (t 8) (i 1099511627776)) 9 7 false [3,2],
 p 7 9 10 [2,4],
 m 10 11 [5,2],
 w 0 12 11 false [6],
 w 1 13 11 false [6],
 g (.bin .add (t 12) (t 13)) 14 11 false [7,8,6],
 g (.bin .geq (t 14) (i 1099511627776)) 15 11 false [9,6],
 p 11 15 16 [6,10]]
def HB:List RO:=[
 o (.bP (i 1099511627776)) 4 []]
def HC:List RO:=[
 n 0 17,
 n 1 18,
 b .add 17 18 19 [0,1],
 m 19 4 [2,0,1,2]]
def d36:DC:=(j (y HA)
 (j (j (y vx)
 (.cond (.tmp 16) (j (y HB)
 .ret)
 .skip))
 (j (y HC)
 .ret)))
def rD:List bN:=[.slot 4]
theorem c36 [Laid]:aQ Tryz.prog 28 20 d36 rD:=⟨Tryz.f28,by kernel_rfl,by kernel_rfl,by kernel_rfl,by kernel_rfl,by kernel_rfl⟩
def Gg(s aV:Int)(a:bn):Prop:=¬(a.f<0\/a.f>a.t\/a.t>=s\/a.term<0\/a.term>=aV\/a.cost<0\/a.cost>=1099511627776\/(a.f=a.t/\a.cost=0))
instance(s aV:Int)(a:bn):Decidable (Gg s aV a):=by unfold Gg;infer_instance
def before(a b:bn):Prop:=a.f<b.f\/(a.f=b.f/\(a.t<b.t\/(a.t=b.t/\a.term<b.term)))
instance(a b:bn):Decidable (before a b):=by unfold before;infer_instance
def Ml(f:List Int)(i:Nat):Prop:=0<=f.getD i default/\f.getD i default<=1099511627776
def Ln(l:aM)(aV:Int)(i:Nat):Prop:=Gg l.aN aV (l.aD.getD i default)/\(i=0\/before (l.aD.getD (i-1) default) (l.aD.getD i default))
def qD(l:aM)(aV:Int):Prop:=(1<=l.aN/\(l.final.length:Int)=l.aN)/\(∀i,i<l.final.length->Ml l.final i)/\∀i,i<l.aD.length->Ln l aV i
instance(f:List Int)(i:Nat):Decidable (Ml f i):=by unfold Ml;infer_instance
instance(l:aM)(aV:Int)(i:Nat):Decidable (Ln l aV i):=by unfold Ln;infer_instance
instance(l:aM)(aV:Int):Decidable (qD l aV):=by unfold qD;infer_instance
theorem t39(a b:bn):aT Tryz.prog 47 [.agg a.enc,.agg b.enc] (.bool (decide (before a b))):=by
 have aw:=okE;obtain⟨v,hv⟩:∃v,decide (before a b)=v:=⟨_,rfl⟩;rw[hv];refine c39.ok (by simp) (aJ ?_);simp[bn.enc];refine aa.ab aw fw [2,3] ?_;simp[d39r0];refine aa.seq ?_;refine aa.ab aw fw [2,3,9] ?_;simp[d39r1];refine aa.cond rfl (λh=>?_) (λh=>?_)
 ·simp at h;refine aa.ab aw fw [4] ?_;simp[d39r2];refine aa.ret ?_;simp[Fl,<-hv,before,h]
 ·simp at h;refine aa.skip ?_;simp;refine aa.seq ?_;refine aa.ab aw fw [2,3,19] ?_;simp[d39r3];refine aa.cond rfl (λh2=>?_) (λh2=>?_)
  ·simp at h2;refine aa.ab aw fw [4] ?_;simp[d39r4];refine aa.ret ?_;simp[Fl,<-hv,before,h,h2]
  ·simp at h2;refine aa.skip ?_;simp;refine aa.ab aw fw [4] ?_;simp[d39r5];refine aa.ret ?_;simp[Fl,<-hv,before,h,h2]
abbrev spec39:DM.Spec:=cy (λts=>∃a b:bn,ts=[.agg a.enc,.agg b.enc]) (fun|[.agg x,.agg y]=>.bool (decide (before (lL x) (lL y)))|_=>.bool false) true
theorem ok39:ay Tryz.prog (aW [(47,spec39)]):=by
 refine ay.cons ay.nil ?_;rintro ts ⟨a,b,rfl⟩;exact⟨by simpa using t39 a b,λ_=>rfl⟩
theorem xI{n:Int}(h:0<=n/\n<18446744073709551616):IntKind.u64.wrap n=n:=by
 unfold IntKind.wrap;simp[IntKind.bits,IntKind.signed];omega
theorem Lk{n:Nat}(h:n<4294967296):n % 2^IntKind.u64.bits&&&4294967295 % 2^IntKind.u64.bits=n:=by
 have e:IntKind.u64.bits=64:=rfl;rw[e,Zcl (show n<2^64 by omega),show 4294967295 % 2^64=2^32-1 by decide,Nat.and_two_pow_sub_one_eq_mod,Zcl (by omega)]
theorem t60(x y:Nat)(hx:x<4294967296)(hy:y<4294967296):aT Tryz.prog 95 [.int .u64 x,.int .u64 y] (.eF [.int .u64 0,.int .u64 ((x*y:Nat):Int)]):=by
 have aw:=okE;refine c60.ok (by simp) (aJ ?_);simp;refine aa.ab aw fw [0,1] ?_;simp[HK];obtain⟨p,hp⟩:∃p,x*y=p:=⟨_,rfl⟩;have PW:p<18446744073709551616:=by
  rw[<-hp]
  calc x*y<=4294967295*4294967295:=Zb6 (by omega) (by omega)
   _<_:=by decide
 have hpi:(x:Int)*y=p:=by rw[<-hp];simp
 have e1:=xI (n:=x) (by omega);have e2:=xI (n:=y) (by omega);have e3:=xI (n:=p) (by omega);have b:IntKind.u64.bits=64:=rfl;have e0:IntKind.u64.wrap 0=0:=rfl;have d1:(x:Int)/4294967296=0:=by omega
 have d2:(y:Int)/4294967296=0:=by omega
 have d3:(p:Int)/4294967296<4294967296:=by omega
 obtain⟨q,hq⟩:∃q:Nat,(p:Int)/4294967296=q:=⟨p/4294967296,by omega⟩;have hqb:q<4294967296:=by omega
 have e4:=xI (n:=q) (by omega);have d4:(q:Int)/4294967296=0:=by omega
 rw[hpi];refine aa.ab aw fw [0,1,6] ?_;simp[yF,Lk hx,e1];refine aa.ab aw fw [0,1,6,7] ?_;simp[HL,b,d1];refine aa.ab aw fw [0,1,6,7,8] ?_;simp[HM,Lk hy,e2];refine aa.ab aw fw [0,1,6,7,8,9] ?_;simp[M8,b,d2];refine aa.ab aw fw [0,1,6,7,8,9,10] ?_;simp[M9,hpi,e3];refine aa.ab aw fw [0,1,6,7,8,9,10,11] ?_;simp[d60r6,e0,b,hq,e4];refine aa.ab aw fw [0,1,6,7,8,9,10,11,12] ?_;simp[d60r7,Lk hqb,e4];refine aa.ab aw fw [0,1,6,7,8,9,10,11,12,13] ?_;simp[d60r8,b,d4];refine aa.ab aw fw [0,1,6,7,8,9,10,11,12,13] ?_;simp[d60r9,e0,e4];refine aa.ab aw fw [0,1,4] ?_;simp[UE,e0,b,d4];refine aa.ab aw fw [4,5] ?_;simp[UF,hpi,e3];refine aa.ret ?_;simp[tX]
abbrev spec60:DM.Spec:=cy (λts=>∃x y:Nat,ts=[.int .u64 x,.int .u64 y]/\x<4294967296/\y<4294967296) (fun|[.int _ x,.int _ y]=>.eF [.int .u64 0,.int .u64 (x*y)]|_=>.bool false) false
theorem ok60:ay Tryz.prog (aW [(95,spec60)]):=by
 refine ay.cons ay.nil ?_;rintro ts ⟨x,y,rfl,h1,h2⟩;exact⟨by simpa using t60 x y h1 h2,λh=>by cases h⟩
theorem t46(x y:Nat)(hx:x<4294967296)(hy:y<4294967296):aT Tryz.prog 71 [.int .u64 x,.int .u64 y] (.eF [.int .u64 0,.int .u64 ((x*y:Nat):Int)]):=by
 have aw:=ok60;refine c46.ok (by simp) (aJ ?_);simp;refine aa.ab aw fw [0,1] ?_;simp[Hb];refine aa.seq ?_;refine aa.cond rfl (λh=>by cases h) (λh=>?_);refine aa.skip ?_;simp;refine aa.ab aw fw [8,9] ?_;simp[Hc];refine⟨⟨x,y,⟨rfl,rfl⟩,hx,hy⟩, ?_⟩;refine aa.ab aw fw [4,5] ?_;simp[Hd];refine aa.ret ?_;simp[pD]
abbrev spec46:DM.Spec:=cy (λts=>∃x y:Nat,ts=[.int .u64 x,.int .u64 y]/\x<4294967296/\y<4294967296) (fun|[.int _ x,.int _ y]=>.eF [.int .u64 0,.int .u64 (x*y)]|_=>.bool false) false
theorem ok46:ay Tryz.prog (aW [(71,spec46)]):=by
 refine ay.cons ay.nil ?_;rintro ts ⟨x,y,rfl,h1,h2⟩;exact⟨by simpa using t46 x y h1 h2,λh=>by cases h⟩
theorem t29(v:Int)(n:Nat)(h1:1<=n)(hn:n<=10000000):lJ Tryz.prog 48 [.sl (aB [v]),ti n] 3 1 (aB (List.replicate n v)):=by
 have aw:=ok46;refine c29.okF (by simp) (aJ ?_);simp;refine aa.ab aw fw [0,1] ?_;simp[d29r0];refine aa.seq ?_;refine aa.ab aw fw [0,1,10] ?_;simp[d29r1];refine aa.cond rfl (λh=>by simp at h;omega) (λh=>?_);refine aa.skip ?_;simp;have e1:=xI (n:=1) (by omega);have e2:=xI (n:=n) (by omega);refine aa.ab aw fw [0,1,5,6] ?_;simp[d29r3,e1,e2];refine⟨⟨1,n,⟨rfl,rfl⟩,by omega,by omega⟩, ?_⟩;refine aa.seq ?_;refine aa.ab aw fw [0,6,26] ?_;simp[d29r4];refine aa.cond rfl (λh=>by simp at h;omega) (λh=>?_);refine aa.skip ?_;simp;refine aa.ab aw fw [0,7] ?_;have w1:IntKind.i64.wrap (n:Int)=n:=au (by omega);simp[d29r6,w1];refine⟨by simp[cG];omega, ?_⟩;refine aa.ab aw fw [7,8] ?_;have hrp:∀(k:Nat),aB [v]=[[ti v]]:=λ_=>rfl;obtain⟨n',rfl⟩:∃n',n=n'+1:=⟨n-1,by omega⟩;simp[d29r7,aB,Za7];refine aa.seq ?_;refine aa.block ?_;refine aa.loop (λy:Nat=>⟨DM.look [(7,.bk 1227 0),(8,.v (ti (y+1:Nat)))],cA [(1227,.arr 0 3 1 (List.replicate (y+1) [ti v]++List.replicate (n'-y) [ti 0]))],3000,1000,[]⟩)
  (λy=>y<=n') (λy=>n'-y) 0 (Le.aC ?_ ?_ ?_ ?_) (by simp) (λy hy=>?_)
 iterate 4(·simp)
 refine aa.seq ?_;refine aa.ab aw fw [7,8,37] ?_;simp[d29r8];refine aa.cond rfl (λh=>?_) (λh=>?_)
 ·simp at h;refine aa.skip ?_;simp;refine aa.block ?_;refine aa.dp aw fw [7,8] ?_;have q1:((y:Int)+1<=(y:Int)+1+((n'-y:Nat):Int))=True:=by simp;omega
  simp[d29r9,q1];obtain⟨k,hk⟩:∃k,min (n'-y) (y+1)=k:=⟨_,rfl⟩;have k1:min ((↑y+1+((n'-y:Nat):Int)).toNat-(y+1)) (y+1)=k:=by omega
  have k2:min (y+1) ((↑y+1+((n'-y:Nat):Int)).toNat-(y+1))=k:=by omega
  rw[k1,k2];have e:List.drop (y+1+k) (List.replicate (y+1) [ti v]++List.replicate (n'-y) [ti 0])=List.replicate (n'-(y+k)) [ti 0]:=by
   rw[List.drop_append];simp;omega
  rw[e];refine⟨by omega,y+k,Le.aC ?_ ?_ ?_ ?_,by omega,by omega⟩
  ·simp
  ·simp
  ·simp;omega
  ·simp;rw[au (by omega)];omega
 ·simp at h;have:y=n':=by omega
  subst this;refine aa.exit ?_;simp;refine aa.ab aw fw [4] ?_;simp[Uy];refine aa.ret ?_;exact .inr ⟨1227,0,by simp,by simp[Za7]⟩
def pre29(ts:List T):Prop:=∃(v:Int) (n:Nat),ts=[.sl (aB [v]),ti n]/\1<=n/\n<=10000000
def fn29:List T->List (List T)
 |[.sl [[v]],.int _ n]=>List.replicate n.toNat [v]
 |_=>[]
theorem Iy(l:List Int)(i:Nat)(v:Int):(aB l).set i [ti v]=aB (l.set i v):=by simp[aB,ZbJ]
def jG(a b:Int):Int:=if 1099511627776<=a\/1099511627776<=b\/1099511627776<=a+b then 1099511627776 else a+b
theorem t36(a b:Int)(ha: -1000000000000000000<=a)(hb: -1000000000000000000<=b):aT Tryz.prog 28 [ti a,ti b] (ti (jG a b)):=by
 have aw:=okE;refine c36.ok (by simp) (aJ ?_);simp;refine aa.ab aw fw [0,1] ?_;simp[HA];refine aa.seq ?_;refine aa.bY aw fw [(0,.v (ti a)),(1,.v (ti b)),(16,.v (.bool (decide (1099511627776<=a\/1099511627776<=b\/1099511627776<=a+b))))] ?_ ?_
 ·by_cases q1:1099511627776<=a
  ·simp[vx,q1]
  ·by_cases q2:1099511627776<=b
   ·simp[vx,q1,q2]
   ·have w:IntKind.i64.wrap (a+b)=a+b:=au (by omega);by_cases q3:1099511627776<=a+b
    ·simp[vx,q1,q2,w,q3]
    ·simp[vx,q1,q2,w,q3]
 refine aa.cond rfl (λh=>?_) (λh=>?_)
 ·simp only[decide_eq_true_eq]at h;refine aa.ab aw fw [4] ?_;simp[HB];refine aa.ret ?_;simp[rD,jG,h]
 ·simp only[decide_eq_false_iff_not]at h;refine aa.skip ?_;simp;refine aa.ab aw fw [4] ?_;simp[HC];refine aa.ret ?_;rw[au (by omega)];simp only[jG,h,if_false];simp[rD]
abbrev Vm:DM.Spec:=cy (λts=>∃a b:Int,ts=[ti a,ti b]/\-1000000000000000000<=a/\-1000000000000000000<=b) (fun|[.int _ a,.int _ b]=>ti (jG a b)|_=>.bool false) true
theorem X0:ay Tryz.prog (aW [(28,Vm)]):=by
 refine ay.cons ay.nil ?_;rintro ts ⟨a,b,rfl,h1,h2⟩;exact⟨t36 a b h1 h2,λ_=>rfl⟩
end Go.Proofs
namespace Go.Proofs
open Go.DM
end Go.Proofs
