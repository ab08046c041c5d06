/- Part of the proof. Conditions: none. -/
import Derived.Test.YtljcdomdjgolkaaGreatDoorXad
import Derived.Shelf.SlSortCmp.NoneTotal
import Derived.ChangeArms
import Derived.ChangeStays
import Derived.ChangeSame
import Derived.RowKit
import Derived.OpenShut
import Derived.Test.YtljcdomdjgolkaaGreatDoorXac
import Derived.Test.YtljcdomdjgolkaaGreatDoorProg
import Derived.KernelRfl
set_option linter.unusedSectionVars false
set_option linter.unusedSimpArgs false
set_option linter.unusedVariables false
set_option maxHeartbeats 1000000
set_option maxRecDepth 100000
namespace Go.DM
open Go.RowKit
variable [Laid]
theorem RX{base:Nat}{W M:Nat->Prop}{w0 w:World}{o1:aU}{L1:Loc}(pE:bN base W M w0 o1 w L1){r k:Nat}{cs:List DV}{d:DV}(lX:o1 r=some (.box cs))
  (hd:∀c f xs,w.heap[L1.hY r]? =some (.cells c f (0,0))->c.toList=xs->∀x,xs[k]? =some x->jc W o1 L1 w (c7 o1 r (.box (cs.set k d))) L1 w->av w W (c7 o1 r (.box (cs.set k d))) L1 d x):
  bN base W M w0 (c7 o1 r (.box (cs.set k d))) w L1/\jc W o1 L1 w (c7 o1 r (.box (cs.set k d))) L1 w:=by
 have wY:∀{V:Nat->Prop} b,WW V (c7 o1 r (.box (cs.set k d))) L1 b->WW V o1 L1 b:=by
  intro V b hb;rcases hb with hb|⟨r',o,ff,hb⟩
  ·exact .inl hb
  ·rcases dN ff with⟨rfl,rfl⟩|⟨_,ff⟩
   ·exact .inr ⟨r',_,lX,hb⟩
   ·exact .inr ⟨r',o,ff,hb⟩
 have tu:jc W o1 L1 w (c7 o1 r (.box (cs.set k d))) L1 w:=by
  refine⟨cq.refl _ _,λb _ h=>wY b h,λr' o' ff te=>?_,λr' ver e' gb rows ff=>?_,rfl⟩
  ·by_cases he:r'=r
   ·subst he;rw[lX]at ff;cases ff;exact⟨rfl,.box (cs.set k d),by simp[c7],rfl⟩
   ·exact⟨rfl,o',lp he ff,rfl⟩
  ·have he:r'≠r:=λhe=>by rw[he,lX]at ff;cases ff
   exact⟨ver,e',gb,rows,lp he ff,Zae _,λ_=>⟨rfl,rfl,rfl⟩⟩
 refine⟨⟨pE.fr,λr' o ff=>?_,λp p' o o' b bH h1 h2 hb=>?_,λp o b hp hb=>?_,pE.under,pE.gl.aD tu.keeps.toKeepsC tu.sub⟩,tu⟩
 ·rcases dN ff with⟨rfl,rfl⟩|⟨bH,ff⟩
  ·obtain⟨c,f,bK,eI,hm⟩:=pE.ob r' _ lX;exact⟨c,f,bK,xi _ _ _ _ (aL.ee tu _ _ eI) λy hy=>hd c f _ bK rfl y hy tu,hm⟩
  ·have te:=pE.ob r' o ff;cases o with
   |box qU=>
    obtain⟨c',f',A1,A2,EA⟩:=te;exact⟨c',f',A1,aL.ee tu qU _ A2,EA⟩
   |map shs agg c es=>
    obtain⟨arr,A1,A2,q1,q2,q3,EA⟩:=te;exact⟨arr,A1,bk.ee tu es _ A2,q1,q2,q3,EA⟩
   |iter m s sn l=>
    obtain⟨A1,JM,EA⟩:=te;exact⟨A1,(tu.mp m JM).2,EA⟩
   |arr ver e' gb rows=>
    obtain⟨g1,g2,g3,g4⟩:=te;refine⟨g1,g2,g3, ?_⟩;rcases g4 with g4|⟨g,cap,cur,hv,hp,hh,k1,k2,k3,k4⟩
    ·exact .inl g4
    ·exact .inr ⟨g,cap,cur,hv,hp,hh,k1,k2,k3,aR.aD (cq.refl (WW W o1 L1) w).toKeepsC (λb _ hb=>wY b hb) _ _ k4⟩
 ·have key:∀{p o},c7 o1 r (.box (cs.set k d)) p=some o->∃o2,o1 p=some o2/\L1.own p o=L1.own p o2:=by
   intro p o hp;rcases dN hp with⟨rfl,rfl⟩|⟨_,hp⟩
   ·exact⟨_,lX,rfl⟩
   ·exact⟨o,hp,rfl⟩
  obtain⟨x1,y1,z1⟩:=key h1;obtain⟨x2,y2,z2⟩:=key h2;rw[z1]at hb;rw[z2];exact pE.apart p p' x1 x2 b bH y1 y2 hb
 ·rcases dN hp with⟨rfl,rfl⟩|⟨_,hp⟩
  ·exact pE.outer p _ b lX hb
  ·exact pE.outer p o b hp hb
theorem Pp{rows:List (List T)}{sz n:Nat}(h:∀x∈rows,x.length=sz):(rows.take n).flatten=rows.flatten.take (n*sz):=by
 induction rows generalizing n with
 |nil=>simp
 |cons r rs ih=>
  cases n with
  |zero=>simp
  |succ n=>
   have hr:r.length=sz:=h r (by simp);have e1:r.take ((n+1)*sz)=r:=Za2 (by rw[hr,Nat.add_mul];omega);have e2:(n+1)*sz-sz=n*sz:=by rw[Nat.add_mul];omega
   rw[ZbZ,Zbf,Zbf,ZcI,hr,e1,e2,ih λx hx=>h x (by simp[hx])]
theorem Le.cut{tm:Nat->DV}{ob:aU}{nxt low:Nat}{td:List (List T)}(r:Nat)(k:Nat){cs:List DV}{q ver n e sz:Nat}{rows:List (List T)}(hr:ob r=some (.box cs))(hk:cs[k]? =some (.s8 q ver 0 n))
  (hq:ob q=some (.arr ver e sz rows)):
  Le ⟨tm,ob,nxt,low,td⟩ ⟨tm,c7 (c7 ob q (.arr (ver+1) e sz (rows.take n))) r (.box (cs.set k (.bd q (ver+1)))),nxt,low,td⟩:=by
 intro κ nt a w L h;have hrq:r≠q:=λe=>by rw[e,hq]at hr;cases hr
 obtain⟨W,base,M,w0,dy,h0⟩:=h.r.ex;have hO:=h0.o;obtain⟨c,f,bK,eI,hm⟩:=hO.ob r _ hr;obtain⟨x,hx⟩:=ue _ _ _ _ eI hk;have CB:=xj _ _ _ _ _ eI hk hx;simp only[av]at CB;obtain⟨_,ver',e',gb,dp,gf,_,hv⟩:=CB;rw[hq]at gf;cases gf;obtain⟨QM,p,cap,p2,ta,M1,MT⟩:=hv rfl;simp only[Zb2,Zcm,ZaX]at QM M1 MT;obtain⟨gF,hlen,tT,ky⟩:=hO.ob q _ hq;have po:aP (L.sl q)=aP x:=by
  rw[ta,M1];by_cases h0:cap=0
  ·subst h0;cases p<;>cases p2<;>simp[aP]
  ·rw[MT (by omega)];cases p<;>simp[aP,h0,Addr.add]
 have step:∃xs,aR w (WW W ob L) (rows.take n).flatten xs/\(((rows.take n).length+([]:List (List T)).length=0/\∃a:Option Addr,x=.slice a 0 0)\/∃g cap cur,x=.slice (some ⟨g,0,none⟩) ((rows.take n).length+([]:List (List T)).length) cap/\0<cap/\w.heap[g]? =some (.cells cur e (0,0))/\(rows.take n).length+([]:List (List T)).length<=cap/\cap<=maxLen/\cur.size=cap*sz/\
     cur.toList.take (((rows.take n).length+([]:List (List T)).length)*sz)=xs++[]):=by
  have hl:(rows.take n).length=n:=by rw[Zaw];omega
  rcases ky with⟨rfl,a0,Ys⟩|⟨g,cap',cur,h1,h2,h3,h4,h5,h6,h7⟩
  ·simp only[Zcc]at QM;obtain rfl:n=0:=by omega
   rw[ta]at Ys;simp only[Value.slice.injEq]at Ys;obtain⟨rfl,_,rfl⟩:=Ys;exact⟨[],by simp[aR],.inl ⟨by simp,p2,by rw[M1]⟩⟩
  ·rw[ta]at h1;simp only[Value.slice.injEq]at h1;obtain⟨rfl,_,rfl⟩:=h1;have:=MT h2;subst this;refine⟨cur.toList.take (n*sz), ?_,.inr ⟨g,cap,cur,by rw[M1,hl];simp[Addr.add],h2,h3,by simp only[hl,Zcc];omega,h5,h6,by rw[hl];simp⟩⟩;rw[Pp hlen];have:=aR.take (n*sz) h7;rw[Zcw,ZcO (Zba _ QM)]at this;exact this
 obtain⟨xs,hxs,qV⟩:=step;obtain⟨pE,hA⟩:=pq (ys:=[]) (rows:=rows.take n) (ver':=ver+1) (v:=x) (v':=x) (w':=w) (vs:=[]) hO gF (λy hy=>hlen y (by simp only[ZaJ]at hy;exact Zav hy)) (.inr ⟨hq,po,by omega⟩) hxs (by simp[aR]) qV
  ⟨rfl,rfl,rfl,Zae _,λ_ _ _=>rfl⟩ (λb hb=>.inl hb) (Zae _)
 simp only[ZaJ]at pE hA;obtain⟨o1,Hk⟩:∃o1,c7 ob q (.arr (ver+1) e sz (rows.take n))=o1:=⟨_,rfl⟩;have nS:bV ob (some (q,.arr (ver+1) e sz (rows.take n)))=o1:=Hk;rw[nS]at pE hA;obtain⟨L1,Pg⟩:∃L1,L.gH q x=L1:=⟨_,rfl⟩;rw[Pg]at pE hA;have lX:o1 r=some (.box cs):=by rw[<-Hk];exact lp hrq hr
 have hq1:o1 q=some (.arr (ver+1) e sz (rows.take n)):=by rw[<-Hk];simp[c7]
 obtain⟨Nd,tu⟩:=RX (k:=k) (d:=.bd q (ver+1)) pE lX (λc' f' jN Ar fJ y hy tu=>by
  have hb:L1.hY r=L.hY r:=by rw[<-Pg];rfl
  rw[hb,bK]at Ar;cases Ar;rw[<-fJ,hx]at hy;cases hy;simp only[av];refine⟨⟨_,_,_,M1⟩,ver+1,e,sz,rows.take n,lp (Ne.symm hrq) hq1,Zae _,λ_=>?_⟩;rw[<-Pg];simp[Loc.gH])
 have oO:=dy.sub;have wC:∀r',nxt<=r'->c7 o1 r (.box (cs.set k (.bd q (ver+1)))) r'=none:=λr' ff=>by
  have hn:=h.fresh r' ff;simp only at hn;have e1:r'≠r:=λe=>by rw[e,hr]at hn;cases hn
  have e2:r'≠q:=λe=>by rw[e,hq]at hn;cases hn
  rw[<-Hk];simp only[c7];rw[if_neg e1,if_neg e2];exact hn
 rw[Hk];exact⟨L1,⟨⟨W,base,M,w0,dy,h0.size,λt=>av.ee tu _ _ (av.ee hA _ _ (h0.tmps t)),Nd⟩,jc.comp (jc.comp h.r.ee hA oO.1 oO.2) tu oO.1 oO.2,h.r.defers,h.r.bg,⟨_,wC⟩⟩,wC,h.low,h.it⟩
end Go.DM
namespace Go.DM
open Go.RowKit
variable [Laid]
section
variable{P:Program}
structure E7(P:Program)(f:FuncId)(args:List DV)(objs:aU)(N N':Nat)(qC:DV->aU->Prop):Prop where
 entry:Entry P f
 le:N<=N'
 none:∀val aB,qC val aB->(∀r,r<N->objs r=none->aB r=none)/\∀r,N'<=r->aB r=none
 run:∀(base:Nat) (W M:Nat->Prop) (w0 w:World) (L:Loc) (vals:Array Value),bN base W M w0 objs w L->kz w W objs L args vals.toList->
  Calls P f vals w λe w'=>∃v L' val aB,e=.returned v/\qC val aB/\bN base W M w0 aB w' L'/\jc W objs L w aB L' w'/\av w' W aB L' val v
def finN(t:Nat)(qC:DV->aU->Prop):Exit->lj->Prop
 |.normal,st|.ret,st=>qC (st.tmps t) st.objs
 |_,_=>False
theorem aO.okNs{f:FuncId}{nt:Nat}{d:DC}{t:Nat}(h:aO P f nt d [.slot t]){args:List DV}{objs:aU}{qC:DV->aU->Prop}{N:Nat}(hN:∀r,N<=r->objs r=none)(hlen:args.length<=nt)
  {N':Nat} (hle:N<=N') (lY:∀val aB,qC val aB->(∀r,r<N->objs r=none->aB r=none)/\∀r,N'<=r->aB r=none)
  (k:dO objs N->aa P nt d (finN t qC) ⟨look (args.zipIdx.map λp=>(p.2,p.1)),over [] objs,N,N,[]⟩):E7 P f args objs N N' qC:=by
 have AK:=h.entry;obtain⟨fn,wF,rfl,h3,hr,_⟩:=h;obtain⟨c,hb,hc⟩:=Zab.1 h3;refine⟨AK,hle,lY,λbase W M w0 w L vals hO OL=>?_⟩;have k:=Dq (k (Dx hO hN));have hl:=OL.1;simp only[ZaT]at hl;have vi:Rel ⟨W,objs,L,w,base,M,w0,none,none⟩ fn.ntmps (yC args objs N) {tmps:=vals++Array.replicate (fn.ntmps-vals.size) Go.undef,defers:=[]} w L:=by
  refine⟨⟨⟨W,base,M,w0,⟨rfl,rfl,rfl,rfl,rfl⟩,by simp;omega,λk=>?_,hO⟩,
   jc.ct (cq.refl _ _),⟨[],rfl,ZbT,(λ_ h=>by cases h),λ_=>rfl⟩,λ_=>ZaE hO.fr.ik hO.fr.size,⟨N,hN⟩⟩,hN,hN,λh=>by cases h⟩
  simp only[yC];cases hk:args[k]? with
  |some x=>
   have hv:∃v,vals.toList[k]? =some v:=by
    have:k<vals.size:=by rw[hl];exact(Zas.1 hk).1
    exact⟨vals[k],by simp[this]⟩
   obtain⟨v,hv⟩:=hv;simp only[oP hv,Kr];exact OL.2 k x v hk hv
  |none=>
   have zx:vals.size<=k:=by
    have:=ZbF.1 hk;omega
   simp only[Kr,av,oQ zx]
 refine callsIn_wide.1 (callsIn_of_wp_marks (n:=0) wF hb trivial ?_);refine wpIn_mono (k.run c hc 0 _ _ _ _ ⟨λJ hJ=>(by cases hJ),λl hl=>(by cases hl)⟩ vi) ?_;rintro e a' w' ⟨dh,L',q,r'⟩;have done:qC (dh.tmps t) dh.objs->LeavesInM Fence.wide 0 P fn a'.tmps (λe w'=>∃v L' val aB,e=.returned v/\qC val aB/\bN base W M w0 aB w' L'/\jc W objs L w aB L' w'/\av w' W aB L' val v) a'.defers .returning w':=by
  intro Xz;obtain⟨Ds,h1,h2,h3,_⟩:=r'.r.defers;rw[h1];refine leaves (κ:=⟨W,objs,L,w,base,M,w0,none,none⟩) rfl ?_ Ds a' w' L' r'.r h1 h2 h3;intro a2 w2 L2 h4;obtain⟨W',Nc,M',w0',dy,h0⟩:=h4.ex;obtain⟨_,e1,e2,e3,e4⟩:=dy
  replace h0:R0 base W M w0 fn.ntmps dh.tmps dh.objs a2 w2 L2:=by rw[e1,e2,e3,e4]at h0;exact h0
  exact⟨_,vG hr,_,L2,dh.tmps t,dh.objs,rfl,Xz,h0.o,h4.ee,h0.tmps t⟩
 cases e with
 |normal=>exact done q
 |ret=>exact done q
 |_=>exact q.elim
section
variable{nt:Nat}{Γ:Env}{Q:Exit->lj->Prop}{tm:Nat->DV}{ob:aU}{nxt low:Nat}{td:List (List T)}
end
end
end Go.DM
namespace Go.DM
open Go.RowKit
variable [Laid]
section
variable{P:Program}{nt:Nat}{Γ:Env}{κ:Ctx}{ro:Option Nat}{n:Nat}
theorem A8(wG:κ.Good P){ops:Array Oper}{i:Nat}{o:Oper}{f:FuncId}{args:List bp}{dst:Option Nat}{af:List Nat}(hi:ops[i]? =some o)(hco:cO P ops o=some ⟨.call f args,dst,none,af,none⟩)(yw:kq nt ⟨.call f args,dst,none,af,none⟩=true)
  {s1:RS} {a1:Act} {w1:World} {L1:Loc} (R1:dI κ nt s1 a1 w1 L1) {N N':Nat} {qC:DV->aU->Prop} (bj:E7 P f (args.map (·.ev s1.tmps)) s1.objs N N' qC) {K:Act->World->Prop} {Q:Exit->Act->World->Prop}
  (hK:∀a' w' L' val ob',qC val ob'->dI κ nt ⟨cd s1.tmps dst val,ob',s1.todo⟩ a' w' L'->K a' w'):wpOpIn (iR κ.ro) n P ops Q i K a1 w1:=by
 obtain⟨hd,hgd,jU,_⟩:=fk (r:=⟨.call f args,dst,none,af,none⟩) hco;rw[wpOpIn];simp only[hi];rw[Df (b:=true) hgd R1 rfl];simp only[if_true];refine⟨mM _ w1 _, ?_⟩;have hd':cI P o=some (.call f args):=hd;have zm:∀c,o.op≠ .defer c:=qc hd';rw[show(iR κ.ro).round=κ.ro from rfl,Oper.semAt_eq κ.ro _ _ zm];obtain⟨c,ho,bK⟩:=ep hd' (.inl ⟨f,args,rfl⟩);obtain⟨fn,jk,wF,hne',Cx,oz⟩:=lD bK;have bz:=jB (P:=P) (w:=w1) (a:=a1) (g:=f) (caps:= #[]) ho (λx hx=>by rw[jk]at hx;cases hx;rfl) ⟨_,jk⟩ ⟨fn,wF,hne',Cx⟩;rw[ZbD]at bz;rw[bz,Oper.uponIn_enter];refine⟨λhx=>(by cases hx),dT ?_⟩;obtain⟨W,base,M,w0,dy,h0⟩:=R1.ex;refine(bj.run base W M w0 w1 L1 (c.args.map a1.eval) h0.o (by simpa using gk h0.o.gl h0.tmps oz)).mono ?_;rintro e w2 ⟨v,L2,val,ob2,rfl,hP,Nd,tu,jn⟩;have XC:∀d,dst=some d->d<nt:=by
  intro d hd;have:=yw;subst hd;simp only[kq,Zam,decide_eq_true_eq]at this;exact this.2
 have R2:=dI.put R1 dy h0 dst XC Nd tu jn ⟨N',(bj.none val ob2 hP).2⟩;have Z2:dst=o.dst:=jU;rw[Z2]at R2;rw[Z2]at hK;exact hK _ _ _ _ _ hP R2
end
section
variable{P:Program}{nt:Nat}{Γ:Env}{Q:Exit->lj->Prop}{tm:Nat->DV}{ob:aU}{nxt low:Nat}{td:List (List T)}
def CN(P:Program)(nt nxt N':Nat)(f:FuncId)(args:List bp)(s:RS)(k:DV->aU->Prop):Prop:=
 ∃qC,((∀r,nxt+nt+1<=r->s.objs r=none)->E7 P f (args.map (·.ev s.tmps)) s.objs (nxt+nt+1) N' qC)/\∀val ob',qC val ob'->k val ob'
theorem pM{a:Array Bool}{i:Nat}(h:i<a.size)(d e:Bool):a.getD i d=a.getD i e:=by
 rw[Zay,Zay];simp[h]
theorem aa.regND(aw:ay P Γ)(hm:P.follows .mixedOrders=true){r0 r1:RO}{post:List RO}{f:FuncId}{args:List bp}{dst:Option Nat}{N':Nat}(ks:List Nat){rs:List RO}(jM:rs=r0::r1::⟨.call f args,dst,none,[1],none⟩::post)
  (ha:r0.after=[]/\r1.after=[]) (hp:∀y∈post,0∈y.after/\1∈y.after/\2∈y.after)
  (hA:exec Γ nxt [r0,r1] ⟨tm,ob,td⟩ λs=>CN P nt nxt N' f args s λval ob'=>exec Γ nxt post ⟨cd s.tmps dst val,ob',s.todo⟩ λs'=>Q .normal ⟨look (kG ks s'.tmps),s'.objs,N',low,s'.todo⟩)
  (hB:exec Γ nxt [r1,r0] ⟨tm,ob,td⟩ λs=>CN P nt nxt N' f args s λval ob'=>exec Γ nxt post ⟨cd s.tmps dst val,ob',s.todo⟩ λs'=>Q .normal ⟨look (kG ks s'.tmps),s'.objs,N',low,s'.todo⟩)
  (hC:exec Γ nxt [r1] ⟨tm,ob,td⟩ λs=>CN P nt nxt N' f args s λval ob'=>exec Γ nxt (r0::post) ⟨cd s.tmps dst val,ob',s.todo⟩ λs'=>Q .normal ⟨look (kG ks s'.tmps),s'.objs,N',low,s'.todo⟩):
  aa P nt (.region true rs) Q ⟨tm,ob,nxt,low,td⟩:=by
 refine⟨λc hc=>?_⟩;obtain⟨id,ops,rfl,lz,aG⟩:=pB hc;have Z3:=qe lz;have hcs':eK P ops=some (rs.map bare):=by rw[Z3];exact lz
 obtain⟨hlen,pA⟩:=mQ hcs';simp only[db,Zam,Zci,Bool.false_or]at aG;obtain⟨⟨dK,ES⟩,hpr⟩:=aG;obtain⟨cV,Rl⟩:=AH hpr;have gF:ops.size=3+post.length:=by rw[<-hlen,jM];simp;omega
 let g:Nat->RO:=λi=>(rs[i]?).getD ⟨.bL (.cm .undef),none,none,[],none⟩
 have gg:∀i,i<ops.size->rs[i]? =some (g i):=λi hi=>by
  have:i<rs.length:=by omega
  simp[g,this]
 have hbr:∀x∈rs,bare x=x:=λx hx=>by
  obtain⟨i,hi,rfl⟩:=ZaY hx;have:=congrArg (λl=>l[i]?) Z3;simp only[Zbp,Zan hi,Za0,Zaa]at this;exact this
 have ZN:∀(i:Nat) (o:Oper),ops[i]? =some o->cO P ops o=some (bare (g i)):=λi o ho=>by
  obtain⟨r,h1,h2⟩:=pA i o ho;have:g i=r:=by simp[g,h1]
  rw[this];exact h2
 have g0:g 0=r0:=by simp[g,jM]
 have g1:g 1=r1:=by simp[g,jM]
 have g2:g 2=⟨.call f args,dst,none,[1],none⟩:=by simp[g,jM]
 have jW:∀i,i<ops.size->kq nt (g i)=true:=λi hi=>ZaI.1 dK _ (Zaq (gg i hi));have jX:∀(i:Nat) (listed:Array Bool),i∈Region.ready .any ops listed↔listed.getD i true=false/\i<ops.size/\∀e∈(g i).after,listed.getD e false=true:=by
  intro i listed;rw[mem_ready];constructor
  ·rintro⟨h0,o,ho,h⟩;refine⟨h0,(Zaj.1 ho).1,λe he=>?_⟩;have:=(fk (ZN i o ho)).2.2.2;rw[this]at he;simp only[Zal,ZaP]at he;obtain⟨x,⟨hx,hb⟩,rfl⟩:=he;exact h x (by simpa using hx) hb
  ·rintro⟨h0,hi,h⟩;have ho:ops[i]? =some ops[i]:=by simp[hi]
   refine⟨h0,ops[i],ho,λe he hb=>h e.on ?_⟩;rw[(fk (ZN i _ ho)).2.2.2];exact Zal.2 ⟨e,ZaP.2 ⟨by simpa using he,hb⟩,rfl⟩
 have Nt:∀i,3<=i->i<ops.size->g i∈post:=λi h3 hi=>by
  have h:=gg i hi;rw[jM]at h;obtain⟨k,rfl⟩:∃k,i=k+3:=⟨i-3,by omega⟩;simp only[ZaW]at h;exact Zaq h
 have A9:(List.range' 3 post.length).map g=post:=by
  apply Zbl;intro k;by_cases hk:k<post.length
  ·have h:=gg (k+3) (by omega);rw[jM]at h;simp only[ZaW]at h;rw[Zbp,List.getElem?_range' hk,h];simp[Nat.add_comm]
  ·rw[ZaS (by simp;omega),ZaS (by omega)]
 have bH:∀l:List Nat,l.Nodup->(∀i∈l,i<ops.size)->dM (l.map g)=true:=by
  intro l;induction l with
  |nil=>intro _ _;rfl
  |cons i l ih=>
   intro hl hb;simp only[Zau,dM,Zam,ZaI];rw[ZbM]at hl;refine⟨λy hy=>?_,ih hl.2 λj hj=>hb j (by simp[hj])⟩;obtain⟨j,hj,rfl⟩:=Zal.1 hy;exact nT ES i j _ _ (by rintro rfl;exact hl.1 hj) (gg i (hb i (by simp))) (gg j (hb j (by simp[hj])))
 have hind:∀(listed:Array Bool) (i x:Nat),i<ops.size->x<i->listed.getD x true=false->(∀(j:Nat),j<ops.size->listed.getD j false=true->∀e∈(g j).after,listed.getD e false=true)->(∀e∈(g i).after,listed.getD e false=true)->indep (g x) (g i)=true:=by
  intro listed i x hi hx sv bj hd;rcases Rl i x (g i) (g x) (gg i hi) hx (gg x (by omega))with h1|⟨m,wH,EB⟩
  ·exact h1
  ·exfalso;have:=vd (rs:=rs) (listed:=listed) cV (λj y hj hy=>by
    have hjn:j<ops.size:=by have:=(Zas.1 hy).1;omega
    have:y=g j:=by rw[gg j hjn]at hy;exact(ZbK hy).symm
    rw[this];exact bj j hjn hj) i (g i) m x (gg i hi) wH EB hd
   rw[Zay]at this sv;cases qy:listed[x]? with
   |none=>rw[qy]at this;simp at this
   |some b=>rw[qy]at this sv;simp at this sv;rw[this]at sv;cases sv
 intro n κ act w L wG r;have KG:∀t,nxt<=t->ob t=none:=λt ht=>r.fresh t ht;have dz:∀x:RO,∃k,nm nxt x=nxt+k:=λx=>by
  unfold nm nameOf;cases x.dst with
  |none=>exact⟨0,rfl⟩
  |some d=>exact⟨d+1,by simp only[Nat.add_assoc]⟩
 have CF:∀i,i<ops.size->nm nxt (g i)<nxt+nt+1:=by
  intro i hi;have:=jW i hi;simp only[kq,Zam]at this;unfold nm nameOf;cases hyd:(g i).dst with
  |none=>simp only;omega
  |some d=>
   have:=this.2;rw[hyd]at this;simp only[decide_eq_true_eq]at this;simp only;omega
 have Z4:∀i,i<ops.size->eJ (g i)=true:=λi hi=>by have:=jW i hi;simp only[kq,Zam]at this;exact this.1.2
 have fin3:∀(listed:Array Bool),listed.size=ops.size->(∀i,i<ops.size->listed.getD i true=decide (i<3))->∀(st:RS) (a:Act) (w:World) (L:Loc),dI κ nt st a w L->gm nxt post st->nxt+nt+1<=N'->(∀t,N'<=t->st.objs t=none)->
   iS Γ nxt post st->Q .normal ⟨look (kG ks (cP Γ nxt post st).tmps),(cP Γ nxt post st).objs,N',low,(cP Γ nxt post st).todo⟩->
   wpAnyIn (iR κ.ro) n P .any ops (λe a w=>∃dh L',Q e dh/\Rel κ nt dh a w L') post.length listed a w:=by
  intro listed hs hl st a w L hR hF hle hhigh bz hQ;have Yt:rem ops.size listed=List.range' 3 post.length:=by
   unfold rem;rw[gF,Zcq,<-List.range'_append_1,List.filter_append];have e1:(List.range' 0 3).filter (λi=> !listed.getD i true)=[]:=by
    rw[List.filter_eq_nil_iff];intro i hi;have:=Zbh.1 hi;rw[hl i (by omega)];simp;omega
   have e2:(List.range' (0+3) post.length).filter (λi=> !listed.getD i true)=List.range' (0+3) post.length:=by
    rw[List.filter_eq_self];intro i hi;have:=Zbh.1 hi;rw[hl i (by omega)];simp;omega
   rw[e1,e2];simp
  refine M7 aw wG (g:=g) ZN jW bH hind (λi hi=>cV i (g i) (gg i hi)) post.length listed hs (by rw[Yt];simp) (λj hj M8 e he=>?_) st a w L hR (by rw[Yt,A9];exact hF) (by rw[Yt,A9];exact bz) ?_
  ·have h1:=hl j hj;rw[pM (by omega) true false]at h1;rw[h1]at M8;have hj3:j<3:=by simpa using M8
   have h3:j=0\/j=1\/j=2:=by omega
   rcases h3 with rfl|rfl|rfl
   ·rw[g0,ha.1]at he;cases he
   ·rw[g1,ha.2]at he;cases he
   ·rw[g2]at he;simp only[Zag,Zap,or_false]at he;subst he;have:=hl 1 (by omega);rw[pM (by omega) true false]at this;rw[this];rfl
  ·rw[Yt,A9];intro a3 w3 L3 R3;have hall2:post.all (kq nt)=true:=by
    rw[ZaI];intro y hy;exact ZaI.1 dK y (by rw[jM];simp[hy])
   have wC:∀t,N'<=t->(cP Γ nxt post st).objs t=none:=λt ht=>rK aw post hall2 _ bz t (ZaE hle ht) (hhigh t ht);obtain⟨L4,R4⟩:=Le.vk (st:=⟨(cP Γ nxt post st).tmps,(cP Γ nxt post st).objs,N',low,(cP Γ nxt post st).todo⟩) (mU _ ks) κ nt a3 w3 L3 ⟨R3,wC,r.low,r.it⟩;exact⟨_,L4,hQ,R4⟩
 have KH:∀{l:Array Bool} {i j:Nat},l.size=ops.size->i<ops.size->j<ops.size->(l.setIfInBounds i true).getD j true=if j=i then true else l.getD j true:=λ{l i j} hs hi hj=>by
  rw[Zay,Zb3,Zay];by_cases e:j=i
  ·subst e;simp[hs,hj]
  ·have:¬i=j:=λh=>e h.symm;simp[e,this]
 obtain⟨a1,hA⟩:=eL _ _ _ hA;obtain⟨b1,hB⟩:=eL _ _ _ hB;obtain⟨c1,hC⟩:=eL _ _ _ hC;simp only[iS,cP,and_true]at a1 b1 c1 hA hB hC;have hh:dI κ nt ⟨tm,ob,td⟩ act {w with drawn:=w.drawn+1} L:=by
  have hb:tP w.heap.size w {w with drawn:=w.drawn+1}:=⟨⟨rfl,rfl,rfl,Zae _,λ_ _=>rfl⟩,ZcQ _⟩;obtain⟨W,base,M,w0,dy,h0⟩:=r.r.ex;obtain⟨hO,hA⟩:=bN.grow h0.o hb;obtain⟨Ds,h1,h2,h3,h4⟩:=r.r.defers;exact⟨⟨W,base,M,w0,dy,h0.size,λt=>av.ee hA _ _ (h0.tmps t),hO⟩,r.r.ee.comp hA dy.sub.1 dy.sub.2,⟨Ds,h1,h2,λD hD=>⟨hA.keeps.OA D (h3 D hD).1,(h3 D hD).2⟩,h4⟩,r.r.bg,r.r.fin⟩
 have Cw:∀i (hi:i<ops.size),ops[i]? =some ops[i]:=λi hi=>by simp[hi]
 have zx:nxt<=nxt+nt+1:=by omega
 have F0:gm nxt (r0::r1::⟨.call f args,dst,none,[1],none⟩::post) ⟨tm,ob,td⟩:=⟨KG nxt (Zae _),λx _=>by obtain⟨k,hk⟩:=dz x;rw[hk];exact KG _ (by omega)⟩;have dA:dM (r0::r1::⟨.call f args,dst,none,[1],none⟩::post)=true:=by rw[<-jM];exact ES
 have dB:dM (r1::r0::⟨.call f args,dst,none,[1],none⟩::post)=true:=by
  have:=bH (1::0::2::List.range' 3 post.length) (by
   simp only[ZbM,Zag,Zbh];refine⟨by omega,by omega,by omega,List.nodup_range'⟩) (λi hi=>by
   simp only[Zag,Zbh]at hi;omega)
  simpa only[Zau,g0,g1,g2,A9]using this
 have sub:∀{l l':List RO} {st:RS},gm nxt l st->(∀x∈l',x∈l)->gm nxt l' st:=λh k=>⟨h.1,λy hy=>h.2 y (k y hy)⟩;have lowp:∀y∈post,nm nxt y<nxt+nt+1:=λy hy=>by
  rw[<-A9]at hy;obtain⟨i,hi,rfl⟩:=Zal.1 hy;exact CF i (by have:=Zbh.1 hi;omega)
 have low0:nm nxt r0<nxt+nt+1:=by rw[<-g0];exact CF 0 (by omega)
 have ro0:kq nt r0=true:=by rw[<-g0];exact jW 0 (by omega)
 have ro1:kq nt r1=true:=by rw[<-g1];exact jW 1 (by omega)
 have ro2:kq nt ⟨.call f args,dst,none,[1],none⟩=true:=by rw[<-g2];exact jW 2 (by omega)
 have co0:cO P ops ops[0]=some (bare r0):=by rw[<-g0];exact ZN 0 _ (Cw 0 (by omega))
 have co1:cO P ops ops[1]=some (bare r1):=by rw[<-g1];exact ZN 1 _ (Cw 1 (by omega))
 have co2:cO P ops ops[2]=some ⟨.call f args,dst,none,[1],none⟩:=by have:=ZN 2 _ (Cw 2 (by omega));rw[g2]at this;exact this
 have la0:eJ r0=true:=by rw[<-g0];exact Z4 0 (by omega)
 have la1:eJ r1=true:=by rw[<-g1];exact Z4 1 (by omega)
 have ZF:∀t,nxt+nt+1<=t->(⟨tm,ob,td⟩:RS).objs t=none:=λt ht=>KG t (by omega);have high:∀{r:RO} {st:RS},kq nt r=true->bX Γ nxt r st->(∀t,nxt+nt+1<=t->st.objs t=none)->∀t,nxt+nt+1<=t->(cN Γ nxt r st).objs t=none:=λ{r st} hr hk h t ht=>
  rK (nt:=nt) aw [r] (by simp[hr]) st ⟨hk,trivial⟩ t ht (h t ht)
 have hbig:∀(l:Array Bool) (m:Nat),l.size=ops.size->(∀i,i<ops.size->l.getD i true=decide (i<m))->m<=3->∀i,i∈Region.ready .any ops l->3<=i->m=3:=by
  intro l m hs hl hm3 i hi h3;obtain⟨_,tg,hd⟩:=(jX i l).1 hi;have h2:=hd 2 (hp _ (Nt i h3 tg)).2.2;rw[pM (by omega) false true,hl 2 (by omega)]at h2;have:2<m:=by simpa using h2
  omega
 have RY:∀(l:Array Bool),l.size=ops.size->(∀i,i<ops.size->l.getD i true=decide (i<2))->∀(s:RS) (a:Act) (w:World) (L:Loc),dI κ nt s a w L->gm nxt post s->(∀t,nxt+nt+1<=t->s.objs t=none)->
   CN P nt nxt N' f args s (λval ob'=>exec Γ nxt post ⟨cd s.tmps dst val,ob',s.todo⟩ λs'=>Q .normal ⟨look (kG ks s'.tmps),s'.objs,N',low,s'.todo⟩)->
   wpAnyIn (iR κ.ro) n P .any ops (λe a w=>∃dh L',Q e dh/\Rel κ nt dh a w L') (post.length+1) l a w:=by
  rintro l hs hl s a w L hR hF hh ⟨qC,bj,hpo⟩;have bj:=bj hh;refine⟨λhr=>?_,λi hi=>?_⟩
  ·exfalso;have:2∈Region.ready .any ops l:=(jX 2 l).2 ⟨by rw[hl 2 (by omega)];rfl,by omega,λe he=>by
    rw[g2]at he;simp only[Zag,Zap,or_false]at he;subst he;rw[pM (by omega) false true,hl 1 (by omega)];rfl⟩
   rw[hr]at this;cases this
  ·have nB:=(jX i l).1 hi;have h2:i=2:=by
    rcases Zbz i 3 with h|h
    ·have h0:=nB.1;rw[hl i nB.2.1]at h0;have:¬i<2:=by simpa using h0
     omega
    ·have:=hbig l 2 hs hl (by omega) i hi h;omega
   subst h2;refine A8 wG (Cw 2 (by omega)) co2 ro2 hR bj λa' w' L' val ob' hP Z5=>?_;obtain⟨x1,x2⟩:=eL _ _ _ (hpo val ob' hP);have uL:=bj.none val ob' hP;refine fin3 _ (by simpa using hs) (λj hj=>?_) _ a' w' L' Z5 ⟨uL.1 _ (by omega) hF.1,λy hy=>uL.1 _ (lowp y hy) (hF.2 y hy)⟩ bj.le uL.2 x1 x2;rw[KH hs (by omega) hj,hl j hj];split
   ·rename_i e;subst e;rfl
   ·rename_i e;rw[decide_eq_decide];omega
 have start:∀(w':World),dI κ nt ⟨tm,ob,td⟩ act w' L->wpAnyIn (iR κ.ro) n P .any ops (λe a w=>∃dh L',Q e dh/\Rel κ nt dh a w L') ops.size (Array.replicate ops.size false) act w':=by
  intro w0 hh;have RZ:(Array.replicate ops.size false).size=ops.size:=by simp
  have CA:∀i,i<ops.size->(Array.replicate ops.size false).getD i true=false:=λi hi=>by rw[Zay];simp[hi]
  obtain⟨l0,hl0e⟩:∃l0,Array.replicate ops.size false=l0:=⟨_,rfl⟩;rw[hl0e]at RZ CA⊢;rw[show ops.size=post.length+1+1+1 by omega];refine⟨λhr=>?_,λi hi=>?_⟩
  ·exfalso;have:0∈Region.ready .any ops l0:=(jX 0 l0).2 ⟨CA 0 (by omega),by omega,λe he=>by rw[g0,ha.1]at he;cases he⟩;rw[hr]at this;cases this
  ·obtain⟨_,tg,hd⟩:=(jX i l0).1 hi;have h01:i=0\/i=1:=by
    rcases Zbz i 2 with h|h
    ·omega
    ·exfalso;rcases Zbz i 3 with h3|h3
     ·obtain rfl:i=2:=by omega
      have:=hd 1 (by rw[g2];simp);rw[pM (by omega) false true,CA 1 (by omega)]at this;cases this
     ·have:=hd 2 (hp _ (Nt i h3 tg)).2.2;rw[pM (by omega) false true,CA 2 (by omega)]at this;cases this
   rcases h01 with rfl|rfl
   ·refine iq aw wG (Cw 0 (by omega)) co0 ro0 hh (F0.2 r0 (by simp)) a1.1 λa' w' L' h'=>?_;have FA:=jC aw la0 a1.1 (λy hy=>iu dA y hy) (sub F0 (l':=r1::⟨.call f args,dst,none,[1],none⟩::post) (by simp+contextual));have JS:(l0.setIfInBounds 0 true).size=ops.size:=by simpa using RZ
    have wJ:∀j,j<ops.size->(l0.setIfInBounds 0 true).getD j true=decide (j<1):=λj hj=>by
     rw[KH RZ (by omega) hj,CA j hj];split
     ·rename_i e;subst e;rfl
     ·rename_i e;symm;rw[decide_eq_false_iff_not];omega
    refine⟨λhr=>?_,λi hi=>?_⟩
    ·exfalso;have:1∈Region.ready .any ops (l0.setIfInBounds 0 true):=(jX 1 _).2 ⟨by rw[wJ 1 (by omega)];rfl,by omega,λe he=>by rw[g1,ha.2]at he;cases he⟩;rw[hr]at this;cases this
    ·obtain⟨h0,tg,hd⟩:=(jX i _).1 hi;have hi1:i=1:=by
      rcases Zbz i 3 with h3|h3
      ·rw[wJ i tg]at h0;have:¬i<1:=by simpa using h0
       rcases(show i=1\/i=2 by omega)with h|rfl
       ·exact h
       ·exfalso;have:=hd 1 (by rw[g2];simp);rw[pM (by omega) false true,wJ 1 (by omega)]at this;cases this
      ·have:=hbig _ 1 JS wJ (by omega) i hi h3;omega
     subst hi1;refine iq aw wG (Cw 1 (by omega)) co1 ro1 h' (FA.2 r1 (by simp)) a1.2 λa2 w2 L2 h2=>?_;have dA1:dM (r1::⟨.call f args,dst,none,[1],none⟩::post)=true:=by simp only[dM,Zam]at dA⊢;exact dA.2
     have FA2:=jC aw la1 a1.2 (λy hy=>iu dA1 y hy) (sub FA (l':=⟨.call f args,dst,none,[1],none⟩::post) (by simp+contextual));refine RY _ (by simpa using JS) (λj hj=>?_) _ a2 w2 L2 h2 (sub FA2 (by simp+contextual)) (high ro1 a1.2 (high ro0 a1.1 ZF)) hA;rw[KH JS (by omega) hj,wJ j hj];split
     ·rename_i e;subst e;rfl
     ·rename_i e;rw[decide_eq_decide];omega
   ·refine iq aw wG (Cw 1 (by omega)) co1 ro1 hh (F0.2 r1 (by simp)) b1.1 λa' w' L' h'=>?_;have FB:=jC aw la1 b1.1 (λy hy=>iu dB y hy) (sub F0 (l':=r0::⟨.call f args,dst,none,[1],none⟩::post) (by simp+contextual));have JS:(l0.setIfInBounds 1 true).size=ops.size:=by simpa using RZ
    have wJ:∀j,j<ops.size->(l0.setIfInBounds 1 true).getD j true=decide (j=1):=λj hj=>by
     rw[KH RZ (by omega) hj,CA j hj];split
     ·rename_i e;subst e;rfl
     ·rename_i e;symm;rw[decide_eq_false_iff_not];exact e
    have dB1:dM (r0::⟨.call f args,dst,none,[1],none⟩::post)=true:=by simp only[dM,Zam]at dB⊢;exact dB.2
    refine⟨λhr=>?_,λi hi=>?_⟩
    ·exfalso;have:0∈Region.ready .any ops (l0.setIfInBounds 1 true):=(jX 0 _).2 ⟨by rw[wJ 0 (by omega)];rfl,by omega,λe he=>by rw[g0,ha.1]at he;cases he⟩;rw[hr]at this;cases this
    ·obtain⟨h0,tg,hd⟩:=(jX i _).1 hi;have hi02:i=0\/i=2:=by
      rcases Zbz i 3 with h3|h3
      ·rw[wJ i tg]at h0;have:¬i=1:=by simpa using h0
       omega
      ·exfalso;have:=hd 2 (hp _ (Nt i h3 tg)).2.2;rw[pM (by omega) false true,wJ 2 (by omega)]at this;cases this
     rcases hi02 with rfl|rfl
     ·refine iq aw wG (Cw 0 (by omega)) co0 ro0 h' (FB.2 r0 (by simp)) b1.2 λa2 w2 L2 h2=>?_;have FB2:=jC aw la0 b1.2 (λy hy=>iu dB1 y hy) (sub FB (l':=⟨.call f args,dst,none,[1],none⟩::post) (by simp+contextual));refine RY _ (by simpa using JS) (λj hj=>?_) _ a2 w2 L2 h2 (sub FB2 (by simp+contextual)) (high ro0 b1.2 (high ro1 b1.1 ZF)) hB;rw[KH JS (by omega) hj,wJ j hj];split
      ·rename_i e;subst e;rfl
      ·rename_i e;rw[decide_eq_decide];omega
     ·obtain⟨qC,bj,hpo⟩:=hC;have bj:=bj (high ro1 c1 ZF);refine A8 wG (Cw 2 (by omega)) co2 ro2 h' bj λa2 w2 L2 val ob' hP Z5=>?_;obtain⟨x1,x2⟩:=eL _ _ _ (hpo val ob' hP);simp only[iS,cP]at x1 x2;have uL:=bj.none val ob' hP;have FC:gm nxt (r0::post) ⟨cd (cN Γ nxt r1 ⟨tm,ob,td⟩).tmps dst val,ob',(cN Γ nxt r1 ⟨tm,ob,td⟩).todo⟩:=by
       refine⟨uL.1 _ (by omega) FB.1,λy hy=>?_⟩;rcases Zag.1 hy with rfl|hy
       ·exact uL.1 _ low0 (FB.2 _ (by simp))
       ·exact uL.1 _ (lowp y hy) (FB.2 _ (by simp[hy]))
      have JN:((l0.setIfInBounds 1 true).setIfInBounds 2 true).size=ops.size:=by simpa using JS
      have qx:∀j,j<ops.size->((l0.setIfInBounds 1 true).setIfInBounds 2 true).getD j true=decide (j=1\/j=2):=λj hj=>by
       rw[KH JS (by omega) hj,wJ j hj];split
       ·rename_i e;subst e;rfl
       ·rename_i e;rw[decide_eq_decide];omega
      refine⟨λhr=>?_,λi hi=>?_⟩
      ·exfalso;have:0∈Region.ready .any ops ((l0.setIfInBounds 1 true).setIfInBounds 2 true):=(jX 0 _).2 ⟨by rw[qx 0 (by omega)];rfl,by omega,λe he=>by rw[g0,ha.1]at he;cases he⟩;rw[hr]at this;cases this
      ·obtain⟨h0,tg,hd⟩:=(jX i _).1 hi;have hi0':i=0:=by
        rcases Zbz i 3 with h3|h3
        ·rw[qx i tg]at h0;have:¬(i=1\/i=2):=by simpa using h0
         omega
        ·exfalso;have:=hd 0 (hp _ (Nt i h3 tg)).1;rw[pM (by omega) false true,qx 0 (by omega)]at this;cases this
       subst hi0';refine iq aw wG (Cw 0 (by omega)) co0 ro0 Z5 (FC.2 r0 (by simp)) x1.1 λa3 w3 L3 h3=>?_;have dC:dM (r0::post)=true:=by
        simp only[dM,Zam,ZcC]at dB1⊢;exact⟨dB1.1.2,dB1.2.2⟩
       have FC2:=jC aw la0 x1.1 (λy hy=>iu dC y hy) (sub FC (l':=post) (by simp+contextual));refine fin3 _ (by simpa using JN) (λj hj=>?_) _ a3 w3 L3 h3 FC2 bj.le (λt ht=>?_) x1.2 x2
       ·rw[KH JN (by omega) hj,qx j hj];split
        ·rename_i e;subst e;rfl
        ·rename_i e;rw[decide_eq_decide];omega
       ·exact rK (nt:=nt) aw [r0] (by simp[ro0]) _ ⟨x1.1,trivial⟩ t (ZaE bj.le ht) (uL.2 t ht)
 exact wpIn_region_any hm (start _ hh)
end
end Go.DM
namespace Go.DM.Ou
section
variable{α:Type}(lt:α->α->Bool)
structure SWO:Prop where
 irrefl:∀x,lt x x=false
 trans:∀x y z,lt x y=true->lt y z=true->lt x z=true
 ntrans:∀x y z,lt x y=false->lt y z=false->lt x z=false
def tN(l:List α):Prop:=l.Pairwise λa b=>lt b a=false
def eqv(x y:α):Bool:= !lt x y&& !lt y x
def oC(x:α):List α->List α
 |[]=>[x]
 |y::ys=>if lt x y then y::oC x ys else x::y::ys
def zX(l:List α):List α:=l.foldl (λacc x=>oC lt x acc) []
def je(l:List α):List α:=(zX lt l).reverse
variable{lt}
theorem SWO.asymm(h:SWO lt){x y:α}(h1:lt x y=true):lt y x=false:=by
 cases h2:lt y x with
 |false=>rfl
 |true=>have:=h.trans x y x h1 h2;rw[h.irrefl]at this;cases this
theorem A0(x:α):∀(l:List α) (z:α),z∈oC lt x l↔z=x\/z∈l
 |[],z=>by simp[oC]
 |y::ys,z=>by
  simp only[oC];split
  ·simp only[Zag,A0 x ys z];constructor
   ·rintro(h|h|h)<;>simp[h]
   ·rintro(h|h|h)<;>simp[h]
  ·simp
theorem yJ(h:SWO lt)(x:α):∀l:List α,l.Pairwise (λa b=>lt a b=false)->(oC lt x l).Pairwise λa b=>lt a b=false
 |[],_=>by simp[oC]
 |y::ys,hs=>by
  simp only[oC];rw[ZaN]at hs;split
  ·rename_i ZZ;rw[ZaN];refine⟨λz hz=>?_,yJ h x ys hs.2⟩;rcases(A0 x ys z).1 hz with rfl|hz
   ·exact h.asymm ZZ
   ·exact hs.1 z hz
  ·rename_i ZZ;have ZZ:lt x y=false:=by simpa using ZZ
   rw[ZaN];refine⟨λz hz=>?_,ZaN.2 hs⟩;rcases Zag.1 hz with rfl|hz
   ·exact ZZ
   ·exact h.ntrans x y z ZZ (hs.1 z hz)
theorem yK(h:SWO lt)(x z:α):∀l:List α,(oC lt x l).filter (eqv lt z)=(if eqv lt z x then x::l.filter (eqv lt z)else l.filter (eqv lt z))
 |[]=>by simp[oC,Za7]
 |y::ys=>by
  simp only[oC];split
  ·rename_i ZZ;rw[Za7,yK h x z ys];have hn:eqv lt z x=true->eqv lt z y=false:=by
    intro hx;simp only[eqv,Zam,Zbm]at hx;cases hy:eqv lt z y with
    |false=>rfl
    |true=>
     simp only[eqv,Zam,Zbm]at hy;have:=h.ntrans x z y hx.2 hy.1;rw[ZZ]at this;cases this
   by_cases hzx:eqv lt z x=true
   ·simp[hzx,hn hzx]
   ·simp only[ZcL]at hzx;simp[hzx,Za7]
  ·rw[Za7]
theorem vu(h:SWO lt):∀(l acc:List α),acc.Pairwise (λa b=>lt a b=false)->(l.foldl (λacc x=>oC lt x acc) acc).Pairwise λa b=>lt a b=false
 |[],acc,ha=>ha
 |x::l,acc,ha=>vu h l _ (yJ h x acc ha)
theorem foldl_filter(h:SWO lt)(z:α):∀(l acc:List α),(l.foldl (λacc x=>oC lt x acc) acc).filter (eqv lt z)=(l.filter (eqv lt z)).reverse++acc.filter (eqv lt z)
 |[],acc=>by simp
 |x::l,acc=>by
  rw[Zaz,foldl_filter h z l,yK h];by_cases hx:eqv lt z x=true
  ·simp[hx]
  ·simp only[ZcL]at hx;simp[hx]
theorem pe(h:SWO lt)(l:List α):tN lt (je lt l):=by
 unfold tN je;rw[List.pairwise_reverse];exact vu h l [] List.Pairwise.nil
theorem vv(h:SWO lt)(z:α)(l:List α):(je lt l).filter (eqv lt z)=l.filter (eqv lt z):=by
 unfold je zX;rw[List.filter_reverse,foldl_filter h z];simp
theorem rQ(h:SWO lt)(x:α):eqv lt x x=true:=by simp[eqv,h.irrefl]
theorem Dr:∀(l acc:List α) (z:α),z∈l.foldl (λacc x=>oC lt x acc) acc↔z∈l\/z∈acc
 |[],acc,z=>by simp
 |x::l,acc,z=>by
  rw[Zaz,Dr l,A0];simp only[Zag];constructor
  ·rintro(h|h|h)<;>simp[h]
  ·rintro((h|h)|h)<;>simp[h]
@[simp] theorem si(l:List α)(z:α):z∈je lt l↔z∈l:=by simp[je,zX,Dr]
theorem yL(x:α):∀l:List α,(oC lt x l).length=l.length+1
 |[]=>rfl
 |y::ys=>by simp only[oC];split<;>simp[yL x ys]
theorem vw:∀l acc:List α,(l.foldl (λacc x=>oC lt x acc) acc).length=l.length+acc.length
 |[],acc=>by simp
 |x::l,acc=>by rw[Zaz,vw l,yL];simp;omega
@[simp] theorem uU(l:List α):(je lt l).length=l.length:=by simp[je,zX,vw]
theorem tz(h:SWO lt):∀(l1 l2:List α),tN lt l1->tN lt l2->(∀x,l1.filter (eqv lt x)=l2.filter (eqv lt x))->l1=l2
 |[],[],_,_,_=>rfl
 |[],b::t,_,_,hf=>by
  have:=hf b;simp[Za7,rQ h]at this
 |a::t,[],_,_,hf=>by
  have:=hf a;simp[Za7,rQ h]at this
 |a::t1,b::t2,s1,s2,hf=>by
  have s1':=ZaN.1 s1;have s2':=ZaN.1 s2;have ZD:lt b a=false:=by
   have:b∈a::t1:=by
    have:b∈(a::t1).filter (eqv lt b):=by rw[hf b];simp[rQ h]
    exact(ZaP.1 this).1
   rcases Zag.1 this with rfl|hm
   ·exact h.irrefl _
   ·exact s1'.1 b hm
  have hba:lt a b=false:=by
   have:a∈b::t2:=by
    have:a∈(b::t2).filter (eqv lt a):=by rw[<-hf a];simp[rQ h]
    exact(ZaP.1 this).1
   rcases Zag.1 this with rfl|hm
   ·exact h.irrefl _
   ·exact s2'.1 a hm
  have he:eqv lt a b=true:=by simp[eqv,ZD,hba]
  have h1:=hf a;rw[Za7,Za7,rQ h,he]at h1;simp only[if_true,Za5]at h1;obtain⟨rfl,_⟩:=h1
  congr 1
  refine tz h t1 t2 s1'.2 s2'.2 λx=>?_;have:=hf x;rw[Za7,Za7]at this;split at this
  ·exact(List.cons.inj this).2
  ·exact this
theorem Hi(h:SWO lt){l l':List α}(hs:tN lt l')(hf:∀x,l'.filter (eqv lt x)=l.filter (eqv lt x)):je lt l=l':=
 tz h _ _ (pe h l) hs λx=>by rw[vv h,hf]
end
section
variable{α:Type}
end
end Go.DM.Ou
namespace Go.DM.Ou
section
variable{α:Type}{lt:α->α->Bool}
end
end Go.DM.Ou
namespace Go.DM
open Go.RowKit
variable [Laid]
abbrev tI(n:Int):T:=.int .i64 n
abbrev mh(k:Nat):Type:={l:List Int//l.length=k}
instance(k:Nat):Inhabited (mh k):=⟨⟨List.replicate k 0,by simp⟩⟩
def nX{k:Nat}(x:mh k):List Value:=x.1.map (Value.int .i64)
def gn{k:Nat}(x:mh k):List T:=x.1.map tI
theorem Pc{w w':World}(h:tP w.heap.size w w'):∃q os',w'=Go.Sort.grow (w.drewN q) os':=by
 refine⟨w'.drawn-w.drawn,w'.heap.extract w.heap.size w'.heap.size, ?_⟩;obtain⟨⟨h1,h2,h3,h4,h5⟩,h6⟩:=h;cases w with
 |mk heap tape drawn os output=>
  cases w' with
  |mk ZW tape' drawn' os' output'=>
   simp only at h1 h2 h3 h4 h5 h6;subst h1 h2 h3;simp only[Go.Sort.grow,World.drewN,World.mk.injEq,and_true,true_and];refine⟨?_,by omega⟩;apply Array.ext_getElem?;intro k;rw[Array.getElem?_append];split
   ·rename_i hk;exact h5 k hk
   ·rename_i hk;rw[Array.getElem?_extract];split
    ·rw[show heap.size+(k-heap.size)=k by omega]
    ·rename_i h7;rw[Array.getElem?_eq_none (by omega)]
theorem sF{w:World}{W:Nat->Prop}:∀l:List Int,aR w W (l.map tI) (l.map (Value.int .i64))
 |[]=>by simp[aR]
 |n::l=>by
  simp only[Zau,aR];exact⟨_,_,rfl,rfl,by simp[aS],sF l⟩
theorem vq{w:World}{W:Nat->Prop}:∀{l:List Int} {vs:List Value},aR w W (l.map tI) vs->vs=l.map (Value.int .i64)
 |[],vs,h=>by simpa [aR]using h
 |n::l,vs,h=>by
  simp only[Zau,aR]at h;obtain⟨v,ia,rfl,_,h1,h2⟩:=h;simp only[aS]at h1;rw[h1,vq h2];rfl
theorem yG{α:Type}{sz:Nat}:∀{rows:List (List α)} {j:Nat},(∀r∈rows,r.length=sz)->rows.flatten[j]? =(rows[j/sz]?).bind λr=>r[j % sz]?
 |[],j,_=>by simp
 |r::rows,j,h=>by
  have hr:=h r (by simp);by_cases hs:sz=0
  ·subst hs;have:∀x∈r::rows,x=[]:=λx hx=>List.length_eq_zero_iff.1 (h x hx);have h2:(r::rows).flatten=[]:=by
    rw[List.flatten_eq_nil_iff];exact this
   rw[h2];simp[this r (by simp)]
  rw[Zbf,Zb9];split
  ·rename_i hj;rw[hr]at hj;rw[Nat.div_eq_of_lt hj,Zck hj];simp
  ·rename_i hj;rw[hr]at hj;rw[hr,yG λx hx=>h x (by simp[hx])];obtain⟨i,rfl⟩:∃i,j=i+sz:=⟨j-sz,by omega⟩;rw[Zcd,Nat.add_div_right i (by omega),Nat.add_mod_right];rw[ZaW]
theorem AV{k:Nat}(D:List (mh k)):(Go.Sort.flatK nX k D.toArray).toList=((D.map (·.1)).flatten).map (Value.int .i64):=by
 have hl:∀r∈D.map (·.1),r.length=k:=by
  intro r hr;obtain⟨x,_,rfl⟩:=Zal.1 hr;exact x.2
 have hflen:(D.map (·.1)).flatten.length=D.length*k:=by
  clear hl;induction D with
  |nil=>simp
  |cons x D ih=>simp only[Zau,Zbf,ZaB,x.2,ih,Za9,Nat.add_mul];omega
 apply Zbl;intro j;by_cases hj:j<D.length*k
 ·have wI:0<k:=by
   cases k with
   |zero=>simp at hj
   |succ k=>omega
  have h1:j/k<D.length:=Nat.div_lt_of_lt_mul (by rwa [Nat.mul_comm]);have h2:j % k<k:=Nat.mod_lt _ wI;have gF:j<(Go.Sort.flatK nX k D.toArray).size:=by simpa using hj
  rw[Zbp,yG hl,Zbp,Zan h1];simp only[Za0,Zb8];have h3:=Go.Sort.get_flatK nX k D.toArray j (by simpa using hj);rw[Array.getElem?_toList,Zbs gF];rw[getElem!_pos _ j gF]at h3;rw[h3];have h4:D.toArray[j/k]! =D[j/k]:=by rw[getElem!_pos _ _ (by simpa using h1)];simp
  rw[h4];have h5:j % k<(D[j/k]).1.length:=by rw[(D[j/k]).2];exact h2
  unfold nX;rw[getElem!_pos _ _ (by simpa using h5)];simp[h5]
 ·rw[ZaS (by simpa using hj),ZaS (by rw[Zbt,hflen];omega)]
theorem Dl{k:Nat}(D:List (mh k)):(D.map gn).flatten=((D.map (·.1)).flatten).map tI:=by
 induction D with
 |nil=>rfl
 |cons x D ih=>simp only[Zau,Zbf,ih,ZaQ];rfl
theorem KA{objs:aU}{r:Nat}{o:Ob}(h:objs r=some o):c7 objs r o=objs:=by
 funext k;rw[KB];split
 ·rename_i e;rw[e,h]
 ·rfl
theorem RF{P:Program}{g:FuncId}{k:Nat}{x y:mh k}{c:Int}(hg: @aT Laid.none P g [.agg (gn x),.agg (gn y)] (tI c))(w:World):
  Calls P g (#[.agg (nX x).toArray,.agg (nX y).toArray]++ #[]) w λe w'=>e=.returned (.int .i64 c)/\∃q os',w'=Go.Sort.grow (w.drewN q) os':=by
 rw[ZbD];refine(@aT.calls Laid.none P g _ _ hg w #[.agg (nX x).toArray,.agg (nX y).toArray] (Ab.empty _ _) ?_).mono ?_
 ·show dx w (λ_=>False) [.agg (gn x),.agg (gn y)] [.agg (nX x).toArray,.agg (nX y).toArray];simp only[dx];exact⟨_,_,rfl,⟨_,rfl,sF x.1⟩,_,_,rfl,⟨_,rfl,sF y.1⟩,rfl⟩
 ·rintro e' w' ⟨v,rfl,hb,hv⟩;simp only[aS]at hv;subst hv;exact⟨rfl,Pc hb⟩
def yH{k:Nat}(cf:mh k->mh k->Int)(D:List (mh k)):List (mh k):=D.mergeSort λx y=> !(Go.Proofs.ltOf cf) y x
open Go.Proofs Go.Sort in
theorem Hf{P:Program}{ρ:Go.Shelf.Ren}(Lay:SlLaysF0.n6 P ρ){k:Nat}(hk:0<k)(aE:∀w,(isAgg (ρ.t 24)).run P w=.ok true w)(zE:∀w,(Go.sizeOf (ρ.t 24)).run P w=.ok k w)
  {g:FuncId} {cf:mh k->mh k->Int} (hg:∀x y:mh k, @aT Laid.none P g [.agg (gn x),.agg (gn y)] (tI (cf x y))) (hO:Go.Sort.SWO (ltOf cf)) (hT:∀x y,(ltOf cf) x y=false->(ltOf cf) y x=false->x=y)
  (D:List (mh k)) {objs:aU} {r ver e:Nat} (fH:objs r=some (.arr ver e k (D.map gn))) (hlen:D.length<4611686018427387904):
  aZ P (ρ.f 6) [.bd r ver,.v (.fn (.func g) [])] objs ⟨True,.v (.eC []),c7 objs r (.arr ver e k ((yH cf D).map gn))⟩:=by
 have eg:∀args w,(callFunc g args).run P w=.ok (.enter g args) w:=by
  obtain⟨fn,h1,h2,h3⟩:= @aT.entry Laid.none _ _ _ _ (hg default default);cases hb:fn.body with
  |none=>rw[hb]at h3;cases h3
  |some c=>exact enters_of h1 (by simpa using h2) hb
 refine⟨?_,λbase W M w0 w L vals ZX hr=>?_⟩
 ·obtain⟨nm,hn,hf⟩:=Lay.f6;exact⟨_,hf,by simpa using hn,rfl⟩
 obtain⟨lX,qa⟩:=hr;obtain⟨x,f,wD⟩:∃x f,vals.toList=[x,f]:=by
  match wD:vals.toList,lX with
  |[x,f],_=>exact⟨x,f,rfl⟩
 have Dm:vals= #[x,f]:=Array.ext' (by simpa using wD);subst Dm;have hx:=qa 0 _ x rfl rfl;have hf:=qa 1 _ f rfl rfl;simp only[av,aS]at hf;obtain⟨cv,rfl,hcv⟩:=hf;have hcv:cv= #[]:=by
  simp only[aR]at hcv;exact Array.ext' (by simpa using hcv)
 subst hcv;simp only[av]at hx;obtain⟨_,ver',e',gb,dp,hob',hver,AW⟩:=hx;rw[fH]at hob';cases hob';have AW:=AW rfl;subst AW;obtain⟨gF,cU,hm,ky⟩:=ZX.ob r _ fH;have ta:(yH cf D).length=D.length:=List.length_mergeSort ..;rcases ky with⟨GX,a,ha⟩|⟨g',cap,cur,hv,hp,hh,hle,po,Ex,eI⟩
 ·rw[ha];refine(AnyF.slices_SortFunc_none Lay a 0 _ w).mono ?_;rintro e' w' ⟨rfl,rfl⟩;have hD:D=[]:=by simpa using GX
  subst hD;have hs:yH cf []=[]:=by simp[yH]
  rw[hs,KA fH];exact⟨_,L,rfl,ZX,jc.ct (cq.refl _ _),by simp[av,aS,dx]⟩
 ·rw[hv];have hgl:g'<w.heap.size:=(Zaj.1 hh).1;rw[Dl]at eI;have mS:=vq eI;rw[<-AV]at mS;have hcellG:∀j,w.cell? ⟨g',j,none⟩=cur[j]? :=by
   intro j;simp only[World.cell?,hh];rfl
  have hH:HoldsK nX k w g' 0 D.toArray:=by
   intro j hj;refine⟨?_, ?_⟩
   ·rw[ZaX,hcellG];have h1:=congrArg (λl:List Value=>l[j]?) mS;have XA:j<(D.map gn).length*k:=by simpa using hj
    rw[ZaF,if_pos XA,Array.getElem?_toList,Array.getElem?_toList,Zbs hj]at h1;rw[h1,getElem!_pos _ j hj];rfl
   ·simp only[World.frozen?,hh];simp
  have hlays:CmpLays P g #[] nX k cf g' 0 D.toArray.size w:=by
   intro m os dk hdk x y;obtain⟨w1,Qu⟩:∃w1,sortWorldK nX k w g' 0 m dk os=w1:=⟨_,rfl⟩;rw[Qu];exact RF (hg x y) w1
  have px:=AnyQ.slices_SortFunc_total Lay k aE zE nX (λx=>by simp[nX,x.2]) (λx v hv=>by
   simp only[nX,Zal]at hv;obtain⟨n,_,rfl⟩:=hv;rfl) cf hO g #[] g' 0 cap D.toArray w eg hlays hH hgl (by simpa using hlen) hT
  rw[show(D.map gn).length=D.toArray.size by simp];refine px.mono ?_;rintro e' w' ⟨rfl,n,os,rfl⟩;refine⟨_,L,rfl, ?_⟩;obtain⟨S,hS⟩:∃S,yH cf D=S:=⟨_,rfl⟩;have hS2:(D.toArray.toList.mergeSort λx y=> !(ltOf cf) y x).toArray=S.toArray:=by rw[<-hS];rfl
  rw[hS2];rw[hS]at ta⊢;obtain⟨F,hF⟩:∃F,flatK nX k S.toArray=F:=⟨_,rfl⟩;have hFs:F.size=D.length*k:=by rw[<-hF];simp[ta]
  have hFl:F.toList=((S.map (·.1)).flatten).map (Value.int .i64):=by rw[<-hF];exact AV S
  have lz:(D.map gn).length*k<=cur.size:=by rw[Ex];exact Zba k hle
  have hcs2:D.length*k<=cur.size:=by simpa using lz
  have RG:∀b:Nat,b<w.heap.size->(sortWorldK nX k w g' 0 n S.toArray os).heap[b]? =if b=g' then some (.cells (Go.Sort.putCells id 0 F cur) e (0,0))else w.heap[b]? :=by
   intro b hb;have kp:b<(putRowK nX k (Go.Sort.ahead w n) g' 0 S.toArray).heap.size:=by
    simp[Go.Sort.putRowK,Go.Sort.putRow,Go.Sort.mapBlock,Go.Sort.ahead,hb]
   simp only[sortWorldK,Go.Sort.grow];rw[ZcD kp];simp only[putRowK,Go.Sort.putRow,Go.Sort.mapBlock,Go.Sort.ahead,hF,Array.getElem?_modify];by_cases e1:b=g'
   ·subst e1;rw[if_pos rfl,if_pos rfl,hh];rfl
   ·rw[if_neg (λh=>e1 h.symm),if_neg e1]
  have tq:w.heap.size<=(sortWorldK nX k w g' 0 n S.toArray os).heap.size:=by
   simp[sortWorldK,Go.Sort.grow,putRowK,Go.Sort.putRow,Go.Sort.mapBlock,Go.Sort.ahead]
  have eX:L.own r (.arr ver e k (D.map gn))=some g':=by simp[Loc.own,hv,aP,ZaA.1 hp]
  have nS:∀j,(Go.Sort.putCells id 0 F cur)[j]? =if j<F.size then F[j]? else cur[j]? :=by
   intro j;simp only[Go.Sort.putCells,Array.getElem?_mapIdx];by_cases hj:j<F.size
   ·rw[if_pos hj,Zbs (show j<cur.size by omega),Zbs hj];simp[hj]
   ·rw[if_neg hj];cases cur[j]? with
    |none=>rfl
    |some v=>simp;intro h;omega
  have wC:Fr base M w0 (sortWorldK nX k w g' 0 n S.toArray os):=by
   refine ZX.fr.trans ⟨rfl,rfl,rfl,ZaE ZX.fr.ik ZX.fr.size,tq,λb hb EA=>?_,by simp[sortWorldK,Go.Sort.grow,putRowK,Go.Sort.putRow,Go.Sort.mapBlock,Go.Sort.ahead]⟩;have hbw:b<w.heap.size:=ZaR hb (ZaE ZX.fr.ik ZX.fr.size);rw[RG b hbw,if_neg];rintro rfl;rcases hm b (by simp[hv,aP,ZaA.1 hp])with h|h
   ·omega
   ·exact EA h
  have Pa:=bN.put (r:=r) (o':=.arr ver e k (S.map gn)) (L':=L) ZX wC tq (λ_ _=>⟨rfl,rfl⟩) rfl
   (λb hb bH=>by rw[RG b hb,if_neg];rintro rfl;exact bH _ fH eX)
   (λb hb=>.inl ⟨_,fH,hb⟩) (λo' gf te=>by rw[fH]at gf;cases gf;exact absurd rfl te)
   (λver' e' gb dp h=>by rw[fH]at h;cases h;exact⟨ver,e,k,_,rfl,Zae _,λ_=>⟨rfl,rfl,by simp[ta]⟩⟩)
   (λee=>by
    refine⟨gF,λx hx=>?_,hm,.inr ⟨g',cap,Go.Sort.putCells id 0 F cur,by rw[hv];simp[ta],hp,by rw[RG g' hgl,if_pos rfl],by simpa [ta]using hle,po,by simpa [Go.Sort.putCells]using Ex, ?_⟩⟩
    ·obtain⟨y,_,rfl⟩:=Zal.1 hx;simp[gn,y.2]
    ·rw[Dl];have e1:(Go.Sort.putCells id 0 F cur).toList.take ((S.map gn).length*k)=((S.map (·.1)).flatten).map (Value.int .i64):=by
      rw[<-hFl];apply Zbl;intro j;rw[ZaF,Zbt,ta,Array.getElem?_toList,Array.getElem?_toList,nS,hFs];by_cases hj:j<D.length*k
      ·simp[hj]
      ·rw[if_neg hj,Array.getElem?_eq_none (by omega)]
     rw[e1];exact sF _)
  rw[show bV objs (some (r,.arr ver e k (S.map gn)))=c7 objs r (.arr ver e k (S.map gn))from rfl]at Pa;exact⟨Pa.1,Pa.2,by simp[av,aS,dx]⟩
end Go.DM
namespace Go.DM
open Go.RowKit Go.ChangeShapes Go.WideShapes
variable [Laid]
def lG(P:Program)(L:List TypeId):Nat->List Field->Nat->Bool
 |o,[],n=>o==n
 |o,f::fs,n=>f.offset==o&&L.contains f.type&&lG P L (o+P.cellsOf f.type) fs n
def sA(P:Program)(L:List TypeId)(t:TypeId):Bool:=
 match P.underlying t with
 |some .bool|some (.int _)|some .string=>true
 |some (.slice e)=>L.contains e&&decide (0<P.cellsOf e)
 |some (.struct fs)=>lG P L 0 fs.toList (P.cellsOf t)
 |some (.array n e)=>L.contains e&&P.cellsOf t==n*P.cellsOf e
 |_=>false
def lH(P:Program)(L:List TypeId):Bool:=L.all (sA P L)
def mV(q:TypeId->List T->Prop):List TypeId->List T->Prop
 |[],ts=>ts=[]
 |t::tf,ts=>∃a b,ts=a++b/\q t a/\mV q tf b
def iU(P:Program):Nat->TypeId->List T->Prop
 |0,_,_=>False
 |n+1,t,ts=>
  match P.underlying t with
  |some .bool=>∃b,ts=[.bool b]
  |some (.int k)=>∃x,ts=[.int k x]/\(Lit.int k x).wf=true
  |some .string=>∃s,ts=[.str s]/\s.size<=maxLen
  |some (.slice e)=>∃rows,ts=[.sl rows]/\rows.length<=maxLen/\∀r∈rows,iU P n e r
  |some (.struct fs)=>mV (iU P n) (fs.toList.map (·.type)) ts
  |some (.array k e)=>mV (iU P n) (List.replicate k e) ts
  |_=>False
def nV(P:Program)(n:Nat)(t:TypeId)(x:T):Prop:=
 match P.underlying t with
 |some (.struct _)|some (.array _ _)=>∃ts,x=.agg ts/\iU P n t ts
 |_=>iU P n t [x]
def zD(P:Program):List TypeId->List T->Prop
 |[],xs=>xs=[]
 |t::ts,xs=>∃x jN,xs=x::jN/\(∃n,nV P n t x)/\zD P ts jN
section
variable{P:Program}{L:List TypeId}
theorem sC(h:lH P L=true){t:TypeId}(ht:t∈L):sA P L t=true:=ZaI.1 h t ht
theorem tw:∀(fs:List Field) (o n:Nat),lG P L o fs n=true->(∀f∈fs,f.type∈L)/\n=o+(fs.map λf=>P.cellsOf f.type).sum/\∀(j:Nat) f,fs[j]? =some f->f.offset=o+((fs.take j).map λf=>P.cellsOf f.type).sum
 |[],o,n,h=>by
  simp only[lG,beq_iff_eq]at h;exact⟨λ_ h=>(by cases h),by simp[h],λj f h=>by simp at h⟩
 |f::fs,o,n,h=>by
  simp only[lG,Zam,beq_iff_eq,ZbE]at h;obtain⟨⟨h1,h2⟩,h3⟩:=h;obtain⟨k1,k2,k3⟩:=tw fs _ n h3;refine⟨λg hg=>?_, ?_,λj g hg=>?_⟩
  ·rcases Zag.1 hg with rfl|hg
   ·exact h2
   ·exact k1 g hg
  ·rw[k2];simp;omega
  ·cases j with
   |zero=>simp at hg;subst hg;simp[h1]
   |succ j=>
    have:=k3 j g (by simpa using hg);rw[this];simp;omega
theorem Ky(h:lH P L=true):Kids P (·∈L):=by
 refine⟨λ{t e} ht hu=>?_,λ{t e} ht hu=>?_,λ{t e n} ht hu=>?_,λ{t fs} ht hu=>?_,λ{t k e} ht hu=>?_⟩;all_goals
  have:=sC h ht;simp only[sA,hu]at this
 ·cases this
 ·simp only[Zam,ZbE]at this;exact this.1
 ·simp only[Zam,ZbE,beq_iff_eq]at this;exact this
 ·obtain⟨k1,k2,k3⟩:=tw _ _ _ this;exact⟨k1,by simpa using k2,λj f hf=>by simpa using k3 j f hf⟩
 ·cases this
theorem AO{H:Type}{enc:TypeId×Value->H}{w:World}{n:Nat}{sp:Nat->Bool}{held:Bool}{cs:List Value}
  (ih:∀t cs x,t∈L->DataW.trod enc P w 0 sp held n t cs=some x->∃ts,aR w (λ_=>False) ts cs/\iU P n t ts):
  ∀(fs:List Field) (o N:Nat),lG P L o fs N=true->(∀f∈fs,∃x,DataW.trod enc P w 0 sp held n f.type ((cs.drop f.offset).take (P.cellsOf f.type))=some x)->cs.length=N->
   ∃ts,aR w (λ_=>False) ts (cs.drop o)/\mV (iU P n) (fs.map (·.type)) ts
 |[],o,N,h,_,hl=>by
  simp only[lG,beq_iff_eq]at h;exact⟨[],by simp only[aR];rw[Zby (by omega)],rfl⟩
 |f::fs,o,N,h,hx,hl=>by
  simp only[lG,Zam,beq_iff_eq,ZbE]at h;obtain⟨⟨h1,h2⟩,h3⟩:=h;obtain⟨x,O9⟩:=hx f (Za4 ..);obtain⟨a,ha,hta⟩:=ih _ _ _ h2 O9;obtain⟨b,hb,htb⟩:=AO ih fs _ N h3 (λg hg=>hx g (ZaV _ hg)) hl;refine⟨a++b, ?_,a,b,rfl,hta,htb⟩;have:=aR.append ha hb;rw[h1,<-List.drop_drop,Zbe]at this;exact this
theorem Nf{H:Type}{enc:TypeId×Value->H}{w:World}{n:Nat}{sp:Nat->Bool}{held:Bool}{cs:List Value}{e:TypeId}(he:e∈L)
  (ih:∀t cs x,t∈L->DataW.trod enc P w 0 sp held n t cs=some x->∃ts,aR w (λ_=>False) ts cs/\iU P n t ts):
  ∀(k i:Nat),(∀j,i<=j->j<i+k->∃x,DataW.trod enc P w 0 sp held n e ((cs.drop (j*P.cellsOf e)).take (P.cellsOf e))=some x)->cs.length=(i+k)*P.cellsOf e->
   ∃ts,aR w (λ_=>False) ts (cs.drop (i*P.cellsOf e))/\mV (iU P n) (List.replicate k e) ts
 |0,i,_,hl=>by
  exact⟨[],by simp only[aR];rw[Zby (by rw[hl];simp)],rfl⟩
 |k+1,i,hx,hl=>by
  obtain⟨x,O9⟩:=hx i (Zae _) (by omega);obtain⟨a,ha,hta⟩:=ih _ _ _ he O9;obtain⟨b,hb,htb⟩:=Nf he ih k (i+1) (λj h1 h2=>hx j (by omega) (by omega)) (by rw[hl];congr 1;omega);refine⟨a++b, ?_,a,b,rfl,hta,htb⟩;have:=aR.append ha hb;rw[show(i+1)*P.cellsOf e=i*P.cellsOf e+P.cellsOf e by rw[Nat.add_mul];omega,<-List.drop_drop,Zbe]at this;exact this
theorem yF{α:Type}{q:Nat->α->Prop}:∀(n:Nat),(∀i,i<n->∃x,q i x)->∃l:List α,l.length=n/\∀i x,l[i]? =some x->q i x
 |0,_=>⟨[],rfl,λi x h=>by simp at h⟩
 |n+1,h=>by
  obtain⟨l,hl,hq⟩:=yF n λi hi=>h i (by omega);obtain⟨x,hx⟩:=h n (by omega);refine⟨l++[x],by simp[hl],λi y hy=>?_⟩;by_cases hi:i<l.length
  ·rw[Zbk hi]at hy;exact hq i y hy
  ·rw[Zbi (by omega)]at hy;have:i=n:=by
    have:=(Zas.1 hy).1;simp at this;omega
   subst this;simp[hl]at hy;subst hy;exact hx
theorem sD{w:World}{a:Addr}{n:Nat}{cs:List Value}(h:w.cells? 0 a n=some cs):cs.length=n/\∀j v,cs[j]? =some v->w.cell? (a.add j)=some v:=by
 simp only[World.cells?,Zbg,if_true]at h;refine⟨by simpa using mapM_some_length h,λj v hj=>?_⟩;have cV:j<n:=by
  have:=(Zas.1 hj).1;have h2:=mapM_some_length h;simp at h2;omega
 have:=mapM_some_get h j j (by simp[cV]);rw[hj]at this;simpa using this.symm
where
 mapM_some_length {α β:Type} {f:α->Option β} {l:List α} {r:List β} (h:l.mapM f=some r):r.length=l.length:=by
  induction l generalizing r with
  |nil=>simp at h;simp[h]
  |cons x l ih=>
   simp only[Za1,Zak,Zaf,Zac,Zaa]at h;obtain⟨y,_,ys,oz,rfl⟩:=h;simp[ih oz]
 mapM_some_get {α β:Type} {f:α->Option β} {l:List α} {r:List β} (h:l.mapM f=some r) (i:Nat) (x:α) (hx:l[i]? =some x):r[i]? =f x:=by
  induction l generalizing r i with
  |nil=>simp at hx
  |cons y l ih=>
   simp only[Za1,Zak,Zaf,Zac,Zaa]at h;obtain⟨z,hz,ys,oz,rfl⟩:=h;cases i with
   |zero=>simp at hx;subst hx;simp[hz]
   |succ i=>simpa using ih oz i (by simpa using hx)
theorem Ng{w:World}{a:Addr}{v:Value}(h:w.cell? a=some v):a.block<w.heap.size/\a.spot=none:=by
 unfold World.cell? at h;split at h
 ·rename_i c e f hb;split at h
  ·cases h
  ·rename_i hs;exact⟨(Zaj.1 hb).1,by simpa using hs⟩
 ·cases h
theorem add_zero(a:Addr):a.add 0=a:=by simp[Addr.add]
theorem G0(b o k:Nat):(⟨b,o,none⟩:Addr).add k=⟨b,o+k,none⟩:=by
 unfold Addr.add;by_cases h:k=0<;>simp[h]
theorem RA{H:Type}{enc:TypeId×Value->H}{w:World}{sp:Nat->Bool}{held:Bool}(hL:lH P L=true):∀(n:Nat) (t:TypeId) (cs:List Value) (x:DataW H×List MemPlace),t∈L->
  DataW.trod enc P w 0 sp held n t cs=some x->∃ts,aR w (λ_=>False) ts cs/\iU P n t ts:=by
 intro n;induction n with
 |zero=>intro t cs x _ h;simp[DataW.trod]at h
 |succ n ih=>
  intro t cs x ht h;have hp:=sC hL ht;have one:∀{y:T} {v:Value},v.oneCell'=true->aS w (λ_=>False) y v->aR w (λ_=>False) [y] [v]:=λh1 h2=>by simp only[aR];exact⟨_,_,rfl,h1,h2,rfl⟩
  unfold sA at hp;split at hp
  ·rename_i hu;obtain⟨b,rfl,rfl⟩:∃b,cs=[.bool b]/\x=(.lit (.bool b),[]):=by
    unfold DataW.trod at h;rw[hu]at h;split at h<;>simp_all
   exact⟨[.bool b],one rfl (by simp[aS]),by simp[iU,hu]⟩
  ·rename_i k hu;obtain⟨m,rfl,rfl,hw⟩:=DataW.trod_int hu h;exact⟨[.int k m],one rfl (by simp[aS]),by simp[iU,hu,hw]⟩
  ·rename_i hu;obtain⟨s,rfl,rfl,hs⟩:=DataW.trod_string hu h;exact⟨[.str s],one rfl (by simp[aS]),by simp[iU,hu,hs]⟩
  ·rename_i e hu;simp only[Zam,ZbE,decide_eq_true_eq]at hp;obtain⟨he,OF⟩:=hp;rcases DataW.trod_slice hu h with⟨rfl,rfl⟩|⟨a,len,cap,elems,rest,m,hm,rfl,rfl,_,hlc,po,hel,pA,_,_⟩
   ·exact⟨[.sl []],one rfl (by simp[aS]),by simp[iU,hu]⟩
   ·obtain rfl:n=m:=by omega
    have me:∀i,i<len->∃r:List T,(∃qU,w.cells? 0 (a.add (i*P.cellsOf e)) (P.cellsOf e)=some qU/\aR w (λ_=>False) r qU)/\iU P n e r:=by
     intro i hi;have h1:=pA i hi;have h2:∃y,elems[i]? =some y:=⟨elems[i],Zan (by omega)⟩;obtain⟨y,hy⟩:=h2;rw[hy]at h1;obtain⟨qU,h3,h4⟩:=Zac.1 h1;obtain⟨ts,h5,h6⟩:=ih e qU y he h4;exact⟨ts,⟨qU,h3,h5⟩,h6⟩
    obtain⟨rows,hlen,hq⟩:=yF len me;refine⟨[.sl rows], ?_, ?_⟩
    ·simp only[aR];refine⟨_,[],rfl,rfl, ?_,rfl⟩;simp only[aS];cases rows with
     |nil=>
      simp at hlen;subst hlen;exact .inl ⟨rfl,_,_,rfl⟩
     |cons r0 rows=>
      right;obtain⟨⟨cs0,h3,h4⟩,_⟩:=hq 0 r0 rfl;obtain⟨h5,h6⟩:=sD h3;have Qq:∃v,cs0[0]? =some v:=⟨cs0[0],Zan (by omega)⟩;obtain⟨v0,hv0⟩:=Qq;have h60:=h6 0 v0 hv0;simp only[Zcm,add_zero]at h60;obtain⟨hb,hs⟩:=Ng h60;obtain⟨b,o,sp'⟩:=a;simp only at hb hs;subst hs;have dy:∀i r,(r0::rows)[i]? =some r->r.length=P.cellsOf e/\cY w (λ_=>False) b (o+i*P.cellsOf e) r:=by
       intro i r hr;obtain⟨⟨qU,h3,h4⟩,_⟩:=hq i r hr;obtain⟨h5,h6⟩:=sD h3;refine⟨by rw[<-aR.length h4,h5],cY.pk h4 λj v hj=>?_⟩;have h7:=h6 j v hj;rw[G0,G0]at h7;exact h7
      exact⟨b,o,cap,P.cellsOf e,by rw[hlen],hb,λh=>h,by omega,aY.zw _ _ dy⟩
    ·simp only[iU,hu];refine⟨rows,rfl,by omega,λr hr=>?_⟩;obtain⟨i,hi⟩:=ZbI hr;exact(hq i r hi).2
  ·rename_i fs hu;obtain⟨xs,m,hm,rfl,hl,sv,hf⟩:=DataW.trod_struct hu h;obtain rfl:n=m:=by omega
   obtain⟨ts,h1,h2⟩:=AO (cs:=cs) ih fs.toList 0 _ hp (λf hfm=>by
    obtain⟨i,hi⟩:=ZbI hfm;have nB:fs[i]? =some f:=by simpa using hi
    have:=hf i f nB;have cV:i<xs.length:=by rw[sv];exact(Zaj.1 nB).1
    rw[Zan cV]at this;exact⟨_,this⟩) hl
   exact⟨ts,by simpa using h1,by simpa [iU,hu]using h2⟩
  ·rename_i k e hu;simp only[Zam,ZbE,beq_iff_eq]at hp;have key:cs.length=P.cellsOf t/\∀i,i<k->∃y,DataW.trod enc P w 0 sp held n e ((cs.drop (i*P.cellsOf e)).take (P.cellsOf e))=some y:=by
    unfold DataW.trod at h;rw[hu]at h;split at h<;>simp_all
    obtain⟨hl,xs,MU,_⟩:=h;intro i hi;have:=sD.mapM_some_get MU i i (by simp[hi]);have cV:i<xs.length:=by rw[sD.mapM_some_length MU];simp[hi]
    rw[Zan cV]at this;exact⟨_,_,this.symm⟩
   obtain⟨ts,h1,h2⟩:=Nf (cs:=cs) hp.1 ih k 0 (λj _ hj=>key.2 j (by omega)) (by rw[key.1,hp.2];simp);exact⟨ts,by simpa using h1,by simpa [iU,hu]using h2⟩
  ·cases hp
theorem Yo{H:Type}{enc:TypeId×Value->H}{w:World}{sp:Nat->Bool}{held:Bool}(hL:lH P L=true){t:TypeId}(ht:t∈L){v:Value}{base:Nat}(hv:Value.okWide P w .any base t v){d:DataW H}{ps:List MemPlace}
  (h:DataW.Trod enc P w 0 sp held t v d ps):∃x,aS w (λ_=>False) x v/\∃n,nV P n t x:=by
 obtain⟨n,h⟩:=h;obtain⟨ts,h1,h2⟩:=RA hL n t _ _ ht h;have hp:=sC hL ht;have single:(∀cs,v≠ .agg cs)->∃x,ts=[x]/\aS w (λ_=>False) x v:=by
  intro bH;have hc:v.cells.toList=[v]:=by cases v<;>first|rfl|exact absurd rfl (bH _)
  rw[hc]at h1;cases ts with
  |nil=>simp only[aR]at h1;cases h1
  |cons x xs=>
   simp only[aR]at h1;obtain⟨_,_,e,_,hr,jM⟩:=h1;simp only[Za5]at e;obtain⟨rfl,rfl⟩:=e;have:=aR.length jM;simp at this;have e:xs=[]:=ZaD this.symm;exact⟨x,by rw[e],hr⟩
 have agg:(∃cs,v=.agg cs)->∃x,x=T.agg ts/\aS w (λ_=>False) x v:=by
  rintro⟨cs,rfl⟩;exact⟨_,rfl,by simp only[aS];exact⟨cs,rfl,by simpa [Value.cells]using h1⟩⟩
 unfold sA at hp;split at hp
 ·rename_i hu;obtain⟨b,rfl⟩:=okWide_bool hu hv;obtain⟨x,rfl,hr⟩:=single (λ_ h=>by cases h);exact⟨x,hr,n,by simp only[nV,hu];exact h2⟩
 ·rename_i k hu;obtain⟨b,rfl⟩:=okWide_int hu hv;obtain⟨x,rfl,hr⟩:=single (λ_ h=>by cases h);exact⟨x,hr,n,by simp only[nV,hu];exact h2⟩
 ·rename_i hu;obtain⟨b,rfl⟩:=okWide_string hu hv;obtain⟨x,rfl,hr⟩:=single (λ_ h=>by cases h);exact⟨x,hr,n,by simp only[nV,hu];exact h2⟩
 ·rename_i e hu;obtain⟨a,l,c,rfl⟩:=okWide_slice hu hv;obtain⟨x,rfl,hr⟩:=single (λ_ h=>by cases h);exact⟨x,hr,n,by simp only[nV,hu];exact h2⟩
 ·rename_i fs hu;obtain⟨cs,rfl,_⟩:=okWide_struct hu hv;obtain⟨x,rfl,hr⟩:=agg ⟨_,rfl⟩;exact⟨_,hr,n,by simp only[nV,hu];exact⟨_,rfl,h2⟩⟩
 ·rename_i k e hu;have:∃cs,v=.agg cs:=by
   simp only[Value.okWide,hu]at hv;cases v<;>simp_all
  obtain⟨cs,rfl⟩:=this;obtain⟨x,rfl,hr⟩:=agg ⟨_,rfl⟩;exact⟨_,hr,n,by simp only[nV,hu];exact⟨_,rfl,h2⟩⟩
 ·cases hp
theorem Ha{H:Type}{enc:TypeId×Value->H}{w:World}{sp:Nat->Bool}{held:Bool}(hL:lH P L=true){base:Nat}:∀{tf:List TypeId} {vs:List Value} {ds:List (DataW H)} {ps:List MemPlace},(∀t∈tf,t∈L)->
  (∀(j:Nat) t v,tf[j]? =some t->vs[j]? =some v->Value.okWide P w .any base t v)->DataW.TrodAll enc P w 0 sp held tf vs ds ps->∃xs,dx w (λ_=>False) xs vs/\zD P tf xs
 |[],vs,ds,ps,_,_,h=>by
  obtain⟨rfl,rfl,rfl⟩:=trodAll_nil h;exact⟨[],by simp[dx],rfl⟩
 |t::tf,vs,ds,ps,ht,hv,h=>by
  obtain⟨v,vs1,d,ds1,a,b,rfl,rfl,rfl,h1,h2⟩:=trodAll_cons h;obtain⟨x,k1,k2⟩:=Yo hL (ht t (Za4 ..)) (hv 0 t v rfl rfl) h1;obtain⟨xs,k3,k4⟩:=Ha hL (λu hu=>ht u (ZaV _ hu)) (λj u y h1 h2=>hv (j+1) u y (by simpa using h1) (by simpa using h2)) h2;exact⟨x::xs,by simp only[dx];exact⟨v,vs1,rfl,k1,k3⟩,x,xs,rfl,k2,k4⟩
theorem AP{H:Type}{enc:TypeId×Value->H}{w w':World}{sp':Nat->Bool}{held:Bool}(hL:lH P L=true)(ZU:held=true):∀{tf:List TypeId} {vs:List Value} {ds:List (DataW H)} {ps:List MemPlace},(∀t∈tf,t∈L)->
  DataW.TrodAll enc P w 0 (λ_=>true) held tf vs ds ps->(∀p∈ps,w.sameAt w' p)->(∀p∈ps,sp' p.block=true)->DataW.TrodAll enc P w' 0 sp' held tf vs ds ps
 |[],vs,ds,ps,_,h,_,_=>by
  obtain⟨rfl,rfl,rfl⟩:=trodAll_nil h;exact trodAll_mk0
 |t::tf,vs,ds,ps,ht,h,h1,h2=>by
  obtain⟨v,vs1,d,ds1,a,b,rfl,rfl,rfl,⟨n,k1⟩,k2⟩:=trodAll_cons h;refine trodAll_cons_mk ⟨n,DataW.trod_stays (Ky hL) (λ{t e} ht hu=>?_) (λh=>by rw[ZU]at h;cases h) (ht t (Za4 ..)) k1 (λp hp=>h1 p (List.mem_append_left _ hp)) (λp hp=>h2 p (List.mem_append_left _ hp))⟩
   (AP hL ZU (λu hu=>ht u (ZaV _ hu)) k2 (λp hp=>h1 p (List.mem_append_right _ hp)) (λp hp=>h2 p (List.mem_append_right _ hp)))
  have:=sC hL ht;simp only[sA,hu,Zam,decide_eq_true_eq]at this;exact this.2
theorem Hb{H:Type}{enc:TypeId×Value->H}{w:World}{b:Nat}{sp:Nat->Bool}{held:Bool}:∀{tf:List TypeId} {vs:List Value} {ds:List (DataW H)} {ps:List MemPlace},DataW.TrodAll enc P w b sp held tf vs ds ps->ds.length=tf.length
 |[],vs,ds,ps,h=>by
  obtain⟨rfl,rfl,rfl⟩:=trodAll_nil h;rfl
 |t::tf,vs,ds,ps,h=>by
  obtain⟨v,vs1,d,ds1,a,b,rfl,rfl,rfl,h1,h2⟩:=trodAll_cons h;simp[Hb h2]
theorem EU{H:Type}{enc:TypeId×Value->H}{W:World}{base:Nat}{args:Array Value}{ds gs:List (DataW H)}{before:List MemPlace}{f:FuncId}{fn:Func}{s:ChangeSpec}{tb:TypeId}{apart fresh handsOn again:Bool}
  (hL:lH P L=true) (Hc:∀t∈fn.params.toList,t∈L) (Pa:fn.resultTypes= #[tb]) (hb:P.underlying tb=some .bool) (ZV:s.vars=[]) (wF:∀ds:List (DataW H),ds.length=fn.params.size->s.fn H ds={results:=[.lit (.bool true)],args:=ds})
  (px:∀xs,zD P fn.params.toList xs->aT P f xs (.bool true))
  (c6:∀(j:Nat) t v,fn.params[j]? =some t->args[j]? =some v->Value.okWide P W .any base t v)
  (hW:DataW.Whole enc P fn.params.toList s.vars apart W args.toList ds gs before) (hg:Ab W λ_=>False):
  Calls P f args W λe W'=>∃v,e=.returned v/\s.post enc P fn apart fresh handsOn again W args v W':=by
 have hW':=hW;obtain⟨p,q,hA,hV,rfl,hfz,zm⟩:=hW;rw[ZV]at hV;obtain⟨rfl,rfl⟩:=trodVars_none hV;obtain⟨xs,hr,hx⟩:=Ha hL Hc (λj t v h1 h2=>c6 j t v (by simpa using h1) (by simpa using h2)) hA;have hlen:ds.length=fn.params.size:=by
  have:=Hb hA;simpa using this
 refine((px xs hx).calls hg hr).mono ?_;rintro e w' ⟨v,rfl,Nh,hv⟩;simp only[aS]at hv;subst hv;have cV:=hW'.lt;have u7:∀sp:Nat->Bool,(∀x∈p,sp x.block=true)->DataW.TrodAll enc P w' 0 sp true fn.params.toList args.toList ds p:=λsp uY=>
  AP hL rfl Hc hA (λx hx=>Nh.same (cV x (by simpa using hx))) uY
 have jM:∀(b:Nat) (sp:Nat->Bool) (hd:Bool),DataW.TrodAll enc P w' b sp hd fn.resultTypes.toList ((Value.bool true).resultList fn.resultTypes.size) [.lit (.bool true)] []:=λb sp hd=>by
  rw[Pa];exact trodAll_cons_mk (shut_bool hb _) trodAll_mk0
 have he:s.fn H (ds++[])={results:=[.lit (.bool true)],args:=ds}:=by rw[ZaJ];exact wF ds hlen
 have hv0:∀sp:Nat->Bool,DataW.TrodVars enc P w' sp s.vars [] []:=λsp=>by rw[ZV];rfl
 have hev:(s.fn H (ds++[])).vars=[]:=by rw[he]
 refine⟨_,rfl,ds,[],p++[],[],p,[],hW',by rw[he];exact jM _ _ _,by rw[he];exact u7 _ (λx hx=>by simpa using cV x (by simpa using hx)),by rw[hev];exact hv0 _,Nh.frame _,λ_=>?_⟩;refine⟨ok_one Pa rfl (okWide_bool_mk hb _),_,_,([]++p)++[],⟨[]++p,[],trodAll_append (u7 _ (λ_ _=>rfl)) (jM _ _ _),hv0 _,rfl, ?_, ?_⟩, ?_⟩
 ·intro b off hp;rw[Nh.frozen (cV _ (by simpa using hp))];exact hfz b off (by simpa using hp)
 ·intro ha;simpa using zm ha
 ·intro x hx _;simpa using hx
end
inductive Ty where
 |bool|int (k:IntKind)|str
 |slice (e:Ty)
 |seq (fs:List Ty)
mutual
def Ty.has:Ty->List T->Prop
 |.bool,ts=>∃b,ts=[.bool b]
 |.int k,ts=>∃x,ts=[.int k x]/\(Lit.int k x).wf=true
 |.str,ts=>∃s,ts=[.str s]/\s.size<=maxLen
 |.slice e,ts=>∃rows,ts=[.sl rows]/\rows.length<=maxLen/\∀r∈rows,e.has r
 |.seq fs,ts=>Ty.hasAll fs ts
def Ty.hasAll:List Ty->List T->Prop
 |[],ts=>ts=[]
 |t::tf,ts=>∃a b,ts=a++b/\t.has a/\Ty.hasAll tf b
end
def Ty.arg:Ty->T->Prop
 |.seq fs,x=>∃ts,x=.agg ts/\Ty.hasAll fs ts
 |ty,x=>ty.has [x]
def Ty.args:List Ty->List T->Prop
 |[],xs=>xs=[]
 |t::tf,xs=>∃x jN,xs=x::jN/\t.arg x/\Ty.args tf jN
def pD(P:Program):Nat->TypeId->Option Ty
 |0,_=>none
 |n+1,t=>
  match P.underlying t with
  |some .bool=>some .bool
  |some (.int k)=>some (.int k)
  |some .string=>some .str
  |some (.slice e)=>(pD P n e).map .slice
  |some (.struct fs)=>(vn (pD P n) (fs.toList.map (·.type))).map .seq
  |some (.array k e)=>(pD P n e).map λx=>.seq (List.replicate k x)
  |_=>none
where
 vn (q:TypeId->Option Ty):List TypeId->Option (List Ty)
 |[]=>some []
 |t::ts=>match q t,vn q ts with
  |some x,some xs=>some (x::xs)
  |_,_=>none
section
variable{P:Program}
theorem xd:∀(m n:Nat) (t:TypeId) (ty:Ty) (ts:List T),pD P m t=some ty->iU P n t ts->ty.has ts:=by
 intro m;induction m with
 |zero=>intro n t ty ts h;simp[pD]at h
 |succ m ih=>
  intro n t ty ts h hs;cases n with
  |zero=>exact hs.elim
  |succ n=>
   unfold pD at h;unfold iU at hs;split at h
   ·rename_i hu;rw[hu]at hs;cases h;simpa [Ty.has]using hs
   ·rename_i hu;rw[hu]at hs;cases h;simpa [Ty.has]using hs
   ·rename_i hu;rw[hu]at hs;cases h;simpa [Ty.has]using hs
   ·rename_i e hu;rw[hu]at hs;obtain⟨x,hx,rfl⟩:=Zab.1 h;obtain⟨rows,rfl,h1,h2⟩:=hs;simp only[Ty.has];exact⟨rows,rfl,h1,λr hr=>ih n e x r hx (h2 r hr)⟩
   ·rename_i fs hu;rw[hu]at hs;obtain⟨x,hx,rfl⟩:=Zab.1 h;simp only[Ty.has];have key:∀(tf:List TypeId) (xs:List Ty) (ts:List T),pD.vn (pD P m) tf=some xs->mV (iU P n) tf ts->Ty.hasAll xs ts:=by
     intro tf;induction tf with
     |nil=>intro xs ts h hs;simp only[pD.vn,Zaa]at h;subst h;simpa [Ty.hasAll,mV]using hs
     |cons u tf OX=>
      intro xs ts h hs;simp only[pD.vn]at h;split at h
      ·rename_i y ys hy oz;cases h;simp only[mV]at hs;obtain⟨a,b,rfl,h1,h2⟩:=hs;simp only[Ty.hasAll];exact⟨a,b,rfl,ih n u y a hy h1,OX ys b oz h2⟩
      ·cases h
    exact key _ _ _ hx hs
   ·rename_i k e hu;rw[hu]at hs;obtain⟨x,hx,rfl⟩:=Zab.1 h;simp only[Ty.has];have key:∀(k:Nat) (ts:List T),mV (iU P n) (List.replicate k e) ts->Ty.hasAll (List.replicate k x) ts:=by
     intro k;induction k with
     |zero=>intro ts hs;simpa [Ty.hasAll,mV]using hs
     |succ k OX=>
      intro ts hs;simp only[Za6,mV]at hs;obtain⟨a,b,rfl,h1,h2⟩:=hs;simp only[Za6,Ty.hasAll];exact⟨a,b,rfl,ih n e x a hx h1,OX b h2⟩
    exact key k ts hs
   ·cases h
theorem arg_of{m n:Nat}{t:TypeId}{ty:Ty}{x:T}(h:pD P m t=some ty)(hs:nV P n t x):ty.arg x:=by
 cases m with
 |zero=>simp[pD]at h
 |succ m=>
  have h0:=h;unfold pD at h;unfold nV at hs;split at h
  ·rename_i hu;rw[hu]at hs;cases h;exact xd _ _ _ _ _ h0 hs
  ·rename_i hu;rw[hu]at hs;cases h;exact xd _ _ _ _ _ h0 hs
  ·rename_i hu;rw[hu]at hs;cases h;exact xd _ _ _ _ _ h0 hs
  ·rename_i e hu;rw[hu]at hs;obtain⟨y,hy,rfl⟩:=Zab.1 h;exact xd _ _ _ _ _ h0 hs
  ·rename_i fs hu;rw[hu]at hs;obtain⟨y,hy,rfl⟩:=Zab.1 h;obtain⟨ts,rfl,h2⟩:=hs;have:=xd _ _ _ _ _ h0 h2;simp only[Ty.has]at this;exact⟨ts,rfl,this⟩
  ·rename_i k e hu;rw[hu]at hs;obtain⟨y,hy,rfl⟩:=Zab.1 h;obtain⟨ts,rfl,h2⟩:=hs;have:=xd _ _ _ _ _ h0 h2;simp only[Ty.has]at this;exact⟨ts,rfl,this⟩
  ·cases h
theorem Ni{m:Nat}:∀{tf:List TypeId} {l:List Ty} {xs:List T},pD.vn (pD P m) tf=some l->zD P tf xs->Ty.args l xs
 |[],l,xs,h,hs=>by simp only[pD.vn,Zaa]at h;subst h;exact hs
 |t::tf,l,xs,h,hs=>by
  simp only[pD.vn]at h;split at h
  ·rename_i y ys hy oz;cases h;obtain⟨x,jN,rfl,⟨n,h1⟩,h2⟩:=hs;exact⟨x,jN,rfl,arg_of hy h1,Ni oz h2⟩
  ·cases h
end
end Go.DM
namespace Go.Proofs
open Go.DM
instance seatLaid:Laid:=⟨[(0,[.int .i64 (1099511627776),.int .i64 (0),.int .i64 (-1),.int .i64 (0)])]⟩
def aex:List RO:=[
 o (.box (t 0)) 1 [],
 o (.alloc [(.v (.int .i64 0)),.aJ,.aJ]) 2 []]
def aey:List RO:=[
 L 3 1 11 [],
 o (.mkMap [(.int .i64),(.int .i64),(.int .i64)] true) 12 [],
 o (.build [.aJ,.aJ,(.v (.int .i64 0)),(.v (.raw (Go.Value.map Option.none)))] [(0,3,(t 11)),(3,1,(t 12))]) 13 [0,1],
 o (.box (t 13)) 14 [2],
 m 14 3 [3,0,1,2,3]]
def aez:List RO:=[
 a 0 1 15 [],
 l 15 16 [0],
 o (.len (t 16)) 17 [1],
 m 17 4 [2,0,1,2]]
def LA:List RO:=[
 n 4 18,
 o (.bin .mul (i 2) (t 18)) 19 [0],
 o (.bin .add (t 19) (i 1)) 20 [1],
 o (.bslice 1 1 [(.v (.int .i64 0))] [(0,1,(i 1099511627776))]) 21 [],
 n 4 22,
 o (.bin .mul (i 2) (t 22)) 23 [4],
 o (.bin .add (t 23) (i 1)) 24 [5],
 o (.callF 48 [(t 21),(t 24)]) 25 [3,6],
 o (.build [(.v (.int .i64 0)),.aJ,.aJ] [(0,1,(t 20)),(2,1,(t 25))]) 26 [2,7],
 o (.alloc [(.v (.int .i64 0)),.aJ,.aJ]) 5 [],
 S 3 5 26 (k [9,8,7] 9)]
def d12r3:List RO:=LA.map bare
def aeA:List RO:=[
 n 4 27,
 o (.bin .add (t 27) (i 1)) 28 [0],
 o (.bL (i 0)) 29 []]
def aeB:List RO:=[
 b .lss 29 28 30 []]
def aeC:List RO:=[
 n 29 31,
 m 31 6 [0,0]]
def LB:List RO:=[
 n 3 32,
 n 6 33,
 o (.callS 49 [(t 32),(t 33)]) 34 [0,1]]
def d12r7:List RO:=LB.map bare
def d12r8:List RO:=[
 a 2 5 36 [],
 l 36 37 [0],
 n 6 38,
 o (.bin .mul (i 2) (t 38)) 39 [2],
 n 3 40,
 n 6 41,
 n 4 42,
 o (.call 50 [(t 40),(t 41),(t 42)]) 43 [4,5,6],
 m 43 35 [7],
 e 0 35 44 [8],
 e 1 35 45 [8],
 x 1 37 39 46 (k [1,3] 9),
 S 1 46 44 (k [11,9,7] 9)]
def aeD:List RO:=[
 o (.bin .add (t 29) (i 1)) 47 [],
 m 47 29 [0]]
def U6:List RO:=[
 o (.bL (.cm .aJ)) 7 []]
def U7:List RO:=[
 n 3 48,
 c 48 49 [0],
 a 3 49 50 [1],
 l 50 51 [2],
 o (.rangeM (t 51)) 52 [3]]
def U8:List RO:=[
 o (.entryM (t 52)) 55 [],
 e 0 55 56 [0],
 o (.alloc [(.v (.int .i64 0)),(.v (.int .i64 0)),(.v (.int .i64 0))]) 8 [],
 S 3 8 56 [2,1,0,1,2]]
def U9:List RO:=[
 n 7 57,
 L 3 8 58 [],
 o (.bslice 1 3 [(.v (.int .i64 0)),(.v (.int .i64 0)),(.v (.int .i64 0))] [(0,3,(t 58))]) 59 [1],
 o (.append 106 3 24 (t 57) (t 59)) 60 [0,2],
 m 60 7 [3,3,0,1,2,3]]
def FG:List RO:=[
 n 7 61,
 o (.callS 51 [(t 61),(.cm (.v (.fn (.func 52) [])))]) 62 [0]]
def d12r14:List RO:=FG.map bare
def Va:List RO:=[
 n 7 63,
 o (.len (t 63)) 64 [0],
 o (.bL (i 0)) 65 []]
def Vb:List RO:=[
 b .lss 65 64 66 []]
def Vc:List RO:=[
 x 3 63 65 67 [],
 L 3 67 68 [0],
 o (.alloc [(.v (.int .i64 0)),(.v (.int .i64 0)),(.v (.int .i64 0))]) 10 [],
 S 3 10 68 [2,1,0,1,2]]
def Vd:List RO:=[
 a 1 5 69 [],
 l 69 70 [0],
 n 3 71,
 c 71 72 [2],
 a 3 72 73 [3],
 l 73 74 [4],
 L 3 10 75 [],
 o (.lookup [(.int .i64),(.int .i64),(.int .i64)] true (.agg [(.v (.int .i64 0)),(.v (.int .i64 0)),(.v (.int .i64 0)),(.v (.int .i64 0)),.aJ]) false (t 74) (t 75)) 76 [5,6],
 o (.bslice 1 5 [(.v (.int .i64 0)),(.v (.int .i64 0)),(.v (.int .i64 0)),(.v (.int .i64 0)),.aJ] [(0,5,(t 76))]) 77 [7],
 o (.append 77 5 56 (t 70) (t 77)) 78 [1,8],
 a 1 5 79 (k [] 9),
 S 1 79 78 (k [10,9,9] 9)]
def Ve:List RO:=[
 o (.bin .add (t 65) (i 1)) 80 [],
 m 80 65 [0]]
def Vf:List RO:=[
 L 3 5 81 [],
 S 3 2 81 [0,0]]
def d12:DC:=(j (y aex)
 (j (y aey)
 (j (y aez)
 (j (y d12r3)
 (j (j (y aeA)
 (.block 0 (.loop (j (y aeB)
 (j (.cond (.tmp 30) .skip
 (.exit 0))
 (j (.block 1 (j (y aeC)
 (j (y d12r7)
 (Y d12r8))))
 (y aeD)))))))
 (j (y U6)
 (j (j (y U7)
 (.block 2 (.loop (j (.Na (.tmp 52) 53 54)
 (j (.cond (.tmp 54) .skip
 (.exit 2))
 (.block 3 (j (y U8)
 (y U9))))))))
 (j (y d12r14)
 (j (j (y Va)
 (.block 4 (.loop (j (y Vb)
 (j (.cond (.tmp 66) .skip
 (.exit 4))
 (j (.block 5 (j (y Vc)
 (Y Vd)))
 (y Ve)))))))
 (j (y Vf)
 .ret))))))))))
def Vg:List bO:=[.cell 2 3 true]
theorem c12 [Laid]:aO Tryz.prog 32 82 d12 Vg:=⟨Tryz.f32,by kernel_rfl,by kernel_rfl,by kernel_rfl,by kernel_rfl,by kernel_rfl⟩
def aeE:List RO:=[
 n 0 12,
 c 12 13 [0],
 a 0 13 14 [1],
 a 0 14 15 [2],
 l 15 16 [3],
 o (.len (t 16)) 17 [4],
 m 17 4 (k [5] 5)]
def aeF:List RO:=[
 n 1 18,
 m 18 5 [0,0]]
def aeG:List RO:=[
 n 5 19,
 n 4 20,
 b .leq 19 20 21 [0,1]]
def LC:List RO:=[
 n 0 25,
 n 1 26,
 n 5 27,
 o (.callS 50 [(t 25),(t 26),(t 27)]) 28 [0,1,2],
 m 28 24 [3],
 e 0 24 29 [4],
 e 1 24 30 [4],
 m 29 6 (k [5,3] 5),
 m 30 7 (k [6,7] 7)]
def d30r3:List RO:=LC.map bare
def aeH:List RO:=[
 n 5 31,
 n 1 32,
 b .gtr 31 32 33 [0,1]]
def LD:List RO:=[
 n 0 35,
 n 1 36,
 n 5 37,
 o (.bin .sub (t 37) (i 1)) 38 [2],
 o (.callS 50 [(t 35),(t 36),(t 38)]) 39 [0,1,3],
 m 39 34 [4],
 e 0 34 40 [5],
 e 1 34 41 [5],
 m 40 8 (k [6,4] 6),
 m 41 9 (k [7,8] 8)]
def d30r5:List RO:=LD.map bare
def LF:List RO:=[
 n 0 42,
 n 1 43,
 n 5 44,
 o (.bin .sub (t 44) (i 1)) 45 [2],
 n 8 46,
 n 9 47,
 o (.callS 72 [(t 42),(t 43),(t 45),(t 46),(t 47)]) 48 [0,1,3,4,5]]
def d30r6:List RO:=LF.map bare
def aeI:List RO:=[
 n 0 49,
 c 49 50 [0],
 a 0 50 51 [1],
 a 1 51 52 [2],
 l 52 53 [3],
 o (.len (t 53)) 54 [4],
 o (.bL (i 0)) 55 []]
def aeJ:List RO:=[
 b .lss 55 54 56 []]
def aeK:List RO:=[
 n 55 57,
 x 1 53 55 58 [],
 l 58 59 [1],
 m 57 10 [0,0,1,2],
 m 59 11 [2,3,0,1,2,3]]
def FH:List RO:=[
 n 0 60,
 n 1 61,
 o (.bin .mul (i 2) (t 61)) 62 [1],
 n 5 63,
 o (.bin .mul (i 2) (t 63)) 64 [3],
 n 10 65,
 n 6 66,
 n 11 67,
 b .add 66 67 68 [6,7],
 n 7 69,
 o (.callF 74 [(t 69)]) 70 [9],
 n 10 71,
 o (.build [(.v (.int .i64 0)),(.v (.int .i64 0))] [(0,1,(i 3)),(1,1,(t 71))]) 72 [11],
 o (.bslice 1 2 [(.v (.int .i64 0)),(.v (.int .i64 0))] [(0,2,(t 72))]) 73 [12],
 o (.append 75 2 16 (t 70) (t 73)) 74 [10,13,10],
 o (.build [(.v (.int .i64 0)),(.v (.int .i64 0)),(.v (.int .i64 0)),(.v (.int .i64 0)),.aJ] [(0,1,(t 62)),(1,1,(t 64)),(2,1,(t 65)),(3,1,(t 68)),(4,1,(t 74))]) 75 [2,4,5,8,14],
 o (.callS 73 [(t 60),(t 75)]) 76 [0,15,14]]
def d30r10:List RO:=FH.map bare
def Vh:List RO:=[
 o (.bin .add (t 55) (i 1)) 77 [],
 m 77 55 [0]]
def FI:List RO:=[
 n 0 78,
 n 5 79,
 o (.callS 75 [(t 78),(t 79)]) 80 [0,1]]
def d30r12:List RO:=FI.map bare
def FJ:List RO:=[
 n 0 81,
 n 1 82,
 o (.bin .mul (i 2) (t 82)) 83 [1],
 n 5 84,
 o (.bin .mul (i 2) (t 84)) 85 [3],
 o (.bin .add (t 85) (i 1)) 86 [4],
 n 0 87,
 c 87 88 [6],
 a 0 88 89 [7],
 a 0 89 90 [8],
 l 90 91 [9],
 n 5 92,
 o (.bin .add (t 92) (i 1)) 93 [11],
 x 3 91 93 94 [10,12],
 a 0 94 95 [13],
 l 95 96 [14],
 n 6 97,
 n 0 98,
 c 98 99 [17],
 a 0 99 100 [18],
 a 2 100 101 [19],
 l 101 102 [20],
 b .add 97 102 103 [16,21],
 n 7 104,
 o (.callF 74 [(t 104)]) 105 [23],
 o (.build [(.v (.int .i64 0)),(.v (.int .i64 0))] [(0,1,(i 4))]) 106 [],
 o (.bslice 1 2 [(.v (.int .i64 0)),(.v (.int .i64 0))] [(0,2,(t 106))]) 107 [25],
 o (.append 75 2 16 (t 105) (t 107)) 108 [24,26,24],
 o (.build [(.v (.int .i64 0)),(.v (.int .i64 0)),(.v (.int .i64 0)),(.v (.int .i64 0)),.aJ] [(0,1,(t 83)),(1,1,(t 86)),(2,1,(t 96)),(3,1,(t 103)),(4,1,(t 108))]) 109 [2,5,15,22,27],
 o (.callS 73 [(t 81),(t 109)]) 110 [0,28,27]]
def d30r13:List RO:=FJ.map bare
def Vi:List RO:=[
 n 5 22,
 o (.bin .add (t 22) (i 1)) 23 [0],
 m 23 5 [1,0,1]]
def FK:List RO:=[
 n 0 111,
 n 1 112,
 o (.callS 75 [(t 111),(t 112)]) 113 [0,1]]
def d30r15:List RO:=FK.map bare
def FL:List RO:=[
 n 0 114,
 n 1 115,
 o (.bin .mul (i 2) (t 115)) 116 [1],
 o (.bin .add (t 116) (i 1)) 117 [2],
 n 1 118,
 o (.bin .mul (i 2) (t 118)) 119 [4],
 o (.bin .add (t 119) (i 4)) 120 [5],
 n 0 121,
 c 121 122 [7],
 a 0 122 123 [8],
 a 0 123 124 [9],
 l 124 125 [10],
 n 1 126,
 x 3 125 126 127 [11,12],
 a 0 127 128 [13],
 l 128 129 [14],
 o (.build [(.v (.int .i64 0)),(.v (.int .i64 0)),(.v (.int .i64 0)),(.v (.int .i64 0)),.aJ] [(0,1,(t 117)),(1,1,(t 120)),(2,1,(t 129))]) 130 [3,6,15],
 o (.callS 73 [(t 114),(t 130)]) 131 [0,16]]
def d30r16:List RO:=FL.map bare
def d30:DC:=(j (y aeE)
 (j (j (y aeF)
 (.block 0 (.loop (j (j (y aeG)
 (.cond (.tmp 21) .skip
 (.exit 0)))
 (j (.block 1 (j (y d30r3)
 (j (j (y aeH)
 (.cond (.tmp 33) (j (y d30r5)
 (y d30r6))
 .skip))
 (j (j (y aeI)
 (.block 2 (.loop (j (y aeJ)
 (j (.cond (.tmp 56) .skip
 (.exit 2))
 (j (.block 3 (j (y aeK)
 (y d30r10)))
 (y Vh)))))))
 (j (y d30r12)
 (.cond (.tmp 80) (.jY d30r13)
 .skip))))))
 (y Vi))))))
 (j (y d30r15)
 (.cond (.tmp 113) (y d30r16)
 .skip))))
def Vj:List bO:=[]
theorem c30 [Laid]:aO Tryz.prog 49 132 d30 Vj:=⟨Tryz.f49,by kernel_rfl,by kernel_rfl,by kernel_rfl,by kernel_rfl,by kernel_rfl⟩
def HH:List RO:=[
 o (.bL (i 0)) 6 [],
 o (.bL (.cm .aJ)) 7 [0]]
def HI:List RO:=[
 o (.bL (i 0)) 8 []]
def aeL:List RO:=[
 o (.bL (.cm .aJ)) 9 []]
def aeM:List RO:=[
 n 0 12,
 c 12 13 [0],
 a 0 13 14 [1],
 a 0 14 15 [2],
 l 15 16 [3],
 n 1 17,
 n 2 18,
 o (.slice 3 (t 16) (some (t 17)) (some (t 18))) 19 [4,5,6],
 o (.len (t 19)) 20 [7],
 o (.bL (i 0)) 21 []]
def aeN:List RO:=[
 b .lss 21 20 22 []]
def aeO:List RO:=[
 x 3 19 21 23 [],
 L 3 23 24 [0],
 o (.alloc [(.v (.int .i64 0)),.aJ,(.v (.int .i64 0))]) 11 [],
 S 3 11 24 [2,1,0,1,2]]
def aeP:List RO:=[
 n 8 25,
 a 2 11 26 [],
 l 26 27 [1],
 b .add 25 27 28 [0,2],
 o (.minmax false (t 28) (i 1099511627776)) 29 [3],
 m 29 8 (k [4] 4)]
def aeQ:List RO:=[
 n 9 30,
 o (.build [(.v (.int .i64 0)),(.v (.int .i64 0))] [(0,1,(i 2))]) 31 [],
 o (.bslice 1 2 [(.v (.int .i64 0)),(.v (.int .i64 0))] [(0,2,(t 31))]) 32 [1],
 o (.append 75 2 16 (t 30) (t 32)) 33 [0,2],
 m 33 9 [3,3,0,1,2,3]]
def aeR:List RO:=[
 o (.bin .add (t 21) (i 1)) 34 [],
 m 34 21 [0]]
def aeS:List RO:=[
 n 8 35,
 n 9 36,
 m 35 6 [0,0],
 m 36 7 [1,2,0,1,2]]
def d31:DC:=(j (y HH)
 (j (y HI)
 (j (y aeL)
 (j (j (y aeM)
 (.block 0 (.loop (j (y aeN)
 (j (.cond (.tmp 22) .skip
 (.exit 0))
 (j (.block 1 (j (y aeO)
 (j (y aeP)
 (y aeQ))))
 (y aeR)))))))
 (j (y aeS)
 .ret)))))
def Bk:List bO:=[.slot 6,.slot 7]
theorem c31 [Laid]:aO Tryz.prog 50 37 d31 Bk:=⟨Tryz.f50,by kernel_rfl,by kernel_rfl,by kernel_rfl,by kernel_rfl,by kernel_rfl⟩
def aeT:List RO:=[
 n 0 12,
 c 12 13 [0],
 a 0 13 14 [1],
 a 0 14 15 [2],
 l 15 16 [3],
 n 2 17,
 x 3 16 17 18 [4,5],
 a 1 18 19 [6],
 l 19 20 [7],
 o (.len (t 20)) 21 [8],
 o (.bL (i 0)) 22 []]
def aeU:List RO:=[
 b .lss 22 21 23 []]
def aeV:List RO:=[
 n 22 24,
 x 1 20 22 25 [],
 l 25 26 [1],
 m 24 10 [0,0,1,2],
 m 26 11 [2,3,0,1,2,3]]
def aeW:List RO:=[
 n 11 27,
 o (.bin .geq (t 27) (i 0)) 28 [0]]
def LG:List RO:=[
 n 0 29,
 n 1 30,
 o (.bin .mul (i 2) (t 30)) 31 [1],
 n 2 32,
 o (.bin .mul (i 2) (t 32)) 33 [3],
 o (.bin .add (t 33) (i 2)) 34 [4],
 n 10 35,
 n 3 36,
 n 11 37,
 b .add 36 37 38 [7,8],
 n 4 39,
 o (.callF 74 [(t 39)]) 40 [10],
 n 10 41,
 o (.build [(.v (.int .i64 0)),(.v (.int .i64 0))] [(0,1,(i 1)),(1,1,(t 41))]) 42 [12],
 o (.bslice 1 2 [(.v (.int .i64 0)),(.v (.int .i64 0))] [(0,2,(t 42))]) 43 [13],
 o (.append 75 2 16 (t 40) (t 43)) 44 [11,14,11],
 o (.build [(.v (.int .i64 0)),(.v (.int .i64 0)),(.v (.int .i64 0)),(.v (.int .i64 0)),.aJ] [(0,1,(t 31)),(1,1,(t 34)),(2,1,(t 35)),(3,1,(t 38)),(4,1,(t 44))]) 45 [2,5,6,9,15],
 o (.callS 73 [(t 29),(t 45)]) 46 [0,16,15]]
def d47r4:List RO:=LG.map bare
def aeX:List RO:=[
 o (.bin .add (t 22) (i 1)) 47 [],
 m 47 22 [0]]
def d47:DC:=(j (y aeT)
 (.block 0 (.loop (j (y aeU)
 (j (.cond (.tmp 23) .skip
 (.exit 0))
 (j (.block 1 (j (y aeV)
 (j (y aeW)
 (.cond (.tmp 28) (y d47r4)
 .skip))))
 (y aeX)))))))
def Vk:List bO:=[]
theorem c47 [Laid]:aO Tryz.prog 72 48 d47 Vk:=⟨Tryz.f72,by kernel_rfl,by kernel_rfl,by kernel_rfl,by kernel_rfl,by kernel_rfl⟩
def aeY:List RO:=[
 o (.box (t 1)) 3 []]
def aeZ:List RO:=[
 a 0 3 7 [],
 l 7 8 [0],
 a 1 3 9 [],
 l 9 10 [2],
 a 2 3 11 [],
 l 11 12 [4],
 o (.build [(.v (.int .i64 0)),(.v (.int .i64 0)),(.v (.int .i64 0))] [(0,1,(t 8)),(1,1,(t 10)),(2,1,(t 12))]) 13 [1,3,5],
 o (.alloc [(.v (.int .i64 0)),(.v (.int .i64 0)),(.v (.int .i64 0))]) 4 [],
 S 3 4 13 (k [7,6] 7)]
def Vl:List RO:=[
 n 0 15,
 c 15 16 [0],
 a 3 16 17 [1],
 l 17 18 [2],
 L 3 4 19 [],
 o (.lookup [(.int .i64),(.int .i64),(.int .i64)] true (.agg [(.v (.int .i64 0)),(.v (.int .i64 0)),(.v (.int .i64 0)),(.v (.int .i64 0)),.aJ]) true (t 18) (t 19)) 20 [3,4],
 m 20 14 [5],
 e 0 14 21 [6],
 e 1 14 22 [6],
 o (.alloc [(.v (.int .i64 0)),(.v (.int .i64 0)),(.v (.int .i64 0)),(.v (.int .i64 0)),.aJ]) 5 [],
 S 5 5 21 [9,7,0,1,2,3,4,5,6,7,9],
 m 22 6 (k [8,10] 10)]
def Vm:List RO:=[
 a 3 3 23 [],
 l 23 24 [0],
 o (.bin .lss (t 24) (i 1099511627776)) 25 [1],
 m 25 26 [2],
 w 6 27 26 true [3],
 g (.un .not (t 27)) 28 26 true [4,3],
 w 28 29 26 true [5,3,3],
 u 3 3 30 29 false [6],
 v 30 31 29 false [7,6],
 u 3 5 32 29 false [6],
 v 32 33 29 false [9,6],
 g (.bin .lss (t 31) (t 33)) 34 29 false [8,10,6],
 g (.pick (t 29) (.cm (.v (.bool true))) (t 34)) 35 26 true [6,11,3],
 q 26 35 36 [3,12]]
def Vn:List RO:=[
 n 0 37,
 c 37 38 [0],
 a 3 38 39 [1],
 l 39 40 [2],
 L 3 4 41 [],
 L 5 3 42 [],
 s (.mapUpd [(.int .i64),(.int .i64),(.int .i64)] true (t 40) (t 41) (t 42)) (k [3,4,5] 5)]
def d48:DC:=(j (y aeY)
 (j (y aeZ)
 (j (Y Vl)
 (j (y Vm)
 (.cond (.tmp 36) (Y Vn)
 .skip)))))
def LH:List bO:=[]
theorem c48 [Laid]:aO Tryz.prog 73 43 d48 LH:=⟨Tryz.f73,by kernel_rfl,by kernel_rfl,by kernel_rfl,by kernel_rfl,by kernel_rfl⟩
def ae0:List RO:=[
 o (.bL (.cm .aJ)) 2 []]
def Vo:List RO:=[
 n 0 3,
 o (.isNil 0 false (t 3)) 4 [0]]
def ae1:List RO:=[
 o (.bL (.cm .aJ)) 2 []]
def Vp:List RO:=[
 o (.bslice 0 2 [] []) 5 [],
 n 0 6,
 o (.append 75 2 16 (t 5) (t 6)) 7 [0,1],
 m 7 2 [2,2,0,1,2]]
def d49:DC:=(j (y ae0)
 (j (j (y Vo)
 (.cond (.tmp 4) (j (y ae1)
 .ret)
 .skip))
 (j (y Vp)
 .ret)))
def d49res:List bO:=[.slot 2]
theorem c49 [Laid]:aO Tryz.prog 74 8 d49 d49res:=⟨Tryz.f74,by kernel_rfl,by kernel_rfl,by kernel_rfl,by kernel_rfl,by kernel_rfl⟩
def ae2:List RO:=[
 o (.bL (.cm (.v (.bool false)))) 4 []]
def ae3:List RO:=[
 n 0 6,
 c 6 7 [0],
 a 0 7 8 [1],
 a 0 8 9 [2],
 l 9 10 [3],
 m 10 5 (k [4] 4)]
def Vq:List RO:=[
 n 1 11,
 o (.bin .add (t 11) (i 1)) 12 [0],
 n 5 13,
 o (.len (t 13)) 14 [2],
 b .lss 12 14 15 [1,3],
 m 15 16 [4],
 w 0 17 16 true [5],
 g (.nilCheck (t 17)) 18 16 true [6,5],
 u 0 18 19 16 true [7,5],
 u 2 19 20 16 true [8,5],
 v 20 21 16 true [9,5],
 g (.bin .gtr (t 21) (i 0)) 22 16 true [10,5],
 q 16 22 23 [5,11],
 m 23 24 [12,5],
 w 5 25 24 true [13],
 w 1 26 24 true [13],
 g (.idxAddr 3 (t 25) (t 26)) 27 24 true [14,15,13],
 u 0 27 28 24 true [16,13],
 v 28 29 24 true [17,13],
 g (.bin .geq (t 29) (i 0)) 30 24 true [18,13],
 q 24 30 31 [13,19],
 m 31 32 [20,13],
 w 5 33 32 true [21],
 w 1 34 32 true [21],
 g (.bin .add (t 34) (i 1)) 35 32 true [23,21],
 g (.idxAddr 3 (t 33) (t 35)) 36 32 true [22,24,21],
 u 0 36 37 32 true [25,21],
 v 37 38 32 true [26,21],
 g (.bin .geq (t 38) (i 0)) 39 32 true [27,21],
 q 32 39 40 [21,28],
 m 40 4 (k [29,21] 29)]
def d50:DC:=(j (y ae2)
 (j (y ae3)
 (j (y Vq)
 .ret)))
def Vr:List bO:=[.slot 4]
theorem c50 [Laid]:aO Tryz.prog 75 41 d50 Vr:=⟨Tryz.f75,by kernel_rfl,by kernel_rfl,by kernel_rfl,by kernel_rfl,by kernel_rfl⟩
def ae4:List RO:=[
 o (.bL (.cm .aJ)) 4 []]
def ae5:List RO:=[
 n 1 9,
 o (.bin .lss (t 9) (i 0)) 10 [0]]
def d29r2:List RO:=[
 o (.fail) 11 [],
 s (.fail) [0]]
def ae6:List RO:=[
 n 0 13,
 o (.len (t 13)) 14 [0],
 o (.conv .u64 (t 14)) 15 [1],
 n 1 16,
 o (.conv .u64 (t 16)) 17 [3],
 o (.call 71 [(t 15),(t 17)]) 18 [2,4],
 m 18 12 [5],
 e 0 12 19 [6],
 e 1 12 20 [6],
 m 19 5 (k [7,5] 7),
 m 20 6 (k [8,9] 9)]
def ae7:List RO:=[
 n 5 21,
 o (.bin .gtr (t 21) (.cm (.v (.int .u64 0)))) 22 [0],
 m 22 23 [1],
 w 6 24 23 false [2],
 g (.bin .gtr (t 24) (.cm (.v (.int .u64 9223372036854775807)))) 25 23 false [3,2],
 p 23 25 26 [2,4]]
def d29r5:List RO:=[
 o (.fail) 27 [],
 s (.fail) [0]]
def ae8:List RO:=[
 n 6 28,
 o (.conv .i64 (t 28)) 29 [0],
 o (.mkSlice 3 1 8 [(.int .i64 0)] (t 29)) 30 [1,1],
 m 30 7 [2,0,1,2]]
def ae9:List RO:=[
 n 7 31,
 n 0 32,
 o (.copy 1 (t 31) (t 32)) 33 [0,1],
 m 33 8 [2,2,0,1,2]]
def afa:List RO:=[
 n 8 34,
 n 7 35,
 o (.len (t 35)) 36 [1],
 b .lss 34 36 37 [0,2]]
def afb:List RO:=[
 n 8 38,
 n 7 39,
 n 8 40,
 o (.slice 1 (t 39) (some (t 40)) none) 41 [1,2],
 n 7 42,
 n 8 43,
 o (.slice 1 (t 42) none (some (t 43))) 44 [4,5],
 o (.copy 1 (t 41) (t 44)) 45 [3,6],
 b .add 38 45 46 [0,7],
 m 46 8 (k [8,7] 8)]
def Vt:List RO:=[
 n 7 47,
 m 47 4 [0,0]]
def d29:DC:=(j (y ae4)
 (j (j (y ae5)
 (.cond (.tmp 10) (y d29r2)
 .skip))
 (j (y ae6)
 (j (j (y ae7)
 (.cond (.tmp 26) (y d29r5)
 .skip))
 (j (y ae8)
 (j (y ae9)
 (j (.block 0 (.loop (j (j (y afa)
 (.cond (.tmp 37) .skip
 (.exit 0)))
 (.block 1 (Y afb)))))
 (j (y Vt)
 .ret))))))))
def d29res:List bO:=[.slot 4]
theorem c29 [Laid]:aO Tryz.prog 48 48 d29 d29res:=⟨Tryz.f48,by kernel_rfl,by kernel_rfl,by kernel_rfl,by kernel_rfl,by kernel_rfl⟩
def HJ:List RO:=[
 o (.box (t 0)) 2 [],
 o (.box (t 1)) 3 [],
 o (.bL (i 0)) 4 []]
def HK:List RO:=[
 a 0 2 5 [],
 l 5 6 [0],
 a 0 3 7 [],
 l 7 8 [2],
 o (.call 79 [(t 6),(t 8)]) 9 [1,3],
 a 1 2 10 [],
 l 10 11 [5],
 a 1 3 12 [],
 l 12 13 [7],
 o (.call 79 [(t 11),(t 13)]) 14 [6,8,4],
 a 2 2 15 [],
 l 15 16 [10],
 a 2 3 17 [],
 l 17 18 [12],
 o (.call 79 [(t 16),(t 18)]) 19 [11,13,9],
 o (.bslice 3 1 [(.v (.int .i64 0)),(.v (.int .i64 0)),(.v (.int .i64 0))] [(0,1,(t 9)),(1,1,(t 14)),(2,1,(t 19))]) 20 [4,9,14],
 o (.call 78 [(t 20)]) 21 [15,14],
 m 21 4 (k [16,16] 16)]
def d33:DC:=(j (y HJ)
 (j (Y HK)
 .ret))
def Bl:List bO:=[.slot 4]
theorem c33 [Laid]:aO Tryz.prog 52 22 d33 Bl:=⟨Tryz.f52,by kernel_rfl,by kernel_rfl,by kernel_rfl,by kernel_rfl,by kernel_rfl⟩
def HL:List RO:=[
 o (.bL (i 0)) 2 []]
def HM:List RO:=[
 o (.bL (i 0)) 3 []]
def HN:List RO:=[
 n 0 6,
 o (.len (t 6)) 7 [0],
 o (.bL (i 0)) 8 []]
def HO:List RO:=[
 b .lss 8 7 9 []]
def HP:List RO:=[
 x 1 6 8 10 [],
 l 10 11 [0],
 m 11 5 [1,0,1]]
def HQ:List RO:=[
 n 5 12,
 n 3 13,
 b .neq 12 13 14 [0,1]]
def HR:List RO:=[
 n 5 15,
 m 15 2 [0,0]]
def HS:List RO:=[
 o (.bin .add (t 8) (i 1)) 16 [],
 m 16 8 [0]]
def afc:List RO:=[
 n 3 17,
 m 17 2 [0,0]]
def d53:DC:=(j (y HL)
 (j (y HM)
 (j (j (y HN)
 (.block 0 (.loop (j (y HO)
 (j (.cond (.tmp 9) .skip
 (.exit 0))
 (j (.block 1 (j (y HP)
 (j (y HQ)
 (.cond (.tmp 14) (j (y HR)
 .ret)
 .skip))))
 (y HS)))))))
 (j (y afc)
 .ret))))
def Bm:List bO:=[.slot 2]
theorem c53 [Laid]:aO Tryz.prog 78 18 d53 Bm:=⟨Tryz.f78,by kernel_rfl,by kernel_rfl,by kernel_rfl,by kernel_rfl,by kernel_rfl⟩
def H9:List RO:=[
 o (.bL (i 0)) 4 []]
def Ia:List RO:=[
 n 0 7,
 o (.call 106 [(t 7)]) 8 [0],
 m 8 5 [1,1,0,1]]
def afd:List RO:=[
 n 1 9,
 o (.call 106 [(t 9)]) 10 [0],
 m 10 6 [1,1,0,1]]
def afe:List RO:=[
 n 5 11]
def d54r4:List RO:=[
 n 6 12]
def d54r5:List RO:=[
 o (.bL (i 0)) 4 []]
def d54r6:List RO:=[
 o (.bL (i (-1))) 4 []]
def aff:List RO:=[
 n 6 13]
def d54r8:List RO:=[
 o (.bL (i 1)) 4 []]
def afg:List RO:=[
 n 0 14,
 n 1 15,
 b .lss 14 15 16 [0,1]]
def Vu:List RO:=[
 o (.bL (i (-1))) 4 []]
def Vv:List RO:=[
 n 0 17,
 n 1 18,
 b .gtr 17 18 19 [0,1]]
def Vw:List RO:=[
 o (.bL (i 1)) 4 []]
def Vx:List RO:=[
 o (.bL (i 0)) 4 []]
def d54:DC:=(j (y H9)
 (j (y Ia)
 (j (y afd)
 (j (j (y afe)
 (.cond (.tmp 11) (j (j (y d54r4)
 (.cond (.tmp 12) (j (y d54r5)
 .ret)
 .skip))
 (j (y d54r6)
 .ret))
 .skip))
 (j (j (y aff)
 (.cond (.tmp 13) (j (y d54r8)
 .ret)
 .skip))
 (j (j (y afg)
 (.cond (.tmp 16) (j (y Vu)
 .ret)
 .skip))
 (j (j (y Vv)
 (.cond (.tmp 19) (j (y Vw)
 .ret)
 .skip))
 (j (y Vx)
 .ret))))))))
def xB:List bO:=[.slot 4]
theorem c54 [Laid]:aO Tryz.prog 79 20 d54 xB:=⟨Tryz.f79,by kernel_rfl,by kernel_rfl,by kernel_rfl,by kernel_rfl,by kernel_rfl⟩
def afh:List RO:=[
 o (.bL (.cm (.v (.bool false)))) 2 []]
def afi:List RO:=[
 n 0 3,
 n 0 4,
 b .neq 3 4 5 [0,1],
 m 5 2 [2,0,1,2]]
def d71:DC:=(j (y afh)
 (j (y afi)
 .ret))
def Vy:List bO:=[.slot 2]
theorem c71 [Laid]:aO Tryz.prog 106 6 d71 Vy:=⟨Tryz.f106,by kernel_rfl,by kernel_rfl,by kernel_rfl,by kernel_rfl,by kernel_rfl⟩
def Hw:List RO:=[
 o (.bL (.cm (.v (.int .u64 0)))) 4 [],
 o (.bL (.cm (.v (.int .u64 0)))) 5 [0]]
def Nx:List RO:=[
 n 0 11,
 o (.conv .u32 (t 11)) 12 [0],
 n 1 13,
 o (.conv .u32 (t 13)) 14 [2],
 o (.call 94 [(t 12),(t 14)]) 15 [1,3],
 m 15 10 [4],
 e 0 10 16 [5],
 e 1 10 17 [5],
 m 16 6 (k [6,4] 6),
 m 17 7 (k [7,8] 8)]
def Ny:List RO:=[
 n 6 18,
 o (.conv .u64 (t 18)) 19 [0],
 n 7 20,
 o (.conv .u64 (t 20)) 21 [2],
 m 19 4 [1,0,1],
 m 21 5 (k [3,4] 4)]
def Hx:List RO:=[
 n 0 23,
 n 1 24,
 o (.call 95 [(t 23),(t 24)]) 25 [0,1],
 m 25 22 [2],
 e 0 22 26 [3],
 e 1 22 27 [3],
 m 26 8 (k [4,2] 4),
 m 27 9 (k [5,6] 6)]
def Hy:List RO:=[
 n 8 28,
 n 9 29,
 m 28 4 [0,0],
 m 29 5 [1,2,0,1,2]]
def d46:DC:=(j (y Hw)
 (j (.cond (.cm (.v (.bool false))) (j (y Nx)
 (j (y Ny)
 .ret))
 .skip)
 (j (y Hx)
 (j (y Hy)
 .ret))))
def pO:List bO:=[.slot 4,.slot 5]
theorem c46 [Laid]:aO Tryz.prog 71 30 d46 pO:=⟨Tryz.f71,by kernel_rfl,by kernel_rfl,by kernel_rfl,by kernel_rfl,by kernel_rfl⟩
def Ib:List RO:=[
 o (.bL (.cm (.v (.int .u64 0)))) 4 [],
 o (.bL (.cm (.v (.int .u64 0)))) 5 [0]]
def yR:List RO:=[
 n 0 14,
 o (.bin .and (t 14) (.cm (.v (.int .u64 4294967295)))) 15 [0],
 m 15 6 [1,0,1]]
def Ic:List RO:=[
 n 0 16,
 o (.bin .shr (t 16) (.cm (.v (.int .u64 32)))) 17 [0],
 m 17 7 [1,0,1]]
def Ie:List RO:=[
 n 1 18,
 o (.bin .and (t 18) (.cm (.v (.int .u64 4294967295)))) 19 [0],
 m 19 8 [1,0,1]]
def NH:List RO:=[
 n 1 20,
 o (.bin .shr (t 20) (.cm (.v (.int .u64 32)))) 21 [0],
 m 21 9 [1,0,1]]
def NI:List RO:=[
 n 6 22,
 n 8 23,
 b .mul 22 23 24 [0,1],
 m 24 10 [2,0,1,2]]
def afj:List RO:=[
 n 7 25,
 n 8 26,
 b .mul 25 26 27 [0,1],
 n 10 28,
 o (.bin .shr (t 28) (.cm (.v (.int .u64 32)))) 29 [3],
 b .add 27 29 30 [2,4],
 m 30 11 (k [5] 5)]
def afk:List RO:=[
 n 11 31,
 o (.bin .and (t 31) (.cm (.v (.int .u64 4294967295)))) 32 [0],
 m 32 12 [1,0,1]]
def afl:List RO:=[
 n 11 33,
 o (.bin .shr (t 33) (.cm (.v (.int .u64 32)))) 34 [0],
 m 34 13 [1,0,1]]
def afm:List RO:=[
 n 12 35,
 n 6 36,
 n 9 37,
 b .mul 36 37 38 [1,2],
 b .add 35 38 39 [0,3],
 m 39 12 (k [4] 4)]
def Vz:List RO:=[
 n 7 40,
 n 9 41,
 b .mul 40 41 42 [0,1],
 n 13 43,
 b .add 42 43 44 [2,3],
 n 12 45,
 o (.bin .shr (t 45) (.cm (.v (.int .u64 32)))) 46 [5],
 b .add 44 46 47 [4,6],
 m 47 4 (k [7] 7)]
def VA:List RO:=[
 n 0 48,
 n 1 49,
 b .mul 48 49 50 [0,1],
 m 50 5 [2,0,1,2]]
def d60:DC:=(j (y Ib)
 (j (y yR)
 (j (y Ic)
 (j (y Ie)
 (j (y NH)
 (j (y NI)
 (j (y afj)
 (j (y afk)
 (j (y afl)
 (j (y afm)
 (j (y Vz)
 (j (y VA)
 .ret))))))))))))
def ui:List bO:=[.slot 4,.slot 5]
theorem c60 [Laid]:aO Tryz.prog 95 51 d60 ui:=⟨Tryz.f95,by kernel_rfl,by kernel_rfl,by kernel_rfl,by kernel_rfl,by kernel_rfl⟩
theorem follows:Tryz.prog.follows .mixedOrders=true:=by kernel_rfl
abbrev fw:=follows
abbrev ti(n:Int):T:=.int .i64 n
def cZ:T->Int
 |.int _ n=>n
 |_=>0
structure bn where
 (f t term cost:Int)
 ops:List (Int×Int)
 deriving DecidableEq,Inhabited
structure aM where
 aN:Int
 aF:List bn
 final:List Int
structure bD where
 kind:Int
 read:List Int
 delete:Int
 deriving Inhabited
structure Input where
 aj:List bD
 insert:List Int
 swap:Int
def cT(l:List (Int×Int)):List (List T):=l.map λo=>[ti o.1,ti o.2]
def bn.enc(a:bn):List T:=[ti a.f,ti a.t,ti a.term,ti a.cost,.sl (cT a.ops)]
def bb(l:List bn):List (List T):=l.map bn.enc
def aC(l:List Int):List (List T):=l.map λx=>[ti x]
def aM.enc(l:aM):T:=.agg [ti l.aN,.sl (bb l.aF),.sl (aC l.final)]
def bD.enc(c:bD):List T:=[ti c.kind,.sl (aC c.read),ti c.delete]
def ba(l:List bD):List (List T):=l.map bD.enc
def Input.enc(x:Input):T:=.agg [.sl (ba x.aj),.sl (aC x.insert),ti x.swap]
theorem fD{α β:Type}{f:α->β}{g:β->α}(h:∀a,g (f a)=a)(l:List α):(l.map f).map g=l:=by
 rw[ZcM];conv=>rhs;rw[<-List.map_id l]
 exact Zbq λa _=>h a
def fu(l:List (List T)):List Int:=l.map λx=>cZ (x.getD 0 (ti 0))
def xI(l:List (List T)):List (Int×Int):=l.map λx=>(cZ (x.getD 0 (ti 0)),cZ (x.getD 1 (ti 0)))
def lT:List T->bn
 |[a,b,c,d,.sl o]=>⟨cZ a,cZ b,cZ c,cZ d,xI o⟩
 |_=>default
def zL(l:List (List T)):List bn:=l.map lT
def BO:List T->bD
 |[a,.sl b,c]=>⟨cZ a,fu b,cZ c⟩
 |_=>default
def fL(l:List (List T)):List bD:=l.map BO
def um:T->aM
 |.agg [a,.sl b,.sl c]=>⟨cZ a,zL b,fu c⟩
 |_=>⟨0,[],[]⟩
def CK:T->Input
 |.agg [.sl a,.sl b,c]=>⟨fL a,fu b,cZ c⟩
 |_=>⟨[],[],0⟩
@[simp] theorem IQ(l:List Int):fu (aC l)=l:=fD (λ_=>rfl) l
@[simp] theorem LI(l:List (Int×Int)):xI (cT l)=l:=fD (λ_=>rfl) l
@[simp] theorem nf(a:bn):lT a.enc=a:=by simp[lT,bn.enc,cZ]
@[simp] theorem afJ(l:List bn):zL (bb l)=l:=fD nf l
@[simp] theorem BP(a:bD):BO a.enc=a:=by simp[BO,bD.enc,cZ]
@[simp] theorem afK(l:List bD):fL (ba l)=l:=fD BP l
@[simp] theorem decL_enc'(a:Int)(l:List bn)(f:List Int):um (.agg [ti a,.sl (bb l),.sl (aC f)])=⟨a,l,f⟩:=by simp[um,cZ]
@[simp] theorem decL_enc(n:aM):um n.enc=n:=by simp[aM.enc]
@[simp] theorem decX_enc'(a:List bD)(b:List Int)(c:Int):CK (.agg [.sl (ba a),.sl (aC b),ti c])=⟨a,b,c⟩:=by simp[CK,cZ]
@[simp] theorem decX_enc(x:Input):CK x.enc=x:=by simp[Input.enc]
theorem cR{l:List Int}{y:Nat}(h:y<l.length):DM.rowAt (aC l) y=[ti (l.getD y default)]:=by simp[DM.rowAt,aC,h]
theorem kY{l:List bn}{y:Nat}(h:y<l.length):DM.rowAt (bb l) y=(l.getD y default).enc:=by simp[DM.rowAt,bb,h]
theorem dR{l:List bD}{y:Nat}(h:y<l.length):DM.rowAt (ba l) y=(l.getD y default).enc:=by simp[DM.rowAt,ba,h]
@[simp] theorem intsT_len(l:List Int):(aC l).length=l.length:=by simp[aC]
@[simp] theorem opsT_len(l:List (Int×Int)):(cT l).length=l.length:=by simp[cT]
@[simp] theorem arcsT_len(l:List bn):(bb l).length=l.length:=by simp[bb]
@[simp] theorem colsT_len(l:List bD):(ba l).length=l.length:=by simp[ba]
abbrev kH:List Sh:=[.int .i64,.int .i64,.int .i64]
def keyOf(f t x:Int):T:=.agg [ti f,ti t,ti x]
def bn.key(a:bn):T:=keyOf a.f a.t a.term
def entries(al:List bn):List (Nat×T×DV):=al.zipIdx.map λp=>(p.2,p.1.key,.v (.agg p.1.enc))
def bY(al:List bn):Ob:=.map kH true al.length (entries al)
def cu(x:Input)(m:Nat):List DV:=[.v (.sl (ba x.aj)),.v (.sl (aC x.insert)),.v (ti x.swap),.iC m]
def sameKey(a b:bn):Bool:=decide (a.f=b.f/\a.t=b.t/\a.term=b.term)
def tL(al:List bn)(a:bn):List bn:=
 if a.cost<1099511627776 then
  match al.findIdx? (sameKey a)with
  |none=>al++[a]
  |some i=>if a.cost<(al.getD i default).cost then al.set i a else al
 else al
def FO:DV->Int
 |.v (.agg [_,_,_,.int _ c,_])=>c
 |_=>0
def better(k:T)(c:Int)(es:List (Nat×T×DV)):Bool:=
 decide (c<1099511627776)&&match oH k es with|none=>true|some e=>decide (c<FO e.2.2)
def oX(k:T)(c:Int)(y:DV)(wM:Nat)(es:List (Nat×T×DV)):List (Nat×T×DV):=if better k c es then Eu k y wM es else es
def uy(k:T)(c:Int)(wM:Nat)(es:List (Nat×T×DV)):Nat:=if better k c es then mH k wM es else wM
theorem key_eq(a b:bn):fe a.key b.key=sameKey a b:=by
 simp[bn.key,keyOf,fe,oG,sameKey]
theorem nI(a:bn)(al:List bn):((entries al).findIdx? λe=>fe a.key e.2.1)=al.findIdx? (sameKey a):=by
 have h:∀(l:List bn) (i:Nat),(((l.zipIdx i).map λp=>((p.2,p.1.key,DV.v (.agg p.1.enc)):Nat×T×DV)).findIdx? λe=>fe a.key e.2.1)=l.findIdx? (sameKey a):=by
  intro l;induction l with
  |nil=>intro i;rfl
  |cons b l ih=>intro i;simp only[Zb7,Zau,Za3,key_eq,ih (i+1)]
 exact h al 0
theorem fz(al:List bn)(i:Nat):(entries al)[i]? =(al[i]?).map λa=>(i,a.key,.v (.agg a.enc)):=by
 simp[entries,Zbp,List.getElem?_zipIdx,Function.comp_def]
theorem jH(al:List bn):(entries al).length=al.length:=by simp[entries]
theorem PG(al:List bn):∀e∈entries al,∃a:bn,e.2.2=.v (.agg a.enc):=by
 intro e he;simp only[entries,Zal]at he;obtain⟨p,_,rfl⟩:=he;exact⟨p.1,rfl⟩
theorem sQ{α:Type}{p:α->Bool}{l:List α}{i:Nat}(h:l.findIdx? p=some i):i<l.length:=by
 rw[ZbA]at h;exact h.1
theorem BQ(a:bn)(al:List bn):better a.key a.cost (entries al)=(decide (a.cost<1099511627776)&&match al.findIdx? (sameKey a)with|none=>true|some i=>decide (a.cost<(al.getD i default).cost)):=by
 unfold better;rw[vD,nI];cases h:al.findIdx? (sameKey a)with
 |none=>rfl
 |some i=>
  have hi:=sQ h;simp[fz,hi,FO,bn.enc];rfl
theorem FP(a:bn)(al:List bn):oX a.key a.cost (.v (.agg a.enc)) al.length (entries al)=entries (tL al a)/\uy a.key a.cost al.length (entries al)=(tL al a).length:=by
 unfold oX uy tL;rw[BQ];by_cases hc:a.cost<1099511627776
 ·simp only[hc,decide_true,Zcj,if_true];cases h:al.findIdx? (sameKey a)with
  |none=>
   simp only[if_true,Eu,mH,nI,h];refine⟨?_,by simp⟩;apply Zbl;intro j;rw[fz,Zb9,Zb9,jH,fz];split
   ·rfl
   ·rename_i hj;by_cases XA:j=al.length
    ·subst XA;simp
    ·rw[ZaS (by simp;omega),ZaS (by simp;omega)];rfl
  |some i=>
   have hi:=sQ h;have KF:a.key=(al.getD i default).key:=by
    rw[ZbA]at h;obtain⟨_,h1,_⟩:=h;simp only[sameKey,decide_eq_true_eq]at h1;simp[bn.key,keyOf,List.getD,hi,h1]
   simp only;by_cases h2:a.cost<(al.getD i default).cost
   ·simp only[h2,decide_true,if_true,Eu,mH,nI,h];refine⟨?_,by simp⟩;apply Zbl;intro j;rw[fz,List.getElem?_modify,fz,Zbx];by_cases hj:i=j
    ·subst hj;simp[hi,KF,List.getD]
    ·simp[hj]
   ·simp only[h2,decide_false,ZaK,if_false];exact⟨trivial,trivial⟩
 ·simp[hc]
theorem dZ:ay Tryz.prog (aW []):=ay.nil
theorem cW{f:aU}{l:List (Nat×Ob)}{low r:Nat}(hf:dO f low)(h:low<=r)(hl:∀p∈l,p.1≠r):gone (over l f) id r:=by
 intro r' ff e;simp only[id]at e;subst e;cases ho:over l f r' with
 |none=>exact ff ho
 |some o=>
  rcases oR ho with h1|⟨_,h1⟩
  ·exact hl _ h1 rfl
  ·have:=(hf r' o h1).1;omega
def ed:List bD->Int->Int
 |[],c=>c
 |x::l,c=>ed l (min (c+x.delete) 1099511627776)
def dg(n:Nat):List (Int×Int):=List.replicate n (2,0)
theorem v8(l:List bD)(x:bD)(c:Int):ed (l++[x]) c=min (ed l c+x.delete) 1099511627776:=by
 induction l generalizing c with
 |nil=>rfl
 |cons y l ih=>simp[ed,ih]
theorem oe{l:List bD}(h:∀c∈l,0<=c.delete):∀c,0<=c/\c<=1099511627776->0<=ed l c/\ed l c<=1099511627776:=by
 induction l with
 |nil=>intro c hc;exact hc
 |cons y l ih=>
  intro c hc;have:=h y (by simp);exact ih (λz hz=>h z (by simp[hz])) _ (by omega)
theorem LJ(l:List bD)(n:Nat):(ba l).take n=ba (l.take n):=by simp[ba,List.map_take]
theorem LK(l:List bD)(n:Nat):(ba l).drop n=ba (l.drop n):=by simp[ba,List.map_drop]
def ny(bC:List bD):Prop:=bC.length<=1000000/\∀c∈bC,0<=c.delete/\c.delete<=1099511627776
theorem t31{f:aU}{b m:Nat}{x:Input}{i j:Nat}{N:Nat}(hN:∀r,N<=r->f r=none)(hb:f b=some (.box (cu x m)))(Xx:i<=j)(hj:j<=x.aj.length)(hd:ny x.aj):
  aZ Tryz.prog 50 [.ptr b 0,.v (ti i),.v (ti j)] f ⟨True,.v (.eC [ti (ed ((x.aj.take j).drop i) 0),.sl (cT (dg (j-i)))]),f⟩:=by
 have aw:=dZ;refine c31.uM hN (by simp) λbj=>?_;have XE:b<N:=(bj b _ hb).1;obtain⟨part,tG⟩:∃p,(x.aj.take j).drop i=p:=⟨_,rfl⟩;have Qr:part.length=j-i:=by rw[<-tG];simp;omega
 have hpd:∀c∈part,0<=c.delete/\c.delete<=1099511627776:=λc hc=>hd.2 c (by rw[<-tG]at hc;exact Zav (Zbv hc));have Q2:((ba x.aj).take j).drop i=ba part:=by rw[LJ,LK,tG]
 have cU:∀r∈ba x.aj,r.length=3:=by intro r hr;simp only[ba,Zal]at hr;obtain⟨c,_,rfl⟩:=hr;rfl
 have hlen:=hd.1;rw[tG];clear tG;simp;refine aa.ab aw fw [0,1,2,7] ?_;simp[HH];refine aa.ab aw fw [0,1,2,8] ?_;simp[HI];refine aa.ab aw fw [0,1,2,8,9] ?_;simp[aeL];refine aa.seq ?_;refine aa.ab aw fw [8,9,19,20,21] ?_;simp[aeM,hb,cu,Xx,hj,Q2];refine⟨cU, ?_⟩;refine aa.le (Le.fp (l1:=[]) (l:=[(8,.v (ti 0)),(9,.aJ),(19,.v (.sl (ba part))),(20,.v (ti part.length)),(21,.v (ti 0))]) (nxt':=N+200) bj ?_ ?_ ?_ ?_ ?_) ?_
 ·omega
 ·simp
 ·simp[ca]
 ·simp[gS]
 ·simp
 refine aa.le (Le.ml (k:=9) 75 (sz:=2) (by omega) (by simp)) ?_;rw[kS];refine aa.block ?_;refine aa.loop (λy:Nat=>⟨DM.look [(8,.v (ti (ed (part.take y) 0))),(9,.bd (N+200) 0),(19,.v (.sl (ba part))),(20,.v (ti part.length)),(21,.v (ti y))],over [(N+200,.arr 0 75 2 (cT (dg y)))] f,N+300,N,[]⟩)
  (λy=>y<=part.length) (λy=>part.length-y) 0 (Le.fp bj ?_ ?_ ?_ ?_ ?_) (by simp) (λy hy=>?_)
 ·omega
 ·simp
 ·simp[ca]
 ·simp[gS,iv,dg,cT]
 ·simp[ed]
 refine aa.ab aw fw [8,9,19,20,21,22] ?_;simp[aeN];refine aa.seq ?_;have Dk:=oe (l:=part.take y) (λc hc=>(hpd c (Zav hc)).1) 0 (by omega);refine aa.cond rfl (λhc=>?_) (λhc=>?_)
 ·simp at hc;refine aa.skip ?_;simp;refine aa.seq ?_;refine aa.block ?_;refine aa.ab aw fw [8,9,11,19,20,21] ?_;have me:=dR hc;obtain⟨c,zz⟩:∃c,part[y]=c:=⟨_,rfl⟩;have Ez:c∈part:=by rw[<-zz];exact Zbj hc
  have XC:=hpd c Ez;have OE:part.take (y+1)=part.take y++[c]:=by rw[Zbw,Zan hc,zz];rfl
  simp[aeO,me,zz,hc,bD.enc];refine aa.ab aw fw [8,9,11,19,20,21] ?_;simp[aeP];rw[au (by omega)];refine aa.dc aw fw [8,9,19,20,21] ?_;simp[aeQ,cF,chunk];refine⟨by
    have:(dg y).length=y:=by simp[dg]
    omega, ?_⟩
  refine aa.dc aw fw [8,9,19,20,21] ?_;simp[aeR];refine⟨y+1,Le.fp bj ?_ ?_ ?_ ?_ ?_,by omega,by omega⟩
  ·omega
  ·simp
  ·simp[ca];omega
  ·simp[gS,iv,dg,cT,ZbR]
  ·simp[OE,v8];rw[au (by omega)]
 ·simp at hc;have tp:y=part.length:=by omega
  subst tp;refine aa.exit ?_;simp;refine aa.ab aw fw [6,7] ?_;simp[aeS];refine aa.le (Le.fp (l1:=[]) (l:=[(6,.v (ti (ed part 0))),(7,.v (.sl (cT (dg part.length))))]) (nxt':=N+1000) bj ?_ ?_ ?_ ?_ ?_) ?_
  ·omega
  ·simp
  ·simp[ca]
  ·simp[gS]
  ·simp;exact cW bj (by omega) (by simp)
  refine aa.ret ?_;simp[Bk,Qr];rfl
def b8(x:Input)(m:Nat):Bool:=
 decide (m+1<x.aj.length/\0<x.swap/\0<=(x.aj.getD m default).kind/\0<=(x.aj.getD (m+1) default).kind)
theorem t50{f:aU}{b m:Nat}{x:Input}{i:Nat}{N:Nat}(hN:∀r,N<=r->f r=none)(hb:f b=some (.box (cu x m)))(hi:i<=1000000)(hl:x.aj.length<=1000000):
  aZ Tryz.prog 75 [.ptr b 0,.v (ti i)] f ⟨True,.v (.bool (b8 x i)),f⟩:=by
 have aw:=dZ;refine c50.uM hN (by simp) λbj=>?_;simp;refine aa.ab aw fw [0,1,4] ?_;simp[ae2];refine aa.ab aw fw [0,1,5] ?_;simp[ae3,hb,cu];have hw:IntKind.i64.wrap ((i:Int)+1)=i+1:=au (by omega);refine aa.b7 aw fw [(4,.v (.bool (b8 x i)))] ?_ ?_
 ·by_cases h1:i+1<x.aj.length
  ·have lX:=dR (l:=x.aj) (y:=i) (by omega);have qa:DM.rowAt (ba x.aj) ((i:Int)+1)=(x.aj.getD (i+1) default).enc:=dR (l:=x.aj) h1;obtain⟨c1,aX⟩:∃c,x.aj.getD i default=c:=⟨_,rfl⟩;obtain⟨c2,dU⟩:∃c,x.aj.getD (i+1) default=c:=⟨_,rfl⟩;rw[aX]at lX;rw[dU]at qa;have OT:((i:Int)+1<x.aj.length)=True:=by simp;omega
   have hd2:((i:Int)<x.aj.length)=True:=by simp;omega
   have hd3:(0<=(i:Int)+1)=True:=by simp;omega
   have hd4:i<x.aj.length:=by omega
   have z8:b8 x i=(decide (0<x.swap)&&(decide (0<=c1.kind)&&decide (0<=c2.kind))):=by
    unfold b8;rw[aX,dU];simp[h1]
   by_cases s1:0<x.swap<;>by_cases s2:0<=c1.kind<;>by_cases s3:0<=c2.kind<;>simp[Vq,hb,cu,hw,lX,qa,OT,hd2,hd3,bD.enc,s1,s2,s3,z8]
  ·have OT:((i:Int)+1<x.aj.length)=False:=by simp;omega
   simp[Vq,hw,OT];simp[b8]
   intros;omega
 refine aa.ret ?_;simp[Vr];rfl
theorem Le.PH{tm:Nat->DV}{ob:aU}{nxt low:Nat}{td:List (List T)}{P:Program}{nt:Nat}{d:DC}{Q:Exit->lj->Prop}{k:Nat}(hk:tm k=.v (.sl []))
  (h:∀(p:Option Addr) (c:Nat),aa P nt d Q ⟨cd tm (some k) (.v (.raw (.slice p 0 c))),ob,nxt,low,td⟩):aa P nt d Q ⟨tm,ob,nxt,low,td⟩:=by
 refine⟨λc hc n κ a w L g r=>?_⟩;obtain⟨W,base,M,w0,dy,h0⟩:=r.r.ex;have hx:=h0.tmps k;simp only[hk,av,aS]at hx;have fJ:∃(p:Option Addr) (cp:Nat),a.tmps.getD k Go.undef=.slice p 0 cp:=by
  rcases hx with⟨_,p,cp,hx⟩|⟨b,o,cp,sz,hx,_⟩
  ·exact⟨p,cp,hx⟩
  ·exact⟨_,cp,hx⟩
 obtain⟨p,cp,hx⟩:=fJ;refine(h p cp).run c hc n κ a w L g ⟨⟨⟨W,base,M,w0,dy,h0.size,λt=>?_,h0.o⟩,r.r.ee,r.r.defers,r.r.bg,r.r.fin⟩,r.fresh,r.low,r.it⟩;simp only[cd];by_cases ht:t=k
 ·subst ht;simp only[if_true,av,aS];exact hx
 ·simp only[ht,if_false];exact h0.tmps t
theorem t49(l:List (Int×Int))(hl:l.length<=1000000):lQ Tryz.prog 74 [.sl (cT l)] 75 2 (cT l):=by
 have aw:=dZ;refine c49.okF (by simp) (aK ?_);simp;have cU:∀r∈cT l,r.length=2:=by intro r hr;simp only[cT,Zal]at hr;obtain⟨c,_,rfl⟩:=hr;rfl
 refine aa.ab aw fw [0,2] ?_;simp[ae0];cases l with
 |nil=>
  refine Le.PH (k:=0) (by simp[cT]) λp c=>?_;refine aa.seq ?_;refine aa.ab aw fw [0,2,4] ?_;simp[Vo];refine aa.cond rfl (λh=>?_) (λh=>?_)
  ·refine aa.ab aw fw [2] ?_;simp[ae1];refine aa.ret ?_;exact .inl ⟨by simp,by simp[cT],by omega⟩
  ·refine aa.skip ?_;simp;refine aa.ab aw fw [2] ?_;simp[Vp,cF];refine aa.ret ?_;exact .inr ⟨1026,0,by simp,by simp[cT]⟩
 |cons o l=>
  refine aa.seq ?_;refine aa.ab aw fw [0,2,4] ?_;simp[Vo];refine⟨by simp[cT], ?_⟩;refine aa.cond rfl (λh=>by cases h) (λh=>?_);refine aa.skip ?_;simp;refine aa.ab aw fw [2] ?_;simp[Vp,cF];refine⟨⟨cU,by simp at hl⊢;omega⟩, ?_⟩;refine aa.ret ?_;exact .inr ⟨1026,0,by simp,by simp⟩
variable [Laid]
theorem okE:ay Tryz.prog (aW []):=ay.nil
def qD(a b:Int):Int:=if a<b then-1 else if b<a then 1 else 0
def N0(l:List Int):Int:=(l.find? λx=>x !=0).getD 0
def dD(x y:List T):Int:=N0 [qD (cZ (x.getD 0 (ti 0))) (cZ (y.getD 0 (ti 0))),qD (cZ (x.getD 1 (ti 0))) (cZ (y.getD 1 (ti 0))),qD (cZ (x.getD 2 (ti 0))) (cZ (y.getD 2 (ti 0)))]
theorem t71(a:Int):aT Tryz.prog 106 [ti a] (.bool false):=by
 have aw:=okE;refine c71.ok (by simp) (aK ?_);simp;refine aa.ab aw fw [0] ?_;simp[afh];refine aa.ab aw fw [2] ?_;simp[afi];refine aa.ret ?_;simp[Vy]
abbrev spec71:DM.Spec:=cz (λts=>∃a,ts=[ti a]) (λ_=>.bool false) true
theorem ok71:ay Tryz.prog (aW [(106,spec71)]):=by
 refine ay.cons ay.nil ?_;rintro ts ⟨a,rfl⟩;exact⟨t71 a,λ_=>rfl⟩
theorem t54(a b:Int):aT Tryz.prog 79 [ti a,ti b] (ti (qD a b)):=by
 have aw:=ok71;refine c54.ok (by simp) (aK ?_);simp;refine aa.ab aw fw [0,1] ?_;simp[H9];refine aa.ab aw fw [0,1,5] ?_;simp[Ia];refine aa.ab aw fw [0,1,5,6] ?_;simp[afd];refine aa.seq ?_;refine aa.ab aw fw [0,1,6,11] ?_;simp[afe];refine aa.cond rfl (λh=>by cases h) (λh=>?_);refine aa.skip ?_;simp;refine aa.seq ?_;refine aa.ab aw fw [0,1,13] ?_;simp[aff];refine aa.cond rfl (λh=>by cases h) (λh=>?_);refine aa.skip ?_;simp;refine aa.seq ?_;refine aa.ab aw fw [0,1,16] ?_;simp[afg];refine aa.cond rfl (λh=>?_) (λh=>?_)
 ·simp at h;refine aa.ab aw fw [4] ?_;simp[Vu];refine aa.ret ?_;simp[xB,qD,h]
 ·simp at h;refine aa.skip ?_;simp;refine aa.seq ?_;refine aa.ab aw fw [0,1,19] ?_;simp[Vv];refine aa.cond rfl (λh2=>?_) (λh2=>?_)
  ·simp at h2;refine aa.ab aw fw [4] ?_;simp[Vw];refine aa.ret ?_;simp[xB,qD,h2,show ¬a<b by omega]
  ·simp at h2;refine aa.skip ?_;simp;refine aa.ab aw fw [4] ?_;simp[Vx];refine aa.ret ?_;simp[xB,qD,show ¬a<b by omega,show ¬b<a by omega]
theorem Wm{l:List Int}{y:Nat}(hy:y<l.length)(h:l.getD y default=0):N0 (l.drop y)=N0 (l.drop (y+1)):=by
 rw[ZbS hy];have:l[y]=0:=by simpa [List.getD,hy]using h
 simp[N0,this]
theorem YR{l:List Int}{y:Nat}(hy:y<l.length)(h:l.getD y default≠0):N0 (l.drop y)=l.getD y default:=by
 rw[ZbS hy];have e:l.getD y default=l[y]:=by simp[List.getD,hy]
 rw[e]at h⊢;simp only[N0,ZaO,Zbc,(bne_iff_ne (a:=l[y]) (b:=(0:Int))).2 h]
theorem t53(l:List Int)(hl:l.length<=1000000):aT Tryz.prog 78 [.sl (aC l)] (ti (N0 l)):=by
 have aw:=okE;refine c53.ok (by simp) (aK ?_);simp;refine aa.ab aw fw [0] ?_;simp[HL];refine aa.ab aw fw [0,3] ?_;simp[HM];refine aa.seq ?_;refine aa.ab aw fw [3,6,7,8] ?_;simp[HN];refine aa.block ?_;refine aa.loop (λy:Nat=>⟨DM.look [(3,.v (ti 0)),(6,.v (.sl (aC l))),(7,.v (ti l.length)),(8,.v (ti y))],cE [],2000,1000,[]⟩)
  (λy=>y<=l.length/\N0 (l.drop y)=N0 l) (λy=>l.length-y) 0 (Le.aD (o:=[]) ?_ ?_ ?_ ?_) (by simp) (λy hy=>?_)
 iterate 4(·simp)
 obtain⟨jV,fg⟩:=hy;refine aa.ab aw fw [3,6,7,8,9] ?_;simp[HO];refine aa.seq ?_;refine aa.cond rfl (λh=>?_) (λh=>?_)
 ·simp at h;refine aa.skip ?_;simp;refine aa.seq ?_;refine aa.block ?_;have hr:=cR h;obtain⟨p,hp⟩:∃p,l.getD y default=p:=⟨_,rfl⟩;rw[hp]at hr;refine aa.ab aw fw [3,5,6,7,8] ?_;simp[HP,hr,h];refine aa.ab aw fw [3,5,6,7,8,14] ?_;simp[HQ];refine aa.cond rfl (λh2=>?_) (λh2=>?_)
  ·simp at h2;refine aa.ab aw fw [2] ?_;simp[HR];refine aa.ret ?_;rw[YR h (by rw[hp];exact h2),hp]at fg;simp[Bm,fg]
  ·simp at h2;refine aa.skip ?_;simp;refine aa.dc aw fw [3,6,7,8] ?_;simp[HS];rw[au (by omega)];refine⟨y+1,Le.aD (o:=[]) ?_ ?_ ?_ ?_,⟨by omega, ?_⟩,by omega⟩;iterate 4(·simp)
   ·rw[<-fg,Wm h (by rw[hp];exact h2)]
 ·simp at h;refine aa.exit ?_;simp;refine aa.ab aw fw [2] ?_;simp[afc];refine aa.ret ?_;have:l.drop y=[]:=Zby (by omega);rw[this]at fg;simp only[Bm];rw[<-fg];simp[N0]
abbrev spec54:DM.Spec:=cz (λts=>∃a b,ts=[ti a,ti b]) (fun|[.int _ a,.int _ b]=>ti (qD a b)|_=>.bool false) true
abbrev spec53:DM.Spec:=cz (λts=>∃l:List Int,ts=[.sl (aC l)]/\l.length<=1000000) (fun|[.sl l]=>ti (N0 (fu l))|_=>.bool false) true
theorem ok54:ay Tryz.prog (aW [(79,spec54),(78,spec53)]):=by
 refine ay.cons (ay.cons ay.nil ?_) ?_
 ·rintro ts ⟨l,rfl,h⟩;have:=t53 l h;rw[<-IQ l]at this;exact⟨by simpa using t53 l h,λ_=>rfl⟩
 ·rintro ts ⟨a,b,rfl⟩;exact⟨t54 a b,λ_=>rfl⟩
theorem t33(a b c d e f:Int):aT Tryz.prog 52 [.agg [ti a,ti b,ti c],.agg [ti d,ti e,ti f]] (ti (N0 [qD a d,qD b e,qD c f])):=by
 have aw:=ok54;refine c33.ok (by simp) (aK ?_);simp;refine aa.ab aw fw [2,3] ?_;simp[HJ];refine aa.ab aw fw [4] ?_;simp[HK];refine⟨⟨[qD a d,qD b e,qD c f],rfl,by simp⟩, ?_⟩;refine aa.ret ?_;simp[Bl];rfl
def afn:List RO:=[
 o (.box (t 0)) 2 [],
 o (.bL (.cm (.v (.bool false)))) 4 []]
def yW:List RO:=[
 n 1 6,
 o (.bin .lss (t 6) (i 0)) 7 [0],
 m 7 8 [1],
 u 0 2 9 8 false [2],
 v 9 10 8 false [3,2],
 g (.len (t 10)) 11 8 false [4,2],
 g (.bin .gtr (t 11) (i 60)) 12 8 false [5,2],
 p 8 12 13 [2,6],
 m 13 14 [7,2],
 u 1 2 15 14 false [8],
 v 15 16 14 false [9,8],
 g (.len (t 16)) 17 14 false [10,8],
 w 1 18 14 false [8],
 g (.bin .neq (t 17) (t 18)) 19 14 false [11,12,8],
 p 14 19 20 [8,13],
 m 20 21 [14,8],
 u 2 2 22 21 false [15],
 v 22 23 21 false [16,15],
 g (.bin .lss (t 23) (i 0)) 24 21 false [17,15],
 p 21 24 25 [15,18],
 m 25 26 [19,15],
 u 2 2 27 26 false [20],
 v 27 28 26 false [21,20],
 g (.bin .gtr (t 28) (i 60000)) 29 26 false [22,20],
 p 26 29 30 [20,23],
 m 30 31 [24,20],
 u 0 2 32 31 false [25],
 v 32 33 31 false [26,25],
 w 1 34 31 false [25],
 g (.call 43 [(t 33),(t 34)]) 35 31 false [27,28,25,25],
 g (.un .not (t 35)) 36 31 false [29,25],
 p 31 36 37 [25,30]]
def afo:List RO:=[
 o (.bL (.cm (.v (.bool false)))) 4 []]
def afp:List RO:=[
 o (.bL (i 0)) 5 []]
def afq:List RO:=[
 n 5 38,
 n 1 39,
 b .lss 38 39 40 [0,1]]
def VB:List RO:=[
 a 1 2 43 [],
 l 43 44 [0],
 n 5 45,
 x 1 44 45 46 [1,2],
 l 46 47 [3],
 o (.bin .lss (t 47) (i 1)) 48 [4],
 m 48 49 [5],
 u 1 2 50 49 false [6],
 v 50 51 49 false [7,6],
 w 5 52 49 false [6],
 g (.idxAddr 1 (t 51) (t 52)) 53 49 false [8,9,6],
 v 53 54 49 false [10,6],
 g (.bin .gtr (t 54) (i 60000)) 55 49 false [11,6],
 p 49 55 56 [6,12]]
def afr:List RO:=[
 o (.bL (.cm (.v (.bool false)))) 4 []]
def afs:List RO:=[
 n 5 41,
 o (.bin .add (t 41) (i 1)) 42 [0],
 m 42 5 [1,0,1]]
def aft:List RO:=[
 o (.bL (.cm (.v (.bool true)))) 4 []]
def d28:DC:=(j (y afn)
 (j (j (y yW)
 (.cond (.tmp 37) (j (y afo)
 .ret)
 .skip))
 (j (j (y afp)
 (.block 0 (.loop (j (j (y afq)
 (.cond (.tmp 40) .skip
 (.exit 0)))
 (j (.block 1 (j (y VB)
 (.cond (.tmp 56) (j (y afr)
 .ret)
 .skip)))
 (y afs))))))
 (j (y aft)
 .ret))))
def FM:List bO:=[.slot 4]
theorem c28 [Laid]:aO Tryz.prog 21 57 d28 FM:=⟨Tryz.f21,by kernel_rfl,by kernel_rfl,by kernel_rfl,by kernel_rfl,by kernel_rfl⟩
def Hs:List RO:=[
 o (.bL (.cm (.v (.bool false)))) 4 []]
def Ba:List RO:=[
 o (.bL (i 0)) 5 []]
def Ht:List RO:=[
 n 5 6,
 n 0 7,
 o (.len (t 7)) 8 [1],
 b .lss 6 8 9 [0,2]]
def Hu:List RO:=[
 n 0 12,
 n 5 13,
 x 3 12 13 14 [0,1],
 L 3 14 15 [2],
 n 1 16,
 o (.call 65 [(t 15),(t 16)]) 17 [3,4],
 o (.un .not (t 17)) 18 [5]]
def Hv:List RO:=[
 o (.bL (.cm (.v (.bool false)))) 4 []]
def afu:List RO:=[
 n 5 10,
 o (.bin .add (t 10) (i 1)) 11 [0],
 m 11 5 [1,0,1]]
def afv:List RO:=[
 o (.bL (.cm (.v (.bool true)))) 4 []]
def d45:DC:=(j (y Hs)
 (j (j (y Ba)
 (.block 0 (.loop (j (j (y Ht)
 (.cond (.tmp 9) .skip
 (.exit 0)))
 (j (.block 1 (j (y Hu)
 (.cond (.tmp 18) (j (y Hv)
 .ret)
 .skip)))
 (y afu))))))
 (j (y afv)
 .ret)))
def uh:List bO:=[.slot 4]
theorem c45 [Laid]:aO Tryz.prog 43 19 d45 uh:=⟨Tryz.f43,by kernel_rfl,by kernel_rfl,by kernel_rfl,by kernel_rfl,by kernel_rfl⟩
def Ih:List RO:=[
 o (.box (t 0)) 2 [],
 o (.bL (.cm (.v (.bool false)))) 4 []]
def tB:List RO:=[
 a 0 2 7 [],
 l 7 8 [0],
 o (.bin .lss (t 8) (i (-1))) 9 [1],
 m 9 10 [2],
 u 0 2 11 10 false [3],
 v 11 12 10 false [4,3],
 w 1 13 10 false [3],
 g (.bin .geq (t 12) (t 13)) 14 10 false [5,6,3],
 p 10 14 15 [3,7],
 m 15 16 [8,3],
 u 1 2 17 16 false [9],
 v 17 18 16 false [10,9],
 g (.len (t 18)) 19 16 false [11,9],
 w 1 20 16 false [9],
 g (.bin .neq (t 19) (t 20)) 21 16 false [12,13,9],
 p 16 21 22 [9,14],
 m 22 23 [15,9],
 u 2 2 24 23 false [16],
 v 24 25 23 false [17,16],
 g (.bin .lss (t 25) (i 1)) 26 23 false [18,16],
 p 23 26 27 [16,19],
 m 27 28 [20,16],
 u 2 2 29 28 false [21],
 v 29 30 28 false [22,21],
 g (.bin .gtr (t 30) (i 60000)) 31 28 false [23,21],
 w 31 32 28 false [24,21,21],
 u 2 2 33 32 true [25],
 v 33 34 32 true [26,25],
 g (.bin .neq (t 34) (i 1099511627776)) 35 32 true [27,25],
 g (.pick (t 32) (t 35) (.cm (.v (.bool false)))) 36 28 false [25,28,21],
 p 28 36 37 [21,29]]
def NL:List RO:=[
 o (.bL (.cm (.v (.bool false)))) 4 []]
def DB:List RO:=[
 o (.bL (i 0)) 5 []]
def afw:List RO:=[
 n 5 38,
 n 1 39,
 b .lss 38 39 40 [0,1]]
def afx:List RO:=[
 a 1 2 43 [],
 l 43 44 [0],
 n 5 45,
 x 1 44 45 46 [1,2],
 l 46 47 [3],
 m 47 6 (k [4] 4)]
def BN:List RO:=[
 n 5 48,
 a 0 2 49 [],
 l 49 50 [1],
 b .eql 48 50 51 [0,2],
 m 51 52 [3],
 w 6 53 52 true [4],
 g (.bin .neq (t 53) (i 0)) 54 52 true [5,4],
 q 52 54 55 [4,6],
 m 55 56 [7,4],
 w 5 57 56 false [8],
 u 0 2 58 56 false [8],
 v 58 59 56 false [10,8],
 g (.bin .neq (t 57) (t 59)) 60 56 false [9,11,8],
 w 60 61 56 false [12,8,8],
 w 6 62 61 true [13],
 g (.bin .neq (t 62) (i (-1))) 63 61 true [14,13],
 g (.pick (t 61) (t 63) (.cm (.v (.bool false)))) 64 56 false [13,15,8],
 w 64 65 56 false [16,13,8],
 w 6 66 65 true [17],
 g (.bin .lss (t 66) (i 1)) 67 65 true [18,17],
 w 67 68 65 true [19,17,17],
 w 6 69 68 false [20],
 g (.bin .gtr (t 69) (i 60000)) 70 68 false [21,20],
 g (.pick (t 68) (.cm (.v (.bool true))) (t 70)) 71 65 true [20,22,17],
 g (.pick (t 65) (t 71) (.cm (.v (.bool false)))) 72 56 false [17,23,8],
 p 56 72 73 [8,24]]
def afy:List RO:=[
 o (.bL (.cm (.v (.bool false)))) 4 []]
def afz:List RO:=[
 n 5 41,
 o (.bin .add (t 41) (i 1)) 42 [0],
 m 42 5 [1,0,1]]
def afA:List RO:=[
 o (.bL (.cm (.v (.bool true)))) 4 []]
def d58:DC:=(j (y Ih)
 (j (j (y tB)
 (.cond (.tmp 37) (j (y NL)
 .ret)
 .skip))
 (j (j (y DB)
 (.block 0 (.loop (j (j (y afw)
 (.cond (.tmp 40) .skip
 (.exit 0)))
 (j (.block 1 (j (y afx)
 (j (y BN)
 (.cond (.tmp 73) (j (y afy)
 .ret)
 .skip))))
 (y afz))))))
 (j (y afA)
 .ret))))
def rW:List bO:=[.slot 4]
theorem c58 [Laid]:aO Tryz.prog 65 74 d58 rW:=⟨Tryz.f65,by kernel_rfl,by kernel_rfl,by kernel_rfl,by kernel_rfl,by kernel_rfl⟩
def Hz:List RO:=[
 o (.box (t 0)) 2 [],
 o (.box (t 1)) 3 [],
 o (.bL (.cm (.v (.bool false)))) 4 []]
def mY:List RO:=[
 a 0 2 5 [],
 l 5 6 [0],
 a 0 3 7 [],
 l 7 8 [2],
 b .neq 6 8 9 [1,3]]
def HA:List RO:=[
 a 0 2 10 [],
 l 10 11 [0],
 a 0 3 12 [],
 l 12 13 [2],
 b .lss 11 13 14 [1,3],
 m 14 4 (k [4] 4)]
def HB:List RO:=[
 a 1 2 15 [],
 l 15 16 [0],
 a 1 3 17 [],
 l 17 18 [2],
 b .neq 16 18 19 [1,3]]
def HC:List RO:=[
 a 1 2 20 [],
 l 20 21 [0],
 a 1 3 22 [],
 l 22 23 [2],
 b .lss 21 23 24 [1,3],
 m 24 4 (k [4] 4)]
def HD:List RO:=[
 a 2 2 25 [],
 l 25 26 [0],
 a 2 3 27 [],
 l 27 28 [2],
 b .lss 26 28 29 [1,3],
 m 29 4 (k [4] 4)]
def d39:DC:=(j (y Hz)
 (j (j (y mY)
 (.cond (.tmp 9) (j (y HA)
 .ret)
 .skip))
 (j (j (y HB)
 (.cond (.tmp 19) (j (y HC)
 .ret)
 .skip))
 (j (y HD)
 .ret))))
def kT:List bO:=[.slot 4]
theorem c39 [Laid]:aO Tryz.prog 47 30 d39 kT:=⟨Tryz.f47,by kernel_rfl,by kernel_rfl,by kernel_rfl,by kernel_rfl,by kernel_rfl⟩
def H0:List RO:=[
 o (.bL (i 0)) 4 []]
def vJ:List RO:=[
 n 0 5,
 o (.bin .geq (t 5) (i 1099511627776)) 6 [0],
 m 6 7 [1],
 w 1 8 7 false [2],
 g (.bin .geq (t 8) (i 1099511627776)) 9 7 false [3,2],
 p 7 9 10 [2,4],
 m 10 11 [5,2],
 w 0 12 11 false [6],
 w 1 13 11 false [6],
 g (.bin .add (t 12) (t 13)) 14 11 false [7,8,6],
 g (.bin .geq (t 14) (i 1099511627776)) 15 11 false [9,6],
 p 11 15 16 [6,10]]
def H2:List RO:=[
 o (.bL (i 1099511627776)) 4 []]
def H3:List RO:=[
 n 0 17,
 n 1 18,
 b .add 17 18 19 [0,1],
 m 19 4 [2,0,1,2]]
def d36:DC:=(j (y H0)
 (j (j (y vJ)
 (.cond (.tmp 16) (j (y H2)
 .ret)
 .skip))
 (j (y H3)
 .ret)))
def rV:List bO:=[.slot 4]
theorem c36 [Laid]:aO Tryz.prog 28 20 d36 rV:=⟨Tryz.f28,by kernel_rfl,by kernel_rfl,by kernel_rfl,by kernel_rfl,by kernel_rfl⟩
def GF(s aV:Int)(a:bn):Prop:=¬(a.f<0\/a.f>a.t\/a.t>=s\/a.term<0\/a.term>=aV\/a.cost<0\/a.cost>=1099511627776\/(a.f=a.t/\a.cost=0))
instance(s aV:Int)(a:bn):Decidable (GF s aV a):=by unfold GF;infer_instance
def before(a b:bn):Prop:=a.f<b.f\/(a.f=b.f/\(a.t<b.t\/(a.t=b.t/\a.term<b.term)))
instance(a b:bn):Decidable (before a b):=by unfold before;infer_instance
def MR(f:List Int)(i:Nat):Prop:=0<=f.getD i default/\f.getD i default<=1099511627776
def LW(l:aM)(aV:Int)(i:Nat):Prop:=GF l.aN aV (l.aF.getD i default)/\(i=0\/before (l.aF.getD (i-1) default) (l.aF.getD i default))
def qP(l:aM)(aV:Int):Prop:=(1<=l.aN/\(l.final.length:Int)=l.aN)/\(∀i,i<l.final.length->MR l.final i)/\∀i,i<l.aF.length->LW l aV i
instance(f:List Int)(i:Nat):Decidable (MR f i):=by unfold MR;infer_instance
instance(l:aM)(aV:Int)(i:Nat):Decidable (LW l aV i):=by unfold LW;infer_instance
instance(l:aM)(aV:Int):Decidable (qP l aV):=by unfold qP;infer_instance
theorem t39(a b:bn):aT Tryz.prog 47 [.agg a.enc,.agg b.enc] (.bool (decide (before a b))):=by
 have aw:=okE;obtain⟨v,hv⟩:∃v,decide (before a b)=v:=⟨_,rfl⟩;rw[hv];refine c39.ok (by simp) (aK ?_);simp[bn.enc];refine aa.ab aw fw [2,3] ?_;simp[Hz];refine aa.seq ?_;refine aa.ab aw fw [2,3,9] ?_;simp[mY];refine aa.cond rfl (λh=>?_) (λh=>?_)
 ·simp at h;refine aa.ab aw fw [4] ?_;simp[HA];refine aa.ret ?_;simp[kT,<-hv,before,h]
 ·simp at h;refine aa.skip ?_;simp;refine aa.seq ?_;refine aa.ab aw fw [2,3,19] ?_;simp[HB];refine aa.cond rfl (λh2=>?_) (λh2=>?_)
  ·simp at h2;refine aa.ab aw fw [4] ?_;simp[HC];refine aa.ret ?_;simp[kT,<-hv,before,h,h2]
  ·simp at h2;refine aa.skip ?_;simp;refine aa.ab aw fw [4] ?_;simp[HD];refine aa.ret ?_;simp[kT,<-hv,before,h,h2]
abbrev spec39:DM.Spec:=cz (λts=>∃a b:bn,ts=[.agg a.enc,.agg b.enc]) (fun|[.agg x,.agg y]=>.bool (decide (before (lT x) (lT y)))|_=>.bool false) true
theorem ok39:ay Tryz.prog (aW [(47,spec39)]):=by
 refine ay.cons ay.nil ?_;rintro ts ⟨a,b,rfl⟩;exact⟨by simpa using t39 a b,λ_=>rfl⟩
theorem xS{n:Int}(h:0<=n/\n<18446744073709551616):IntKind.u64.wrap n=n:=by
 unfold IntKind.wrap;simp[IntKind.bits,IntKind.signed];omega
theorem LR{n:Nat}(h:n<4294967296):n % 2^IntKind.u64.bits&&&4294967295 % 2^IntKind.u64.bits=n:=by
 have e:IntKind.u64.bits=64:=rfl;rw[e,Zck (show n<2^64 by omega),show 4294967295 % 2^64=2^32-1 by decide,Nat.and_two_pow_sub_one_eq_mod,Zck (by omega)]
theorem t60(x y:Nat)(hx:x<4294967296)(hy:y<4294967296):aT Tryz.prog 95 [.int .u64 x,.int .u64 y] (.eC [.int .u64 0,.int .u64 ((x*y:Nat):Int)]):=by
 have aw:=okE;refine c60.ok (by simp) (aK ?_);simp;refine aa.ab aw fw [0,1] ?_;simp[Ib];obtain⟨p,hp⟩:∃p,x*y=p:=⟨_,rfl⟩;have Qt:p<18446744073709551616:=by
  rw[<-hp]
  calc x*y<=4294967295*4294967295:=ZcS (by omega) (by omega)
   _<_:=by decide
 have hpi:(x:Int)*y=p:=by rw[<-hp];simp
 have e1:=xS (n:=x) (by omega);have e2:=xS (n:=y) (by omega);have e3:=xS (n:=p) (by omega);have b:IntKind.u64.bits=64:=rfl;have e0:IntKind.u64.wrap 0=0:=rfl;have d1:(x:Int)/4294967296=0:=by omega
 have d2:(y:Int)/4294967296=0:=by omega
 have d3:(p:Int)/4294967296<4294967296:=by omega
 obtain⟨q,hq⟩:∃q:Nat,(p:Int)/4294967296=q:=⟨p/4294967296,by omega⟩;have hqb:q<4294967296:=by omega
 have e4:=xS (n:=q) (by omega);have d4:(q:Int)/4294967296=0:=by omega
 rw[hpi];refine aa.ab aw fw [0,1,6] ?_;simp[yR,LR hx,e1];refine aa.ab aw fw [0,1,6,7] ?_;simp[Ic,b,d1];refine aa.ab aw fw [0,1,6,7,8] ?_;simp[Ie,LR hy,e2];refine aa.ab aw fw [0,1,6,7,8,9] ?_;simp[NH,b,d2];refine aa.ab aw fw [0,1,6,7,8,9,10] ?_;simp[NI,hpi,e3];refine aa.ab aw fw [0,1,6,7,8,9,10,11] ?_;simp[afj,e0,b,hq,e4];refine aa.ab aw fw [0,1,6,7,8,9,10,11,12] ?_;simp[afk,LR hqb,e4];refine aa.ab aw fw [0,1,6,7,8,9,10,11,12,13] ?_;simp[afl,b,d4];refine aa.ab aw fw [0,1,6,7,8,9,10,11,12,13] ?_;simp[afm,e0,e4];refine aa.ab aw fw [0,1,4] ?_;simp[Vz,e0,b,d4];refine aa.ab aw fw [4,5] ?_;simp[VA,hpi,e3];refine aa.ret ?_;simp[ui]
abbrev spec60:DM.Spec:=cz (λts=>∃x y:Nat,ts=[.int .u64 x,.int .u64 y]/\x<4294967296/\y<4294967296) (fun|[.int _ x,.int _ y]=>.eC [.int .u64 0,.int .u64 (x*y)]|_=>.bool false) false
theorem ok60:ay Tryz.prog (aW [(95,spec60)]):=by
 refine ay.cons ay.nil ?_;rintro ts ⟨x,y,rfl,h1,h2⟩;exact⟨by simpa using t60 x y h1 h2,λh=>by cases h⟩
theorem t46(x y:Nat)(hx:x<4294967296)(hy:y<4294967296):aT Tryz.prog 71 [.int .u64 x,.int .u64 y] (.eC [.int .u64 0,.int .u64 ((x*y:Nat):Int)]):=by
 have aw:=ok60;refine c46.ok (by simp) (aK ?_);simp;refine aa.ab aw fw [0,1] ?_;simp[Hw];refine aa.seq ?_;refine aa.cond rfl (λh=>by cases h) (λh=>?_);refine aa.skip ?_;simp;refine aa.ab aw fw [8,9] ?_;simp[Hx];refine⟨⟨x,y,⟨rfl,rfl⟩,hx,hy⟩, ?_⟩;refine aa.ab aw fw [4,5] ?_;simp[Hy];refine aa.ret ?_;simp[pO]
abbrev spec46:DM.Spec:=cz (λts=>∃x y:Nat,ts=[.int .u64 x,.int .u64 y]/\x<4294967296/\y<4294967296) (fun|[.int _ x,.int _ y]=>.eC [.int .u64 0,.int .u64 (x*y)]|_=>.bool false) false
theorem ok46:ay Tryz.prog (aW [(71,spec46)]):=by
 refine ay.cons ay.nil ?_;rintro ts ⟨x,y,rfl,h1,h2⟩;exact⟨by simpa using t46 x y h1 h2,λh=>by cases h⟩
theorem t29(v:Int)(n:Nat)(h1:1<=n)(hn:n<=10000000):lQ Tryz.prog 48 [.sl (aC [v]),ti n] 3 1 (aC (List.replicate n v)):=by
 have aw:=ok46;refine c29.okF (by simp) (aK ?_);simp;refine aa.ab aw fw [0,1] ?_;simp[ae4];refine aa.seq ?_;refine aa.ab aw fw [0,1,10] ?_;simp[ae5];refine aa.cond rfl (λh=>by simp at h;omega) (λh=>?_);refine aa.skip ?_;simp;have e1:=xS (n:=1) (by omega);have e2:=xS (n:=n) (by omega);refine aa.ab aw fw [0,1,5,6] ?_;simp[ae6,e1,e2];refine⟨⟨1,n,⟨rfl,rfl⟩,by omega,by omega⟩, ?_⟩;refine aa.seq ?_;refine aa.ab aw fw [0,6,26] ?_;simp[ae7];refine aa.cond rfl (λh=>by simp at h;omega) (λh=>?_);refine aa.skip ?_;simp;refine aa.ab aw fw [0,7] ?_;have w1:IntKind.i64.wrap (n:Int)=n:=au (by omega);simp[ae8,w1];refine⟨by simp[cF];omega, ?_⟩;refine aa.ab aw fw [7,8] ?_;have hrp:∀(k:Nat),aC [v]=[[ti v]]:=λ_=>rfl;obtain⟨n',rfl⟩:∃n',n=n'+1:=⟨n-1,by omega⟩;simp[ae9,aC,Za6];refine aa.seq ?_;refine aa.block ?_;refine aa.loop (λy:Nat=>⟨DM.look [(7,.bd 1227 0),(8,.v (ti (y+1:Nat)))],cE [(1227,.arr 0 3 1 (List.replicate (y+1) [ti v]++List.replicate (n'-y) [ti 0]))],3000,1000,[]⟩)
  (λy=>y<=n') (λy=>n'-y) 0 (Le.aD ?_ ?_ ?_ ?_) (by simp) (λy hy=>?_)
 iterate 4(·simp)
 refine aa.seq ?_;refine aa.ab aw fw [7,8,37] ?_;simp[afa];refine aa.cond rfl (λh=>?_) (λh=>?_)
 ·simp at h;refine aa.skip ?_;simp;refine aa.block ?_;refine aa.dc aw fw [7,8] ?_;have q1:((y:Int)+1<=(y:Int)+1+((n'-y:Nat):Int))=True:=by simp;omega
  simp[afb,q1];obtain⟨k,hk⟩:∃k,min (n'-y) (y+1)=k:=⟨_,rfl⟩;have k1:min ((↑y+1+((n'-y:Nat):Int)).toNat-(y+1)) (y+1)=k:=by omega
  have k2:min (y+1) ((↑y+1+((n'-y:Nat):Int)).toNat-(y+1))=k:=by omega
  rw[k1,k2];have e:List.drop (y+1+k) (List.replicate (y+1) [ti v]++List.replicate (n'-y) [ti 0])=List.replicate (n'-(y+k)) [ti 0]:=by
   rw[List.drop_append];simp;omega
  rw[e];refine⟨by omega,y+k,Le.aD ?_ ?_ ?_ ?_,by omega,by omega⟩
  ·simp
  ·simp
  ·simp;omega
  ·simp;rw[au (by omega)];omega
 ·simp at h;have:y=n':=by omega
  subst this;refine aa.exit ?_;simp;refine aa.ab aw fw [4] ?_;simp[Vt];refine aa.ret ?_;exact .inr ⟨1227,0,by simp,by simp[Za6]⟩
def afL(ts:List T):Prop:=∃(v:Int) (n:Nat),ts=[.sl (aC [v]),ti n]/\1<=n/\n<=10000000
def fn29:List T->List (List T)
 |[.sl [[v]],.int _ n]=>List.replicate n.toNat [v]
 |_=>[]
theorem I1(l:List Int)(i:Nat)(v:Int):(aC l).set i [ti v]=aC (l.set i v):=by simp[aC,ZbJ]
def jK(a b:Int):Int:=if 1099511627776<=a\/1099511627776<=b\/1099511627776<=a+b then 1099511627776 else a+b
theorem t36(a b:Int)(ha: -1000000000000000000<=a)(hb: -1000000000000000000<=b):aT Tryz.prog 28 [ti a,ti b] (ti (jK a b)):=by
 have aw:=okE;refine c36.ok (by simp) (aK ?_);simp;refine aa.ab aw fw [0,1] ?_;simp[H0];refine aa.seq ?_;refine aa.b7 aw fw [(0,.v (ti a)),(1,.v (ti b)),(16,.v (.bool (decide (1099511627776<=a\/1099511627776<=b\/1099511627776<=a+b))))] ?_ ?_
 ·by_cases q1:1099511627776<=a
  ·simp[vJ,q1]
  ·by_cases q2:1099511627776<=b
   ·simp[vJ,q1,q2]
   ·have w:IntKind.i64.wrap (a+b)=a+b:=au (by omega);by_cases q3:1099511627776<=a+b
    ·simp[vJ,q1,q2,w,q3]
    ·simp[vJ,q1,q2,w,q3]
 refine aa.cond rfl (λh=>?_) (λh=>?_)
 ·simp only[decide_eq_true_eq]at h;refine aa.ab aw fw [4] ?_;simp[H2];refine aa.ret ?_;simp[rV,jK,h]
 ·simp only[decide_eq_false_iff_not]at h;refine aa.skip ?_;simp;refine aa.ab aw fw [4] ?_;simp[H3];refine aa.ret ?_;rw[au (by omega)];simp only[jK,h,if_false];simp[rV]
abbrev Wr:DM.Spec:=cz (λts=>∃a b:Int,ts=[ti a,ti b]/\-1000000000000000000<=a/\-1000000000000000000<=b) (fun|[.int _ a,.int _ b]=>ti (jK a b)|_=>.bool false) true
theorem YW:ay Tryz.prog (aW [(28,Wr)]):=by
 refine ay.cons ay.nil ?_;rintro ts ⟨a,b,rfl,h1,h2⟩;exact⟨t36 a b h1 h2,λ_=>rfl⟩
end Go.Proofs
namespace Go.Proofs
open Go.DM
end Go.Proofs
