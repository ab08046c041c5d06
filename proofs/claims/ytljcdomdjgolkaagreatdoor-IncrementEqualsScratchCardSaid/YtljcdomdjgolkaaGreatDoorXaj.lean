/- Part of the proof. Conditions: none. -/
import Derived.Test.YtljcdomdjgolkaaGreatDoorXai
import Derived.Test.YtljcdomdjgolkaaGreatDoorXag
import Derived.Deep.Strs
import Derived.Lib.LaidTab
import Derived.Test.YtljcdomdjgolkaaGreatDoorXah
import Derived.Test.YtljcdomdjgolkaaGreatDoorXad
import Derived.Test.YtljcdomdjgolkaaGreatDoorXae
set_option linter.unusedSectionVars false
set_option linter.unusedSimpArgs false
set_option linter.unusedVariables false
set_option maxHeartbeats 8000000
set_option maxRecDepth 20000
namespace Go.Proofs
namespace cC
open Go.DM
structure Sim(l l':aM)(s t s':Nat):Prop where
 aF:∀f to e c:Int,s<=f->to<=t->((t:Int) % 2=0->to≠t-1)->(j9 l.aF f to e c↔j9 l'.aF (f-s+s') (to-s+s') e c)
 gap:(t:Int) % 2=0->∀to e c:Int,j9 l.aF (t-1) to e c->t<to
theorem no_der{n:aH}{l:aM}{h:Int}{p q k:Nat}{g:Int}{v:br}(d:eQ n l h p q k g v)(ha:∀a∈l.aF,a.f<=a.t):(∀to e c:Int,j9 l.aF p to e c->q<to)->p=q:=by
 induction d with
 |empty _ _ _=>intro _;rfl
 | @term s t k a r x hk h1 hx h2 h3 h4 hv=>
  intro uL;have:=uL x.t x.term x.cost ⟨x,Zaq hx,h2,rfl,rfl,rfl⟩;omega
 |unary _ _ _ _ ih=>exact ih
 | @binary s m t k k1 k2 g1 g2 r v w hk h1 hs ht d1 d2 hv ih1 OX=>
  intro uL;have e:s=m:=ih1 λto e c h=>by have:=uL to e c h;omega
  subst e;exact OX uL
theorem NS{n:aH}{l l':aM}{s t s':Nat}(S:Sim l l' s t s')(ha:∀a∈l.aF,a.f<=a.t){h:Int}{p q k:Nat}{g:Int}{v:br}(d:eQ n l h p q k g v):
  s<=p->q<=t->((t:Int) % 2=0->(q:Int)≠t-1)->∃g',eQ n l' h (p-s+s') (q-s+s') k g' v/\((∀r,n.rules[k]? =some r->r.kind≠2)->g'=g-s+s'):=by
 induction d with
 | @empty s0 k r hk h1 hv=>
  intro a1 a2 a3;exact⟨_,eQ.empty hk h1 hv,λ_=>by omega⟩
 | @term s0 t0 k a r x hk h1 hx h2 h3 h4 hv=>
  intro a1 a2 a3;obtain⟨x',hm,e1,e2,e3,e4⟩:=(S.aF x.f x.t x.term x.cost (by omega) (by omega) (by rw[h3];exact a3)).1 ⟨x,Zaq hx,rfl,rfl,rfl,rfl⟩;obtain⟨a',ha'⟩:=List.mem_iff_getElem?.1 hm;have hle:=ha x (Zaq hx);refine⟨(a':Int), ?_,λbH=>absurd h1 (bH r hk)⟩;have:=eQ.term (n:=n) (l:=l') (s:=s0-s+s') (t:=t0-s+s') hk h1 ha' (by omega) (by omega) (by rw[e3];exact h4) (by rw[e4];exact hv);rw[e4]at this;exact this
 | @unary s0 t0 k k1 g1 r v hk h1 d hv ih=>
  intro a1 a2 a3;obtain⟨g',d',_⟩:=ih a1 a2 a3;exact⟨_,eQ.unary hk h1 d' hv,λ_=>by omega⟩
 | @binary s0 m t0 k k1 k2 g1 g2 r v w hk h1 hs ht d1 d2 hv ih1 OX=>
  intro a1 a2 a3;have hm:(t:Int) % 2=0->(m:Int)≠t-1:=by
   intro e1 e2;have e3:t0=t:=by have:=a3 e1;omega
   have:=no_der d2 ha λto e c hx=>by
    rw[e2]at hx;have:=S.gap e1 to e c hx;omega
   omega
  obtain⟨g1',d1',_⟩:=ih1 a1 (by omega) hm;obtain⟨g2',d2',_⟩:=OX (by omega) a2 a3;exact⟨_,eQ.binary hk h1 (by omega) (by omega) d1' d2' hv,λ_=>by omega⟩
theorem US{n:aH}{l l':aM}{s t s' t':Nat}(kx:s<=t)(et:t'=t-s+s')(S:Sim l l' s t s')(S':Sim l' l s' t' s)(ha:∀a∈l.aF,a.f<=a.t)(ha':∀a∈l'.aF,a.f<=a.t){h:Int}{x y:Cell}
  (hx:Good n l h s t x) (hy:Good n l' h s' t' y):x.val=y.val/\x.ez=y.ez/\(∀(k:Nat) r,n.rules[k]? =some r->x.ez=k->r.kind≠2->y.arg=x.arg-s+s'):=by
 have fwd:∀{k:Nat} {g:Int} {v:br},eQ n l h s t k g v->∃g',eQ n l' h s' t' k g' v/\((∀r,n.rules[k]? =some r->r.kind≠2)->g'=g-s+s'):=by
  intro k g v d;have:=NS S ha d (Zae _) (Zae _) (by omega);rw[show s-s+s'=s' by omega,<-et]at this;exact this
 have bwd:∀{k:Nat} {g:Int} {v:br},eQ n l' h s' t' k g v->∃g',eQ n l h s t k g' v/\((∀r,n.rules[k]? =some r->r.kind≠2)->g'=g-s'+s):=by
  intro k g v d;have:=NS S' ha' d (Zae _) (Zae _) (by omega);rw[show s'-s'+s=s by omega,show t'-s'+s=t by omega]at this;exact this
 have aer:∀{v:br},v.cost<1099511627776->v.lt fc.val:=λh=>.inl h;rcases hx.top with ex|⟨⟨k,ek,d⟩,ET⟩
 ·rcases hy.top with ey|⟨⟨k',_,d'⟩,_⟩
  ·subst ex ey;refine⟨rfl,rfl,λk r _ h _=>?_⟩;simp only[fc]at h;omega
  ·obtain⟨g',d2,_⟩:=bwd d';subst ex;exact absurd (aer d2.fin) (hx.least _ ⟨_,_,d2⟩)
 ·obtain⟨g',d2,hg⟩:=fwd d;rcases hy.top with ey|⟨⟨k',ek',d'⟩,hmin'⟩
  ·subst ey;exact absurd (aer d2.fin) (hy.least _ ⟨_,_,d2⟩)
  ·obtain⟨g2',d2',hg'⟩:=bwd d';have hv:x.val=y.val:=br.antisymm (hy.least _ ⟨_,_,d2⟩) (hx.least _ ⟨_,_,d2'⟩);have m1:=ET k' g2' (by rw[hv];exact d2');have m2:=hmin' k g' (by rw[<-hv];exact d2);unfold vQ at m1 m2;have er:x.ez=y.ez:=by omega
   refine⟨hv,er,λk0 r wI e0 bH=>?_⟩;have ekk:k=k0:=by omega
   have ekk':k'=k0:=by omega
   subst ekk ekk';have h1:=hg λr' ff=>by rw[wI]at ff;cases ff;exact bH
   have h2:=hg' λr' ff=>by rw[wI]at ff;cases ff;exact bH
   omega
theorem NT{x x':Input}{a b w:Nat}(h:Px x x' a b w){s t:Nat}(hs:2*a<=s)(hT:t<=2*(a+w))(hr:reach x x' a b w t):Sim (aA x) (aA x') s t (s+2*b-2*a):=by
 refine⟨λf to e c h1 h2 h3=>?_,λhe to e c hx=>?_⟩
 ·have:=Yz h (T:=t) (by omega) hr (f:=f) (t:=to) (e:=e) (c:=c) (by omega) h2 h3;rw[show f-(s:Int)+((s+2*b-2*a:Nat):Int)=f+2*b-2*a by omega,show to-(s:Int)+((s+2*b-2*a:Nat):Int)=to+2*b-2*a by omega];exact this
 ·have:=YA hx (by omega);omega
theorem oa{x:Input}(h:gX x):∀a∈(aA x).aF,a.f<=a.t:=by
 intro a ha;have:=(vW x a.f a.t a.term a.cost).1 ((pT x _ _ _ _).1 ⟨a,ha,rfl,rfl,rfl,rfl⟩).1;rcases this with⟨i,m,k,_,_,_,_,h1,h2,_⟩|⟨i,m,_,_,h1,h2,_⟩|⟨i,_,h1,h2,_⟩|⟨i,m,k,_,_,_,h1,h2,_⟩<;>omega
theorem DK{n:aH}{x x':Input}{a b w:Nat}(hn:nF n)(hx:gX x)(fJ:gX x')(h:Px x x' a b w){hd:Int}{s t:Nat}(h0:0<=hd)(h1:hd<n.an)(kx:s<=t)(hs:2*a<=s)(hT:t<=2*(a+w))(hr:reach x x' a b w t):
  ∃k,k=t+2*b-2*a/\(lN (bR n (aA x)) hd s t).val=(lN (bR n (aA x')) hd (s+2*b-2*a:Nat) k).val/\(lN (bR n (aA x)) hd s t).ez=(lN (bR n (aA x')) hd (s+2*b-2*a:Nat) k).ez/\
   (∀(k0:Nat) r,n.rules[k0]? =some r->(lN (bR n (aA x)) hd s t).ez=k0->r.kind≠2->(lN (bR n (aA x')) hd (s+2*b-2*a:Nat) k).arg=(lN (bR n (aA x)) hd s t).arg+2*b-2*a):=by
 obtain⟨t',ht'⟩:∃t',t+2*b-2*a=t':=⟨_,rfl⟩;have l1:=h.l1;have l2:=h.l2;have S:=NT h hs hT hr;have S':=NT h.symm (s:=s+2*b-2*a) (t:=t') (by omega) (by omega) (by have:=reach.symm hr;rw[show((t:Int)+2*b-2*a)=(t':Int)by omega]at this;exact this);rw[show s+2*b-2*a+2*a-2*b=s by omega]at S';have JS:(aA x).aN=2*x.aj.length+1:=rfl;have JN:(aA x').aN=2*x'.aj.length+1:=rfl;have g1:=kX hn (j7 hx) (oa hx) h0 h1 kx (by omega);have g2:=kX hn (j7 fJ) (oa fJ) h0 h1 (s:=s+2*b-2*a) (t:=t') (by omega) (by omega);obtain⟨r1,r2,r3⟩:=US kx (by omega) S S' (oa hx) (oa fJ) g1 g2;refine⟨t',ht'.symm,r1,r2,λk0 r hk he bH=>?_⟩;have:=r3 k0 r hk he bH;omega
theorem IH{α:Type}{d:α}{a b:List α}{i:Nat}:(a++b).getD i d=if i<a.length then a.getD i d else b.getD (i-a.length) d:=by
 simp only[List.getD,Zb9];split<;>rfl
theorem xJ{x:Input}{fr od:Nat}{new:List bD}(h1:fr<=x.aj.length)(h2:od<=x.aj.length-fr):(cA x fr od new).aj.length=x.aj.length-od+new.length:=by
 simp only[cA,ZaB,Zaw,Za8];omega
theorem Lu{x:Input}{fr od:Nat}{new:List bD}(h1:fr<=x.aj.length)(h2:od<=x.aj.length-fr):Px x (cA x fr od new) 0 0 fr:=by
 refine⟨by omega,by rw[xJ h1 h2];omega,rfl,rfl,λj hj=>?_⟩;simp only[cA,ZaX];rw[List.append_assoc,IH,if_pos (by rw[Zaw];omega)];simp only[List.getD,ZaF];rw[if_pos hj]
theorem II{x:Input}{fr od:Nat}{new:List bD}(h1:fr<=x.aj.length)(h2:od<=x.aj.length-fr):Px x (cA x fr od new) (fr+od) (fr+new.length) (x.aj.length-(fr+od)):=by
 refine⟨by omega,by rw[xJ h1 h2];omega,rfl,rfl,λj hj=>?_⟩;simp only[cA];rw[IH,if_neg (by rw[ZaB,Zaw];omega)];simp only[List.getD,Zbb,ZaB,Zaw];rw[show fr+od+(fr+new.length+j-(min fr x.aj.length+new.length))=fr+od+j by omega]
theorem PA{z:Ask}(h:CL z):nF z.n/\gX z.x/\gX (nZ z)/\Yx z/\(z.x.aj.length:Int)<=4/\(z.new.length:Int)<=3:=by
 obtain⟨h1,h2,_⟩:=h;have h3:z.n.aV<=5:=by omega
 have h4:eO z.n:=Classical.not_not.1 λc=>h1 (.inr (.inr (.inr (.inl c))));have h5:DD z.x z.n.aV:=Classical.not_not.1 λc=>h1 (.inr (.inr (.inr (.inr (.inr (.inr (.inl c)))))));exact⟨h4.ok,UI h5 h3,UI h2 h3,⟨by omega,by omega,by omega,by omega,by omega,by omega⟩,by omega,by omega⟩
abbrev s9:DM.Spec:=cz (λts=>∃nt nn ns rules bC ins sw fr od new,ts=[.agg [ti nt,ti nn,ti ns,.sl (aQ rules),.sl (ba bC),.sl (aC ins),ti sw,ti fr,ti od,.sl (ba new)]]/\rules.length<=9223372036854775807/\ins.length<=9223372036854775807)
 (fun|[.agg [.int _ nt,.int _ nn,.int _ ns,.sl r,.sl c,.sl i,.int _ s,.int _ fr,.int _ od,.sl nw]]=>.bool (decide (CL ⟨⟨nt,nn,ns,vM r⟩,⟨fL c,fu i,s⟩,fr,od,fL nw⟩))|_=>.bool false) true
abbrev s10:DM.Spec:=cz (λts=>ts=[]) (λ_=>.bool true) true
abbrev s15:DM.Spec:=cz (λts=>∃nt nn ns rules bC ins sw fr od new,ts=[.agg [ti nt,ti nn,ti ns,.sl (aQ rules),.sl (ba bC),.sl (aC ins),ti sw,ti fr,ti od,.sl (ba new)]])
 (fun|[.agg [_,_,_,_,_,_,_,.int _ fr,.int _ od,.sl nw]]=>.agg [ti fr,ti od,ti nw.length]|_=>.bool false) true
theorem ok9{l:List (Nat×DM.Spec)}(h:ay Tryz.prog (aW l)):ay Tryz.prog (aW ((9,s9)::(10,s10)::(15,s15)::l)):=by
 refine ay.cons (ay.cons (ay.cons h ?_) ?_) ?_
 ·rintro ts ⟨nt,nn,ns,rules,bC,ins,sw,fr,od,new,rfl⟩;exact⟨by simpa [Ask.enc]using t15 ⟨⟨nt,nn,ns,rules⟩,⟨bC,ins,sw⟩,fr,od,new⟩,λ_=>rfl⟩
 ·rintro ts rfl;exact⟨t10,λ_=>rfl⟩
 ·rintro ts ⟨nt,nn,ns,rules,bC,ins,sw,fr,od,new,rfl,h1,h2⟩;exact⟨by simpa [Ask.enc]using t9 ⟨⟨nt,nn,ns,rules⟩,⟨bC,ins,sw⟩,fr,od,new⟩ ⟨h1,h2⟩,λ_=>rfl⟩
theorem UU{l:List (Nat×DM.Spec)}(h:ay Tryz.prog (aW l)):ay Tryz.prog (aW ((12,s12)::(11,s11)::(19,s19)::l)):=by
 refine ay.cons (ay.cons (ay.cons h ?_) ?_) ?_
 ·rintro ts ⟨cn,cs,cl,h,f,t,rfl,h1⟩;exact⟨by simpa [bT.enc,Cell.enc]using t19 ⟨cn,cs,cl⟩ h f t h1,λ_=>rfl⟩
 ·rintro ts ⟨nt,nn,ns,rules,ls,aF,fin,rfl,h1,h2⟩;exact⟨by simpa [aH.enc,aM.enc,bT.enc,bR]using t11 ⟨nt,nn,ns,rules⟩ ⟨ls,aF,fin⟩ h1 h2,λh=>by cases h⟩
 ·rintro ts ⟨a,b,c,rfl,h1,h2,h3,h4⟩;exact⟨by simpa [Input.enc,aM.enc]using _root_.Go.Proofs.t14 ⟨a,b,c⟩ h1 h2 h3 h4,λh=>by cases h⟩
end cC
end Go.Proofs
namespace Go.Proofs
namespace cC
open Go.DM Go.ChangeShapes Go.Deep
def UW:Ty:=.seq [.int .i64,.int .i64,.int .i64,.int .i64,.int .i64,.int .i64]
def UX:Ty:=.seq [.int .i64,.int .i64,.int .i64,.slice UW]
def UY:Ty:=.seq [UX,YC,.int .i64,.int .i64,.slice UZ]
theorem YD{ts:List T}(h:UW.has ts):∃r:bE,ts=r.enc:=by
 obtain⟨_,_,rfl,h1,h⟩:=all_cons (FD h);obtain⟨_,_,rfl,h2,h⟩:=all_cons h;obtain⟨_,_,rfl,h3,h⟩:=all_cons h;obtain⟨_,_,rfl,h4,h⟩:=all_cons h;obtain⟨_,_,rfl,h5,h⟩:=all_cons h;obtain⟨_,_,rfl,h6,h⟩:=all_cons h;obtain rfl:=all_nil h;obtain⟨a,rfl⟩:=iZ h1;obtain⟨b,rfl⟩:=iZ h2;obtain⟨c,rfl⟩:=iZ h3;obtain⟨d,rfl⟩:=iZ h4;obtain⟨e,rfl⟩:=iZ h5;obtain⟨f,rfl⟩:=iZ h6;exact⟨⟨a,b,c,d,e,f⟩,rfl⟩
theorem ask_of{x:T}(h:UY.arg x):∃z:Ask,x=z.enc/\z.n.rules.length<=9223372036854775807/\z.x.insert.length<=9223372036854775807:=by
 unfold UY Ty.arg at h;obtain⟨ts,rfl,h⟩:=h;obtain⟨_,_,rfl,h1,h⟩:=all_cons h;obtain⟨_,_,rfl,h2,h⟩:=all_cons h;obtain⟨_,_,rfl,h3,h⟩:=all_cons h;obtain⟨_,_,rfl,h4,h⟩:=all_cons h;obtain⟨_,_,rfl,h5,h⟩:=all_cons h;obtain rfl:=all_nil h;obtain⟨_,_,rfl,n1,h1⟩:=all_cons (FD h1);obtain⟨_,_,rfl,n2,h1⟩:=all_cons h1;obtain⟨_,_,rfl,n3,h1⟩:=all_cons h1;obtain⟨_,_,rfl,n4,h1⟩:=all_cons h1;obtain rfl:=all_nil h1;obtain⟨_,_,rfl,x1,h2⟩:=all_cons (FD h2);obtain⟨_,_,rfl,x2,h2⟩:=all_cons h2;obtain⟨_,_,rfl,x3,h2⟩:=all_cons h2;obtain rfl:=all_nil h2;obtain⟨nt,rfl⟩:=iZ n1;obtain⟨nn,rfl⟩:=iZ n2;obtain⟨ns,rfl⟩:=iZ n3;obtain⟨rules,rfl,hr⟩:=rZ (λr=>YD) n4;obtain⟨bC,rfl,hc⟩:=rZ (λr=>U0) x1;obtain⟨ins,rfl,hi⟩:=rZ (λr=>iZ) x2;obtain⟨sw,rfl⟩:=iZ x3;obtain⟨fr,rfl⟩:=iZ h3;obtain⟨od,rfl⟩:=iZ h4;obtain⟨new,rfl,hn⟩:=rZ (λr=>U0) h5;exact⟨⟨⟨nt,nn,ns,rules⟩,⟨bC,ins,sw⟩,fr,od,new⟩,rfl,hr,hi⟩
abbrev NU:List (String×DataW Unit):=[("emendate/chart.none",.agg [.agg [.lit (.int .i64 1099511627776),.lit (.int .i64 0)],.lit (.int .i64 (-1)),.lit (.int .i64 0)])]
theorem gNone:Tryz.prog.globalNamed "emendate/chart.none" =some 0:=by kernel_rfl
theorem tNone:(Tryz.prog.globals[0]?).map (·.type)=some 57:=by kernel_rfl
theorem uCell:Tryz.prog.underlying 57=some (.struct #[⟨"Value",55,0,false, "", "",0⟩,⟨"Rule",3,2,false, "", "",16⟩,⟨"Arg",3,3,false, "", "",24⟩]):=by kernel_rfl
theorem uVal:Tryz.prog.underlying 55=some (.struct #[⟨"Cost",3,0,false, "", "",0⟩,⟨"Size",3,1,false, "", "",8⟩]):=by kernel_rfl
theorem YE:Tryz.prog.underlying 3=some (.int .i64):=by kernel_rfl
theorem YF:Tryz.prog.cellsOf 57=4:=by kernel_rfl
theorem YG:Tryz.prog.cellsOf 55=2:=by kernel_rfl
theorem cells3:Tryz.prog.cellsOf 3=1:=by kernel_rfl
theorem cs4{cs:List Value}(h:cs.length=4):∃a b c d,cs=[a,b,c,d]:=by
 match cs,h with
 |[a,b,c,d],_=>exact⟨a,b,c,d,rfl⟩
theorem YH{W:World}(h:laidMet Tryz.prog NU W):W.cell? ⟨0,0,none⟩=some (.int .i64 1099511627776)/\W.cell? ⟨0,1,none⟩=some (.int .i64 0)/\W.cell? ⟨0,2,none⟩=some (.int .i64 (-1))/\W.cell? ⟨0,3,none⟩=some (.int .i64 0):=by
 obtain⟨ps,⟨g,t,cs,fuel,p,q,hg,ht,hv,hd,_,_⟩,_⟩:=h;obtain rfl:=ZbK (gNone.symm.trans hg);obtain rfl:=ZbK (tNone.symm.trans ht);obtain⟨y0,y1,y2,n,ex,hl,e0,e1,e2⟩:=trod_struct3 uCell hd;rw[YF]at hl;obtain⟨v0,v1,v2,v3,lz⟩:=cs4 hl;rw[lz]at e0 e1 e2;obtain⟨z0,z1,m,ey,qx,f0,f1⟩:=trod_struct2 uVal e0;simp only[YG,cells3,List.drop_zero,ZbZ,List.take_zero,List.drop_succ_cons]at e1 e2 f0 f1;obtain⟨i1,r1,rfl,_⟩:=DataW.trod_int YE e1;obtain⟨i2,r2,rfl,_⟩:=DataW.trod_int YE e2;obtain⟨i3,r3,rfl,_⟩:=DataW.trod_int YE f0;obtain⟨i4,r4,rfl,_⟩:=DataW.trod_int YE f1;subst ey;have ex:=(congrArg Prod.fst ex).symm;simp only[DataW.agg.injEq,Za5,DataW.lit.injEq,Lit.int.injEq,and_true,true_and,Za5]at ex r1 r2 r3 r4;obtain⟨⟨rfl,rfl⟩,rfl,rfl⟩:=ex;subst r1 r2 r3 r4;have hc:cs= #[.int .i64 1099511627776,.int .i64 0,.int .i64 (-1),.int .i64 0]:=by
  apply Array.toList_inj.1;rw[lz]
 subst hc;exact⟨World.var?_cell hg hv 0,World.var?_cell hg hv 1,World.var?_cell hg hv 2,World.var?_cell hg hv 3⟩
theorem laidOk{W:World}(h:laidMet Tryz.prog NU W):Ab W λ_=>False:=by
 obtain⟨h0,h1,h2,h3⟩:=YH h;intro p hp;obtain rfl:p=_:=Zah.1 hp;refine⟨(Ng h0).1,λx=>x, ?_⟩;simp only[cY,aS,and_true,ZaX,Nat.reduceAdd];exact⟨⟨_,h0,rfl,rfl⟩,⟨_,h1,rfl,rfl⟩,⟨_,h2,rfl,rfl⟩,⟨_,h3,rfl,rfl⟩⟩
structure tH where
 (x h t:Int)
 deriving DecidableEq,Inhabited
def tH.enc(e:tH):List T:=[ti e.x,ti e.h,ti e.t]
def fX(l:List tH):List (List T):=l.map tH.enc
def L7:List T->tH
 |[a,b,c]=>⟨cZ a,cZ b,cZ c⟩
 |_=>default
@[simp] theorem L8(e:tH):L7 e.enc=e:=by simp[L7,tH.enc,cZ]
@[simp] theorem DU{a b:List tH}:fX a=fX b↔a=b:=⟨λh=>by
 have:=congrArg (List.map L7) h;simpa [fX,fD L8]using this,λh=>by rw[h]⟩
@[simp] theorem entsT_len(l:List tH):(fX l).length=l.length:=by simp[fX]
theorem gr{l:List tH}{y:Nat}(h:y<l.length):DM.rowAt (fX l) y=(l.getD y default).enc:=by simp[DM.rowAt,fX,h]
theorem sT(l:List tH)(i:Nat)(e:tH):fX (l.set i e)=(fX l).set i e.enc:=by simp[fX,ZbJ]
theorem FX(a b:List tH):fX (a++b)=fX a++fX b:=by simp[fX]
theorem L9(a:List tH)(n:Nat):(fX a).take n=fX (a.take n):=by simp[fX,List.map_take]
abbrev Pl:=List (Nat×Int×Int)
def wN(l:Pl):List (Nat×T×DV):=l.map λe=>(e.1,ti e.2.1,.v (ti e.2.2))
@[simp] theorem N2{a b:Pl}:wN a=wN b↔a=b:=⟨λh=>by
 unfold wN at h;refine List.map_inj_right (f:=λe:Nat×Int×Int=>(e.1,ti e.2.1,DV.v (ti e.2.2))) ?_|>.1 h
 rintro⟨a,b,c⟩ ⟨a',b',c'⟩ h;simpa using h,λh=>by rw[h]⟩
def sU(l:Pl)(k:Int):Option Nat:=l.findIdx? λe=>e.2.1==k
def jI(l:Pl)(k:Int):Option Int:=(l.find? λe=>e.2.1==k).map (·.2.2)
def eD(l:Pl)(c:Nat)(k v:Int):Pl:=match sU l k with
 |some i=>l.modify i λe=>(e.1,e.2.1,v)
 |none=>l++[(c,k,v)]
def BT(l:Pl)(c:Nat)(k:Int):Nat:=match sU l k with
 |some _=>c
 |none=>c+1
def nK(l:Pl)(k:Int):Pl:=match sU l k with
 |some i=>l.eraseIdx i
 |none=>l
theorem N3(a b:Int):fe (ti a) (ti b)=(b==a):=by
 simp only[fe];by_cases h:a=b
 ·simp[h]
 ·have:¬b=a:=λe=>h e.symm;simp[h,this]
theorem wb(l:Pl)(k:Int):(wN l).findIdx? (λe=>fe (ti k) e.2.1)=sU l k:=by
 unfold wN sU;rw[List.findIdx?_map]
 congr 1
 funext e;simp only[Function.comp,N3]
theorem I5(l:Pl)(k:Int):oH (ti k) (wN l)=(l.find? λe=>e.2.1==k).map λe=>(e.1,ti e.2.1,.v (ti e.2.2)):=by
 unfold oH wN;rw[List.find?_map]
 congr 2
 funext e;simp only[Function.comp,N3]
theorem jJ{α β:Type}{f:α->β}{g:α->α}{g':β->β}(h:∀a,g' (f a)=f (g a)):∀(l:List α) (i:Nat),(l.map f).modify i g'=(l.modify i g).map f
 |[],i=>by cases i<;>simp
 |a::l,0=>by simp[h]
 |a::l,i+1=>by simp[jJ h l i]
theorem og{α β:Type}{f:α->β}:∀(l:List α) (i:Nat),(l.map f).eraseIdx i=(l.eraseIdx i).map f
 |[],i=>by simp
 |a::l,0=>by simp
 |a::l,i+1=>by simp[og l i]
theorem WA(l:Pl)(c:Nat)(k v:Int):Eu (ti k) (.v (ti v)) c (wN l)=wN (eD l c k v):=by
 unfold Eu eD;rw[wb];cases sU l k with
 |none=>simp[wN]
 |some i=>exact jJ (f:=λe:Nat×Int×Int=>(e.1,ti e.2.1,DV.v (ti e.2.2))) (g:=λe=>(e.1,e.2.1,v)) (g':=λe=>(e.1,e.2.1,DV.v (ti v))) (λ_=>rfl) l i
theorem Ma(l:Pl)(c:Nat)(k:Int):mH (ti k) c (wN l)=BT l c k:=by
 unfold mH BT;rw[wb];cases sU l k<;>rfl
theorem WB(l:Pl)(k:Int):XU (ti k) (wN l)=wN (nK l k):=by
 unfold XU nK;rw[wb];cases sU l k with
 |none=>rfl
 |some i=>exact og l i
def qE(l:Pl):Prop:=(l.map (·.1)).Nodup
theorem we{α:Type}{p:α->Bool}:∀{l:List α} {i:Nat},l.findIdx? p=some i->∃a,l[i]? =some a/\p a=true/\l.find? p=some a
 |[],i,h=>by simp at h
 |a::l,i,h=>by
  rw[Za3]at h;by_cases hp:p a=true
  ·simp only[hp,if_true,Zaa]at h;subst h;exact⟨a,rfl,hp,by simp[hp]⟩
  ·simp only[hp,ZaK,if_false,Zab]at h;obtain⟨j,hj,rfl⟩:=h;obtain⟨b,h1,h2,h3⟩:=we hj;exact⟨b,by simpa using h1,h2,by simp[hp,h3]⟩
theorem DW:∀{l:Pl} {i:Nat} {e:Nat×Int×Int},qE l->l[i]? =some e->(wN l).findIdx? (λx=>(x.1:Int)==(e.1:Int))=some i
 |[],i,e,_,h=>by simp at h
 |a::l,0,e,hk,h=>by
  simp only[ZaG,Zaa]at h;subst h;simp[wN,Za3]
 |a::l,i+1,e,hk,h=>by
  simp only[ZaW]at h;simp only[qE,Zau,ZbM]at hk;have bH:¬a.1=e.1:=λq=>hk.1 (q▸Zal.2 ⟨e,Zaq h,rfl⟩);have ih:=DW (l:=l) hk.2 h;unfold wN at ih⊢;rw[Zau,Za3];have:¬(((a.1:Int)==(e.1:Int))=true):=by simp;omega
  simp only[this,ih];rfl
theorem I6{l:Pl}{k v:Int}{i:Nat}{e:Nat×Int×Int}(hk:qE l)(hi:sU l k=some i)(he:l[i]? =some e)(c:Nat):XX (e.1:Int) (.v (ti v)) (wN l)=some (wN (eD l c k v)):=by
 unfold XX;rw[DW hk he];unfold eD;rw[hi];simp only[Za0,Zaa];exact jJ (f:=λe:Nat×Int×Int=>(e.1,ti e.2.1,DV.v (ti e.2.2))) (g:=λe=>(e.1,e.2.1,v)) (g':=λe=>(e.1,e.2.1,DV.v (ti v))) (λ_=>rfl) l i
theorem I7{l:Pl}{c:Nat}{k v:Int}(hk:qE l)(hc:∀e∈l,e.1<c):qE (eD l c k v)/\∀e∈eD l c k v,e.1<BT l c k:=by
 unfold eD BT;cases h:sU l k with
 |none=>
  refine⟨?_,λe he=>?_⟩
  ·unfold qE;rw[ZaQ,ZbP];refine⟨hk,by simp,λa ha b hb=>?_⟩;obtain⟨e,he,rfl⟩:=Zal.1 ha;simp at hb;have:=hc e he;omega
  ·rcases Zao.1 he with he|he
   ·have:=hc e he;simp only;omega
   ·simp at he;subst he;simp
 |some i=>
  have hm:((l.modify i λe=>(e.1,e.2.1,v)).map (·.1))=l.map (·.1):=by
   have h1:=jJ (f:=λe:Nat×Int×Int=>e.1) (g:=λe=>(e.1,e.2.1,v)) (g':=id) (λ_=>rfl) l i;rw[ZcT]at h1;exact h1.symm
  refine⟨by unfold qE;rw[hm];exact hk,λe he=>?_⟩;have:e.1∈l.map (·.1):=by rw[<-hm];exact Zal.2 ⟨e,he,rfl⟩
  obtain⟨e',XF,h2⟩:=Zal.1 this;have:=hc e' XF;show e.1<c;omega
structure LV where
 (sp rb:Nat)
 cs:List DV
 best:List br
structure LV.at(v:LV)(f:aU)(a:Nat):Prop where
 a:f a=some (.box [.ptr v.sp 0])
 sp:f v.sp=some (.box v.cs)
 c:v.cs[12]? =some (.bd v.rb 0)
 rb:f v.rb=some (.arr 0 55 2 (bJ v.best))
theorem LV.uniq{v w:LV}{f:aU}{a:Nat}(h:v.at f a)(k:w.at f a):v=w:=by
 obtain⟨sp,rb,cs,best⟩:=v;obtain⟨sp',rb',qU,best'⟩:=w;obtain⟨h1,h2,h3,h4⟩:=h;obtain⟨k1,k2,k3,k4⟩:=k;simp only at h1 h2 h3 h4 k1 k2 k3 k4;rw[h1]at k1;simp only[Zaa,Ob.box.injEq,Za5,DV.ptr.injEq,and_true]at k1;subst k1;rw[h2]at k2;simp only[Zaa,Ob.box.injEq]at k2;subst k2;rw[h3]at k3;simp only[Zaa,DV.bd.injEq,and_true]at k3;subst k3;rw[h4]at k4;simp only[Zaa,Ob.arr.injEq,oW,true_and]at k4;subst k4;rfl
open Classical in
noncomputable def D1(f:aU)(a:Nat):LV:=if h:∃v:LV,v.at f a then Classical.choose h else⟨0,0,[],[]⟩
theorem Jj{v:LV}{f:aU}{a:Nat}(h:v.at f a):D1 f a=v:=by
 have hx:∃v:LV,v.at f a:=⟨v,h⟩;unfold D1;rw[dif_pos hx];exact LV.uniq (Classical.choose_spec hx) h
def bv(best:List br)(x:Int):br:=best.getD x.toNat default
noncomputable def k55:List DV->aU->iD
 |[.v (.int .i64 x),.v (.int .i64 y),.ptr a 0],f=>⟨(∃v:LV,v.at f a)/\(0<=x/\x<(D1 f a).best.length)/\(0<=y/\y<(D1 f a).best.length),.v (.bool (decide ((bv (D1 f a).best x).lt (bv (D1 f a).best y)))),f⟩
 |_,f=>⟨False,.undef,f⟩
theorem k55_eq{v:LV}{f:aU}{a:Nat}{x y:Int}(h:v.at f a):k55 [.v (ti x),.v (ti y),.ptr a 0] f=⟨(0<=x/\x<v.best.length)/\(0<=y/\y<v.best.length),.v (.bool (decide ((bv v.best x).lt (bv v.best y)))),f⟩:=by
 have hx:∃v:LV,v.at f a:=⟨v,h⟩;simp only[k55,Jj h,hx,true_and]
theorem t56(u v:br):aT Tryz.prog 56 [.agg [ti u.cost,ti u.size],.agg [ti v.cost,ti v.size]] (.bool (decide (u.lt v))):=by
 obtain⟨a,b⟩:=u;obtain⟨c,d⟩:=v;obtain⟨c1,aX⟩:∃c1:Bool,decide ((⟨a,b⟩:br).lt ⟨c,d⟩)=c1:=⟨_,rfl⟩;rw[aX];simp only[br.lt]at aX;have aw:=dZ;refine c56.ok (by simp) (aK ?_);simp;refine aa.ab aw fw [2,3] ?_;simp[ac1];refine aa.le (Le.aD (o:=[]) (l:=[(2,.v (.box [ti a,ti b])),(3,.v (.box [ti c,ti d]))]) (nxt':=1200) ?_ ?_ ?_ ?_) ?_;iterate 4(·simp)
 refine aa.b7 aw fw [(4,.v (.bool c1))] ?_ ?_
 ·by_cases q1:a<c
  ·have:c1=true:=by rw[<-aX];simp[q1]
   simp[H8,q1,this]
  ·by_cases q2:a=c
   ·subst q2;by_cases q3:b<d
    ·have:c1=true:=by rw[<-aX];simp[q3]
     simp[H8,q3,this]
    ·have:c1=false:=by rw[<-aX];simp[q3]
     simp[H8,q3,this]
   ·have:c1=false:=by rw[<-aX];simp[q1,q2]
    simp[H8,q1,q2,this]
 refine aa.ret ?_;simp[TL]
theorem F9{l:List br}(h:∀v∈l,kU v):∀{c s:Int},0<=c->c<=1099511627776->0<=s->s<=1099511627776->0<=(en c s l).cost/\(en c s l).cost<=1099511627776:=by
 induction l with
 |nil=>intro c s h1 h2 h3 h4;exact⟨h1,h2⟩
 |cons x l ih=>
  intro c s h1 h2 h3 h4;obtain⟨g1,g2,g3,g4⟩:=h x (by simp);exact ih (λv hv=>h v (by simp[hv])) (by omega) (by omega) (by omega) (by omega)
theorem WI{c:Int}{l:List br}(h:∀v∈l,kU v):comb (min c 1099511627776) l=comb c l:=by
 have key:∀(l:List br) (c s:Int),(∀v∈l,kU v)->l≠[]->en (min c 1099511627776) s l=en c s l:=by
  intro l c s h hl;cases l with
  |nil=>exact absurd rfl hl
  |cons v l=>
   have hv:=(h v (by simp)).1;simp only[en];rw[show min (min c 1099511627776+v.cost) 1099511627776=min (c+v.cost) 1099511627776 by omega]
 cases l with
 |nil=>
  unfold comb en;simp only;split<;>split<;>first|rfl|(exfalso;omega)|(congr 1;omega)
 |cons v l=>
  unfold comb;rw[key _ _ _ h (by simp)]
theorem t84(c:Int)(l:List br)(h:∀v∈l,kU v)(h1:0<=c)(h2:c<=4000000000000)(h3:l.length<=1000000):aT Tryz.prog 84 [ti c,.sl (bJ l)] (.agg [ti (comb c l).cost,ti (comb c l).size]):=by
 obtain⟨R,hR⟩:∃R,comb c l=R:=⟨_,rfl⟩;rw[hR];rw[<-WI h]at hR;obtain⟨c0,Qq⟩:∃c0,min c 1099511627776=c0:=⟨_,rfl⟩;have aX:0<=c0/\c0<=1099511627776:=by omega
 rw[Qq]at hR;have aw:=dZ;refine c84.ok (by simp) (aK ?_);simp;refine aa.ab aw fw [0,1,4] ?_;simp[ac2];refine aa.le (Le.aD (o:=[(1005,.box [.v (ti 0),.v (ti 0)])]) (l:=[(0,.v (ti c)),(1,.v (.sl (bJ l))),(4,.ptr 1005 0)]) (nxt':=1094) ?_ ?_ ?_ ?_) ?_;iterate 4(·simp)
 refine aa.ab aw fw [1,4,5] ?_;simp[ac3,Qq];refine aa.le (Le.aD (o:=[(1005,.box [.v (ti 0),.v (ti 0)]),(1100,.box [.v (ti c0),.v (ti 1)])]) (l:=[(1,.v (.sl (bJ l))),(4,.ptr 1005 0),(5,.ptr 1100 0)]) (nxt':=1200) ?_ ?_ ?_ ?_) ?_;iterate 4(·simp)
 refine aa.seq ?_;refine aa.ab aw fw [4,5,11,12,13] ?_;simp[ac4];refine aa.block ?_;refine aa.loop (λi:Nat=>⟨DM.look [(4,.ptr 1005 0),(5,.ptr 1100 0),(11,.v (.sl (bJ l))),(12,.v (ti l.length)),(13,.v (ti i))],cE [(1005,.box [.v (ti 0),.v (ti 0)]),(1100,.box [.v (ti (en c0 1 (l.take i)).cost),.v (ti (en c0 1 (l.take i)).size)])],1400,1000,[]⟩)
  (λi=>i<=l.length) (λi=>l.length-i) 0 (Le.aD ?_ ?_ ?_ ?_) (by simp) (λi hi=>?_)
 ·simp
 ·simp
 ·simp[en]
 ·simp
 obtain⟨A,hA⟩:∃A,en c0 1 (l.take i)=A:=⟨_,rfl⟩;rw[hA];refine aa.ab aw fw [4,5,11,12,13,14] ?_;simp[ac5];refine aa.seq ?_;refine aa.cond rfl (λh3c=>?_) (λh3c=>?_)
 ·have tg:i<l.length:=by simpa using h3c
  refine aa.skip ?_;simp;refine aa.seq ?_;refine aa.block ?_;have rv:=dP tg;have hvm:=h _ (bw tg);have kx:en c0 1 (l.take (i+1))=⟨min (A.cost+(l.getD i default).cost) 1099511627776,min (A.size+(l.getD i default).size) 1099511627776⟩:=by rw[cG tg,Bz,hA]
  have hAb:=rX (c:=c0) (s:=1) (l:=l.take i) (λv hv=>h v (Zav hv)) aX.1 (by omega) (by omega) (by omega);rw[hA]at hAb;obtain⟨⟨vc,vs⟩,hv⟩:∃q,l.getD i default=q:=⟨_,rfl⟩;rw[hv]at rv hvm kx;obtain⟨g1,g2,g3,g4⟩:=hvm;simp only at g1 g2 g3 g4 kx;obtain⟨ac,asz⟩:=A;simp only at hAb kx;refine aa.ab aw fw [4,5,7,11,12,13] ?_;simp[ac6,tg,rv];refine aa.le (Le.aD (o:=[(1005,.box [.v (ti 0),.v (ti 0)]),(1100,.box [.v (ti ac),.v (ti asz)])]) (l:=[(4,.ptr 1005 0),(5,.ptr 1100 0),(7,.v (.box [ti vc,ti vs])),(11,.v (.sl (bJ l))),(12,.v (ti l.length)),(13,.v (ti i))]) (nxt':=1500) ?_ ?_ ?_ ?_) ?_;iterate 4(·simp)
  refine aa.ab aw fw [4,5,7,11,12,13] ?_;simp[ac7,au (x:=ac+vc) (by omega)];refine aa.le (Le.aD (o:=[(1005,.box [.v (ti 0),.v (ti 0)]),(1100,.box [.v (ti (min (ac+vc) 1099511627776)),.v (ti asz)])]) (l:=[(4,.ptr 1005 0),(5,.ptr 1100 0),(7,.v (.box [ti vc,ti vs])),(11,.v (.sl (bJ l))),(12,.v (ti l.length)),(13,.v (ti i))]) (nxt':=1600) ?_ ?_ ?_ ?_) ?_;iterate 4(·simp)
  refine aa.dc aw fw [4,5,11,12,13] ?_;simp[ac8,au (x:=asz+vs) (by omega)];refine aa.dc aw fw [4,5,11,12,13] ?_;simp[ac9];rw[au (x:=(i:Int)+1) (by omega)];refine⟨i+1,Le.aD ?_ ?_ ?_ ?_,by omega,by omega⟩
  ·simp
  ·simp
  ·simp[kx]
  ·simp
 ·have hi2:i=l.length:=by simp at h3c;omega
  subst hi2;rw[Zbd]at hA;refine aa.exit ?_;simp;refine aa.seq ?_;refine aa.ab aw fw [4,5,34] ?_;simp[ada];refine aa.cond rfl (λh8=>?_) (λh8=>?_)
  ·have h8:A.cost=1099511627776:=by simpa using h8
   have xC:R=⟨1099511627776,0⟩:=by rw[<-hR];unfold comb;rw[hA];simp[h8]
   refine aa.ab aw fw [4] ?_;simp[adb];refine aa.ret ?_;simp[KZ,xC]
  ·have h8:¬A.cost=1099511627776:=by simpa using h8
   have hAb:=F9 (c:=c0) (s:=1) (l:=l) h aX.1 aX.2 (by omega) (by omega);rw[hA]at hAb;have xC:R=A:=by rw[<-hR];unfold comb;rw[hA,if_neg (by omega)]
   refine aa.skip ?_;simp;refine aa.ab aw fw [4] ?_;simp[TM];refine aa.ret ?_;simp[KZ,xC]
abbrev s56:DM.Spec:=cz (λts=>∃a b c d,ts=[.agg [ti a,ti b],.agg [ti c,ti d]]) (fun|[.agg [.int _ a,.int _ b],.agg [.int _ c,.int _ d]]=>.bool (decide ((⟨a,b⟩:br).lt ⟨c,d⟩))|_=>.bool false) true
theorem ok56{l:List (Nat×DM.Spec)}(h:ay Tryz.prog (aW l)):ay Tryz.prog (aW ((56,s56)::l)):=by
 refine ay.cons h ?_;rintro ts ⟨a,b,c,d,rfl⟩;exact⟨t56 ⟨a,b⟩ ⟨c,d⟩,λ_=>rfl⟩
theorem Oa{α:Type}{l:List α}{i:Nat}{a d:α}(h:l[i]? =some a):l.getD i d=a/\i<l.length:=by
 obtain⟨h1,h2⟩:=Zas.1 h;exact⟨by simp[List.getD,h],h1⟩
def uE(p q N:Nat)(n:Nat):Nat:=if n=0 then p else if n=1 then q else N+n
theorem Cb{p q N:Nat}(h:p<N)(k:q<N)(bH:p≠q)(x y:Nat)(e:uE p q N x=uE p q N y):x=y:=by
 unfold uE at e;split at e<;>split at e<;>(try split at e)<;>(try split at e)<;>omega
theorem t55{f0:aU}{a N x y:Nat}{v:LV}(hN:∀r,N<=r->f0 r=none)(h:v.at f0 a)(hx:x<v.best.length)(hy:y<v.best.length):
  aZ Tryz.prog 55 [.v (ti x),.v (ti y),.ptr a 0] f0 ⟨True,.v (.bool (decide ((bv v.best x).lt (bv v.best y)))),f0⟩:=by
 obtain⟨R,hR⟩:∃R,decide ((bv v.best x).lt (bv v.best y))=R:=⟨_,rfl⟩;rw[hR];have aw:=ok56 ay.nil;refine c55.uM hN (by simp) λbj=>?_;obtain⟨sp,rb,cs,best⟩:=v;obtain⟨h1,h2,h3,h4⟩:=h;simp only at h1 h2 h3 h4 hx hy;obtain⟨h5,h6⟩:=Oa (d:=DV.undef) h3;have r1:=dP hx;have r2:=dP hy;simp only[bv,Zai]at hR;obtain⟨⟨xc,xs⟩,ex⟩:∃q,best.getD x default=q:=⟨_,rfl⟩;obtain⟨⟨yc,ys⟩,ey⟩:∃q,best.getD y default=q:=⟨_,rfl⟩;simp only[ex,ey]at r1 r2 hR;have h7:cs[12]'h6=.bd rb 0:=by rw[Zan h6]at h3;exact ZbK h3
 simp;refine aa.ab aw fw [0,1,2] ?_;simp[aeo];refine aa.ab aw fw [5] ?_;simp[aep,h1,h2,h6,h7,h4,hx,hy,r1,r2,and_assoc,hR];refine⟨h6, ?_⟩;refine aa.ret ?_;simp[UE];rfl
theorem k55_ok:∀args objs,(k55 args objs).ok->(∀N,(∀r,N<=r->objs r=none)->aZ Tryz.prog 55 args objs (k55 args objs))/\∀r,objs r=none->(k55 args objs).objs r=none:=by
 intro args objs h;unfold k55 at h⊢;split at h
 ·rename_i x y a;obtain⟨⟨v,hv⟩,⟨x0,x1⟩,y0,y1⟩:=h;rw[Jj hv]at x1 y1⊢;obtain⟨x,rfl⟩:=Zad x0;obtain⟨y,rfl⟩:=Zad y0;exact⟨λN hN=>aZ.of (t55 hN hv (by omega) (by omega)) rfl rfl,λr hr=>hr⟩
 ·exact h.elim
structure Qs where
 heap:List tH
 ver:Nat
 es:Pl
 mc:Nat
 (next clock:Int)
def qB(a hp m:Nat)(s:Qs):Ob:=.box [.mF (.func 55) [.ptr a 0],.bd hp s.ver,.iC m,.v (ti s.next),.v (ti s.clock)]
def hB(s:Qs):Ob:=.arr s.ver 177 3 (fX s.heap)
def mB(s:Qs):Ob:=.map [.int .i64] false s.mc (wN s.es)
structure QV where
 (a hp m:Nat)
 l:LV
 s:Qs
structure QV.at(v:QV)(f:aU)(q:Nat):Prop where
 q:f q=some (qB v.a v.hp v.m v.s)
 hp:f v.hp=some (hB v.s)
 m:f v.m=some (mB v.s)
 l:v.l.at f v.a
theorem QV.uniq{v w:QV}{f:aU}{q:Nat}(h:v.at f q)(k:w.at f q):v=w:=by
 obtain⟨a,hp,m,l,⟨heap,ver,es,mc,next,clock⟩⟩:=v;obtain⟨a',hp',m',l',⟨ZW,ver',es',mc',next',clock'⟩⟩:=w;obtain⟨h1,h2,h3,h4⟩:=h;obtain⟨k1,k2,k3,k4⟩:=k;simp only at h1 h2 h3 h4 k1 k2 k3 k4;rw[h1]at k1;simp only[qB,Zaa,Ob.box.injEq,Za5,DV.mF.injEq,DV.ptr.injEq,DV.bd.injEq,DV.iC.injEq,DV.v.injEq,T.int.injEq,true_and,and_true]at k1;obtain⟨e1,⟨e2,e3⟩,e4,e5,e6⟩:=k1;subst e1 e2 e3 e4 e5 e6;rw[h2]at k2;simp only[hB,Zaa,Ob.arr.injEq,DU,true_and]at k2;rw[h3]at k3;simp only[mB,Zaa,Ob.map.injEq,N2,true_and]at k3;obtain⟨e7,e8⟩:=k3;have e9:=LV.uniq h4 k4;subst k2 e7 e8 e9;rfl
open Classical in
noncomputable def fI(f:aU)(q:Nat):QV:=if h:∃v:QV,v.at f q then Classical.choose h else⟨0,0,0,⟨0,0,[],[]⟩,⟨[],0,[],0,0,0⟩⟩
theorem gY{v:QV}{f:aU}{q:Nat}(h:v.at f q):fI f q=v:=by
 have hx:∃v:QV,v.at f q:=⟨v,h⟩;unfold fI;rw[dif_pos hx];exact QV.uniq (Classical.choose_spec hx) h
def Qs.inR(s:Qs)(best:List br):Prop:=∀e∈s.heap,0<=e.x/\e.x<best.length
def oi(best:List br)(a b:tH):Prop:=(bv best a.x).lt (bv best b.x)\/(¬(bv best b.x).lt (bv best a.x)/\a.t<b.t)
instance(best:List br)(a b:tH):Decidable (oi best a b):=by unfold oi;infer_instance
abbrev Qs.e(s:Qs)(i:Int):tH:=s.heap.getD i.toNat default
noncomputable def My:List DV->aU->iD
 |[.ptr q 0,.v (.int .i64 i),.v (.int .i64 j)],f=>⟨(∃v:QV,v.at f q)/\(fI f q).s.inR (fI f q).l.best/\(0<=i/\i<(fI f q).s.heap.length)/\(0<=j/\j<(fI f q).s.heap.length),.v (.bool (decide (oi (fI f q).l.best ((fI f q).s.e i) ((fI f q).s.e j)))),f⟩
 |_,f=>⟨False,.undef,f⟩
theorem Oc{v:QV}{f:aU}{q:Nat}{i j:Int}(h:v.at f q):My [.ptr q 0,.v (ti i),.v (ti j)] f=⟨v.s.inR v.l.best/\(0<=i/\i<v.s.heap.length)/\(0<=j/\j<v.s.heap.length),.v (.bool (decide (oi v.l.best (v.s.e i) (v.s.e j)))),f⟩:=by
 have hx:∃v:QV,v.at f q:=⟨v,h⟩;simp only[My,gY h,hx,true_and]
theorem ok55{l:List (Nat×DM.Spec)}(h:ay Tryz.prog (aW l)):ay Tryz.prog (aW ((55,fa k55)::l)):=ay.gV h k55_ok
theorem t117{f0:aU}{q N i j:Nat}{v:QV}(hN:∀r,N<=r->f0 r=none)(h:v.at f0 q)(hr:v.s.inR v.l.best)(hi:i<v.s.heap.length)(hj:j<v.s.heap.length):
  aZ Tryz.prog 117 [.ptr q 0,.v (ti i),.v (ti j)] f0 ⟨True,.v (.bool (decide (oi v.l.best (v.s.e i) (v.s.e j)))),f0⟩:=by
 obtain⟨R,hR⟩:∃R,decide (oi v.l.best (v.s.e i) (v.s.e j))=R:=⟨_,rfl⟩;rw[hR];have aw:=ok55 ay.nil;refine c117.uM hN (by simp) λbj=>?_;obtain⟨a,hp,m,l,⟨heap,ver,es,mc,next,clock⟩⟩:=v;obtain⟨h1,h2,h3,h4⟩:=h;simp only[qB,hB,mB]at h1 h2 h3 h4 hi hj hr;have hqN:q<N:=(bj q _ h1).1;have uO:hp<N:=(bj hp _ h2).1;have haN:a<N:=(bj a _ h4.a).1;have hqp:q≠hp:=λe=>by rw[e,h2]at h1;cases h1
 have r1:=gr hi;have r2:=gr hj;have x1:=hr _ (bw hi);have x2:=hr _ (bw hj);simp only[Qs.e,Zai]at hR;obtain⟨⟨ax,ah,at'⟩,ex⟩:∃e,heap.getD i default=e:=⟨_,rfl⟩;obtain⟨⟨bx,bh,bt⟩,ey⟩:∃e,heap.getD j default=e:=⟨_,rfl⟩;simp only[ex,ey,tH.enc]at r1 r2 x1 x2 hR;have nq:∀k,q≠N+k:=λk=>by omega
 have np:∀k,hp≠N+k:=λk=>by omega
 simp;refine aa.ab aw fw [0,1,2] ?_;simp[TX];refine aa.iH aw fw (rs:=dd (uE q hp N) (fm K4 [none,none,none,none,none,none,none,none,none,none,some [0],none,some [1],some [1],none,none,some [58],none])) (.inl rfl) ((gq (Cb hqN uO hqp) _ _ _).trans (by kernel_rfl)) [0,7,8] ?_;simp[K4,dd,gK,fm,uE,ch,bm,names,h1,h2,hi,hj,r1,r2];refine aa.le (Le.fp (l1:=[]) (l:=[(0,.ptr q 0),(7,.v (.box [ti ax,ti ah,ti at'])),(8,.v (.box [ti bx,ti bh,ti bt]))]) (nxt':=N+1000) bj ?_ ?_ ?_ ?_ ?_) ?_
 ·omega
 ·simp
 ·simp[ca];omega
 ·simp[gS]
 ·simp[h1,Nat.add_assoc];exact⟨cW (l:=[]) bj (by omega) (by simp),cW (l:=[]) bj (by omega) (by simp)⟩
 have hk:=λx y=>k55_eq (x:=x) (y:=y) h4;obtain⟨c1,aX⟩:∃c1:Bool,decide ((bv l.best ax).lt (bv l.best bx))=c1:=⟨_,rfl⟩;obtain⟨c2,dU⟩:∃c2:Bool,decide ((bv l.best bx).lt (bv l.best ax))=c2:=⟨_,rfl⟩;have e0:over [] f0=f0:=rfl;rw[e0];refine aa.seq ?_;refine aa.ab aw fw [0,7,8,31] ?_;simp[TY,h1,hk,x1,x2,aX];refine aa.cond rfl (λg=>?_) (λg=>?_)
 ·have g:c1=true:=by simpa using g
  subst g;have:R=true:=by rw[<-hR];unfold oi;simp[of_decide_eq_true aX]
  subst this;refine aa.ab aw fw [6] ?_;simp[TZ];refine aa.ret ?_;simp[Fj]
 ·have g:c1=false:=by simpa using g
  subst g;refine aa.skip ?_;simp;refine aa.b7 aw fw [(6,.v (.bool R))] ?_ ?_
  ·have xC:(!c2&&decide (at'<bt))=R:=by
    rw[<-hR,<-dU];unfold oi;have:=of_decide_eq_false aX;by_cases z1:(bv l.best bx).lt (bv l.best ax)<;>by_cases z2:at'<bt<;>simp[this,z1,z2]
   cases c2
   ·simp[K5,h1,hk,x1,x2,dU]at xC⊢;exact xC
   ·simp[K5,h1,hk,x1,x2,dU]at xC⊢;exact xC
  refine aa.ret ?_;simp[Fj]
theorem Ze:∀args objs,(My args objs).ok->(∀N,(∀r,N<=r->objs r=none)->aZ Tryz.prog 117 args objs (My args objs))/\∀r,objs r=none->(My args objs).objs r=none:=by
 intro args objs h;unfold My at h⊢;split at h
 ·rename_i q i j;obtain⟨⟨v,hv⟩,hr,⟨i0,i1⟩,j0,j1⟩:=h;rw[gY hv]at hr i1 j1⊢;obtain⟨i,rfl⟩:=Zad i0;obtain⟨j,rfl⟩:=Zad j0;exact⟨λN hN=>aZ.of (t117 hN hv hr (by omega) (by omega)) rfl rfl,λr hr=>hr⟩
 ·exact h.elim
theorem ok117{l:List (Nat×DM.Spec)}(h:ay Tryz.prog (aW l)):ay Tryz.prog (aW ((117,fa My)::l)):=ay.gV h Ze
def cH(f:aU)(q:Nat)(v:QV)(s:Qs):aU:=over [(q,qB v.a v.hp v.m s),(v.hp,hB s),(v.m,mB s)] f
abbrev QV.to(v:QV)(s:Qs):QV:=⟨v.a,v.hp,v.m,v.l,s⟩
structure QV.Ne(v:QV)(q:Nat):Prop where
 qp:q≠v.hp
 qm:q≠v.m
 pm:v.hp≠v.m
 aq:v.a≠q
 ap:v.a≠v.hp
 am:v.a≠v.m
 sq:v.l.sp≠q
 sp:v.l.sp≠v.hp
 sm:v.l.sp≠v.m
 rq:v.l.rb≠q
 rp:v.l.rb≠v.hp
 rm:v.l.rb≠v.m
theorem QV.at.ne{v:QV}{f:aU}{q:Nat}(h:v.at f q):v.Ne q:=by
 obtain⟨h1,h2,h3,h4,h5,h6,h7⟩:=h;simp only[qB,hB,mB]at h1 h2 h3;have:=(Oa (d:=DV.undef) h6).2;refine⟨λe=>?_,λe=>?_,λe=>?_,λe=>?_,λe=>?_,λe=>?_,λe=>?_,λe=>?_,λe=>?_,λe=>?_,λe=>?_,λe=>?_⟩
 ·rw[e,h2]at h1;cases h1
 ·rw[e,h3]at h1;cases h1
 ·rw[e,h3]at h2;cases h2
 ·rw[e,h1]at h4;simp at h4
 ·rw[e,h2]at h4;cases h4
 ·rw[e,h3]at h4;cases h4
 ·rw[e,h1]at h5;simp only[Zaa,Ob.box.injEq]at h5;rw[<-h5]at this;simp at this
 ·rw[e,h2]at h5;cases h5
 ·rw[e,h3]at h5;cases h5
 ·rw[e,h1]at h7;cases h7
 ·rw[e,h2]at h7;simp at h7
 ·rw[e,h3]at h7;cases h7
theorem gu{v:QV}{f:aU}{q:Nat}(h:v.at f q)(s:Qs):(v.to s).at (cH f q v s) q:=by
 have n:=h.ne;obtain⟨h1,h2,h3,h4,h5,h6,h7⟩:=h;refine⟨by simp[cH],by simp[cH,Ne.symm n.qp],by simp[cH,Ne.symm n.qm,Ne.symm n.pm],⟨?_, ?_,h6, ?_⟩⟩
 ·simp[cH,n.aq,n.ap,n.am,h4]
 ·simp[cH,n.sq,n.sp,n.sm,h5]
 ·simp[cH,n.rq,n.rp,n.rm,h7]
theorem ng(f:aU)(q:Nat)(v:QV)(s s':Qs):cH (cH f q v s) q (v.to s) s'=cH f q v s':=by
 funext k;simp only[cH,bP,eN];by_cases h1:k=q<;>by_cases h2:k=v.hp<;>by_cases h3:k=v.m<;>simp[h1,h2,h3]
theorem mA{v:QV}{f:aU}{q r:Nat}(h:v.at f q)(s:Qs)(hr:f r=none):cH f q v s r=none:=by
 have e1:r≠q:=λe=>by rw[e,h.q]at hr;cases hr
 have e2:r≠v.hp:=λe=>by rw[e,h.hp]at hr;cases hr
 have e3:r≠v.m:=λe=>by rw[e,h.m]at hr;cases hr
 simp[cH,e1,e2,e3,hr]
theorem CR{f0:aU}{N nxt nxt' q:Nat}{tm:Nat->DV}{l:List (Nat×DV)}{L:List (Nat×Ob)}{v:QV}(s:Qs)(bj:dO f0 N)(hv:v.at f0 q)(hn:N<=nxt')(hver:v.s.ver<=s.ver)
  (hL:∀p∈L,p.1=q\/p.1=v.hp\/p.1=v.m\/N<=p.1) (h1:over L f0 q=some (qB v.a v.hp v.m s)) (h2:over L f0 v.hp=some (hB s)) (h3:over L f0 v.m=some (mB s))
  (h4:over L f0 v.a=f0 v.a)
  (jd:gp (over L f0) (cH f0 q v s) id tm l):
  Le ⟨tm,over L f0,nxt,N,[]⟩ ⟨DM.look l,cH f0 q v s,nxt',N,[]⟩:=by
 have hqN:q<N:=(bj q _ hv.q).1;have uO:v.hp<N:=(bj v.hp _ hv.hp).1;have FQ:v.m<N:=(bj v.m _ hv.m).1;have n:=hv.ne;refine Le.fp bj hn ?_ ?_ ?_ jd
 ·simp;omega
 ·have:∀(L:List (Nat×Ob)),(∀p∈L,p.1=q\/p.1=v.hp\/p.1=v.m\/N<=p.1)->ca N [(q,qB v.a v.hp v.m s),(v.hp,hB s),(v.m,mB s)] L:=by
   intro L;induction L with
   |nil=>intro _;trivial
   |cons p L ih=>
    intro h;refine⟨λhq=>?_,ih λp hp=>h p (by simp[hp])⟩;rcases h p (by simp)with h|h|h|h
    ·exact⟨_,by rw[h];exact .head _⟩
    ·exact⟨_,by rw[h];exact .tail _ (.head _)⟩
    ·exact⟨_,by rw[h];exact .tail _ (.tail _ (.head _))⟩
    ·omega
  exact this _ hL
 ·refine⟨⟨_,h1,.inr ⟨rfl,λk hk=>?_⟩,λ_=>bu _⟩,⟨_,h2,.inr ⟨rfl,λk hk=>by simp[bG,hB]at hk⟩,λ_=>bu _⟩,⟨_,h3,.inr ⟨rfl,λk hk=>?_⟩,λ_=>bu _⟩,trivial⟩
  ·simp only[qB,bG,bM,names,ZaJ,Zao,Zag,Zap,or_false]at hk;rcases hk with rfl|rfl|rfl
   ·exact⟨_,_,h4.trans hv.l.a,by simp[n.aq,n.ap,n.am,hv.l.a],bu _⟩
   ·exact⟨_,_,h2,by simp[Ne.symm n.qp],bu _⟩
   ·exact⟨_,_,h3,by simp[Ne.symm n.qm,Ne.symm n.pm],bu _⟩
  ·exfalso;simp only[mB,bG,ZaU,wN,Zal]at hk;obtain⟨e,⟨e',_,rfl⟩,hk⟩:=hk;simp[names]at hk
theorem Jv(l:Pl)(k:Int):sU l k=(l.map (·.2.1)).findIdx? (·==k):=by
 unfold sU;rw[List.findIdx?_map];rfl
theorem sY{l:Pl}{c:Nat}{k v:Int}{i:Nat}(h:sU l k=some i)(k':Int):sU (eD l c k v) k'=sU l k':=by
 rw[Jv,Jv];unfold eD;rw[h];simp only;have h1:=jJ (f:=λe:Nat×Int×Int=>e.2.1) (g:=λe=>(e.1,e.2.1,v)) (g':=id) (λ_=>rfl) l i;rw[ZcT]at h1;rw[<-h1]
theorem sZ{l:Pl}{c:Nat}{k v:Int}{i:Nat}(h:sU l k=some i)(hk:qE l):qE (eD l c k v):=by
 unfold eD qE;rw[h];have h1:=jJ (f:=λe:Nat×Int×Int=>e.1) (g:=λe=>(e.1,e.2.1,v)) (g':=id) (λ_=>rfl) l i;rw[ZcT]at h1;simp only;rw[<-h1];exact hk
theorem Oj{l:Pl}{k:Int}{i:Nat}(h:sU l k=some i)(z:DV)(c:Nat):∃e,l[i]? =some e/\XW (ti k) z c (wN l)=.eC [.v (ti e.2.2),.v (ti e.1)]/\XV (ti k) z c (wN l)=wN l/\mH (ti k) c (wN l)=c:=by
 obtain⟨e,h1,h2,h3⟩:=we h;refine⟨e,h1, ?_, ?_, ?_⟩
 ·unfold XW;rw[I5,h3];rfl
 ·unfold XV;rw[wb,h]
 ·unfold mH;rw[wb,h]
def Qs.has(s:Qs)(k:Int):Prop:=∃i,sU s.es k=some i
def Qs.swap(s:Qs)(i j:Int):Qs:=⟨(s.heap.set i.toNat (s.e j)).set j.toNat (s.e i),s.ver,eD (eD s.es s.mc (s.e j).h i) s.mc (s.e i).h j,s.mc,s.next,s.clock⟩
def Qs.b8(s:Qs)(i j:Int):Prop:=qE s.es/\(0<=i/\i<s.heap.length)/\(0<=j/\j<s.heap.length)/\s.has (s.e i).h/\s.has (s.e j).h
theorem t111{f0:aU}{q N i j:Nat}{v:QV}(hN:∀r,N<=r->f0 r=none)(h:v.at f0 q)(hs:v.s.b8 i j):
  aZ Tryz.prog 111 [.ptr q 0,.v (ti i),.v (ti j)] f0 ⟨True,.v (.eC []),cH f0 q v (v.s.swap i j)⟩:=by
 obtain⟨S,hS⟩:∃S,v.s.swap i j=S:=⟨_,rfl⟩;rw[hS];have aw:=dZ;have h0:=h;have n:=h.ne;refine c111.uM hN (by simp) λbj=>?_;obtain⟨a,hp,m,l,⟨heap,ver,es,mc,next,clock⟩⟩:=v;obtain⟨h1,h2,h3,h4⟩:=h;obtain⟨s1,⟨_,s2⟩,⟨_,s3⟩,⟨i1,s4⟩,⟨i2,s5⟩⟩:=hs;simp only[qB,hB,mB,Qs.e,Zai]at h1 h2 h3 h4 s1 s2 s3 s4 s5;have hi:i<heap.length:=by omega
 have hj:j<heap.length:=by omega
 have hqN:q<N:=(bj q _ h1).1;have uO:hp<N:=(bj hp _ h2).1;have FQ:m<N:=(bj m _ h3).1;have r1:=gr hi;have r2:=gr hj;simp only[Qs.swap,Qs.e,Zai]at hS;obtain⟨ea,ex⟩:∃e,heap.getD i default=e:=⟨_,rfl⟩;obtain⟨eb,ey⟩:∃e,heap.getD j default=e:=⟨_,rfl⟩;simp only[ex,ey]at r1 r2 hS s4 s5;obtain⟨H,hH⟩:∃H,(heap.set i eb).set j ea=H:=⟨_,rfl⟩;have hHl:H.length=heap.length:=by rw[<-hH];simp
 have nB:i<H.length:=by omega
 have X4:j<H.length:=by omega
 have r3:=gr nB;have r4:=gr X4;have e3:H.getD i default=eb:=by
  rw[<-hH];by_cases e:i=j
  ·subst e;rw[<-ex,<-ey];simp[List.getD,hi]
  ·have:j≠i:=λq=>e q.symm;simp[List.getD,this,hi]
 have e4:H.getD j default=ea:=by rw[<-hH];simp[List.getD,hj]
 rw[e3]at r3;rw[e4]at r4;have X0:((fX heap).set i eb.enc).set j ea.enc=fX H:=by rw[<-hH,sT,sT]
 obtain⟨x1,y1,z1,z2,z3⟩:=Oj s5 (.v (ti 0)) mc;obtain⟨E1,hE1⟩:∃E1,eD es mc eb.h i=E1:=⟨_,rfl⟩;have b1:=I6 (v:=(i:Int)) s1 s5 y1 mc;rw[hE1]at b1 hS;have s6:sU E1 ea.h=some i1:=by rw[<-hE1,sY s5];exact s4
 have s7:qE E1:=by rw[<-hE1];exact sZ s5 s1
 obtain⟨x2,y2,z4,z5,z6⟩:=Oj s6 (.v (ti 0)) mc;have b2:=I6 (v:=(j:Int)) s7 s6 y2 mc;obtain⟨E2,hE2⟩:∃E2,eD E1 mc ea.h j=E2:=⟨_,rfl⟩;rw[hE2]at b2 hS;rw[hH]at hS;obtain⟨ax,ah,at'⟩:=ea;obtain⟨bx,bh,bt⟩:=eb;simp only[tH.enc]at r1 r2 r3 r4 X0 z1 z2 z3 z4 z5 z6;simp;refine aa.ab aw fw [0,1,2] ?_;have hd:List.drop 3 (DM.rowAt ((fX heap).set i [ti bx,ti bh,ti bt]) (j:Int))=[]:=by
  rw[show(fX heap).set i [ti bx,ti bh,ti bt]=fX (heap.set i ⟨bx,bh,bt⟩)from(sT heap i ⟨bx,bh,bt⟩).symm,gr (by simpa using hj)];rfl
 simp[T0,h1,h2,hi,hj,r1,r2,hd,X0];obtain⟨V,hV⟩:∃V:QV,(⟨a,hp,m,l,⟨heap,ver,es,mc,next,clock⟩⟩:QV)=V:=⟨_,rfl⟩;have Gu:V.a=a/\V.hp=hp/\V.m=m/\V.l=l:=by rw[<-hV];exact⟨rfl,rfl,rfl,rfl⟩
 obtain⟨S1,yV⟩:∃S1:Qs,(⟨H,ver,es,mc,next,clock⟩:Qs)=S1:=⟨_,rfl⟩;rw[hV]at h0 n⊢;have n2:=n;obtain⟨n1,WC,n3,n4,n5,n6,n7,n8,n9,n10,n11,n12⟩:=n;rw[Gu.2.1]at n1 n3 n5;rw[Gu.2.2.1]at WC n3 n6;rw[Gu.1]at n4 n5 n6;refine aa.le (CR (v:=V) S1 (l:=[(0,.ptr q 0),(1,.v (ti i)),(2,.v (ti j))]) (nxt':=N+100) bj h0 (by omega) (by rw[<-hV,<-yV];exact Zae _) ?_ ?_ ?_ ?_ ?_ ?_) ?_
 ·simp[Gu]
 ·rw[Gu.1,Gu.2.1,Gu.2.2.1,<-yV];simp[n1,h1,qB]
 ·rw[Gu.2.1,<-yV];simp[hB]
 ·rw[Gu.2.2.1,<-yV];simp[mB,Ne.symm n3,h3]
 ·rw[Gu.1];simp[n5]
 ·simp[cH,qB]
 obtain⟨G,hG⟩:∃G,cH f0 q V S=G:=⟨_,rfl⟩;rw[hG];simp only[cH,Gu,<-yV,qB,hB,mB];have XH:=Ne.symm n1;have Y2:=Ne.symm n3;have n22':=Ne.symm WC;refine aa.to ⟨DM.look [],cH f0 q V S,N+1000,N,[]⟩ ?_ (by simp[NF,hG]);refine aa.dc aw fw [] ?_;simp[T1,nB,X4,r3,r4,XH,Y2,n22',z1,z2,z3,z4,z5,z6,b1,b2];refine CR S (l:=[]) (nxt':=N+1000) bj h0 (by omega) (by rw[<-hV,<-hS];exact Zae _) ?_ ?_ ?_ ?_ ?_ ?_
 ·simp[Gu]
 ·rw[Gu.1,Gu.2.1,Gu.2.2.1,<-hS];simp[WC,qB]
 ·rw[Gu.2.1,<-hS];simp[n3,XH,hB]
 ·rw[Gu.2.2.1,<-hS];simp[mB]
 ·rw[Gu.1];simp[n4,n5,n6]
 ·simp
noncomputable def MI:List DV->aU->iD
 |[.ptr q 0,.v (.int .i64 i),.v (.int .i64 j)],f=>⟨(∃v:QV,v.at f q)/\(fI f q).s.b8 i j,.v (.eC []),cH f q (fI f q) ((fI f q).s.swap i j)⟩
 |_,f=>⟨False,.undef,f⟩
theorem Gi{v:QV}{f:aU}{q:Nat}{i j:Int}(h:v.at f q):MI [.ptr q 0,.v (ti i),.v (ti j)] f=⟨v.s.b8 i j,.v (.eC []),cH f q v (v.s.swap i j)⟩:=by
 have hx:∃v:QV,v.at f q:=⟨v,h⟩;simp only[MI,gY h,hx,true_and]
theorem Zu:∀args objs,(MI args objs).ok->(∀N,(∀r,N<=r->objs r=none)->aZ Tryz.prog 111 args objs (MI args objs))/\∀r,objs r=none->(MI args objs).objs r=none:=by
 intro args objs h;unfold MI at h⊢;split at h
 ·rename_i q i j;obtain⟨⟨v,hv⟩,hs⟩:=h;rw[gY hv]at hs⊢;have hs':=hs;obtain⟨_,⟨i0,_⟩,⟨j0,_⟩,_⟩:=hs';obtain⟨i,rfl⟩:=Zad i0;obtain⟨j,rfl⟩:=Zad j0;exact⟨λN hN=>aZ.of (t111 hN hv hs) rfl rfl,λr hr=>mA hv _ hr⟩
 ·exact h.elim
theorem Xh{l:List (Nat×DM.Spec)}(h:ay Tryz.prog (aW l)):ay Tryz.prog (aW ((111,fa MI)::l)):=ay.gV h Zu
structure Qs.ok(s:Qs)(best:List br):Prop where
 pl:qE s.es
 st:∀e∈s.es,e.1<s.mc
 has:∀e∈s.heap,s.has e.h
 r:s.inR best
theorem Qs.wq{s:Qs}{i j:Int}(hi:i.toNat<s.heap.length)(hj:j.toNat<s.heap.length){e:tH}(h:e∈(s.swap i j).heap):e∈s.heap:=by
 rcases ZaZ h with h|rfl
 ·rcases ZaZ h with h|rfl
  ·exact h
  ·exact bw hj
 ·exact bw hi
theorem Qs.ok.b8{s:Qs}{best:List br}(h:s.ok best){i j:Int}(hi:0<=i/\i<s.heap.length)(hj:0<=j/\j<s.heap.length):s.b8 i j:=
 ⟨h.pl,hi,hj,h.has _ (bw (by omega)),h.has _ (bw (by omega))⟩
theorem Qs.ok.swap{s:Qs}{best:List br}(h:s.ok best){i j:Int}(hi:0<=i/\i<s.heap.length)(hj:0<=j/\j<s.heap.length):(s.swap i j).ok best:=by
 obtain⟨_,_,_,⟨i1,s4⟩,⟨i2,s5⟩⟩:=h.b8 hi hj;have s6:sU (eD s.es s.mc (s.e j).h i) (s.e i).h=some i1:=by rw[sY s5];exact s4
 have kx:∀{l:Pl} {c:Nat} {k v:Int} {i:Nat},sU l k=some i->qE l->(∀e∈l,e.1<c)->∀e∈eD l c k v,e.1<c:=by
  intro l c k v i hk hl hc e he;have:=(I7 (k:=k) (v:=v) hl hc).2 e he;unfold BT at this;rw[hk]at this;exact this
 refine⟨sZ s6 (sZ s5 h.pl),kx s6 (sZ s5 h.pl) (kx s5 h.pl h.st),λe he=>?_,λe he=>h.r e (Qs.wq (by omega) (by omega) he)⟩;obtain⟨k,hk⟩:=h.has e (Qs.wq (by omega) (by omega) he);exact⟨k,by show sU (eD _ _ _ _) _=_;rw[sY s6,sY s5];exact hk⟩
@[simp] theorem Qs.iA(s:Qs)(i j:Int):(s.swap i j).heap.length=s.heap.length:=by simp[Qs.swap]
@[simp] theorem Qs.swap_ver(s:Qs)(i j:Int):(s.swap i j).ver=s.ver:=rfl
def DX(best:List br)(i:Nat)(s:Qs):Qs:=
 if h:0<i/\oi best (s.e i) (s.e ((i-1)/2:Nat))then DX best ((i-1)/2) (s.swap i ((i-1)/2:Nat))else s
termination_by i
decreasing_by omega
theorem D9{f0:aU}{N nxt nxt' q:Nat}{tm:Nat->DV}{l:List (Nat×DV)}{v:QV}(s:Qs)(bj:dO f0 N)(hv:v.at f0 q)(hn:N<=nxt')(hver:v.s.ver<=s.ver)
  (jd:gp (cH f0 q v s) (cH f0 q v s) id tm l):
  Le ⟨tm,cH f0 q v s,nxt,N,[]⟩ ⟨DM.look l,cH f0 q v s,nxt',N,[]⟩:=by
 have k:=gu hv s;have n:=hv.ne;refine CR s bj hv hn hver ?_ k.q k.hp k.m ?_ jd
 ·simp
 ·simp[n.aq,n.ap,n.am]
theorem t109{f0:aU}{q N i:Nat}{v:QV}(hN:∀r,N<=r->f0 r=none)(h:v.at f0 q)(hs:v.s.ok v.l.best)(hi:i<v.s.heap.length)(hlen:v.s.heap.length<=1000000):
  aZ Tryz.prog 109 [.ptr q 0,.v (ti i)] f0 ⟨True,.v (.eC []),cH f0 q v (DX v.l.best i v.s)⟩:=by
 obtain⟨R,hR⟩:∃R,DX v.l.best i v.s=R:=⟨_,rfl⟩;rw[hR];have aw:=ok117 (Xh ay.nil);refine c109.uM hN (by simp) λbj=>?_;have lV:∀s,cH f0 q v s q=some (qB v.a v.hp v.m s):=λs=>(gu h s).q;simp;refine aa.block ?_;refine aa.loop (λp:Nat×Qs=>⟨DM.look [(0,.ptr q 0),(1,.v (ti p.1))],cH f0 q v p.2,N+1000,N,[]⟩)
  (λp=>p.1<p.2.heap.length/\p.2.ok v.l.best/\DX v.l.best p.1 p.2=R/\p.2.heap.length<=1000000/\p.2.ver=v.s.ver) (λp=>p.1) (i,v.s) ?_ ⟨hi,hs,hR,hlen,rfl⟩ (λp hp=>?_)
 ·refine CR v.s (L:=[]) bj h (by omega) (Zae _) (by simp) h.q h.hp h.m rfl ?_;simp[lV,qB]
 obtain⟨i,s⟩:=p;obtain⟨p1,p2,p3,p4,p5⟩:=hp;simp only at p1 p2 p3 p4 p5;have hv:=gu h s;have k1:=λx y=>Oc (i:=x) (j:=y) hv;have k2:=λx y=>Gi (i:=x) (j:=y) hv;have e0:∀s',cH (cH f0 q v s) q (v.to s) s'=cH f0 q v s':=ng f0 q v s;simp only[QV.to,Qs.e]at k1 k2;unfold DX at p3;by_cases hz:i=0
 ·subst hz;rw[dif_neg (by omega)]at p3;subst p3;refine aa.seq ?_;refine aa.ew aw fw (rs:=vK) rfl (by kernel_rfl) [13] ?_;simp[vK];refine aa.cond rfl (λg=>by cases g) (λg=>?_);refine aa.exit ?_;simp[Fl]
 ·have w1:IntKind.i64.wrap ((i:Int)-1)=((i-1:Nat):Int):=by rw[au (by omega)];omega
  have w2:IntKind.i64.wrap (((i-1:Nat):Int).tdiv 2)=(((i-1)/2:Nat):Int):=by rw[lZ (by omega),au (by omega)];omega
  have w3:IntKind.i64.wrap (((i-1:Nat):Int)/2)=(((i-1)/2:Nat):Int):=by rw[au (by omega)];omega
  obtain⟨c1,aX⟩:∃c1:Bool,decide (oi v.l.best (s.e i) (s.e ((i-1)/2:Nat)))=c1:=⟨_,rfl⟩;have dU:=aX;simp only[Qs.e,Zai]at dU;have hz':0<i:=by omega
  have Hc:(i-1)/2<s.heap.length:=by omega
  refine aa.seq ?_;refine aa.ew aw fw (rs:=vK) rfl (by kernel_rfl) [0,1,13] ?_;obtain⟨y,hy⟩:∃y,(i-1)/2=y:=⟨_,rfl⟩;rw[hy]at w2 w3 aX dU Hc p3;simp[vK,w1,w3,k1,hz',Hc,p1,p2.r];refine aa.cond rfl (λg=>?_) (λg=>?_)
  ·have g:c1=true:=by rw[<-aX];simpa [Qs.e,p1,Hc]using g
   subst g;rw[dif_pos ⟨hz',of_decide_eq_true aX⟩]at p3;have so:=p2.b8 (i:=i) (j:=y) ⟨by omega,by omega⟩ ⟨by omega,by omega⟩;have so2:=p2.swap (i:=i) (j:=y) ⟨by omega,by omega⟩ ⟨by omega,by omega⟩;refine aa.skip ?_;simp;refine aa.block ?_;refine aa.ew aw fw (rs:=Fk) rfl (by kernel_rfl) [0,1] ?_;simp[Fk,w1,w3,k2,so,e0];refine aa.dc aw fw [0,1] ?_;simp[T2,w1,w3];refine⟨y,s.swap i y,D9 _ bj h (by omega) (by simp[p5]) ?_,⟨by simpa using Hc,so2,p3,by simpa using p4,by simpa using p5⟩,by omega⟩;simp[lV,qB]
  ·have g:c1=false:=by rw[<-aX];simpa [Qs.e,p1,Hc]using g
   subst g;rw[dif_neg λx=>of_decide_eq_false aX x.2]at p3;subst p3;refine aa.exit ?_;simp[Fl]
noncomputable def MJ:List DV->aU->iD
 |[.ptr q 0,.v (.int .i64 i)],f=>⟨(∃v:QV,v.at f q)/\(fI f q).s.ok (fI f q).l.best/\(0<=i/\i<(fI f q).s.heap.length)/\(fI f q).s.heap.length<=1000000,.v (.eC []),cH f q (fI f q) (DX (fI f q).l.best i.toNat (fI f q).s)⟩
 |_,f=>⟨False,.undef,f⟩
theorem N5{v:QV}{f:aU}{q:Nat}{i:Int}(h:v.at f q):MJ [.ptr q 0,.v (ti i)] f=⟨v.s.ok v.l.best/\(0<=i/\i<v.s.heap.length)/\v.s.heap.length<=1000000,.v (.eC []),cH f q v (DX v.l.best i.toNat v.s)⟩:=by
 have hx:∃v:QV,v.at f q:=⟨v,h⟩;simp only[MJ,gY h,hx,true_and]
theorem Zv:∀args objs,(MJ args objs).ok->(∀N,(∀r,N<=r->objs r=none)->aZ Tryz.prog 109 args objs (MJ args objs))/\∀r,objs r=none->(MJ args objs).objs r=none:=by
 intro args objs h;unfold MJ at h⊢;split at h
 ·rename_i q i;obtain⟨⟨v,hv⟩,hs,⟨i0,i1⟩,hl⟩:=h;rw[gY hv]at hs i1 hl⊢;obtain⟨i,rfl⟩:=Zad i0;exact⟨λN hN=>aZ.of (t109 hN hv hs (by omega) hl) rfl rfl,λr hr=>mA hv _ hr⟩
 ·exact h.elim
theorem ok109{l:List (Nat×DM.Spec)}(h:ay Tryz.prog (aW l)):ay Tryz.prog (aW ((109,fa MJ)::l)):=ay.gV h Zv
def Gt(best:List br)(s:Qs)(i:Nat):Nat->Nat
 |0=>i
 |t+1=>if oi best (s.e (2*i+1+t:Nat)) (s.e (Gt best s i t))then 2*i+1+t else Gt best s i t
def kids(s:Qs)(i:Nat):Nat:=min 2 (s.heap.length-(2*i+1))
def gv(best:List br)(s:Qs)(i:Nat):Nat:=Gt best s i (kids s i)
theorem Gb(best:List br)(s:Qs)(i:Nat):∀t,Gt best s i t=i\/(2*i+1<=Gt best s i t/\Gt best s i t<2*i+1+t)
 |0=>.inl rfl
 |t+1=>by
  have:=Gb best s i t;unfold Gt;split<;>omega
theorem oZ(best:List br)(s:Qs)(i:Nat):gv best s i=i\/(i<gv best s i/\gv best s i<s.heap.length):=by
 have:=Gb best s i (kids s i);unfold gv;unfold kids at*
 omega
def kJ(best:List br)(i:Nat)(s:Qs):Qs:=
 if h:gv best s i=i then s else kJ best (gv best s i) (s.swap i (gv best s i:Nat))
termination_by s.heap.length-i
decreasing_by
 have:=oZ best s i;simp only[Qs.iA];omega
theorem t110{f0:aU}{q N i:Nat}{v:QV}(hN:∀r,N<=r->f0 r=none)(h:v.at f0 q)(hs:v.s.ok v.l.best)(hi:i<=1000000)(hlen:v.s.heap.length<=1000000):
  aZ Tryz.prog 110 [.ptr q 0,.v (ti i)] f0 ⟨True,.v (.eC []),cH f0 q v (kJ v.l.best i v.s)⟩:=by
 obtain⟨R,hR⟩:∃R,kJ v.l.best i v.s=R:=⟨_,rfl⟩;rw[hR];have aw:=ok117 (Xh ay.nil);refine c110.uM hN (by simp) λbj=>?_;have lV:∀s,cH f0 q v s q=some (qB v.a v.hp v.m s):=λs=>(gu h s).q;simp;refine aa.block ?_;refine aa.loop (λp:Nat×Qs=>⟨DM.look [(0,.ptr q 0),(1,.v (ti p.1))],cH f0 q v p.2,N+1000,N,[]⟩)
  (λp=>p.1<=1000000/\p.2.ok v.l.best/\kJ v.l.best p.1 p.2=R/\p.2.heap.length<=1000000/\p.2.ver=v.s.ver) (λp=>p.2.heap.length-p.1) (i,v.s) ?_ ⟨hi,hs,hR,hlen,rfl⟩ (λp hp=>?_)
 ·refine CR v.s (L:=[]) bj h (by omega) (Zae _) (by simp) h.q h.hp h.m rfl ?_;simp[lV,qB]
 obtain⟨i,s⟩:=p;obtain⟨p1,p2,p3,p4,p5⟩:=hp;simp only at p1 p2 p3 p4 p5;have hv:=gu h s;have k1:=λx y=>Oc (i:=x) (j:=y) hv;have k2:=λx y=>Gi (i:=x) (j:=y) hv;have e0:∀s',cH (cH f0 q v s) q (v.to s) s'=cH f0 q v s':=ng f0 q v s;have hq:=hv.q;have hh:=hv.hp;simp only[QV.to,Qs.e,qB,hB]at k1 k2 hq hh;have w1:IntKind.i64.wrap (2*(i:Int))=2*(i:Int):=au (by omega);have w2:IntKind.i64.wrap (2*(i:Int)+1)=2*(i:Int)+1:=au (by omega);have w3:IntKind.i64.wrap (2*(i:Int)+2)=2*(i:Int)+2:=au (by omega);refine aa.block ?_;refine aa.ab aw fw [0,1,4] ?_;simp[T3];refine aa.seq ?_;refine aa.ab aw fw [0,1,4,5] ?_;simp[T4,w1,w2];refine aa.block ?_;refine aa.loop (λt:Nat=>⟨DM.look [(0,.ptr q 0),(1,.v (ti i)),(4,.v (ti (Gt v.l.best s i t))),(5,.v (ti (2*i+1+t:Nat)))],cH f0 q v s,N+2000,N,[]⟩)
  (λt=>t<=kids s i) (λt=>2-t) 0 (D9 _ bj h (by omega) (by simp[p5]) ?_) (by omega) (λt ht=>?_)
 ·simp[lV,qB,Gt]
 have hkid:kids s i<=2/\(kids s i<=s.heap.length-(2*i+1))/\(kids s i=2\/kids s i=s.heap.length-(2*i+1)):=by unfold kids;omega
 obtain⟨L,hL⟩:∃L,Gt v.l.best s i t=L:=⟨_,rfl⟩;have hLo:=Gb v.l.best s i t;rw[hL]at hLo⊢;obtain⟨K,hK⟩:∃K,2*i+1+t=K:=⟨_,rfl⟩;rw[hK]at hLo⊢;obtain⟨c1,aX⟩:∃c1:Bool,decide (t<kids s i)=c1:=⟨_,rfl⟩;refine aa.seq ?_;refine aa.b7 aw fw [(0,.ptr q 0),(1,.v (ti i)),(4,.v (ti L)),(5,.v (ti K)),(23,.v (.bool c1))] ?_ ?_
 ·by_cases z1:t<2
  ·have z2:(K:Int)<=2*(i:Int)+2:=by omega
   by_cases z3:K<s.heap.length
   ·have:c1=true:=by rw[<-aX];simp;omega
    simp[Fm,w1,w3,hq,hh,z2,z3,this]
   ·have:c1=false:=by rw[<-aX];simp;omega
    simp[Fm,w1,w3,hq,hh,z2,z3,this]
  ·have z2:¬(K:Int)<=2*(i:Int)+2:=by omega
   have:c1=false:=by rw[<-aX];simp;omega
   simp[Fm,w1,w3,z2,this]
 refine aa.cond rfl (λg=>?_) (λg=>?_)
 ·have g:c1=true:=by simpa using g
  subst g;have ht2:t<kids s i:=of_decide_eq_true aX;have hKl:K<s.heap.length:=by omega
  have hLl:L<s.heap.length:=by omega
  have wK:IntKind.i64.wrap ((K:Int)+1)=((2*i+1+(t+1):Nat):Int):=by rw[au (by omega)];omega
  have kI:Gt v.l.best s i (t+1)=if oi v.l.best (s.e K) (s.e L)then K else L:=by
   have:Gt v.l.best s i (t+1)=if oi v.l.best (s.e (2*i+1+t:Nat)) (s.e (Gt v.l.best s i t))then 2*i+1+t else Gt v.l.best s i t:=rfl
   rw[this,hK,hL]
  refine aa.skip ?_;simp;refine aa.seq ?_;refine aa.block ?_;refine aa.ew aw fw (rs:=Fo) rfl (by kernel_rfl) [0,1,4,5,29] ?_;simp[Fo,k1,p2.r,hKl,hLl];obtain⟨c2,dU⟩:∃c2:Bool,decide (oi v.l.best (s.e K) (s.e L))=c2:=⟨_,rfl⟩;refine aa.to ⟨DM.look [(0,.ptr q 0),(1,.v (ti i)),(4,.v (ti (Gt v.l.best s i (t+1)))),(5,.v (ti K))],cH f0 q v s,N+4000,N,[]⟩ ?_ ?_
  ·refine aa.cond rfl (λg=>?_) (λg=>?_)
   ·have g:oi v.l.best (s.e K) (s.e L):=by simpa [Qs.e,hKl,hLl]using g
    rw[if_pos g]at kI;refine aa.dc aw fw [0,1,4,5] ?_;simp[T5];refine D9 _ bj h (by omega) (by simp[p5]) ?_;simp[lV,qB,kI]
   ·have g:¬oi v.l.best (s.e K) (s.e L):=by simpa [Qs.e,hKl,hLl]using g
    rw[if_neg g]at kI;refine aa.skip ?_;simp;refine D9 _ bj h (by omega) (by simp[p5]) ?_;simp[lV,qB,kI]
  simp;refine aa.dc aw fw [0,1,4,5] ?_;simp[T6,wK];refine⟨t+1,D9 _ bj h (by omega) (by simp[p5]) ?_,by omega,by omega⟩;simp[lV,qB]
 ·have g:c1=false:=by simpa using g
  subst g;have ht2:t=kids s i:=by have:=of_decide_eq_false aX;omega
  have hLs:gv v.l.best s i=L:=by rw[<-hL,ht2];rfl
  unfold kJ at p3;rw[hLs]at p3;refine aa.exit ?_;simp;refine aa.seq ?_;refine aa.ab aw fw [0,1,4,33] ?_;simp[T7];refine aa.cond rfl (λg=>?_) (λg=>?_)
  ·have g:L=i:=by simp at g;omega
   rw[dif_pos g]at p3;subst p3;refine aa.ret ?_;simp[NG]
  ·have g:¬L=i:=by simp at g;omega
   rw[dif_neg g]at p3;have hLl:i<L/\L<s.heap.length:=by have:=oZ v.l.best s i;omega
   have so:=p2.b8 (i:=i) (j:=L) ⟨by omega,by omega⟩ ⟨by omega,by omega⟩;have so2:=p2.swap (i:=i) (j:=L) ⟨by omega,by omega⟩ ⟨by omega,by omega⟩;refine aa.skip ?_;simp;refine aa.ew aw fw (rs:=Fp) rfl (by kernel_rfl) [0,4] ?_;simp[Fp,k2,so,e0];refine aa.dc aw fw [0,1] ?_;simp[T8];refine⟨L,s.swap i L,D9 _ bj h (by omega) (by simp[p5]) ?_,⟨by omega,so2,p3,by simpa using p4,by simpa using p5⟩,by simp;omega⟩;simp[lV,qB]
noncomputable def MP:List DV->aU->iD
 |[.ptr q 0,.v (.int .i64 i)],f=>⟨(∃v:QV,v.at f q)/\(fI f q).s.ok (fI f q).l.best/\(0<=i/\i<=1000000)/\(fI f q).s.heap.length<=1000000,.v (.eC []),cH f q (fI f q) (kJ (fI f q).l.best i.toNat (fI f q).s)⟩
 |_,f=>⟨False,.undef,f⟩
theorem N6{v:QV}{f:aU}{q:Nat}{i:Int}(h:v.at f q):MP [.ptr q 0,.v (ti i)] f=⟨v.s.ok v.l.best/\(0<=i/\i<=1000000)/\v.s.heap.length<=1000000,.v (.eC []),cH f q v (kJ v.l.best i.toNat v.s)⟩:=by
 have hx:∃v:QV,v.at f q:=⟨v,h⟩;simp only[MP,gY h,hx,true_and]
theorem ZB:∀args objs,(MP args objs).ok->(∀N,(∀r,N<=r->objs r=none)->aZ Tryz.prog 110 args objs (MP args objs))/\∀r,objs r=none->(MP args objs).objs r=none:=by
 intro args objs h;unfold MP at h⊢;split at h
 ·rename_i q i;obtain⟨⟨v,hv⟩,hs,⟨i0,i1⟩,hl⟩:=h;rw[gY hv]at hs hl⊢;obtain⟨i,rfl⟩:=Zad i0;exact⟨λN hN=>aZ.of (t110 hN hv hs (by omega) hl) rfl rfl,λr hr=>mA hv _ hr⟩
 ·exact h.elim
theorem ok110{l:List (Nat×DM.Spec)}(h:ay Tryz.prog (aW l)):ay Tryz.prog (aW ((110,fa MP)::l)):=ay.gV h ZB
def lL(s:Qs)(x:Int):Qs:=⟨s.heap++[⟨x,s.next,s.clock⟩],s.ver+1,eD s.es s.mc s.next s.heap.length,BT s.es s.mc s.next,s.next+1,s.clock+1⟩
def nh(best:List br)(s:Qs)(x:Int):Qs:=DX best s.heap.length (lL s x)
theorem tj{α:Type}{p:α->Bool}{a b:List α}{i:Nat}(h:a.findIdx? p=some i):(a++b).findIdx? p=some i:=by
 rw[List.findIdx?_append,h];rfl
theorem JK{l:Pl}{c:Nat}{k v k':Int}{i:Nat}(h:sU l k'=some i):sU (eD l c k v) k'=some i:=by
 cases hk:sU l k with
 |some j=>rw[sY hk];exact h
 |none=>
  unfold eD;rw[hk];exact tj h
theorem JL(l:Pl)(c:Nat)(k v:Int):∃i,sU (eD l c k v) k=some i:=by
 cases hk:sU l k with
 |some j=>exact⟨j,by rw[sY hk];exact hk⟩
 |none=>
  unfold eD;rw[hk];unfold sU at hk⊢;rw[List.findIdx?_append,hk];exact⟨_,by simp;rfl⟩
theorem Jl{s:Qs}{best:List br}{x:Int}(h:s.ok best)(hx:0<=x/\x<best.length):(lL s x).ok best:=by
 obtain⟨h1,h2⟩:=I7 (k:=s.next) (v:=s.heap.length) h.pl h.st;refine⟨h1,h2,λe he=>?_,λe he=>?_⟩
 ·rcases Zao.1 he with he|he
  ·obtain⟨i,hi⟩:=h.has e he;exact⟨i,JK hi⟩
  ·simp at he;subst he;exact JL _ _ _ _
 ·rcases Zao.1 he with he|he
  ·exact h.r e he
  ·simp at he;subst he;exact hx
def Ge(s:Qs)(best:List br)(x:Int):Prop:=s.ok best/\(0<=x/\x<best.length)/\s.heap.length<=100000/\(0<=s.next/\s.next<=1000000000000)/\(0<=s.clock/\s.clock<=1000000000000)
theorem t82{f0:aU}{q N:Nat}{x:Int}{v:QV}(hN:∀r,N<=r->f0 r=none)(h:v.at f0 q)(hs:Ge v.s v.l.best x):
  aZ Tryz.prog 82 [.ptr q 0,.v (ti x)] f0 ⟨True,.v (ti v.s.next),cH f0 q v (nh v.l.best v.s x)⟩:=by
 obtain⟨ho,hx,h5,h6,h7⟩:=hs;have lP:=Jl ho hx;obtain⟨R,hR⟩:∃R,nh v.l.best v.s x=R:=⟨_,rfl⟩;rw[hR];unfold nh at hR;obtain⟨S,hS⟩:∃S,lL v.s x=S:=⟨_,rfl⟩;rw[hS]at hR lP;have aw:=ok109 ay.nil;refine c82.uM hN (by simp) λbj=>?_;have lV:∀s,cH f0 q v s q=some (qB v.a v.hp v.m s):=λs=>(gu h s).q;obtain⟨n1,n2,n3,n4,n5,n6,_,_,_,_,_,_⟩:=h.ne;have XH:=Ne.symm n1;have WC:=Ne.symm n2;have Y2:=Ne.symm n3;have h1:=h.q;have h2:=h.hp;have h3:=h.m;simp only[qB,hB,mB]at h1 h2 h3;obtain⟨nx,De⟩:∃nx,v.s.next=nx:=⟨_,rfl⟩;obtain⟨ck,wL⟩:∃ck,v.s.clock=ck:=⟨_,rfl⟩;obtain⟨hp,wo⟩:∃hp,v.hp=hp:=⟨_,rfl⟩;obtain⟨m,hm⟩:∃m,v.m=m:=⟨_,rfl⟩;obtain⟨ver,hve⟩:∃ver,v.s.ver=ver:=⟨_,rfl⟩;have hSd:S=⟨v.s.heap++[⟨x,nx,ck⟩],ver+1,eD v.s.es v.s.mc nx v.s.heap.length,BT v.s.es v.s.mc nx,nx+1,ck+1⟩:=by rw[<-hS,<-De,<-wL,<-hve];rfl
 rw[De,wL,wo,hve]at h1;rw[hm]at h1 h3;rw[wo,hve]at h2;rw[De]at h6;rw[wL]at h7;rw[wo]at n1 n3 n5 XH Y2;rw[hm]at n2 n3 n6 WC Y2;rw[De];have w1:IntKind.i64.wrap (nx+1)=nx+1:=au (by omega);have w2:IntKind.i64.wrap (ck+1)=ck+1:=au (by omega);have oK:cF 24 (v.s.heap.length+1):=by simp[cF];omega
 simp;refine aa.ab aw fw [0,1] ?_;simp[adu];refine aa.ab aw fw [0,1,5,6] ?_;simp[adw,h1,h2];refine aa.ab aw fw [0,5,6] ?_;have Ns:chunk 3 1 [ti x,ti nx,ti ck]=[[ti x,ti nx,ti ck]]:=rfl;simp[adx,h1,h2,n1,Ns,oK];refine aa.ab aw fw [0,5,6] ?_;simp[ady,h3,WC,Y2,WA,Ma];refine aa.ab aw fw [0,5,6] ?_;simp[adz,w1,w2,n2];refine aa.le (CR (v:=v) S (l:=[(0,.ptr q 0),(5,.v (ti nx)),(6,.v (ti v.s.heap.length))]) (nxt':=N+2000) bj h (by omega) (by rw[hve,hSd];simp) ?_ ?_ ?_ ?_ ?_ ?_) ?_
 ·rw[wo,hm];simp
 ·rw[wo,hm,hSd];simp[qB]
 ·rw[wo,hSd];simp[XH,n3,hB,FX];rfl
 ·rw[hm,hSd];simp[WC,mB]
 ·simp[n4,n5,n6]
 ·simp[lV,qB]
 have k1:=λy=>N5 (i:=y) (gu h S);have hl:S.heap.length=v.s.heap.length+1:=by rw[hSd];simp
 have e0:∀s',cH (cH f0 q v S) q (v.to S) s'=cH f0 q v s':=ng f0 q v S;simp only[QV.to]at k1 e0;refine aa.ew aw fw (rs:=K6) rfl (by kernel_rfl) [5] ?_;simp[K6,k1,lP,hl,e0,hR];refine⟨by omega, ?_⟩;refine aa.ab aw fw [4] ?_;simp[adA];refine aa.ret ?_;simp[T9]
noncomputable def W7:List DV->aU->iD
 |[.ptr q 0,.v (.int .i64 x)],f=>⟨(∃v:QV,v.at f q)/\Ge (fI f q).s (fI f q).l.best x,.v (ti (fI f q).s.next),cH f q (fI f q) (nh (fI f q).l.best (fI f q).s x)⟩
 |_,f=>⟨False,.undef,f⟩
theorem k82_eq{v:QV}{f:aU}{q:Nat}{x:Int}(h:v.at f q):W7 [.ptr q 0,.v (ti x)] f=⟨Ge v.s v.l.best x,.v (ti v.s.next),cH f q v (nh v.l.best v.s x)⟩:=by
 have hx:∃v:QV,v.at f q:=⟨v,h⟩;simp only[W7,gY h,hx,true_and]
theorem k82_ok:∀args objs,(W7 args objs).ok->(∀N,(∀r,N<=r->objs r=none)->aZ Tryz.prog 82 args objs (W7 args objs))/\∀r,objs r=none->(W7 args objs).objs r=none:=by
 intro args objs h;unfold W7 at h⊢;split at h
 ·rename_i q x;obtain⟨⟨v,hv⟩,hs⟩:=h;rw[gY hv]at hs⊢;exact⟨λN hN=>aZ.of (t82 hN hv hs) rfl rfl,λr hr=>mA hv _ hr⟩
 ·exact h.elim
theorem ok82{l:List (Nat×DM.Spec)}(h:ay Tryz.prog (aW l)):ay Tryz.prog (aW ((82,fa W7)::l)):=ay.gV h k82_ok
def lW(s:Qs):Qs:=let s1:=s.swap 0 ((s.heap.length:Int)-1)
 ⟨s1.heap.take (s.heap.length-1),s1.ver+1,nK s1.es (s.e 0).h,s1.mc,s1.next,s1.clock⟩
def ke(best:List br)(s:Qs):Qs:=if s.heap=[]then s else kJ best 0 (lW s)
def Jz(s:Qs):T:=if s.heap=[]then .eC [ti 0,.bool false]else .eC [ti (s.e 0).x,.bool true]
theorem ZC{l:Pl}{k k':Int}(h:k≠k'):(∃i,sU l k'=some i)->∃i,sU (nK l k) k'=some i:=by
 rintro⟨i,hi⟩;unfold nK;cases hk:sU l k with
 |none=>exact⟨i,hi⟩
 |some j=>
  obtain⟨e,h1,h2,_⟩:=we hi;obtain⟨e',h3,h4,_⟩:=we hk;have bH:i≠j:=λx=>by
   subst x;rw[h1]at h3;cases h3;simp at h2 h4;exact h (h4.symm.trans h2)
  have xo:e∈l.eraseIdx j:=List.mem_eraseIdx_iff_getElem?.2 ⟨i,bH,h1⟩;have:(List.findIdx? (λe=>e.2.1==k') (l.eraseIdx j)).isSome=true:=by
   rw[List.findIdx?_isSome,Zcb];exact⟨e,xo,h2⟩
  exact Zbu.1 this
theorem Xq{l:Pl}{k:Int}{c:Nat}(h:qE l)(hc:∀e∈l,e.1<c):qE (nK l k)/\∀e∈nK l k,e.1<c:=by
 unfold nK;cases sU l k with
 |none=>exact⟨h,hc⟩
 |some j=>
  refine⟨?_,λe he=>hc e (Zcf he)⟩;unfold qE;rw[<-og];exact h.eraseIdx j
def Qs.nd(s:Qs):Prop:=∀i j:Nat,i<s.heap.length->j<s.heap.length->(s.e i).h=(s.e j).h->i=j
theorem Oe{s:Qs}{best:List br}(h:s.ok best)(hn:s.nd)(hl:0<s.heap.length):(lW s).ok best:=by
 have h1:=h.swap (i:=0) (j:=(s.heap.length:Int)-1) ⟨by omega,by omega⟩ ⟨by omega,by omega⟩;obtain⟨a1,a2⟩:=Xq (k:=(s.e 0).h) h1.pl h1.st;refine⟨a1,a2,λe he=>?_,λe he=>h1.r e (Zav he)⟩;have he1:e∈(s.swap 0 ((s.heap.length:Int)-1)).heap:=Zav he;refine ZC (λhk=>?_) (h1.has e he1);obtain⟨y,hy,rfl⟩:=ZaY he;simp only[lW,Zaw,Qs.iA]at hy;have jV:y<s.heap.length-1:=by omega
 have fg:y<s.heap.length:=by omega
 have Qy:((s.heap.length:Int)-1).toNat=s.heap.length-1:=by omega
 by_cases hz:y=0
 ·subst hz;have wJ:s.heap.length-1<s.heap.length:=by omega
  have:(lW s).heap[0]=s.e ((s.heap.length-1:Nat):Int):=by
   have h0:¬s.heap.length-1=0:=by omega
   simp only[lW,Qs.swap,List.getElem_take,Qy,Int.toNat_zero,Zca,h0,if_false,if_true];rw[show(s.heap.length:Int)-1=((s.heap.length-1:Nat):Int)by omega]
  rw[this]at hk;have:=hn 0 (s.heap.length-1) hl (by omega) (by simpa using hk);omega
 ·have:(lW s).heap[y]=s.e (y:Int):=by
   have h0:¬s.heap.length-1=y:=by omega
   have h00:¬0=y:=by omega
   simp only[lW,Qs.swap,List.getElem_take,Qy,Int.toNat_zero,Zca,h0,h00,if_false,Qs.e,Zai];simp[List.getD,fg]
  rw[this]at hk;have:=hn 0 y hl fg (by simpa using hk);omega
def Ce(s:Qs)(best:List br):Prop:=s.ok best/\s.nd/\s.heap.length<=1000000
theorem t85{f0:aU}{q N:Nat}{v:QV}(hN:∀r,N<=r->f0 r=none)(h:v.at f0 q)(hs:Ce v.s v.l.best):
  aZ Tryz.prog 85 [.ptr q 0] f0 ⟨True,.v (Jz v.s),cH f0 q v (ke v.l.best v.s)⟩:=by
 obtain⟨ho,zm,hlen⟩:=hs;obtain⟨RV,hRV⟩:∃R,Jz v.s=R:=⟨_,rfl⟩;obtain⟨R,hR⟩:∃R,ke v.l.best v.s=R:=⟨_,rfl⟩;rw[hR,hRV];unfold ke at hR;unfold Jz at hRV;have aw:=Xh (ok110 ay.nil);refine c85.uM hN (by simp) λbj=>?_;have lV:∀s,cH f0 q v s q=some (qB v.a v.hp v.m s):=λs=>(gu h s).q;have hqN:q<N:=(bj q _ h.q).1;have uO:v.hp<N:=(bj v.hp _ h.hp).1;have FQ:v.m<N:=(bj v.m _ h.m).1;obtain⟨n1,n2,n3,n4,n5,n6,_,_,_,_,_,_⟩:=h.ne;have XH:=Ne.symm n1;have WC:=Ne.symm n2;have Y2:=Ne.symm n3;have n4':=Ne.symm n4;have h1:=h.q;have h2:=h.hp;have h3:=h.m;simp only[qB,hB,mB]at h1 h2 h3;have nq:∀k,q≠N+k:=λk=>by omega
 have np:∀k,v.hp≠N+k:=λk=>by omega
 have nm:∀k,v.m≠N+k:=λk=>by omega
 have na:∀k,v.a≠N+k:=λk=>by have:=(bj v.a _ h.l.a).1;omega
 simp;refine aa.ab aw fw [0,2,3] ?_;simp[adB];refine aa.seq ?_;refine aa.ab aw fw [0,2,3,11] ?_;simp[adC,h1,h2];refine aa.cond rfl (λg=>?_) (λg=>?_)
 ·have g:v.s.heap=[]:=by simpa using g
  rw[if_pos g]at hR hRV;refine aa.ab aw fw [2,3] ?_;simp[adD];rw[<-hR];refine aa.le (CR v.s (l:=[(2,.v (ti 0)),(3,.v (.bool false))]) (nxt':=N+1000) bj h (by omega) (Zae _) ?_ ?_ ?_ ?_ ?_ ?_) ?_
  ·simp;omega
  ·simp[nq,Nat.add_assoc,h.q]
  ·simp[np,Nat.add_assoc,h.hp]
  ·simp[nm,Nat.add_assoc,h.m]
  ·simp[na,Nat.add_assoc]
  ·simp
  refine aa.ret ?_;simp[K9,hRV]
 ·have g:¬v.s.heap=[]:=by simpa using g
  rw[if_neg g]at hR hRV;have hl:0<v.s.heap.length:=Zbr.2 g;have r0:=gr hl;have w1:IntKind.i64.wrap ((v.s.heap.length:Int)-1)=(v.s.heap.length:Int)-1:=au (by omega);obtain⟨⟨ex,eh,et⟩,he⟩:∃e,v.s.heap.getD 0 default=e:=⟨_,rfl⟩;have he2:v.s.e 0=⟨ex,eh,et⟩:=he;rw[he]at r0;rw[he2]at hRV;simp only[tH.enc]at r0;have r0':DM.rowAt (fX v.s.heap) (0:Int)=[ti ex,ti eh,ti et]:=r0;refine aa.skip ?_;simp;refine aa.iH aw fw (rs:=dd (uE q v.hp N) (fm Ua [none,none,none,none,none,none,none,none,none,some [0],some [1],none,none,some [105],none])) (.inl rfl) ((gq (Cb hqN uO n1) _ _ _).trans (by kernel_rfl)) [0,4,5] ?_;simp[Ua,dd,gK,fm,uE,ch,bm,names,h1,h2,hl,r0',w1];refine aa.le (CR v.s (l:=[(0,.ptr q 0),(4,.v (.box [ti ex,ti eh,ti et])),(5,.v (ti ((v.s.heap.length:Int)-1)))]) (nxt':=N+1000) bj h (by omega) (Zae _) ?_ ?_ ?_ ?_ ?_ ?_) ?_
  ·simp;omega
  ·simp[nq,Nat.add_assoc,h.q]
  ·simp[np,Nat.add_assoc,h.hp]
  ·simp[nm,Nat.add_assoc,h.m]
  ·simp[na,Nat.add_assoc]
  ·simp[Nat.add_assoc,lV,qB];refine cW bj (by omega) ?_;simp;omega
  have k1:=λx y=>Gi (i:=x) (j:=y) (gu h v.s);have e0:∀s',cH (cH f0 q v v.s) q (v.to v.s) s'=cH f0 q v s':=ng f0 q v v.s;simp only[QV.to]at k1 e0;have so:=ho.b8 (i:=0) (j:=(v.s.heap.length:Int)-1) ⟨by omega,by omega⟩ ⟨by omega,by omega⟩;have so2:=ho.swap (i:=0) (j:=(v.s.heap.length:Int)-1) ⟨by omega,by omega⟩ ⟨by omega,by omega⟩;refine aa.ew aw fw (rs:=K7) rfl (by kernel_rfl) [0,4,5] ?_;simp[K7,k1,so,e0];obtain⟨P,hP⟩:∃P,lW v.s=P:=⟨_,rfl⟩;have hPok:=Oe ho zm hl;rw[hP]at hPok hR;obtain⟨S1,yV⟩:∃S1,v.s.swap 0 ((v.s.heap.length:Int)-1)=S1:=⟨_,rfl⟩;have hPd:P=⟨S1.heap.take (v.s.heap.length-1),S1.ver+1,nK S1.es eh,S1.mc,S1.next,S1.clock⟩:=by rw[<-hP,<-yV];simp only[lW,he2]
  have hSl:S1.heap.length=v.s.heap.length:=by rw[<-yV];simp
  have hSv:S1.ver=v.s.ver:=by rw[<-yV];simp
  rw[yV];have zy:=gu h S1;have j1:=zy.q;have j2:=zy.hp;have j3:=zy.m;simp only[qB,hB,mB]at j1 j2 j3;refine aa.ab aw fw [0,4] ?_;simp[adE,j1,j2,hSl];refine⟨⟨by omega,by omega⟩, ?_⟩;obtain⟨G,hG⟩:∃G,cH f0 q v R=G:=⟨_,rfl⟩;rw[hG];simp only[cH,Pj];refine aa.le (Le.cut q 1 (q:=v.hp) (ver:=S1.ver) (n:=v.s.heap.length-1) (e:=177) (sz:=3) (rows:=fX S1.heap) (cs:=[.mF (.func 55) [.ptr v.a 0],.s8 v.hp S1.ver 0 (v.s.heap.length-1),.iC v.m,.v (ti S1.next),.v (ti S1.clock)]) ?_ rfl ?_) ?_
  ·simp
  ·simp[XH,hB]
  rw[kS,kS];simp only[Zcz,Zce];refine aa.ab aw fw [0,4] ?_;simp[adF,WC,Y2,mB,WB];refine aa.le (CR P (l:=[(0,.ptr q 0),(4,.v (.box [ti ex,ti eh,ti et]))]) (nxt':=N+4000) bj h (by omega) (by rw[hPd];simp[hSv]) ?_ ?_ ?_ ?_ ?_ ?_) ?_
  ·simp
  ·rw[hPd];simp[n2,qB]
  ·rw[hPd];simp[XH,n3,hB,L9]
  ·rw[hPd];simp[mB]
  ·simp[n4,n5,n6]
  ·simp[lV,qB]
  have k2:=λx=>N6 (i:=x) (gu h P);have e1:∀s',cH (cH f0 q v P) q (v.to P) s'=cH f0 q v s':=ng f0 q v P;simp only[QV.to]at k2 e1;have hPl:P.heap.length<=1000000:=by rw[hPd];simp;omega
  refine aa.ew aw fw (rs:=K8) rfl (by kernel_rfl) [4] ?_;simp[K8,k2,hPok,e1,hR,hPl,hG];refine aa.ab aw fw [2,3] ?_;simp[adG];refine aa.ret ?_;simp[K9,hRV]
noncomputable def Om:List DV->aU->iD
 |[.ptr q 0],f=>⟨(∃v:QV,v.at f q)/\Ce (fI f q).s (fI f q).l.best,.v (Jz (fI f q).s),cH f q (fI f q) (ke (fI f q).l.best (fI f q).s)⟩
 |_,f=>⟨False,.undef,f⟩
theorem k85_eq{v:QV}{f:aU}{q:Nat}(h:v.at f q):Om [.ptr q 0] f=⟨Ce v.s v.l.best,.v (Jz v.s),cH f q v (ke v.l.best v.s)⟩:=by
 have hx:∃v:QV,v.at f q:=⟨v,h⟩;simp only[Om,gY h,hx,true_and]
theorem k85_ok:∀args objs,(Om args objs).ok->(∀N,(∀r,N<=r->objs r=none)->aZ Tryz.prog 85 args objs (Om args objs))/\∀r,objs r=none->(Om args objs).objs r=none:=by
 intro args objs h;unfold Om at h⊢;split at h
 ·rename_i q;obtain⟨⟨v,hv⟩,hs⟩:=h;rw[gY hv]at hs⊢;exact⟨λN hN=>aZ.of (t85 hN hv hs) rfl rfl,λr hr=>mA hv _ hr⟩
 ·exact h.elim
theorem ok85{l:List (Nat×DM.Spec)}(h:ay Tryz.prog (aW l)):ay Tryz.prog (aW ((85,fa Om)::l)):=ay.gV h k85_ok
def kZ(s:Qs)(i:Nat)(x:Int):Qs:=⟨s.heap.set i ⟨x,(s.e i).h,s.clock⟩,s.ver,s.es,s.mc,s.next,s.clock+1⟩
def CQ(best:List br)(s:Qs)(i:Nat)(x:Int):Qs:=DX best i (kZ s i x)
def qF(best:List br)(s:Qs)(hd x:Int):Qs:=
 kJ best ((jI (CQ best s ((jI s.es hd).getD 0).toNat x).es hd).getD 0).toNat (CQ best s ((jI s.es hd).getD 0).toNat x)
structure I8(s:Qs)(best:List br)(hd x:Int):Prop where
 ok:s.ok best
 at':∃i:Nat,jI s.es hd=some (i:Int)/\i<s.heap.length/\∃j:Nat,jI (CQ best s i x).es hd=some (j:Int)/\j<=1000000
 x:0<=x/\x<best.length
 len:s.heap.length<=1000000
 clock:0<=s.clock/\s.clock<=1000000000000
theorem N4{s:Qs}{best:List br}{i:Nat}{x:Int}(h:s.ok best)(hi:i<s.heap.length)(hx:0<=x/\x<best.length):(kZ s i x).ok best:=by
 refine⟨h.pl,h.st,λe he=>?_,λe he=>?_⟩
 ·rcases ZaZ he with he|rfl
  ·exact h.has e he
  ·exact h.has (s.e (i:Int)) (bw (by simpa using hi))
 ·rcases ZaZ he with he|rfl
  ·exact h.r e he
  ·exact hx
theorem Mb{best:List br}:∀{i:Nat} {s:Qs},s.ok best->i<s.heap.length->(DX best i s).ok best/\(DX best i s).heap.length=s.heap.length/\(DX best i s).ver=s.ver:=by
 intro i;induction i using Nat.strongRecOn with
 |_ i ih=>
  intro s h hi;unfold DX;split
  ·rename_i hc;have hk:=h.swap (i:=i) (j:=((i-1)/2:Nat)) ⟨by omega,by omega⟩ ⟨by omega,by omega⟩;obtain⟨a,b,c⟩:=ih ((i-1)/2) (by omega) hk (by simp;omega);exact⟨a,by simpa using b,by simpa using c⟩
  ·exact⟨h,rfl,rfl⟩
theorem I9{l:Pl}{k v:Int}(h:jI l k=some v):∃e:Nat×Int×Int,l.find? (λe=>e.2.1==k)=some e/\e.2.2=v:=by
 unfold jI at h;obtain⟨e,h1,h2⟩:=Zab.1 h;exact⟨e,h1,h2⟩
theorem wg{l:Pl}{k v:Int}(h:jI l k=some v):∃b:Nat,oH (ti k) (wN l)=some (b,ti k,.v (ti v)):=by
 obtain⟨⟨b,k',v'⟩,h1,h2⟩:=I9 h;simp only at h2;subst h2;have:=ZcN h1;simp at this;subst this;exact⟨b,by rw[I5,h1];rfl⟩
theorem t81{f0:aU}{q N:Nat}{hd x:Int}{v:QV}(hN:∀r,N<=r->f0 r=none)(h:v.at f0 q)(hs:I8 v.s v.l.best hd x):
  aZ Tryz.prog 81 [.ptr q 0,.v (ti hd),.v (ti x)] f0 ⟨True,.v (.bool true),cH f0 q v (qF v.l.best v.s hd x)⟩:=by
 obtain⟨ho,⟨i,hg,hi,j,hg2,hj⟩,hx,hlen,wL⟩:=hs;have hU1:=N4 ho hi hx;have hU2:=Mb hU1 (i:=i) (by simp[kZ];exact hi);obtain⟨b1,hf1⟩:=wg hg;obtain⟨b2,YJ⟩:=wg hg2;obtain⟨R,hR⟩:∃R,qF v.l.best v.s hd x=R:=⟨_,rfl⟩;rw[hR];unfold qF at hR;rw[hg]at hR;simp only[Zbc,Zai]at hR;rw[hg2]at hR;simp only[Zbc,Zai]at hR;have Y1:CQ v.l.best v.s i x=DX v.l.best i (kZ v.s i x):=rfl;rw[<-Y1]at hU2;obtain⟨S2,hS2⟩:∃S2,CQ v.l.best v.s i x=S2:=⟨_,rfl⟩;rw[hS2]at hR hU2 YJ Y1;obtain⟨S1,yV⟩:∃S1,kZ v.s i x=S1:=⟨_,rfl⟩;rw[yV]at hU1 hU2 Y1;obtain⟨u1,u2,u3⟩:=hU2;have hS1l:S1.heap.length=v.s.heap.length:=by rw[<-yV];simp[kZ]
 have aw:=ok109 (ok110 ay.nil);refine c81.uM hN (by simp) λbj=>?_;have lV:∀s,cH f0 q v s q=some (qB v.a v.hp v.m s):=λs=>(gu h s).q;obtain⟨n1,n2,n3,n4,n5,n6,_,_,_,_,_,_⟩:=h.ne;have XH:=Ne.symm n1;have WC:=Ne.symm n2;have Y2:=Ne.symm n3;have h1:=h.q;have h2:=h.hp;have h3:=h.m;simp only[qB,hB,mB]at h1 h2 h3;have r0:=gr hi;obtain⟨⟨ox,oh,ot⟩,he⟩:∃e,v.s.heap.getD i default=e:=⟨_,rfl⟩;have he2:v.s.e (i:Int)=⟨ox,oh,ot⟩:=by simpa using he
 rw[he]at r0;simp only[tH.enc]at r0;have Y3:S1=⟨v.s.heap.set i ⟨x,oh,v.s.clock⟩,v.s.ver,v.s.es,v.s.mc,v.s.next,v.s.clock+1⟩:=by rw[<-yV];simp only[kZ,he2]
 have w1:IntKind.i64.wrap (v.s.clock+1)=v.s.clock+1:=au (by omega);simp;refine aa.ab aw fw [0,1,2] ?_;simp[adH];refine aa.ab aw fw [0,1,2,7,8] ?_;simp[adI,h1,h3,hf1];refine aa.seq ?_;refine aa.ab aw fw [0,1,2,7,19] ?_;simp[adJ];refine aa.cond rfl (λg=>by cases g) (λg=>?_);refine aa.skip ?_;simp;have me:∀y,DM.rowAt ((fX v.s.heap).set i y) (i:Int)=y:=λy=>by simp[DM.rowAt,hi]
 refine aa.ab aw fw [0,1,7] ?_;simp[adK,h1,h2,hi,r0,me];refine aa.ab aw fw [0,1,7] ?_;simp[adL,h1,w1,n1];refine aa.le (CR (v:=v) S1 (l:=[(0,.ptr q 0),(1,.v (ti hd)),(7,.v (ti (i:Int)))]) (nxt':=N+2000) bj h (by omega) (by rw[Y3];exact Zae _) ?_ ?_ ?_ ?_ ?_ ?_) ?_
 ·simp
 ·rw[Y3];simp[qB]
 ·rw[Y3];simp[XH,hB,sT];rfl
 ·rw[Y3];simp[WC,Y2,mB,h3]
 ·simp[n4,n5]
 ·simp[lV,qB]
 have k1:=λy=>N5 (i:=y) (gu h S1);have e0:∀s',cH (cH f0 q v S1) q (v.to S1) s'=cH f0 q v s':=ng f0 q v S1;simp only[QV.to]at k1 e0;refine aa.ew aw fw (rs:=La) rfl (by kernel_rfl) [0,1] ?_;simp[La,k1,hU1,hS1l,hi,hlen,e0,<-Y1];have k2:=λy=>N6 (i:=y) (gu h S2);have e1:∀s',cH (cH f0 q v S2) q (v.to S2) s'=cH f0 q v s':=ng f0 q v S2;have jn:=gu h S2;have j1:=jn.q;have j3:=jn.m;simp only[QV.to,qB,mB]at k2 e1 j1 j3;have u2':S2.heap.length<=1000000:=by omega
 refine aa.ew aw fw (rs:=Lb) rfl (by kernel_rfl) [] ?_;simp[Lb,j1,j3,YJ,k2,u1,u2',e1,hR];refine⟨by omega, ?_⟩;refine aa.ab aw fw [6] ?_;simp[adM];refine aa.ret ?_;simp[Ub]
noncomputable def WD:List DV->aU->iD
 |[.ptr q 0,.v (.int .i64 hd),.v (.int .i64 x)],f=>⟨(∃v:QV,v.at f q)/\I8 (fI f q).s (fI f q).l.best hd x,.v (.bool true),cH f q (fI f q) (qF (fI f q).l.best (fI f q).s hd x)⟩
 |_,f=>⟨False,.undef,f⟩
theorem k81_eq{v:QV}{f:aU}{q:Nat}{hd x:Int}(h:v.at f q):WD [.ptr q 0,.v (ti hd),.v (ti x)] f=⟨I8 v.s v.l.best hd x,.v (.bool true),cH f q v (qF v.l.best v.s hd x)⟩:=by
 have hx:∃v:QV,v.at f q:=⟨v,h⟩;simp only[WD,gY h,hx,true_and]
theorem k81_ok:∀args objs,(WD args objs).ok->(∀N,(∀r,N<=r->objs r=none)->aZ Tryz.prog 81 args objs (WD args objs))/\∀r,objs r=none->(WD args objs).objs r=none:=by
 intro args objs h;unfold WD at h⊢;split at h
 ·rename_i q hd x;obtain⟨⟨v,hv⟩,hs⟩:=h;rw[gY hv]at hs⊢;exact⟨λN hN=>aZ.of (t81 hN hv hs) rfl rfl,λr hr=>mA hv _ hr⟩
 ·exact h.elim
theorem ok81{l:List (Nat×DM.Spec)}(h:ay Tryz.prog (aW l)):ay Tryz.prog (aW ((81,fa WD)::l)):=ay.gV h k81_ok
theorem la{best:List br}{a b c:tH}(h:¬oi best b a)(k:¬oi best c b):¬oi best c a:=by
 unfold oi at*
 generalize bv best a.x=u at*
 generalize bv best b.x=v at*
 generalize bv best c.x=w at*
 obtain⟨u1,u2⟩:=u;obtain⟨v1,v2⟩:=v;obtain⟨w1,w2⟩:=w;simp only[br.lt]at*
 omega
theorem Ga{best:List br}(a:tH):¬oi best a a:=by
 unfold oi;generalize bv best a.x=u;obtain⟨u1,u2⟩:=u;simp only[br.lt];omega
theorem B7{best:List br}{a b:tH}(h:oi best a b):¬oi best b a:=by
 unfold oi at*
 generalize bv best a.x=u at*
 generalize bv best b.x=v at*
 obtain⟨u1,u2⟩:=u;obtain⟨v1,v2⟩:=v;simp only[br.lt]at*
 omega
def uC(best:List br)(s:Qs):Prop:=∀i:Nat,0<i->i<s.heap.length->¬oi best (s.e i) (s.e ((i-1)/2:Nat))
theorem Mu{best:List br}{s:Qs}(h:uC best s):∀i:Nat,i<s.heap.length->¬oi best (s.e i) (s.e (0:Nat)):=by
 intro i;induction i using Nat.strongRecOn with
 |_ i ih=>
  intro hi;by_cases hz:i=0
  ·subst hz;exact Ga _
  ·exact la (ih ((i-1)/2) (by omega) (by omega)) (h i (by omega) hi)
theorem oj{s:Qs}{i j k:Nat}(hi:i<s.heap.length)(hj:j<s.heap.length)(hk:k<s.heap.length):(s.swap i j).e k=if k=j then s.e i else if k=i then s.e j else s.e k:=by
 simp only[Qs.swap,Qs.e,Zai,List.getD,Zbx];by_cases h1:k=j
 ·subst h1;simp[hj]
 ·by_cases h2:k=i
  ·subst h2;have:¬j=k:=λe=>h1 e.symm;simp[this,h1,hi]
  ·have a1:¬j=k:=λe=>h1 e.symm;have a2:¬i=k:=λe=>h2 e.symm;simp[a1,a2,h1,h2]
theorem N7{best:List br}:∀{i:Nat} {s:Qs},i<s.heap.length->(∀k:Nat,0<k->k<s.heap.length->k≠i->¬oi best (s.e k) (s.e ((k-1)/2:Nat)))->
  (∀k:Nat,0<k->k<s.heap.length->(k-1)/2=i->0<i->¬oi best (s.e k) (s.e ((i-1)/2:Nat)))->uC best (DX best i s):=by
 intro i;induction i using Nat.strongRecOn with
 |_ i ih=>
  intro s hi h1 h2;unfold DX;split
  ·rename_i hc;obtain⟨c1,c2⟩:=hc;obtain⟨y,hy⟩:∃y,(i-1)/2=y:=⟨_,rfl⟩;rw[hy]at c2⊢;have tp:y<s.heap.length:=by omega
   have E:=λ{k:Nat} (hk:k<s.heap.length)=>oj (s:=s) (i:=i) (j:=y) hi tp hk;refine ih y (by omega) (by simpa using tp) (λk k1 k2 k3=>?_) (λk k1 k2 k3 k4=>?_)
   ·simp only[Qs.iA]at k2;rw[E k2,E (k:=(k-1)/2) (by omega)];by_cases e1:k=i
    ·subst e1;rw[if_neg k3,if_pos rfl,hy,if_pos rfl];exact B7 c2
    ·rw[if_neg k3,if_neg e1];by_cases e2:(k-1)/2=y
     ·rw[if_pos e2];have:=h1 k k1 k2 e1;rw[e2]at this;exact la (B7 c2) this
     ·rw[if_neg e2];by_cases e3:(k-1)/2=i
      ·rw[if_pos e3];have:=h2 k k1 k2 e3 c1;rw[hy]at this;exact this
      ·rw[if_neg e3];exact h1 k k1 k2 e1
   ·simp only[Qs.iA]at k2;rw[E k2,E (k:=(y-1)/2) (by omega)];have p1:¬(y-1)/2=y:=by omega
    have p2:¬(y-1)/2=i:=by omega
    have p3:¬k=y:=by omega
    rw[if_neg p1,if_neg p2,if_neg p3];have hpy:=h1 y k4 tp (by omega);by_cases e1:k=i
    ·rw[if_pos e1];exact hpy
    ·rw[if_neg e1];have:=h1 k k1 k2 e1;rw[k3]at this;exact la hpy this
  ·rename_i hc;intro k k1 k2;by_cases e:k=i
   ·subst e;exact λhb=>hc ⟨k1,hb⟩
   ·exact h1 k k1 k2 e
theorem N8(best:List br)(s:Qs)(i:Nat):∀t,¬oi best (s.e i) (s.e (Gt best s i t))/\∀u,u<t->¬oi best (s.e (2*i+1+u:Nat)) (s.e (Gt best s i t))
 |0=>⟨Ga _,λu hu=>by omega⟩
 |t+1=>by
  obtain⟨h1,h2⟩:=N8 best s i t;unfold Gt;split
  ·rename_i hc;have ha:=B7 hc;refine⟨la ha h1,λu hu=>?_⟩;by_cases e:u=t
   ·subst e;exact Ga _
   ·exact la ha (h2 u (by omega))
  ·rename_i hc;refine⟨h1,λu hu=>?_⟩;by_cases e:u=t
   ·subst e;exact hc
   ·exact h2 u (by omega)
theorem PW(best:List br)(s:Qs)(i:Nat):¬oi best (s.e i) (s.e (gv best s i))/\∀k:Nat,0<k->k<s.heap.length->(k-1)/2=i->¬oi best (s.e k) (s.e (gv best s i)):=by
 obtain⟨h1,h2⟩:=N8 best s i (kids s i);refine⟨h1,λk k1 k2 k3=>?_⟩;have:=h2 (k-(2*i+1)) (by unfold kids;omega);rw[show 2*i+1+(k-(2*i+1))=k by omega]at this;exact this
theorem PX(best:List br)(s:Qs)(i:Nat):gv best s i=i\/((gv best s i-1)/2=i/\i<gv best s i/\gv best s i<s.heap.length):=by
 have:=Gb best s i (kids s i);have h3:=oZ best s i;unfold gv at*
 unfold kids at*
 omega
theorem D2{best:List br}:∀{n:Nat} {i:Nat} {s:Qs},s.heap.length-i=n->(∀k:Nat,0<k->k<s.heap.length->(k-1)/2≠i->¬oi best (s.e k) (s.e ((k-1)/2:Nat)))->
  (∀k:Nat,0<k->k<s.heap.length->(k-1)/2=i->0<i->¬oi best (s.e k) (s.e ((i-1)/2:Nat)))->uC best (kJ best i s):=by
 intro n;induction n using Nat.strongRecOn with
 |_ n ih=>
  intro i s hn h1 h2;obtain⟨m1,m2⟩:=PW best s i;have hp:=PX best s i;unfold kJ;split
  ·rename_i he;intro k k1 k2;by_cases e:(k-1)/2=i
   ·rw[e];have:=m2 k k1 k2 e;rw[he]at this;exact this
   ·exact h1 k k1 k2 e
  ·rename_i he;obtain⟨j,hj⟩:∃j,gv best s i=j:=⟨_,rfl⟩;rw[hj]at m1 m2 hp he⊢;obtain⟨p1,p2,p3⟩:=hp.resolve_left he;have hi:i<s.heap.length:=by omega
   have E:=λ{k:Nat} (hk:k<s.heap.length)=>oj (s:=s) (i:=i) (j:=j) hi p3 hk;refine ih (s.heap.length-j) (by omega) (by simp) (λk k1 k2 k3=>?_) (λk k1 k2 k3 k4=>?_)
   ·simp only[Qs.iA]at k2;rw[E k2,E (k:=(k-1)/2) (by omega),if_neg k3];by_cases e1:k=j
    ·subst e1;rw[if_pos rfl,if_pos p1];exact m1
    ·rw[if_neg e1];by_cases e2:k=i
     ·subst e2;have:¬(k-1)/2=k:=by omega
      rw[if_pos rfl,if_neg this];exact h2 j (by omega) p3 p1 k1
     ·rw[if_neg e2];by_cases e3:(k-1)/2=i
      ·rw[if_pos e3];exact m2 k k1 k2 e3
      ·rw[if_neg e3];exact h1 k k1 k2 e3
   ·simp only[Qs.iA]at k2;rw[p1,E k2,E hi];have q1:¬k=j:=by omega
    have q2:¬k=i:=by omega
    have q3:¬i=j:=by omega
    rw[if_neg q1,if_neg q2,if_neg q3,if_pos rfl];have:=h1 k k1 k2 (by omega);rw[k3]at this;exact this
theorem Gc{s:Qs}{x:Int}{k:Nat}(hk:k<s.heap.length):(lL s x).e k=s.e k:=by
 simp only[lL,Qs.e,Zai,List.getD];rw[Zbk hk]
theorem PY{best:List br}{s:Qs}{x:Int}(h:uC best s):uC best (nh best s x):=by
 have hl:(lL s x).heap.length=s.heap.length+1:=by simp[lL]
 refine N7 (by omega) (λk k1 k2 k3=>?_) (λk k1 k2 k3 k4=>?_)
 ·rw[Gc (by omega),Gc (by omega)];exact h k k1 (by omega)
 ·omega
theorem PZ{best:List br}{s:Qs}(h:uC best s)(i:Nat):uC best (kJ best i s):=
 D2 rfl (λk k1 k2 _=>h k k1 k2) λk k1 k2 k3 k4=>by
  have a:=h k k1 k2;rw[k3]at a;exact la (h i k4 (by omega)) a
theorem B8{s:Qs}{k:Nat}(hk:k<s.heap.length-1):(lW s).e k=if k=0 then s.e (s.heap.length-1:Nat)else s.e k:=by
 have hj:s.heap.length-1<s.heap.length:=by omega
 have E:=oj (s:=s) (i:=0) (j:=s.heap.length-1) (k:=k) (by omega) hj (by omega);have hc:((s.heap.length-1:Nat):Int)=(s.heap.length:Int)-1:=by omega
 have:(lW s).e k=(s.swap (0:Nat) (s.heap.length-1:Nat)).e k:=by
  simp only[lW,Qs.e,Zai,List.getD,ZaF,hk,if_true,hc];rfl
 rw[this,E,if_neg (by omega)]
theorem WK{best:List br}{s:Qs}(h:uC best s):uC best (ke best s):=by
 unfold ke;split
 ·exact h
 ·rename_i bH;have CA:0<s.heap.length:=Zbr.2 bH;have hl:(lW s).heap.length=s.heap.length-1:=by
   simp only[lW,Zaw,Qs.iA];omega
  refine D2 rfl (λk k1 k2 k3=>?_) (λk k1 k2 k3 k4=>by omega);rw[hl]at k2;rw[B8 k2,B8 (by omega),if_neg (by omega),if_neg k3];exact h k k1 (by omega)
theorem P0(c:Nat)(k v:Int):eD [] c k v=[(c,k,v)]:=rfl
theorem Mv(a:Nat×Int×Int)(l:Pl)(c:Nat)(k v:Int):eD (a::l) c k v=if a.2.1=k then(a.1,a.2.1,v)::l else a::eD l c k v:=by
 unfold eD sU;rw[Za3];by_cases h:a.2.1=k
 ·simp[h]
 ·have:(a.2.1==k)=false:=by simpa using h
  rw[this,if_neg h];simp only[ZaK,if_false];cases List.findIdx? (λe=>e.2.1==k) l<;>simp
theorem P1(k:Int):jI [] k=none:=rfl
theorem ju(a:Nat×Int×Int)(l:Pl)(k:Int):jI (a::l) k=if a.2.1=k then some a.2.2 else jI l k:=by
 unfold jI;rw[ZaO];by_cases h:a.2.1=k
 ·simp[h]
 ·have:(a.2.1==k)=false:=by simpa using h
  rw[this,if_neg h]
theorem xW(l:Pl)(c:Nat)(k v k':Int):jI (eD l c k v) k'=if k'=k then some v else jI l k':=by
 induction l with
 |nil=>
  rw[P0,ju,P1];by_cases h:k'=k
  ·simp[h]
  ·have:¬k=k':=λe=>h e.symm;simp[h,this]
 |cons a l ih=>
  rw[Mv];by_cases h:a.2.1=k
  ·rw[if_pos h,ju,ju];simp only;by_cases h2:k'=k
   ·rw[if_pos h2,if_pos (by rw[h,h2])]
   ·have:¬a.2.1=k':=λe=>h2 (e▸h);rw[if_neg h2,if_neg this,if_neg this]
  ·rw[if_neg h,ju,ju,ih];by_cases h2:k'=k
   ·have:¬a.2.1=k':=λe=>h (e.trans h2);simp[h2,h]
   ·simp[h2]
def dH(s:Qs):Prop:=∀k:Nat,k<s.heap.length->jI s.es (s.e k).h=some (k:Int)
theorem dH.nd{s:Qs}(h:dH s):s.nd:=λi j hi hj he=>by
 have h1:=h i hi;have h2:=h j hj;rw[he,h2]at h1;simp only[Zaa]at h1;omega
theorem uD{s:Qs}(h:dH s){i j:Nat}(hi:i<s.heap.length)(hj:j<s.heap.length):dH (s.swap i j):=by
 intro k hk;rw[Qs.iA]at hk;rw[oj hi hj hk];show jI (eD (eD s.es s.mc (s.e j).h i) s.mc (s.e i).h j) _=_;rw[xW,xW];have nd:=h.nd;by_cases h1:k=j
 ·subst h1;rw[if_pos rfl,if_pos rfl]
 ·rw[if_neg h1];by_cases h2:k=i
  ·subst h2;rw[if_pos rfl];by_cases h3:(s.e j).h=(s.e k).h
   ·have:=nd j k hj hk h3;exact absurd this.symm h1
   ·rw[if_neg h3,if_pos rfl]
  ·rw[if_neg h2,if_neg (λe=>h2 (nd k i hk hi e)),if_neg (λe=>h1 (nd k j hk hj e))];exact h k hk
theorem B9{best:List br}:∀{i:Nat} {s:Qs},i<s.heap.length->dH s->dH (DX best i s):=by
 intro i;induction i using Nat.strongRecOn with
 |_ i ih=>
  intro s hi h;unfold DX;split
  ·exact ih _ (by omega) (by simp;omega) (uD h hi (by omega))
  ·exact h
theorem Ca{best:List br}:∀{n:Nat} {i:Nat} {s:Qs},s.heap.length-i=n->dH s->dH (kJ best i s):=by
 intro n;induction n using Nat.strongRecOn with
 |_ n ih=>
  intro i s hn h;unfold kJ;split
  ·exact h
  ·rename_i he;have hp:=(oZ best s i).resolve_left he;exact ih (s.heap.length-gv best s i) (by omega) (by simp) (uD h (by omega) hp.2)
theorem fY{s:Qs}{e:tH}:e∈s.heap↔∃k:Nat,k<s.heap.length/\s.e k=e:=by
 constructor
 ·intro h;obtain⟨k,hk,rfl⟩:=ZaY h;exact⟨k,hk,by simp[Qs.e,List.getD,hk]⟩
 ·rintro⟨k,hk,rfl⟩;simp only[Qs.e,Zai];exact bw hk
theorem wq{s:Qs}{i j:Nat}(hi:i<s.heap.length)(hj:j<s.heap.length)(e:tH):e∈(s.swap i j).heap↔e∈s.heap:=by
 rw[fY,fY];simp only[Qs.iA];constructor
 ·rintro⟨k,hk,rfl⟩;rw[oj hi hj hk];split
  ·exact⟨i,hi,rfl⟩
  ·split
   ·exact⟨j,hj,rfl⟩
   ·exact⟨k,hk,rfl⟩
 ·rintro⟨k,hk,rfl⟩;by_cases h1:k=j
  ·subst h1;by_cases h2:i=k
   ·subst h2;exact⟨i,hi,by rw[oj hi hi hi];simp⟩
   ·exact⟨i,hi,by rw[oj hi hk hi,if_neg h2,if_pos rfl]⟩
  ·by_cases h2:k=i
   ·subst h2;exact⟨j,hj,by rw[oj hk hj hj,if_pos rfl]⟩
   ·exact⟨k,hk,by rw[oj hi hj hk,if_neg h1,if_neg h2]⟩
structure sb(s s':Qs):Prop where
 len:s'.heap.length=s.heap.length
 mem:∀e,e∈s'.heap↔e∈s.heap
 next:s'.next=s.next
 clock:s'.clock=s.clock
 mc:s'.mc=s.mc
 ver:s'.ver=s.ver
theorem sb.refl(s:Qs):sb s s:=⟨rfl,λ_=>Iff.rfl,rfl,rfl,rfl,rfl⟩
theorem sb.trans{a b c:Qs}(h:sb a b)(k:sb b c):sb a c:=⟨k.len.trans h.len,λe=>(k.mem e).trans (h.mem e),k.next.trans h.next,k.clock.trans h.clock,k.mc.trans h.mc,k.ver.trans h.ver⟩
theorem D3{s:Qs}{i j:Nat}(hi:i<s.heap.length)(hj:j<s.heap.length):sb s (s.swap i j):=⟨by simp,wq hi hj,rfl,rfl,rfl,rfl⟩
theorem zO{best:List br}:∀{i:Nat} {s:Qs},i<s.heap.length->sb s (DX best i s):=by
 intro i;induction i using Nat.strongRecOn with
 |_ i ih=>
  intro s hi;unfold DX;split
  ·exact(D3 hi (by omega)).trans (ih _ (by omega) (by simp;omega))
  ·exact sb.refl s
theorem o5{best:List br}:∀{n:Nat} {i:Nat} {s:Qs},s.heap.length-i=n->sb s (kJ best i s):=by
 intro n;induction n using Nat.strongRecOn with
 |_ n ih=>
  intro i s hn;unfold kJ;split
  ·exact sb.refl s
  ·rename_i he;have hp:=(oZ best s i).resolve_left he;exact(D3 (by omega) hp.2).trans (ih (s.heap.length-gv best s i) (by omega) (by simp))
theorem N9{best:List br}:∀{n:Nat} {i:Nat} {s:Qs},s.heap.length-i=n->s.ok best->(kJ best i s).ok best:=by
 intro n;induction n using Nat.strongRecOn with
 |_ n ih=>
  intro i s hn h;unfold kJ;split
  ·exact h
  ·rename_i he;have hp:=(oZ best s i).resolve_left he;exact ih (s.heap.length-gv best s i) (by omega) (by simp) (h.swap ⟨by omega,by omega⟩ ⟨by omega,by omega⟩)
theorem Mw(a:Nat×Int×Int)(l:Pl)(k:Int):nK (a::l) k=if a.2.1=k then l else a::nK l k:=by
 unfold nK sU;rw[Za3];by_cases h:a.2.1=k
 ·simp[h]
 ·have:(a.2.1==k)=false:=by simpa using h
  rw[this,if_neg h];simp only[ZaK,if_false];cases List.findIdx? (λe=>e.2.1==k) l<;>simp
theorem P2{l:Pl}{k k':Int}(h:k'≠k):jI (nK l k) k'=jI l k':=by
 induction l with
 |nil=>rfl
 |cons a l ih=>
  rw[Mw,ju];by_cases h1:a.2.1=k
  ·have:¬a.2.1=k':=λe=>h (e.symm.trans h1);rw[if_pos h1,if_neg this]
  ·rw[if_neg h1,ju,ih]
theorem Mx{best:List br}{s:Qs}{x:Int}(h:dH s)(hn:∀e∈s.heap,e.h≠s.next):dH (nh best s x):=by
 have hl:(lL s x).heap.length=s.heap.length+1:=by simp[lL]
 refine B9 (by omega) λk hk=>?_;rw[hl]at hk;show jI (eD s.es s.mc s.next s.heap.length) _=_;rw[xW];by_cases h1:k<s.heap.length
 ·rw[Gc h1,if_neg (hn _ (fY.2 ⟨k,h1,rfl⟩))];exact h k h1
 ·obtain rfl:k=s.heap.length:=by omega
  have:(lL s x).e (s.heap.length:Nat)=⟨x,s.next,s.clock⟩:=by simp[lL,Qs.e,List.getD]
  rw[this,if_pos rfl]
theorem P3{best:List br}{s:Qs}(h:dH s):dH (ke best s):=by
 unfold ke;split
 ·exact h
 ·rename_i bH;have CA:0<s.heap.length:=Zbr.2 bH;have hl:(lW s).heap.length=s.heap.length-1:=by
   simp only[lW,Zaw,Qs.iA];omega
  have hc:((s.heap.length-1:Nat):Int)=(s.heap.length:Int)-1:=by omega
  have z8:=uD h (i:=0) (j:=s.heap.length-1) CA (by omega);refine Ca rfl λk hk=>?_;rw[hl]at hk;have he:(lW s).e k=(s.swap (0:Nat) (s.heap.length-1:Nat)).e k:=by
   simp only[lW,Qs.e,Zai,List.getD,ZaF,hk,if_true,hc];rfl
  have pa:(lW s).es=nK (s.swap (0:Nat) (s.heap.length-1:Nat)).es (s.e (0:Nat)).h:=by
   simp only[lW,hc];rfl
  rw[he,pa,P2]
  ·exact z8 k (by simp;omega)
  ·rw[oj CA (by omega) (by omega),if_neg (by omega)];have nd:=h.nd;by_cases h1:k=0
   ·subst h1;rw[if_pos rfl];exact λe=>by have:=nd (s.heap.length-1) 0 (by omega) CA e;omega
   ·rw[if_neg h1];exact λe=>h1 (nd k 0 (by omega) CA e)
theorem xX{best:List br}{x y:Int}{v:br}(hx:0<=x/\x<best.length)(hy:0<=y):bv (best.set x.toNat v) y=if y=x then v else bv best y:=by
 unfold bv;simp only[List.getD,Zbx];by_cases h:y=x
 ·subst h;have:y.toNat<best.length:=by omega
  simp[this]
 ·have:¬x.toNat=y.toNat:=by omega
  simp[this,h]
theorem pY{s:Qs}{i k:Nat}{x:Int}(hi:i<s.heap.length):(kZ s i x).e k=if k=i then⟨x,(s.e i).h,s.clock⟩else s.e k:=by
 simp only[kZ,Qs.e,Zai,List.getD,Zbx];by_cases h:k=i
 ·subst h;simp[hi]
 ·have:¬i=k:=λe=>h e.symm;simp[this,h]
theorem WL{best:List br}{s:Qs}{i:Nat}{x:Int}{v:br}(h:uC best s)(hr:s.inR best)(hi:i<s.heap.length)(hx:0<=x/\x<best.length)(UK:(s.e i).x=x)
  (ho:∀k:Nat,k<s.heap.length->k≠i->(s.e k).x≠x) (hv:v.lt (bv best x)):uC (best.set x.toNat v) (CQ (best.set x.toNat v) s i x):=by
 have hl:(kZ s i x).heap.length=s.heap.length:=by simp[kZ]
 have OF:∀k:Nat,k<s.heap.length->0<=(s.e k).x:=λk hk=>(hr _ (fY.2 ⟨k,hk,rfl⟩)).1;have c6:∀k:Nat,k<s.heap.length->k≠i->bv (best.set x.toNat v) (s.e k).x=bv best (s.e k).x:=λk hk bH=>by
  rw[xX hx (OF k hk),if_neg (ho k hk bH)]
 have Zd:∀k l:Nat,k<s.heap.length->l<s.heap.length->k≠i->l≠i->¬oi best (s.e k) (s.e l)->¬oi (best.set x.toNat v) (s.e k) (s.e l):=by
  intro k l hk qx bH hne2 hb;unfold oi at hb⊢;rw[c6 k hk bH,c6 l qx hne2];exact hb
 refine N7 (by omega) (λk k1 k2 k3=>?_) (λk k1 k2 k3 k4=>?_)
 ·rw[hl]at k2;rw[pY hi,pY hi,if_neg k3];by_cases e:(k-1)/2=i
  ·rw[if_pos e];have hb:=h k k1 k2;rw[e]at hb;unfold oi at hb⊢;rw[c6 k k2 k3,xX hx hx.1,if_pos rfl];rw[UK]at hb;generalize bv best (s.e k).x=w at*
   generalize bv best x=u at*
   obtain⟨u1,u2⟩:=u;obtain⟨v1,v2⟩:=v;obtain⟨w1,w2⟩:=w;simp only[br.lt]at*
   omega
  ·rw[if_neg e];exact Zd k _ k2 (by omega) k3 e (h k k1 k2)
 ·rw[hl]at k2;have n1:k≠i:=by omega
  have n2:¬(i-1)/2=i:=by omega
  rw[pY hi,pY hi,if_neg n1,if_neg n2];have a:=h k k1 k2;rw[k3]at a;exact Zd k _ k2 (by omega) n1 n2 (la (h i k4 hi) a)
theorem Cc{s:Qs}{i:Nat}{x:Int}(h:dH s)(hi:i<s.heap.length):dH (kZ s i x):=by
 intro k hk;have hl:(kZ s i x).heap.length=s.heap.length:=by simp[kZ]
 rw[hl]at hk;rw[pY hi];show jI s.es _=_;by_cases h1:k=i
 ·subst h1;rw[if_pos rfl];exact h k hk
 ·rw[if_neg h1];exact h k hk
theorem WM{s:Qs}{best:List br}{i:Nat}{x:Int}(ho:s.ok best)(hp:dH s)(hi:i<s.heap.length)(hx:0<=x/\x<best.length)(hl:s.heap.length<=1000000)(hc:0<=s.clock/\s.clock<=1000000000000):I8 s best (s.e i).h x:=by
 have wJ:(kZ s i x).heap.length=s.heap.length:=by simp[kZ]
 have MT:dH (CQ best s i x):=B9 (by omega) (Cc hp hi);have hs:=zO (best:=best) (i:=i) (s:=kZ s i x) (by omega);have hm:(⟨x,(s.e i).h,s.clock⟩:tH)∈(CQ best s i x).heap:=(hs.mem _).2 (fY.2 ⟨i,by omega,by rw[pY hi,if_pos rfl]⟩);obtain⟨j,hj,he⟩:=fY.1 hm;have XA:=MT j hj;rw[he]at XA;have hlen:(CQ best s i x).heap.length=s.heap.length:=hs.len.trans wJ;exact⟨ho,⟨i,hp i hi,hi,j,XA,by omega⟩,hx,hl,hc⟩
theorem P4{s:Qs}{best:List br}{i:Nat}{x:Int}(hp:dH s)(hi:i<s.heap.length):dH (qF best s (s.e i).h x):=by
 have wJ:(kZ s i x).heap.length=s.heap.length:=by simp[kZ]
 unfold qF;rw[hp i hi];simp only[Zbc,Zai];exact Ca rfl (B9 (by omega) (Cc hp hi))
theorem P5{best:List br}{s:Qs}{i:Nat}{x:Int}(hp:dH s)(hi:i<s.heap.length)(h:uC best (CQ best s i x)):uC best (qF best s (s.e i).h x):=by
 unfold qF;rw[hp i hi];simp only[Zbc,Zai];exact PZ h _
theorem BU(st:Int)(f:Nat):(f:Int)*st-((f:Int)*((f:Int)-1)).tdiv 2=pre st f:=by
 have h:=FE st f;obtain⟨k,hk⟩:∃k:Nat,f*(f-1)=2*k:=by
  rcases(show(∃a,f=2*a)\/∃a,f=2*a+1 from by
   by_cases e:f % 2=0
   ·exact .inl ⟨f/2,by omega⟩
   ·exact .inr ⟨f/2,by omega⟩)with h|h
  ·obtain⟨a,rfl⟩:=h;exact⟨a*(2*a-1),by rw[Nat.mul_assoc]⟩
  ·obtain⟨a,rfl⟩:=h;exact⟨(2*a+1)*a,by rw[show 2*a+1-1=2*a by omega,Nat.mul_left_comm]⟩
 have rF:(f:Int)*((f:Int)-1)=2*(k:Int):=by
  cases f with
  |zero=>
    obtain rfl:k=0:=by omega
    simp
  |succ f=>rw[show f+1-1=f by omega]at hk;rw[show((f+1:Nat):Int)-1=(f:Int)by omega];exact_mod_cast hk
 rw[rF,show(2*(k:Int)).tdiv 2=k by rw[lZ (by omega)];omega];have:(f:Int)*(2*st-f+1)=2*((f:Int)*st)-(f:Int)*((f:Int)-1):=by grind
 omega
theorem t64(c:bT)(f t:Nat)(h1:0<=c.an)(h2:c.an<=1000)(h3:c.aN<=1000)(h4:(f:Int)<=c.aN)(h5:t<=1000)(h6:f<=t):aT Tryz.prog 64 [c.enc,ti f,ti t] (ti (bU c.an c.aN f t)):=by
 obtain⟨cn,cs,cl⟩:=c;simp only at h1 h2 h3 h4;have hb:=dQ h3 f h4;have hc:=BU cs f;have b1:=cK (a:=(f:Int)) (A:=1000) (b:=cs) (B:=1000) (by omega) (by omega) (by omega) h3;have b2:=cK (a:=(f:Int)) (A:=1000) (b:=(f:Int)) (B:=1000) (by omega) (by omega) (by omega) (by omega);have hff:(f:Int)*((f:Int)-1)=(f:Int)*f-f:=by grind
 have hffb:0<=(f:Int)*((f:Int)-1)/\(f:Int)*((f:Int)-1)<=1000000:=by
  refine⟨?_,by omega⟩;cases f with
  |zero=>simp
  |succ f=>exact ZbU (by omega) (by omega)
 obtain⟨P,hP⟩:∃P,pre cs f=P:=⟨_,rfl⟩;rw[hP]at hb hc;have hq:((f:Int)*((f:Int)-1)).tdiv 2=(f:Int)*((f:Int)-1)/2:=lZ hffb.1;have b3:=cK (a:=P+t-f) (A:=2000000) (b:=cn) (B:=1000) (by omega) (by omega) h1 h2;have m1:IntKind.i64.wrap ((f:Int)*cs)=(f:Int)*cs:=au (by omega);have m2:IntKind.i64.wrap ((f:Int)-1)=(f:Int)-1:=au (by omega);have m3:IntKind.i64.wrap ((f:Int)*((f:Int)-1))=(f:Int)*((f:Int)-1):=au (by omega);have m4:IntKind.i64.wrap (((f:Int)*((f:Int)-1)).tdiv 2)=((f:Int)*((f:Int)-1)).tdiv 2:=by rw[hq];exact au (by omega)
 have m5:IntKind.i64.wrap ((f:Int)*cs-((f:Int)*((f:Int)-1)).tdiv 2)=P:=by rw[hc];exact au (by omega)
 have m6:IntKind.i64.wrap (P+t)=P+t:=au (by omega);have m7:IntKind.i64.wrap (P+t-f)=P+t-f:=au (by omega);have m8:IntKind.i64.wrap ((P+t-f)*cn)=bU cn cs f t:=by unfold bU;rw[hP];exact au (by omega)
 have aw:=dZ;refine c64.ok (by simp) (aK ?_);simp[bT.enc];refine aa.ab aw fw [1,2,3] ?_;simp[acW];refine aa.le (Le.aD (o:=[]) (l:=[(1,.v (ti f)),(2,.v (ti t)),(3,.v (.box [ti cn,ti cs,.sl (aI cl)]))]) (nxt':=1200) ?_ ?_ ?_ ?_) ?_;iterate 4(·simp)
 refine aa.ab aw fw [1,2,3,7] ?_;simp[acX,m1,m2,m3,m4,m5];refine aa.ab aw fw [6] ?_;simp[acY,m6,m7,m8];refine aa.ret ?_;simp[TK]
def tJ(c:bT):Prop:=1<=c.an/\c.an<=1000/\1<=c.aN/\c.aN<=1000/\(c.cells.length:Int)=cQ c.an c.aN
abbrev s64:DM.Spec:=cz (λts=>∃cn cs cl,∃f t:Int,ts=[.agg [ti cn,ti cs,.sl (aI cl)],ti f,ti t]/\0<=cn/\cn<=1000/\cs<=1000/\0<=f/\f<=cs/\t<=1000/\f<=t) (fun|[.agg [.int _ n,.int _ st,_],.int _ f,.int _ t]=>ti (bU n st f.toNat t.toNat)|_=>.bool false) true
theorem ok64:ay Tryz.prog (aW [(64,s64)]):=by
 refine ay.cons ay.nil ?_;rintro ts ⟨cn,cs,cl,f,t,rfl,h1,h2,h3,h4,h5,h6,h7⟩;obtain⟨f,rfl⟩:=Zad h4;obtain⟨t,rfl⟩:=Zad (a:=t) (by omega);exact⟨by simpa [bT.enc]using t64 ⟨cn,cs,cl⟩ f t h1 h2 h3 h5 (by omega) (by omega),λ_=>rfl⟩
theorem t37(c:bT)(h f t:Int)(hc:tJ c):aT Tryz.prog 37 [c.enc,.agg [ti h,ti f,ti t]] (.agg (lN c h f t).enc):=by
 obtain⟨cn,cs,cl⟩:=c;obtain⟨k1,k2,k3,k4,k5⟩:=hc;simp only at k1 k2 k3 k4 k5;obtain⟨R,hR⟩:∃R,lN ⟨cn,cs,cl⟩ h f t=R:=⟨_,rfl⟩;rw[hR];unfold lN at hR;simp only at hR;have aw:=ok64;refine c37.ok (by simp) (aK ?_);simp[bT.enc];refine aa.ab aw fw [2,3,4] ?_;simp[H4];refine aa.le (Le.aD (o:=[(1005,.box [.v (ti 0),.v (ti 0),.v (ti 0),.v (ti 0)])]) (l:=[(2,.v (.box [ti cn,ti cs,.sl (aI cl)])),(3,.v (.box [ti h,ti f,ti t])),(4,.ptr 1005 0)]) (nxt':=1200) ?_ ?_ ?_ ?_) ?_;iterate 4(·simp)
 refine aa.seq ?_;obtain⟨c1,aX⟩:∃c1:Bool,decide (h<0\/h>=cn\/f<0\/t<f\/t>=cs)=c1:=⟨_,rfl⟩;refine aa.b7 aw fw [(2,.v (.box [ti cn,ti cs,.sl (aI cl)])),(3,.v (.box [ti h,ti f,ti t])),(4,.ptr 1005 0),(35,.v (.bool c1))] ?_ ?_
 ·by_cases q1:h<0
  ·have:c1=true:=by rw[<-aX];simp[q1]
   simp[tA,q1,this]
  ·skip
   by_cases q2:h>=cn
   ·have:c1=true:=by rw[<-aX];simp[q2]
    simp[tA,q1,q2,this]
   ·skip
    by_cases q3:f<0
    ·have:c1=true:=by rw[<-aX];simp[q3]
     simp[tA,q1,q2,q3,this]
    ·skip
     by_cases q4:t<f
     ·have:c1=true:=by rw[<-aX];simp[q4]
      simp[tA,q1,q2,q3,q4,this]
     ·skip
      by_cases q5:t>=cs
      ·have:c1=true:=by rw[<-aX];simp[q5]
       simp[tA,q1,q2,q3,q4,q5,this]
      ·skip
       have:c1=false:=by rw[<-aX];simp[q1,q2,q3,q4,q5]
       simp[tA,q1,q2,q3,q4,q5,this]
 refine aa.cond rfl (λg1=>?_) (λg1=>?_)
 ·rw[g1]at aX;rw[if_pos (of_decide_eq_true aX)]at hR;subst hR;refine aa.ab aw fw [4] ?_;simp[H5];refine aa.ret ?_;simp[xA,fc,Cell.enc]
 ·rw[g1]at aX;have aX:=of_decide_eq_false aX;rw[if_neg aX]at hR;obtain⟨f,rfl⟩:=Zad (a:=f) (by omega);obtain⟨t,rfl⟩:=Zad (a:=t) (by omega);simp only[Zai]at hR;have cV:=oT (nn:=cn) (st:=cs) (f:=f) (t:=t) (by omega) (by omega) (by omega) (i:=h) (by omega);have Gq:=dQ k4 f (by omega);have Y4:=iK (nn:=cn) (st:=cs) (by omega);have hpn:pre cs 1<=pre cs cs.toNat:=BH (by omega) (by omega);have hp1:pre cs 1=cs:=by simp[pre]
  have wH:cn*cs<=cn*pre cs cs.toNat:=Zcs (by omega) (by omega);have EB:cn*1<=cn*cs:=Zcs (by omega) (by omega);have hm3:1*cs<=cn*cs:=Zb0 (by omega) (by omega);have ZF:0<=bU cn cs f t:=by unfold bU;exact ZbU (by omega) (by omega)
  obtain⟨I,hI⟩:∃I,bU cn cs f t=I:=⟨_,rfl⟩;rw[hI]at cV ZF hR;obtain⟨i,hi⟩:=Zad (a:=I+h) (by omega);rw[hi]at hR;have tg:i<cl.length:=by omega
  have bj:cl.length<=1000000000000:=by
   have hb:=dQ k4 cs.toNat (by omega);have:=cK (a:=cn) (A:=1000) (b:=pre cs cs.toNat) (B:=1000000) (by omega) (by omega) hb.1 (by omega);omega
  refine aa.skip ?_;simp;refine aa.ab aw fw [2,3,4,5] ?_;simp[H6];refine aa.seq ?_;have q1:¬(t:Int)>cl.length:=by omega
  have q2:¬cs>cl.length:=by omega
  have q3:¬cn>cl.length:=by omega
  have q4:¬h>=cl.length:=by omega
  have q1n:¬cl.length<t:=by omega
  refine aa.b7 aw fw [(2,.v (.box [ti cn,ti cs,.sl (aI cl)])),(3,.v (.box [ti h,ti f,ti t])),(4,.ptr 1005 0),(5,.v (ti cl.length)),(71,.v (.bool false))] ?_ ?_
  ·by_cases z1:0<f
   ·by_cases z2:0<t
    ·simp[yQ,q1,q1n,q2,q3,q4,z1,z2]
    ·simp[yQ,q1,q1n,q2,q3,q4,z1,z2]
   ·by_cases z2:0<t
    ·simp[yQ,q1,q1n,q2,q3,q4,z1,z2]
    ·simp[yQ,q1,q1n,q2,q3,q4,z1,z2]
  refine aa.cond rfl (λg4=>?_) (λg4=>?_)
  ·exact absurd g4 (by simp)
  ·refine aa.skip ?_;simp;refine aa.ab aw fw [2,4,5,6] ?_;simp[H7,and_assoc,hI,hi,au (x:=(i:Int)) (by omega)];repeat (refine⟨by omega, ?_⟩)
   refine aa.seq ?_;refine aa.ab aw fw [2,4,6,84] ?_;simp[acZ];refine aa.cond rfl (λg7=>?_) (λg7=>?_)
   ·exact absurd g7 (by simp;omega)
   ·refine aa.skip ?_;simp;have rr:=fq tg;have xC:cl.getD i default=R:=by rw[<-hR];simp[List.getD,tg]
    rw[xC]at rr;obtain⟨rc,rz,rr1,ra⟩:=R;refine aa.ab aw fw [4] ?_;simp[ac0,tg,rr,Cell.enc];refine aa.ret ?_;simp[xA]
structure QC where
 (rb rf rh q a hp m:Nat)
structure eo where
 best:List br
 fin:List Bool
 jt:List Int
 s:Qs
structure df where
 n:aH
 l:aM
 c:bT
 (fr to:Int)
def uN(k:QC)(z:df):List DV:=[.v (ti z.n.aV),.v (ti z.n.an),.v (ti z.n.start),.v (.sl (aQ z.n.rules)),.v (ti z.l.aN),.v (.sl (bb z.l.aF)),.v (.sl (aC z.l.final)),.v (ti z.c.an),.v (ti z.c.aN),.v (.sl (aI z.c.cells)),.v (ti z.fr),.v (ti z.to),.bd k.rb 0,.bd k.rf 0,.bd k.rh 0,.ptr k.q 0]
def DY(s:eo):Ob:=.arr 0 55 2 (bJ s.best)
def FY(s:eo):Ob:=.arr 0 4 1 (eP s.fin)
def DZ(s:eo):Ob:=.arr 0 3 1 (aC s.jt)
structure SV where
 k:QC
 z:df
 s:eo
structure SV.at(v:SV)(f:aU)(p:Nat):Prop where
 sp:f p=some (.box (uN v.k v.z))
 rb:f v.k.rb=some (DY v.s)
 rf:f v.k.rf=some (FY v.s)
 rh:f v.k.rh=some (DZ v.s)
 q:f v.k.q=some (qB v.k.a v.k.hp v.k.m v.s.s)
 hp:f v.k.hp=some (hB v.s.s)
 m:f v.k.m=some (mB v.s.s)
 a:f v.k.a=some (.box [.ptr p 0])
@[simp] theorem Mc{a b:List Bool}:eP a=eP b↔a=b:=⟨λh=>by
 unfold eP at h;exact List.map_inj_right (f:=λb:Bool=>[T.bool b]) (λx y h=>by simpa using h)|>.1 h,λh=>by rw[h]⟩
theorem SV.uniq{v w:SV}{f:aU}{sp:Nat}(h:v.at f sp)(k:w.at f sp):v=w:=by
 obtain⟨⟨rb,rf,rh,q,a,hp,m⟩,⟨⟨nt,nn,ns,rules⟩,⟨ls,aF,fin⟩,⟨cn,cs,cl⟩,fr,to⟩,⟨best,fn,jt,⟨heap,ver,es,mc,next,clock⟩⟩⟩:=v;obtain⟨⟨rb',rf',rh',q',a',hp',m'⟩,⟨⟨nt',nn',ns',Md⟩,⟨ls',WE,fin'⟩,⟨cn',qU,cl'⟩,fr',to'⟩,⟨best',fn',hdl',⟨ZW,ver',es',mc',next',clock'⟩⟩⟩:=w;obtain⟨h1,h2,h3,h4,h5,h6,h7,h8⟩:=h;obtain⟨k1,k2,k3,k4,k5,k6,k7,k8⟩:=k;simp only[uN]at h1 k1;rw[h1]at k1;simp only[Zaa,Ob.box.injEq,Za5,DV.v.injEq,T.int.injEq,T.sl.injEq,Ls,Py,DL,Lt,DV.bd.injEq,DV.ptr.injEq,and_true,true_and]at k1;obtain⟨rfl,rfl,rfl,rfl,rfl,rfl,rfl,rfl,rfl,rfl,rfl,rfl,rfl,rfl,rfl,rfl⟩:=k1;simp only[DY,FY,DZ]at h2 h3 h4 k2 k3 k4;rw[h2]at k2;rw[h3]at k3;rw[h4]at k4;simp only[Zaa,Ob.arr.injEq,oW,Mc,DL,true_and]at k2 k3 k4;subst k2 k3 k4;simp only[qB]at h5 k5;rw[h5]at k5;simp only[Zaa,Ob.box.injEq,Za5,DV.mF.injEq,DV.ptr.injEq,DV.bd.injEq,DV.iC.injEq,DV.v.injEq,T.int.injEq,true_and,and_true]at k5;obtain⟨rfl,⟨rfl,rfl⟩,rfl,rfl,rfl⟩:=k5;simp only[hB]at h6 k6;rw[h6]at k6;simp only[Zaa,Ob.arr.injEq,DU,true_and]at k6;simp only[mB]at h7 k7;rw[h7]at k7;simp only[Zaa,Ob.map.injEq,N2,true_and]at k7;obtain⟨rfl,rfl⟩:=k7;subst k6;rfl
open Classical in
noncomputable def gT(f:aU)(sp:Nat):SV:=if h:∃v:SV,v.at f sp then Classical.choose h else⟨⟨0,0,0,0,0,0,0⟩,⟨⟨0,0,0,[]⟩,⟨0,[],[]⟩,⟨0,0,[]⟩,0,0⟩,⟨[],[],[],⟨[],0,[],0,0,0⟩⟩⟩
theorem fN{v:SV}{f:aU}{sp:Nat}(h:v.at f sp):gT f sp=v:=by
 have hx:∃v:SV,v.at f sp:=⟨v,h⟩;unfold gT;rw[dif_pos hx];exact SV.uniq (Classical.choose_spec hx) h
def SV.qv(v:SV)(sp:Nat):QV:=⟨v.k.a,v.k.hp,v.k.m,⟨sp,v.k.rb,uN v.k v.z,v.s.best⟩,v.s.s⟩
theorem SV.at.qv{v:SV}{f:aU}{sp:Nat}(h:v.at f sp):(v.qv sp).at f v.k.q:=⟨h.q,h.hp,h.m,⟨h.a,h.sp,rfl,h.rb⟩⟩
abbrev SV.to(v:SV)(s:eo):SV:=⟨v.k,v.z,s⟩
def cJ(f:aU)(v:SV)(s:eo):aU:=over [(v.k.rb,DY s),(v.k.rf,FY s),(v.k.rh,DZ s),(v.k.q,qB v.k.a v.k.hp v.k.m s.s),(v.k.hp,hB s.s),(v.k.m,mB s.s)] f
structure SV.Ne(v:SV)(sp:Nat):Prop where
 yZ:sp≠v.k.rb
 y5:sp≠v.k.rf
 y6:sp≠v.k.rh
 FZ:sp≠v.k.q
 wh:sp≠v.k.hp
 F1:sp≠v.k.m
 Me:sp≠v.k.a
 BV:v.k.rb≠sp
 BW:v.k.rb≠v.k.rf
 BX:v.k.rb≠v.k.rh
 Mf:v.k.rb≠v.k.q
 BY:v.k.rb≠v.k.hp
 Mg:v.k.rb≠v.k.m
 Mh:v.k.rb≠v.k.a
 BZ:v.k.rf≠sp
 y7:v.k.rf≠v.k.rb
 B0:v.k.rf≠v.k.rh
 Mi:v.k.rf≠v.k.q
 B1:v.k.rf≠v.k.hp
 Mj:v.k.rf≠v.k.m
 Mk:v.k.rf≠v.k.a
 B2:v.k.rh≠sp
 y8:v.k.rh≠v.k.rb
 y9:v.k.rh≠v.k.rf
 Ml:v.k.rh≠v.k.q
 B3:v.k.rh≠v.k.hp
 Mm:v.k.rh≠v.k.m
 Mn:v.k.rh≠v.k.a
 Mo:v.k.q≠sp
 F2:v.k.q≠v.k.rb
 F3:v.k.q≠v.k.rf
 F4:v.k.q≠v.k.rh
 Ja:v.k.q≠v.k.hp
 nqm:v.k.q≠v.k.m
 nqa:v.k.q≠v.k.a
 B4:v.k.hp≠sp
 wi:v.k.hp≠v.k.rb
 wj:v.k.hp≠v.k.rf
 wk:v.k.hp≠v.k.rh
 Jb:v.k.hp≠v.k.q
 Jc:v.k.hp≠v.k.m
 Mp:v.k.hp≠v.k.a
 Mq:v.k.m≠sp
 F5:v.k.m≠v.k.rb
 F6:v.k.m≠v.k.rf
 F7:v.k.m≠v.k.rh
 nmq:v.k.m≠v.k.q
 Jd:v.k.m≠v.k.hp
 nma:v.k.m≠v.k.a
 Mr:v.k.a≠sp
 Je:v.k.a≠v.k.rb
 Jf:v.k.a≠v.k.rf
 Jg:v.k.a≠v.k.rh
 naq:v.k.a≠v.k.q
 Jh:v.k.a≠v.k.hp
 nam:v.k.a≠v.k.m
theorem SV.at.ne{v:SV}{f:aU}{sp:Nat}(h:v.at f sp):v.Ne sp:=by
 obtain⟨uY,xD,zq,xU,hq,wo,hm,ha⟩:=h;simp only[uN,DY,FY,DZ,qB,hB,mB]at uY xD zq xU hq wo hm;exact⟨λe=>by rw[e,xD]at uY;simp at uY,
  λe=>by rw[e,zq]at uY;simp at uY,
  λe=>by rw[e,xU]at uY;simp at uY,
  λe=>by rw[e,hq]at uY;simp at uY,
  λe=>by rw[e,wo]at uY;simp at uY,
  λe=>by rw[e,hm]at uY;simp at uY,
  λe=>by rw[e,ha]at uY;simp at uY,
  λe=>by rw[e,uY]at xD;simp at xD,
  λe=>by rw[e,zq]at xD;simp at xD,
  λe=>by rw[e,xU]at xD;simp at xD,
  λe=>by rw[e,hq]at xD;simp at xD,
  λe=>by rw[e,wo]at xD;simp at xD,
  λe=>by rw[e,hm]at xD;simp at xD,
  λe=>by rw[e,ha]at xD;simp at xD,
  λe=>by rw[e,uY]at zq;simp at zq,
  λe=>by rw[e,xD]at zq;simp at zq,
  λe=>by rw[e,xU]at zq;simp at zq,
  λe=>by rw[e,hq]at zq;simp at zq,
  λe=>by rw[e,wo]at zq;simp at zq,
  λe=>by rw[e,hm]at zq;simp at zq,
  λe=>by rw[e,ha]at zq;simp at zq,
  λe=>by rw[e,uY]at xU;simp at xU,
  λe=>by rw[e,xD]at xU;simp at xU,
  λe=>by rw[e,zq]at xU;simp at xU,
  λe=>by rw[e,hq]at xU;simp at xU,
  λe=>by rw[e,wo]at xU;simp at xU,
  λe=>by rw[e,hm]at xU;simp at xU,
  λe=>by rw[e,ha]at xU;simp at xU,
  λe=>by rw[e,uY]at hq;simp at hq,
  λe=>by rw[e,xD]at hq;simp at hq,
  λe=>by rw[e,zq]at hq;simp at hq,
  λe=>by rw[e,xU]at hq;simp at hq,
  λe=>by rw[e,wo]at hq;simp at hq,
  λe=>by rw[e,hm]at hq;simp at hq,
  λe=>by rw[e,ha]at hq;simp at hq,
  λe=>by rw[e,uY]at wo;simp at wo,
  λe=>by rw[e,xD]at wo;simp at wo,
  λe=>by rw[e,zq]at wo;simp at wo,
  λe=>by rw[e,xU]at wo;simp at wo,
  λe=>by rw[e,hq]at wo;simp at wo,
  λe=>by rw[e,hm]at wo;simp at wo,
  λe=>by rw[e,ha]at wo;simp at wo,
  λe=>by rw[e,uY]at hm;simp at hm,
  λe=>by rw[e,xD]at hm;simp at hm,
  λe=>by rw[e,zq]at hm;simp at hm,
  λe=>by rw[e,xU]at hm;simp at hm,
  λe=>by rw[e,hq]at hm;simp at hm,
  λe=>by rw[e,wo]at hm;simp at hm,
  λe=>by rw[e,ha]at hm;simp at hm,
  λe=>by rw[e,uY]at ha;simp at ha,
  λe=>by rw[e,xD]at ha;simp at ha,
  λe=>by rw[e,zq]at ha;simp at ha,
  λe=>by rw[e,xU]at ha;simp at ha,
  λe=>by rw[e,hq]at ha;simp at ha,
  λe=>by rw[e,wo]at ha;simp at ha,
  λe=>by rw[e,hm]at ha;simp at ha⟩
theorem sV{v:SV}{f:aU}{sp:Nat}(h:v.at f sp)(s:eo):(v.to s).at (cJ f v s) sp:=by
 obtain⟨yZ,y5,y6,FZ,wh,F1,Me,BV,BW,BX,Mf,BY,Mg,Mh,BZ,y7,B0,Mi,B1,Mj,Mk,B2,y8,y9,Ml,B3,Mm,Mn,Mo,F2,F3,F4,Ja,nqm,nqa,B4,wi,wj,wk,Jb,Jc,Mp,Mq,F5,F6,F7,nmq,Jd,nma,Mr,Je,Jf,Jg,naq,Jh,nam⟩:=h.ne;refine⟨?_, ?_, ?_, ?_, ?_, ?_, ?_, ?_⟩
 ·simp[cJ,yZ,y5,y6,FZ,wh,F1,h.sp]
 ·simp[cJ]
 ·simp[cJ,y7]
 ·simp[cJ,y8,y9]
 ·simp[cJ,F2,F3,F4]
 ·simp[cJ,wi,wj,wk,Jb]
 ·simp[cJ,F5,F6,F7,nmq,Jd]
 ·simp[cJ,Je,Jf,Jg,naq,Jh,nam,h.a]
theorem WG(f:aU)(v:SV)(s s':eo):cJ (cJ f v s) (v.to s) s'=cJ f v s':=by
 funext k;simp only[cJ,bP,eN];by_cases h1:k=v.k.rb<;>by_cases h2:k=v.k.rf<;>by_cases h3:k=v.k.rh<;>by_cases h4:k=v.k.q<;>by_cases h5:k=v.k.hp<;>by_cases h6:k=v.k.m<;>simp[h1,h2,h3,h4,h5,h6]
theorem mC{v:SV}{f:aU}{sp r:Nat}(h:v.at f sp)(s:eo)(hr:f r=none):cJ f v s r=none:=by
 have e1:r≠v.k.rb:=λe=>by rw[e,h.rb]at hr;cases hr
 have e2:r≠v.k.rf:=λe=>by rw[e,h.rf]at hr;cases hr
 have e3:r≠v.k.rh:=λe=>by rw[e,h.rh]at hr;cases hr
 have e4:r≠v.k.q:=λe=>by rw[e,h.q]at hr;cases hr
 have e5:r≠v.k.hp:=λe=>by rw[e,h.hp]at hr;cases hr
 have e6:r≠v.k.m:=λe=>by rw[e,h.m]at hr;cases hr
 simp[cJ,e1,e2,e3,e4,e5,e6,hr]
theorem fl{v:SV}{f:aU}{sp:Nat}(h:v.at f sp):cJ f v v.s=f:=by
 funext k;simp only[cJ,bP,eN];split
 ·rename_i e;rw[e];exact h.rb.symm
 ·split
  ·rename_i e;rw[e];exact h.rf.symm
  ·split
   ·rename_i e;rw[e];exact h.rh.symm
   ·split
    ·rename_i e;rw[e];exact h.q.symm
    ·split
     ·rename_i e;rw[e];exact h.hp.symm
     ·split
      ·rename_i e;rw[e];exact h.m.symm
      ·rfl
theorem le_s{f0:aU}{N nxt nxt' sp:Nat}{tm:Nat->DV}{l:List (Nat×DV)}{L:List (Nat×Ob)}{v:SV}(s:eo)(bj:dO f0 N)(hv:v.at f0 sp)(hn:N<=nxt')
  (hL:∀p∈L,p.1=v.k.rb\/p.1=v.k.rf\/p.1=v.k.rh\/p.1=v.k.q\/p.1=v.k.hp\/p.1=v.k.m\/N<=p.1) (hF:∀r,r<N->over L f0 r=cJ f0 v s r)
  (jd:gp (over L f0) (cJ f0 v s) id tm l):
  Le ⟨tm,over L f0,nxt,N,[]⟩ ⟨DM.look l,cJ f0 v s,nxt',N,[]⟩:=by
 have qu:∀{r o},f0 r=some o->r<N:=λh=>(bj _ _ h).1;have hP:=sV hv s;obtain⟨yZ,y5,y6,FZ,wh,F1,Me,BV,BW,BX,Mf,BY,Mg,Mh,BZ,y7,B0,Mi,B1,Mj,Mk,B2,y8,y9,Ml,B3,Mm,Mn,Mo,F2,F3,F4,Ja,nqm,nqa,B4,wi,wj,wk,Jb,Jc,Mp,Mq,F5,F6,F7,nmq,Jd,nma,Mr,Je,Jf,Jg,naq,Jh,nam⟩:=hv.ne;refine Le.fp bj hn ?_ ?_ ?_ jd
 ·have:=qu hv.rb;have:=qu hv.rf;have:=qu hv.rh;have:=qu hv.q;have:=qu hv.hp;have:=qu hv.m;simp;omega
 ·have:∀(L:List (Nat×Ob)),(∀p∈L,p.1=v.k.rb\/p.1=v.k.rf\/p.1=v.k.rh\/p.1=v.k.q\/p.1=v.k.hp\/p.1=v.k.m\/N<=p.1)->ca N [(v.k.rb,DY s),(v.k.rf,FY s),(v.k.rh,DZ s),(v.k.q,qB v.k.a v.k.hp v.k.m s.s),(v.k.hp,hB s.s),(v.k.m,mB s.s)] L:=by
   intro L;induction L with
   |nil=>intro _;trivial
   |cons p L ih=>
    intro h;refine⟨λhq=>?_,ih λp hp=>h p (by simp[hp])⟩;rcases h p (by simp)with h|h|h|h|h|h|h
    ·exact⟨_,by rw[h];exact .head _⟩
    ·exact⟨_,by rw[h];exact .tail _ (.head _)⟩
    ·exact⟨_,by rw[h];exact .tail _ (.tail _ (.head _))⟩
    ·exact⟨_,by rw[h];exact .tail _ (.tail _ (.tail _ (.head _)))⟩
    ·exact⟨_,by rw[h];exact .tail _ (.tail _ (.tail _ (.tail _ (.head _))))⟩
    ·exact⟨_,by rw[h];exact .tail _ (.tail _ (.tail _ (.tail _ (.tail _ (.head _)))))⟩
    ·omega
  exact this _ hL
 ·have g:∀{r o o'},f0 r=some o'->cJ f0 v s r=some o->over L f0 r=some o:=λh1 h2=>(hF _ (qu h1)).trans h2;refine⟨⟨_,g hv.rb hP.rb,.inr ⟨rfl,λk hk=>by simp[bG,DY]at hk⟩,λ_=>bu _⟩,⟨_,g hv.rf hP.rf,.inr ⟨rfl,λk hk=>by simp[bG,FY]at hk⟩,λ_=>bu _⟩,⟨_,g hv.rh hP.rh,.inr ⟨rfl,λk hk=>by simp[bG,DZ]at hk⟩,λ_=>bu _⟩,
   ⟨_,g hv.q hP.q,.inr ⟨rfl,λk hk=>?_⟩,λ_=>bu _⟩,⟨_,g hv.hp hP.hp,.inr ⟨rfl,λk hk=>by simp[bG,hB]at hk⟩,λ_=>bu _⟩,⟨_,g hv.m hP.m,.inr ⟨rfl,λk hk=>?_⟩,λ_=>bu _⟩,trivial⟩
  ·simp only[qB,bG,bM,names,ZaJ,Zao,Zag,Zap,or_false]at hk;rcases hk with rfl|rfl|rfl
   ·exact⟨_,_,g hv.a hP.a,hP.a,bu _⟩
   ·exact⟨_,_,g hv.hp hP.hp,hP.hp,bu _⟩
   ·exact⟨_,_,g hv.m hP.m,hP.m,bu _⟩
  ·exfalso;simp only[mB,bG,ZaU,wN,Zal]at hk;obtain⟨e,⟨e',_,rfl⟩,hk⟩:=hk;simp[names]at hk
abbrev s37:DM.Spec:=cz (λts=>∃cn cs cl h f t,ts=[.agg [ti cn,ti cs,.sl (aI cl)],.agg [ti h,ti f,ti t]]/\tJ ⟨cn,cs,cl⟩) (fun|[c,.agg [.int _ h,.int _ f,.int _ t]]=>.agg [ti (lN (pR c) h f t).cost,ti (lN (pR c) h f t).size,ti (lN (pR c) h f t).ez,ti (lN (pR c) h f t).arg]|_=>.bool false) true
theorem ok37{l:List (Nat×DM.Spec)}(h:ay Tryz.prog (aW l)):ay Tryz.prog (aW ((37,s37)::l)):=by
 refine ay.cons h ?_;rintro ts ⟨cn,cs,cl,h,f,t,rfl,h1⟩;exact⟨by simpa [bT.enc,Cell.enc]using t37 ⟨cn,cs,cl⟩ h f t h1,λ_=>rfl⟩
def iO(z:df)(best:List br)(h f t:Int):br:=if f=z.fr/\t=z.to then bv best h else(lN z.c h f t).val
theorem t83{f0:aU}{p N:Nat}{h f t:Int}{v:SV}(hN:∀r,N<=r->f0 r=none)(hv:v.at f0 p)(hc:tJ v.z.c)(hh:f=v.z.fr/\t=v.z.to->0<=h/\h<v.s.best.length):
  aZ Tryz.prog 83 [.ptr p 0,.v (ti h),.v (ti f),.v (ti t)] f0 ⟨True,.v (.agg [ti (iO v.z v.s.best h f t).cost,ti (iO v.z v.s.best h f t).size]),f0⟩:=by
 obtain⟨R,hR⟩:∃R,iO v.z v.s.best h f t=R:=⟨_,rfl⟩;rw[hR];unfold iO at hR;have aw:=ok37 ay.nil;refine c83.uM hN (by simp) λbj=>?_;have h1:=hv.sp;have h2:=hv.rb;have uO:p<N:=(bj p _ h1).1;have XE:v.k.rb<N:=(bj v.k.rb _ h2).1;simp only[uN,DY]at h1 h2;obtain⟨⟨cn,cs,cl⟩,hz⟩:∃c,v.z.c=c:=⟨_,rfl⟩;rw[hz]at h1 hc hR;simp only at h1;have np:∀k,p≠N+k:=λk=>by omega
 have nb:∀k,v.k.rb≠N+k:=λk=>by omega
 simp;refine aa.ab aw fw [0,1,2,3,8] ?_;simp[adf];refine aa.seq ?_;obtain⟨c1,aX⟩:∃c1:Bool,decide (f=v.z.fr/\t=v.z.to)=c1:=⟨_,rfl⟩;refine aa.b7 aw fw [(0,.ptr p 0),(1,.v (ti h)),(2,.v (ti f)),(3,.v (ti t)),(8,.ptr (N+8+1) 0),(22,.v (.bool c1))] ?_ ?_
 ·by_cases q1:f=v.z.fr
  ·by_cases q2:t=v.z.to
   ·have:c1=true:=by rw[<-aX];simp[q1,q2]
    simp[NB,h1,np,Nat.add_assoc,q1,q2,this]
   ·have:c1=false:=by rw[<-aX];simp[q2]
    simp[NB,h1,np,Nat.add_assoc,q1,q2,this]
  ·have:c1=false:=by rw[<-aX];simp[q1]
   simp[NB,h1,np,Nat.add_assoc,q1,this]
 refine aa.cond rfl (λg=>?_) (λg=>?_)
 ·have g:c1=true:=by simpa using g
  rw[g]at aX;have q:=of_decide_eq_true aX;rw[if_pos q]at hR;obtain⟨x0,x1⟩:=hh q;obtain⟨x,rfl⟩:=Zad x0;have hx:x<v.s.best.length:=by omega
  have rr:=dP hx;have hb:v.s.best.getD x default=R:=by rw[<-hR];simp[bv]
  rw[hb]at rr;refine aa.ab aw fw [8] ?_;simp[adg,h1,h2,np,nb,Nat.add_assoc,hx,rr];refine aa.le (le_s (v:=v) v.s (l:=[(8,.v (.box [ti R.cost,ti R.size]))]) (nxt':=N+1000) bj hv (by omega) ?_ ?_ ?_) ?_
  ·simp
  ·intro r hr;rw[fl hv];have:∀k,r≠N+k:=λk=>by omega
   simp[this,Nat.add_assoc]
  ·simp;rw[fl hv];exact cW (l:=[]) bj (by omega) (by simp)
  rw[fl hv];refine aa.ret ?_;simp[K0]
 ·have g:c1=false:=by simpa using g
  rw[g]at aX;have q:=of_decide_eq_false aX;rw[if_neg q]at hR;obtain⟨⟨a1,a2,a3,a4⟩,ha⟩:∃a,lN ⟨cn,cs,cl⟩ h f t=a:=⟨_,rfl⟩;rw[ha]at hR;subst hR;refine aa.skip ?_;simp;refine aa.ab aw fw [8] ?_;simp[adh,h1,np,Nat.add_assoc,and_assoc,hc,ha];refine aa.le (le_s (v:=v) v.s (l:=[(8,.v (.box [ti a1,ti a2]))]) (nxt':=N+1000) bj hv (by omega) ?_ ?_ ?_) ?_
  ·simp
  ·intro r hr;rw[fl hv];have:∀k,r≠N+k:=λk=>by omega
   simp[this,Nat.add_assoc]
  ·simp;rw[fl hv];exact cW (l:=[]) bj (by omega) (by simp)
  rw[fl hv];refine aa.ret ?_;simp[K0]
noncomputable def k83:List DV->aU->iD
 |[.ptr p 0,.v (.int .i64 h),.v (.int .i64 g),.v (.int .i64 t)],f=>⟨(∃v:SV,v.at f p)/\tJ (gT f p).z.c/\(g=(gT f p).z.fr/\t=(gT f p).z.to->0<=h/\h<(gT f p).s.best.length),.v (.agg [ti (iO (gT f p).z (gT f p).s.best h g t).cost,ti (iO (gT f p).z (gT f p).s.best h g t).size]),f⟩
 |_,f=>⟨False,.undef,f⟩
theorem k83_eq{v:SV}{f:aU}{p:Nat}{h g t:Int}(hv:v.at f p):k83 [.ptr p 0,.v (ti h),.v (ti g),.v (ti t)] f=⟨tJ v.z.c/\(g=v.z.fr/\t=v.z.to->0<=h/\h<v.s.best.length),.v (.agg [ti (iO v.z v.s.best h g t).cost,ti (iO v.z v.s.best h g t).size]),f⟩:=by
 have hx:∃v:SV,v.at f p:=⟨v,hv⟩;simp only[k83,fN hv,hx,true_and]
theorem k83_ok:∀args objs,(k83 args objs).ok->(∀N,(∀r,N<=r->objs r=none)->aZ Tryz.prog 83 args objs (k83 args objs))/\∀r,objs r=none->(k83 args objs).objs r=none:=by
 intro args objs h;unfold k83 at h⊢;split at h
 ·rename_i p h' g t;obtain⟨⟨v,hv⟩,hc,hh⟩:=h;rw[fN hv]at hc hh⊢;exact⟨λN hN=>aZ.of (t83 hN hv hc hh) rfl rfl,λr hr=>hr⟩
 ·exact h.elim
theorem ok83{l:List (Nat×DM.Spec)}(h:ay Tryz.prog (aW l)):ay Tryz.prog (aW ((83,fa k83)::l)):=ay.gV h k83_ok
abbrev It:=Int×Int×Int
def Y5(x:It):List T:=[ti x.1,ti x.2.1,ti x.2.2]
def kr(l:List It):List (List T):=l.map Y5
@[simp] theorem B5(l:List It):(kr l).length=l.length:=by simp[kr]
theorem xV{l:List It}{y:Nat}(h:y<l.length):DM.rowAt (kr l) y=Y5 (l.getD y default):=by simp[DM.rowAt,kr,h]
def ku(z:df)(x:It):Prop:=x.2.1=z.fr/\x.2.2=z.to
instance(z:df)(x:It):Decidable (ku z x):=by unfold ku;infer_instance
def dG(z:df)(l:List It):Bool:=l.any λx=>decide (ku z x)
theorem pX{f0:aU}{N nxt nxt':Nat}{tm:Nat->DV}{l:List (Nat×DV)}{L:List (Nat×Ob)}(bj:dO f0 N)(hn:N<=nxt')(hL:∀p∈L,N<=p.1)(jd:gp (over L f0) (over [] f0) id tm l):
  Le ⟨tm,over L f0,nxt,N,[]⟩ ⟨DM.look l,over [] f0,nxt',N,[]⟩:=by
 refine Le.fp (l1:=[]) bj hn (by simp) ?_ (by simp[gS]) jd;clear jd;induction L with
 |nil=>trivial
 |cons q L ih=>
  refine⟨λhq=>?_,ih λp hp=>hL p (by simp[hp])⟩;have:=hL q (by simp);omega
theorem t59{f0:aU}{p N:Nat}{l:List It}{v:SV}(hN:∀r,N<=r->f0 r=none)(hv:v.at f0 p)(hl:l.length<=1000):
  aZ Tryz.prog 59 [.ptr p 0,.v (.sl (kr l))] f0 ⟨True,.v (.bool (dG v.z l)),f0⟩:=by
 obtain⟨R,hR⟩:∃R,dG v.z l=R:=⟨_,rfl⟩;rw[hR];have aw:=dZ;refine c59.uM hN (by simp) λbj=>?_;have h1:=hv.sp;have uO:p<N:=(bj p _ h1).1;simp only[uN]at h1;have np:∀k,p≠N+k:=λk=>by omega
 simp;refine aa.ab aw fw [0,1] ?_;simp[TO];refine aa.seq ?_;refine aa.ab aw fw [0,7,8,9] ?_;simp[TP];refine aa.block ?_;refine aa.loop (λi:Nat=>⟨DM.look [(0,.ptr p 0),(7,.v (.sl (kr l))),(8,.v (ti l.length)),(9,.v (ti i))],over [] f0,N+1000,N,[]⟩)
  (λi=>i<=l.length/\dG v.z (l.take i)=false) (λi=>l.length-i) 0 (pX bj (by omega) (by simp) ?_) (by simp[dG]) (λi hi=>?_)
 ·simp[h1]
 obtain⟨hi,hw⟩:=hi;refine aa.ab aw fw [0,7,8,9,10] ?_;simp[TQ];refine aa.seq ?_;refine aa.cond rfl (λg=>?_) (λg=>?_)
 ·have g:i<l.length:=by simpa using g
  have rr:=xV g;obtain⟨⟨xh,xf,xt⟩,hx⟩:∃x,l.getD i default=x:=⟨_,rfl⟩;rw[hx]at rr;simp only[Y5]at rr;have Ji:dG v.z (l.take (i+1))=decide (ku v.z (xh,xf,xt)):=by
   rw[cG g,hx];unfold dG at hw⊢;rw[List.any_append,hw];simp
  refine aa.skip ?_;simp;refine aa.seq ?_;refine aa.block ?_;refine aa.ab aw fw [0,6,7,8,9] ?_;simp[adi,rr,g];refine aa.le (pX (l:=[(0,.ptr p 0),(6,.v (.box [ti xh,ti xf,ti xt])),(7,.v (.sl (kr l))),(8,.v (ti l.length)),(9,.v (ti i))]) (nxt':=N+2000) bj (by omega) (by simp;omega) ?_) ?_
  ·simp[Nat.add_assoc,h1];exact cW (l:=[]) bj (by omega) (by simp)
  obtain⟨c1,aX⟩:∃c1:Bool,decide (ku v.z (xh,xf,xt))=c1:=⟨_,rfl⟩;refine aa.b7 aw fw [(0,.ptr p 0),(7,.v (.sl (kr l))),(8,.v (ti l.length)),(9,.v (ti i)),(28,.v (.bool c1))] ?_ ?_
  ·by_cases q1:xf=v.z.fr
   ·by_cases q2:xt=v.z.to
    ·have:c1=true:=by rw[<-aX];simp[ku,q1,q2]
     simp[NC,h1,q1,q2,this]
    ·have:c1=false:=by rw[<-aX];simp[ku,q2]
     simp[NC,h1,q1,q2,this]
   ·have:c1=false:=by rw[<-aX];simp[ku,q1]
    simp[NC,h1,q1,this]
  refine aa.cond rfl (λg2=>?_) (λg2=>?_)
  ·have g2:c1=true:=by simpa using g2
   subst g2;have:R=true:=by
    rw[<-hR];unfold dG;rw[Zcb];exact⟨(xh,xf,xt),hx▸bw g,by simpa using aX⟩
   subst this;refine aa.ab aw fw [4] ?_;simp[adj];refine aa.ret ?_;simp[Fi];rfl
  ·have g2:c1=false:=by simpa using g2
   subst g2;refine aa.skip ?_;simp;refine aa.dc aw fw [0,7,8,9] ?_;simp[adk];rw[au (by omega)];refine⟨i+1,pX bj (by omega) (by simp) ?_,⟨by omega,by rw[Ji,aX]⟩,by omega⟩;simp[h1]
 ·have g:¬i<l.length:=by simpa using g
  have:R=false:=by
   rw[<-hR,<-hw,Za2 (by omega)]
  subst this;refine aa.exit ?_;simp;refine aa.ab aw fw [4] ?_;simp[TR];refine aa.ret ?_;simp[Fi];rfl
def decIt:List T->It
 |[a,b,c]=>(cZ a,cZ b,cZ c)
 |_=>(0,0,0)
def k9(l:List (List T)):List It:=l.map decIt
@[simp] theorem uB(l:List It):k9 (kr l)=l:=fD (λx=>by simp[decIt,Y5,cZ]) l
@[simp] theorem itsT_nil:kr []=[]:=rfl
theorem t59n{f0:aU}{p N:Nat}{v:SV}(hN:∀r,N<=r->f0 r=none)(hv:v.at f0 p):
  aZ Tryz.prog 59 [.ptr p 0,.aJ] f0 ⟨True,.v (.bool false),f0⟩:=by
 have aw:=dZ;refine c59.uM hN (by simp) λbj=>?_;have h1:=hv.sp;simp only[uN]at h1;simp;refine aa.ab aw fw [0,1] ?_;simp[TO];refine aa.seq ?_;refine aa.ab aw fw [8,9] ?_;simp[TP];refine aa.block ?_;refine aa.loop (λi:Nat=>⟨DM.look [(8,.v (ti 0)),(9,.v (ti 0))],over [] f0,N+1000,N,[]⟩)
  (λi=>True) (λi=>0) 0 (pX bj (by omega) (by simp) ?_) trivial (λi hi=>?_)
 ·simp
 refine aa.ab aw fw [10] ?_;simp[TQ];refine aa.seq ?_;refine aa.cond rfl (λg=>by cases g) (λg=>?_);refine aa.exit ?_;simp;refine aa.ab aw fw [4] ?_;simp[TR];refine aa.ret ?_;simp[Fi];rfl
noncomputable def XI:List DV->aU->iD
 |[.ptr p 0,.v (.sl rows)],f=>⟨(∃v:SV,v.at f p)/\rows=kr (k9 rows)/\rows.length<=1000,.v (.bool (dG (gT f p).z (k9 rows))),f⟩
 |[.ptr p 0,.aJ],f=>⟨∃v:SV,v.at f p,.v (.bool false),f⟩
 |_,f=>⟨False,.undef,f⟩
theorem k59_eq{v:SV}{f:aU}{p:Nat}{l:List It}(hv:v.at f p):XI [.ptr p 0,.v (.sl (kr l))] f=⟨l.length<=1000,.v (.bool (dG v.z l)),f⟩:=by
 have hx:∃v:SV,v.at f p:=⟨v,hv⟩;simp only[XI,fN hv,hx,true_and,uB,B5]
theorem Y6{v:SV}{f:aU}{p:Nat}(hv:v.at f p):XI [.ptr p 0,.aJ] f=⟨True,.v (.bool false),f⟩:=by
 have hx:∃v:SV,v.at f p:=⟨v,hv⟩;simp only[XI,hx]
theorem k59_ok:∀args objs,(XI args objs).ok->(∀N,(∀r,N<=r->objs r=none)->aZ Tryz.prog 59 args objs (XI args objs))/\∀r,objs r=none->(XI args objs).objs r=none:=by
 intro args objs h;unfold XI at h⊢;split at h
 ·rename_i p rows;obtain⟨⟨v,hv⟩,hr,hl⟩:=h;obtain⟨l,U5⟩:∃l,k9 rows=l:=⟨_,rfl⟩;rw[U5]at hr⊢;subst hr;rw[fN hv];exact⟨λN hN=>aZ.of (t59 hN hv (by simpa using hl)) rfl rfl,λr hr=>hr⟩
 ·rename_i p;obtain⟨v,hv⟩:=h;exact⟨λN hN=>aZ.of (t59n hN hv) rfl rfl,λr hr=>hr⟩
 ·exact h.elim
theorem ok59{l:List (Nat×DM.Spec)}(h:ay Tryz.prog (aW l)):ay Tryz.prog (aW ((59,fa XI)::l)):=ay.gV h k59_ok
abbrev s84:DM.Spec:=cz (λts=>∃c l,ts=[ti c,.sl (bJ l)]/\(∀v∈l,kU v)/\0<=c/\c<=4000000000000/\l.length<=1000000) (fun|[.int _ c,.sl l]=>.agg [ti (comb c (lq l)).cost,ti (comb c (lq l)).size]|_=>.bool false) true
theorem ok84{l:List (Nat×DM.Spec)}(h:ay Tryz.prog (aW l)):ay Tryz.prog (aW ((84,s84)::l)):=by
 refine ay.cons h ?_;rintro ts ⟨c,l,rfl,h1,h2,h3,h4⟩;exact⟨by simpa using t84 c l h1 h2 h3 h4,λ_=>rfl⟩
def iX(z:df)(best:List br)(bF:Int)(l:List It):br:=comb bF (l.map λx=>iO z best x.1 x.2.1 x.2.2)
def WH(z:df)(best:List br)(l:List It):Prop:=∀x∈l,x.2.1=z.fr/\x.2.2=z.to->0<=x.1/\x.1<best.length
theorem F8{z:df}{best:List br}(hc:CO z.c)(hb:∀v∈best,kU v)(h f t:Int):kU (iO z best h f t):=by
 unfold iO;split
 ·unfold bv;rw[List.getD];cases e:best[h.toNat]? with
  |none=>simp[kU,default];decide
  |some x=>exact hb x (Zaq e)
 ·exact UT hc h f t
theorem B6{f0:aU}{N r:Nat}{L:List (Nat×Ob)}(hr:r<N)(hL:∀p∈L,N<=p.1):over L f0 r=f0 r:=
 ej λo' h=>by have:=hL _ h;simp only at this;omega
theorem SV.at.over{v:SV}{f0:aU}{p N:Nat}{L:List (Nat×Ob)}(h:v.at f0 p)(bj:dO f0 N)(hL:∀p∈L,N<=p.1):v.at (DM.over L f0) p:=by
 have g:∀{r o},f0 r=some o->DM.over L f0 r=some o:=λe=>(B6 (bj _ _ e).1 hL).trans e;exact⟨g h.sp,g h.rb,g h.rf,g h.rh,g h.q,g h.hp,g h.m,g h.a⟩
theorem t61{f0:aU}{p N:Nat}{bF:Int}{l:List It}{v:SV}(hN:∀r,N<=r->f0 r=none)(hv:v.at f0 p)(hc:tJ v.z.c)(dU:CO v.z.c)(hb:∀x∈v.s.best,kU x)(hi:WH v.z v.s.best l)(hp:0<=bF/\bF<=4000000000000)(hl:l.length<=1000):
  aZ Tryz.prog 61 [.ptr p 0,.v (ti bF),.v (.sl (kr l))] f0 ⟨True,.v (.agg [ti (iX v.z v.s.best bF l).cost,ti (iX v.z v.s.best bF l).size]),f0⟩:=by
 obtain⟨R,hR⟩:∃R,iX v.z v.s.best bF l=R:=⟨_,rfl⟩;rw[hR];unfold iX at hR;obtain⟨Vs,hVs⟩:∃Vs,l.map (λx=>iO v.z v.s.best x.1 x.2.1 x.2.2)=Vs:=⟨_,rfl⟩;rw[hVs]at hR;have hVl:Vs.length=l.length:=by rw[<-hVs];simp
 have PV:∀x∈Vs,kU x:=by
  rw[<-hVs];intro x hx;obtain⟨y,_,rfl⟩:=Zal.1 hx;exact F8 dU hb _ _ _
 have aw:=ok83 (ok84 ay.nil);refine c61.uM hN (by simp) λbj=>?_;have h1:=hv.sp;have uO:p<N:=(bj p _ h1).1;have np:∀k,p≠N+k:=λk=>by omega
 have lV:(∃cs,f0 p=some (.box cs)):=⟨_,h1⟩;simp;refine aa.ab aw fw [0,1,2,6] ?_;simp[TS];refine aa.ab aw fw [0,1,2,6,7] ?_;simp[TT];refine aa.seq ?_;refine aa.ab aw fw [0,1,6,7,10,11,12] ?_;simp[TU];refine aa.le (Le.fp (l1:=[(N+7,.box [.v (ti 0),.v (ti 0)])]) (l:=[(0,.ptr p 0),(1,.v (ti bF)),(6,.ptr (N+7) 0),(7,.aJ),(10,.v (.sl (kr l))),(11,.v (ti l.length)),(12,.v (ti 0))]) (nxt':=N+500) bj ?_ ?_ ?_ ?_ ?_) ?_
 ·omega
 ·simp
 ·simp[ca,Nat.add_assoc]
 ·simp[gS,iv,Nat.add_assoc]
 ·simp[np,Nat.add_assoc,lV]
 refine aa.le (Le.ml (k:=7) 55 (sz:=2) (by omega) (by simp)) ?_;rw[kS];refine aa.block ?_;refine aa.loop (λi:Nat=>⟨DM.look [(0,.ptr p 0),(1,.v (ti bF)),(6,.ptr (N+7) 0),(7,.bd (N+500) i),(10,.v (.sl (kr l))),(11,.v (ti l.length)),(12,.v (ti i))],over [(N+7,.box [.v (ti 0),.v (ti 0)]),(N+500,.arr i 55 2 (bJ (Vs.take i)))] f0,N+1000,N,[]⟩)
  (λi=>i<=l.length) (λi=>l.length-i) 0 (Le.fp bj ?_ ?_ ?_ ?_ ?_) (by omega) (λi hi2=>?_)
 ·omega
 ·simp
 ·simp[ca]
 ·simp[gS,iv]
 ·simp[np,lV]
 refine aa.ab aw fw [0,1,6,7,10,11,12,13] ?_;simp[TV];refine aa.seq ?_;refine aa.cond rfl (λg=>?_) (λg=>?_)
 ·have g:i<l.length:=by simpa using g
  have rr:=xV g;have O9:=hi _ (show l.getD i default∈l by simp[List.getD,g]);have hV:Vs.take (i+1)=Vs.take i++[iO v.z v.s.best (l.getD i default).1 (l.getD i default).2.1 (l.getD i default).2.2]:=by
   rw[Zbw,Zan (by omega)];simp only[<-hVs,Zcl,Option.toList_some];simp[List.getD,g]
  obtain⟨⟨xh,xf,xt⟩,hx⟩:∃x,l.getD i default=x:=⟨_,rfl⟩;rw[hx]at rr O9 hV;simp only[Y5]at rr O9 hV;obtain⟨⟨vc,vz⟩,hvv⟩:∃y,iO v.z v.s.best xh xf xt=y:=⟨_,rfl⟩;rw[hvv]at hV;refine aa.skip ?_;simp;refine aa.seq ?_;refine aa.block ?_;refine aa.ab aw fw [0,1,6,7,9,10,11,12] ?_;simp[adl,rr,g];refine aa.le (Le.fp (l1:=[(N+7,.box [.v (ti 0),.v (ti 0)]),(N+500,.arr i 55 2 (bJ (Vs.take i)))]) (l:=[(0,.ptr p 0),(1,.v (ti bF)),(6,.ptr (N+7) 0),(7,.bd (N+500) i),(9,.v (.box [ti xh,ti xf,ti xt])),(10,.v (.sl (kr l))),(11,.v (ti l.length)),(12,.v (ti i))]) (nxt':=N+3000) bj ?_ ?_ ?_ ?_ ?_) ?_
  ·omega
  ·simp
  ·simp[ca,Nat.add_assoc]
  ·simp[gS,iv,Nat.add_assoc]
  ·simp[np,Nat.add_assoc,lV];exact cW bj (by omega) (by simp)
  have jn:v.at (over [(N+7,.box [.v (ti 0),.v (ti 0)]),(N+500,.arr i 55 2 (bJ (Vs.take i)))] f0) p:=hv.over bj (by simp);have k1:=k83_eq (h:=xh) (g:=xf) (t:=xt) jn;rw[hvv]at k1;have Ns:chunk 2 1 [ti vc,ti vz]=[[ti vc,ti vz]]:=rfl;have oK:cF 16 (i+1):=by simp[cF];omega
  have hTl:(Vs.take i).length=i:=by rw[Zaw];omega
  refine aa.Po aw fw (rs:=K1) rfl (by kernel_rfl) [0,1,6,7,10,11,12] ?_;simp[K1,k1,hc,Ns,hTl,oK];refine⟨λz1 z2=>O9 ⟨z1,z2⟩, ?_⟩;have hvt:bJ (Vs.take (i+1))=bJ (Vs.take i)++[[ti vc,ti vz]]:=by rw[hV];simp[bJ]
  refine aa.dc aw fw [0,1,6,7,10,11,12] ?_;simp[adm];rw[au (by omega)];refine⟨i+1,Le.fp bj ?_ ?_ ?_ ?_ ?_,by omega,by omega⟩
  ·omega
  ·simp
  ·simp[ca]
  ·simp[gS,iv,hvt]
  ·simp[np,lV,hvt]
 ·have g:¬i<l.length:=by simpa using g
  have hie:i=l.length:=by omega
  subst hie;rw[Za2 (by omega)];refine aa.exit ?_;simp;refine aa.le (Le.fp (l1:=[(N+7,.box [.v (ti 0),.v (ti 0)])]) (l:=[(1,.v (ti bF)),(6,.ptr (N+7) 0),(7,.v (.sl (bJ Vs)))]) (nxt':=N+5000) bj ?_ ?_ ?_ ?_ ?_) ?_
  ·omega
  ·simp
  ·simp[ca]
  ·simp[gS,iv]
  ·simp;exact cW bj (by omega) (by simp)
  refine aa.ab aw fw [6] ?_;simp[TW,and_assoc,hVl,hR];refine⟨PV,hp.1,hp.2,by omega, ?_⟩;refine aa.le (pX (l:=[(6,.v (.box [ti R.cost,ti R.size]))]) (nxt':=N+6000) bj (by omega) (by simp) ?_) ?_
  ·simp;exact cW (l:=[]) bj (by omega) (by simp)
  refine aa.ret ?_;simp[K2];rfl
end cC
end Go.Proofs
