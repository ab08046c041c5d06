/- Part. Conditions: none. -/
import Derived.Test.YtbmaafemenldnaaGreatDoorYae
set_option linter.all false
set_option maxHeartbeats 8000000
set_option maxRecDepth 20000
namespace Go.Proofs
open Go.DM Go.DM.iN
section
variable{ab:bS}{al:List bF}
def k30:bW->bS->iw
 |[.ptr b 0,.v (.int .i64 i)],ab=>
  ⟨ab b=some (.box (c7 (lg ab b).1 (lg ab b).2))/\ab (lg ab b).2=some (fM (zo ab (lg ab b).2))/\0<=i/\i<=(lg ab b).1.ag.length/\Sg (lg ab b).1,.v (.dh []),
   dx ab (lg ab b).2 (fM (cy (zo ab (lg ab b).2) (tw (lg ab b).1 i.toNat)))⟩
 |_,ab=>⟨False,.undef,ab⟩
def ajg{b m:Nat}{x:Input}{i:Nat}(h:ab b=some (.box (c7 x m)))(hm:ab m=some (fM al)):
  k30 [.ptr b 0,.v (ti i)] ab=⟨i<=x.ag.length/\Sg x,.v (.dh []),dx ab m (fM (cy al (tw x i)))⟩:=by
 simp only[k30,Bw h,h,FR hm,hm,gN,Em,Int.ofNat_le,Zc4]
abbrev Γ7:kv:=bz [(58,fl k30),(60,fl (k32 sT eV)),(59,fl k31),(57,xP aeI ajh 3 1)]
def ok7:aw ak Γ7:=by
 refine aw.il (au0 (aw.il (aw.Va aw.nil ?_) ?_)) ?_
 .rintro ts ⟨v,n,rfl,h1,h2⟩;have:=t29 v n h1 h2;simpa [ajh,au]using this
 .exact(ok5 59 (fl k31) rfl).st k31 rfl
 .intro args ab h;unfold k30 at h⊢;split at h
  .rename_i aM b i;obtain⟨hb,hm,h1,h2,h3⟩:=h;obtain⟨i,rfl⟩:=bX h1;refine⟨λN hN=>?_,λr hr=>fj hm hr⟩;exact ce.of (t30 hN hb hm (by omega) h3) (by simp) (by simp)
  .exact h.elim
def Xk:cA:=[
 a 2 5 36 [],
 l 36 37 [0],
 n 6 38,
 o (.bin .mul (i 2) (t 38)) 39 [2],
 n 3 40,
 n 6 41,
 n 4 42,
 o (.callR 59 [(t 40),(t 41),(t 42)]) 43 [4,5,6],
 m 43 35 [7],
 e 0 35 44 [8],
 e 1 35 45 [8],
 x 1 37 39 46 (k [1,3] 9),
 S 1 46 44 (k [11,9,7] 9)]
def Xl{b m:Nat}{x:Input}{i j:Nat}(h:ab b=some (.box (c7 x m))):
  ru k31 [.ptr b 0,.v (ti i),.v (ti j)] ab=(i<=j/\j<=x.ag.length/\zH x.ag)/\
   (k31 [.ptr b 0,.v (ti i),.v (ti j)] (oO ab [.ptr b 0,.v (ti i),.v (ti j)])).val=.v (.dh [ti (fL ((x.ag.take j).drop i) 0),.sl (ca (d6 (j-i)))]):=by
 have hr:oO ab [.ptr b 0,.v (ti i),.v (ti j)] b=some (.box (c7 x m)):=by simp[oO,da,br,h]
 refine⟨?_,by rw[zp hr]⟩;unfold ru;apply propext;constructor
 .intro H;have:=H ab (λ_ _=>rfl);rw[zp h]at this;exact this.1
 .intro H o ho;have hb:o b=some (.box (c7 x m)):=by rw[ho b (by simp[da,br]),h]
  rw[zp hb,zp hr];exact⟨H,rfl,rfl⟩
def w8(x:Input)(y:Nat):List bF:=(List.range y).flatMap (tw x)
def SJ(x:Input)(y:Nat):w8 x (y+1)=w8 x y++tw x y:=by simp[w8,Gy]
def gT(x:Input)(n y:Nat):List (aG):=(List.range n).map λs=>[ti (if s % 2=0/\s/2<y then ez x (s/2) x.ag.length else 1099511627776)]
def Kr(x:Input){n y:Nat}(h:2*y<n):(gT x n y).set (2*y) [ti (ez x y x.ag.length)]=gT x n (y+1):=by
 apply Jc
 .simp[gT]
 .intro k h1 h2;rw[ZcL];simp only[gT,Lm,ZbX];split
  .rename_i e;subst e;rw[ee (by omega),show 2*y/2=y by omega]
  .rename_i e;by_cases hk:k % 2=0/\k/2<y
   .rw[ee hk,ee (by omega)]
   .rw[iK hk,iK (by omega)]
def Ks(x:Input)(n y:Nat):(gT x n y).length=n:=by simp[gT]
def HH(x:Input)(n:Nat):gT x n 0=List.replicate n [ti 1099511627776]:=by
 apply Jc
 .simp[gT]
 .intro k h1 h2;simp[gT]
def gK(a b:bS)(σ:Nat->Nat)(cs yJ:bW):jx a b σ (.box cs) (.box yJ)=kJ a b σ cs yJ:=rfl
def jk(a b:bS)(σ:Nat->Nat)(v v' e e' sz jt:Nat)(aC eN:List (aG)):jx a b σ (.bm v e sz aC) (.bm v' e' jt eN)=(e=e'/\sz=jt/\aC=eN):=rfl
def uo(a b:bS)(al:List bF):jx a b id (fM al) (fM al):=by
 simp only[fM,jx];exact⟨trivial,trivial,trivial,o8 λe he=>by obtain⟨x,hx⟩:=fY al e he;rw[hx];simp⟩
def Ay{e:Nat×T×DV}(h:e∈df al):∃i,i<al.length/\e=(i,(al.getD i default).key,.v (.agg (al.getD i default).enc)):=by
 obtain⟨i,hi,rfl⟩:=OQ h;rw[lD]at hi;refine⟨i,hi, ?_⟩;have:=gS al i;rw[mM (by rw[lD];exact hi),mM hi]at this;simp only[Rp,cq]at this;rw[this];simp[List.getD,hi]
def HI{i:Nat}(h:i<al.length):(df al).find? (λe=>e.1==i)=some (i,(al.getD i default).key,.v (.agg (al.getD i default).enc)):=by
 rw[ZcD];have hg:∀(j:Nat) (hj:j<(df al).length),(df al)[j]=(j,(al.getD j default).key,.v (.agg (al.getD j default).enc)):=by
  intro j hj;rw[lD]at hj;have:=gS al j;rw[mM (by rw[lD];exact hj),mM hj]at this;simp only[Rp,cq]at this;rw[this];simp[List.getD,hj]
 refine⟨by simp,i,by rw[lD];exact h,hg _ _,λj hj=>?_⟩;rw[hg];simp;omega
def zr:∀(n:Nat) {l:cN},l.Nodup->(∀i∈l,i<n)->l.length<=n
 |0,l,_,h=>by cases l with
  |nil=>simp
  |cons a l=>exact qe (h a (by simp)) (by omega)
 |n+1,l,hn,h=>by
  by_cases hm:n∈l
  .have h1:=List.length_erase_of_mem hm;have h2:=zr n (l:=l.erase n) (hn.erase n) (λi hi=>by
    have:=h i (List.mem_of_mem_erase hi);have dd:i≠n:=λe=>by subst e;exact(List.Nodup.not_mem_erase hn) hi
    omega)
   omega
  .have:=zr n hn (λi hi=>by
    have:=h i hi;have dd:i≠n:=λe=>hm (e▸hi);omega)
   omega
def yr(a b:bS)(al:List bF):iD a b id (df al) (df al):=o8 λe he=>by obtain⟨x,hx⟩:=fY al e he;rw[hx];simp
def SK{α:Type}{f:α->aG}{l:List α}{y:Nat}{a:α}(h:y<l.length)(ha:l[y]=a):(l.take (y+1)).map f=(l.take y).map f++[f a]:=by
 rw[OS,mM h,ha];simp
def lT(x:Input):List bF:=cy [] (w8 x (x.ag.length+1))
def yH(x:Input):ba:=(List.range (2*x.ag.length+1)).map λs=>if s % 2=0 then ez x (s/2) x.ag.length else 1099511627776
def qR(x:Input):aF:=⟨2*x.ag.length+1,kD (lT x),yH x⟩
def Kt(x:Input):gT x (2*x.ag.length+1) (x.ag.length+1)=au (yH x):=by
 simp only[gT,yH,au,Zc3];apply ZbN;intro s hs;simp only[I0]at hs;by_cases h:s % 2=0
 .simp only[Function.comp_apply,h,Eg,Em];rw[ee (by omega)]
 .simp[h]
@[simp] def aeJ(al:List bF):jT (some (fM al)):=by simp[jT,fM]
def t12(x:Input)(hx:Sg x)(yC:(lT x).length<=qA)(jZ:(lT x).length<=1000000000):aJ ak 21 [x.enc] (qR x).enc:=by
 have bb:=ok7;have hl:=hx.1.1;refine c12.ok (by simp) (aH ?_);simp[Input.enc];apply aa.ai bb fw [1,2];simp[WI];apply aa.ai bb fw [1,2,3];simp[WJ];apply aa.ai bb fw [2,3,4];simp[WK];obtain⟨n2,FF⟩:=aY (2*x.ag.length+1);have w1:IntKind.i64.wrap (2*(x.ag.length:Int))=2*x.ag.length:=av (by omega);have w2:IntKind.i64.wrap (2*(x.ag.length:Int)+1)=(n2:Int):=by rw[av (by omega)];omega
 refine aa.fR bb fw (rs:=W6) (.inr ⟨_,pV⟩) (by kernel_rfl) [2,3,4,5] ?_;simp[W6,w1,w2,aeI,ajh,di];refine⟨⟨1099511627776,n2,⟨rfl,rfl⟩,by omega,by omega⟩, ?_⟩;obtain⟨n,hn⟩:=aY x.ag.length;rw[hn]at FF hl;apply aa.seq;have w3:IntKind.i64.wrap ((n:Int)+1)=((n+1:Nat):Int):=by rw[av (by omega)];omega
 apply aa.ai bb fw [2,3,4,5,28,29];simp[WL,hn,w3];obtain⟨n1,hn1⟩:=aY (n+1);rw[show((n:Int)+1)=(n1:Int)by omega];refine aa.to ⟨DM.look [(2,.ptr 1003 0),(3,.ptr 1098 0),(5,.ptr 1255 0)],cR [(1003,.box [.v (ti 0),.aZ,.aZ]),(1098,.box (c7 x 1096)),(1096,fM (cy [] (w8 x n1))),(1255,.box [.v (ti n2),.aZ,.aW 1275 0]),(1275,.bm 0 3 1 (gT x n2 n1))],3000,1000,[]⟩ ?_ ?_
 .apply aa.block;refine aa.loop (λy:Nat=>⟨DM.look [(2,.ptr 1003 0),(3,.ptr 1098 0),(4,.v (ti n)),(5,.ptr 1255 0),(28,.v (ti n1)),(29,.v (ti y))],cR [(1003,.box [.v (ti 0),.aZ,.aZ]),(1098,.box (c7 x 1096)),(1096,fM (cy [] (w8 x y))),(1255,.box [.v (ti n2),.aZ,.aW 1275 0]),(1275,.bm 0 3 1 (gT x n2 y))],3000,1000,[]⟩)
   (λy=>y<=n1) (λy=>n1-y) 0 (Le.aL ?_ ?_ ?_ ?_) (by simp) (λy hy=>?_)
  .simp
  .simp[]
  .simp[c7,fM,df,w8,cy,HH,jw,iD,jT]
  .simp
  apply aa.ai bb fw [2,3,4,5,28,29,30];simp[WN];apply aa.seq;refine aa.cond rfl (λaS=>?_) (λaS=>?_)
  .simp at aS;apply aa.skip;simp;apply aa.seq;apply aa.block;apply aa.ai bb fw [2,3,4,5,6,28,29];simp[WO];refine aa.fR bb fw (rs:=W7) (.inr ⟨_,pV⟩) (by kernel_rfl) [2,3,4,5,6,28,29] ?_;simp[W7,ajg (x:=x) (m:=1096) (al:=cy [] (w8 x y))];refine⟨⟨by omega,hx⟩, ?_⟩;obtain⟨Lo,zq⟩:=aY (cy (cy [] (w8 x y)) (tw x y));have aro:cy [] (w8 x (y+1))=Lo:=by rw[SJ,ia,zq]
   rw[zq,jY];refine aa.le (Le.aL (o:=[(1003,.box [.v (ti 0),.aZ,.aZ]),(1098,.box (c7 x 1096)),(1096,fM Lo),(1255,.box [.v (ti n2),.aZ,.aW 1275 0]),(1275,.bm 0 3 1 (gT x n2 y))]) (l:=[(2,.ptr 1003 0),(3,.ptr 1098 0),(4,.v (ti n)),(5,.ptr 1255 0),(6,.v (ti y)),(28,.v (ti n1)),(29,.v (ti y))]) (bn:=4000) ?_ ?_ ?_ ?_) ?_
   .simp
   .simp
   .simp[-jx,gK,jk,uo,c7,jw]
   .simp
   have hyn:y<=n:=by omega
   have w4:IntKind.i64.wrap (2*(y:Int))=((2*y:Nat):Int):=by rw[av (by omega)];omega
   obtain⟨y2,fI⟩:=aY (2*y);rw[fI]at w4;have sZ:y2<n2:=by omega
   have hdc:fL ((x.ag.take n).drop y) 0=ez x y n:=rfl;have sD:DM.rowAt (gT x n2 y) (y2:Int)=[ti 1099511627776]:=by
    have e:(2*(y:Int)).toNat=y2:=by omega
    subst fI;simp[DM.rowAt,gT,e,sZ]
   have kc:=Kr x (n:=n2) (y:=y) (by omega);rw[fI,hn]at kc;have hd:=hx.1;refine aa.rP bb fw (rs:=Xk) (.inr ⟨_,pV⟩) (by kernel_rfl) [2,3,4,5,28,29] ?_;simp[Xk,Xl (x:=x) (m:=1096),hn,w4,hd,hyn,Ks,sZ,hdc,sD,kc];apply aa.cZ bb fw [2,3,4,5,28,29];simp[WP];rw[av (by omega)];refine⟨y+1,Le.aL ?_ ?_ ?_ ?_,by omega,by omega⟩
   .simp
   .simp
   .simp[-jx,gK,jk,uo,c7,jw,aro]
   .simp
  .simp at aS;have:y=n1:=by omega
   subst this;refine aa.exit ⟨rfl,Le.aL ?_ ?_ ?_ ?_⟩
   .simp
   .simp
   .simp[-jx,gK,jk,uo,c7,jw]
   .simp
 .obtain⟨al,mE⟩:=aY (cy [] (w8 x n1));obtain⟨fr,kc⟩:=aY (gT x n2 n1);rw[mE,kc];apply aa.ai bb fw [2,3,5,7];simp[Ni];apply aa.sq bb fw [2,3,5,7,52];simp[Nj,c7,fM];refine aa.le (Le.j7 (k:=7) 111 (sz:=3) (by omega) (by simp)) ?_;rw[jY];apply aa.block;refine aa.loop (λsn:cN=>⟨DM.look [(2,.ptr 1003 0),(3,.ptr 1098 0),(5,.ptr 1255 0),(7,.aW 3166 0),(52,.eo 3136)],cR [(1003,.box [.v (ti 0),.aZ,.aZ]),(1098,.box (c7 x 1096)),(1096,fM al),(1255,.box [.v (ti n2),.aZ,.aW 1275 0]),(1275,.bm 0 3 1 fr),(3166,.bm 0 111 3 (sn.map λi=>cF (al.getD i default))),(3136,.eo 1096 al.length sn al.length)],4000,1000,[]⟩)
   (λsn=>sn.Nodup/\∀i∈sn,i<al.length) (λsn=>al.length-sn.length) [] (Le.aL ?_ ?_ ?_ ?_) (by simp) (λsn hs=>?_)
  .simp
  .simp
  .simp[-jx,gK,jk,c7,jw];simp[jx,fM,jT];exact o8 λe he=>by obtain⟨x,hx⟩:=fY al e he;rw[hx];simp
  .simp[Vd,CE]
  obtain⟨yz,Tk⟩:=hs;apply aa.seq;refine aa.next (r:=3136) (m:=1096) (s:=al.length) (l:=al.length) (c:=al.length) (sn:=sn) (bZ:=mI) (agg:=true) (es:=df al) (by simp) (by simp) (by simp[fM]) (λe he=>?_) (gJ _) (λU2=>?_) (λe he dd=>?_)
  .obtain⟨i,hi,rfl⟩:=Ay he;exact hi
  .simp;have hp:=SL yz Tk λi hi=>U2 _ (Hf (by rw[gS,mM hi];rfl:(df al)[i]? =some (i,al[i].key,.v (.agg al[i].enc))));have pQ:∀r∈sn.map (λi=>cF (al.getD i default)),sT r:=by
    intro r hr;obtain⟨i,_,rfl⟩:=sE.1 hr;exact⟨_,_,_,rfl⟩
   have ct:(sn.map (λi=>cF (al.getD i default))).length=al.length:=by rw[hp.length_eq];simp
   have Bg:(al.map cF).Nodup:=by rw[<-mE];exact w9 _ (by simp)
   have hso:dP (my eV) (sn.map (λi=>cF (al.getD i default)))=dP (my eV) (al.map cF):=NJ hp (λr hr=>by
    obtain⟨a,_,rfl⟩:=sE.1 hr;exact⟨_,_,_,rfl⟩) Bg
   have aaW:lT x=al:=by unfold lT;rw[hn,hn1,mE]
   rw[aaW]at yC jZ;rw[<-ct]at yC jZ;obtain⟨aC,cK⟩:=aY (sn.map (λi=>cF (al.getD i default)));have aji:sn.map (λi=>cF (al[i]?.getD default))=aC:=cK;rw[cK]at yC jZ pQ hso ct;rw[aji];apply aa.seq;refine aa.cond rfl (λh=>by cases h) (λ_=>?_);apply aa.exit;simp;refine aa.fR bb fw (rs:=PF) (.inr ⟨_,pV⟩) (by kernel_rfl) [2,3,5,7] ?_;simp[PF,k32,hso,yC,jZ];refine⟨pQ, ?_⟩;obtain⟨ks,hks⟩:=aY (dP (my eV) (al.map cF));have ajj:ks.length=al.length:=by rw[<-hks,gO];simp
   have au1:∀r∈ks,∃a∈al,cF a=r:=by
    intro r hr;rw[<-hks,gI]at hr;obtain⟨a,ha,rfl⟩:=sE.1 hr;exact⟨a,ha,rfl⟩
   rw[hks,jY];refine aa.le (Le.aL (o:=[(1003,.box [.v (ti 0),.aZ,.aZ]),(1098,.box (c7 x 1096)),(1096,fM al),(1255,.box [.v (ti n2),.aZ,.aW 1275 0]),(1275,.bm 0 3 1 fr),(3166,.bm 0 111 3 ks)]) (l:=[(2,.ptr 1003 0),(3,.ptr 1098 0),(5,.ptr 1255 0),(7,.aW 3166 0)]) (bn:=4500) ?_ ?_ ?_ ?_) ?_
   .simp
   .simp
   .simp[c7,jw,jT,yr,fM]
   .simp
   refine aa.le (Le.qZ 1255 1 115 (sz:=5) (cs:=[.v (ti n2),.aZ,.aW 1275 0]) (by omega) (by simp) (by simp)) ?_;rw[jY,jY];apply aa.sq bb fw [2,3,5,63,64,65];simp[Nm,ajj];refine aa.to ⟨DM.look [(2,.ptr 1003 0),(5,.ptr 1255 0)],cR [(1003,.box [.v (ti 0),.aZ,.aZ]),(1255,.box [.v (ti n2),.aW 4500 0,.aW 1275 0]),(1275,.bm 0 3 1 fr),(4500,.bm 0 115 5 (bq (kD al)))],6000,1000,[]⟩ ?_ ?_
   .apply aa.block;refine aa.loop (λy:Nat=>⟨DM.look [(2,.ptr 1003 0),(3,.ptr 1098 0),(5,.ptr 1255 0),(63,.aW 3166 0),(64,.v (ti al.length)),(65,.v (ti y))],cR [(1003,.box [.v (ti 0),.aZ,.aZ]),(1098,.box (c7 x 1096)),(1096,fM al),(1255,.box [.v (ti n2),.aW 4500 0,.aW 1275 0]),(1275,.bm 0 3 1 fr),(3166,.bm 0 111 3 ks),(4500,.bm 0 115 5 (bq ((ks.take y).map (qh al))))],6000,1000,[]⟩)
     (λy=>y<=al.length) (λy=>al.length-y) 0 (Le.aL ?_ ?_ ?_ ?_) (by simp) (λy hy=>?_)
    .simp
    .simp
    .simp[c7,jw,jT,yr,fM,bq]
    .simp
    apply aa.ai bb fw [2,3,5,63,64,65,66];simp[No];apply aa.seq;refine aa.cond rfl (λaS=>?_) (λaS=>?_)
    .simp at aS;apply aa.skip;simp;apply aa.seq;apply aa.block;obtain⟨r,hr⟩:=aY (ks[y]'(by omega));obtain⟨a,ha,hak⟩:=au1 r (by rw[<-hr];exact MK _);have gf:DM.rowAt ks y=cF a:=by rw[hak,<-hr];simp[DM.rowAt,ajj,aS]
     obtain⟨l1,l2,i,l3⟩:=uA ha;have aeK:=SK (f:=λr=>(qh al r).enc) (by omega) hr;obtain⟨c,hc⟩:=aY (qh al (cF a));rw[hc]at l3;rw[<-hak,hc]at aeK;have ajk:bq (List.take (y+1) (List.map (qh al) ks))=bq (List.take y (List.map (qh al) ks))++[[ti c.f,ti c.t,ti c.term,ti c.aA,.sl (ca c.ops)]]:=by
      have:=aeK;simp only[bq,Zc9,Zc3]at this⊢;exact this
     simp only[bF.key,keyOf]at l3;apply aa.ai bb fw [2,3,5,10,63,64,65];simp[Np,gf,ajj,aS,cF];apply aa.cZ bb fw [2,3,5,63,64,65];simp[Nq,c7,fM,l3,bF.enc,cw,di];refine⟨⟨by omega,by omega⟩, ?_⟩;apply aa.cZ bb fw [2,3,5,63,64,65];simp[Nr];rw[av (by omega)];refine⟨y+1,Le.aL ?_ ?_ ?_ ?_,by omega,by omega⟩
     .simp
     .simp
     .simp[jw,jT,yr,ajk]
     .simp
    .simp at aS;have:y=al.length:=by omega
     subst this;refine aa.exit ⟨rfl,Le.aL ?_ ?_ ?_ ?_⟩
     .simp
     .simp
     .simp[kD,hks];rw[Lz (by simp;omega)]
     .simp
   .apply aa.ai bb fw [2];simp[aii];apply aa.ret;have fN:fr=au (yH x):=by rw[<-kc,<-hn1,<-FF,<-hn];exact Kt x
    simp[Dv,qR,aF.enc,aaW,fN,hn];omega
  .obtain⟨i,hi,rfl⟩:=Ay he;have aeL:=HI hi;obtain⟨a,ha⟩:=aY (al.getD i default);rw[ha]at aeL;simp only at dd;simp;apply aa.seq;refine aa.cond rfl (λ_=>?_) (λh=>by cases h);apply aa.skip;simp;apply aa.block;apply aa.ai bb fw [2,3,5,7,8,52];simp[Nk,fM,aeL,bF.key,keyOf];apply aa.cZ bb fw [2,3,5,7,52];simp[Nl,cw,di];have ct:=zr al.length (l:=i::sn) (by simp[dd,yz]) (by simp;exact⟨hi,Tk⟩);simp at ct;have aaW:lT x=al:=by unfold lT;rw[hn,hn1,mE]
   rw[aaW]at jZ;have ha':al[i]?.getD default=a:=ha;refine⟨⟨by omega,by omega⟩,sn++[i],Le.aL ?_ ?_ ?_ ?_,⟨?_, ?_⟩, ?_⟩
   .simp
   .simp
   .simp[c7,jw,jT,yr,ha',cF]
   .simp[Vd,CE]
   .rw[Zct];exact⟨yz,by simp,by simp;intro q hq e;subst e;exact dd hq⟩
   .intro j hj;rw[lF,uy]at hj;rcases hj with h|h
    .exact Tk j h
    .omega
   .simp;omega
end
open Go.DM
def gF{α:Type}{f:Nat->List α}{i m:Nat}{a:α}(h:a∈ft f i m):∃k,i<=k/\k<m/\a∈f k:=by
 unfold ft at h;obtain⟨e,he,ha⟩:=ZT.1 h;rw[I0]at he;exact⟨i+e,by omega,by omega,ha⟩
def wA(x:Input)(k:Nat):(fe x k).length=2*x.ag.length+1:=by simp[fe]
def JM{x:Input}(ht:x.insert.length<=100)(hn:x.ag.length<=60):(eK x).length<=900000:=by
 unfold eK;have h1:=ib (ft (iI x) 0 (x.ag.length+1)) (bE [] (ft (rI x) 0 (x.ag.length+1)));have h2:=ib (ft (rI x) 0 (x.ag.length+1)) [];have h3:=kz (f:=iI x) (B:=7000) (λk=>Xz x k ht hn) 0 (x.ag.length+1);have h4:=kz (f:=rI x) (B:=7000) (λk=>Xx x k ht hn) 0 (x.ag.length+1);simp at h2;omega
section
variable{al:List bF}
def fZ{a b:bF}:aV a b=true↔a.f=b.f/\a.t=b.t/\a.term=b.term:=by simp[aV]
def wZ(a:bF):aV a a=true:=by simp[aV]
def iU(a b:bF):aV a b=aV b a:=by
 simp only[aV,decide_eq_decide];omega
def zK{a b:bF}(h:aV a b=true)(k:bF):aV k a=aV k b:=by
 rw[fZ]at h;simp only[aV,decide_eq_decide];omega
def before_irrefl(a:bF):¬cb a a:=by unfold cb;omega
def before_trans{a b c:bF}(h:cb a b)(h2:cb b c):cb a c:=by unfold cb at*;omega
def Gb{a b:bF}(h:cb a b):¬cb b a:=by unfold cb at*;omega
def BE{a b:bF}(h:cb a b):aV a b=false:=by
 cases e:aV a b with
 |false=>rfl
 |true=>rw[fZ]at e;unfold cb at h;omega
def BF{a b:bF}(h1:aV a b=false)(h2:¬cb a b):cb b a:=by
 have:¬(a.f=b.f/\a.t=b.t/\a.term=b.term):=λe=>by rw[fZ.2 e]at h1;cases h1
 unfold cb at*;omega
def Is{a b c:bF}(h:aV a b=true)(h2:cb a c):cb b c:=by
 rw[fZ]at h;unfold cb at*;omega
def kj(k:bF)(o:Option bF)(a:bF):Option bF:=
 if a.aA<1099511627776/\aV k a=true then
  match o with
  |none=>some a
  |some b=>if a.aA<b.aA then some a else some b
 else o
def Lr(a:bF):List bF->List bF
 |[]=>[a]
 |b::l=>if aV a b=true then(if a.aA<b.aA then a else b)::l else b::Lr a l
def aaa{a:bF}(h:a.aA<1099511627776)(al:List bF):vU al a=Lr a al:=by
 unfold vU;rw[ee h];induction al with
 |nil=>simp[Lr]
 |cons b l ih=>
  rw[Rd];unfold Lr;cases e:aV a b with
  |true=>simp;split<;>rfl
  |false=>
   simp;rw[<-ih];cases hf:l.findIdx? (aV a)with
   |none=>simp
   |some i=>simp;split<;>rfl
def EJ(k a:bF):∀l:List bF,(Lr a l).find? (aV k)=if aV k a=true then(match l.find? (aV k)with|none=>some a|some b=>if a.aA<b.aA then some a else some b)else l.find? (aV k)
 |[]=>by unfold Lr;rw[Ii];cases aV k a<;>simp
 |b::l=>by
  unfold Lr;split
  .rename_i e;have h1:=zK e k;have h2:aV k (if a.aA<b.aA then a else b)=aV k b:=by split<;>simp[h1]
   rw[Ii,Ii,h2,h1];cases h3:aV k b with
   |true=>simp;split<;>rfl
   |false=>simp
  .rename_i e;rw[Ii,Ii];cases h3:aV k b with
   |true=>
    have:aV k a=false:=by
     cases h4:aV k a with
     |false=>rfl
     |true=>
      exfalso;apply e;rw[fZ]at h3 h4⊢;omega
    simp[this]
   |false=>simp only[];exact EJ k a l
def Iv(k:bF)(cs:List bF):∀al:List bF,(cy al cs).find? (aV k)=cs.foldl (kj k) (al.find? (aV k)):=by
 induction cs with
 |nil=>intro al;rfl
 |cons c cs ih=>
  intro al;show(cy (vU al c) cs).find? (aV k)=_;rw[ih,Br]
  congr 1
  by_cases hc:c.aA<1099511627776
  .rw[aaa hc,EJ];unfold kj;simp[hc]
  .unfold vU kj;rw[iK hc,iK (λe=>hc e.1)]
def w6(a:bF):List bF->List bF
 |[]=>[a]
 |b::l=>if aV b a=true then(if a.aA<b.aA then a else b)::l else if cb a b then a::b::l else b::w6 a l
def w7(a:bF)(l iz:List bF):l.foldl (fp a) (true,iz)=(true,iz++l):=by
 induction l generalizing iz with
 |nil=>simp
 |cons b l ih=>simp only[Br,fp];simp[ih]
def Gc(a:bF)(p:Bool×List bF):List bF:=if p.1=true then p.2 else p.2++[a]
def zO(a:bF):∀(l iz:List bF),Gc a (l.foldl (fp a) (false,iz))=iz++w6 a l
 |[],iz=>by simp[w6,Gc]
 |b::l,iz=>by
  rw[Br];unfold w6;by_cases h1:aV b a=true
  .have:fp a (false,iz) b=(true,iz++[if a.aA<b.aA then a else b]):=by simp[fp,h1]
   rw[this,w7];simp[h1,Gc]
  .by_cases h2:cb a b
   .have:fp a (false,iz) b=(true,iz++[a]++[b]):=by simp[fp,h1,h2]
    rw[this,w7];simp[h1,h2,Gc]
   .have:fp a (false,iz) b=(false,iz++[b]):=by simp[fp,h1,h2]
    rw[this,zO a l];simp[h1,h2]
def On{a:bF}(h:a.aA<1099511627776)(l:List bF):vo l a=w6 a l:=by
 unfold vo;rw[iK (by omega)];have:=zO a l [];simp only[jB]at this;exact this
def Iw{a c:bF}:∀{l:List bF},c∈w6 a l->c=a\/c∈l
 |[],h=>by simp[w6]at h;exact .inl h
 |b::l,h=>by
  unfold w6 at h;split at h
  .rcases jv.1 h with h|h
   .split at h
    .exact .inl h
    .exact .inr (by simp[h])
   .exact .inr (by simp[h])
  .split at h
   .rcases jv.1 h with h|h
    .exact .inl h
    .exact .inr h
   .rcases jv.1 h with h|h
    .exact .inr (by simp[h])
    .rcases Iw h with h|h
     .exact .inl h
     .exact .inr (by simp[h])
def zP{a:bF}:∀{l:List bF},l.Pairwise cb->(w6 a l).Pairwise cb
 |[],_=>by simp[w6]
 |b::l,h=>by
  rw[Lu]at h;unfold w6;split
  .rename_i e;rw[Lu];refine⟨λc hc=>?_,h.2⟩;split
   .exact Is e (h.1 c hc)
   .exact h.1 c hc
  .rename_i e;split
   .rename_i e2;rw[Lu];refine⟨λc hc=>?_,Lu.2 h⟩;rcases jv.1 hc with rfl|hc
    .exact e2
    .exact before_trans e2 (h.1 c hc)
   .rename_i e2;rw[Lu];refine⟨λc hc=>?_,zP h.2⟩;rcases Iw hc with rfl|hc
    .exact BF (by rw[iU];simpa using e) e2
    .exact h.1 c hc
def EK(k a:bF):∀l:List bF,l.Pairwise cb->(w6 a l).find? (aV k)=if aV k a=true then(match l.find? (aV k)with|none=>some a|some b=>if a.aA<b.aA then some a else some b)else l.find? (aV k)
 |[],_=>by unfold w6;rw[Ii];cases aV k a<;>simp
 |b::l,h=>by
  rw[Lu]at h;unfold w6;split
  .rename_i e;rw[iU]at e;have h1:=zK e k;have h2:aV k (if a.aA<b.aA then a else b)=aV k b:=by split<;>simp[h1]
   rw[Ii,Ii,h2,h1];cases h3:aV k b with
   |true=>simp;split<;>rfl
   |false=>simp
  .rename_i e;split
   .rename_i e2;rw[Ii];cases h3:aV k a with
    |true=>
     have:(b::l).find? (aV k)=none:=by
      rw[ZcY];intro c hc hk;have hb:cb a c:=by
       rcases jv.1 hc with rfl|hc
       .exact e2
       .exact before_trans e2 (h.1 c hc)
      have:=BE hb;rw[fZ]at h3 hk;rw[fZ.2 (by omega)]at this;cases this
     rw[this];rfl
    |false=>rfl
   .rename_i e2;rw[Ii,Ii];cases h3:aV k b with
    |true=>
     have:aV k a=false:=by
      cases h4:aV k a with
      |false=>rfl
      |true=>
       exfalso;apply e;rw[fZ]at h3 h4⊢;omega
     simp[this]
    |false=>simp only[];exact EK k a l h.2
def zQ{l:List bF}(h:l.Pairwise cb)(a:bF):(vo l a).Pairwise cb:=by
 by_cases hc:a.aA<1099511627776
 .rw[On hc];exact zP h
 .unfold vo;rw[ee (by omega)];exact h
def vF(cs:List bF):∀{al:List bF},al.Pairwise cb->(bE al cs).Pairwise cb:=by
 induction cs with
 |nil=>intro al h;exact h
 |cons c cs ih=>intro al h;exact ih (zQ h c)
def tr(k:bF)(cs:List bF):∀{al:List bF},al.Pairwise cb->(bE al cs).find? (aV k)=cs.foldl (kj k) (al.find? (aV k)):=by
 induction cs with
 |nil=>intro al h;rfl
 |cons c cs ih=>
  intro al h;show(bE (vo al c) cs).find? (aV k)=_;rw[ih (zQ h c),Br]
  congr 1
  by_cases hc:c.aA<1099511627776
  .rw[On hc,EK k c al h];unfold kj;simp[hc]
  .unfold vo kj;rw[ee (by omega),iK (λe=>hc e.1)]
def oJ:∀{l:List bF},l.Pairwise (λa b=>aV a b=false)->∀a,a∈l↔l.find? (aV a)=some a
 |[],_,a=>by simp
 |b::l,h,a=>by
  rw[Lu]at h;rw[Ii,jv];cases e:aV a b with
  |true=>
   simp only[cq];constructor
   .rintro(h2|h2)
    .exact h2.symm
    .have:=h.1 a h2;rw[iU,e]at this;cases this
   .exact λh2=>.inl h2.symm
  |false=>
   rw[<-oJ h.2 a];constructor
   .rintro(h2|h2)
    .subst h2;rw[wZ]at e;cases e
    .exact h2
   .exact .inr
def BG:∀{l1 l2:List bF},l1.Pairwise cb->l2.Pairwise cb->(∀a,a∈l1↔a∈l2)->l1=l2
 |[],[],_,_,_=>rfl
 |[],b::t,_,_,h=>qe ((h b).2 (by simp)) (by simp)
 |a::t,[],_,_,h=>qe ((h a).1 (by simp)) (by simp)
 |a::t1,b::t2,h1,h2,h=>by
  rw[Lu]at h1 h2;have e:a=b:=by
   have ha:=(h a).1 (by simp);have hb:=(h b).2 (by simp);rcases jv.1 ha with ha|ha
   .exact ha
   .rcases jv.1 hb with hb|hb
    .exact hb.symm
    .exact qe (h1.1 b hb) (Gb (h2.1 a ha))
  subst e
  congr 1
  refine BG h1.2 h2.2 λx=>?_;constructor
  .intro hx;rcases jv.1 ((h x).1 (by simp[hx]))with e|e
   .subst e;exact qe (h1.1 x hx) (before_irrefl x)
   .exact e
  .intro hx;rcases jv.1 ((h x).2 (by simp[hx]))with e|e
   .subst e;exact qe (h2.1 x hx) (before_irrefl x)
   .exact e
def tt{l:List bF}(h:l.Pairwise cb):l.Pairwise (λa b=>aV a b=false):=h.imp BE
def vV{l:List bF}(h:(l.map cF).Nodup):l.Pairwise (λa b=>aV a b=false):=by
 unfold List.Nodup at h;rw[Zc6]at h;refine h.imp λ{a b} ik=>?_;cases e:aV a b with
 |false=>rfl
 |true=>exact qe (qQ.2 e) ik
def EL{α:Type}(lt:α->α->Bool)(x:α):∀l:List α,(kC lt x l).Perm (x::l)
 |[]=>ZdE _
 |y::ys=>by
  simp only[kC];split
  .exact((EL lt x ys).cons y).trans (List.Perm.swap x y ys)
  .exact ZdE _
def Ix{α:Type}(lt:α->α->Bool)(l:List α):(dP lt l).Perm l:=by
 have key:∀(l iz:List α),(l.foldl (λiz x=>kC lt x iz) iz).Perm (l++iz):=by
  intro l;induction l with
  |nil=>intro iz;exact ZdE _
  |cons x l ih=>
   intro iz;rw[Br];refine(ih _).trans ?_;refine((EL lt x iz).append_left l).trans ?_;exact List.perm_middle
 unfold dP nM;refine(List.reverse_perm _).trans ?_;simpa using key l []
def vW(h:(al.map cF).Nodup){a:bF}(ha:a∈al):qh al (cF a)=a:=by
 have h1:=(uA ha).1;have h2:=(uA ha).2.1;have h3:=(oJ (vV h) a).1 ha;have h4:=(oJ (vV h) _).1 h2;have e:aV (qh al (cF a))=aV a:=by
  funext b;rw[iU _ b,iU _ b];exact(zK h1 b).symm
 rw[e,h3]at h4;exact(TT h4).symm
def Gd(h:(al.map cF).Nodup)(a:bF):a∈kD al↔a∈al:=by
 unfold kD;rw[sE];constructor
 .rintro⟨r,hr,rfl⟩;rw[gI]at hr;obtain⟨b,hb,rfl⟩:=sE.1 hr;exact(uA hb).2.1
 .intro ha;exact⟨cF a,by rw[gI];exact sE.2 ⟨a,ha,rfl⟩,vW h ha⟩
def AE(h:(al.map cF).Nodup):(kD al).Pairwise cb:=by
 unfold kD;rw[Zc6];have h1:(dP (my eV) (al.map cF)).Nodup:=(Ix _ _).symm.nodup h;have h2:=fq Iy (al.map cF);unfold dU at h2;unfold List.Nodup at h1;refine(h1.and h2).imp_of_mem λ{r s} hr hs mK=>?_;rw[gI]at hr hs;obtain⟨a,ha,rfl⟩:=sE.1 hr;obtain⟨b,hb,rfl⟩:=sE.1 hs;rw[vW h ha,vW h hb];have h3:aV a b=false:=by
  cases e:aV a b with
  |false=>rfl
  |true=>exact qe (qQ.2 e) mK.1
 by_cases jZ:cb a b
 .exact jZ
 .exfalso;have h4:=BF h3 jZ;have h5:=mK.2;rw[uB]at h5;apply h5;simp only[cF,kF,dg,ZJ,List.getD_cons_zero,Zdj];exact h4
end
section
variable{aA:Int}{ops:List (Int×Int)}
def pK(k a:bF):Bool:=aV k a&&decide (a.aA<1099511627776)
def zR(k:bF)(cs:List bF):∀o,cs.foldl (kj k) o=(cs.filter (pK k)).foldl (kj k) o:=by
 induction cs with
 |nil=>intro o;rfl
 |cons c cs ih=>
  intro o;rw[Br,Ic,ih];split
  .rfl
  .rename_i h
   congr 1
   unfold kj;rw[iK];rintro⟨h1,h2⟩;apply h;simp[pK,h1,h2]
def jH{α β:Type}(p:β->Bool)(f:α->List β)(l:List α):(l.flatMap f).filter p=l.flatMap λa=>(f a).filter p:=by
 induction l with
 |nil=>rfl
 |cons a l ih=>simp[ZbS,LA,ih]
def mL{p:bF->Bool}{f:Nat->List bF}{i:Nat}(k0:Nat)(h:∀k,k≠k0->(f k).filter p=[]):∀m,(ft f i m).filter p=if i<=k0/\k0<m then(f k0).filter p else []:=by
 intro m;by_cases Tf:m<=i
 .rw[show ft f i m=[]by unfold ft;rw[show m-i=0 by omega];rfl,iK (by omega)];rfl
 obtain⟨d,rfl⟩:∃d,m=i+d:=⟨m-i,by omega⟩;clear Tf;induction d with
 |zero=>rw[Zb2,vX,iK (by omega)];rfl
 |succ d ih=>
  rw[<-Nat.add_assoc,pA f (by omega),LA,ih];by_cases e:i+d=k0
  .rw[iK (by omega),ee (by omega),e];rfl
  .rw[h _ e];by_cases e2:i<=k0/\k0<i+d
   .rw[ee e2,ee (by omega)];simp
   .rw[iK e2,iK (by omega)];rfl
def dE{p:bF->Bool}{l:List bF}(h:∀a∈l,p a=false):l.filter p=[]:=by
 rw[ZcE];intro a ha;simp[h a ha]
def lR{k a:bF}(h:¬(k.f=a.f/\k.t=a.t/\k.term=a.term)):pK k a=false:=by
 have:aV k a=false:=by
  cases e:aV k a with
  |false=>rfl
  |true=>exact qe (fZ.1 e) h
 simp[pK,this]
def Lv{k:bF}{f t x c d:Int}{o:List (Int×Int)}(hc:0<=c)(hd:0<=d):[(⟨f,t,x,c+d,o⟩:bF)].filter (pK k)=[(⟨f,t,x,kH c d,o⟩:bF)].filter (pK k):=by
 by_cases h:c+d<1099511627776
 .have:kH c d=c+d:=by unfold kH;rw[iK (by omega)]
  rw[this]
 .have:kH c d=1099511627776:=by unfold kH;rw[ee (by omega)]
  rw[this];have h1:pK k ⟨f,t,x,c+d,o⟩=false:=by simp[pK,h]
  have h2:pK k ⟨f,t,x,1099511627776,o⟩=false:=by simp[pK]
  simp[h1,h2]
def EM{read:ba}{i m:Int}{n:Nat}{a:bF}(h:a∈mz read i m aA ops n):∃t:Nat,t<n/\0<=read.getD t 0/\a=⟨2*i,2*m+2,t,aA+read.getD t 0,ops++[(1,(t:Int))]⟩:=by
 unfold mz at h;rw[ZT]at h;obtain⟨t,ht,h⟩:=h;rw[I0]at ht;split at h
 .rw[uy]at h;exact⟨t,ht,by assumption,h⟩
 .simp at h
def TA{dm:ba}{i m:Int}{n:Nat}{a:bF}(h:a∈tu dm i m aA ops n):∃t:Nat,t<n/\a=⟨2*i,2*m,(t:Int),aA+dm.getD t 0,ops++[(3,(t:Int))]⟩:=by
 unfold tu at h;rw[sE]at h;obtain⟨t,ht,h⟩:=h;rw[I0]at ht;exact⟨t,ht,h.symm⟩
def BH(x:Input)(i m:Nat):List bF:=if cG x m then [⟨2*i,2*m+1,(x.ag.getD (m+1) default).kind,ez x i m+x.swap,d6 (m-i)++[(4,0)]⟩]else []
def EN{x:Input}{i m:Nat}{a:bF}(h:a∈BH x i m):cG x m=true/\a=⟨2*i,2*m+1,(x.ag.getD (m+1) default).kind,ez x i m+x.swap,d6 (m-i)++[(4,0)]⟩:=by
 unfold BH at h;split at h
 .exact⟨by assumption,by simpa using h⟩
 .simp at h
def TB{x:Input}{i m:Nat}{a:bF}(h:a∈rS x i m):cG x m=true/\a.f=2*i/\a.t=2*m+1:=by
 unfold rS at h;split at h
 .simp at h;subst h;exact⟨by assumption,rfl,rfl⟩
 .simp at h
def BI{x:Input}{i:Nat}{a:bF}(h:a∈rT x i):cG x i=true/\a=⟨2*i+1,2*i+4,(x.ag.getD i default).kind,0,[]⟩:=by
 unfold rT at h;split at h
 .exact⟨by assumption,by simpa using h⟩
 .simp at h
def Lw{x:Input}{i m t:Nat}{a:bF}(h:a∈rA x i m t):m<x.ag.length/\a.f=2*i/\a.t=2*m+2/\a.term=t:=by
 unfold rA at h;split at h
 .rename_i h2;simp at h;subst h;exact⟨h2.1,rfl,rfl,rfl⟩
 .simp at h
def aff{x:Input}{i m t:Nat}{a:bF}(h:a∈iT x i m t):a.f=2*i/\a.t=2*m/\a.term=t:=by
 simp[iT]at h;subst h;exact⟨rfl,rfl,rfl⟩
def Iz(x:Input)(i:Nat):tw x i=ft (sC x i) i (x.ag.length+1)++rT x i:=rfl
def Q6{x:Input}{i m:Nat}{a:bF}(h:a∈sC x i m):(i<m/\a∈zS x i (m-1))\/a∈tu x.insert i m (ez x i m) (d6 (m-i)) x.insert.length\/a∈BH x i m:=by
 unfold sC at h;rw[lF,lF]at h;rcases h with h|h|h
 .split at h
  .exact .inl ⟨by assumption,h⟩
  .simp at h
 .exact .inr (.inl h)
 .exact .inr (.inr h)
def Ge{x:Input}{i m:Nat}{a:bF}(h:a∈sC x i m):a.f=2*i/\(a.t=2*m\/a.t=2*m+1):=by
 rcases Q6 h with⟨h1,h⟩|h|h
 .obtain⟨t,_,_,rfl⟩:=EM h;exact⟨rfl,.inl (by simp only;omega)⟩
 .obtain⟨t,_,rfl⟩:=TA h;exact⟨rfl,.inl rfl⟩
 .obtain⟨_,rfl⟩:=EN h;exact⟨rfl,.inr rfl⟩
def aab{x:Input}{i:Nat}{a:bF}(h:a∈tw x i):a.f=2*i\/a.f=2*i+1:=by
 rw[Iz,lF]at h;rcases h with h|h
 .obtain⟨m,_,_,h⟩:=gF h;exact .inl (Ge h).1
 .obtain⟨_,rfl⟩:=BI h;exact .inr rfl
def aac{x:Input}{i m:Nat}{a:bF}(h:a∈rM x i m):a.f=2*i/\(a.t=2*m+2/\m<x.ag.length\/a.t=2*m+1):=by
 unfold rM at h;rw[lF]at h;rcases h with h|h
 .obtain⟨t,_,_,h⟩:=gF h;have:=Lw h;exact⟨this.2.1,.inl ⟨this.2.2.1,this.1⟩⟩
 .have:=TB h;exact⟨this.2.1,.inr this.2.2⟩
def atv{x:Input}{i:Nat}{a:bF}(h:a∈rI x i):a.f=2*i\/a.f=2*i+1:=by
 unfold rI at h;rw[lF]at h;rcases h with h|h
 .obtain⟨m,_,_,h⟩:=gF h;exact .inl (aac h).1
 .obtain⟨_,rfl⟩:=BI h;exact .inr rfl
def aad{x:Input}{i m:Nat}{a:bF}(h:a∈iM x i m):a.f=2*i/\a.t=2*m:=by
 unfold iM at h;obtain⟨t,_,_,h⟩:=gF h;have:=aff h;exact⟨this.1,this.2.1⟩
def atw{x:Input}{i:Nat}{a:bF}(h:a∈iI x i):a.f=2*i:=by
 unfold iI at h;obtain⟨m,_,_,h⟩:=gF h;exact(aad h).1
def nnX(x:Input):Prop:=(∀p∈x.insert,0<=p)/\0<=x.swap
def IA{x:Input}(hn:nnX x)(hd:zH x.ag)(k:bF)(i m:Nat):(BH x i m).filter (pK k)=(rS x i m).filter (pK k):=by
 unfold BH rS;split
 .exact Lv (cm hd i m).1 hn.2
 .rfl
def IB{x:Input}(hd:zH x.ag)(hr:∀c∈x.ag,c.read.length=x.insert.length)(k:bF){i m:Nat}(hm:m<x.ag.length):(zS x i m).filter (pK k)=(ft (rA x i m) 0 x.insert.length).filter (pK k):=by
 have hc:(x.ag.getD m default).read.length=x.insert.length:=hr _ (by simp[List.getD,hm]);unfold zS mz ft;rw[hc,jH,jH,ZcG]
 congr 1
 funext t;rw[Ow];unfold rA cV;have Q7:(default:Int)=0:=rfl;rw[Q7];by_cases h:0<=(x.ag.getD m default).read.getD t 0
 .rw[ee h,ee ⟨hm,h⟩];exact Lv (cm hd i m).1 h
 .rw[iK h,iK (λe=>h e.2)]
def BJ{x:Input}(hn:nnX x)(hd:zH x.ag)(k:bF)(i m:Nat):(tu x.insert i m (ez x i m) (d6 (m-i)) x.insert.length).filter (pK k)=(iM x i m).filter (pK k):=by
 unfold tu iM ft;rw[jH,ZcG];have:∀l:cN,(∀t∈l,t<x.insert.length)->(l.map λ(t:Nat)=>(⟨2*i,2*m,(t:Int),ez x i m+x.insert.getD t 0,d6 (m-i)++[(3,(t:Int))]⟩:bF)).filter (pK k)=l.flatMap λt=>(iT x i m (0+t)).filter (pK k):=by
  intro l;induction l with
  |nil=>intro _;rfl
  |cons t l ih=>
   intro ht;rw[vG,ZbS,<-ih λt h=>ht t (by simp[h])];have e:iT x i m (0+t)=[⟨2*i,2*m,t,kH (ez x i m) (x.insert.getD t default),d6 (m-i)++[(3,(t:Int))]⟩]:=by rw[Ow];rfl
   have mq:=ht t (by simp);have hp:0<=x.insert.getD t 0:=hn.1 _ (by simp[List.getD,mq]);rw[e,<-List.singleton_append (l:=List.map _ l),LA]
   congr 1
   exact Lv (cm hd i m).1 hp
 exact this _ λt ht=>I0.1 ht
def Lx{x:Input}(hn:nnX x)(hd:zH x.ag)(hr:∀c∈x.ag,c.read.length=x.insert.length)(k:bF):
  (w8 x (x.ag.length+1)).filter (pK k)=(ft (rI x) 0 (x.ag.length+1)++ft (iI x) 0 (x.ag.length+1)).filter (pK k):=by
 have e1:w8 x (x.ag.length+1)=ft (tw x) 0 (x.ag.length+1):=by simp[w8,ft]
 obtain⟨n,hN⟩:=aY x.ag.length;rw[e1,LA];have out:∀(f:Nat->List bF),(∀i,∀a∈f i,a.f=2*i\/a.f=2*i+1)->∀j,j≠(k.f/2).toNat->(f j).filter (pK k)=[]:=by
  intro f hf j hj;refine dE λa ha=>lR λe=>hj ?_;have:=hf j a ha;omega
 rw[mL _ (out _ λi a=>aab),mL _ (out _ λi a=>atv),mL _ (out _ λi a h=>.inl (atw h))];obtain⟨i,hi⟩:=aY ((k.f/2).toNat);rw[hi];by_cases mX:0<=i/\i<x.ag.length+1
 case neg=>rw[iK mX,iK mX,iK mX];rfl
 rw[ee mX,ee mX,ee mX];rw[Iz];unfold rI iI;rw[LA,LA];by_cases av6:k.f=2*i
 case neg=>
  have h1:(ft (sC x i) i (x.ag.length+1)).filter (pK k)=[]:=dE λa ha=>lR λe=>by
   obtain⟨m,_,_,h⟩:=gF ha;have:=(Ge h).1;omega
  have h2:(ft (rM x i) i (x.ag.length+1)).filter (pK k)=[]:=dE λa ha=>lR λe=>by
   obtain⟨m,_,_,h⟩:=gF ha;have:=(aac h).1;omega
  have h3:(ft (iM x i) i (x.ag.length+1)).filter (pK k)=[]:=dE λa ha=>lR λe=>by
   obtain⟨m,_,_,h⟩:=gF ha;have:=(aad h).1;omega
  rw[h1,h2,h3];simp
 have hT:(rT x i).filter (pK k)=[]:=dE λa ha=>lR λe=>by
  obtain⟨_,rfl⟩:=BI ha;simp only at e;omega
 rw[hT,Ej,Ej];have akV:∀m,m≠(k.t/2).toNat->(sC x i m).filter (pK k)=[]:=λm hm=>dE λa ha=>lR λe=>by
  have:=(Ge ha).2;omega
 have akW:∀m,m≠(k.t/2).toNat->(iM x i m).filter (pK k)=[]:=λm hm=>dE λa ha=>lR λe=>by
  have:=(aad ha).2;omega
 rw[mL _ akV,mL _ akW];obtain⟨m,hm⟩:=aY ((k.t/2).toNat);rw[hm]at akV akW⊢;have adT:(sC x i m).filter (pK k)=(if i<m then zS x i (m-1)else []).filter (pK k)++((tu x.insert i m (ez x i m) (d6 (m-i)) x.insert.length).filter (pK k)++(BH x i m).filter (pK k)):=by
  rw[<-List.filter_append,<-List.filter_append];rfl
 by_cases ZK:k.t=2*m
 .
  have pB:(BH x i m).filter (pK k)=[]:=dE λa ha=>lR λe=>by
   obtain⟨_,rfl⟩:=EN ha;simp only at e;omega
  have afg:∀j,j≠(if m=0 then n+1 else m-1)->(rM x i j).filter (pK k)=[]:=λj hj=>dE λa ha=>lR λe=>by
   have:=(aac ha).2;split at hj<;>omega
  rw[mL _ afg,adT,pB,Ej,BJ hn hd k i m];by_cases hm0:m=0
  .rw[ee hm0];have h5:¬(i<=n+1/\n+1<x.ag.length+1):=by omega
   have h6:¬i<m:=by omega
   rw[iK h5,iK h6];simp
  .rw[iK hm0];obtain⟨q,rfl⟩:∃q,m=q+1:=⟨m-1,by omega⟩;rw[ZcZ];have hrM:(rM x i q).filter (pK k)=(ft (rA x i q) 0 x.insert.length).filter (pK k):=by
    have:(rS x i q).filter (pK k)=[]:=dE λa ha=>lR λe=>by
     have:=(TB ha).2.2;omega
    unfold rM;rw[LA,this,Ej]
   by_cases hq:q<x.ag.length
   .by_cases hiq:i<q+1
    .rw[ee hiq,ee ⟨by omega,by omega⟩,ee ⟨by omega,by omega⟩,hrM,IB hd hr k hq];rw[ee ⟨by omega,by omega⟩]
    .rw[iK hiq];by_cases av7:i=q+1
     .rw[ee ⟨by omega,by omega⟩,iK (by omega),ee ⟨by omega,by omega⟩];simp
     .rw[iK (by omega),iK (by omega),iK (by omega)];simp
   .have hz:(rM x i q).filter (pK k)=[]:=by
     rw[hrM];refine dE λa ha=>?_;obtain⟨t,_,_,h⟩:=gF ha;exact qe (Lw h).1 hq
    rw[hz,iK (by omega)];have h5:¬(i<=q+1/\q+1<x.ag.length+1):=by omega
    rw[iK h5];simp
 .
  have afg:∀j,j≠m->(rM x i j).filter (pK k)=[]:=λj hj=>dE λa ha=>lR λe=>by
   have:=(aac ha).2;omega
  rw[mL _ afg];have h1:(iM x i m).filter (pK k)=[]:=dE λa ha=>lR λe=>by
   have:=(aad ha).2;omega
  have h2:(tu x.insert i m (ez x i m) (d6 (m-i)) x.insert.length).filter (pK k)=[]:=by rw[BJ hn hd,h1]
  have h3:(if i<m then zS x i (m-1)else []).filter (pK k)=[]:=dE λa ha=>lR λe=>by
   split at ha
   .obtain⟨t,_,_,rfl⟩:=EM ha;simp only at e;omega
   .simp at ha
  have h4:(rM x i m).filter (pK k)=(rS x i m).filter (pK k):=by
   have:(ft (rA x i m) 0 x.insert.length).filter (pK k)=[]:=dE λa ha=>lR λe=>by
    obtain⟨t,_,_,h⟩:=gF ha;have:=(Lw h).2.2.1;omega
   unfold rM;rw[LA,this,jB]
  rw[adT,h1,h2,h3,h4,IA hn hd];simp
def pT(x:Input):((lT x).map cF).Nodup:=w9 _ (by simp)
def jI(x:Input):(eK x).Pairwise cb:=vF _ (vF _ List.Pairwise.nil)
def EO{x:Input}(hn:nnX x)(hd:zH x.ag)(hr:∀c∈x.ag,c.read.length=x.insert.length):kD (lT x)=eK x:=by
 refine BG (AE (pT x)) (jI x) λa=>?_;rw[Gd (pT x),oJ (vV (pT x)),oJ (tt (jI x))];unfold lT eK;rw[Iv,<-d7,tr _ _ List.Pairwise.nil,zR,Lx hn hd hr,<-zR]
def TC(x:Input):yH x=fe x (2*x.ag.length+1):=by
 unfold yH fe;apply ZbN;intro s hs;rw[I0]at hs;rw[ee hs]
def Ly{x:Input}(hn:nnX x)(hd:zH x.ag)(hr:∀c∈x.ag,c.read.length=x.insert.length):qR x=aI x:=by
 unfold qR aI;rw[EO hn hd hr,TC]
end
def TD(k:bF)(cs:List bF):∀o a,cs.foldl (kj k) o=some a->o=some a\/(a∈cs/\a.aA<1099511627776):=by
 induction cs with
 |nil=>intro o a h;exact .inl h
 |cons c cs ih=>
  intro o a h;rw[Br]at h;rcases ih _ _ h with h|⟨h1,h2⟩
  .unfold kj at h;split at h
   .rename_i hc;split at h
    .simp only[cq]at h;subst h;exact .inr ⟨by simp,hc.1⟩
    .split at h
     .simp only[cq]at h;subst h;exact .inr ⟨by simp,hc.1⟩
     .exact .inl h
   .exact .inl h
  .exact .inr ⟨by simp[h1],h2⟩
def zT{x:Input}{a:bF}(h:a∈eK x):(a∈ft (rI x) 0 (x.ag.length+1)\/a∈ft (iI x) 0 (x.ag.length+1))/\a.aA<1099511627776:=by
 have h1:=(oJ (tt (jI x)) a).1 h;unfold eK at h1;rw[<-d7,tr _ _ List.Pairwise.nil]at h1;rcases TD _ _ _ _ h1 with h2|⟨h2,h3⟩
 .cases h2
 .exact⟨lF.1 h2,h3⟩
def TE{a b:Int}(ha:0<=a)(hb:1<=b):1<=kH a b:=by unfold kH;split<;>omega
def Gg(al:List bF):(kD al).length=al.length:=by simp[kD,gO]
def En(x:Input):List bF:=ft (rI x) 0 (x.ag.length+1)++ft (iI x) 0 (x.ag.length+1)
inductive iV(aK:List bF):ba->Nat->Int->Prop
 |nil:iV aK [] 0 0
 |IC {ys:ba} {s:Nat} {c:Int} (a:bF):iV aK ys s c->a∈aK->a.f=s->iV aK (ys++[a.term]) a.t.toNat (c+a.aA)
def iV.aA{aK:List bF}(h:∀a∈aK,0<=a.aA){y:ba}{s:Nat}{c:Int}(p:iV aK y s c):0<=c:=by
 induction p with
 |nil=>omega
 |IC a p ha hf ih=>have:=h a ha;omega
def Oo(x:Input){s:Nat}(hs:s<2*x.ag.length+1):(aI x).bj.getD s default=if s % 2=0 then ez x (s/2) x.ag.length else 1099511627776:=by
 simp[aI,fe,List.getD,hs]
def Q8(x:Input){i m:Nat}(h:i<=m)(hm:m<x.ag.length):ez x i (m+1)=min (ez x i m+(x.ag.getD m default).delete) 1099511627776:=by
 unfold ez;have e:(x.ag.take (m+1)).drop i=(x.ag.take m).drop i++[x.ag.getD m default]:=by
  rw[OS,mM hm,Zci (by simp;omega)];simp[List.getD,hm]
 rw[e,qS]
abbrev dV:Int:=1099511627776
def kI(y:ba)(j:Nat):Int:=y.getD j default
def Eo(x:Input)(y:ba)(i j:Nat):Prop:=i<x.ag.length/\j<y.length/\0<=cV x i (kI y j).toNat
def Oq(x:Input)(y:ba)(i j:Nat):Prop:=cG x i=true/\j+1<y.length/\kI y j=(x.ag.getD (i+1) default).kind/\kI y (j+1)=(x.ag.getD i default).kind
instance(x:Input)(y:ba)(i j:Nat):Decidable (Eo x y i j):=by unfold Eo;infer_instance
instance(x:Input)(y:ba)(i j:Nat):Decidable (Oq x y i j):=by unfold Oq;infer_instance
def jj{x:Input}{i:Nat}(h:cG x i=true):i+1<x.ag.length:=by
 unfold cG at h;rw[yN]at h;exact h.1
def eL(x:Input)(i:Nat):Int:=(x.ag.getD i default).delete
def f7(x:Input)(t:Nat):Int:=x.insert.getD t default
def ed(x:Input)(y:ba)(i j:Nat):Int:=
 let b0:=if i=x.ag.length/\j=y.length then 0 else dV
 let b1:=if h:Eo x y i j then min b0 (min (cV x i (kI y j).toNat+ed x y (i+1) (j+1)) dV)else b0
 let b2:=if h:i<x.ag.length then min b1 (min (eL x i+ed x y (i+1) j) dV)else b1
 let b3:=if h:j<y.length then min b2 (min (f7 x (kI y j).toNat+ed x y i (j+1)) dV)else b2
 if h:Oq x y i j then min b3 (min (x.swap+ed x y (i+2) (j+2)) dV)else b3
termination_by (x.ag.length-i)+(y.length-j)
decreasing_by
 .have:=h.1;omega
 .omega
 .omega
 .have:=jj h.1;have:=h.2.1;omega
def qi(x:Input)(y:ba)(i j:Nat):Nat->Int
 |1=>if Eo x y i j then min (cV x i (kI y j).toNat+ed x y (i+1) (j+1)) dV else dV
 |2=>if i<x.ag.length then min (eL x i+ed x y (i+1) j) dV else dV
 |3=>if j<y.length then min (f7 x (kI y j).toNat+ed x y i (j+1)) dV else dV
 |4=>if Oq x y i j then min (x.swap+ed x y (i+2) (j+2)) dV else dV
 |_=>dV
def vY(x:Input)(y:ba)(i j:Nat):Nat->Int
 |0=>if i=x.ag.length/\j=y.length then 0 else dV
 |k+1=>min (vY x y i j k) (qi x y i j (k+1))
def TF(x:Input)(y:ba)(i j:Nat):qi x y i j 1=if Eo x y i j then min (cV x i (kI y j).toNat+ed x y (i+1) (j+1)) dV else dV:=rfl
def TG(x:Input)(y:ba)(i j:Nat):qi x y i j 2=if i<x.ag.length then min (eL x i+ed x y (i+1) j) dV else dV:=rfl
def TH(x:Input)(y:ba)(i j:Nat):qi x y i j 3=if j<y.length then min (f7 x (kI y j).toNat+ed x y i (j+1)) dV else dV:=rfl
def TI(x:Input)(y:ba)(i j:Nat):qi x y i j 4=if Oq x y i j then min (x.swap+ed x y (i+2) (j+2)) dV else dV:=rfl
def TJ(x:Input)(y:ba)(i j:Nat):vY x y i j 0=if i=x.ag.length/\j=y.length then 0 else dV:=rfl
def uC(x:Input)(y:ba)(i j:Nat):∀k,vY x y i j k<=dV
 |0=>by unfold vY;split<;>simp[dV]
 |k+1=>by unfold vY;have:=uC x y i j k;omega
def ID(x:Input)(y:ba)(i j:Nat):ed x y i j=vY x y i j 4:=by
 rw[ed];have h0:=uC x y i j 0;have h1:=uC x y i j 1;have h2:=uC x y i j 2;have h3:=uC x y i j 3;show _=min (vY x y i j 3) (qi x y i j 4);have e0:vY x y i j 0=if i=x.ag.length/\j=y.length then 0 else dV:=rfl
 have e1:vY x y i j 1=min (vY x y i j 0) (qi x y i j 1):=rfl;have e2:vY x y i j 2=min (vY x y i j 1) (qi x y i j 2):=rfl;have e3:vY x y i j 3=min (vY x y i j 2) (qi x y i j 3):=rfl;rw[<-e0];have f1:(if h:Eo x y i j then min (vY x y i j 0) (min (cV x i (kI y j).toNat+ed x y (i+1) (j+1)) dV)else vY x y i j 0)=vY x y i j 1:=by
  rw[e1,TF];split<;>omega
 rw[f1];have f2:(if h:i<x.ag.length then min (vY x y i j 1) (min (eL x i+ed x y (i+1) j) dV)else vY x y i j 1)=vY x y i j 2:=by
  rw[e2,TG];split<;>omega
 rw[f2];have f3:(if h:j<y.length then min (vY x y i j 2) (min (f7 x (kI y j).toNat+ed x y i (j+1)) dV)else vY x y i j 2)=vY x y i j 3:=by
  rw[e3,TH];split<;>omega
 rw[f3];rw[TI];split<;>omega
def TK(x:Input)(y:ba)(i j:Nat):ed x y i j<=dV:=by rw[ID];exact uC x y i j 4
structure ZL(x:Input):Prop where
 dm:∀t,0<=f7 x t
 Ep:∀i,0<=eL x i
 swap:0<=x.swap
def EP{x:Input}(h:ZL x)(y:ba):∀(N i j:Nat),(x.ag.length-i)+(y.length-j)<N->0<=ed x y i j
 |0,i,j,hN=>by omega
 |N+1,i,j,hN=>by
  have h0:0<=vY x y i j 0:=by rw[TJ];split<;>simp[dV]
  have s1:0<=qi x y i j 1:=by
   rw[TF];split
   .rename_i hp;have:=EP h y N (i+1) (j+1) (by have:=hp.1;omega);have:=hp.2.2;simp only[dV];omega
   .simp[dV]
  have s2:0<=qi x y i j 2:=by
   rw[TG];split
   .have:=EP h y N (i+1) j (by omega);have:=h.Ep i;simp only[dV];omega
   .simp[dV]
  have s3:0<=qi x y i j 3:=by
   rw[TH];split
   .have:=EP h y N i (j+1) (by omega);have:=h.dm (kI y j).toNat;simp only[dV];omega
   .simp[dV]
  have s4:0<=qi x y i j 4:=by
   rw[TI];split
   .rename_i hp;have:=EP h y N (i+2) (j+2) (by have:=jj hp.1;have:=hp.2.1;omega);have:=h.swap;simp only[dV];omega
   .simp[dV]
  rw[ID];show 0<=min (min (min (min (vY x y i j 0) (qi x y i j 1)) (qi x y i j 2)) (qi x y i j 3)) (qi x y i j 4);omega
inductive vH(x:Input):Nat->ba->Int->Prop
 |nil:vH x x.ag.length [] 0
 |read {i:Nat} {t:Int} {y:ba} {c:Int}:i<x.ag.length->0<=cV x i t.toNat->vH x (i+1) y c->vH x i (t::y) (cV x i t.toNat+c)
 |Ep {i:Nat} {y:ba} {c:Int}:i<x.ag.length->vH x (i+1) y c->vH x i y (eL x i+c)
 |dm {i:Nat} {t:Int} {y:ba} {c:Int}:vH x i y c->vH x i (t::y) (f7 x t.toNat+c)
 |swap {i:Nat} {y:ba} {c:Int}:cG x i=true->vH x (i+2) y c->vH x i ((x.ag.getD (i+1) default).kind::(x.ag.getD i default).kind::y) (x.swap+c)
def vH.nn{x:Input}(h:ZL x){i:Nat}{y:ba}{c:Int}(s:vH x i y c):0<=c:=by
 induction s with
 |nil=>omega
 |read h1 h2 s ih=>omega
 | @Ep i _ _ h1 s ih=>have:=h.Ep i;omega
 | @dm _ t _ _ s ih=>have:=h.dm t.toNat;omega
 |swap h1 s ih=>have:=h.swap;omega
def vH.le{x:Input}{i:Nat}{y:ba}{c:Int}(s:vH x i y c):i<=x.ag.length:=by
 induction s with
 |nil=>omega
 |read h1 h2 s ih=>omega
 |Ep h1 s ih=>omega
 |dm s ih=>exact ih
 |swap h1 s ih=>omega
def pC{y:ba}{j:Nat}(h:j<y.length):y.drop j=kI y j::y.drop (j+1):=by
 rw[If h];simp[kI,List.getD,h]
def TL{x:Input}(hx:ZL x)(y:ba):∀(N i j:Nat),(x.ag.length-i)+(y.length-j)<N->i<=x.ag.length->j<=y.length->∀v,v<dV->
  (ed x y i j<=v↔∃c,c<=v/\vH x i (y.drop j) c)
 |0,i,j,hN,_,_,_,_=>by omega
 |N+1,i,j,hN,hi,hj,v,hv=>by
  have IH:=TL hx y N;have e:ed x y i j=min (min (min (min (vY x y i j 0) (qi x y i j 1)) (qi x y i j 2)) (qi x y i j 3)) (qi x y i j 4):=ID x y i j;constructor
  .intro h;have hor:vY x y i j 0<=v\/qi x y i j 1<=v\/qi x y i j 2<=v\/qi x y i j 3<=v\/qi x y i j 4<=v:=by omega
   rcases hor with h5|h5|h5|h5|h5
   .rw[TJ]at h5;split at h5
    .rename_i h2;obtain⟨rfl,rfl⟩:=h2;exact⟨0,h5,by rw[List.drop_length];exact .nil⟩
    .omega
   .rw[TF]at h5;split at h5
    .rename_i hp;obtain⟨p1,p2,p3⟩:=hp;obtain⟨c,hc,s⟩:=(IH (i+1) (j+1) (by omega) (by omega) (by omega) (v-cV x i (kI y j).toNat) (by omega)).1 (by omega);exact⟨cV x i (kI y j).toNat+c,by omega,by rw[pC p2];exact .read p1 p3 s⟩
    .omega
   .rw[TG]at h5;split at h5
    .rename_i hp;have:=hx.Ep i;obtain⟨c,hc,s⟩:=(IH (i+1) j (by omega) (by omega) (by omega) (v-eL x i) (by omega)).1 (by omega);exact⟨eL x i+c,by omega,.Ep hp s⟩
    .omega
   .rw[TH]at h5;split at h5
    .rename_i hp;have:=hx.dm (kI y j).toNat;obtain⟨c,hc,s⟩:=(IH i (j+1) (by omega) (by omega) (by omega) (v-f7 x (kI y j).toNat) (by omega)).1 (by omega);exact⟨f7 x (kI y j).toNat+c,by omega,by rw[pC hp];exact .dm s⟩
    .omega
   .rw[TI]at h5;split at h5
    .rename_i hp;obtain⟨p1,p2,p3,p4⟩:=hp;have:=jj p1;have:=hx.swap;obtain⟨c,hc,s⟩:=(IH (i+2) (j+2) (by omega) (by omega) (by omega) (v-x.swap) (by omega)).1 (by omega);refine⟨x.swap+c,by omega, ?_⟩;rw[pC (show j<y.length by omega),pC p2,p3,p4];exact .swap p1 s
    .omega
  .rintro⟨c,hc,s⟩;generalize hz:y.drop j=z at s;cases s with
   |nil=>
    have hj2:j=y.length:=by
     have:=congrArg List.length hz;simp at this;omega
    have:vY x y x.ag.length j 0=0:=by rw[TJ,ee ⟨rfl,hj2⟩]
    omega
   | @read _ t y' c' h1 h2 s=>
    have Ia:j<y.length:=by
     have:=congrArg List.length hz;simp at this;omega
    rw[pC Ia]at hz;obtain⟨rfl,rfl⟩:=ZcS hz;have:=(IH (i+1) (j+1) (by omega) (by omega) (by omega) (v-cV x i (kI y j).toNat) (by omega)).2 ⟨c',by omega,s⟩;have e1:qi x y i j 1=min (cV x i (kI y j).toNat+ed x y (i+1) (j+1)) dV:=by rw[TF,ee ⟨h1,Ia,h2⟩]
    omega
   | @Ep _ _ c' h1 s=>
    subst hz;have:=hx.Ep i;have:=(IH (i+1) j (by omega) (by omega) (by omega) (v-eL x i) (by omega)).2 ⟨c',by omega,s⟩;have e1:qi x y i j 2=min (eL x i+ed x y (i+1) j) dV:=by rw[TG,ee h1]
    omega
   | @dm _ t y' c' s=>
    have Ia:j<y.length:=by
     have:=congrArg List.length hz;simp at this;omega
    rw[pC Ia]at hz;obtain⟨rfl,rfl⟩:=ZcS hz;have:=hx.dm (kI y j).toNat;have:=(IH i (j+1) (by omega) (by omega) (by omega) (v-f7 x (kI y j).toNat) (by omega)).2 ⟨c',by omega,s⟩;have e1:qi x y i j 3=min (f7 x (kI y j).toNat+ed x y i (j+1)) dV:=by rw[TH,ee Ia]
    omega
   | @swap _ y' c' h1 s=>
    have Ia:j+1<y.length:=by
     have:=congrArg List.length hz;simp at this;omega
    rw[pC (show j<y.length by omega),pC Ia]at hz;obtain⟨k1,hz⟩:=ZcS hz;obtain⟨k2,rfl⟩:=ZcS hz;have:=jj h1;have:=hx.swap;have:=(IH (i+2) (j+2) (by omega) (by omega) (by omega) (v-x.swap) (by omega)).2 ⟨c',by omega,s⟩;have e1:qi x y i j 4=min (x.swap+ed x y (i+2) (j+2)) dV:=by rw[TI,ee ⟨h1,Ia,k1,k2⟩]
    omega
def te(x:Input)(i:Nat):ez x i i=0:=by
 unfold ez;rw[List.drop_of_length_le (by simp;omega)];rfl
def EQ(x:Input){i m:Nat}(h:i<=m)(hm:m<x.ag.length):ez x i (m+1)=min (ez x i m+eL x m) dV:=Q8 x h hm
def vH.d6{x:Input}(hd:zH x.ag){y:ba}{c:Int}:∀(d i:Nat),i+d<=x.ag.length->ez x i (i+d)<dV->vH x (i+d) y c->vH x i y (ez x i (i+d)+c)
 |0,i,_,_,s=>by rw[Zb2]at s⊢;rw[te];simpa using s
 |d+1,i,hi,cQ,s=>by
  have hn:=(cm hd i (i+d)).1;have h1:=EQ x (show i<=i+d by omega) (by omega);rw[pn]at h1;have Lb:0<=eL x (i+d):=by
   have:=hd.2 (x.ag.getD (i+d) default) (by simp[List.getD,show i+d<x.ag.length by omega]);exact this.1
  have h2:ez x i (i+(d+1))=ez x i (i+d)+eL x (i+d):=by omega
  have s2:vH x (i+d) y (eL x (i+d)+c):=.Ep (by omega) s;have:=vH.d6 hd d i (by omega) (by omega) s2;rw[h2,Int.add_assoc];exact this
inductive IE(x:Input)(a:bF):Prop
 |read (i m t:Nat):i<=m->m<x.ag.length->0<=cV x m t->a.f=2*i->a.t=2*m+2->a.term=t->t<x.insert.length->ez x i m<dV->a.aA=ez x i m+cV x m t->IE x a
 |dm (i m t:Nat):i<=m->m<=x.ag.length->a.f=2*i->a.t=2*m->a.term=t->t<x.insert.length->ez x i m<dV->a.aA=ez x i m+f7 x t->IE x a
 |sw1 (i m:Nat):i<=m->cG x m=true->a.f=2*i->a.t=2*m+1->a.term=(x.ag.getD (m+1) default).kind->ez x i m<dV->a.aA=ez x i m+x.swap->IE x a
 |sw2 (i:Nat):cG x i=true->a.f=2*i+1->a.t=2*i+4->a.term=(x.ag.getD i default).kind->a.aA=0->IE x a
def Gh{a b:Int}(ha:0<=a)(hb:0<=b)(h:kH a b<dV):kH a b=a+b/\a<dV:=by
 simp only[dV]at*
 unfold kH at h⊢;split at h
 .omega
 .rename_i h2;rw[iK h2];omega
def qT{x:Input}(hd:zH x.ag)(hx:ZL x){a:bF}(ha:a∈eK x):IE x a:=by
 obtain⟨hm,nU⟩:=zT ha;rcases hm with hm|hm
 .obtain⟨i,_,hi,hm⟩:=gF hm;unfold rI at hm;rw[lF]at hm;rcases hm with hm|hm
  .obtain⟨m,Tf,Q9,hm⟩:=gF hm;unfold rM at hm;rw[lF]at hm;rcases hm with hm|hm
   .obtain⟨t,_,ht,hm⟩:=gF hm;unfold rA at hm;split at hm
    .rename_i hr;simp only[uy]at hm;subst hm;have:=Gh (cm hd i m).1 hr.2 nU;exact .read i m t Tf hr.1 hr.2 rfl rfl rfl ht this.2 this.1
    .simp at hm
   .unfold rS at hm;split at hm
    .rename_i hr;simp only[uy]at hm;subst hm;have:=Gh (cm hd i m).1 hx.swap nU;exact .sw1 i m Tf hr rfl rfl rfl this.2 this.1
    .simp at hm
  .obtain⟨hr,rfl⟩:=BI hm;exact .sw2 i hr rfl rfl rfl rfl
 .obtain⟨i,_,hi,hm⟩:=gF hm;unfold iI at hm;obtain⟨m,Tf,Q9,hm⟩:=gF hm;unfold iM at hm;obtain⟨t,_,ht,hm⟩:=gF hm;simp only[iT,uy]at hm;subst hm;have:=Gh (cm hd i m).1 (hx.dm t) nU;exact .dm i m t Tf (by omega) rfl rfl rfl ht this.2 this.1
def TM{x:Input}(hd:zH x.ag)(hx:ZL x){y:ba}{s:Nat}{c:Int}(p:iV (eK x) y s c):
  (∀i,s=2*i->∀y' c',vH x i y' c'->vH x 0 (y++y') (c+c'))/\
  (∀i,s=2*i+1->∀y' c',vH x (i+2) y' c'->vH x 0 (y++(x.ag.getD i default).kind::y') (c+c')):=by
 induction p with
 |nil=>
  refine⟨λi hi y' c' s=>?_,λi hi=>by omega⟩;have:i=0:=by omega
  subst this;simpa using s
 | @IC ys s c a p ha hf ih=>
  cases qT hd hx ha with
  |read i m t Tf hm hr h1 h2 h3 ht cQ h4=>
   refine⟨λq hq y' c' s'=>?_,λq hq=>by omega⟩;have:q=m+1:=by omega
   subst this;obtain⟨d,rfl⟩:∃d,m=i+d:=⟨m-i,by omega⟩;have s1:vH x (i+d) (a.term::y') (cV x (i+d) a.term.toNat+c'):=.read hm (by rw[h3];simpa using hr) s';have s2:=vH.d6 hd d i (by omega) cQ s1;have:=ih.1 i (by omega) _ _ s2;rw[h4,xm];rw[h3]at this⊢;simp only[gN]at this;rw[show c+(ez x i (i+d)+cV x (i+d) t)+c'=c+(ez x i (i+d)+(cV x (i+d) t+c'))by omega];exact this
  |dm i m t Tf hm h1 h2 h3 ht cQ h4=>
   refine⟨λq hq y' c' s'=>?_,λq hq=>by omega⟩;have:q=m:=by omega
   subst this;obtain⟨d,rfl⟩:∃d,q=i+d:=⟨q-i,by omega⟩;have s1:vH x (i+d) (a.term::y') (f7 x a.term.toNat+c'):=.dm s';have s2:=vH.d6 hd d i (by omega) cQ s1;have:=ih.1 i (by omega) _ _ s2;rw[h4,xm];rw[h3]at this⊢;simp only[gN]at this;rw[show c+(ez x i (i+d)+f7 x t)+c'=c+(ez x i (i+d)+(f7 x t+c'))by omega];exact this
  |sw1 i m Tf pB h1 h2 h3 cQ h4=>
   refine⟨λq hq=>by omega,λq hq y' c' s'=>?_⟩;have:q=m:=by omega
   subst this;have hql:=jj pB;obtain⟨d,rfl⟩:∃d,q=i+d:=⟨q-i,by omega⟩;have s1:=vH.swap pB s';have s2:=vH.d6 hd d i (by omega) cQ s1;have:=ih.1 i (by omega) _ _ s2;rw[h4,xm,h3];rw[show c+(ez x i (i+d)+x.swap)+c'=c+(ez x i (i+d)+(x.swap+c'))by omega];exact this
  |sw2 i pB h1 h2 h3 h4=>
   refine⟨λq hq y' c' s'=>?_,λq hq=>by omega⟩;have:q=i+2:=by omega
   subst this;have:=ih.2 i (by omega) _ _ s';rw[h4,xm,h3];rw[show c+0+c'=c+c' by omega];exact this
def Ra(k:bF)(cs:List bF):∀o,(∀a,o=some a->aV k a=true/\a.aA<dV)->(∀a∈cs,aV k a=true->a.aA<dV->∃b,cs.foldl (kj k) o=some b/\aV k b=true/\b.aA<=a.aA)/\
  (∀a,o=some a->∃b,cs.foldl (kj k) o=some b/\aV k b=true/\b.aA<=a.aA):=by
 induction cs with
 |nil=>intro o ho;exact⟨λa ha=>by simp at ha,λa ha=>⟨a,ha,(ho a ha).1,Tg _⟩⟩
 |cons e cs ih=>
  intro o ho;have j5:∀a,kj k o e=some a->aV k a=true/\a.aA<dV:=by
   intro a h;unfold kj at h;split at h
   .rename_i hc;split at h
    .simp only[cq]at h;subst h;exact⟨hc.2,hc.1⟩
    .split at h
     .simp only[cq]at h;subst h;exact⟨hc.2,hc.1⟩
     .exact ho a h
   .exact ho a h
  obtain⟨i1,i2⟩:=ih _ j5;have Gi:∀a,o=some a->∃b,kj k o e=some b/\b.aA<=a.aA:=by
   rintro a rfl;unfold kj;split
   .split
    .rename_i h;cases h
    .rename_i b hb;cases hb;split
     .exact⟨e,rfl,by omega⟩
     .exact⟨_,rfl,Tg _⟩
   .exact⟨_,rfl,Tg _⟩
  have mu:aV k e=true->e.aA<dV->∃b,kj k o e=some b/\b.aA<=e.aA:=by
   intro h1 h2;unfold kj;rw[ee ⟨h2,h1⟩];split
   .exact⟨e,rfl,Tg _⟩
   .split
    .exact⟨e,rfl,Tg _⟩
    .exact⟨_,rfl,by omega⟩
  refine⟨λa ha h1 h2=>?_,λa ha=>?_⟩
  .rcases jv.1 ha with rfl|ha
   .obtain⟨b,hb,io⟩:=mu h1 h2;obtain⟨b',nI,hk,IF⟩:=i2 b hb;exact⟨b',nI,hk,by omega⟩
   .exact i1 a ha h1 h2
  .obtain⟨b,hb,io⟩:=Gi a ha;obtain⟨b',nI,hk,IF⟩:=i2 b hb;exact⟨b',nI,hk,by omega⟩
def xb{x:Input}{a:bF}(ha:a∈En x)(hc:a.aA<dV):∃b∈eK x,a.f=b.f/\a.t=b.t/\a.term=b.term/\b.aA<=a.aA:=by
 obtain⟨b,hb,hk,io⟩:=(Ra a (En x) none (λ_ h=>by cases h)).1 a ha (wZ a) hc;have vr:=fZ.1 hk;refine⟨b, ?_,vr.1,vr.2.1,vr.2.2,io⟩;rw[oJ (tt (jI x))];unfold eK;rw[<-d7,tr _ _ List.Pairwise.nil];have e:kj b=kj a:=by
  funext o c;unfold kj;have:aV b c=aV a c:=by rw[iU b c,iU a c];exact(zK hk c).symm
  rw[this]
 rw[e];exact hb
def j6{α:Type}{f:Nat->List α}{i m k:Nat}{a:α}(h1:i<=k)(h2:k<m)(h:a∈f k):a∈ft f i m:=by
 unfold ft;rw[ZT];exact⟨k-i,by rw[I0];omega,by rw[show i+(k-i)=k by omega];exact h⟩
def Gj{a b:Int}(h:a+b<dV)(ha:0<=a)(hb:0<=b):kH a b=a+b:=by
 unfold kH;rw[iK (by simp only[dV]at h;omega)]
def TN{x:Input}(hd:zH x.ag)(hx:ZL x){i:Nat}{y':ba}{c':Int}(s:vH x i y' c'):(∀t∈y',0<=t/\t<x.insert.length)->∀(i0:Nat) (y:ba) (c:Int),i0<=i->0<=c->iV (eK x) y (2*i0) c->c+ez x i0 i+c'<dV->
  ∃e c2,e<2*x.ag.length+1/\iV (eK x) (y++y') e c2/\c2+(aI x).bj.getD e default<=c+ez x i0 i+c':=by
 induction s with
 |nil=>
  intro hy i0 y c hi Er p cQ;refine⟨2*i0,c,by omega,by simpa using p, ?_⟩;rw[Oo x (by omega),ee (by omega),show 2*i0/2=i0 by omega];omega
 | @read i t y' c' h1 h2 s ih=>
  intro hy i0 y c hi Er p cQ;have Ot:=s.nn hx;have AG:=(cm hd i0 i).1;have ht:=hy t (by simp);obtain⟨k,hk⟩:∃k:Nat,t=k:=⟨t.toNat,by omega⟩;subst hk;simp only[gN]at h2 cQ⊢;have hs:=Gj (a:=ez x i0 i) (b:=cV x i k) (by omega) AG h2;have pq:(⟨2*i0,2*i+2,k,kH (ez x i0 i) (cV x i k),d6 (i-i0)++[(1,(k:Int))]⟩:bF)∈En x:=by
   unfold En;rw[lF];left;refine j6 (ER i0) (by omega) ?_;unfold rI;rw[lF];left;refine j6 hi (by omega) ?_;unfold rM;rw[lF];left;refine j6 (ER k) (by omega) ?_;unfold rA;rw[ee ⟨h1,h2⟩];exact uy.2 rfl
  obtain⟨b,hb,k1,k2,k3,k4⟩:=xb pq (by simp only;omega);simp only at k1 k2 k3 k4;have hbn:=(qT hd hx hb);have hbc:0<=b.aA:=by
   cases hbn with
   |read i m t _ _ h _ _ _ _ _ e=>have:=(cm hd i m).1;omega
   |dm i m t _ _ _ _ _ _ _ e=>have:=(cm hd i m).1;have:=hx.dm t;omega
   |sw1 i m _ _ _ _ _ _ e=>have:=(cm hd i m).1;have:=hx.swap;omega
   |sw2 i _ _ _ _ e=>omega
  have p2:=iV.IC b p hb (by omega);rw[<-k3,show b.t.toNat=2*(i+1)by omega]at p2;obtain⟨e,c2,e1,e2,e3⟩:=ih (λt ht=>hy t (by simp[ht])) (i+1) _ _ (gJ _) (by omega) p2 (by rw[te];omega);refine⟨e,c2,e1,by simpa using e2, ?_⟩;rw[te]at e3;omega
 | @Ep i y' c' h1 s ih=>
  intro hy i0 y c hi Er p cQ;have h2:=EQ x hi h1;obtain⟨e,c2,e1,e2,e3⟩:=ih hy i0 y c (by omega) Er p (by omega);exact⟨e,c2,e1,e2,by omega⟩
 | @dm i t y' c' s ih=>
  intro hy i0 y c hi Er p cQ;have Ot:=s.nn hx;have AG:=(cm hd i0 i).1;have ht:=hy t (by simp);obtain⟨k,hk⟩:∃k:Nat,t=k:=⟨t.toNat,by omega⟩;subst hk;simp only[gN]at cQ⊢;have mX:=hx.dm k;have sW:i<=x.ag.length:=s.le;have hs:=Gj (a:=ez x i0 i) (b:=f7 x k) (by omega) AG mX;have pq:(⟨2*i0,2*i,k,kH (ez x i0 i) (f7 x k),d6 (i-i0)++[(3,(k:Int))]⟩:bF)∈En x:=by
   unfold En;rw[lF];right;refine j6 (ER i0) (by omega) ?_;unfold iI;refine j6 hi (by omega) ?_;unfold iM;refine j6 (ER k) (by omega) ?_;exact uy.2 rfl
  obtain⟨b,hb,k1,k2,k3,k4⟩:=xb pq (by simp only;omega);simp only at k1 k2 k3 k4;have hbn:=(qT hd hx hb);have hbc:0<=b.aA:=by
   cases hbn with
   |read i m t _ _ h _ _ _ _ _ e=>have:=(cm hd i m).1;omega
   |dm i m t _ _ _ _ _ _ _ e=>have:=(cm hd i m).1;have:=hx.dm t;omega
   |sw1 i m _ _ _ _ _ _ e=>have:=(cm hd i m).1;have:=hx.swap;omega
   |sw2 i _ _ _ _ e=>omega
  have p2:=iV.IC b p hb (by omega);rw[<-k3,show b.t.toNat=2*i by omega]at p2;obtain⟨e,c2,e1,e2,e3⟩:=ih (λt ht=>hy t (by simp[ht])) i _ _ (gJ _) (by omega) p2 (by rw[te];omega);refine⟨e,c2,e1,by simpa using e2, ?_⟩;rw[te]at e3;omega
 | @swap i y' c' h1 s ih=>
  intro hy i0 y c hi Er p cQ;have Ot:=s.nn hx;have AG:=(cm hd i0 i).1;have sW:=jj h1;have pB:=hx.swap;have hs:=Gj (a:=ez x i0 i) (b:=x.swap) (by omega) AG pB;have akX:(⟨2*i0,2*i+1,(x.ag.getD (i+1) default).kind,kH (ez x i0 i) x.swap,d6 (i-i0)++[(4,0)]⟩:bF)∈En x:=by
   unfold En;rw[lF];left;refine j6 (ER i0) (by omega) ?_;unfold rI;rw[lF];left;refine j6 hi (by omega) ?_;unfold rM;rw[lF];right;unfold rS;rw[ee h1];exact uy.2 rfl
  have akY:(⟨2*i+1,2*i+4,(x.ag.getD i default).kind,0,[]⟩:bF)∈En x:=by
   unfold En;rw[lF];left;refine j6 (ER i) (by omega) ?_;unfold rI;rw[lF];right;unfold rT;rw[ee h1];exact uy.2 rfl
  have nnb:∀b∈eK x,0<=b.aA:=by
   intro b hb;cases qT hd hx hb with
   |read i m t _ _ h _ _ _ _ _ e=>have:=(cm hd i m).1;omega
   |dm i m t _ _ _ _ _ _ _ e=>have:=(cm hd i m).1;have:=hx.dm t;omega
   |sw1 i m _ _ _ _ _ _ e=>have:=(cm hd i m).1;omega
   |sw2 i _ _ _ _ e=>omega
  obtain⟨b,hb,k1,k2,k3,k4⟩:=xb akX (by simp only;omega);obtain⟨b',nI,l1,l2,l3,l4⟩:=xb akY (by simp[dV]);simp only at k1 k2 k3 k4 l1 l2 l3 l4;have hbc:=nnb b hb;have av8:=nnb b' nI;have p2:=iV.IC b p hb (by omega);rw[<-k3,show b.t.toNat=2*i+1 by omega]at p2;have p3:=iV.IC b' p2 nI (by omega);rw[<-l3,show b'.t.toNat=2*(i+2)by omega]at p3;obtain⟨e,c2,e1,e2,e3⟩:=ih (λt ht=>hy t (by simp[ht])) (i+2) _ _ (gJ _) (by omega) p3 (by rw[te];omega);refine⟨e,c2,e1,by simpa using e2, ?_⟩;rw[te]at e3;omega
def bu{l:ba}{v:Nat}(h:v<l.length):l.getD v default∈l:=by
 rw[List.getD,mM h];exact MK h
def ET{n:Nat}(h:n<=1000000000000000000):IntKind.i64.wrap (n:Int)=n:=av (by omega)
def Rb{y:ba}{aX:Int}(h:BK y aX){j:Nat}(hj:j<y.length):0<=kI y j/\kI y j<aX:=by
 have:=h j hj;unfold kI;omega
def t72(a b:Int)(ha: -1000000000000000000<=a/\a<=1000000000000000000)(hb: -1000000000000000000<=b/\b<=1000000000000000000):aJ ak 146 [ti a,ti b] (ti (min (a+b) dV)):=by
 have bb:=EV;refine c72.ok (by simp) (aH ?_);simp;apply aa.ai bb fw [0,1];simp[axh];have w1:IntKind.i64.wrap (a+b)=a+b:=av (by omega);apply aa.ai bb fw [4];simp[axi,w1];apply aa.ret;simp[dI]
def t73(x:Input)(m:Nat)(hm:m<=1000000)(hl:x.ag.length<=1000000):aJ ak 147 [x.enc,ti m] (.bool (cG x m)):=by
 have bb:=EV;refine c73.ok (by simp) (aH ?_);simp[Input.enc];apply aa.ai bb fw [1,2];simp[axj];refine aa.lk (o:=[]) (l:=[(1,.v (ti m)),(2,.v (.box [.sl (bd x.ag),.sl (au x.insert),ti x.swap]))]) (bn:=1200) (by simp) ?_;obtain⟨v,hv⟩:=aY (cG x m);rw[hv];unfold cG at hv;have w1:IntKind.i64.wrap ((m:Int)+1)=((m+1:Nat):Int):=by rw[av (by omega)];omega
 obtain⟨m1,uE⟩:=aY (m+1);rw[uE]at w1 hv;refine aa.bL bb fw [(4,.v (.bool v))] ?_ ?_
 .by_cases q1:0<x.swap
  .by_cases q2:m1<x.ag.length
   .have q3:m<x.ag.length:=by omega
    have r1:=fg q3;have r2:=fg q2;obtain⟨⟨k1,rd1,d1⟩,e1⟩:=aY (x.ag.getD m default);obtain⟨⟨k2,rd2,d2⟩,e2⟩:=aY (x.ag.getD m1 default);rw[e1]at r1 hv;rw[e2]at r2 hv;simp only at hv;by_cases q4:0<=k1
    .by_cases q5:0<=k2
     .have:v=true:=by rw[<-hv];simp[q1,q2,q4,q5]
      simp[Zv,w1,q1,q2,q3,r1,r2,bB.enc,q4,q5,this]
     .have:v=false:=by rw[<-hv];simp[q5]
      simp[Zv,w1,q1,q2,q3,r1,r2,bB.enc,q4,q5,this]
    .have:v=false:=by rw[<-hv];simp[q4]
     simp[Zv,w1,q1,q2,q3,r1,bB.enc,q4,this]
   .have:v=false:=by rw[<-hv];simp[q2]
    simp[Zv,w1,q1,q2,this]
  .have:v=false:=by rw[<-hv];simp[q1]
   simp[Zv,q1,this]
 apply aa.ret;simp[dI]
abbrev e72:DM.Spec:=bp (λts=>∃a b:Int,ts=[ti a,ti b]/\(-1000000000000000000<=a/\a<=1000000000000000000)/\(-1000000000000000000<=b/\b<=1000000000000000000)) (fun|[.int _ a,.int _ b]=>ti (min (a+b) dV)|_=>.bool false) true
abbrev e73:DM.Spec:=bp (λts=>∃(x:Input) (m:Nat),ts=[x.enc,ti m]/\m<=1000000/\x.ag.length<=1000000) (fun|[x,.int _ m]=>.bool (cG (xd x) m.toNat)|_=>.bool false) true
def axk:aw ak (bz [(146,e72),(147,e73)]):=by
 refine aw.cons (aw.cons aw.nil ?_) ?_
 .rintro ts ⟨x,m,rfl,h1,h2⟩;exact⟨by simpa using t73 x m h1 h2,λ_=>rfl⟩
 .rintro ts ⟨a,b,rfl,h1,h2⟩;exact⟨by simpa using t72 a b h1 h2,λ_=>rfl⟩
structure pu(x:Input)(y:ba):Prop where
 n:x.ag.length<=60
 m:y.length<=4194304
 y:∀j,j<y.length->0<=kI y j/\kI y j<x.insert.length
 rd:∀c∈x.ag,c.read.length=x.insert.length/\∀p∈c.read,p<=dV
 Ep:∀i,0<=eL x i/\eL x i<=dV
 dm:∀t,0<=f7 x t/\f7 x t<=dV
 swap:0<=x.swap/\x.swap<=dV
def pu.nn{x:Input}{y:ba}(h:pu x y):ZL x:=⟨λt=>(h.dm t).1,λi=>(h.Ep i).1,h.swap.1⟩
def pu.IG{x:Input}{y:ba}(h:pu x y)(i j:Nat):0<=ed x y i j/\ed x y i j<=dV:=⟨EP h.nn y _ i j (TZ _),TK x y i j⟩
def pu.below{x:Input}{y:ba}(h:pu x y):BK y x.insert.length:=by
 intro j hj;have:=h.y j hj;unfold kI at this;omega
structure qk where
 (k t c a e:Int)
 deriving Inhabited
def qk.enc(s:qk):aG:=[ti s.k,ti s.t,ti s.c,ti s.a,ti s.e]
def dL(l:List qk):List (aG):=l.map qk.enc
@[simp] def akf:dL []=[]:=rfl
@[simp] def akg(l:List qk):(dL l).length=l.length:=by simp[dL]
def LF{l:List qk}{y:Nat}(h:y<l.length):DM.rowAt (dL l) y=(l.getD y default).enc:=by simp[DM.rowAt,dL,h]
def oz(l m:List qk):dL (l++m)=dL l++dL m:=by simp[dL]
def Es(x:Input)(y:ba)(i j:Nat):List qk:=if Eo x y i j then [⟨1,kI y j,cV x i (kI y j).toNat,1,1⟩]else []
def A2(x:Input)(i:Nat):List qk:=if i<x.ag.length/\eL x i<dV then [⟨2,0,eL x i,1,0⟩]else []
def LB(x:Input)(y:ba)(j:Nat):List qk:=if j<y.length then [⟨3,kI y j,f7 x (kI y j).toNat,0,1⟩]else []
def Rg(x:Input)(y:ba)(i j:Nat):List qk:=if Oq x y i j then [⟨4,0,x.swap,2,2⟩]else []
def Lf(x:Input)(y:ba)(i j:Nat):List qk:=Es x y i j++A2 x i
def Ld(x:Input)(y:ba)(i j:Nat):List qk:=Lf x y i j++LB x y j
def ff(x:Input)(y:ba)(i j:Nat):List qk:=Ld x y i j++Rg x y i j
def BQ(x:Input)(y:ba)(i j:Nat):(ff x y i j).length<=4:=by
 unfold ff Ld Lf Es A2 LB Rg;split<;>split<;>split<;>split<;>simp
def t43(x:Input)(y:ba)(hb:BK y x.insert.length)(hy:y.length<=1000000000):aJ ak 166 [x.enc,.sl (au y)] (.bool true):=by
 have bb:=EV;refine c43.ok (by simp) (aH ?_);simp[Input.enc];apply aa.ai bb fw [1,2];simp[ak1];refine aa.lk (o:=[]) (l:=[(1,.v (.sl (au y))),(2,.v (.box [.sl (bd x.ag),.sl (au x.insert),ti x.swap]))]) (bn:=1200) (by simp) ?_;apply aa.sq bb fw [2,7,8,9];simp[ak2];apply aa.block;refine aa.loop (λj:Nat=>⟨DM.look [(2,.v (.box [.sl (bd x.ag),.sl (au x.insert),ti x.swap])),(7,.v (.sl (au y))),(8,.v (ti y.length)),(9,.v (ti j))],cR [],2000,1000,[]⟩)
  (λj=>j<=y.length) (λj=>y.length-j) 0 (Le.aL (o:=[]) ?_ ?_ ?_ ?_) (by simp) (λj hj=>?_)
 iterate 4(·simp)
 apply aa.ai bb fw [2,7,8,9,10];simp[ak3];apply aa.seq;refine aa.cond rfl (λaS=>?_) (λaS=>?_)
 .simp at aS;apply aa.skip;simp;apply aa.seq;apply aa.block;have r1:=bA aS;have hbj:=Rb hb aS;obtain⟨u,hu⟩:=aY (y.getD j default);rw[hu]at r1;unfold kI at hbj;rw[hu]at hbj;have q1:¬u<0:=by omega
  have q2:¬(x.insert.length:Int)<=u:=by omega
  apply aa.ai bb fw [2,6,7,8,9];simp[ak4,r1,aS];apply aa.ai bb fw [2,7,8,9,21];simp[ak5,q1,q2];refine aa.cond rfl (λaS=>by cases aS) (λaS=>?_);apply aa.skip;simp;apply aa.cZ bb fw [2,7,8,9];simp[ak6];rw[av (by omega)];refine⟨j+1,Le.aL (o:=[]) ?_ ?_ ?_ ?_,by omega,by omega⟩;iterate 3(·simp)
  .simp
 .simp at aS;apply aa.exit;simp;apply aa.ai bb fw [4];simp[ak7];apply aa.ret;simp[dI]
def t74(x:Input)(m:Nat)(hm:m<=1000000)(hl:x.ag.length<=1000000):aJ ak 205 [x.enc,ti m] (.bool (cG x m)):=by
 have bb:=EV;refine c74.ok (by simp) (aH ?_);simp[Input.enc];apply aa.ai bb fw [1,2];simp[ak8];refine aa.lk (o:=[]) (l:=[(1,.v (ti m)),(2,.v (.box [.sl (bd x.ag),.sl (au x.insert),ti x.swap]))]) (bn:=1200) (by simp) ?_;obtain⟨v,hv⟩:=aY (cG x m);rw[hv];unfold cG at hv;have w1:IntKind.i64.wrap ((m:Int)+1)=((m+1:Nat):Int):=by rw[av (by omega)];omega
 obtain⟨m1,uE⟩:=aY (m+1);rw[uE]at w1 hv;refine aa.bL bb fw [(4,.v (.bool v))] ?_ ?_
 .by_cases q1:0<x.swap
  .by_cases q2:m1<x.ag.length
   .have q3:m<x.ag.length:=by omega
    have r1:=fg q3;have r2:=fg q2;obtain⟨⟨k1,rd1,d1⟩,e1⟩:=aY (x.ag.getD m default);obtain⟨⟨k2,rd2,d2⟩,e2⟩:=aY (x.ag.getD m1 default);rw[e1]at r1 hv;rw[e2]at r2 hv;simp only at hv;by_cases q4:0<=k1
    .by_cases q5:0<=k2
     .have:v=true:=by rw[<-hv];simp[q1,q2,q4,q5]
      simp[IT,w1,q1,q2,q3,r1,r2,bB.enc,q4,q5,this]
     .have:v=false:=by rw[<-hv];simp[q5]
      simp[IT,w1,q1,q2,q3,r1,r2,bB.enc,q4,q5,this]
    .have:v=false:=by rw[<-hv];simp[q4]
     simp[IT,w1,q1,q2,q3,r1,bB.enc,q4,this]
   .have:v=false:=by rw[<-hv];simp[q2]
    simp[IT,w1,q1,q2,this]
  .have:v=false:=by rw[<-hv];simp[q1]
   simp[IT,q1,this]
 apply aa.ret;simp[dI]
def t57(a b:Int)(ha: -1000000000000000000<=a/\a<=1000000000000000000)(hb: -1000000000000000000<=b/\b<=1000000000000000000):aJ ak 169 [ti a,ti b] (ti (min (a+b) dV)):=by
 have bb:=EV;refine c57.ok (by simp) (aH ?_);simp;apply aa.ai bb fw [0,1];simp[ak9];have w1:IntKind.i64.wrap (a+b)=a+b:=av (by omega);apply aa.ai bb fw [4];simp[ala,w1];apply aa.ret;simp[zB]
def alb:aw ak (bz [(205,e73)]):=by
 refine aw.cons aw.nil ?_;rintro ts ⟨x,m,rfl,h1,h2⟩;exact⟨by simpa using t74 x m h1 h2,λ_=>rfl⟩
def t56(x:Input)(y:ba)(i j:Nat)(hx:pu x y)(hi:i<=x.ag.length)(hj:j<=y.length):
  aJ ak 168 [x.enc,.sl (au y),ti i,ti j] (.sl (dL (ff x y i j))):=by
 have bb:=alb;have hn:=hx.n;have hm:=hx.m;have hI:dV=1099511627776:=rfl;have Q7:∀(q:Nat),q<x.ag.length->(x.ag.getD q default).read.length=x.insert.length:=by
  intro q hq;exact(hx.rd (x.ag.getD q default) (by simp[List.getD,hq])).1
 have hl1:(Es x y i j).length<=1:=by unfold Es;split<;>simp
 have BS:(A2 x i).length<=1:=by unfold A2;split<;>simp
 have hl3:(LB x y j).length<=1:=by unfold LB;split<;>simp
 have hl4:(Lf x y i j).length<=2:=by unfold Lf;rw[nH];omega
 have hl5:(Ld x y i j).length<=3:=by unfold Ld;rw[nH];omega
 refine c56.ok (by simp) (aH ?_);simp[Input.enc];apply aa.ai bb fw [1,2,3,4];simp[T0];refine aa.lk (o:=[]) (l:=[(1,.v (.sl (au y))),(2,.v (ti i)),(3,.v (ti j)),(4,.v (.box [.sl (bd x.ag),.sl (au x.insert),ti x.swap]))]) (bn:=1200) (by simp) ?_;apply aa.ai bb fw [1,2,3,4,9];simp[EW];refine aa.lk (o:=[]) (l:=[(1,.v (.sl (au y))),(2,.v (ti i)),(3,.v (ti j)),(4,.v (.box [.sl (bd x.ag),.sl (au x.insert),ti x.swap])),(9,.aZ)]) (bn:=2000) (by simp) ?_;refine aa.le (Le.j7 (k:=9) 264 (sz:=5) (by omega) (by simp)) ?_;rw[jY];have w0:IntKind.i64.wrap ((y.length:Int)-j)=(y.length:Int)-j:=av (by omega);apply aa.ai bb fw [1,2,3,4,9,10,11];simp[alc,w0];apply aa.seq;refine aa.bL bb fw [(1,.v (.sl (au y))),(2,.v (ti i)),(3,.v (ti j)),(4,.v (.box [.sl (bd x.ag),.sl (au x.insert),ti x.swap])),(9,.aW 2000 0),(10,.v (.bool (decide (i<x.ag.length)))),(11,.v (ti ((y.length:Int)-j))),(40,.v (.bool (decide (Eo x y i j))))] ?_ ?_
 .by_cases q2:i<x.ag.length
  .by_cases q3:j<y.length
   .have ry:=bA q3;have hyj:=hx.y j q3;have ey:y.getD j default=kI y j:=rfl;rw[ey]at ry;obtain⟨v,hv⟩:∃v:Nat,kI y j=v:=⟨(kI y j).toNat,by omega⟩;rw[hv]at ry hyj;have rc:=fg q2;have hc:=Q7 i q2;have BT:cV x i v=(x.ag.getD i default).read.getD v default:=rfl;obtain⟨⟨kd,rd,dl⟩,ec⟩:=aY (x.ag.getD i default);rw[ec]at rc hc BT;simp only at hc BT;have qN:v<rd.length:=by omega
    have rr:=bA qN;rw[<-BT]at rr;have ZP:0<(y.length:Int)-j:=by omega
    have ZP:j<y.length:=q3;have Oy:Eo x y i j↔0<=cV x i v:=by unfold Eo;rw[hv];simp[q2,q3]
    obtain⟨g,hg⟩:=aY (cV x i v);rw[hg]at rr Oy;by_cases q4:0<=g
    .have q5:=Oy.2 q4;simp[Oz,q2,q3,q4,q5,ry,rc,rr,qN,bB.enc]
    .have q5:¬Eo x y i j:=λh=>q4 (Oy.1 h);simp[Oz,q2,q3,q4,q5,ry,rc,rr,qN,bB.enc]
   .have q5:¬Eo x y i j:=λh=>q3 h.2.1;simp[Oz,q2,q3,q5]
  .have q5:¬Eo x y i j:=λh=>q2 h.1;simp[Oz,q2,q5]
 refine aa.to ⟨DM.look [(1,.v (.sl (au y))),(2,.v (ti i)),(3,.v (ti j)),(4,.v (.box [.sl (bd x.ag),.sl (au x.insert),ti x.swap])),(9,.aW 2000 0),(10,.v (.bool (decide (i<x.ag.length)))),(11,.v (ti ((y.length:Int)-j)))],cR [(2000,.bm 0 264 5 (dL (Es x y i j)))],3000,1000,[]⟩ ?_ ?_
 .refine aa.cond rfl (λh1=>?_) (λh1=>?_)
  .simp only[yN]at h1;have hL:dL (Es x y i j)=dL ([])++[(⟨1,kI y j,cV x i (kI y j).toNat,1,1⟩:qk).enc]:=by
    rw[show dL []=[]from rfl,jB];unfold Es;rw[ee h1];rfl
   obtain⟨q2,q3,q4⟩:=h1;have ry:=bA q3;have hyj:=hx.y j q3;have ey:y.getD j default=kI y j:=rfl;rw[ey]at ry;obtain⟨v,hv⟩:∃v:Nat,kI y j=v:=⟨(kI y j).toNat,by omega⟩;rw[hv]at ry hyj;have rc:=fg q2;have hc:=Q7 i q2;have BT:cV x i v=(x.ag.getD i default).read.getD v default:=rfl;obtain⟨⟨kd,rd,dl⟩,ec⟩:=aY (x.ag.getD i default);rw[ec]at rc hc BT;simp only at hc BT;have qN:v<rd.length:=by omega
   have rr:=bA qN;rw[<-BT]at rr;rw[hv,gN]at q4;have gf:(⟨1,kI y j,cV x i (kI y j).toNat,1,1⟩:qk).enc=[ti 1,ti v,ti (cV x i v),ti 1,ti 1]:=by rw[hv];rfl
   rw[gf]at hL;apply aa.cZ bb fw [1,2,3,4,9,10,11];simp[ald,q2,q3,ry,rc,rr,qN,bB.enc,di,cw];exact Le.aL (by simp) (by simp) (by simp[-List.append_assoc,hL,qk.enc,di]) (by simp)
  .simp only[mD]at h1;have hL:dL (Es x y i j)=dL ([]):=by
    rw[show dL []=[]from rfl];unfold Es;rw[iK h1];simp[dL]
   apply aa.skip;simp;exact Le.aL (by simp) (by simp) (by simp[-List.append_assoc,hL,qk.enc,di]) (by simp)
 apply aa.seq;refine aa.bL bb fw [(1,.v (.sl (au y))),(2,.v (ti i)),(3,.v (ti j)),(4,.v (.box [.sl (bd x.ag),.sl (au x.insert),ti x.swap])),(9,.aW 2000 0),(11,.v (ti ((y.length:Int)-j))),(71,.v (.bool (decide (i<x.ag.length/\eL x i<dV))))] ?_ ?_
 .by_cases q2:i<x.ag.length
  .have rc:=fg q2;have edl:eL x i=(x.ag.getD i default).delete:=rfl;obtain⟨⟨kd,rd,dl⟩,ec⟩:=aY (x.ag.getD i default);rw[ec]at rc edl;simp only at edl;rw[edl];by_cases q4:dl<1099511627776
   .have q5:dl<dV:=q4;simp[T1,q2,q4,q5,rc,bB.enc]
   .have q5:¬dl<dV:=q4;simp[T1,q2,q4,q5,rc,bB.enc]
  .simp[T1,q2]
 refine aa.to ⟨DM.look [(1,.v (.sl (au y))),(2,.v (ti i)),(3,.v (ti j)),(4,.v (.box [.sl (bd x.ag),.sl (au x.insert),ti x.swap])),(9,.aW 2000 0),(11,.v (ti ((y.length:Int)-j)))],cR [(2000,.bm 0 264 5 (dL (Lf x y i j)))],4000,1000,[]⟩ ?_ ?_
 .refine aa.cond rfl (λh2=>?_) (λh2=>?_)
  .simp only[yN]at h2;have hL:dL (Lf x y i j)=dL (Es x y i j)++[(⟨2,0,eL x i,1,0⟩:qk).enc]:=by
    rw[show Lf x y i j=Es x y i j++A2 x i from rfl,oz];unfold A2;rw[ee h2];rfl
   obtain⟨q2,q4⟩:=h2;have rc:=fg q2;have edl:eL x i=(x.ag.getD i default).delete:=rfl;obtain⟨⟨kd,rd,dl⟩,ec⟩:=aY (x.ag.getD i default);rw[ec]at rc edl;simp only at edl;rw[edl]at hL;apply aa.cZ bb fw [1,2,3,4,9,11];simp[ale,q2,rc,bB.enc,di,cw];refine⟨⟨by omega,by omega⟩, ?_⟩;exact Le.aL (by simp) (by simp) (by simp[-List.append_assoc,hL,qk.enc,di]) (by simp)
  .simp only[mD]at h2;have hL:dL (Lf x y i j)=dL (Es x y i j):=by
    rw[show Lf x y i j=Es x y i j++A2 x i from rfl,oz];unfold A2;rw[iK h2];simp[dL]
   apply aa.skip;simp;exact Le.aL (by simp) (by simp) (by simp[-List.append_assoc,hL,qk.enc,di]) (by simp)
 apply aa.seq;refine aa.bL bb fw [(1,.v (.sl (au y))),(2,.v (ti i)),(3,.v (ti j)),(4,.v (.box [.sl (bd x.ag),.sl (au x.insert),ti x.swap])),(9,.aW 2000 0),(11,.v (ti ((y.length:Int)-j))),(84,.v (.bool (decide (j<y.length))))] ?_ ?_
 .by_cases q3:j<y.length
  .have ZP:0<(y.length:Int)-j:=by omega
   simp[adV,q3]
  .have ZP:¬0<(y.length:Int)-j:=by omega
   simp[adV,q3]
 refine aa.to ⟨DM.look [(1,.v (.sl (au y))),(2,.v (ti i)),(3,.v (ti j)),(4,.v (.box [.sl (bd x.ag),.sl (au x.insert),ti x.swap])),(9,.aW 2000 0),(11,.v (ti ((y.length:Int)-j)))],cR [(2000,.bm 0 264 5 (dL (Ld x y i j)))],5000,1000,[]⟩ ?_ ?_
 .refine aa.cond rfl (λh3=>?_) (λh3=>?_)
  .simp only[yN]at h3;have hL:dL (Ld x y i j)=dL (Lf x y i j)++[(⟨3,kI y j,f7 x (kI y j).toNat,0,1⟩:qk).enc]:=by
    rw[show Ld x y i j=Lf x y i j++LB x y j from rfl,oz];unfold LB;rw[ee h3];rfl
   have q3:=h3;have ry:=bA q3;have hyj:=hx.y j q3;have ey:y.getD j default=kI y j:=rfl;rw[ey]at ry;obtain⟨v,hv⟩:∃v:Nat,kI y j=v:=⟨(kI y j).toNat,by omega⟩;rw[hv]at ry hyj;have qN:v<x.insert.length:=by omega
   have ri:=bA qN;have ein:x.insert.getD v default=f7 x v:=rfl;rw[ein]at ri;rw[hv,gN]at hL;apply aa.cZ bb fw [1,2,3,4,9,11];simp[alf,q3,ry,ri,qN,di,cw];refine⟨⟨by omega,by omega⟩, ?_⟩;exact Le.aL (by simp) (by simp) (by simp[-List.append_assoc,hL,qk.enc,di]) (by simp)
  .simp only[mD]at h3;have hL:dL (Ld x y i j)=dL (Lf x y i j):=by
    rw[show Ld x y i j=Lf x y i j++LB x y j from rfl,oz];unfold LB;rw[iK h3];simp[dL]
   apply aa.skip;simp;exact Le.aL (by simp) (by simp) (by simp[-List.append_assoc,hL,qk.enc,di]) (by simp)
 apply aa.seq;obtain⟨xt,tA⟩:=aY x.enc;have ov:T.agg [.sl (bd x.ag),.sl (au x.insert),ti x.swap]=xt:=tA;have Ox:xd xt=x:=by rw[<-tA];simp
 obtain⟨sw,pB⟩:=aY (cG x i);have w1:IntKind.i64.wrap ((j:Int)+1)=((j+1:Nat):Int):=by exact_mod_cast ET (n:=j+1) (by omega)
 have w2:IntKind.i64.wrap ((i:Int)+1)=((i+1:Nat):Int):=by exact_mod_cast ET (n:=i+1) (by omega)
 obtain⟨j1,hj1⟩:=aY (j+1);obtain⟨i1,hi1⟩:=aY (i+1);rw[hj1]at w1;rw[hi1]at w2;refine aa.bL bb fw [(4,.v (.box [.sl (bd x.ag),.sl (au x.insert),ti x.swap])),(9,.aW 2000 0),(136,.v (.bool (decide (Oq x y i j))))] ?_ ?_
 .by_cases q0:1<(y.length:Int)-j
  .by_cases q2:cG x i=true
   .have hql:=jj q2;rw[pB]at q2;subst q2;have q3:j1<y.length:=by omega
    have ry1:=bA (show j<y.length by omega);have ry2:=bA q3;have aag:i1<x.ag.length:=by omega
    have sW:i<x.ag.length:=by omega
    have rc1:=fg sW;have rc2:=fg aag;have Gp:Oq x y i j↔kI y j=(x.ag.getD i1 default).kind/\kI y j1=(x.ag.getD i default).kind:=by unfold Oq;rw[hj1,hi1,pB];simp[q3]
    unfold kI at Gp;obtain⟨⟨k1,rd1,d1⟩,e1⟩:=aY (x.ag.getD i default);obtain⟨⟨k2,rd2,d2⟩,e2⟩:=aY (x.ag.getD i1 default);rw[e1]at rc1 Gp;rw[e2]at rc2 Gp;simp only at Gp;obtain⟨u1,hu1⟩:=aY (y.getD j default);obtain⟨u2,hu2⟩:=aY (y.getD j1 default);rw[hu1]at ry1 Gp;rw[hu2]at ry2 Gp;have Ia:j<y.length:=by omega
    by_cases q4:k2=u1
    .by_cases q5:k1=u2
     .have q6:Oq x y i j:=Gp.2 ⟨q4.symm,q5.symm⟩;simp[IU,q0,ov,Ox,pB,w1,w2,q3,ry1,ry2,rc1,rc2,aag,sW,Ia,q4,q5,q6,bB.enc];exact⟨x,i,⟨tA.symm,rfl⟩,by omega,by omega⟩
     .have q6:¬Oq x y i j:=λh=>q5 (Gp.1 h).2.symm;simp[IU,q0,ov,Ox,pB,w1,w2,q3,ry1,ry2,rc1,rc2,aag,sW,Ia,q4,q5,q6,bB.enc];exact⟨x,i,⟨tA.symm,rfl⟩,by omega,by omega⟩
    .have q6:¬Oq x y i j:=λh=>q4 (Gp.1 h).1.symm;simp[IU,q0,ov,Ox,pB,w2,ry1,rc2,aag,Ia,q4,q6,bB.enc];exact⟨x,i,⟨tA.symm,rfl⟩,by omega,by omega⟩
   .have q6:¬Oq x y i j:=λh=>q2 h.1;rw[pB]at q2;have TW:sw=false:=by simpa using q2
    simp[IU,q0,ov,Ox,pB,TW,q6];exact⟨x,i,⟨tA.symm,rfl⟩,by omega,by omega⟩
  .have q6:¬Oq x y i j:=λh=>q0 (by have:=h.2.1;omega);simp[IU,q0,q6]
 refine aa.to ⟨DM.look [(9,.aW 2000 0)],cR [(2000,.bm 0 264 5 (dL (ff x y i j)))],6000,1000,[]⟩ ?_ ?_
 .refine aa.cond rfl (λh4=>?_) (λh4=>?_)
  .simp only[yN]at h4;have hL:dL (ff x y i j)=dL (Ld x y i j)++[(⟨4,0,x.swap,2,2⟩:qk).enc]:=by
    rw[show ff x y i j=Ld x y i j++Rg x y i j from rfl,oz];unfold Rg;rw[ee h4];rfl
   apply aa.cZ bb fw [9];simp[afi,di,cw];refine⟨⟨by omega,by omega⟩, ?_⟩;exact Le.aL (by simp) (by simp) (by simp[-List.append_assoc,hL,qk.enc,di]) (by simp)
  .simp only[mD]at h4;have hL:dL (ff x y i j)=dL (Ld x y i j):=by
    rw[show ff x y i j=Ld x y i j++Rg x y i j from rfl,oz];unfold Rg;rw[iK h4];simp[dL]
   apply aa.skip;simp;exact Le.aL (by simp) (by simp) (by simp[-List.append_assoc,hL,qk.enc,di]) (by simp)
 apply aa.ai bb fw [8];simp[afj];apply aa.ret;simp[BU]
section
variable{f f0:bS}
def A3{r q:Nat}{o:Ob}(h:r≠q):dx f q o r=f r:=by simp[dx,h]
def aah:bW->bS->iw
 |[.ptr b 0,.v (.int .i64 t)],ab=>
  match ab b with
  |some (.box [.v c1,.v c2,.v c3,.v c4,.aW a v,.v c6])=>match ab a with
   |some (.bm v' e sz aC)=>⟨v=v'/\e=3/\sz=1/\a≠b/\aC.length<=100000000/\(∀r∈aC,r.length=1),.v (.dh []),
     dx (dx ab a (.bm (v+1) 3 1 (aC++[[ti t]]))) b (.box [.v c1,.v c2,.v c3,.v c4,.aW a (v+1),.v c6])⟩
   |_=>⟨False,.undef,ab⟩
  |_=>⟨False,.undef,ab⟩
 |_,ab=>⟨False,.undef,ab⟩
def atz{b a v:Nat}{c1 c2 c3 c4 c6:T}{t:Int}{aC:List (aG)}{N:Nat}(hN:∀r,N<=r->f0 r=none)(hb:f0 b=some (.box [.v c1,.v c2,.v c3,.v c4,.aW a v,.v c6]))(ha:f0 a=some (.bm v 3 1 aC))
  (ik:a≠b) (hl:aC.length<=100000000) (ql:∀r∈aC,r.length=1):
  ce ak 260 [.ptr b 0,.v (ti t)] f0 ⟨True,.v (.dh []),dx (dx f0 a (.bm (v+1) 3 1 (aC++[[ti t]]))) b (.box [.v c1,.v c2,.v c3,.v c4,.aW a (v+1),.v c6])⟩:=by
 have bb:=EV;refine atA.Ie hN (by simp) λc9=>?_;have zV:b<N:=(c9 b _ hb).1;have LM:a<N:=(c9 a _ ha).1;have hba:b≠a:=λe=>ik e.symm;have nb:∀k,b≠N+k:=λk=>by omega
 have na:∀k,a≠N+k:=λk=>by omega
 simp;apply aa.ai bb fw [0,1,4];simp[afk,hb];refine aa.to ⟨DM.look [],dA [(b,.box [.v c1,.v c2,.v c3,.v c4,.aW a (v+1),.v c6]),(a,.bm (v+1) 3 1 (aC++[[ti t]]))] f0,N+1000,N,[]⟩ ?_ (by simp[OA];rfl);apply aa.cZ bb fw [];simp[afl,hb,ha,ik,hba,nb,na,cw,di,pn];refine⟨⟨by omega,by omega⟩,Le.same (l:=[]) (λr hr=>?_) (by simp)⟩;simp[show r≠b by omega,show r≠a by omega,hN r (by omega)]
structure ES where
 dC:Nat
 out:ba
 aA:Int
def nV(s:ES):Ob:=.bm s.out.length 3 1 (au s.out)
def eI(x:Input)(m:Nat)(c:Int)(a v:Nat):Ob:=.box [.v (.sl (bd x.ag)),.v (.sl (au x.insert)),.v (ti x.swap),.v (ti m),.aW a v,.v (ti c)]
def aai:bW->bS->iw
 |[.ptr b 0],ab=>
  match ab b with
  |some (.box [.v (.sl c),_,_,.v (.int .i64 m),_,_])=>⟨0<=m/\m<c.length/\c=bd (kR c),.v (.dh [.agg ((kR c).getD m.toNat default).enc,.bool true]),ab⟩
  |_=>⟨False,.undef,ab⟩
 |_,ab=>⟨False,.undef,ab⟩
def alg{b:Nat}{c2 c3 c5 c6:DV}{c:List bB}{m:Nat}{N:Nat}(hN:∀r,N<=r->f0 r=none)(hb:f0 b=some (.box [.v (.sl (bd c)),c2,c3,.v (ti m),c5,c6]))(hm:m<c.length):
  ce ak 271 [.ptr b 0] f0 ⟨True,.v (.dh [.agg (c.getD m default).enc,.bool true]),f0⟩:=by
 have bb:=EV;refine alh.Ie hN (by simp) λc9=>?_;have zV:b<N:=(c9 b _ hb).1;have nb:∀k,b≠N+k:=λk=>by omega
 have gf:=fg hm;obtain⟨⟨kd,rd,dl⟩,ec⟩:=aY (c.getD m default);rw[ec]at gf;rw[ec];simp[bB.enc];apply aa.ai bb fw [0,2,3];simp[T2];apply aa.sq bb fw [0,2,3,14];simp[T3,hb,nb,pn];refine aa.cond rfl (λaS=>by simp at aS;omega) (λaS=>?_);apply aa.skip;simp;apply aa.ai bb fw [2,3];simp[afm,hb,nb,pn,hm,gf,bB.enc];refine aa.le (Le.iy (l1:=[]) (l:=[(2,.v (.box [ti kd,.sl (au rd),ti dl])),(3,.v (.bool true))]) (bn:=N+100) c9 ?_ ?_ ?_ ?_ ?_) ?_
 .omega
 .simp
 .simp[cY]
 .simp[kp]
 .simp;exact j8 c9 (by omega) (by simp)
 apply aa.ret;simp[Gq];rfl
def cj(x:Input)(s:ES)(k t:Nat):ES:=
 if k=1 then⟨s.dC+1,s.out++[(t:Int)],min (s.aA+cV x s.dC t) dV⟩
 else if k=2 then⟨s.dC+1,s.out,min (s.aA+eL x s.dC) dV⟩
 else if k=3 then⟨s.dC,s.out++[(t:Int)],min (s.aA+f7 x t) dV⟩
 else⟨s.dC+2,s.out++[(x.ag.getD (s.dC+1) default).kind,(x.ag.getD s.dC default).kind],min (s.aA+x.swap) dV⟩
def qW(x:Input)(s:ES)(k t:Nat):Prop:=
 if k=1 then s.dC<x.ag.length/\t<(x.ag.getD s.dC default).read.length/\0<=cV x s.dC t/\cV x s.dC t<=dV
 else if k=2 then s.dC<x.ag.length/\t=0/\0<=eL x s.dC/\eL x s.dC<dV
 else if k=3 then t<x.insert.length/\0<=f7 x t/\f7 x t<=dV
 else t=0/\cG x s.dC=true/\0<=x.swap/\x.swap<=dV
structure BV(x:Input)(s:ES):Prop where
 dC:s.dC<=1000000
 out:s.out.length<=99999990
 c0:0<=s.aA
 c1:s.aA<=dV
 LN:x.ag.length<=1000000
abbrev atB:DM.Spec:=bp (λts=>∃a b:Int,ts=[ti a,ti b]/\(-1000000000000000000<=a/\a<=1000000000000000000)/\(-1000000000000000000<=b/\b<=1000000000000000000)) (fun|[.int _ a,.int _ b]=>ti (min (a+b) dV)|_=>.bool false) true
abbrev eSw:DM.Spec:=bp (λts=>∃(x:Input) (m:Nat),ts=[x.enc,ti m]/\m<=1000000/\x.ag.length<=1000000) (fun|[x,.int _ m]=>.bool (cG (xd x) m.toNat)|_=>.bool false) true
def aaj:aw ak (bz [(271,fl aai),(260,fl aah),(169,atB),(205,eSw)]):=by
 refine aw.il (aw.il (aw.cons (aw.cons aw.nil ?_) ?_) ?_) ?_
 .rintro ts ⟨x,m,rfl,h1,h2⟩;exact⟨by simpa using t74 x m h1 h2,λ_=>rfl⟩
 .rintro ts ⟨a,b,rfl,h1,h2⟩;exact⟨by simpa using t57 a b h1 h2,λ_=>rfl⟩
 .intro args ab h;unfold aah at h⊢;split at h
  .rename_i aM b t;split at h
   .rename_i c1 c2 c3 c4 a v c6 hb;split at h
    .rename_i v' e sz aC ha;obtain⟨rfl,rfl,rfl,ik,hl,ql⟩:=h;refine⟨λN hN=>?_,λr hr=>?_⟩
     .exact ce.of (atz hN hb ha ik hl ql) (by simp[]) (by simp[])
     .simp only[];have T4:r≠b:=λe=>by rw[e,hb]at hr;cases hr
      have sD:r≠a:=λe=>by rw[e,ha]at hr;cases hr
      rw[A3 T4,A3 sD];exact hr
    .exact h.elim
   .exact h.elim
  .exact h.elim
 .intro args ab h;unfold aai at h⊢;split at h
  .rename_i aM b;split at h
   .rename_i c c2 c3 m c5 c6 hb;obtain⟨h1,h2,h3⟩:=h;obtain⟨m,rfl⟩:=bX h1;obtain⟨cl,c9⟩:=aY (kR c);rw[c9]at h3;subst h3;refine⟨λN hN=>?_,λr hr=>?_⟩
    .exact ce.of (alg hN hb (by simpa using h2)) (by simp[]) (by simp[])
    .simpa [hb]using hr
   .exact h.elim
  .exact h.elim
def OB{b m v a:Nat}{x:Input}{c:Int}(hb:f b=some (eI x m c a v)):aai [.ptr b 0] f=⟨m<x.ag.length,.v (.dh [.agg (x.ag.getD m default).enc,.bool true]),f⟩:=by
 simp[aai,hb,eI]
def A4{b m v a:Nat}{x:Input}{c t:Int}{l:ba}(hb:f b=some (eI x m c a v))(ha:f a=some (.bm v 3 1 (au l)))(ik:a≠b):
  aah [.ptr b 0,.v (ti t)] f=⟨l.length<=100000000,.v (.dh []),dx (dx f a (.bm (v+1) 3 1 (au (l++[t])))) b (eI x m c a (v+1))⟩:=by
 have hr:∀r∈au l,r.length=1:=by intro r hr;simp only[au,sE]at hr;obtain⟨_,_,rfl⟩:=hr;rfl
 have e:au (l++[t])=au l++[[ti t]]:=by simp[au]
 simp only[aah,hb,eI,ha,e,iw.mk.injEq,ZI,eq_iff_iff,Em];simp[ik,au]
end
section
variable{f0:bS}
def tC{N aP bn:Nat}{tm:dW}{l:pe}{L:fS}{b a m v:Nat}{x:Input}{c:Int}{aC:List (aG)}(c9:qX f0 N)(hb:b<N)(ha:a<N)(ik:a≠b)(hn:N<=bn)
  (hL:∀p∈L,p.1=b\/p.1=a\/N<=p.1) (h1:dA L f0 b=some (eI x m c a v)) (h2:dA L f0 a=some (.bm v 3 1 aC))
  (nJ:oM (dA L f0) (dA [(b,eI x m c a v),(a,.bm v 3 1 aC)] f0) id tm l):
  Le ⟨tm,dA L f0,aP,N,[]⟩ ⟨DM.look l,dA [(b,eI x m c a v),(a,.bm v 3 1 aC)] f0,bn,N,[]⟩:=by
 have hba:b≠a:=λe=>ik e.symm;refine Le.iy c9 hn ?_ ?_ ?_ nJ
 .simp;omega
 .have:∀(L:fS),(∀p∈L,p.1=b\/p.1=a\/N<=p.1)->cY N [(b,eI x m c a v),(a,.bm v 3 1 aC)] L:=by
   intro L;induction L with
   |nil=>intro _;trivial
   |cons q L ih=>
    intro h;refine⟨λhq=>?_,ih λp hp=>h p (by simp[hp])⟩;rcases h q (by simp)with h|h|h
    .exact⟨eI x m c a v,by rw[h];simp⟩
    .exact⟨.bm v 3 1 aC,by rw[h];simp⟩
    .omega
  exact this _ hL
 .refine⟨⟨eI x m c a v,h1,.inr ⟨rfl,λn hn=>?_⟩,λ_=>ej _⟩,⟨.bm v 3 1 aC,h2,.inr ⟨rfl,λn hn=>by simp[jy]at hn⟩,λ_=>ej _⟩,trivial⟩;have:n=a:=by simpa [eI,jy,da,br]using hn
  subst this;exact⟨_,_,h2,by simp[ik],ej _⟩
def ali{b a:Nat}{x:Input}{s:ES}{t:Nat}{N:Nat}(hN:∀r,N<=r->f0 r=none)(hb:f0 b=some (eI x s.dC s.aA a s.out.length))(ha:f0 a=some (.bm s.out.length 3 1 (au s.out)))(ik:a≠b)
  (hs:BV x s) (hc:qW x s 1 t):
  ce ak 267 [.ptr b 0,.v (ti t)] f0 ⟨True,.v (.bool true),dx (dx f0 a (.bm (s.out.length+1) 3 1 (au (s.out++[(t:Int)])))) b (eI x (s.dC+1) (min (s.aA+cV x s.dC t) dV) a (s.out.length+1))⟩:=by
 have bb:=aaj;refine alj.Ie hN (by simp) λc9=>?_;have zV:b<N:=(c9 b _ hb).1;have LM:a<N:=(c9 a _ ha).1;have hba:b≠a:=λe=>ik e.symm;have nb:∀k,b≠N+k:=λk=>by omega
 have na:∀k,a≠N+k:=λk=>by omega
 obtain⟨m,out,c⟩:=s;obtain⟨h1,T5,h3,h4,h5⟩:=hs;have h2:out.length<=100000000:=zN T5 (by omega);simp only[qW,ee]at*
 obtain⟨q1,q2,q3,q4⟩:=hc;have BT:cV x m t=(x.ag.getD m default).read.getD t default:=rfl;obtain⟨⟨kd,rd,dl⟩,ec⟩:=aY (x.ag.getD m default);rw[ec]at q2 BT;simp only at q2 BT;have rr:=bA q2;obtain⟨g,hg⟩:=aY (cV x m t);rw[hg]at BT q3 q4;rw[<-BT]at rr;rw[hg];have rr':DM.rowAt (au rd) (t:Int)=[ti g]:=rr;have ecc:x.ag[m]?.getD default=⟨kd,rd,dl⟩:=ec;have ecm:x.ag[m]'q1=⟨kd,rd,dl⟩:=by rw[<-ecc,mM q1];rfl
 have q5:¬g<0:=by omega
 have q6:¬(rd.length:Int)<=t:=by omega
 have hI:dV=1099511627776:=rfl;simp;apply aa.ai bb fw [0,1];simp[T6];apply aa.uG bb fw (rs:=A5) pV (by kernel_rfl) [0,1,5,6];simp[A5,OB (x:=x) (m:=m) (c:=c) (a:=a) (v:=out.length),hb,q1,ecm,bB.enc];refine aa.le (Le.iy (l1:=[]) (l:=[(0,.ptr b 0),(1,.v (ti t)),(5,.v (.box [ti kd,.sl (au rd),ti dl])),(6,.v (.bool true))]) (bn:=N+1000) c9 ?_ ?_ ?_ ?_ ?_) ?_
 .omega
 .simp
 .simp[cY];omega
 .simp[kp,kq]
 .simp[hb,eI,nb,pn];exact j8 (l:=[]) c9 (by omega) (by simp)
 apply aa.seq;refine aa.bL bb fw [(0,.ptr b 0),(1,.v (ti t)),(5,.v (.box [ti kd,.sl (au rd),ti dl])),(32,.v (.bool false))] ?_ ?_
 .have q7:¬(t:Int)<0:=by omega
  simp[BW,q5,q6,q2,rr',q7]
 refine aa.cond rfl (λaS=>by cases aS) (λaS=>?_);apply aa.skip;simp;have w1:IntKind.i64.wrap ((m:Int)+1)=((m+1:Nat):Int):=by rw[av (by omega)];omega
 apply aa.ai bb fw [0,1,5];simp[afn,hb,eI,w1];refine aa.le (tC (x:=x) (m:=m+1) (c:=c) (v:=out.length) (aC:=au out) (l:=[(0,.ptr b 0),(1,.v (ti t)),(5,.v (.box [ti kd,.sl (au rd),ti dl]))]) (bn:=N+2000) c9 zV LM ik (by omega) ?_ ?_ ?_ ?_) ?_
 .simp
 .simp[eI]
 .simp[ik,ha]
 .simp[eI]
 apply aa.uG bb fw (rs:=OC) pV (by kernel_rfl) [0,1,5];simp[OC,A4 (x:=x) (m:=m+1) (c:=c) (v:=out.length) (l:=out) (a:=a),ik,h2];rw[fJ,fJ];refine aa.le (tC (x:=x) (m:=m+1) (c:=c) (v:=out.length+1) (aC:=au (out++[(t:Int)])) (l:=[(0,.ptr b 0),(1,.v (ti t)),(5,.v (.box [ti kd,.sl (au rd),ti dl]))]) (bn:=N+3000) c9 zV LM ik (by omega) ?_ ?_ ?_ ?_) ?_
 .simp
 .simp[eI]
 .simp[ik]
 .simp[eI]
 apply aa.ai bb fw [];simp[afo,eI,q2,rr'];refine⟨?_, ?_⟩
 .exact⟨c,g,⟨rfl,rfl⟩,⟨by omega,by omega⟩,by omega,by omega⟩
 refine aa.le (tC (x:=x) (m:=m+1) (c:=min (c+g) dV) (v:=out.length+1) (aC:=au (out++[(t:Int)])) (l:=[]) (bn:=N+4000) c9 zV LM ik (by omega) ?_ ?_ ?_ ?_) ?_
 .simp
 .simp[eI]
 .simp[ik]
 .simp[eI]
 apply aa.ai bb fw [4];simp[afp];apply aa.ret;simp[dI,eI];rfl
def alk{b a:Nat}{x:Input}{s:ES}{t:Nat}{N:Nat}(hN:∀r,N<=r->f0 r=none)(hb:f0 b=some (eI x s.dC s.aA a s.out.length))(ha:f0 a=some (.bm s.out.length 3 1 (au s.out)))(ik:a≠b)
  (hs:BV x s) (hc:qW x s 2 t):
  ce ak 268 [.ptr b 0,.v (ti t)] f0 ⟨True,.v (.bool true),dx f0 b (eI x (s.dC+1) (min (s.aA+eL x s.dC) dV) a s.out.length)⟩:=by
 have bb:=aaj;refine alo.Ie hN (by simp) λc9=>?_;have zV:b<N:=(c9 b _ hb).1;have LM:a<N:=(c9 a _ ha).1;have hba:b≠a:=λe=>ik e.symm;have nb:∀k,b≠N+k:=λk=>by omega
 have na:∀k,a≠N+k:=λk=>by omega
 obtain⟨m,out,c⟩:=s;obtain⟨h1,T5,h3,h4,h5⟩:=hs;have h2:out.length<=100000000:=zN T5 (by omega);simp only[qW,ee]at*
 have hI:dV=1099511627776:=rfl;rw[iK (by omega)]at hc;obtain⟨q1,rfl,q3,q4⟩:=hc;have BT:eL x m=(x.ag.getD m default).delete:=rfl;obtain⟨⟨kd,rd,dl⟩,ec⟩:=aY (x.ag.getD m default);rw[ec]at BT;simp only at BT;rw[BT]at q3 q4;rw[BT];have ecc:x.ag[m]?.getD default=⟨kd,rd,dl⟩:=ec;have ecm:x.ag[m]'q1=⟨kd,rd,dl⟩:=by rw[<-ecc,mM q1];rfl
 have q5:¬(1099511627776:Int)<=dl:=by omega
 simp;apply aa.ai bb fw [0,1];simp[T7];apply aa.uG bb fw (rs:=A6) pV (by kernel_rfl) [0,1,5,6];simp[A6,OB (x:=x) (m:=m) (c:=c) (a:=a) (v:=out.length),hb,q1,ecm,bB.enc];refine aa.le (Le.iy (l1:=[]) (l:=[(0,.ptr b 0),(1,.v (ti 0)),(5,.v (.box [ti kd,.sl (au rd),ti dl])),(6,.v (.bool true))]) (bn:=N+1000) c9 ?_ ?_ ?_ ?_ ?_) ?_
 .omega
 .simp
 .simp[cY];omega
 .simp[kp,kq]
 .simp[hb,eI,nb,pn];exact j8 (l:=[]) c9 (by omega) (by simp)
 apply aa.seq;refine aa.bL bb fw [(0,.ptr b 0),(5,.v (.box [ti kd,.sl (au rd),ti dl])),(22,.v (.bool false))] ?_ ?_
 .simp[Gs,q5]
 refine aa.cond rfl (λaS=>by cases aS) (λaS=>?_);apply aa.skip;simp;have w1:IntKind.i64.wrap ((m:Int)+1)=((m+1:Nat):Int):=by rw[av (by omega)];omega
 apply aa.ai bb fw [0,5];simp[afq,hb,eI,w1];refine aa.le (tC (x:=x) (m:=m+1) (c:=c) (v:=out.length) (aC:=au (out)) (l:=[(0,.ptr b 0),(5,.v (.box [ti kd,.sl (au rd),ti dl]))]) (bn:=N+2000) c9 zV LM ik (by omega) ?_ ?_ ?_ ?_) ?_
 .simp
 .simp[eI]
 .simp[ik,ha]
 .simp[eI]
 apply aa.ai bb fw [];simp[afr,eI];refine⟨?_, ?_⟩
 .exact⟨c,dl,⟨rfl,rfl⟩,⟨by omega,by omega⟩,by omega,by omega⟩
 refine aa.le (tC (x:=x) (m:=m+1) (c:=min (c+dl) dV) (v:=out.length) (aC:=au (out)) (l:=[]) (bn:=N+4000) c9 zV LM ik (by omega) ?_ ?_ ?_ ?_) ?_
 .simp
 .simp[eI]
 .simp[ik,ha]
 .simp[eI]
 apply aa.ai bb fw [4];simp[afs];apply aa.ret;simp[dI,eI];show dx (dx f0 a _) b _=_;rw[qY ha]
def alp{b a:Nat}{x:Input}{s:ES}{t:Nat}{N:Nat}(hN:∀r,N<=r->f0 r=none)(hb:f0 b=some (eI x s.dC s.aA a s.out.length))(ha:f0 a=some (.bm s.out.length 3 1 (au s.out)))(ik:a≠b)
  (hs:BV x s) (hc:qW x s 3 t):
  ce ak 269 [.ptr b 0,.v (ti t)] f0 ⟨True,.v (.bool true),dx (dx f0 a (.bm (s.out.length+1) 3 1 (au (s.out++[(t:Int)])))) b (eI x s.dC (min (s.aA+f7 x t) dV) a (s.out.length+1))⟩:=by
 have bb:=aaj;refine alq.Ie hN (by simp) λc9=>?_;have zV:b<N:=(c9 b _ hb).1;have LM:a<N:=(c9 a _ ha).1;have hba:b≠a:=λe=>ik e.symm;have nb:∀k,b≠N+k:=λk=>by omega
 have na:∀k,a≠N+k:=λk=>by omega
 obtain⟨m,out,c⟩:=s;obtain⟨h1,T5,h3,h4,h5⟩:=hs;have h2:out.length<=100000000:=zN T5 (by omega);simp only[qW,ee]at*
 have hI:dV=1099511627776:=rfl;rw[iK (by omega),iK (by omega)]at hc;obtain⟨q2,q3,q4⟩:=hc;have rr:=bA q2;have BT:f7 x t=x.insert.getD t default:=rfl;obtain⟨g,hg⟩:=aY (f7 x t);rw[hg]at BT q3 q4;rw[<-BT]at rr;rw[hg];have rr':DM.rowAt (au x.insert) (t:Int)=[ti g]:=rr;have q6:¬(x.insert.length:Int)<=t:=by omega
 have q7:¬(t:Int)<0:=by omega
 simp;apply aa.ai bb fw [0,1];simp[T8];apply aa.seq;refine aa.bL bb fw [(0,.ptr b 0),(1,.v (ti t)),(16,.v (.bool false))] ?_ ?_
 .simp[LO,hb,eI,q6,q7]
 refine aa.cond rfl (λaS=>by cases aS) (λaS=>?_);apply aa.skip;simp;apply aa.uG bb fw (rs:=OD) pV (by kernel_rfl) [0,1];simp[OD,A4 (x:=x) (m:=m) (c:=c) (v:=out.length) (l:=out) (a:=a),ik,h2,hb,ha];rw[fJ,fJ];refine aa.le (tC (x:=x) (m:=m) (c:=c) (v:=out.length+1) (aC:=au (out++[(t:Int)])) (l:=[(0,.ptr b 0),(1,.v (ti t))]) (bn:=N+3000) c9 zV LM ik (by omega) ?_ ?_ ?_ ?_) ?_
 .simp
 .simp[eI]
 .simp[ik,ha]
 .simp[eI]
 apply aa.ai bb fw [];simp[aft,eI,q2,rr'];refine⟨?_, ?_⟩
 .exact⟨c,g,⟨rfl,rfl⟩,⟨by omega,by omega⟩,by omega,by omega⟩
 refine aa.le (tC (x:=x) (m:=m) (c:=min (c+g) dV) (v:=out.length+1) (aC:=au (out++[(t:Int)])) (l:=[]) (bn:=N+4000) c9 zV LM ik (by omega) ?_ ?_ ?_ ?_) ?_
 .simp
 .simp[eI]
 .simp[ik,ha]
 .simp[eI]
 apply aa.ai bb fw [4];simp[afu];apply aa.ret;simp[dI,eI];rfl
def alr{b a:Nat}{x:Input}{s:ES}{t:Nat}{N:Nat}(hN:∀r,N<=r->f0 r=none)(hb:f0 b=some (eI x s.dC s.aA a s.out.length))(ha:f0 a=some (.bm s.out.length 3 1 (au s.out)))(ik:a≠b)
  (hs:BV x s) (hc:qW x s 4 t):
  ce ak 270 [.ptr b 0,.v (ti t)] f0 ⟨True,.v (.bool true),dx (dx f0 a (.bm (s.out.length+2) 3 1 (au (s.out++[(x.ag.getD (s.dC+1) default).kind,(x.ag.getD s.dC default).kind])))) b (eI x (s.dC+2) (min (s.aA+x.swap) dV) a (s.out.length+2))⟩:=by
 have bb:=aaj;refine als.Ie hN (by simp) λc9=>?_;have zV:b<N:=(c9 b _ hb).1;have LM:a<N:=(c9 a _ ha).1;have hba:b≠a:=λe=>ik e.symm;have nb:∀k,b≠N+k:=λk=>by omega
 have na:∀k,a≠N+k:=λk=>by omega
 obtain⟨m,out,c⟩:=s;obtain⟨h1,T5,h3,h4,h5⟩:=hs;have h2:out.length<=100000000:=zN T5 (by omega);simp only[qW,ee]at*
 have hI:dV=1099511627776:=rfl;rw[iK (by omega),iK (by omega),iK (by omega)]at hc;obtain⟨rfl,q2,q3,q4⟩:=hc;have q1:=jj q2;have q1':m<x.ag.length:=by omega
 have r1:=fg q1;have r2:=fg q1';obtain⟨⟨k1,rd1,dl1⟩,ec1⟩:=aY (x.ag.getD m default);obtain⟨⟨k2,rd2,dl2⟩,ec2⟩:=aY (x.ag.getD (m+1) default);rw[ec2]at r1;rw[ec1]at r2;rw[ec1,ec2];have r1':DM.rowAt (bd x.ag) ((m:Int)+1)=(⟨k2,rd2,dl2⟩:bB).enc:=by simpa using r1
 obtain⟨xt,tA⟩:=aY x.enc;have ov:T.agg [.sl (bd x.ag),.sl (au x.insert),ti x.swap]=xt:=tA;have Ox:xd xt=x:=by rw[<-tA];simp
 have oL:∃(x2:Input) (m2:Nat),(xt=x2.enc/\(m:Int)=m2)/\m2<=1000000/\x2.ag.length<=1000000:=⟨x,m,⟨tA.symm,rfl⟩,h1,h5⟩;have w1:IntKind.i64.wrap ((m:Int)+1)=(m:Int)+1:=av (by omega);have w2:IntKind.i64.wrap ((m:Int)+2)=((m+2:Nat):Int):=by rw[av (by omega)];omega
 have q5:(m:Int)+1<x.ag.length:=by omega
 have q6:0<=(m:Int)+1:=by omega
 simp;apply aa.ai bb fw [0,1];simp[T9];apply aa.seq;refine aa.bL bb fw [(0,.ptr b 0),(18,.v (.bool false))] ?_ ?_
 .simp[LP,hb,eI,ov,Ox,q2];exact oL
 refine aa.cond rfl (λaS=>by cases aS) (λaS=>?_);apply aa.skip;simp;refine aa.fR bb fw (rs:=OE) (.inr ⟨_,pV⟩) (by kernel_rfl) [0] ?_;have jZ:f0 b=some (.box [.v (.sl (bd x.ag)),.v (.sl (au x.insert)),.v (ti x.swap),.v (ti m),.aW a out.length,.v (ti c)]):=hb;have hk:=A4 (f:=dA [] f0) (t:=k2) (x:=x) (m:=m) (c:=c) (v:=out.length) (l:=out) (a:=a) hb ha ik;simp[OE,hk,h2,jZ,w1,r1',q5,q6,bB.enc];rw[fJ,fJ];refine aa.le (tC (x:=x) (m:=m) (c:=c) (v:=out.length+1) (aC:=au (out++[k2])) (l:=[(0,.ptr b 0)]) (bn:=N+3000) c9 zV LM ik (by omega) ?_ ?_ ?_ ?_) ?_
 .simp
 .simp[eI]
 .simp[ik,ha]
 .simp[eI]
 have Eu:dA [(b,eI x m c a (out.length+1)),(a,.bm (out.length+1) 3 1 (au (out++[k2])))] f0 b=some (.box [.v (.sl (bd x.ag)),.v (.sl (au x.insert)),.v (ti x.swap),.v (ti m),.aW a (out.length+1),.v (ti c)]):=by simp[eI]
 have hk:=A4 (f:=dA [(b,eI x m c a (out.length+1)),(a,.bm (out.length+1) 3 1 (au (out++[k2])))] f0) (t:=k1) (x:=x) (m:=m) (c:=c) (v:=out.length+1) (l:=out++[k2]) (a:=a) (b:=b) (by simp) (by simp[ik]) ik;obtain⟨F,hF⟩:=aY (dA [(b,eI x m c a (out.length+1)),(a,.bm (out.length+1) 3 1 (au (out++[k2])))] f0);rw[hF]at Eu hk;rw[hF];have atC:out.length+1<=100000000:=by omega
 refine aa.fR bb fw (rs:=OF) (.inr ⟨_,pV⟩) (by kernel_rfl) [0] ?_;simp[OF,hk,atC,Eu,r2,q1',bB.enc];rw[<-hF,fJ,fJ];refine aa.le (tC (x:=x) (m:=m) (c:=c) (v:=out.length+2) (aC:=au (out++[k2,k1])) (l:=[(0,.ptr b 0)]) (bn:=N+5000) c9 zV LM ik (by omega) ?_ ?_ ?_ ?_) ?_
 .simp
 .simp[eI]
 .simp[ik,ha]
 .simp[eI]
 apply aa.ai bb fw [0];simp[afv,eI,w2];refine aa.le (tC (x:=x) (m:=m+2) (c:=c) (v:=out.length+2) (aC:=au (out++[k2,k1])) (l:=[(0,.ptr b 0)]) (bn:=N+6000) c9 zV LM ik (by omega) ?_ ?_ ?_ ?_) ?_
 .simp
 .simp[eI]
 .simp[ik,ha]
 .simp[eI]
 apply aa.ai bb fw [];simp[afw,eI];refine⟨?_, ?_⟩
 .exact⟨c,x.swap,⟨rfl,rfl⟩,⟨by omega,by omega⟩,by omega,by omega⟩
 refine aa.le (tC (x:=x) (m:=m+2) (c:=min (c+x.swap) dV) (v:=out.length+2) (aC:=au (out++[k2,k1])) (l:=[]) (bn:=N+7000) c9 zV LM ik (by omega) ?_ ?_ ?_ ?_) ?_
 .simp
 .simp[eI]
 .simp[ik,ha]
 .simp[eI]
 apply aa.ai bb fw [4];simp[afx];apply aa.ret;simp[dI,eI];rfl
end
def fu(ab:bS)(b:Nat):Input×ES×Nat:=
 match ab b with
 |some (.box [.v (.sl c),.v (.sl i),.v (.int .i64 w),.v (.int .i64 m),.aW a _,.v (.int .i64 q)])=>
  (⟨kR c,eM i,w⟩,⟨m.toNat,(match ab a with|some (.bm _ _ _ aC)=>eM aC|_=>[]),q⟩,a)
 |_=>(⟨[],[],0⟩,⟨0,[],0⟩,0)
def OG{ab:bS}{b a:Nat}{x:Input}{s:ES}(h:ab b=some (eI x s.dC s.aA a s.out.length))(ha:ab a=some (nV s)):fu ab b=(x,s,a):=by
 simp only[fu,h,eI,ha,nV];simp
def kE(k:Nat):bW->bS->iw
 |[.ptr b 0,.v (.int .i64 t)],ab=>
  ⟨0<=t/\ab b=some (eI (fu ab b).1 (fu ab b).2.1.dC (fu ab b).2.1.aA (fu ab b).2.2 (fu ab b).2.1.out.length)/\ab (fu ab b).2.2=some (nV (fu ab b).2.1)/\(fu ab b).2.2≠b/\BV (fu ab b).1 (fu ab b).2.1/\qW (fu ab b).1 (fu ab b).2.1 k t.toNat,
   .v (.bool true),dx (dx ab (fu ab b).2.2 (nV (cj (fu ab b).1 (fu ab b).2.1 k t.toNat))) b (eI (fu ab b).1 (cj (fu ab b).1 (fu ab b).2.1 k t.toNat).dC (cj (fu ab b).1 (fu ab b).2.1 k t.toNat).aA (fu ab b).2.2 (cj (fu ab b).1 (fu ab b).2.1 k t.toNat).out.length)⟩
 |_,ab=>⟨False,.undef,ab⟩
def adW{ab:bS}{b a k t:Nat}{x:Input}{s:ES}(h:ab b=some (eI x s.dC s.aA a s.out.length))(ha:ab a=some (nV s))(ik:a≠b):
  kE k [.ptr b 0,.v (ti t)] ab=⟨BV x s/\qW x s k t,.v (.bool true),dx (dx ab a (nV (cj x s k t))) b (eI x (cj x s k t).dC (cj x s k t).aA a (cj x s k t).out.length)⟩:=by
 simp only[kE,OG h ha,h,ha,gN,iw.mk.injEq,ZI,Em,eq_iff_iff];simp[ik]
def zW{f k:Nat}(H:∀{f0:bS} {b a:Nat} {x:Input} {s:ES} {t:Nat} {N:Nat},(∀r,N<=r->f0 r=none)->f0 b=some (eI x s.dC s.aA a s.out.length)->f0 a=some (.bm s.out.length 3 1 (au s.out))->a≠b->BV x s->qW x s k t->
  ce ak f [.ptr b 0,.v (ti t)] f0 ⟨True,.v (.bool true),dx (dx f0 a (nV (cj x s k t))) b (eI x (cj x s k t).dC (cj x s k t).aA a (cj x s k t).out.length)⟩):
  ∀args ab,(kE k args ab).ok->(∀N,(∀r,N<=r->ab r=none)->ce ak f args ab (kE k args ab))/\∀r,ab r=none->(kE k args ab).ab r=none:=by
 intro args ab h;unfold kE at h⊢;split at h
 .rename_i aM b t;obtain⟨h1,hb,ha,ik,hs,hc⟩:=h;obtain⟨t,rfl⟩:=bX h1;refine⟨λN hN=>?_,λr hr=>?_⟩
  .exact ce.of (H hN hb ha ik hs hc) rfl rfl
  .simp only;have T4:r≠b:=λe=>by rw[e,hb]at hr;cases hr
   have sD:r≠(fu ab b).2.2:=λe=>by rw[e,ha]at hr;cases hr
   rw[A3 T4,A3 sD];exact hr
 .exact h.elim
def stE(x:Input)(s:ES)(o:Int×Int):ES:=cj x s o.1.toNat o.2.toNat
def sX(x:Input)(l:List (Int×Int)):ES:=l.foldl (stE x) ⟨0,[],0⟩
def Ri(x:Input){l:List (Int×Int)}{j:Nat}(h:j<l.length):sX x (l.take (j+1))=stE x (sX x (l.take j)) (l.getD j default):=by
 unfold sX;rw[OS,mM h,Zcn,uK];simp[List.getD,h]
section
variable{α:Type}{ts:aG}
def aeQ:Ty:=.int .i64
def SO:maxLen=9223372036854775807:=by decide
def aa3{enc:α->aG}{aC:List (aG)}(h:∀r∈aC,∃x,r=enc x):∃l:List α,aC=l.map enc:=by
 induction aC with
 |nil=>exact⟨[],rfl⟩
 |cons r aC ih=>
  obtain⟨x,rfl⟩:=h r (Iu ..);obtain⟨l,rfl⟩:=ih λr hr=>h r (Ib _ hr);exact⟨x::l,rfl⟩
def ml(h:Ty.CD (.int .i64) ts):∃x,ts=[ti x]:=by
 simp only[Ty.CD]at h;obtain⟨x,rfl,_⟩:=h;exact⟨x,rfl⟩
def yf{enc:α->aG}{e:Ty}(he:∀r,Ty.CD e r->∃x,r=enc x)(h:Ty.CD (.slice e) ts):∃l:List α,ts=[.sl (l.map enc)]/\l.length<=9223372036854775807:=by
 simp only[Ty.CD]at h;obtain⟨aC,rfl,hl,hr⟩:=h;obtain⟨l,rfl⟩:=aa3 λr nl=>he r (hr r nl);rw[SO,we]at hl;exact⟨l,rfl,hl⟩
def all_cons{t:Ty}{yW:List Ty}(h:Ty.kZ (t::yW) ts):∃a b,ts=a++b/\t.CD a/\Ty.kZ yW b:=by simpa only[Ty.kZ]using h
def all_nil(h:Ty.kZ [] ts):ts=[]:=by simpa only[Ty.kZ]using h
def XB{fs:List Ty}(h:Ty.CD (.seq fs) ts):Ty.kZ fs ts:=by simpa only[Ty.CD]using h
def aeR:Ty:=.seq [.int .i64,.slice aeQ,.int .i64]
def HM:Ty:=.seq [.slice aeR,.slice aeQ,.int .i64]
def ajw(h:aeR.CD ts):∃r:bB,ts=r.enc:=by
 obtain⟨_,_,rfl,h1,h⟩:=all_cons (XB h);obtain⟨_,_,rfl,h2,h⟩:=all_cons h;obtain⟨_,_,rfl,h3,h⟩:=all_cons h;obtain rfl:=all_nil h;obtain⟨a,rfl⟩:=ml h1;obtain⟨l,rfl,hl⟩:=yf (λr=>ml) h2;obtain⟨c,rfl⟩:=ml h3;exact⟨⟨a,l,c⟩,rfl⟩
def XC{x:T}(h:HM.arg x):∃l:Input,x=l.enc/\l.ag.length<=9223372036854775807/\l.insert.length<=9223372036854775807:=by
 unfold HM Ty.arg at h;obtain⟨ts,rfl,h⟩:=h;obtain⟨_,_,rfl,h1,h⟩:=all_cons h;obtain⟨_,_,rfl,h2,h⟩:=all_cons h;obtain⟨_,_,rfl,h3,h⟩:=all_cons h;obtain rfl:=all_nil h;obtain⟨l,rfl,hl⟩:=yf (λr=>ajw) h1;obtain⟨f,rfl,hf⟩:=yf (λr=>ml) h2;obtain⟨a,rfl⟩:=ml h3;exact⟨⟨l,f,a⟩,rfl,hl,hf⟩
end
section
variable{A:Nat}
def jq(x:Input)(y:ba)(i c:Nat):ba:=(List.range (y.length+1)).map λk=>if c<=k then ed x y i k else 0
def tz(x:Input)(y:ba)(i c:Nat):(jq x y i c).length=y.length+1:=by simp[jq]
def BL{x:Input}{y:ba}{i c k:Nat}(hk:k<=y.length)(hc:c<=k):(jq x y i c).getD k default=ed x y i k:=by
 simp[jq,List.getD,show k<y.length+1 by omega,hc]
def TO{x:Input}{y:ba}{i c:Nat}(hc:c<=y.length):(jq x y i (c+1)).set c (ed x y i c)=jq x y i c:=by
 apply Jc
 .simp[jq]
 .intro k k1 k2;rw[ZcL];simp only[jq,Lm,ZbX];split
  .rename_i e;subst e;rw[ee (gJ _)]
  .rename_i e;by_cases hk:c<=k
   .rw[ee (by omega),ee hk]
   .rw[iK (by omega),iK hk]
def Rc{x:Input}{y:ba}{i c:Nat}(hc:c=y.length+1):au (jq x y i c)=List.replicate c [ti 0]:=by
 subst hc;apply Jc
 .simp[jq]
 .intro k k1 k2;simp only[au,we,tz]at k1;simp only[au,jq,Lm,ZbX,List.getElem_replicate];rw[iK (by omega)]
def TP(x:Input)(y:ba)(h:ZL x):ed x y x.ag.length y.length=0:=by
 have h1:=EP h y _ x.ag.length y.length (TZ _);have h2:vY x y x.ag.length y.length 0=0:=by rw[TJ,ee ⟨rfl,rfl⟩]
 have h3:ed x y x.ag.length y.length=min (min (min (min (vY x y x.ag.length y.length 0) (qi x y x.ag.length y.length 1)) (qi x y x.ag.length y.length 2)) (qi x y x.ag.length y.length 3)) (qi x y x.ag.length y.length 4):=ID x y _ _;omega
def TQ{x:Input}{y:ba}(h:ZL x):jq x y x.ag.length (y.length+1)=jq x y x.ag.length y.length:=by
 unfold jq;apply ZbN;intro k hk;rw[I0]at hk;rw[iK (by omega)];split
 .rw[show k=y.length by omega,TP x y h]
 .rfl
def pU(x:Input)(y:ba)(i:Nat):bW:=(List.range (x.ag.length+1)).map λk=>if i<=k then .v (.sl (au (jq x y k 0)))else .aZ
def qj(x:Input)(y:ba)(q A:Nat):bW:=(List.range (x.ag.length+1)).map λk=>if k=q then .aW A 0 else if q<k then .v (.sl (au (jq x y k 0)))else .aZ
def TR(x:Input)(y:ba)(i:Nat):(pU x y i).length=x.ag.length+1:=by simp[pU]
def II(x:Input)(y:ba)(q A:Nat):(qj x y q A).length=x.ag.length+1:=by simp[qj]
def TS{x:Input}{y:ba}{c:Nat}(hc:x.ag.length+1=c):List.replicate c DV.aZ=pU x y c:=by
 apply Jc
 .simp[pU,hc]
 .intro k k1 k2;simp at k1;simp only[pU,Lm,ZbX,List.getElem_replicate];rw[iK (by omega)]
def aae{x:Input}{y:ba}{q:Nat}(hq:q<=x.ag.length):List.take q (pU x y (q+1))++DV.aW A 0::List.drop (q+1) (pU x y (q+1))=qj x y q A:=by
 apply Jc
 .simp[pU,qj];omega
 .intro k k1 k2;simp only[qj,we,ZbF]at k2;rw[List.getElem_append];split
  .rename_i h;simp[pU]at h;simp only[pU,qj,Zch,Lm,ZbX];rw[iK (by omega),iK (by omega),iK (by omega)]
  .rename_i h;simp[pU]at h;have Gk:min q (x.ag.length+1)=q:=by omega
   rw[List.getElem_cons];simp only[pU,qj,Ee,we,ZbF,Gk,Lm,ZbX,ZM];by_cases e:k=q
   .subst e;simp
   .rw[dif_neg (by omega),iK e,ee (by omega),ee (by omega)]
    congr 3
    simp only[jq];rw[show q+1+(k-q-1)=k by omega]
def Ov{x:Input}{y:ba}{q k:Nat}(hk:k<=x.ag.length):(qj x y q A)[k]?.getD DV.undef=if k=q then .aW A 0 else if q<k then .v (.sl (au (jq x y k 0)))else .aZ:=by
 simp[qj,show k<x.ag.length+1 by omega]
def K5{a b:bS}{σ:Nat->Nat}:∀{l l':bW},l.length=l'.length->(∀(k:Nat) (d d':DV),l[k]? =some d->l'[k]? =some d'->jJ a b σ d d')->kJ a b σ l l'
 |[],[],_,_=>by simp[kJ]
 |d::l,d'::l',hl,h=>by
  simp only[kJ];exact⟨h 0 d d' rfl rfl,K5 (by simpa using hl) λk e e' h1 h2=>h (k+1) e e' (by simpa using h1) (by simpa using h2)⟩
 |[],_::_,hl,_=>by simp at hl
 |_::_,[],hl,_=>by simp at hl
def Re{x:Input}{y:ba}{q:Nat}{a b:bS}(h:a A=some (.bm 0 3 1 (au (jq x y q 0))))(hg:gone b id A):kJ a b id (qj x y q A) (pU x y q):=by
 refine K5 (by simp[qj,pU]) λk d d' h1 h2=>?_;have hk:k<x.ag.length+1:=by
  have:=(tp.1 h1).1;simpa [qj]using this
 simp only[qj,pU,ZbH,Zdk hk,Rp,cq]at h1 h2;subst h1 h2;by_cases e:k=q
 .subst e;simp only[ee,gJ];simp only[jJ];right;exact⟨⟨3,1,h⟩,hg⟩
 .rw[iK e];by_cases e2:q<k
  .rw[ee e2,ee (by omega)];simp
  .rw[iK e2,iK (by omega)];simp
def Rf{x:Input}{y:ba}{i k:Nat}{a b:bS}{d:DV}(h:(pU x y i)[k]? =some d):jJ a b id d d:=by
 have hk:k<x.ag.length+1:=by
  have:=(tp.1 h).1;simpa [pU]using this
 simp only[pU,ZbH,Zdk hk,Rp,cq]at h;subst h;split<;>simp
def ou{x:Input}{y:ba}{q:Nat}{a b:bS}(h:(∃aC,a A=some (.bm 0 3 1 aC))/\∃aC,b A=some (.bm 0 3 1 aC)):kJ a b id (qj x y q A) (qj x y q A):=by
 refine K5 rfl λk d d' h1 h2=>?_;rw[h1]at h2;cases h2;have hk:k<x.ag.length+1:=by
  have:=(tp.1 h1).1;simpa [qj]using this
 simp only[qj,ZbH,Zdk hk,Rp,cq]at h1;subst h1;split
 .simp only[jJ];right;obtain⟨⟨r1,h1⟩,r2,h2⟩:=h;exact⟨rfl,3,1,r1,3,1,r2,h1,h2⟩
 .split<;>simp
def vt(x:Input)(y:ba):List (aG):=(List.range (x.ag.length+1)).map λk=>[.sl (au (jq x y k 0))]
def IK(x:Input)(y:ba):(vt x y).length=x.ag.length+1:=by simp[vt]
def TU(x:Input)(y:ba):pU x y 0=(vt x y).flatten.map DV.v:=by
 unfold pU vt;generalize List.range (x.ag.length+1)=l;induction l with
 |nil=>rfl
 |cons a l ih=>simp only[vG,Th,Lc,<-ih];simp
def Gl{x:Input}{y:ba}(hx:pu x y){i j:Nat}(hi:i<=x.ag.length)(hj:j<=y.length){s:qk}(hs:s∈ff x y i j):
  ∃a e:Nat,s.a=a/\s.e=e/\i+a<=x.ag.length/\j+e<=y.length/\(0<a\/(a=0/\0<e))/\0<=s.c/\s.c<=dV:=by
 unfold ff Ld Lf at hs;rw[lF,lF,lF]at hs;rcases hs with((hs|hs)|hs)|hs
 .unfold Es at hs;split at hs
  .rename_i hp;simp only[uy]at hs;subst hs;obtain⟨p1,p2,p3⟩:=hp;refine⟨1,1,rfl,rfl,by omega,by omega,.inl (by omega),p3, ?_⟩;have hy:=hx.y j p2;have hc:=hx.rd (x.ag.getD i default) (by simp[List.getD,p1]);exact hc.2 _ (bu (by rw[hc.1];omega))
  .simp at hs
 .unfold A2 at hs;split at hs
  .rename_i hp;simp only[uy]at hs;subst hs;exact⟨1,0,rfl,rfl,by omega,by omega,.inl (by omega),(hx.Ep i).1,(hx.Ep i).2⟩
  .simp at hs
 .unfold LB at hs;split at hs
  .rename_i hp;simp only[uy]at hs;subst hs;exact⟨0,1,rfl,rfl,by omega,by omega,.inr ⟨rfl,by omega⟩,(hx.dm _).1,(hx.dm _).2⟩
  .simp at hs
 .unfold Rg at hs;split at hs
  .rename_i hp;simp only[uy]at hs;subst hs;have:=jj hp.1;have:=hp.2.1;exact⟨2,2,rfl,rfl,by omega,by omega,.inl (by omega),hx.swap.1,hx.swap.2⟩
  .simp at hs
def mC(x:Input)(y:ba)(i j:Nat)(l:List qk):Int:=l.foldl (λb s=>min b (min (s.c+ed x y (i+s.a.toNat) (j+s.e.toNat)) dV)) dV
def vZ(x:Input)(y:ba)(i j:Nat)(l:List qk)(s:qk):mC x y i j (l++[s])=min (mC x y i j l) (min (s.c+ed x y (i+s.a.toNat) (j+s.e.toNat)) dV):=by simp[mC]
def hdV(x:Input)(y:ba)(i j:Nat):List qk->Int
 |[]=>dV
 |s::_=>min (s.c+ed x y (i+s.a.toNat) (j+s.e.toNat)) dV
def uD(x:Input)(y:ba)(i j:Nat)(l m:List qk)(hm:m=[]\/∃s,m=[s]):mC x y i j (l++m)=min (mC x y i j l) (hdV x y i j m):=by
 have atx:∀(l:List qk) (b:Int),b<=dV->l.foldl (λb s=>min b (min (s.c+ed x y (i+s.a.toNat) (j+s.e.toNat)) dV)) b<=dV:=by
  intro l;induction l with
  |nil=>intro b h;exact h
  |cons s l ih=>intro b h;exact ih _ (Int.le_trans (Int.min_le_left _ _) h)
 rcases hm with rfl|⟨s,rfl⟩
 .have:=atx l dV (Tg _);simp only[Ej,hdV];unfold mC;omega
 .exact vZ x y i j l s
def EU{x:Input}{y:ba}(hx:pu x y){i j:Nat}(h:¬(i=x.ag.length/\j=y.length)):mC x y i j (ff x y i j)=ed x y i j:=by
 have one:∀{p:Prop} [Decidable p] (s:qk),(if p then [s]else [])=[]\/∃t,(if p then [s]else [])=[t]:=by
  intro p _ s;split
  .exact .inr ⟨s,rfl⟩
  .exact .inl rfl
 have e:ed x y i j=min (min (min (min (vY x y i j 0) (qi x y i j 1)) (qi x y i j 2)) (qi x y i j 3)) (qi x y i j 4):=ID x y i j;rw[TJ,iK h]at e;unfold ff Ld Lf;have o1:Es x y i j=[]\/∃s,Es x y i j=[s]:=by unfold Es;exact one _
 have o2:A2 x i=[]\/∃s,A2 x i=[s]:=by unfold A2;exact one _
 have o3:LB x y j=[]\/∃s,LB x y j=[s]:=by unfold LB;exact one _
 have o4:Rg x y i j=[]\/∃s,Rg x y i j=[s]:=by unfold Rg;exact one _
 rw[uD _ _ _ _ _ _ o4,uD _ _ _ _ _ _ o3,uD _ _ _ _ _ _ o2,<-List.nil_append (Es x y i j),uD _ _ _ _ _ _ o1,e];have e0:mC x y i j []=dV:=rfl;rw[e0];have v1:hdV x y i j (Es x y i j)=qi x y i j 1:=by
  rw[TF];unfold Es;split<;>rfl
 have v2:hdV x y i j (A2 x i)=qi x y i j 2:=by
  rw[TG];unfold A2;by_cases q:i<x.ag.length
  .by_cases q2:eL x i<dV
   .rw[ee ⟨q,q2⟩,ee q];rfl
   .rw[iK (λh=>q2 h.2),ee q];have:=(hx.IG (i+1) j).1;simp only[hdV];omega
  .rw[iK (λh=>q h.1),iK q];rfl
 have v3:hdV x y i j (LB x y j)=qi x y i j 3:=by
  rw[TH];unfold LB;split<;>rfl
 have v4:hdV x y i j (Rg x y i j)=qi x y i j 4:=by
  rw[TI];unfold Rg;split<;>rfl
 rw[v1,v2,v3,v4]
abbrev e56:DM.Spec:=bp (λts=>∃(x:Input) (y:ba) (i j:Nat),ts=[x.enc,.sl (au y),ti i,ti j]/\pu x y/\i<=x.ag.length/\j<=y.length)
 (fun|[x,.sl y,.int _ i,.int _ j]=>.sl (dL (ff (xd x) (eM y) i.toNat j.toNat))|_=>.bool false) false
def akZ:aw ak (bz [(168,e56),(169,e72)]):=by
 refine aw.cons (aw.cons aw.nil ?_) ?_
 .rintro ts ⟨a,b,rfl,h1,h2⟩;exact⟨by simpa using t57 a b h1 h2,λ_=>rfl⟩
 .rintro ts ⟨x,y,i,j,rfl,h1,h2,h3⟩;exact⟨by simpa using t56 x y i j h1 h2 h3,λh=>by cases h⟩
def zU(x:Input)(y:ba)(hx:pu x y){i j:Nat}(hi:i<=x.ag.length)(hj:j<=y.length):∀l:Nat,0<=mC x y i j ((ff x y i j).take l)/\mC x y i j ((ff x y i j).take l)<=dV
 |0=>by simp[mC,dV]
 |l+1=>by
  have ih:=zU x y hx hi hj l;rw[OS];cases h:(ff x y i j)[l]? with
  |none=>simpa using ih
  |some s=>
   simp only[Zcn];rw[vZ];obtain⟨a,e,_,_,_,_,_,h1,h2⟩:=Gl hx hi hj (Hf h);have:=(hx.IG (i+s.a.toNat) (j+s.e.toNat)).1;simp only[dV]at*
   omega
def t44(x:Input)(y:ba)(hx:pu x y):aJ ak 167 [x.enc,.sl (au y)] (.sl (vt x y)):=by
 have bb:=akZ;have hI:dV=1099511627776:=rfl;have hn:=hx.n;have hm:=hx.m;refine c44.ok (by simp) (aH ?_);simp[Input.enc];apply aa.ai bb fw [1,2];simp[IL];refine aa.lk (o:=[]) (l:=[(1,.v (.sl (au y))),(2,.v (.box [.sl (bd x.ag),.sl (au x.insert),ti x.swap]))]) (bn:=1200) (by simp) ?_;obtain⟨n,hnn⟩:=aY x.ag.length;obtain⟨m,IM⟩:=aY y.length;apply aa.ai bb fw [1,2,5,6];simp[IN,hnn,IM];obtain⟨n1,hn1⟩:=aY (n+1);have w2:IntKind.i64.wrap ((n:Int)+1)=(n1:Int):=by rw[<-hn1];exact_mod_cast ET (n:=n+1) (by omega)
 have hbt:=TS (x:=x) (y:=y) (c:=n1) (by rw[hnn,hn1]);refine aa.fR bb fw (rs:=TV) (.inr ⟨_,pV⟩) (by kernel_rfl) [1,2,5,6,7] ?_;simp[TV,w2,cw,hbt];refine⟨⟨by omega,by omega⟩, ?_⟩;apply aa.sq bb fw [1,2,5,6,7,8];simp[IP];apply aa.block;refine aa.loop (λi:Nat=>⟨DM.look [(1,.v (.sl (au y))),(2,.v (.box [.sl (bd x.ag),.sl (au x.insert),ti x.swap])),(5,.v (ti n)),(6,.v (ti m)),(7,.AH 1304 n1),(8,.v (ti ((i:Int)-1)))],cR [(1304,.box (pU x y i))],2000,1000,[]⟩)
  (λi=>i<=n1) (λi=>i) n1 (Le.aL ?_ ?_ ?_ ?_) (by simp) (λi hi=>?_)
 .simp
 .simp
 .simp[-jx,gK];exact K5 rfl λk d d' h1 h2=>by rw[h1]at h2;cases h2;exact Rf h1
 .simp;omega
 apply aa.sq bb fw [1,2,5,6,7,8,23];simp[IQ];refine aa.cond rfl (λaS=>?_) (λaS=>?_)
 .simp at aS;obtain⟨q,rfl⟩:∃q,i=q+1:=⟨i-1,by omega⟩;have hqn:q<=n:=by omega
  apply aa.skip;simp;apply aa.seq;apply aa.block;have w3:IntKind.i64.wrap ((m:Int)+1)=((m+1:Nat):Int):=by exact_mod_cast ET (n:=m+1) (by omega)
  have hbe:=aae (x:=x) (y:=y) (q:=q) (A:=2114) (by omega);have Zw:=TR x y (q+1);rw[hnn]at Zw;have hrz:=Rc (x:=x) (y:=y) (i:=q) (c:=m+1) (by omega);have aty:q<n1:=by omega
  apply aa.ai bb fw [1,2,5,6,7,8];simp[BO,w3,cw,hbe,Zw,aty,hqn];refine⟨⟨by omega,by omega,by omega⟩, ?_⟩;apply aa.ai bb fw [1,2,5,6,7,8,9];simp[IR];apply aa.block;refine aa.loop (λj:Nat=>⟨DM.look [(1,.v (.sl (au y))),(2,.v (.box [.sl (bd x.ag),.sl (au x.insert),ti x.swap])),(5,.v (ti n)),(6,.v (ti m)),(7,.AH 1304 n1),(8,.v (ti q)),(9,.v (ti ((j:Int)-1)))],cR [(1304,.box (qj x y q 2114)),(2114,.bm 0 3 1 (au (jq x y q j)))],3000,1000,[]⟩)
   (λj=>j<=m+1) (λj=>j) (m+1) (Le.aL ?_ ?_ ?_ ?_) (by simp) (λj hj=>?_)
  .simp
  .simp
  .simp[-jx,gK,hrz,jk];exact ou (by simp)
  .simp
  apply aa.sq bb fw [1,2,5,6,7,8,9,34];simp[IS];refine aa.cond rfl (λaS=>?_) (λaS=>?_)
  .simp at aS;obtain⟨r,rfl⟩:∃r,j=r+1:=⟨j-1,by omega⟩;have hrm:r<=m:=by omega
   apply aa.skip;simp;apply aa.seq;apply aa.block;apply aa.seq;refine aa.bL bb fw [(1,.v (.sl (au y))),(2,.v (.box [.sl (bd x.ag),.sl (au x.insert),ti x.swap])),(5,.v (ti n)),(6,.v (ti m)),(7,.AH 1304 n1),(8,.v (ti q)),(9,.v (ti r)),(44,.v (.bool (decide (q=n/\r=m))))] ?_ ?_
   .by_cases q1:q=n
    .by_cases q2:r=m
     .simp[BP,q1,q2]
     .have TW:¬(r:Int)=m:=by omega
      simp[BP,q1,q2,TW]
    .have q1':¬(q:Int)=n:=by omega
     simp[BP,q1,q1']
   refine aa.cond rfl (λh8=>?_) (λh8=>?_)
   .simp only[yN]at h8;obtain⟨rfl,rfl⟩:=h8;have hrw:jq x y q (r+1)=jq x y q r:=by rw[<-hnn,<-IM];exact TQ hx.nn
    apply aa.exit;simp;apply aa.cZ bb fw [1,2,5,6,7,8,9];simp[Gm];rw[av (by omega)];refine⟨r,Le.aL ?_ ?_ ?_ ?_,by omega,by omega⟩
    .simp
    .simp
    .simp[-jx,gK,jk,hrw];exact ou (by simp)
    .simp
   .simp only[mD]at h8;apply aa.skip;simp;apply aa.ai bb fw [1,2,5,6,7,8,9,10];simp[TX];apply aa.seq;obtain⟨xt,tA⟩:=aY x.enc;have ov:T.agg [.sl (bd x.ag),.sl (au x.insert),ti x.swap]=xt:=tA;have Ox:xd xt=x:=by rw[<-tA];simp
    obtain⟨L,hLL⟩:=aY (ff x y q r);have hL4:=BQ x y q r;rw[hLL]at hL4;have oL:∃(x2:Input) (y2:ba) (i j:Nat),(xt=x2.enc/\au y=au y2/\(q:Int)=i/\(r:Int)=j)/\pu x2 y2/\i<=x2.ag.length/\j<=y2.length:=⟨x,y,q,r,⟨tA.symm,rfl,rfl,rfl⟩,hx,by omega,by omega⟩;apply aa.ai bb fw [1,2,5,6,7,8,9,10,49,50,51];simp[LC,ov,Ox,hLL];refine⟨oL, ?_⟩;apply aa.block;refine aa.loop (λl:Nat=>⟨DM.look [(1,.v (.sl (au y))),(2,.v (.box [.sl (bd x.ag),.sl (au x.insert),ti x.swap])),(5,.v (ti n)),(6,.v (ti m)),(7,.AH 1304 n1),(8,.v (ti q)),(9,.v (ti r)),(10,.v (ti (mC x y q r (L.take l)))),(49,.v (.sl (dL L))),(50,.v (ti L.length)),(51,.v (ti l))],cR [(1304,.box (qj x y q 2114)),(2114,.bm 0 3 1 (au (jq x y q (r+1))))],4000,1000,[]⟩)
     (λl=>l<=L.length) (λl=>L.length-l) 0 (Le.aL ?_ ?_ ?_ ?_) (by simp) (λl hl=>?_)
    .simp
    .simp
    .simp[-jx,gK,jk];exact ou (by simp)
    .simp[mC]
    apply aa.ai bb fw [1,2,5,6,7,8,9,10,49,50,51,52];simp[LD];apply aa.seq;refine aa.cond rfl (λaS=>?_) (λaS=>?_)
    .simp at aS;have r1:=LF aS;obtain⟨s,hs⟩:=aY (L.getD l default);rw[hs]at r1;have pq:L[l]? =some s:=by rw[<-hs];simp[List.getD,aS]
     obtain⟨a,e,ha,he,hia,hje,hae,Er,bN⟩:=Gl hx (i:=q) (j:=r) (by omega) (by omega) (s:=s) (by rw[hLL];exact Hf pq);have ZN:mC x y q r (L.take (l+1))=min (mC x y q r (L.take l)) (min (s.c+ed x y (q+a) (r+e)) dV):=by
      rw[OS,pq,Zcn,vZ,ha,he,gN,gN]
     obtain⟨sk,st,sc,sa,se⟩:=s;simp only at ha he Er bN ZN;subst ha he;apply aa.skip;simp;apply aa.seq;apply aa.block;apply aa.ai bb fw [1,2,5,6,7,8,9,10,12,49,50,51];simp[LG,r1,aS,qk.enc];refine aa.le (Le.aL (o:=[(1304,.box (qj x y q 2114)),(2114,.bm 0 3 1 (au (jq x y q (r+1))))]) (l:=[(1,.v (.sl (au y))),(2,.v (.box [.sl (bd x.ag),.sl (au x.insert),ti x.swap])),(5,.v (ti n)),(6,.v (ti m)),(7,.AH 1304 n1),(8,.v (ti q)),(9,.v (ti r)),(10,.v (ti (mC x y q r (L.take l)))),(12,.v (.box [ti sk,ti st,ti sc,ti a,ti e])),(49,.v (.sl (dL L))),(50,.v (ti L.length)),(51,.v (ti l))]) (bn:=5000) ?_ ?_ ?_ ?_) ?_
     .simp
     .simp
     .simp[-jx,gK,jk];exact ou (by simp)
     .simp
     obtain⟨q2,ZO⟩:=aY (q+a);obtain⟨r2,qd⟩:=aY (r+e);rw[ZO]at hia ZN;rw[qd]at hje ZN;have w4:IntKind.i64.wrap ((q:Int)+(a:Int))=(q2:Int):=by rw[<-ZO];exact_mod_cast ET (n:=q+a) (by omega)
     have w5:IntKind.i64.wrap ((r:Int)+(e:Int))=(r2:Int):=by rw[<-qd];exact_mod_cast ET (n:=r+e) (by omega)
     have LH:=Ov (x:=x) (y:=y) (q:=q) (A:=2114) (k:=q2) (by omega);have Rh:=II x y q 2114;rw[hnn]at Rh;have aaf:q2<n1:=by omega
     have adU:q2<=n:=by omega
     have hfb:=zU x y hx (i:=q) (j:=r) (by omega) (by omega) l;rw[hLL]at hfb;have heb:=hx.IG q2 r2;have qU:=tz x y q (r+1);have ak0:=tz x y q2 0;obtain⟨ev,ZK⟩:=aY (ed x y q2 r2);rw[ZK]at heb ZN;refine aa.qV bb fw [(1,.v (.sl (au y))),(2,.v (.box [.sl (bd x.ag),.sl (au x.insert),ti x.swap])),(5,.v (ti n)),(6,.v (ti m)),(7,.AH 1304 n1),(8,.v (ti q)),(9,.v (ti r)),(10,.v (ti (mC x y q r (L.take (l+1))))),(49,.v (.sl (dL L))),(50,.v (ti L.length)),(51,.v (ti l))] ?_ ?_
     .rw[ZN];by_cases TY:q2=q
      .have afh:=BL (x:=x) (y:=y) (i:=q) (c:=r+1) (k:=r2) (by omega) (by omega);have sD:=bA (l:=jq x y q (r+1)) (y:=r2) (by rw[qU];omega);rw[afh,<-TY,ZK]at sD;rw[ee TY]at LH;subst TY;simp[Gn,w4,w5,LH,Rh,aaf,adU,qU,sD];exact⟨by omega,_,_,⟨rfl,rfl⟩,by omega,by omega⟩
      .rw[iK TY,ee (by omega)]at LH;have afh:=BL (x:=x) (y:=y) (i:=q2) (c:=0) (k:=r2) (by omega) (by omega);have sD:=bA (l:=jq x y q2 0) (y:=r2) (by rw[ak0];omega);rw[afh,ZK]at sD;simp[Gn,w4,w5,LH,Rh,aaf,adU,ak0,sD];exact⟨by omega,_,_,⟨rfl,rfl⟩,by omega,by omega⟩
     apply aa.cZ bb fw [1,2,5,6,7,8,9,10,49,50,51];simp[LI];rw[av (by omega)];refine⟨l+1,Le.aL ?_ ?_ ?_ ?_,by omega,by omega⟩
     .simp
     .simp
     .simp[-jx,gK,jk];exact ou (by simp)
     .simp[ZN]
    .simp at aS;apply aa.exit;simp;have hl:l=L.length:=by omega
     subst hl;rw[uJ,<-hLL,EU hx (by omega)];have LH:=Ov (x:=x) (y:=y) (q:=q) (A:=2114) (k:=q) (by omega);rw[ee rfl]at LH;have Rh:=II x y q 2114;rw[hnn]at Rh;have aaf:q<n1:=by omega
     have qU:=tz x y q (r+1);have sD:=bA (l:=jq x y q (r+1)) (y:=r) (by rw[qU];omega);have hrw:=TO (x:=x) (y:=y) (i:=q) (c:=r) (by omega);apply aa.cZ bb fw [1,2,5,6,7,8,9];simp[LJ,LH,Rh,aaf,hqn,qU,sD,show r<y.length+1 by omega];refine⟨by omega, ?_⟩;apply aa.cZ bb fw [1,2,5,6,7,8,9];simp[Gm];rw[av (by omega)];refine⟨r,Le.aL ?_ ?_ ?_ ?_,by omega,by omega⟩
     .simp
     .simp
     .simp[-jx,gK,jk,BR,hrw];exact ou (by simp)
     .simp
  .simp at aS;have hj0:j=0:=by omega
   subst hj0;apply aa.exit;simp;apply aa.cZ bb fw [1,2,5,6,7,8];simp[LK];rw[av (by omega)];refine⟨q,Le.aL ?_ ?_ ?_ ?_,by omega,by omega⟩
   .simp
   .simp
   .simp[-jx,gK];exact Re (by simp) (by intro r hr;simp[tB]at hr;simp;omega)
   .simp
 .simp at aS;have hi0:i=0:=by omega
  subst hi0;apply aa.exit;simp;rw[TU];refine aa.le (Le.aL (o:=[]) (l:=[(7,.v (.sl (vt x y)))]) (bn:=6000) ?_ ?_ ?_ ?_) ?_;iterate 3(·simp)
  .simp;exact⟨by rw[IK];omega,1,λr hr=>by obtain⟨k,_,rfl⟩:=sE.1 hr;rfl⟩
  apply aa.ai bb fw [4];simp[LL];apply aa.ret;simp[mN]
end
namespace aT
structure bC where
 (kind head a b bi origin:Int)
 deriving DecidableEq,Inhabited
structure ay where
 (aX an start:Int)
 aj:List bC
structure cX where
 (aA size:Int)
 deriving DecidableEq,Inhabited
structure Cell where
 (aA size wQ arg:Int)
 deriving DecidableEq,Inhabited
structure bI where
 (an bf:Int)
 cells:List Cell
abbrev Cell.val(c:Cell):cX:=⟨c.aA,c.size⟩
def J2:aw ak (bz []):=aw.nil
def bC.enc(r:bC):aG:=[ti r.kind,ti r.head,ti r.a,ti r.b,ti r.bi,ti r.origin]
def aQ(l:List bC):List (aG):=l.map bC.enc
def ay.enc(n:ay):T:=.agg [ti n.aX,ti n.an,ti n.start,.sl (aQ n.aj)]
def cU(l:List cX):List (aG):=l.map λv=>[ti v.aA,ti v.size]
def Cell.enc(c:Cell):aG:=[ti c.aA,ti c.size,ti c.wQ,ti c.arg]
def bl(l:List Cell):List (aG):=l.map Cell.enc
def bI.enc(c:bI):T:=.agg [ti c.an,ti c.bf,.sl (bl c.cells)]
def mJ:aG->bC
 |[a,b,c,d,e,f]=>⟨dg a,dg b,dg c,dg d,dg e,dg f⟩
 |_=>default
def kP(l:List (aG)):List bC:=l.map mJ
def yq(l:List (aG)):List cX:=l.map fun|[a,b]=>⟨dg a,dg b⟩|_=>default
def Hn:aG->Cell
 |[a,b,c,d]=>⟨dg a,dg b,dg c,dg d⟩
 |_=>default
def mg(l:List (aG)):List Cell:=l.map Hn
def mt:T->ay
 |.agg [a,b,c,.sl r]=>⟨dg a,dg b,dg c,kP r⟩
 |_=>⟨0,0,0,[]⟩
def ZA:T->bI
 |.agg [a,b,.sl r]=>⟨dg a,dg b,mg r⟩
 |_=>⟨0,0,[]⟩
@[simp] def Aw(r:bC):mJ r.enc=r:=by simp[mJ,bC.enc,dg]
@[simp] def Ho(l:List bC):kP (aQ l)=l:=ja Aw l
@[simp] def ael(l:List cX):yq (cU l)=l:=ja (λ_=>rfl) l
@[simp] def J3(r:Cell):Hn r.enc=r:=by simp[Hn,Cell.enc,dg]
@[simp] def aaO(l:List Cell):mg (bl l)=l:=ja J3 l
@[simp] def Sq(a b c:Int)(l:List bC):mt (.agg [ti a,ti b,ti c,.sl (aQ l)])=⟨a,b,c,l⟩:=by simp[mt,dg]
@[simp] def Wa(n:ay):mt n.enc=n:=by simp[ay.enc]
@[simp] def akH(a b:Int)(l:List Cell):ZA (.agg [ti a,ti b,.sl (bl l)])=⟨a,b,l⟩:=by simp[ZA,dg]
@[simp] def aoz(n:bI):ZA n.enc=n:=by simp[bI.enc]
@[simp] def agJ(l:List bC):(aQ l).length=l.length:=by simp[aQ]
@[simp] def akI(l:List cX):(cU l).length=l.length:=by simp[cU]
@[simp] def agK(l:List Cell):(bl l).length=l.length:=by simp[bl]
def fE{l:List bC}{y:Nat}(h:y<l.length):DM.rowAt (aQ l) y=(l.getD y default).enc:=by simp[DM.rowAt,aQ,h]
def jU{l:List cX}{y:Nat}(h:y<l.length):DM.rowAt (cU l) y=[ti (l.getD y default).aA,ti (l.getD y default).size]:=by simp[DM.rowAt,cU,h]
def iQ{l:List Cell}{y:Nat}(h:y<l.length):DM.rowAt (bl l) y=(l.getD y default).enc:=by simp[DM.rowAt,bl,h]
@[simp] def Sr:cU []=[]:=rfl
@[simp] def agL:bl []=[]:=rfl
def bu{α:Type} [Inhabited α]{l:List α}{i:Nat}(h:i<l.length):l.getD i default∈l:=by simp[List.getD,h]
def cX.lt(a b:cX):Prop:=a.aA<b.aA\/(a.aA=b.aA/\a.size<b.size)
instance(a b:cX):Decidable (a.lt b):=by unfold cX.lt;infer_instance
def t92(u v:cX):aJ ak 129 [.agg [ti u.aA,ti u.size],.agg [ti v.aA,ti v.size]] (.bool (decide (u.lt v))):=by
 obtain⟨a,b⟩:=u;obtain⟨c,d⟩:=v;obtain⟨c1,bN⟩:=aY (decide ((⟨a,b⟩:cX).lt ⟨c,d⟩):Bool);rw[bN];simp only[cX.lt]at bN;have bb:=J2;refine c92.ok (by simp) (aH ?_);simp;apply aa.ai bb fw [2,3];simp[amD];refine aa.lk (o:=[]) (l:=[(2,.v (.box [ti a,ti b])),(3,.v (.box [ti c,ti d]))]) (bn:=1200) (by simp) ?_;refine aa.bL bb fw [(4,.v (.bool c1))] ?_ ?_
 .by_cases q1:a<c
  .have:c1=true:=by rw[<-bN];simp[q1]
   simp[Pk,q1,this]
  .by_cases q2:a=c
   .subst q2;by_cases q3:b<d
    .have:c1=true:=by rw[<-bN];simp[q3]
     simp[Pk,q3,this]
    .have:c1=false:=by rw[<-bN];simp[q3]
     simp[Pk,q3,this]
   .have:c1=false:=by rw[<-bN];simp[q1,q2]
    simp[Pk,q1,q2,this]
 apply aa.ret;simp[dI]
def dR:Int->Int->List cX->cX
 |c,s,[]=>⟨c,s⟩
 |c,s,v::l=>dR (min (c+v.aA) 1099511627776) (min (s+v.size) 1099511627776) l
def gv(c:Int)(l:List cX):cX:=if(dR c 1 l).aA>=1099511627776 then⟨1099511627776,0⟩else dR c 1 l
def Dj(c s:Int)(l:List cX)(v:cX):dR c s (l++[v])=⟨min ((dR c s l).aA+v.aA) 1099511627776,min ((dR c s l).size+v.size) 1099511627776⟩:=by
 induction l generalizing c s with
 |nil=>rfl
 |cons x l ih=>simp only[IW,dR,ih]
def mG(v:cX):Prop:=0<=v.aA/\v.aA<=1099511627776/\0<=v.size/\v.size<=1099511627776
def uj{l:List cX}(h:∀v∈l,mG v):∀{c s:Int},0<=c->c<=4000000000000->0<=s->s<=1099511627776->0<=(dR c s l).aA/\(dR c s l).aA<=4000000000000/\0<=(dR c s l).size/\(dR c s l).size<=1099511627776:=by
 induction l with
 |nil=>intro c s h1 h2 h3 h4;exact⟨h1,h2,h3,h4⟩
 |cons x l ih=>
  intro c s h1 h2 h3 h4;obtain⟨g1,g2,g3,g4⟩:=h x (by simp);exact ih (λv hv=>h v (by simp[hv])) (by omega) (by omega) (by omega) (by omega)
def iv{c:Int}{l:List cX}(h:∀v∈l,mG v)(h1:0<=c)(h2:c<=4000000000000):mG (gv c l):=by
 have:=uj (c:=c) (s:=1) h h1 h2 (by omega) (by omega);unfold gv mG;split
 .simp
 .omega
def dH{α:Type} [Inhabited α]{l:List α}{i:Nat}(h:i<l.length):l.take (i+1)=l.take i++[l.getD i default]:=by
 rw[OS,mM h];simp[List.getD,h]
def t69(c:Int)(l:List cX)(h:∀v∈l,mG v)(h1:0<=c)(h2:c<=4000000000000)(h3:l.length<=1000000):aJ ak 127 [ti c,.sl (cU l)] (.agg [ti (gv c l).aA,ti (gv c l).size]):=by
 have bb:=J2;refine c69.ok (by simp) (aH ?_);simp;apply aa.ai bb fw [0,1,4];simp[amE];apply aa.ai bb fw [1,4,5,6];simp[amF];apply aa.sq bb fw [1,4,5,6,7];simp[amG];apply aa.block;refine aa.loop (λy:Nat=>⟨DM.look [(1,.v (.sl (cU l))),(4,.ptr 1005 0),(5,.v (ti (dR c 1 (l.take y)).aA)),(6,.v (ti (dR c 1 (l.take y)).size)),(7,.v (ti y))],cR [(1005,.box [.v (ti 0),.v (ti 0)])],2000,1000,[]⟩)
  (λy=>y<=l.length) (λy=>l.length-y) 0 (Le.aL ?_ ?_ ?_ ?_) (by simp) (λy hy=>?_)
 iterate 3(·simp)
 .simp[dR]
 apply aa.sq bb fw [1,4,5,6,7,12];simp[amH];refine aa.cond rfl (λaS=>?_) (λaS=>?_)
 .have aS:y<l.length:=by simpa using aS
  apply aa.skip;simp;apply aa.seq;apply aa.block;have rv:=jU aS;obtain⟨v,hv⟩:=aY (l.getD y default);rw[hv]at rv;have hov:=h v (by rw[<-hv];exact bu aS);obtain⟨o1,o2,o3,o4⟩:=hov;obtain⟨b1,b2,b3,b4⟩:=uj (c:=c) (s:=1) (l:=l.take y) (λv hv=>h v (yS hv)) h1 h2 (by omega) (by omega);apply aa.cZ bb fw [1,4,5,6,7];simp[amI,aS,rv];apply aa.cZ bb fw [1,4,5,6,7];simp[amJ];rw[av (by omega),av (by omega),av (by omega)];refine⟨y+1,Le.aL ?_ ?_ ?_ ?_,by omega,by omega⟩;iterate 3(·simp)
  .simp[dH aS,Dj,-List.getD_eq_getElem?_getD,hv]
 .have fI:y=l.length:=by simp at aS;omega
  subst fI;rw[uJ];apply aa.exit;simp;apply aa.sq bb fw [4,5,6,32];simp[amK];refine aa.cond rfl (λh7=>?_) (λh7=>?_)
  .have h7:(dR c 1 l).aA>=1099511627776:=by simpa using h7
   apply aa.ai bb fw [4];simp[amL];apply aa.ret;simp[MN,gv,h7]
  .have h7:¬(dR c 1 l).aA>=1099511627776:=by simpa using h7
   apply aa.skip;simp;apply aa.ai bb fw [4];simp[amM];apply aa.ret;simp[MN,gv,h7]
def vD:Cell:=⟨1099511627776,0,-1,0⟩
def pj(n s:Int):Int:=n*s*(s+1)/2
def g9{a b A B:Int}(h1:0<=a)(h2:a<=A)(h3:0<=b)(h4:b<=B):0<=a*b/\a*b<=A*B:=by
 refine⟨Zc5 h1 h3, ?_⟩;exact Int.mul_le_mul h2 h4 h3 (by omega)
def pre(st:Int):Nat->Int
 |0=>0
 |n+1=>pre st n+st-n
def d5{st:Int}(h:st<=1000):∀n:Nat,(n:Int)<=st->0<=pre st n/\pre st n<=1000*n
 |0,_=>by simp[pre]
 |n+1,hn=>by
  have:=d5 h n (by omega);simp only[pre];omega
def dO(n st:Int)(f t:Nat):Int:=(pre st f+t-f)*n
def eZ(a:Cell)(v:cX)(r g:Int):Cell:=if v.aA>=1099511627776 then a else if v.lt a.val\/(v=a.val/\(r<a.wQ\/(r=a.wQ/\g<a.arg)))then⟨v.aA,v.size,r,g⟩else a
abbrev s92:DM.Spec:=bp (λts=>∃a b c d,ts=[.agg [ti a,ti b],.agg [ti c,ti d]]) (fun|[.agg [.int _ a,.int _ b],.agg [.int _ c,.int _ d]]=>.bool (decide ((⟨a,b⟩:cX).lt ⟨c,d⟩))|_=>.bool false) true
@[simp] def MY{a b:List bC}:aQ a=aQ b↔a=b:=⟨λh=>by have:=congrArg kP h;simpa using this,λh=>by rw[h]⟩
@[simp] def zd{a b:List cX}:cU a=cU b↔a=b:=⟨λh=>by have:=congrArg yq h;simpa using this,λh=>by rw[h]⟩
@[simp] def agM{a b:List Cell}:bl a=bl b↔a=b:=⟨λh=>by have:=congrArg mg h;simpa using this,λh=>by rw[h]⟩
@[simp] def FD{a b:ba}:au a=au b↔a=b:=⟨λh=>by have:=congrArg eM h;simpa using this,λh=>by rw[h]⟩
@[simp] def akJ{a b:List bF}:bq a=bq b↔a=b:=⟨λh=>by have:=congrArg Bq h;simpa using this,λh=>by rw[h]⟩
@[simp] def aoA{a b:List (Int×Int)}:ca a=ca b↔a=b:=⟨λh=>by have:=congrArg v6 h;simpa using this,λh=>by rw[h]⟩
@[simp] def akK{a b:List bB}:bd a=bd b↔a=b:=⟨λh=>by have:=congrArg kR h;simpa using this,λh=>by rw[h]⟩
@[simp] def Ss{l:List cX}:[]=cU l↔l=[]:=by rw[<-Sr,zd];exact eq_comm
@[simp] def akL{a b:Int}{l:List cX}:[[ti a,ti b]]=cU l↔l=[⟨a,b⟩]:=by rw[show [[ti a,ti b]]=cU [⟨a,b⟩]from rfl,zd];exact eq_comm
@[simp] def akM{a b c d:Int}{l:List cX}:[[ti a,ti b],[ti c,ti d]]=cU l↔l=[⟨a,b⟩,⟨c,d⟩]:=by rw[show [[ti a,ti b],[ti c,ti d]]=cU [⟨a,b⟩,⟨c,d⟩]from rfl,zd];exact eq_comm
@[simp] def aem:yq []=[]:=rfl
@[simp] def aen{a b:Int}:yq [[ti a,ti b]]=[⟨a,b⟩]:=rfl
@[simp] def aeo{a b c d:Int}:yq [[ti a,ti b],[ti c,ti d]]=[⟨a,b⟩,⟨c,d⟩]:=rfl
def gp(c:bI)(h f t:Int):Cell:=
 if h<0\/h>=c.an\/f<0\/t<f\/t>=c.bf then vD else c.cells.getD (dO c.an c.bf f.toNat t.toNat+h).toNat vD
def JT(c:bI):Prop:=0<=c.an/\c.an<=1000/\0<=c.bf/\c.bf<=1000/\c.cells.length<=1000000000000/\∀x∈c.cells,mG x.val
def J4:mG vD.val:=by simp[mG,vD]
def MZ{c:bI}(hc:JT c)(h f t:Int):mG (gp c h f t).val:=by
 unfold gp;split
 .exact J4
 .rw[List.getD];cases e:c.cells[(dO c.an c.bf f.toNat t.toNat+h).toNat]? with
  |none=>exact J4
  |some x=>exact hc.2.2.2.2.2 x (Hf e)
def oi{n st:Int}{f t:Nat}(h1:0<=n)(h2:n<=1000)(h3:st<=1000)(h4:(f:Int)<=st)(h5:t<=1000)(h6:f<=t):0<=dO n st f t/\dO n st f t<=2000000000:=by
 have hb:=d5 h3 f h4;have:=g9 (a:=pre st f+t-f) (A:=2000000) (b:=n) (B:=1000) (by omega) (by omega) h1 h2;unfold dO;omega
def dv(c:bI)(own:List Cell)(fr to h f t:Int):cX:=if f=fr/\t=to then(own.getD h.toNat default).val else(gp c h f t).val
def aaP(c:bI)(own:List Cell)(fr to h f t:Int):Prop:=JT c/\own.length<=1000000/\(f=fr/\t=to->0<=h/\h<own.length)
def XV{c:bI}{own:List Cell}{fr to h f t:Int}(h1:aaP c own fr to h f t)(h2:∀x∈own,mG x.val):mG (dv c own fr to h f t):=by
 unfold dv;split
 .rename_i e;have:=h1.2.2 e;exact h2 _ (bu (by omega))
 .exact MZ h1.1 _ _ _
def me(n:ay)(r:bC):Prop:=0<=r.head/\r.head<n.an/\0<=r.bi/\r.bi<=1000/\(r.kind=1\/(r.kind=2/\0<=r.a/\r.a<n.aX)\/(r.kind=3/\0<=r.a/\r.a<n.an)\/(r.kind=4/\0<=r.a/\r.a<n.an/\0<=r.b/\r.b<n.an))
def qf(n:ay):Prop:=1<=n.an/\n.an<=1000/\n.aj.length<=600/\∀r∈n.aj,me n r
def wB(l:aF):Prop:=1<=l.bf/\l.bf<=1000/\l.aK.length<=1000000000/\∀a∈l.aK,0<=a.aA/\a.aA<=1099511627776
def Pm(n:ay)(own:List Cell):Prop:=(own.length:Int)=n.an/\∀x∈own,mG x.val
def stepT(r:bC)(aK:List bF)(fr to i:Int)(x:Cell)(k:Nat):Cell:=
 if(aK.getD k default).f=fr/\(aK.getD k default).t=to/\(aK.getD k default).term=r.a then eZ x (gv (r.bi+(aK.getD k default).aA) []) i k else x
def jh(r:bC)(c:bI)(own:List Cell)(fr to i:Int)(x:Cell)(k:Nat):Cell:=
 eZ x (gv r.bi [dv c own fr to r.a fr (fr+k),dv c own fr to r.b (fr+k) to]) i (fr+k)
def nB(r:bC)(l:aF)(c:bI)(own:List Cell)(fr to i:Int)(x:Cell):Cell:=
 if r.kind=1 then(if fr=to then eZ x (gv r.bi []) i fr else x)
 else if r.kind=2 then(List.range l.aK.length).foldl (stepT r l.aK fr to i) x
 else if r.kind=3 then eZ x (gv r.bi [dv c own fr to r.a fr to]) i fr
 else(List.range (to-fr+1).toNat).foldl (jh r c own fr to i) x
def fD(n:ay)(l:aF)(c:bI)(own:List Cell)(fr to:Int)(i:Nat):Cell:=
 nB (n.aj.getD i default) l c own fr to i (own.getD (n.aj.getD i default).head.toNat default)
abbrev s69:DM.Spec:=bp (λts=>∃c l,ts=[ti c,.sl (cU l)]/\(∀v∈l,mG v)/\0<=c/\c<=4000000000000/\l.length<=1000000) (fun|[.int _ c,.sl l]=>.agg [ti (gv c (yq l)).aA,ti (gv c (yq l)).size]|_=>.bool false) true
@[simp] def agN{l:List cX}:cU l=[]↔l=[]:=by rw[eq_comm,Ss]
def x9:∀v∈([]:List cX),mG v:=λv h=>by cases h
def kindOk(n:ay)(r:bC):Prop:=
 if r.kind=1 then r.a=0/\r.b=0 else if r.kind=2 then r.a>=0/\r.a<n.aX/\r.b=0 else if r.kind=3 then r.a>=0/\r.a<n.an/\r.b=0
 else if r.kind=4 then r.a>=0/\r.a<n.an/\r.b>=0/\r.b<n.an else False
instance(n:ay)(r:bC):Decidable (kindOk n r):=by unfold kindOk;infer_instance
def nR(n:ay)(r:bC):Prop:=¬(r.head<0\/r.head>=n.an\/r.bi<0\/r.bi>1000\/r.origin< -1)
instance(n:ay)(r:bC):Decidable (nR n r):=by unfold nR;infer_instance
def J7(n:ay):Prop:=¬(n.aX<0\/n.aX>120\/n.an<1\/n.an>1000\/n.start<0\/n.start>=n.an\/(n.aj.length:Int)>600)
instance(n:ay):Decidable (J7 n):=by unfold J7;infer_instance
def fk(n:ay):Prop:=J7 n/\∀i,i<n.aj.length->nR n (n.aj.getD i default)/\kindOk n (n.aj.getD i default)
instance(n:ay):Decidable (fk n):=by unfold fk;infer_instance
def fk.ok{n:ay}(h:fk n):qf n:=by
 obtain⟨h1,h2⟩:=h;unfold J7 at h1;refine⟨by omega,by omega,by omega,λr hr=>?_⟩;obtain⟨i,hi,rfl⟩:=OQ hr;obtain⟨h3,h4⟩:=h2 i hi;rw[show n.aj.getD i default=n.aj[i]by simp[List.getD,hi]]at h3 h4;unfold nR at h3;unfold kindOk at h4;unfold me;refine⟨by omega,by omega,by omega,by omega, ?_⟩;split at h4
 .exact .inl (by assumption)
 .split at h4
  .exact .inr (.inl ⟨by assumption,by omega,by omega⟩)
  .split at h4
   .exact .inr (.inr (.inl ⟨by assumption,by omega,by omega⟩))
   .split at h4
    .exact .inr (.inr (.inr ⟨by assumption,by omega,by omega,by omega,by omega⟩))
    .exact h4.elim
def t20(n:ay)(hl:n.aj.length<=9223372036854775807):aJ ak 41 [n.enc] (.bool (decide (fk n))):=by
 obtain⟨nt,nn,ns,aj⟩:=n;obtain⟨v,hv⟩:=aY (decide (fk ⟨nt,nn,ns,aj⟩));rw[hv];simp only at hl;have dB:fk ⟨nt,nn,ns,aj⟩↔J7 ⟨nt,nn,ns,aj⟩/\∀i,i<aj.length->nR ⟨nt,nn,ns,aj⟩ (aj.getD i default)/\kindOk ⟨nt,nn,ns,aj⟩ (aj.getD i default):=Iff.rfl;have cW:¬fk ⟨nt,nn,ns,aj⟩->v=false:=λh=>by rw[<-hv];simp[h]
 have bb:=J2;refine c20.ok (by simp) (aH ?_);simp[ay.enc];apply aa.ai bb fw [1];simp[ant];refine aa.lk (o:=[]) (l:=[(1,.v (.box [ti nt,ti nn,ti ns,.sl (aQ aj)]))]) (bn:=1200) (by simp) ?_;apply aa.seq;obtain⟨c1,bN⟩:=aY (decide (nt<0\/nt>120\/nn<1\/nn>1000\/ns<0\/ns>=nn\/(aj.length:Int)>600):Bool);refine aa.bL bb fw [(1,.v (.box [ti nt,ti nn,ti ns,.sl (aQ aj)])),(41,.v (.bool c1))] ?_ ?_
 .by_cases q1:nt<0
  .have:c1=true:=by rw[<-bN];simp[q1]
   simp[As,q1,this]
  .skip
   by_cases q2:nt>120
   .have:c1=true:=by rw[<-bN];simp[q2]
    simp[As,q1,q2,this]
   .skip
    by_cases q3:nn<1
    .have:c1=true:=by rw[<-bN];simp[q3]
     simp[As,q1,q2,q3,this]
    .skip
     by_cases q4:nn>1000
     .have:c1=true:=by rw[<-bN];simp[q4]
      simp[As,q1,q2,q3,q4,this]
     .skip
      by_cases q5:ns<0
      .have:c1=true:=by rw[<-bN];simp[q5]
       simp[As,q1,q2,q3,q4,q5,this]
      .skip
       by_cases q6:ns>=nn
       .have:c1=true:=by rw[<-bN];simp[q6]
        simp[As,q1,q2,q3,q4,q5,q6,this]
       .skip
        by_cases q7:(aj.length:Int)>600
        .have:c1=true:=by rw[<-bN];simp[q7]
         simp[As,q1,q2,q3,q4,q5,q6,q7,this]
        .skip
         have:c1=false:=by rw[<-bN];simp[q1,q2,q3,q4,q5,q6,q7]
         simp[As,q1,q2,q3,q4,q5,q6,q7,this]
 refine aa.cond rfl (λh1=>?_) (λh1=>?_)
 .rw[h1]at bN;have bN:=BN bN;apply aa.ai bb fw [2];simp[anu];apply aa.ret;rw[cW λh=>(dB.1 h).1 bN];simp[dI]
 .rw[h1]at bN;have bN:=uF bN;apply aa.skip;simp;apply aa.sq bb fw [1,3];simp[anv];apply aa.block;refine aa.loop (λy:Nat=>⟨DM.look [(1,.v (.box [ti nt,ti nn,ti ns,.sl (aQ aj)])),(3,.v (ti y))],cR [],2000,1000,[]⟩)
   (λy=>y<=aj.length/\∀i,i<y->nR ⟨nt,nn,ns,aj⟩ (aj.getD i default)/\kindOk ⟨nt,nn,ns,aj⟩ (aj.getD i default)) (λy=>aj.length-y) 0 (Le.aL (o:=[]) ?_ ?_ ?_ ?_) (by simp) (λy hy=>?_)
  iterate 4(·simp)
  obtain⟨vy,fI⟩:=hy;apply aa.sq bb fw [1,3,46];simp[anw];refine aa.cond rfl (λaS=>?_) (λaS=>?_)
  .have aS:y<aj.length:=by simpa using aS
   apply aa.skip;simp;apply aa.seq;apply aa.block;have rr:=fE aS;obtain⟨⟨rk,rh,ra,rb,rp,rg⟩,hr⟩:=aY (aj.getD y default);rw[hr]at rr;apply aa.ai bb fw [1,3,4];simp[anx,aS,rr,bC.enc];refine aa.lk (o:=[]) (l:=[(1,.v (.box [ti nt,ti nn,ti ns,.sl (aQ aj)])),(3,.v (ti y)),(4,.v (.box [ti rk,ti rh,ti ra,ti rb,ti rp,ti rg]))]) (bn:=2400) (by simp) ?_;apply aa.seq;obtain⟨c2,gD⟩:=aY (decide (rh<0\/rh>=nn\/rp<0\/rp>1000\/rg< -1):Bool);refine aa.bL bb fw [(1,.v (.box [ti nt,ti nn,ti ns,.sl (aQ aj)])),(3,.v (ti y)),(4,.v (.box [ti rk,ti rh,ti ra,ti rb,ti rp,ti rg])),(78,.v (.bool c2))] ?_ ?_
   .by_cases q1:rh<0
    .have:c2=true:=by rw[<-gD];simp[q1]
     simp[Fy,q1,this]
    .skip
     by_cases q2:rh>=nn
     .have:c2=true:=by rw[<-gD];simp[q2]
      simp[Fy,q1,q2,this]
     .skip
      by_cases q3:rp<0
      .have:c2=true:=by rw[<-gD];simp[q3]
       simp[Fy,q1,q2,q3,this]
      .skip
       by_cases q4:rp>1000
       .have:c2=true:=by rw[<-gD];simp[q4]
        simp[Fy,q1,q2,q3,q4,this]
       .skip
        by_cases q5:rg< -1
        .have:c2=true:=by rw[<-gD];simp[q5]
         simp[Fy,q1,q2,q3,q4,q5,this]
        .skip
         have:c2=false:=by rw[<-gD];simp[q1,q2,q3,q4,q5]
         simp[Fy,q1,q2,q3,q4,q5,this]
   refine aa.cond rfl (λh2=>?_) (λh2=>?_)
   .rw[h2]at gD;have gD:=BN gD;apply aa.ai bb fw [2];simp[anz];apply aa.ret;rw[cW λh=>((dB.1 h).2 y aS).1 (by rw[hr];exact gD)];simp[dI]
   .rw[h2]at gD;have gD:nR ⟨nt,nn,ns,aj⟩ ⟨rk,rh,ra,rb,rp,rg⟩:=uF gD;apply aa.skip;simp;obtain⟨k1,mr⟩:=aY (decide (kindOk ⟨nt,nn,ns,aj⟩ ⟨rk,rh,ra,rb,rp,rg⟩):Bool);have Fh:=mr;have mr:k1=true↔kindOk ⟨nt,nn,ns,aj⟩ ⟨rk,rh,ra,rb,rp,rg⟩:=by rw[<-Fh,decide_eq_true_iff]
    simp only[kindOk]at mr;apply aa.ai bb fw [1,3,4,5];simp[anA];apply aa.sq bb fw [1,3,4,5,80];simp[anB];apply aa.block;apply aa.ai bb fw [1,3,4,5,80,81];simp[agn];refine aa.cond rfl (λg1=>?_) (λg1=>?_)
    .have g1:rk=1:=by simpa using g1
     rw[ee g1]at mr;have sI:decide (ra=0/\rb=0)=k1:=by cases k1<;>simp at mr⊢<;>first|exact mr|omega
     refine aa.qV bb fw [(1,.v (.box [ti nt,ti nn,ti ns,.sl (aQ aj)])),(3,.v (ti y)),(5,.v (.bool k1))] ?_ ?_
     .by_cases q1:ra=0
      .skip
       by_cases q2:rb=0
       .skip
        have:k1=true:=by rw[<-sI];simp[q1,q2]
        simp[MO,q1,q2,this]
       .have:k1=false:=by rw[<-sI];simp[q2]
        simp[MO,q1,q2,this]
      .have:k1=false:=by rw[<-sI];simp[q1]
       simp[MO,q1,this]
     apply aa.ai bb fw [1,3,150];simp[C5];refine aa.cond rfl (λh5=>?_) (λh5=>?_)
     .skip
      apply aa.ai bb fw [2];simp[C6];apply aa.ret;rw[cW λh=>by
       have h6:=((dB.1 h).2 y aS).2;rw[hr]at h6;rw[decide_eq_true h6]at Fh
       simp_all]
      simp[dI]
     .skip
      apply aa.skip;simp;have mr:kindOk ⟨nt,nn,ns,aj⟩ ⟨rk,rh,ra,rb,rp,rg⟩:=BN (by rw[Fh];simp_all);apply aa.cZ bb fw [1,3];simp[C7];rw[av (x:=(y:Int)+1) (by omega)];refine⟨y+1,Le.aL (o:=[]) ?_ ?_ ?_ ?_,⟨by omega,λi hi=>?_⟩,by omega⟩;iterate 4(·simp)
      .by_cases e:i=y
       .subst e;show nR _ (aj.getD i default)/\kindOk _ (aj.getD i default);rw[hr];exact⟨gD,mr⟩
       .exact fI i (by omega)
    .have g1:¬rk=1:=by simpa using g1
     rw[iK g1]at mr;apply aa.ai bb fw [1,3,4,5,80,91];simp[ago];refine aa.cond rfl (λg2=>?_) (λg2=>?_)
     .have g2:rk=2:=by simpa using g2
      rw[ee g2]at mr;have sI:decide (ra>=0/\ra<nt/\rb=0)=k1:=by cases k1<;>simp at mr⊢<;>first|exact mr|omega
      refine aa.qV bb fw [(1,.v (.box [ti nt,ti nn,ti ns,.sl (aQ aj)])),(3,.v (ti y)),(5,.v (.bool k1))] ?_ ?_
      .by_cases q1:ra>=0
       .skip
        by_cases q2:ra<nt
        .skip
         by_cases q3:rb=0
         .skip
          have:k1=true:=by rw[<-sI];simp[q1,q2,q3]
          simp[Hh,q1,q2,q3,this]
         .have:k1=false:=by rw[<-sI];simp[q3]
          simp[Hh,q1,q2,q3,this]
        .have:k1=false:=by rw[<-sI];simp[q2]
         simp[Hh,q1,q2,this]
       .have:k1=false:=by rw[<-sI];simp[q1]
        simp[Hh,q1,this]
      apply aa.ai bb fw [1,3,150];simp[C5];refine aa.cond rfl (λh5=>?_) (λh5=>?_)
      .skip
       apply aa.ai bb fw [2];simp[C6];apply aa.ret;rw[cW λh=>by
        have h6:=((dB.1 h).2 y aS).2;rw[hr]at h6;rw[decide_eq_true h6]at Fh
        simp_all]
       simp[dI]
      .skip
       apply aa.skip;simp;have mr:kindOk ⟨nt,nn,ns,aj⟩ ⟨rk,rh,ra,rb,rp,rg⟩:=BN (by rw[Fh];simp_all);apply aa.cZ bb fw [1,3];simp[C7];rw[av (x:=(y:Int)+1) (by omega)];refine⟨y+1,Le.aL (o:=[]) ?_ ?_ ?_ ?_,⟨by omega,λi hi=>?_⟩,by omega⟩;iterate 4(·simp)
       .by_cases e:i=y
        .subst e;show nR _ (aj.getD i default)/\kindOk _ (aj.getD i default);rw[hr];exact⟨gD,mr⟩
        .exact fI i (by omega)
     .have g2:¬rk=2:=by simpa using g2
      rw[iK g2]at mr;apply aa.ai bb fw [1,3,4,5,80,108];simp[agp];refine aa.cond rfl (λg3=>?_) (λg3=>?_)
      .have g3:rk=3:=by simpa using g3
       rw[ee g3]at mr;have sI:decide (ra>=0/\ra<nn/\rb=0)=k1:=by cases k1<;>simp at mr⊢<;>first|exact mr|omega
       refine aa.qV bb fw [(1,.v (.box [ti nt,ti nn,ti ns,.sl (aQ aj)])),(3,.v (ti y)),(5,.v (.bool k1))] ?_ ?_
       .by_cases q1:ra>=0
        .skip
         by_cases q2:ra<nn
         .skip
          by_cases q3:rb=0
          .skip
           have:k1=true:=by rw[<-sI];simp[q1,q2,q3]
           simp[Hi,q1,q2,q3,this]
          .have:k1=false:=by rw[<-sI];simp[q3]
           simp[Hi,q1,q2,q3,this]
         .have:k1=false:=by rw[<-sI];simp[q2]
          simp[Hi,q1,q2,this]
        .have:k1=false:=by rw[<-sI];simp[q1]
         simp[Hi,q1,this]
       apply aa.ai bb fw [1,3,150];simp[C5];refine aa.cond rfl (λh5=>?_) (λh5=>?_)
       .skip
        apply aa.ai bb fw [2];simp[C6];apply aa.ret;rw[cW λh=>by
         have h6:=((dB.1 h).2 y aS).2;rw[hr]at h6;rw[decide_eq_true h6]at Fh
         simp_all]
        simp[dI]
       .skip
        apply aa.skip;simp;have mr:kindOk ⟨nt,nn,ns,aj⟩ ⟨rk,rh,ra,rb,rp,rg⟩:=BN (by rw[Fh];simp_all);apply aa.cZ bb fw [1,3];simp[C7];rw[av (x:=(y:Int)+1) (by omega)];refine⟨y+1,Le.aL (o:=[]) ?_ ?_ ?_ ?_,⟨by omega,λi hi=>?_⟩,by omega⟩;iterate 4(·simp)
        .by_cases e:i=y
         .subst e;show nR _ (aj.getD i default)/\kindOk _ (aj.getD i default);rw[hr];exact⟨gD,mr⟩
         .exact fI i (by omega)
      .have g3:¬rk=3:=by simpa using g3
       rw[iK g3]at mr;apply aa.ai bb fw [1,3,4,5,125];simp[agq];refine aa.cond rfl (λg4=>?_) (λg4=>?_)
       .have g4:rk=4:=by simpa using g4
        rw[ee g4]at mr;have sI:decide (ra>=0/\ra<nn/\rb>=0/\rb<nn)=k1:=by cases k1<;>simp at mr⊢<;>first|exact mr|omega
        refine aa.qV bb fw [(1,.v (.box [ti nt,ti nn,ti ns,.sl (aQ aj)])),(3,.v (ti y)),(5,.v (.bool k1))] ?_ ?_
        .by_cases q1:ra>=0
         .skip
          by_cases q2:ra<nn
          .skip
           by_cases q3:rb>=0
           .skip
            by_cases q4:rb<nn
            .skip
             have:k1=true:=by rw[<-sI];simp[q1,q2,q3,q4]
             simp[C4,q1,q2,q3,q4,this]
            .have:k1=false:=by rw[<-sI];simp[q4]
             simp[C4,q1,q2,q3,q4,this]
           .have:k1=false:=by rw[<-sI];simp[q3]
            simp[C4,q1,q2,q3,this]
          .have:k1=false:=by rw[<-sI];simp[q2]
           simp[C4,q1,q2,this]
         .have:k1=false:=by rw[<-sI];simp[q1]
          simp[C4,q1,this]
        apply aa.ai bb fw [1,3,150];simp[C5];refine aa.cond rfl (λh5=>?_) (λh5=>?_)
        .skip
         apply aa.ai bb fw [2];simp[C6];apply aa.ret;rw[cW λh=>by
          have h6:=((dB.1 h).2 y aS).2;rw[hr]at h6;rw[decide_eq_true h6]at Fh
          simp_all]
         simp[dI]
        .skip
         apply aa.skip;simp;have mr:kindOk ⟨nt,nn,ns,aj⟩ ⟨rk,rh,ra,rb,rp,rg⟩:=BN (by rw[Fh];simp_all);apply aa.cZ bb fw [1,3];simp[C7];rw[av (x:=(y:Int)+1) (by omega)];refine⟨y+1,Le.aL (o:=[]) ?_ ?_ ?_ ?_,⟨by omega,λi hi=>?_⟩,by omega⟩;iterate 4(·simp)
         .by_cases e:i=y
          .subst e;show nR _ (aj.getD i default)/\kindOk _ (aj.getD i default);rw[hr];exact⟨gD,mr⟩
          .exact fI i (by omega)
       .have g4:¬rk=4:=by simpa using g4
        rw[iK g4]at mr;have sI:k1=false:=by cases k1<;>simp at mr⊢
        rw[sI]at Fh;apply aa.skip;simp;apply aa.ai bb fw [1,3,150];simp[C5];refine aa.cond rfl (λh5=>?_) (λh5=>?_)
        .skip
         apply aa.ai bb fw [2];simp[C6];apply aa.ret;rw[cW λh=>by
          have h6:=((dB.1 h).2 y aS).2;rw[hr]at h6;rw[decide_eq_true h6]at Fh
          simp_all]
         simp[dI]
        .skip
         apply aa.skip;simp;have mr:kindOk ⟨nt,nn,ns,aj⟩ ⟨rk,rh,ra,rb,rp,rg⟩:=BN (by rw[Fh];simp_all);apply aa.cZ bb fw [1,3];simp[C7];rw[av (x:=(y:Int)+1) (by omega)];refine⟨y+1,Le.aL (o:=[]) ?_ ?_ ?_ ?_,⟨by omega,λi hi=>?_⟩,by omega⟩;iterate 4(·simp)
         .by_cases e:i=y
          .subst e;show nR _ (aj.getD i default)/\kindOk _ (aj.getD i default);rw[hr];exact⟨gD,mr⟩
          .exact fI i (by omega)
  .have El:y=aj.length:=by simp at aS;omega
   subst El;apply aa.exit;simp;apply aa.ai bb fw [2];simp[agr];apply aa.ret;have:v=true:=by rw[<-hv];exact decide_eq_true (dB.2 ⟨bN,fI⟩)
   rw[this];simp[dI]
end aT
end Go.Proofs
