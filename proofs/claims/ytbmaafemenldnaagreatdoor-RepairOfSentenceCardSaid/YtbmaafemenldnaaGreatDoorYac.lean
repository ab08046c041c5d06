/- Part. Conditions: none. -/
import Derived.Test.YtbmaafemenldnaaGreatDoorYab
import Derived.Sort.LoopGhostIn
import Derived.RangeFuncLeaves
set_option linter.all false
namespace Go.DM
open Go.RowKit
section
variable{xs:List bK}{r:Nat}
variable [bD]
def nL:qO->Nat
 |.alloc _|.box _|.mkSlice .. |.mkSliceB .. |.mkMap .. =>2
 |.store .. |.append .. |.mapUpd .. |.mapEnt .. |.entSt .. |.mapDel .. |.copy .. |.rangeM _|.callF .. =>3
 |.load .. |.eqT .. |.idxAddr .. |.len _|.call .. |.callR .. |.slice .. |.lookup .. |.lenM _|.isNil .. =>1
 |.callS .. |.callv .. |.entryM _=>4
 |_=>0
section
variable{Γ:kv}{d:qO}{name:Nat}{ρ UL:dW}{ab aM:bS}
def ke(h:∀x∈xs,x.ev ρ=x.ev UL):xs.map (·.ev ρ)=xs.map (·.ev UL):=ZbN h
def yQ(h:∀x∈bT d,x.ev ρ=x.ev UL):db Γ d name ρ ab=db Γ d name UL ab:=by
 cases d;case build z ps=>
  have:ps.map (λp=>(p.1,p.2.1,p.2.2.ev ρ))=ps.map (λp=>(p.1,p.2.1,p.2.2.ev UL)):=ZbN λp hp=>by rw[h p.2.2 (sE.2 ⟨p,hp,rfl⟩)]
  simp only[db,this]
 case bslice n sz z ps=>
  have:ps.map (λp=>(p.1,p.2.1,p.2.2.ev ρ))=ps.map (λp=>(p.1,p.2.1,p.2.2.ev UL)):=ZbN λp hp=>by rw[h p.2.2 (sE.2 ⟨p,hp,rfl⟩)]
  simp only[db,this]
 case slice sz x lo hi=>
  have h1:=h x (by simp[bT]);have h2:lo.map (·.ev ρ)=lo.map (·.ev UL):=by cases lo<;>simp;exact h _ (by simp[bT])
  have h3:hi.map (·.ev ρ)=hi.map (·.ev UL):=by cases hi<;>simp;exact h _ (by simp[bT])
  simp only[db,h1,h2,h3]
 case call f xs=>simp only[db,ke (xs:=xs) h]
 case callF f xs=>simp only[db,ke (xs:=xs) h]
 case callR f xs=>simp only[db,ke (xs:=xs) h]
 case callS f xs=>rfl
 case callv x xs=>rfl
 case mkFn f xs=>simp only[db,ke (xs:=xs) h]
 all_goals (simp only[bT,jv,qg,AZ,forall_eq_or_imp,Zy]at h;simp only[db,h])
def Cn(h:nL d=0\/nL d=2):db Γ d name ρ ab=db Γ d name ρ aM:=by
 cases d<;>first|rfl|(simp[nL]at h;done)
mutual
def fc(ab:bS):DV->Prop
 |.ptr r _|.aW r _|.kr r _ _ _|.fH r|.eo r|.v7 r _ _ _|.AH r _=>ab r≠none
 |.agg cs|.dh cs|.AI _ cs=>fV ab cs
 |_=>True
def fV(ab:bS):bW->Prop
 |[]=>True
 |d::ds=>fc ab d/\fV ab ds
end
mutual
def fc.bJ{w:World}{W:fm}{L:Loc}:∀(d:DV) (x:Value),aD w W ab L d x->fc ab d
 |.ptr r off,x,h=>by simp only[aD]at h;obtain⟨⟨cs,hc⟩,_⟩:=h;simp[fc,hc]
 |.AH r n,x,h=>by simp only[aD]at h;obtain⟨⟨cs,hc⟩,_⟩:=h;simp[fc,hc]
 |.aW r bG,x,h=>by simp only[aD]at h;obtain⟨_,v,e,s,aC,hc,_⟩:=h;simp[fc,hc]
 |.kr r bG i off,x,h=>by simp only[aD]at h;obtain⟨_,v,e,s,aC,hc,_⟩:=h;simp[fc,hc]
 |.fH r,x,h=>by simp only[aD]at h;obtain⟨⟨_,_,_,_,hc⟩,_⟩:=h;simp[fc,hc]
 |.eo r,x,h=>by simp only[aD]at h;obtain⟨⟨_,_,_,_,hc⟩,_⟩:=h;simp[fc,hc]
 |.v7 r bG lo n,x,h=>by simp only[aD]at h;obtain⟨_,v,e,s,aC,hc,_⟩:=h;simp[fc,hc]
 |.dh cs,x,h=>by simp only[aD]at h;obtain⟨vs,_,hr⟩:=h;simp only[fc];exact fV.OY cs _ hr
 |.AI f cs,x,h=>by simp only[aD]at h;obtain⟨vs,_,hr⟩:=h;simp only[fc];exact fV.bJ cs _ hr
 |.agg cs,x,h=>by simp only[aD]at h;obtain⟨vs,_,hr⟩:=h;simp only[fc];exact fV.bJ cs _ hr
 |.undef,_,_|.skip,_,_|.v _,_,_|.aZ,_,_|.mw _ _ _,_,_|.j9 _ _,_,_|.BZ,_,_=>by simp[fc]
def fV.bJ{w:World}{W:fm}{L:Loc}:∀(ds:bW) (xs:List Value),aU w W ab L ds xs->fV ab ds
 |[],_,_=>by simp[fV]
 |d::ds,xs,h=>by
  simp only[aU]at h;obtain⟨x,nj,_,_,h1,h2⟩:=h;simp only[fV];exact⟨fc.bJ d x h1,fV.bJ ds nj h2⟩
def fV.OY{w:World}{W:fm}{L:Loc}:∀(ds:bW) (xs:List Value),eA w W ab L ds xs->fV ab ds
 |[],_,_=>by simp[fV]
 |d::ds,xs,h=>by
  simp only[eA]at h;obtain⟨x,nj,_,h1,h2⟩:=h;simp only[fV];exact⟨fc.bJ d x h1,fV.OY ds nj h2⟩
end
mutual
def fc.br:∀(d:DV),fc ab d->∀n∈br d,ab n≠none
 |.ptr r off,h,n,hn=>by simp only[DM.br,uy]at hn;subst hn;simpa only[fc]using h
 |.AH r m,h,n,hn=>by simp only[DM.br,uy]at hn;subst hn;simpa only[fc]using h
 |.aW r bG,h,n,hn=>by simp only[DM.br,uy]at hn;subst hn;simpa only[fc]using h
 |.kr r bG i off,h,n,hn=>by simp only[DM.br,uy]at hn;subst hn;simpa only[fc]using h
 |.fH r,h,n,hn=>by simp only[DM.br,uy]at hn;subst hn;simpa only[fc]using h
 |.eo r,h,n,hn=>by simp only[DM.br,uy]at hn;subst hn;simpa only[fc]using h
 |.v7 r _ _ _,h,n,hn=>by simp only[DM.br,uy]at hn;subst hn;simpa only[fc]using h
 |.dh cs,h,n,hn=>by simp only[DM.br]at hn;simp only[fc]at h;exact fV.br cs h n hn
 |.AI f cs,h,n,hn=>by simp only[DM.br]at hn;simp only[fc]at h;exact fV.br cs h n hn
 |.agg cs,h,n,hn=>by simp only[DM.br]at hn;simp only[fc]at h;exact fV.br cs h n hn
 |.BZ,_,n,hn|.undef,_,n,hn|.skip,_,n,hn|.v _,_,n,hn|.aZ,_,n,hn|.mw _ _ _,_,n,hn|.j9 _ _,_,n,hn=>by simp[DM.br]at hn
def fV.br:∀(ds:bW),fV ab ds->∀n∈da ds,ab n≠none
 |[],_,n,hn=>by simp[da]at hn
 |d::ds,h,n,hn=>by
  simp only[fV]at h;simp only[da,lF]at hn;rcases hn with hn|hn
  .exact fc.br d h.1 n hn
  .exact fV.br ds h.2 n hn
end
def Ext(ab aM:bS):Prop:=∀r,ab r≠none->aM r=ab r
mutual
def GQ:∀(d:DV),(∀n∈br d,aM n=ab n)->sY aM d=sY ab d
 |.aW r bG,hr=>by simp only[sY,hr r (by simp[br])]
 |.agg cs,hr=>by simp only[sY,qt cs (λn hn=>hr n (by simpa only[br]using hn))]
 |.AI f cs,hr=>by simp only[sY,qt cs (λn hn=>hr n (by simpa only[br]using hn))]
 |.v7 r bG lo n,hr=>by simp only[sY,hr r (by simp[br])]
 |.undef,_|.skip,_|.v _,_|.aZ,_|.ptr _ _,_|.mw _ _ _,_|.j9 _ _,_|.kr _ _ _ _,_|.BZ,_|.fH _,_|.eo _,_|.dh _,_|.AH _ _,_=>by simp[sY]
def qt:∀(ds:bW),(∀n∈da ds,aM n=ab n)->jr aM ds=jr ab ds
 |[],_=>rfl
 |d::ds,hr=>by simp only[jr,GQ d (λn hn=>hr n (by simp[da,hn])),qt ds (λn hn=>hr n (by simp[da,hn]))]
end
mutual
def GR(l:Bool):∀(d:DV),(∀n∈br d,aM n=ab n)->Ed l aM d=Ed l ab d
 |.aW r bG,hr=>by simp only[Ed,hr r (by simp[br])]
 |.agg cs,hr=>by simp only[Ed,tX l cs (λn hn=>hr n (by simpa only[br]using hn))]
 |.AI f cs,hr=>by simp only[Ed,tX l cs (λn hn=>hr n (by simpa only[br]using hn))]
 |.v7 r bG lo n,hr=>by simp only[Ed,hr r (by simp[br])]
 |.undef,_|.skip,_|.v _,_|.aZ,_|.ptr _ _,_|.mw _ _ _,_|.j9 _ _,_|.kr _ _ _ _,_|.BZ,_|.fH _,_|.eo _,_|.dh _,_|.AH _ _,_=>by simp[Ed]
def tX(l:Bool):∀(ds:bW),(∀n∈da ds,aM n=ab n)->tF l aM ds=tF l ab ds
 |[],_=>rfl
 |d::ds,hr=>by simp only[tF,GR l d (λn hn=>hr n (by simp[da,hn])),tX l ds (λn hn=>hr n (by simp[da,hn]))]
end
def wo{n:Nat}:n∈da (xs.map (·.ev ρ))->∃x∈xs,n∈br (x.ev ρ):=by
 induction xs with
 |nil=>simp[da]
 |cons x xs ih=>
  simp only[vG,da,lF];rintro(h|h)
  .exact⟨x,by simp,h⟩
  .obtain⟨y,hy,hn⟩:=ih h;exact⟨y,by simp[hy],hn⟩
def Jd(d:DV):∀n∈da (cellsOf d),n∈br d:=by
 have hv:∀cs:aG,da (cs.map .v)=[]:=by
  intro cs;induction cs with
  |nil=>rfl
  |cons c cs ih=>simp only[vG,da,br,ih,Ej]
 intro n hn;cases d with
 |v t=>cases t<;>simp[cellsOf,da,br,hv]at hn
 |agg cs=>simpa [cellsOf,br]using hn
 |_=>simpa [cellsOf,da]using hn
def Ad{d:DV}(hy:∀n∈br d,aM n=ab n):fK aM d=fK ab d:=by
 cases d<;>simp only[br,uy,Zy]at hy<;>first|rfl|(simp only[fK,hy];done)|skip
 rename_i t;cases t<;>first|rfl|skip
 rename_i v;cases v<;>first|rfl|skip
 rename_i p n c;cases n<;>rfl
def yR(hr:∀x∈bT d,∀n∈br (x.ev ρ),aM n=ab n):db Γ d name ρ aM=db Γ d name ρ ab:=by
 by_cases h0:nL d=0\/nL d=2
 .exact Cn h0
 cases d<;>first|exact qe (Or.inl rfl) h0|exact qe (Or.inr rfl) h0|rfl|skip
 case load n agg x=>
  have hx:=hr x (by simp[bT]);simp only[db];cases hv:x.ev ρ<;>rw[hv]at hx<;>simp only[br,uy,Zy]at hx<;>first|rfl|(simp only[gP,hx];done)|(rename_i t;cases t<;>rfl)
 case store n x y=>
  have hx:=hr x (by simp[bT]);have hy:=hr y (by simp[bT]);have hyc:jr aM (cellsOf (y.ev ρ))=jr ab (cellsOf (y.ev ρ)):=qt _ λn hn=>hy n (Jd _ n hn);simp only[db];cases hv:x.ev ρ<;>rw[hv]at hx<;>simp only[br,uy,Zy]at hx<;>first|rfl|(simp only[lV,hx,hyc];done)|(rename_i t;cases t<;>rfl)
 case eqT neg agg bZ x y=>
  have hx:=hr x (by simp[bT]);have hy:=hr y (by simp[bT]);simp only[db,GR true _ hx,GR true _ hy,GQ _ hx,GQ _ hy]
 case idxAddr sz x i=>
  have hx:=hr x (by simp[bT]);simp only[db];cases hv:x.ev ρ<;>rw[hv]at hx<;>simp only[br,uy,Zy]at hx<;>first|rfl|skip
  .rename_i t;cases t<;>first|rfl|(cases i.ev ρ<;>first|rfl|(rename_i t;cases t<;>rfl))
  .cases i.ev ρ<;>first|rfl|skip
   rename_i t;cases t<;>first|rfl|(simp only[rj,hx])
  .cases i.ev ρ<;>first|rfl|skip
   rename_i t;cases t<;>first|rfl|(simp only[rj,hx])
  .cases i.ev ρ<;>first|rfl|skip
   rename_i t;cases t<;>rfl
 case len x=>
  have hx:=hr x (by simp[bT]);simp only[db];cases hv:x.ev ρ<;>rw[hv]at hx<;>simp only[br,uy,Zy]at hx<;>first|rfl|(simp only[v8,hx];done)|(rename_i t;cases t<;>rfl)
 case call f xs=>
  have hx:∀n∈da (xs.map (·.ev ρ)),aM n=ab n:=λn hn=>by obtain⟨x,hx,hn⟩:=wo hn;exact hr x hx n hn
  simp only[db,pF,tX _ _ hx,qt _ hx]
 case callF f xs=>
  have hx:∀n∈da (xs.map (·.ev ρ)),aM n=ab n:=λn hn=>by obtain⟨x,hx,hn⟩:=wo hn;exact hr x hx n hn
  simp only[db,oQ,tX _ _ hx,qt _ hx]
 case callR f xs=>
  have hx:∀n∈da (xs.map (·.ev ρ)),aM n=ab n:=λn hn=>by obtain⟨x,hx,hn⟩:=wo hn;exact hr x hx n hn
  simp only[db,Gv hx]
 case append e sz bytes x y=>
  have hx:=hr x (by simp[bT]);have hy:=hr y (by simp[bT]);have hs:fK aM (y.ev ρ)=fK ab (y.ev ρ):=Ad hy;simp only[db,iC,hs];cases fK ab (y.ev ρ)with
  |none=>rfl
  |some ys=>
   cases hv:x.ev ρ<;>rw[hv]at hx<;>simp only[br,uy,Zy]at hx<;>first|rfl|(simp only[hx];done)|(rename_i t;cases t<;>rfl)|skip
   rename_i r bG lo n;cases lo<;>simp only[hx]
 case slice sz x lo hi=>
  have hx:=hr x (by simp[bT]);simp only[db];cases hv:x.ev ρ<;>rw[hv]at hx<;>simp only[br,uy,Zy]at hx<;>first|rfl|(simp only[jM,hx];done)|(rename_i t;cases t<;>rfl)
 case lookup bZ agg z ok x k=>
  have hx:=hr x (by simp[bT]);simp only[db];cases hv:x.ev ρ<;>rw[hv]at hx<;>simp only[br,uy,Zy]at hx<;>first|rfl|(rename_i t;cases t<;>rfl)|(cases vr:vv (k.ev ρ)<;>simp only[mO,hx,vr])
 case mapUpd bZ agg x k y=>
  have hx:=hr x (by simp[bT]);simp only[db];cases hv:x.ev ρ<;>rw[hv]at hx<;>simp only[br,uy,Zy]at hx<;>first|rfl|(rename_i t;cases t<;>rfl)|(cases vr:vv (k.ev ρ)<;>simp only[jl,hx,vr])
 case mapEnt bZ agg z x k=>
  have hx:=hr x (by simp[bT]);simp only[db];cases hv:x.ev ρ<;>rw[hv]at hx<;>simp only[br,uy,Zy]at hx<;>first|rfl|(rename_i t;cases t<;>rfl)|(cases vr:vv (k.ev ρ)<;>simp only[jm,hx,vr])
 case entSt x s y=>
  have hx:=hr x (by simp[bT]);simp only[db];cases hv:x.ev ρ<;>rw[hv]at hx<;>simp only[br,uy,Zy]at hx<;>first|rfl|(rename_i t;cases t<;>rfl)|(unfold kN;split<;>first|rfl|(rename_i e _;cases e;simp only[hx]))
 case mapDel bZ agg x k=>
  have hx:=hr x (by simp[bT]);simp only[db];cases hv:x.ev ρ<;>rw[hv]at hx<;>simp only[br,uy,Zy]at hx<;>first|rfl|(rename_i t;cases t<;>rfl)|(cases vr:vv (k.ev ρ)<;>simp only[jn,hx,vr])
 case lenM x=>
  have hx:=hr x (by simp[bT]);simp only[db];cases hv:x.ev ρ<;>rw[hv]at hx<;>simp only[br,uy,Zy]at hx<;>first|rfl|(simp only[Fz,hx];done)|(rename_i t;cases t<;>rfl)
 case rangeM x=>
  have hx:=hr x (by simp[bT]);simp only[db];cases hv:x.ev ρ<;>rw[hv]at hx<;>simp only[br,uy,Zy]at hx<;>first|rfl|(simp only[lj,hx];done)|(rename_i t;cases t<;>rfl)
 case isNil kind neg x=>
  have hx:=hr x (by simp[bT]);simp only[db];cases hv:x.ev ρ<;>rw[hv]at hx<;>simp only[br,uy,Zy]at hx<;>first|rfl|(simp only[gk,hx];done)|(unfold gk;split<;>first|rfl|(rename_i e;cases e))
 case copy sz x y=>
  have hx:=hr x (by simp[bT]);have hy:=hr y (by simp[bT]);simp only[db,kb,Ad hy];cases fK ab (y.ev ρ)with
  |none=>rfl
  |some ys=>
   cases hv:x.ev ρ<;>rw[hv]at hx<;>simp only[br,uy,Zy]at hx<;>first|rfl|(simp only[hx];done)|(rename_i t;cases t<;>rfl)
def aao(h:Ext ab aM)(hr:∀x∈bT d,fc ab (x.ev ρ)):db Γ d name ρ aM=db Γ d name ρ ab:=
 yR λx hx n hn=>h n (fc.br _ (hr x hx) n hn)
def lays:qO->Bool
 |.alloc _|.box _|.mkSlice .. |.mkSliceB .. |.append .. |.mkMap .. |.rangeM _|.callF .. =>true
 |_=>false
def uL{o:Ob}(h:nL d=3)(hp:(db Γ d name ρ ab).put=some (r,o)):r=name\/∃x∈bT d,r∈br (x.ev ρ):=by
 cases d<;>first|(simp[nL]at h;done)|skip
 case store n x y=>
  simp only[db]at hp;unfold lV at hp;split at hp
  .rename_i hv;split at hp
   .simp only[cq,eX]at hp;obtain⟨rfl,_⟩:=hp;exact .inr ⟨x,by simp[bT],by simp[hv,br]⟩
   .cases hp
  .rename_i hv;split at hp
   .simp only[cq,eX]at hp;obtain⟨rfl,_⟩:=hp;exact .inr ⟨x,by simp[bT],by simp[hv,br]⟩
   .cases hp
  .cases hp
 case append e sz Mb x y=>
  simp only[db]at hp;unfold iC at hp;split at hp
  .cases hp
  .split at hp
   .simp only[cq,eX]at hp;exact .inl hp.1.symm
   .rename_i hv;split at hp
    .simp only[cq,eX]at hp;obtain⟨rfl,_⟩:=hp;exact .inr ⟨x,by simp[bT],by simp[hv,br]⟩
    .cases hp
   .rename_i hv;split at hp
    .simp only[cq,eX]at hp;obtain⟨rfl,_⟩:=hp;exact .inr ⟨x,by simp[bT],by simp[hv,br]⟩
    .cases hp
   .cases hp
 case copy sz x y=>
  simp only[db]at hp;unfold kb at hp;split at hp
  .cases hp
  .split at hp
   .rename_i hv;split at hp
    .simp only[cq,eX]at hp;obtain⟨rfl,_⟩:=hp;exact .inr ⟨x,by simp[bT],by simp[hv,br]⟩
    .cases hp
   .rename_i hv;split at hp
    .simp only[cq,eX]at hp;obtain⟨rfl,_⟩:=hp;exact .inr ⟨x,by simp[bT],by simp[hv,br]⟩
    .cases hp
   .cases hp
 case mapUpd bZ agg x k y=>
  simp only[db]at hp;unfold jl at hp;split at hp
  .rename_i hv _;split at hp
   .simp only[cq,eX]at hp;obtain⟨rfl,_⟩:=hp;exact .inr ⟨x,by simp[bT],by simp[hv,br]⟩
   .cases hp
  .cases hp
 case mapEnt bZ agg z x k=>
  simp only[db]at hp;unfold jm at hp;split at hp
  .rename_i hv _;split at hp
   .simp only[cq,eX]at hp;obtain⟨rfl,_⟩:=hp;exact .inr ⟨x,by simp[bT],by simp[hv,br]⟩
   .cases hp
  .cases hp
 case entSt x s y=>
  simp only[db]at hp;unfold kN at hp;split at hp
  .rename_i hv _;split at hp
   .split at hp
    .simp only[cq,eX]at hp;obtain⟨rfl,_⟩:=hp;exact .inr ⟨x,by simp[bT],by simp[hv,br]⟩
    .cases hp
   .cases hp
  .cases hp
 case mapDel bZ agg x k=>
  simp only[db]at hp;unfold jn at hp;split at hp
  .rename_i hv _;split at hp
   .simp only[cq,eX]at hp;obtain⟨rfl,_⟩:=hp;exact .inr ⟨x,by simp[bT],by simp[hv,br]⟩
   .cases hp
  .cases hp
 case rangeM x=>
  simp only[db]at hp;unfold lj at hp;split at hp
  .split at hp
   .simp only[cq,eX]at hp;exact .inl hp.1.symm
   .cases hp
  .cases hp
 case callF f xs=>
  simp only[db]at hp;unfold oQ at hp
  (repeat' split at hp)<;>first|(cases hp;done)|(simp only[cq,eX]at hp;exact .inl hp.1.symm)
def Mi{o:Ob}(h:nL d=3)(hl:lays d=false)(hp:(db Γ d name ρ ab).put=some (r,o)):∃x∈bT d,r∈br (x.ev ρ):=by
 cases d<;>first|(simp[nL]at h;done)|(simp[lays]at hl;done)|skip
 case store n x y=>
  simp only[db]at hp;unfold lV at hp;split at hp
  .rename_i hv;split at hp
   .simp only[cq,eX]at hp;obtain⟨rfl,_⟩:=hp;exact⟨x,by simp[bT],by simp[hv,br]⟩
   .cases hp
  .rename_i hv;split at hp
   .simp only[cq,eX]at hp;obtain⟨rfl,_⟩:=hp;exact⟨x,by simp[bT],by simp[hv,br]⟩
   .cases hp
  .cases hp
 case copy sz x y=>
  simp only[db]at hp;unfold kb at hp;split at hp
  .cases hp
  .split at hp
   .rename_i hv;split at hp
    .simp only[cq,eX]at hp;obtain⟨rfl,_⟩:=hp;exact⟨x,by simp[bT],by simp[hv,br]⟩
    .cases hp
   .rename_i hv;split at hp
    .simp only[cq,eX]at hp;obtain⟨rfl,_⟩:=hp;exact⟨x,by simp[bT],by simp[hv,br]⟩
    .cases hp
   .cases hp
 case mapUpd bZ agg x k y=>
  simp only[db]at hp;unfold jl at hp;split at hp
  .rename_i hv _;split at hp
   .simp only[cq,eX]at hp;obtain⟨rfl,_⟩:=hp;exact⟨x,by simp[bT],by simp[hv,br]⟩
   .cases hp
  .cases hp
 case mapEnt bZ agg z x k=>
  simp only[db]at hp;unfold jm at hp;split at hp
  .rename_i hv _;split at hp
   .simp only[cq,eX]at hp;obtain⟨rfl,_⟩:=hp;exact⟨x,by simp[bT],by simp[hv,br]⟩
   .cases hp
  .cases hp
 case entSt x s y=>
  simp only[db]at hp;unfold kN at hp;split at hp
  .rename_i hv _;split at hp
   .split at hp
    .simp only[cq,eX]at hp;obtain⟨rfl,_⟩:=hp;exact⟨x,by simp[bT],by simp[hv,br]⟩
    .cases hp
   .cases hp
  .cases hp
 case mapDel bZ agg x k=>
  simp only[db]at hp;unfold jn at hp;split at hp
  .rename_i hv _;split at hp
   .simp only[cq,eX]at hp;obtain⟨rfl,_⟩:=hp;exact⟨x,by simp[bT],by simp[hv,br]⟩
   .cases hp
  .cases hp
def Je(h:nL d=0\/nL d=1):(db Γ d name ρ ab).put=none:=by
 cases d<;>first|(simp[nL]at h;done)|rfl|skip
 case pick c a b=>simp only[db];split<;>rfl
 case bslice=>simp only[db];split<;>rfl
 case load n agg x=>simp only[db];unfold gP;(repeat' split)<;>rfl
 case bin op x y=>simp only[db];unfold tJ;(repeat' split)<;>rfl
 case un op x=>simp only[db];unfold OL;(repeat' split)<;>rfl
 case conv k x=>simp only[db];split<;>rfl
 case addOff k x=>simp only[db];unfold pi;(repeat' split)<;>rfl
 case nilCheck x=>simp only[db];unfold li;(repeat' split)<;>rfl
 case idxAddr sz x i=>simp only[db];unfold rj;(repeat' split)<;>rfl
 case arrAddr n sz x i=>simp only[db];unfold kY;(repeat' split)<;>rfl
 case field off n agg x=>simp only[db];unfold oN;(repeat' split)<;>rfl
 case slice sz x lo hi=>simp only[db];unfold jM;(repeat' split)<;>rfl
 case extract i x=>simp only[db];unfold EI;(repeat' split)<;>rfl
 case call f xs=>simp only[db];unfold pF;(repeat' split)<;>rfl
 case callR f xs=>simp only[db];unfold oP;(repeat' split)<;>rfl
 case len x=>simp only[db];unfold v8;(repeat' split)<;>rfl
 case lenS x=>simp only[db];unfold uH;(repeat' split)<;>rfl
 case minmax m x y=>simp only[db];unfold oC;(repeat' split)<;>rfl
 case lookup=>simp only[db];unfold mO;(repeat' split)<;>rfl
 case lenM x=>simp only[db];unfold Fz;(repeat' split)<;>rfl
 case isNil=>simp only[db];unfold gk;(repeat' split)<;>rfl
 case indexS x i=>simp only[db];unfold oD;(repeat' split)<;>rfl
def aap{o:Ob}(h:nL d=2)(hp:(db Γ d name ρ ab).put=some (r,o)):r=name:=by
 cases d<;>first|(simp[nL]at h;done)|skip
 case alloc z=>simp only[db,cq,eX]at hp;exact hp.1.symm
 case box x=>simp only[db,cq,eX]at hp;exact hp.1.symm
 case mkMap=>simp only[db,cq,eX]at hp;exact hp.1.symm
 case mkSlice e sz Mb z n=>
  simp only[db]at hp;unfold lW at hp;split at hp
  .simp only[cq,eX]at hp;exact hp.1.symm
  .cases hp
 case mkSliceB e sz Mb z n=>
  simp only[db]at hp;unfold gj at hp;split at hp
  .simp only[cq,eX]at hp;exact hp.1.symm
  .cases hp
def aaq{o:Ob}(h:nL d=3)(hp:(db Γ d name ρ ab).put=some (r,o)):r=name\/ab r≠none:=by
 cases d<;>first|(simp[nL]at h;done)|skip
 case store n x y=>
  simp only[db]at hp;unfold lV at hp;split at hp
  .split at hp
   .rename_i hc;simp only[cq,eX]at hp;obtain⟨rfl,_⟩:=hp;exact .inr (by simp[hc])
   .cases hp
  .split at hp
   .rename_i hc;simp only[cq,eX]at hp;obtain⟨rfl,_⟩:=hp;exact .inr (by simp[hc])
   .cases hp
  .cases hp
 case append e sz Mb x y=>
  simp only[db]at hp;unfold iC at hp;split at hp
  .cases hp
  .split at hp
   .simp only[cq,eX]at hp;exact .inl hp.1.symm
   .split at hp
    .rename_i hc;simp only[cq,eX]at hp;obtain⟨rfl,_⟩:=hp;exact .inr (by simp[hc])
    .cases hp
   .split at hp
    .rename_i hc;simp only[cq,eX]at hp;obtain⟨rfl,_⟩:=hp;exact .inr (by simp[hc])
    .cases hp
   .cases hp
 case copy sz x y=>
  simp only[db]at hp;unfold kb at hp
  (repeat' split at hp)<;>first|(cases hp;done)|(rename_i hc;simp only[cq,eX]at hp;obtain⟨rfl,_⟩:=hp;exact .inr (by simp[hc]))
 case mapUpd=>
  simp only[db]at hp;unfold jl at hp
  (repeat' split at hp)<;>first|(cases hp;done)|(rename_i hc;simp only[cq,eX]at hp;obtain⟨rfl,_⟩:=hp;exact .inr (by simp[hc]))
 case mapEnt=>
  simp only[db]at hp;unfold jm at hp
  (repeat' split at hp)<;>first|(cases hp;done)|(rename_i hc;simp only[cq,eX]at hp;obtain⟨rfl,_⟩:=hp;exact .inr (by simp[hc]))
 case entSt=>
  simp only[db]at hp;unfold kN at hp
  (repeat' split at hp)<;>first|(cases hp;done)|(rename_i hc _ _ _;simp only[cq,eX]at hp;obtain⟨rfl,_⟩:=hp;exact .inr (by simp_all))
 case mapDel=>
  simp only[db]at hp;unfold jn at hp
  (repeat' split at hp)<;>first|(cases hp;done)|(rename_i hc;simp only[cq,eX]at hp;obtain⟨rfl,_⟩:=hp;exact .inr (by simp[hc]))
 case rangeM=>
  simp only[db]at hp;unfold lj at hp
  (repeat' split at hp)<;>first|(cases hp;done)|(simp only[cq,eX]at hp;exact .inl hp.1.symm)
 case callF f xs=>
  simp only[db]at hp;unfold oQ at hp
  (repeat' split at hp)<;>first|(cases hp;done)|(simp only[cq,eX]at hp;exact .inl hp.1.symm)
def UM{o:Ob}(h:nL d=3)(hl:lays d=false)(hp:(db Γ d name ρ ab).put=some (r,o)):ab r≠none:=by
 cases d<;>first|(simp[nL]at h;done)|(simp[lays]at hl;done)|skip
 all_goals simp only[db]at hp
 case store=>unfold lV at hp;(repeat' split at hp)<;>first|(cases hp;done)|(rename_i hc;simp only[cq,eX]at hp;obtain⟨rfl,_⟩:=hp;simp[hc])
 case copy=>unfold kb at hp;(repeat' split at hp)<;>first|(cases hp;done)|(rename_i hc;simp only[cq,eX]at hp;obtain⟨rfl,_⟩:=hp;simp[hc])
 case mapUpd=>unfold jl at hp;(repeat' split at hp)<;>first|(cases hp;done)|(rename_i hc;simp only[cq,eX]at hp;obtain⟨rfl,_⟩:=hp;simp[hc])
 case mapEnt=>unfold jm at hp;(repeat' split at hp)<;>first|(cases hp;done)|(rename_i hc;simp only[cq,eX]at hp;obtain⟨rfl,_⟩:=hp;simp[hc])
 case entSt=>unfold kN at hp;(repeat' split at hp)<;>first|(cases hp;done)|(simp only[cq,eX]at hp;obtain⟨rfl,_⟩:=hp;simp_all)
 case mapDel=>unfold jn at hp;(repeat' split at hp)<;>first|(cases hp;done)|(rename_i hc;simp only[cq,eX]at hp;obtain⟨rfl,_⟩:=hp;simp[hc])
end
end
section
variable{r:RO}{st:RS}{ρ:dW}{d:qO}{ab:bS}
variable [bD] [dF]
def Mj:bK->Option Nat
 |.tmp t=>some t
 |.wW _=>none
def Bh(r:RO):cN:=(bT r.d).filterMap Mj++(r.guard.map (·.1)).toList
def ad0:bK->Bool
 |.tmp _=>true
 |.wW (.v _)|.wW .aZ|.wW (.j9 _ _)=>true
 |_=>false
def tY(r:RO):Bool:=(bT r.d).all ad0
def jf(x y:RO):Bool:=match x.dst with|some d=> !(Bh y).contains d|none=>true
def pG(x y:RO):Bool:=match x.dst,y.dst with|some a,some b=>a !=b|_,_=>true
def Mk(a b:Nat):Bool:=((a==3&&(b==1||b==3))||(b==3&&a==1))||((a==4&&b !=0)||(b==4&&a !=0))
def AO(x y:Option (cN)):Bool:=match x,y with|some a,some b=>a.all λn=>b.all λm=>n !=m|_,_=>false
def ok4(a b:Nat):Bool:=(a !=4||b==1)&&(b !=4||a==1)
def isF:qO->Bool
 |.callF .. =>true
 |_=>false
def UN(a b:qO):Bool:=(isF a&&nL b==1)||(isF b&&nL a==1)
def kO(x y:RO):Bool:=
 jf x y&&jf y x&&pG x y&&(!Mk (nL x.d) (nL y.d)||(AO x.km y.km&&ok4 (nL x.d) (nL y.d))||UN x.d y.d)
def gm(r:RO):Bool:= !lays r.d||r.dst.isSome
section
variable{Γ:kv}{aP:Nat}
def Co(st:RS):Prop:=∀t,fc st.ab (st.tmps t)
def nm(aP:Nat)(r:RO):Nat:=bQ aP r.dst
def OZ(aP:Nat)(r:RO)(st:RS):Prop:=r.dst.isSome=true->st.ab (nm aP r)=none
def Bi{t:Nat}{o:Ob}(hp:(od Γ aP r st).put=some (t,o)):(t=nm aP r/\lays r.d=true)\/(st.ab t≠none/\nL r.d=3):=by
 unfold od at hp;by_cases h0:nL r.d=0\/nL r.d=1
 .rw[Je h0]at hp;cases hp
 .by_cases h2:nL r.d=2
  .refine .inl ⟨aap h2 hp, ?_⟩;cases hd:r.d<;>rw[hd]at h2<;>first|rfl|(simp[nL]at h2;done)
  .have h3:nL r.d=3:=by
    cases hd:r.d<;>rw[hd]at h0 h2<;>first|(simp_all [nL];done)|(rw[hd]at hp;simp[db,cW]at hp)
   cases hl:lays r.d with
   |true=>
    rcases aaq h3 hp with h|h
    .exact .inl ⟨h,rfl⟩
    .exact .inr ⟨h,h3⟩
   |false=>exact .inr ⟨UM h3 hl hp,h3⟩
def afF{x:bK}{dst:Option Nat}{v:DV}(h:∀d,dst=some d->Mj x≠some d):x.ev (cO ρ dst v)=x.ev ρ:=by
 cases x with
 |wW d=>rfl
 |tmp t=>
  cases dst with
  |none=>rfl
  |some d=>
   have:=h d rfl;simp only[Mj,ne_eq,cq]at this;simp[bK.ev,cO,this]
def Ae{x y:RO}(h:jf x y=true){d:Nat}(hd:x.dst=some d):d∉Bh y:=by
 simp only[jf,hd]at h;simpa using h
def xJ{x y:RO}(h:jf x y=true)(ρ:dW)(v:DV):fQ y.guard (cO ρ x.dst v)=fQ y.guard ρ:=by
 cases hg:y.guard with
 |none=>rfl
 |some g=>
  obtain⟨s,lI⟩:=g;cases hd:x.dst with
  |none=>rfl
  |some d=>
   have hn:=Ae h hd;have:s≠d:=λe=>hn (by simp[Bh,hg,e]);simp[fQ,cO,this]
def qu{x y:RO}(h1:jf x y=true)(ρ:dW)(v:DV):∀o∈bT y.d,o.ev (cO ρ x.dst v)=o.ev ρ:=λo ho=>afF λd hd hs=>by
  have:=Ae h1 hd;exact this (by simp only[Bh,lF,ZV];exact .inl ⟨o,ho,hs⟩)
def pH{x y:RO}(h1:jf x y=true)(ρ:dW)(v:DV):dN y (cO ρ x.dst v)↔dN y ρ:=by
 unfold dN;cases y.km with
 |none=>rfl
 |some l=>
  constructor
  .intro h o ho n hn;exact h o ho n (by rw[qu h1 ρ v o ho];exact hn)
  .intro h o ho n hn;exact h o ho n (by rw[qu h1 ρ v o ho]at hn;exact hn)
def Eb{x y:RO}(hd:AO x.km y.km=true)(tx:dN x ρ)(ty:dN y ρ){o p:bK}(ho:o∈bT x.d)(hp:p∈bT y.d){n:Nat}(h1:n∈br (o.ev ρ))(h2:n∈br (p.ev ρ)):False:=by
 unfold AO at hd;unfold dN at tx ty;cases hx:x.km with
 |none=>simp[hx]at hd
 |some a=>
  cases hy:y.km with
  |none=>simp[hx,hy]at hd
  |some b=>
   simp only[hx,hy]at hd tx ty;have:=Jf.1 (Jf.1 hd n (tx o ho n h1)) n (ty p hp n h2);simp at this
def rG{x:RO}{t:Nat}{o:Ob}(h3x:nL x.d=3)(Tn:gm x=true)(Cp:x.dst.isSome=true->False)
  (Ml:(db Γ x.d (bQ aP x.dst) st.tmps st.ab).put=some (t,o)) (h5:t=bQ aP x.dst) {C:Prop} (k:∀a∈bT x.d,t∈br (a.ev st.tmps)->C):C:=by
 cases hdx:x.dst with
 |some d=>exact(Cp (by simp[hdx])).elim
 |none=>
  have:lays x.d=false:=by simpa [gm,hdx]using Tn
  obtain⟨a,ha,hn⟩:=Mi h3x this Ml;exact k a ha hn
def UO{y:RO}(hcy:tY y=true)(hR:Co st):∀o∈bT y.d,fc st.ab (o.ev st.tmps):=λo ho=>by
 have:=Jf.1 hcy o ho;cases o with
 |tmp t=>exact hR t
 |wW d=>cases d<;>first|(simp[ad0]at this;done)|simp[bK.ev,fc]
def aar:nL d≠4↔qP d=false:=by cases d<;>simp[nL,qP]
def Mm{UL:dW}{todo:List (aG)}(h:∀x∈bT d,x.ev ρ=x.ev UL):zL Γ d ρ ab todo=zL Γ d UL ab todo:=by
 cases d<;>first|rfl|skip
 case callS f xs=>simp only[zL,ke (xs:=xs) h]
 case entryM x=>simp only[zL,h x (by simp[bT])]
 case callv x xs=>
  have h1:=h x (by simp[bT]);have h2:=ke (xs:=xs) (λy hy=>h y (by simp[bT,hy]));simp only[zL,h1,h2]
def RB{f:FuncId}{xs:List bK}{name:Nat}{t:Nat}{o:Ob}(h:(db Γ (.callF f xs) name ρ ab).put=some (t,o)):t=name:=by
 simp only[db,oQ]at h
 (repeat' split at h)<;>simp_all [cW]
def RC{x y:RO}(hi:kO x y=true)(Lk:qP x.d=false)(wp:qP y.d=false)(hcy:tY y=true)(Tn:gm x=true)(hR:Co st)(hf:OZ aP x st)(v:DV)(td:List (aG))(ty:dN y st.tmps){p:Option (Nat×Ob)}(hp:p=none\/(p=(od Γ aP x st).put/\dN x st.tmps)):
  od Γ aP y ⟨cO st.tmps x.dst v,cC st.ab p,td⟩=od Γ aP y st:=by
 simp only[kO,mA,AF,ZcA]at hi;obtain⟨⟨⟨h1,h2⟩,h3⟩,h4⟩:=hi;have ZK:=qu h1 st.tmps v;have atU:=UO hcy hR;unfold od;simp only;rw[yQ ZK];rcases hp with rfl|⟨rfl,tx⟩
 .rfl
 .cases Ml:(od Γ aP x st).put with
  |none=>rfl
  |some q=>
   obtain⟨t,o⟩:=q;by_cases hy:nL y.d=0\/nL y.d=2
   .exact Cn hy
   .rcases Bi Ml with⟨rfl,hl⟩|⟨dd,h3x⟩
    .refine aao (λr hr=>?_) atU;have hds:x.dst.isSome=true:=by simpa [gm,hl]using Tn
     have xI:=hf hds;simp only[cC];rw[iK];rintro rfl;exact hr xI
    .rcases h4 with(h4|h4)|h4
     .exfalso;have:nL y.d=1\/nL y.d=3:=by
       have:=aar.2 wp;cases hd:y.d<;>rw[hd]at hy this<;>simp_all [nL]
      rcases this with h|h<;>simp[h3x,h,Mk]at h4
     .refine yR λp hp n hn=>?_;simp only[cC];rw[iK];rintro rfl;unfold od at Ml;rcases uL h3x Ml with h5|⟨o',j5,Ck⟩
      .exact rG h3x Tn (λe=>dd (by rw[show n=nm aP x from h5];exact hf e)) Ml h5 (λa ha Ck=>Eb h4.1 tx ty ha hp Ck hn)
      .exact Eb h4.1 tx ty j5 hp Ck hn
     .exfalso;unfold UN at h4;rw[h3x]at h4;have h5:isF x.d=true:=by
       cases hF:isF x.d
       .rw[hF]at h4;simp at h4
       .rfl
      have h6:lays x.d=true:=by
       cases hd:x.d<;>rw[hd]at h5<;>first|rfl|(simp[isF]at h5;done)
      have h7:=hf (by simpa [gm,h6]using Tn);have h8:t=nm aP x:=by
       unfold od at Ml;cases hd:x.d<;>rw[hd]at h5 Ml<;>first|(simp[isF]at h5;done)|skip
       exact RB Ml
      rw[h8]at dd;exact dd h7
def UP{x y:RO}(hi:kO x y=true)(h4:qP x.d=true):nL y.d=0\/(nL y.d=1/\AO x.km y.km=true):=by
 have c4:nL x.d=4:=by cases hx:x.d<;>rw[hx]at h4<;>simp_all [nL,qP]
 simp only[kO,mA,AF,ZcA]at hi;rcases hi.2 with(h|h)|h
 .simp[Mk,c4]at h;exact .inl h.1
 .simp[ok4,c4]at h;exact .inr ⟨h.2.1,h.1⟩
 .exfalso;have:isF x.d=false:=by cases hx:x.d<;>rw[hx]at h4<;>simp_all [isF,qP]
  simp[UN,this,c4]at h
def RD(a b:Nat):Mk a b=Mk b a:=by
 unfold Mk;cases a==3<;>cases b==3<;>cases a==1<;>cases b==1<;>cases a==4<;>cases b==4<;>cases a !=0<;>cases b !=0<;>rfl
def Cq{x y:RO}(h:pG x y=true):pG y x=true:=by
 unfold pG at h⊢;cases hx:x.dst<;>cases hy:y.dst<;>simp_all
 exact λe=>h e.symm
def RE(a b:Option (cN)):AO a b=AO b a:=by
 cases a with
 |none=>cases b<;>rfl
 |some a=>
  cases b with
  |none=>rfl
  |some b=>
   rw[ZcB];simp only[AO,Jf,bne_iff_ne,ne_eq];exact⟨λh n hn m hm e=>h m hm n hn e.symm,λh n hn m hm e=>h m hm n hn e.symm⟩
def wq{x y:RO}(h:kO x y=true):kO y x=true:=by
 simp only[kO,mA]at h⊢;refine⟨⟨⟨h.1.1.2,h.1.1.1⟩,Cq h.1.2⟩, ?_⟩;rw[RD,RE];have:=h.2;simp only[ZcA,mA]at this⊢;rcases this with(h|h)|h
 .exact .inl (.inl h)
 .refine .inl (.inr ⟨h.1, ?_⟩);simp only[ok4,mA]at h⊢;exact⟨h.2.2,h.2.1⟩
 .refine .inr ?_;unfold UN at h⊢;rw[Bool.or_comm];exact h
def vp(Γ:kv)(aP:Nat)(r:RO)(st:RS):DV×Option (Nat×Ob):=
 match fQ r.guard st.tmps with
 |some true=>((od Γ aP r st).val,(od Γ aP r st).put)
 |_=>(.skip,none)
def Eh(Γ:kv)(r:RO)(st:RS):DV×bS×List (aG):=
 match fQ r.guard st.tmps with
 |some true=>((zL Γ r.d st.tmps st.ab st.todo).val,(zL Γ r.d st.tmps st.ab st.todo).ab,(zL Γ r.d st.tmps st.ab st.todo).todo)
 |_=>(.skip,st.ab,st.todo)
def m0(h4:qP r.d=false)(h:cI Γ aP r st):dX Γ aP r st=⟨cO st.tmps r.dst (vp Γ aP r st).1,cC st.ab (vp Γ aP r st).2,st.todo⟩:=by
 unfold cI at h;unfold dX vp;cases hw:fQ r.guard st.tmps with
 |none=>rw[hw]at h;exact h.elim
 |some b=>cases b<;>simp[post,h4,cC]
def tZ(h4:qP r.d=true)(h:cI Γ aP r st):dX Γ aP r st=⟨cO st.tmps r.dst (Eh Γ r st).1,(Eh Γ r st).2.1,(Eh Γ r st).2.2⟩:=by
 unfold cI at h;unfold dX Eh;cases hw:fQ r.guard st.tmps with
 |none=>rw[hw]at h;exact h.elim
 |some b=>cases b<;>simp[post,h4]
def GS(r:RO)(st:RS):(vp Γ aP r st).2=none\/(vp Γ aP r st).2=(od Γ aP r st).put:=by
 unfold vp;split
 .exact .inr rfl
 .exact .inl rfl
def GU(h0:nL r.d=0\/nL r.d=1):(vp Γ aP r st).2=none:=by
 rcases GS (Γ:=Γ) (aP:=aP) r st with h|h
 .exact h
 .rw[h];exact Je h0
def rH(h:cI Γ aP r st):(vp Γ aP r st).2=none\/((vp Γ aP r st).2=(od Γ aP r st).put/\dN r st.tmps):=by
 unfold cI at h;unfold vp;cases hw:fQ r.guard st.tmps with
 |none=>rw[hw]at h;exact h.elim
 |some b=>
  cases b with
  |false=>exact .inl rfl
  |true=>rw[hw]at h;exact .inr ⟨rfl,h.2.1⟩
def RF(h:nL d=0):qP d=false:=aar.1 (by rw[h];decide)
def Mn{x y:RO}(ha:jf x y=true)(h0:nL y.d=0)(v:DV)(aM:bS)(td:List (aG)):
  vp Γ aP y ⟨cO st.tmps x.dst v,aM,td⟩=vp Γ aP y st/\(cI Γ aP y ⟨cO st.tmps x.dst v,aM,td⟩↔cI Γ aP y st):=by
 have hw:fQ y.guard (cO st.tmps x.dst v)=fQ y.guard st.tmps:=xJ ha _ _;have ht:=pH (y:=y) ha st.tmps v;have he:od Γ aP y ⟨cO st.tmps x.dst v,aM,td⟩=od Γ aP y st:=by
  unfold od;simp only;rw[yQ (qu ha st.tmps v)];exact Cn (.inl h0)
 refine⟨?_, ?_⟩
 .unfold vp;simp only[hw,he]
 .unfold cI post tV;simp only[hw,he,ht,RF h0,Ig,A0,ZdJ]
def Mo{x y:RO}(ha:jf x y=true)(h1:nL y.d=1)(hd:AO x.km y.km=true)(v:DV)(aM:bS)(td:List (aG))(hk:∀l,x.km=some l->∀n,n∉l->aM n=st.ab n)
  (oy:cI Γ aP y st\/cI Γ aP y ⟨cO st.tmps x.dst v,aM,td⟩):
  vp Γ aP y ⟨cO st.tmps x.dst v,aM,td⟩=vp Γ aP y st/\cI Γ aP y ⟨cO st.tmps x.dst v,aM,td⟩/\cI Γ aP y st:=by
 have hw:fQ y.guard (cO st.tmps x.dst v)=fQ y.guard st.tmps:=xJ ha _ _;have ht:=pH (y:=y) ha st.tmps v;have wp:qP y.d=false:=aar.1 (by rw[h1];decide);have he:dN y st.tmps->od Γ aP y ⟨cO st.tmps x.dst v,aM,td⟩=od Γ aP y st:=λty=>by
  unfold od;simp only;rw[yQ (qu ha st.tmps v)];refine yR λp hp n hn=>?_;unfold AO at hd;unfold dN at ty;cases hx:x.km with
  |none=>simp[hx]at hd
  |some a=>
   cases hyt:y.km with
   |none=>simp[hx,hyt]at hd
   |some b=>
    simp only[hx,hyt]at hd ty;refine hk a hx n λhna=>?_;have:=Jf.1 (Jf.1 hd n hna) n (ty p hp n hn);simp at this
 unfold cI post tV at oy⊢;unfold vp;simp only[hw,ht,wp,Ig,A0,ZdJ,ZI]at oy⊢;cases hb:fQ y.guard st.tmps with
 |none=>simp only[hb,or_self]at oy
 |some b=>
  cases b with
  |false=>simp
  |true=>
   simp only[hb]at oy⊢;have ty:dN y st.tmps:=by rcases oy with h|h<;>exact h.2
   have he:=he ty;simp only[he]at oy⊢;have:=oy.elim id id;exact⟨trivial,this,this⟩
def UQ{x:RO}(h4:qP x.d=true)(ox:cI Γ aP x st):∀l,x.km=some l->∀n,n∉l->(Eh Γ x st).2.1 n=st.ab n:=by
 unfold cI post tV at ox;unfold Eh;intro l hl n hn;cases hb:fQ x.guard st.tmps with
 |none=>simp[hb]at ox
 |some b=>
  cases b with
  |false=>rfl
  |true=>
   simp only[hb,h4,Eg]at ox;exact ox.2.2 trivial l hl n hn
def UR{x y:RO}(hi:kO x y=true)(h4:qP x.d=true)(ox:cI Γ aP x st)(oy:cI Γ aP y st\/cI Γ aP y ⟨cO st.tmps x.dst (Eh Γ x st).1,(Eh Γ x st).2.1,(Eh Γ x st).2.2⟩):
  vp Γ aP y ⟨cO st.tmps x.dst (Eh Γ x st).1,(Eh Γ x st).2.1,(Eh Γ x st).2.2⟩=vp Γ aP y st/\cI Γ aP y ⟨cO st.tmps x.dst (Eh Γ x st).1,(Eh Γ x st).2.1,(Eh Γ x st).2.2⟩/\cI Γ aP y st/\(nL y.d=0\/nL y.d=1):=by
 have ha:jf x y=true:=by simp only[kO,mA]at hi;exact hi.1.1.1
 rcases UP hi h4 with h|⟨h,hd⟩
 .obtain⟨e1,e2⟩:=Mn (Γ:=Γ) (aP:=aP) (st:=st) ha h (Eh Γ x st).1 (Eh Γ x st).2.1 (Eh Γ x st).2.2;have:=oy.elim id e2.1;exact⟨e1,e2.2 this,this,.inl h⟩
 .obtain⟨e1,e2,e3⟩:=Mo ha h hd _ _ _ (UQ h4 ox) oy;exact⟨e1,e2,e3,.inr h⟩
def after{x y:RO}(hi:kO x y=true)(Lk:qP x.d=false)(wp:qP y.d=false)(hcy:tY y=true)(Tn:gm x=true)(hR:Co st)(hf:OZ aP x st)(ox:cI Γ aP x st)(oy:cI Γ aP y st\/cI Γ aP y (dX Γ aP x st)):
  vp Γ aP y (dX Γ aP x st)=vp Γ aP y st/\cI Γ aP y (dX Γ aP x st)/\cI Γ aP y st:=by
 rw[m0 Lk ox]at oy⊢;have ha:jf x y=true:=by simp only[kO,mA]at hi;exact hi.1.1.1
 have hw:fQ y.guard (cO st.tmps x.dst (vp Γ aP x st).1)=fQ y.guard st.tmps:=xJ ha _ _;have ht:=pH (y:=y) ha st.tmps (vp Γ aP x st).1;have he:dN y st.tmps->_:=λty=>RC (Γ:=Γ) hi Lk wp hcy Tn hR hf (vp Γ aP x st).1 st.todo ty (rH ox);generalize vp Γ aP x st=q at oy hw ht he⊢;unfold cI post tV at oy⊢;unfold vp;simp only[hw,ht,wp,Ig,A0,ZdJ,ZI]at oy⊢;cases hb:fQ y.guard st.tmps with
 |none=>simp only[hb,or_self]at oy
 |some b=>
  cases b with
  |false=>simp
  |true=>
   simp only[hb]at oy⊢;have ty:dN y st.tmps:=by rcases oy with h|h<;>exact h.2
   have he:=he ty;simp only[he]at oy⊢;have:=oy.elim id id;exact⟨trivial,this,this⟩
def yT{x y:RO}(h3:pG x y=true)(f:dW)(u v:DV):cO (cO f x.dst u) y.dst v=cO (cO f y.dst v) x.dst u:=by
 funext t;cases hx:x.dst<;>cases hy:y.dst<;>simp only[cO]
 rename_i d e;have hde:d≠e:=by simpa [pG,hx,hy]using h3
 by_cases h1:t=d<;>by_cases h2:t=e<;>simp_all
def US{x y:RO}(ha:jf y x=true)(v:DV):Eh Γ x ⟨cO st.tmps y.dst v,st.ab,st.todo⟩=Eh Γ x st/\(qP x.d=true->(cI Γ aP x ⟨cO st.tmps y.dst v,st.ab,st.todo⟩↔cI Γ aP x st)):=by
 have hw:fQ x.guard (cO st.tmps y.dst v)=fQ x.guard st.tmps:=xJ ha _ _;have ht:=pH (y:=x) ha st.tmps v;have hs:zL Γ x.d (cO st.tmps y.dst v) st.ab st.todo=zL Γ x.d st.tmps st.ab st.todo:=Mm (qu ha st.tmps v);refine⟨?_,λh4=>?_⟩
 .unfold Eh;simp only[hw,hs]
 .unfold cI post;simp only[hw,hs,ht,h4,Eg]
theorem swap{x y:RO}{st:RS}(hi:kO x y=true)(hcx:tY x=true)(hcy:tY y=true)(Tn:gm x=true)(ZW:gm y=true)(hR:Co st)(Ll:OZ aP x st)(hfy:OZ aP y st)
  (ox:cI Γ aP x st) (oy:cI Γ aP y (dX Γ aP x st)):
  cI Γ aP y st/\cI Γ aP x (dX Γ aP y st)/\dX Γ aP y (dX Γ aP x st)=dX Γ aP x (dX Γ aP y st):=by
 have wY:=hi;simp only[kO,mA]at wY;obtain⟨⟨⟨h1,h2⟩,h3⟩,h4⟩:=wY;by_cases Lk:qP x.d=true
 .rw[tZ Lk ox]at oy⊢;obtain⟨e1,_,UT,y0⟩:=UR hi Lk ox (.inr oy);have wp:qP y.d=false:=aar.1 (by rcases y0 with h|h<;>rw[h]<;>decide)
  rw[m0 wp oy,m0 wp UT,e1,GU y0];obtain⟨e3,e4⟩:=US (Γ:=Γ) (aP:=aP) (x:=x) (y:=y) (st:=st) h2 (vp Γ aP y st).1;have ox':=(e4 Lk).2 ox;refine⟨UT,ox', ?_⟩;simp only[cC]at ox'⊢;rw[tZ Lk ox',e3];simp only;rw[yT h3]
 .have Lk:qP x.d=false:=by simpa using Lk
  by_cases wp:qP y.d=true
  .have x0:nL x.d=0\/nL x.d=1:=by
    rcases UP (wq hi) wp with h|⟨h,_⟩
    .exact .inl h
    .exact .inr h
   rw[m0 Lk ox,GU x0]at oy⊢;simp only[cC]at oy⊢;obtain⟨e3,e4⟩:=US (Γ:=Γ) (aP:=aP) (x:=y) (y:=x) (st:=st) h1 (vp Γ aP x st).1;have UT:=(e4 wp).1 oy;rw[tZ wp oy,tZ wp UT,e3];obtain⟨e1,ox',_,_⟩:=UR (wq hi) wp UT (.inl ox);refine⟨UT,ox', ?_⟩;rw[m0 Lk ox',e1,GU x0];simp only[cC];rw[yT h3]
  .have wp:qP y.d=false:=by simpa using wp
   have a1:=after (Γ:=Γ) hi Lk wp hcy Tn hR Ll ox (.inr oy);have UT:=a1.2.2;have a2:=after (Γ:=Γ) (wq hi) wp Lk hcx ZW hR hfy UT (.inl ox);have ox':=a2.2.1;refine⟨UT,ox', ?_⟩;have tx:=rH ox;have ty:=rH UT;rw[m0 wp oy,m0 Lk ox',a1.1,a2.1,m0 Lk ox,m0 wp UT]
   congr 1
   .exact yT h3 _ _ _
   .funext t;cases hx:(vp Γ aP x st).2 with
    |none=>cases(vp Γ aP y st).2<;>rfl
    |some p=>
     cases hy:(vp Γ aP y st).2 with
     |none=>rfl
     |some q=>
      obtain⟨t1,o1⟩:=p;obtain⟨t2,o2⟩:=q;have e1:=Bi (((GS (Γ:=Γ) (aP:=aP) x st).resolve_left (by simp[hx])).symm.trans hx);have e2:=Bi (((GS (Γ:=Γ) (aP:=aP) y st).resolve_left (by simp[hy])).symm.trans hy);have dd:t1≠t2:=by
       rcases e1 with⟨rfl,l1⟩|⟨n1,c1⟩<;>rcases e2 with⟨rfl,l2⟩|⟨n2,c2⟩
       .have s1:x.dst.isSome=true:=by simpa [gm,l1]using Tn
        have s2:y.dst.isSome=true:=by simpa [gm,l2]using ZW
        obtain⟨d1,RG⟩:=Tz.1 s1;obtain⟨d2,hd2⟩:=Tz.1 s2;have:d1≠d2:=by simpa [pG,RG,hd2]using h3
        simp[nm,bQ,RG,hd2,this]
       .rintro rfl;exact n2 (Ll (by simpa [gm,l1]using Tn))
       .rintro rfl;exact n1 (hfy (by simpa [gm,l2]using ZW))
       .simp only[ZcA,mA]at h4;rcases h4 with(h4|h4)|h4
        .simp[Mk,c1,c2]at h4
        .rintro rfl;have p1:=(tx.resolve_left (by simp[hx])).1.symm.trans hx;have p2:=(ty.resolve_left (by simp[hy])).1.symm.trans hy;have q1:=(tx.resolve_left (by simp[hx])).2;have q2:=(ty.resolve_left (by simp[hy])).2;unfold od at p1 p2;rcases uL c1 p1 with h5|⟨o,ho,hn⟩
         .exact rG c1 Tn (λe=>n1 (by rw[show t1=nm aP x from h5];exact Ll e)) p1 h5 (λo ho hn=>by
           rcases uL c2 p2 with h6|⟨o',j5,Ck⟩
           .exact rG c2 ZW (λe=>n2 (by rw[show t1=nm aP y from h6];exact hfy e)) p2 h6 (λo' j5 Ck=>Eb h4.1 q1 q2 ho j5 hn Ck)
           .exact Eb h4.1 q1 q2 ho j5 hn Ck)
         .rcases uL c2 p2 with h6|⟨o',j5,Ck⟩
          .exact rG c2 ZW (λe=>n2 (by rw[show t1=nm aP y from h6];exact hfy e)) p2 h6 (λo' j5 Ck=>Eb h4.1 q1 q2 ho j5 hn Ck)
          .exact Eb h4.1 q1 q2 ho j5 hn Ck
        .simp[UN,c1,c2]at h4
      simp only[cC];by_cases h1:t=t1<;>by_cases h2:t=t2<;>simp_all
end
end
section
variable{ops:Array Oper}{r:RO}{st:RS}{Q:Exit->Act->World->Prop}{rs:cA}{id:Nat}{listed:Array Bool}
variable [bD] [dF]
def Bj(ops:Array Oper)(o:Oper):Option (Option (Nat×Bool)):=
 match o.guard with
 |none=>some none
 |some (j,b)=>((ops[j]?).bind (·.dst)).map λs=>some (s,b)
def eR(P:Program)(ops:Array Oper)(o:Oper):Option RO:=do
 let d<-dq P o
 let g<-Bj ops o
 pure ⟨d,o.dst,g,(o.after.toList.filter (Region.binds .any ·)).map (·.on),none⟩
def bare(r:RO):RO:=⟨Ac r.d,r.dst,r.guard,r.after,none⟩
def fO(P:Program)(ops:Array Oper):Option (cA):=ops.toList.mapM (eR P ops)
def jR(Γ:kv)(aP:Nat):cA->RS->Prop
 |[],_=>True
 |r::rs,st=>cI Γ aP r st/\jR Γ aP rs (dX Γ aP r st)
def dQ(Γ:kv)(aP:Nat):cA->RS->RS
 |[],st=>st
 |r::rs,st=>dQ Γ aP rs (dX Γ aP r st)
def oe(nt:Nat)(r:RO):Bool:=tY r&&gm r&&(match r.dst with|some d=>decide (d<nt)|none=>true)
def fP:cA->Bool
 |[]=>true
 |r::rs=>rs.all (pG r)&&fP rs
def oX(iz:cN)(as:cN):Nat:=as.foldl (λm j=>m|||(1<<<j)|||iz.getD j 0) 0
def nv(rs:cA):cN:=rs.foldl (λiz r=>iz++[oX iz r.after]) []
def uM(rs:cA)(ms:cN):Bool:=
 (List.range rs.length).all λi=>match rs[i]?,ms[i]? with
  |some y,some m=>y.after.all (·<i)&&(List.range i).all λx=>m.testBit x||(match rs[x]? with|some r=>kO r y|none=>false)
  |_,_=>false
def eC(nt:Nat)(iL:Bool)(rs:cA):Bool:=rs.all (oe nt)&&fP rs&&(!iL||uM rs (nv rs))
section
variable{P:Program}{κ:oT}{nt:Nat}{Γ:kv}{aP:Nat}{ro:Option Nat}{n:Nat}
def aas{o:Oper}{a:Act}{w:World}{K:Act->World->Prop}(h:o.wpIn (vf ro) n P a w K (λ_ _ _=>False)):∃a w,K a w:=by
 have h:=h.2;generalize (o.semAt (vf ro).round a.eval).run P w=r at h;cases r with
 |ok x w'=>
  cases x<;>simp only[Oper.uponIn]at h
  case value v=>exact⟨_,_,h⟩
  case skip=>exact⟨_,_,h⟩
  case defer d=>exact⟨_,_,h⟩
  case enter f args=>
   obtain⟨_,_,hc⟩:=h;obtain⟨e,w2,fr,hR,_⟩:=hc [] (λd hd=>by cases hd);cases e with
   |returned v=>exact⟨_,_,hR⟩
   |panicked c=>exact hR.elim
   |outgrown=>obtain⟨_,_,hf⟩:=hR;exact hf.elim
  case row r args=>
   obtain⟨_,hc⟩:=h;obtain⟨v,w2,hR,_⟩:=hc default [] (λd hd=>by cases hd);exact⟨_,_,hR⟩
  case round l f t as b=>
   obtain⟨_,_,hc⟩:=h;obtain⟨e,w2,hR,_⟩:=hc default [] (λd hd=>by cases hd);cases e with
   |returned v=>exact⟨_,_,hR⟩
   |panicked c=>exact hR.elim
   |outgrown=>obtain⟨_,_,hf⟩:=hR;exact hf.elim
 |halt x w'=>cases x<;>simp only[Oper.uponIn]at h
def kT{o:Oper}(h:eR P ops o=some (bare r)):dq P o=some (Ac r.d)/\Bj ops o=some r.guard/\r.dst=o.dst/\r.after=(o.after.toList.filter (Region.binds .any ·)).map (·.on):=by
 simp only[eR,vj,kw,jE,cq]at h;obtain⟨d,hd,g,hg,he⟩:=h;obtain⟨d',ds,gd,af,tc⟩:=r;simp only[bare,RO.mk.injEq,ZI]at he;obtain⟨rfl,rfl,rfl,rfl⟩:=he;exact⟨hd,hg,rfl,rfl⟩
def Fc{o:Oper}{a:Act}{w:World}{L:Loc}(hg:Bj ops o=some r.guard)(h:fz κ nt st a w L){b:Bool}(hw:fQ r.guard st.tmps=some b):
  Region.wanted o (yielded ops a.tmps)=b:=by
 unfold Bj at hg;cases ho:o.guard with
 |none=>
  rw[ho]at hg;simp only[cq]at hg;rw[<-hg]at hw;simp only[fQ,cq]at hw;simp[Region.wanted,ho,hw]
 |some jb=>
  obtain⟨j,lI⟩:=jb;rw[ho]at hg;simp only[ju]at hg;obtain⟨s,hs,vx⟩:=hg;rw[<-vx]at hw;simp only[fQ]at hw;obtain⟨W,base,M,w0,_,h0⟩:=h.ex;have ip:=h0.tmps s;simp only[Region.wanted,ho,yielded,hs,ZcO];split at hw
  .rename_i x hx;rw[hx]at ip;simp only[aD,be]at ip;simp only[cq]at hw;have:a.tmps[s]? =some (.bool x):=by
    rw[vq]at ip;cases he:a.tmps[s]? with
    |none=>rw[he]at ip;simp[Go.undef]at ip
    |some y=>rw[he]at ip;simpa using ip
   rw[this,<-hw];simp
  .rename_i hx;rw[hx]at ip;simp only[aD]at ip;simp only[cq]at hw;subst hw;rw[vq]at ip;cases he:a.tmps[s]? with
   |none=>simp
   |some y=>
    rw[he]at ip;simp only[GA]at ip;subst ip;simp[Go.undef]
  .cases hw
def t6(bb:aw P Γ)(AL:κ.Good P){i:Nat}{o:Oper}(ho:ops[i]? =some o)(hr:eR P ops o=some (bare r))(Mh:oe nt r=true){a:Act}{w:World}{L:Loc}(h:fz κ nt st a w L)
  (eO:st.ab (nm aP r)=none) (aN:cI Γ aP r st) {K:Act->World->Prop} (hK:∀a' w' L',fz κ nt (dX Γ aP r st) a' w' L'->K a' w'):
  wpOpIn (vf ro) n P ops Q i K a w:=by
 obtain⟨hd,hg,lG,_⟩:=kT hr;have AG:∀d,r.dst=some d->d<nt:=by
  intro d hd;simp only[oe,hd,mA,yN]at Mh;exact Mh.2
 unfold wpOpIn;simp only[ho];unfold cI at aN;unfold dX at hK;cases hw:fQ r.guard st.tmps with
 |none=>rw[hw]at aN;exact aN.elim
 |some b=>
  rw[hw]at aN hK;rw[Fc hg h hw];cases b with
  |true=>
   simp only[Eg]at aN hK⊢;exact OW bb AL hd lG h AG eO aN.1 hK
  |false=>
   simp only[Ig,A0];refine⟨oU o w _, ?_⟩;rw[<-lG];exact hK _ _ _ (h.skip r.dst AG)
def yU(bb:aw P Γ)(AL:κ.Good P){o:Oper}(hr:eR P ops o=some (bare r))(Mh:oe nt r=true)(h:∃a w L,fz κ nt st a w L)(eO:st.ab (nm aP r)=none)(aN:cI Γ aP r st):
  ∃a w L,fz κ nt (dX Γ aP r st) a w L:=by
 obtain⟨a,w,L,h⟩:=h;obtain⟨hd,hg,lG,_⟩:=kT hr;have AG:∀d,r.dst=some d->d<nt:=by
  intro d hd;simp only[oe,hd,mA,yN]at Mh;exact Mh.2
 unfold cI at aN;unfold dX;cases hw:fQ r.guard st.tmps with
 |none=>rw[hw]at aN;exact aN.elim
 |some b=>
  rw[hw]at aN;cases b with
  |true=>
   have:=OW (ro:=none) (n:=0) (K:=λa' w'=>∃L',fz κ nt ⟨cO st.tmps r.dst (post Γ aP r st).val,(post Γ aP r st).ab,(post Γ aP r st).todo⟩ a' w' L') (Q:=λ_ _ _=>False) bb AL hd lG h AG eO aN.1 (λa' w' L' h'=>⟨L',h'⟩);obtain⟨a',w',L',h'⟩:=aas this;exact⟨a',w',L',h'⟩
  |false=>exact⟨_,_,_,h.skip r.dst AG⟩
def Cr(h:∃a w L,fz κ nt st a w L):Co st:=by
 obtain⟨a,w,L,h⟩:=h;obtain⟨W,base,M,w0,_,h0⟩:=h.ex;exact λt=>fc.bJ _ _ (h0.tmps t)
def kU(aP:Nat)(rs:cA)(st:RS):Prop:=st.ab aP=none/\∀r∈rs,st.ab (nm aP r)=none
def yV(bb:aw P Γ)(aN:cI Γ aP r st){t:Nat}(ht:st.ab t=none)(hn:lays r.d=true->t≠nm aP r):(dX Γ aP r st).ab t=none:=by
 by_cases h4:qP r.d=true
 .rw[tZ h4 aN];unfold cI post at aN;unfold Eh;cases hw:fQ r.guard st.tmps with
  |none=>rw[hw]at aN;exact aN.elim
  |some b=>
   cases b with
   |false=>exact ht
   |true=>
    rw[hw]at aN;simp only[h4,Eg]at aN⊢;have aN:=aN.1;cases hd:r.d<;>rw[hd]at h4 aN<;>first|(simp[qP]at h4;done)|skip
    case callS f args=>
     simp only[zL]at aN⊢;cases hg:Γ f with
     |none=>exact ht
     |some s=>
      simp only[hg]at aN⊢;cases hk:s.st with
      |none=>exact ht
      |some k=>
       simp only[hk]at aN⊢;exact((bb f s hg).st k hk _ _ aN).2 t ht
    case callv x args=>
     simp only[zL]at aN⊢;cases hx:x.ev st.tmps with
     |AI f cz=>
      rw[hx]at aN;cases f with
      |func g=>
       simp only at aN⊢;cases hg:Γ g with
       |none=>exact ht
       |some s=>
        simp only[hg]at aN⊢;cases hk:s.st with
        |none=>exact ht
        |some k=>
         simp only[hk]at aN⊢;exact((bb g s hg).st k hk _ _ aN).2 t ht
      |_=>exact ht
     |BZ=>
      simp only;split<;>exact ht
     |v t=>
      cases t with
      |fn f cz=>
       rw[hx]at aN;cases f with
       |func g=>
        simp only at aN⊢;cases hg:Γ g with
        |none=>exact ht
        |some s=>
         simp only[hg]at aN⊢;cases hk:s.st with
         |none=>exact ht
         |some k=>
          simp only[hk]at aN⊢;exact((bb g s hg).st k hk _ _ aN).2 t ht
       |_=>exact ht
      |tf rv=>
       rw[hx]at aN;simp only at aN⊢;cases Tm:(dF.k:Option (Nat×(bW->bS->iw)))with
       |none=>exact ht
       |some p=>
        obtain⟨l,k⟩:=p;simp only[Tm]at aN⊢;exact dF.br _ _ Tm _ _ aN.2.2.1 t ht
      |_=>exact ht
     |_=>exact ht
    case entryM x=>exact ht
 have h4:qP r.d=false:=by simpa using h4
 rw[m0 h4 aN];cases hp:(vp Γ aP r st).2 with
 |none=>exact ht
 |some p=>
  obtain⟨t1,o1⟩:=p;have e1:=Bi (((GS (Γ:=Γ) (aP:=aP) r st).resolve_left (by simp[hp])).symm.trans hp);simp only[cC];rw[iK]
  .exact ht
  .rintro rfl;rcases e1 with⟨h1,h2⟩|⟨h1,_⟩
   .exact hn h2 h1
   .exact h1 ht
def uN(bb:aw P Γ)(hl:gm r=true)(aN:cI Γ aP r st)(dd:∀y∈rs,pG r y=true/\y.dst.isSome=true\/y.dst=none)(h:kU aP rs st):kU aP rs (dX Γ aP r st):=by
 have key:∀t,st.ab t=none->(lays r.d=true->t≠nm aP r)->(dX Γ aP r st).ab t=none:=λt ht hn=>yV bb aN ht hn;have Fd:lays r.d=true->∃d,r.dst=some d:=λhr=>Tz.1 (by simpa [gm,hr]using hl);refine⟨key _ h.1 λhr=>?_,λy hy=>key _ (h.2 y hy) λhr=>?_⟩
 .obtain⟨d,hd⟩:=Fd hr;simp[nm,bQ,hd];omega
 .obtain⟨d,hd⟩:=Fd hr;rcases dd y hy with⟨h1,h2⟩|h2
  .obtain⟨e,he⟩:=Tz.1 h2;have:d≠e:=by simpa [pG,hd,he]using h1
   simp[nm,bQ,hd,he];omega
  .simp[nm,bQ,hd,h2];omega
def rJ(h:fP (r::rs)=true):∀y∈rs,pG r y=true/\y.dst.isSome=true\/y.dst=none:=by
 intro y hy;simp only[fP,mA,Jf]at h;cases hd:y.dst with
 |none=>exact .inr rfl
 |some d=>exact .inl ⟨h.1 y hy,rfl⟩
def t7(bb:aw P Γ)(AL:κ.Good P){ops:Array Oper}{Q:Exit->Act->World->Prop}:∀(l:cN) (rs:cA),(∀(k:Nat) (i:Nat),l[k]? =some i->∃o r,ops[i]? =some o/\rs[k]? =some r/\eR P ops o=some (bare r))->rs.length=l.length->rs.all (oe nt)=true->fP rs=true->
  ∀(st:RS) (a:Act) (w:World) (L:Loc),fz κ nt st a w L->kU aP rs st->jR Γ aP rs st->(∀a' w' L',fz κ nt (dQ Γ aP rs st) a' w' L'->Q .normal a' w')->wpOpsIn (vf ro) n P ops Q l a w
 |[],rs,_,hl,_,_,st,a,w,L,h,_,_,hQ=>by
  have:rs=[]:=oK (by simpa using hl);subst this;exact hQ a w L h
 |i::l,[],_,hl,_,_,_,_,_,_,_,_,_,_=>by simp at hl
 |i::l,r::rs,hk,hl,dJ,dd,st,a,w,L,h,hf,aN,hQ=>by
  obtain⟨o,r',ho,nl,hc⟩:=hk 0 i rfl;simp only[Bd,cq]at nl;subst nl;simp only[ZdK,mA]at dJ;simp only[jR]at aN;have UU:gm r=true:=by have:=dJ.1;simp only[oe,mA]at this;exact this.1.2
  rw[wpOpsIn_cons];refine t6 bb AL ho hc dJ.1 h (hf.2 r (by simp)) aN.1 λa' w' L' h'=>?_;refine t7 bb AL l rs (λk j hj=>hk (k+1) j (by simpa using hj)) (by simpa using hl) dJ.2 (by simp only[fP,mA]at dd;exact dd.2) _ a' w' L' h' ?_ aN.2 hQ;exact uN bb UU aN.1 (rJ dd) ⟨hf.1,λy hy=>hf.2 y (by simp[hy])⟩
def oY(h:fO P ops=some (rs.map bare)):rs.length=ops.size/\∀(i:Nat) (o:Oper),ops[i]? =some o->∃r,rs[i]? =some r/\eR P ops o=some (bare r):=by
 unfold fO at h;have key:∀(l:List Oper) (rs:cA),l.mapM (eR P ops)=some rs->rs.length=l.length/\∀(i:Nat) (o:Oper),l[i]? =some o->∃r,rs[i]? =some r/\eR P ops o=some r:=by
  intro l;induction l with
  |nil=>intro rs h;simp at h;subst h;simp
  |cons x l ih=>
   intro rs h;simp only[Zbw,vj,kw,jE,cq]at h;obtain⟨r,hr,rs',mK,rfl⟩:=h;have:=ih rs' mK;refine⟨by simp[this.1],λi o ho=>?_⟩;cases i with
   |zero=>simp only[Bd,cq]at ho;subst ho;exact⟨r,rfl,hr⟩
   |succ i=>simpa using this.2 i o (by simpa using ho)
 have:=key _ _ h;refine⟨by simpa using this.1,λi o ho=>?_⟩;obtain⟨r,h1,h2⟩:=this.2 i o (by simpa using ho);simp only[ZbH,ju]at h1;obtain⟨q,h1,rfl⟩:=h1;exact⟨q,h1,h2⟩
def Jg(bb:aw P Γ)(AL:κ.Good P)(hc:fO P ops=some (rs.map bare))(aN:eC nt false rs=true){a:Act}{w:World}{L:Loc}(h:fz κ nt st a w L)
  (hf:kU aP rs st) (bO:jR Γ aP rs st) (hQ:∀a' w' L',fz κ nt (dQ Γ aP rs st) a' w' L'->Q .normal a' w'):(Code.region id ops false).wpIn (vf ro) n P Q a w:=by
 have hg:=oY hc;simp only[eC,mA]at aN;refine wpIn_region (t7 bb AL (List.range ops.size) rs (λk i hi=>?_) (by simpa using hg.1) aN.1.1 aN.1.2 st a w L h hf bO hQ);obtain⟨hk,Li⟩:=tp.1 hi;simp only[ZbF]at hk;simp only[ZbX]at Li;subst Li;obtain⟨r,h1,h2⟩:=hg.2 k ops[k] (by simp[hk]);exact⟨ops[k],r,by simp[hk],h1,h2⟩
def Cs(bb:aw P Γ)(AL:κ.Good P){ops:Array Oper}{r:RO}{post:cA}(hr:oe nt r=true):∀(pre:cA),(∀x∈pre,kO x r=true/\oe nt x=true/\∃o,eR P ops o=some (bare x))->fP (pre++r::post)=true->
  ∀(st:RS),(∃a w L,fz κ nt st a w L)->kU aP (pre++r::post) st->jR Γ aP (pre++r::post) st->
   cI Γ aP r st/\jR Γ aP (pre++post) (dX Γ aP r st)/\dQ Γ aP (pre++post) (dX Γ aP r st)=dQ Γ aP (pre++r::post) st
 |[],_,_,st,_,_,h=>⟨h.1,h.2,rfl⟩
 |x::pre,oL,dd,st,ad1,Cp,h=>by
  simp only[IW,jR]at h;obtain⟨hi,hx,o,hc⟩:=oL x (by simp);have hcx:tY x=true/\gm x=true:=by simp only[oe,mA]at hx;exact hx.1
  have hcr:tY r=true/\gm r=true:=by simp only[oe,mA]at hr;exact hr.1
  have afG:=yU bb AL hc hx ad1 (Cp.2 x (by simp)) h.1;have afH:fP (pre++r::post)=true:=by simp only[IW,fP,mA]at dd;exact dd.2
  have afI:kU aP (pre++r::post) (dX Γ aP x st):=uN bb hcx.2 h.1 (rJ dd) ⟨Cp.1,λy hy=>Cp.2 y (by simp only[IW,jv];exact .inr hy)⟩;obtain⟨i1,i2,i3⟩:=Cs bb AL hr pre (λy hy=>oL y (by simp[hy])) afH _ afG afI h.2;obtain⟨s1,s2,s3⟩:=swap hi hcx.1 hcr.1 hcx.2 hcr.2 (Cr ad1) (λ_=>Cp.2 x (by simp)) (λ_=>Cp.2 r (by simp)) h.1 i1;refine⟨s1,⟨s2,by rw[<-s3];exact i2⟩, ?_⟩;simp only[IW,dQ];rw[<-s3];exact i3
def rem(n:Nat)(listed:Array Bool):cN:=(List.range n).filter λi=> !listed.getD i true
def pI{n:Nat}{i:Nat}:i∈rem n listed↔i<n/\listed.getD i true=false:=by
 simp[rem]
def range_split{n i:Nat}(h:i<n):List.range n=List.range i++i::List.range' (i+1) (n-i-1):=by
 have h1:n=i+(1+(n-i-1)):=by omega
 rw[List.range_eq_range',List.range_eq_range']
 conv=>lhs;rw[h1]
 rw[<-List.range'_append_1,Ow,<-List.range'_append_1];simp
def RH{n i:Nat}(hs:listed.size=n)(hi:i∈rem n listed):∃pre post,rem n listed=pre++i::post/\rem n (listed.setIfInBounds i true)=pre++post/\(∀x∈pre,x<i/\x∈rem n listed):=by
 obtain⟨h1,h2⟩:=pI.1 hi;have Mp:∀j,j≠i->(listed.setIfInBounds i true).getD j true=listed.getD j true:=λj hj=>getD_set_ne true (Ne.symm hj);have alS:(listed.setIfInBounds i true).getD i true=true:=by
  rw[vq,Zcm];simp[hs,h1]
 refine⟨(List.range i).filter (λj=> !listed.getD j true),(List.range' (i+1) (n-i-1)).filter (λj=> !listed.getD j true), ?_, ?_, ?_⟩
 .unfold rem;rw[range_split h1,LA,Ic];simp[h2]
 .unfold rem;rw[range_split h1,LA,Ic];simp only[alS,ZcT,Ig,A0]
  congr 1
  .refine List.filter_congr λj hj=>?_;rw[Mp j (by have:=I0.1 hj;omega)]
  .refine List.filter_congr λj hj=>?_;rw[Mp j (by have:=Zcs.1 hj;omega)]
 .intro x hx;simp only[RI,I0,AF]at hx;exact⟨hx.1,pI.2 ⟨by omega,hx.2⟩⟩
def aat{k:Nat}(h:(1:Nat).testBit k=true):k=0:=by
 cases k with
 |zero=>rfl
 |succ k=>simp[Nat.testBit_succ]at h
def Ct(iz:cN):∀(as:cN) (m x:Nat),(as.foldl (λm j=>m|||(1<<<j)|||iz.getD j 0) m).testBit x=true->m.testBit x=true\/x∈as\/∃j∈as,(iz.getD j 0).testBit x=true
 |[],m,x,h=>.inl h
 |j::as,m,x,h=>by
  simp only[Br]at h;rcases Ct iz as _ x h with h|h|⟨k,hk,h⟩
  .simp only[Nat.testBit_or,ZcA,Nat.testBit_shiftLeft,mA,yN,ge_iff_le]at h;rcases h with(h|⟨h1,h2⟩)|h
   .exact .inl h
   .have:=aat h2;have:x=j:=by omega
    exact .inr (.inl (by simp[this]))
   .exact .inr (.inr ⟨j,by simp,h⟩)
  .exact .inr (.inl (by simp[h]))
  .exact .inr (.inr ⟨k,by simp[hk],h⟩)
def Cu:∀(rs:cA) (iz:cN),(rs.foldl (λiz r=>iz++[oX iz r.after]) iz).take iz.length=iz/\
  ∀(k:Nat) (r:RO),rs[k]? =some r->(rs.foldl (λiz r=>iz++[oX iz r.after]) iz)[iz.length+k]? =some (oX ((rs.foldl (λiz r=>iz++[oX iz r.after]) iz).take (iz.length+k)) r.after)
 |[],iz=>⟨by simp,by simp⟩
 |r::rs,iz=>by
  have ih:=Cu rs (iz++[oX iz r.after]);simp only[Br];generalize hm:rs.foldl (λiz r=>iz++[oX iz r.after]) (iz++[oX iz r.after])=ms at ih;simp only[nH,B8,ZbJ,Ow]at ih;have h1:ms.take iz.length=iz:=by
   have:=congrArg (List.take iz.length) ih.1;rw[Zdq]at this;simpa [show min iz.length (iz.length+1)=iz.length by omega]using this
  refine⟨h1,λk q hq=>?_⟩;cases k with
  |zero=>
   simp only[Bd,cq]at hq;subst hq;rw[Zb2,h1];have h2:(ms.take (iz.length+1))[iz.length]? =some (oX iz r.after):=by rw[ih.1];simp
   rw[L7]at h2;simpa using h2
  |succ k=>
   have:=ih.2 k q (by simpa using hq)
   rwa [show iz.length+1+k=iz.length+(k+1)by omega]at this
def RJ{i m x:Nat}(hr:rs[i]? =some r)(hm:(nv rs)[i]? =some m)(hx:m.testBit x=true)(cQ:∀j∈r.after,j<i):x∈r.after\/∃j∈r.after,∃mj,(nv rs)[j]? =some mj/\mj.testBit x=true:=by
 have:=(Cu rs []).2 i r hr;simp only[ZbJ,Ow]at this;have Rr:(nv rs)[i]? =some (oX ((nv rs).take i) r.after):=this;rw[hm]at Rr;simp only[cq]at Rr;subst Rr;unfold oX at hx;rcases Ct _ _ _ _ hx with h|h|⟨j,hj,h⟩
 .simp at h
 .exact .inl h
 .refine .inr ⟨j,hj, ?_⟩;have hji:=cQ j hj;rw[List.getD,L7,ee hji]at h;cases hmj:(nv rs)[j]? with
  |none=>rw[hmj]at h;simp at h
  |some mj=>rw[hmj]at h;exact⟨mj,rfl,by simpa using h⟩
def GV(hp:∀(i:Nat) (y:RO),rs[i]? =some y->∀j∈y.after,j<i)(c9:∀(j:Nat) (y:RO),listed.getD j false=true->rs[j]? =some y->∀e∈y.after,listed.getD e false=true):
  ∀(i:Nat) (y:RO) (m x:Nat),rs[i]? =some y->(nv rs)[i]? =some m->m.testBit x=true->(∀e∈y.after,listed.getD e false=true)->listed.getD x false=true:=by
 intro i;induction i using Nat.strongRecOn with
 |_ i ih=>
  intro y m x hy hm hx hd;rcases RJ hy hm hx (hp i y hy)with h|⟨j,hj,mj,hmj,hxj⟩
  .exact hd x h
  .have hji:=hp i y hy j hj;have ct:j<rs.length:=by
    have:=(tp.1 hy).1;omega
   have hyj:rs[j]? =some rs[j]:=by simp[ct]
   exact ih j hji rs[j] mj x hyj hmj hxj (c9 j _ (hd j hj) hyj)
def Mq(h:uM rs (nv rs)=true):(∀(i:Nat) (y:RO),rs[i]? =some y->∀j∈y.after,j<i)/\
  ∀(i x:Nat) (y r:RO),rs[i]? =some y->x<i->rs[x]? =some r->kO r y=true\/∃m,(nv rs)[i]? =some m/\m.testBit x=true:=by
 unfold uM at h;rw[Jf]at h;have key:∀(i:Nat) (y:RO),rs[i]? =some y->∃m,(nv rs)[i]? =some m/\(∀j∈y.after,j<i)/\∀x,x<i->m.testBit x=true\/∃r,rs[x]? =some r/\kO r y=true:=by
  intro i y hy;have:=h i (I0.2 (tp.1 hy).1);rw[hy]at this;cases hm:(nv rs)[i]? with
  |none=>rw[hm]at this;simp at this
  |some m=>
   rw[hm]at this;simp only[mA,Jf,yN,I0,ZcA]at this;refine⟨m,rfl,this.1,λx hx=>?_⟩;rcases this.2 x hx with h1|h1
   .exact .inl h1
   .cases hr:rs[x]? with
    |none=>rw[hr]at h1;simp at h1
    |some r=>rw[hr]at h1;exact .inr ⟨r,rfl,h1⟩
 refine⟨λi y hy=>(key i y hy).choose_spec.2.1,λi x y r hy hx hr=>?_⟩;obtain⟨m,hm,_,h2⟩:=key i y hy;rcases h2 x hx with h3|⟨r',nl,h3⟩
 .exact .inr ⟨m,hm,h3⟩
 .rw[hr]at nl;cases nl;exact .inl h3
def aau(bb:aw P Γ)(AL:κ.Good P){g:Nat->RO}(hg:∀(i:Nat) (o:Oper),ops[i]? =some o->eR P ops o=some (bare (g i)))
  (th:∀i,i<ops.size->oe nt (g i)=true) (dd:∀l:cN,l.Nodup->(∀i∈l,i<ops.size)->fP (l.map g)=true)
  (atV:∀(listed:Array Bool) (i x:Nat),i<ops.size->x<i->listed.getD x true=false->(∀(j:Nat),j<ops.size->listed.getD j false=true->∀e∈(g j).after,listed.getD e false=true)->(∀e∈(g i).after,listed.getD e false=true)->kO (g x) (g i)=true)
  (cQ:∀i,i<ops.size->∀j∈(g i).after,j<i):
  ∀(fuel:Nat) (listed:Array Bool),listed.size=ops.size->(rem ops.size listed).length=fuel->(∀(j:Nat),j<ops.size->listed.getD j false=true->∀e∈(g j).after,listed.getD e false=true)->
   ∀(st:RS) (a:Act) (w:World) (L:Loc),fz κ nt st a w L->kU aP ((rem ops.size listed).map g) st->jR Γ aP ((rem ops.size listed).map g) st->
    (∀a' w' L',fz κ nt (dQ Γ aP ((rem ops.size listed).map g) st) a' w' L'->Q .normal a' w')->wpAnyIn (vf ro) n P .any ops Q fuel listed a w:=by
 have UV:∀(i:Nat) (o:Oper),ops[i]? =some o->∀(listed:Array Bool),(∀e∈o.after,Region.binds .any e=true->listed.getD e.on false=true)↔∀e∈(g i).after,listed.getD e false=true:=by
  intro i o ho listed;have:=(kT (hg i o ho)).2.2.2;rw[this];constructor
  .intro h e he;simp only[sE,RI]at he;obtain⟨x,⟨hx,hb⟩,rfl⟩:=he;exact h x (by simpa using hx) hb
  .intro h e he hb;exact h e.on (sE.2 ⟨e,RI.2 ⟨by simpa using he,hb⟩,rfl⟩)
 intro fuel;induction fuel with
 |zero=>
  intro listed hs hfu c9 st a w L h hf aN hQ;have aav:rem ops.size listed=[]:=oK hfu;refine⟨?_, ?_⟩
  .cases hr:Region.ready .any ops listed with
   |nil=>rfl
   |cons j js=>
    exfalso;have hj:j∈Region.ready .any ops listed:=by rw[hr];simp
    obtain⟨h0,o,ho,_⟩:=mem_ready.1 hj;have:j∈rem ops.size listed:=pI.2 ⟨(cM.1 ho).1,h0⟩;rw[aav]at this;cases this
  .rw[aav]at hQ;exact hQ a w L h
 |succ fuel ih=>
  intro listed hs hfu c9 st a w L h hf aN hQ;refine⟨λhr=>?_,λi hi=>?_⟩
  .exfalso;have Gk:∃i,i∈rem ops.size listed/\∀x<i,x∉rem ops.size listed:=by
    have Tj:∃i,i∈rem ops.size listed:=by
     cases hl:rem ops.size listed with
     |nil=>rw[hl]at hfu;cases hfu
     |cons i l=>exact⟨i,by simp⟩
    obtain⟨i,hi⟩:=Tj;induction i using Nat.strongRecOn with
    |_ i ZX=>
     by_cases hx:∃x,x<i/\x∈rem ops.size listed
     .obtain⟨x,GC,xA⟩:=hx;exact ZX x GC xA
     .exact⟨i,hi,λx GC xA=>hx ⟨x,GC,xA⟩⟩
   obtain⟨i,hi,Gk⟩:=Gk;obtain⟨h1,h2⟩:=pI.1 hi;have:i∈Region.ready .any ops listed:=mem_ready.2 ⟨h2,ops[i],by simp[h1],by
    rw[UV i ops[i] (by simp[h1])];intro e he;have hei:=cQ i h1 e he;have hn:=Gk e hei;rw[pI]at hn;have he2:e<listed.size:=by omega
    rw[vq]at hn⊢;simp only[he2,ZbV,GA]at hn⊢;cases hb:listed[e]
    .exact qe ⟨by omega,hb⟩ hn
    .rfl⟩
   rw[hr]at this;cases this
  .obtain⟨h0,o,ho,dJ⟩:=mem_ready.1 hi;have UW:i<ops.size:=(cM.1 ho).1;have ad2:=(UV i o ho listed).1 dJ;obtain⟨pre,post,e1,e2,oL⟩:=RH hs (pI.2 ⟨UW,h0⟩);rw[e1,Lc,vG]at aN hQ hf;have Bg:(pre++i::post).Nodup:=by
    rw[<-e1];exact List.Pairwise.filter _ List.nodup_range
   have hbd:∀x∈pre++i::post,x<ops.size:=by
    intro x hx;rw[<-e1]at hx;exact(pI.1 hx).1
   have afJ:fP (pre.map g++g i::post.map g)=true:=by
    have:=dd _ Bg hbd;simpa using this
   have mv:=Cs (κ:=κ) bb AL (ops:=ops) (th i UW) (pre.map g) (λx hx=>by
    obtain⟨y,hy,rfl⟩:=sE.1 hx;have fI:=oL y hy;have hyb:=(pI.1 fI.2);refine⟨atV listed i y UW fI.1 hyb.2 c9 ad2,th y hyb.1,ops[y],hg y _ (by simp[hyb.1])⟩) afJ st ⟨a,w,L,h⟩ hf aN
   have hgi:=hg i o ho;refine t6 bb AL ho hgi (th i UW) h (hf.2 (g i) (by simp)) mv.1 λa' w' L' h'=>?_;refine ih (listed.setIfInBounds i true) (by simpa using hs) ?_ ?_ _ a' w' L' h' ?_ ?_ ?_
   .rw[e2];rw[e1]at hfu;simp only[nH,B8]at hfu⊢;omega
   .intro j hj Ia e he;by_cases hji:j=i
    .subst hji;exact getD_set_true (ad2 e he)
    .rw[getD_set_ne false (Ne.symm hji)]at Ia;exact getD_set_true (c9 j hj Ia e he)
   .rw[e2,Lc];have UU:gm (g i)=true:=by have:=th i UW;simp only[oe,mA]at this;exact this.1.2
    refine uN bb UU mv.1 (λy hy=>?_) ⟨hf.1,λy hy=>hf.2 y ?_⟩
    .have atW:(i::(pre++post)).Nodup:=(List.perm_middle.nodup_iff).1 Bg;have:=dd _ atW (λx hx=>hbd x (by simp only[jv,lF]at hx⊢;rcases hx with h|h|h<;>simp[h]))
     rw[vG,Lc]at this;exact rJ this y hy
    .simp only[lF,jv]at hy⊢;rcases hy with h|h
     .exact .inl h
     .exact .inr (.inr h)
   .rw[e2,Lc];exact mv.2.1
   .rw[e2,Lc,mv.2.2];exact hQ
def vM:∀{rs:cA},fP rs=true->∀(i j:Nat) (x y:RO),i≠j->rs[i]? =some x->rs[j]? =some y->pG x y=true
 |[],_,_,_,_,_,_,h,_=>by simp at h
 |r::rs,hd,i,j,x,y,To,hx,hy=>by
  simp only[fP,mA,Jf]at hd;cases i with
  |zero=>
   simp only[Bd,cq]at hx;subst hx;cases j with
   |zero=>exact qe rfl To
   |succ j=>exact hd.1 y (Hf (by simpa using hy))
  |succ i=>
   cases j with
   |zero=>
    simp only[Bd,cq]at hy;subst hy;exact Cq (hd.1 x (Hf (by simpa using hx)))
   |succ j=>exact vM hd.2 i j x y (by omega) (by simpa using hx) (by simpa using hy)
def Jh(bb:aw P Γ)(AL:κ.Good P)(hm:P.follows .mixedOrders=true)(hc:fO P ops=some (rs.map bare))(aN:eC nt true rs=true){a:Act}{w:World}{L:Loc}(h:fz κ nt st a w L)
  (hf:kU aP rs st) (bO:jR Γ aP rs st) (hQ:∀a' w' L',fz κ nt (dQ Γ aP rs st) a' w' L'->Q .normal a' w'):(Code.region id ops true).wpIn (vf ro) n P Q a w:=by
 obtain⟨ct,UX⟩:=oY hc;simp only[eC,mA,ZcT,Bool.false_or]at aN;obtain⟨⟨dJ,AG⟩,hp⟩:=aN;obtain⟨cQ,alT⟩:=Mq hp
 let g:Nat->RO:=λi=>(rs[i]?).getD ⟨.Lg (.wW .undef),none,none,[],none⟩
 have gg:∀i,i<ops.size->rs[i]? =some (g i):=λi hi=>by
  have:i<rs.length:=by omega
  simp[g,this]
 have ZY:∀(i:Nat) (o:Oper),ops[i]? =some o->eR P ops o=some (bare (g i)):=λi o ho=>by
  obtain⟨r,h1,h2⟩:=UX i o ho;have:g i=r:=by simp[g,h1]
  rw[this];exact h2
 have mK:rs=(List.range ops.size).map g:=by
  apply Zb0;intro i;by_cases hi:i<ops.size
  .rw[gg i hi];simp[hi]
  .rw[Ls (by omega),Ls (by simp;omega)]
 have O0:rem ops.size (Array.replicate ops.size false)=List.range ops.size:=by
  unfold rem;rw[List.filter_eq_self.2];intro i hi;have:=I0.1 hi;simp[vq,this]
 have hh:fz κ nt st a {w with drawn:=w.drawn+1} L:=by
  have hb:xl w.heap.size w {w with drawn:=w.drawn+1}:=⟨⟨rfl,rfl,rfl,gJ _,λ_ _=>rfl⟩,ZdD _⟩;obtain⟨W,base,M,w0,gG,h0⟩:=h.ex;obtain⟨hO,hA⟩:=ci.grow h0.o hb;obtain⟨Ds,h1,h2,h3,h4⟩:=h.defers;exact⟨⟨W,base,M,w0,gG,h0.size,λt=>aD.gq hA _ _ (h0.tmps t),hO⟩,h.gq.comp hA (gG.UH _) gG.sub.2,⟨Ds,h1,h2,λD hD=>⟨hA.cL.OI D (h3 D hD).1,(h3 D hD).2⟩,h4⟩,h.bg,h.dM⟩
 refine wpIn_region_any hm (aau bb AL (g:=g) ZY (λi hi=>Jf.1 dJ _ (Hf (gg i hi))) (λl hl hb=>?_) (λlisted i x hi hx wX c9 hd=>?_) (λi hi=>cQ i (g i) (gg i hi)) ops.size _ (by simp) (by rw[O0];simp) (λj hj Ia=>?_) st a _ L hh
  (by rw[O0,<-mK];exact hf) (by rw[O0,<-mK];exact bO) (by rw[O0,<-mK];exact hQ))
 .clear bO hQ hf;induction l with
  |nil=>rfl
  |cons i l ih=>
   simp only[vG,fP,mA,Jf];rw[ZcX]at hl;refine⟨λy hy=>?_,ih hl.2 λj hj=>hb j (by simp[hj])⟩;obtain⟨j,hj,rfl⟩:=sE.1 hy;exact vM AG i j _ _ (by rintro rfl;exact hl.1 hj) (gg i (hb i (by simp))) (gg j (hb j (by simp[hj])))
 .rcases alT i x (g i) (g x) (gg i hi) hx (gg x (by omega))with h1|⟨m,uE,Ij⟩
  .exact h1
  .exfalso;have:=GV (rs:=rs) (listed:=listed) cQ (λj y hj hy=>by
    have hjn:j<ops.size:=by have:=(tp.1 hy).1;omega
    have:y=g j:=by rw[gg j hjn]at hy;exact(TT hy).symm
    rw[this];exact c9 j hjn hj) i (g i) m x (gg i hi) uE Ij hd
   rw[vq]at this wX;cases xA:listed[x]? with
   |none=>rw[xA]at this;simp at this
   |some b=>rw[xA]at this wX;simp at this wX;rw[this]at wX;cases wX
 .rw[vq]at Ia;simp[hj]at Ia
end
end
section
variable{id d1 d2:Nat}{iL:Bool}{rs:cA}{ops:Array Oper}{ir:lK}
variable [bD] [dF]
inductive DC where
 |skip
 |region (iL:Bool) (rs:cA)
 |rK (rs:cA)
 |seq (a b:DC)
 |cond (c:bK) (a b:DC)
 |block (id:Nat) (c:DC)
 |loop (c:DC)
 |exit (id:Nat)
 |ret
 |yI (g:bK) (ps:cN) (a b:DC)
 |OK (x:bK) (d1 d2:Nat)
 |D8
def LX(ops:Array Oper):Option (bK×Nat×Nat):=
 match ops.toList with
 |[a,b]=>match a.op,b.op,a.dst,b.dst,a.guard,b.guard with
  |.next x false,.extract (.tmp t) 0,some d1,some d2,none,none=>if t=d1 then(bK.of x).map λy=>(y,d1,d2)else none
  |_,_,_,_,_,_=>none
 |_=>none
def bR(P:Program)(nt:Nat):Code->DC
 |.skip=>.skip
 |.region _ ops iL=>match fO P ops with
  |some rs=>if eC nt iL rs then .region iL rs else if iL&&eC nt false rs then .rK rs else .D8
  |none=>if iL then .D8 else match LX ops with
   |some q=>if q.2.1<nt/\q.2.2<nt then .OK q.1 q.2.1 q.2.2 else .D8
   |none=>.D8
 |.seq a b=>.seq (bR P nt a) (bR P nt b)
 |.cond c a b=>match bK.of c with
  |some x=>.cond x (bR P nt a) (bR P nt b)
  |none=>.D8
 |.block id c=>.block id (bR P nt c)
 |.loop c=>.loop (bR P nt c)
 |.exit id=>.exit id
 |.ret=>.ret
 |.rangeFunc g ps a b=>match bK.of g with
  |some x=>if ps.toList.all (·<nt)then .yI x ps.toList (bR P nt a) (bR P nt b)else .D8
  |none=>.D8
 |_=>.D8
section
variable{P:Program}{nt:Nat}{c:Code}
def UY(h:bR P nt c=.skip):c=.skip:=by
 cases c<;>simp only[bR]at h<;>first|rfl|cases h|(repeat' split at h)<;>cases h
def aaw(h:bR P nt c=.ret):c=.ret:=by
 cases c<;>simp only[bR]at h<;>first|rfl|cases h|(repeat' split at h)<;>cases h
def Mr{x:bK}{ps:cN}{a b:DC}(h:bR P nt c=.yI x ps a b):∃g qs y z,c=.rangeFunc g qs y z/\bK.of g=some x/\qs.toList=ps/\(∀p∈ps,p<nt)/\bR P nt y=a/\bR P nt z=b:=by
 cases c<;>simp only[bR]at h<;>first|(cases h;done)|skip
 ·(repeat' split at h)<;>cases h
 .split at h<;>cases h
 .split at h
  .rename_i hx;split at h
   .rename_i hp;cases h;exact⟨_,_,_,_,rfl,hx,rfl,λp hp'=>by have:=Jf.1 hp p hp';simpa using this,rfl,rfl⟩
   .cases h
  .cases h
def UZ(h:bR P nt c=.exit id):c=.exit id:=by
 cases c<;>simp only[bR]at h<;>first|(cases h;rfl)|cases h|(repeat' split at h)<;>cases h
def aax{a b:DC}(h:bR P nt c=.seq a b):∃x y,c=.seq x y/\bR P nt x=a/\bR P nt y=b:=by
 cases c<;>simp only[bR]at h<;>first|(cases h;exact⟨_,_,rfl,rfl,rfl⟩)|cases h|(repeat' split at h)<;>cases h
def U0{x:bK}{a b:DC}(h:bR P nt c=.cond x a b):∃x' y z,c=.cond x' y z/\bK.of x'=some x/\bR P nt y=a/\bR P nt z=b:=by
 cases c<;>simp only[bR]at h<;>first|(cases h;done)|skip
 ·(repeat' split at h)<;>cases h
 .split at h
  .rename_i hx;cases h;exact⟨_,_,_,rfl,hx,rfl,rfl⟩
  .cases h
 ·(repeat' split at h)<;>cases h
def RK{a:DC}(h:bR P nt c=.block id a):∃x,c=.block id x/\bR P nt x=a:=by
 cases c<;>simp only[bR]at h<;>first|(cases h;exact⟨_,rfl,rfl⟩)|cases h|(repeat' split at h)<;>cases h
def U1{a:DC}(h:bR P nt c=.loop a):∃x,c=.loop x/\bR P nt x=a:=by
 cases c<;>simp only[bR]at h<;>first|(cases h;exact⟨_,rfl,rfl⟩)|cases h|(repeat' split at h)<;>cases h
def rL(h:bR P nt c=.region iL rs):∃id ops,c=.region id ops iL/\fO P ops=some rs/\eC nt iL rs=true:=by
 cases c<;>simp only[bR]at h<;>first|(cases h;done)|skip
 case region id ops dr=>
  split at h
  .rename_i mK;split at h
   .rename_i aN;cases h;exact⟨_,_,rfl,mK,aN⟩
   .split at h<;>cases h
  ·(repeat' split at h)<;>cases h
 case cond=>split at h<;>cases h
 case rangeFunc=>(repeat' split at h)<;>cases h
def Ji(h:bR P nt c=.rK rs):∃id ops,c=.region id ops true/\fO P ops=some rs:=by
 cases c<;>simp only[bR]at h<;>first|(cases h;done)|skip
 case region id ops dr=>
  split at h
  .rename_i mK;split at h
   .cases h
   .split at h
    .rename_i hd;cases h;simp only[mA]at hd;exact⟨_,_,by rw[hd.1],mK⟩
    .cases h
  ·(repeat' split at h)<;>cases h
 case cond=>split at h<;>cases h
 case rangeFunc=>(repeat' split at h)<;>cases h
end
def RL{P:Program}{nt:Nat}{c:Code}{x:bK}(h:bR P nt c=.OK x d1 d2):∃id o1 o2 y,c=.region id #[o1,o2] false/\o1.op=.next y false/\bK.of y=some x/\o1.dst=some d1/\o1.guard=none/\o2.op=.extract (.tmp d1) 0/\o2.dst=some d2/\o2.guard=none/\d1<nt/\d2<nt:=by
 cases c<;>simp only[bR]at h<;>first|(cases h;done)|skip
 case region id ops dr=>
  split at h
  .split at h
   .cases h
   .split at h<;>cases h
  .split at h
   .cases h
   .rename_i LZ;have LZ:dr=false:=by simpa using LZ
    subst LZ;split at h
    .rename_i q hq;split at h
     .rename_i cQ;cases h;unfold LX at hq;split at hq
      .rename_i o1 o2 afK;split at hq
       .rename_i y t e1 e2 h1 h2 h3 h4 h5 h6;split at hq
        .rename_i hte;subst hte;simp only[ju]at hq;obtain⟨z,hz,rfl⟩:=hq;exact⟨id,o1,o2,y,by rw[show ops= #[o1,o2]by rw[<-Array.toArray_toList (xs:=ops),afK]],h1,hz,h3,h5,h2,h4,h6,cQ.1,cQ.2⟩
        .cases hq
       .cases hq
      .cases hq
     .cases h
    .cases h
 case cond=>split at h<;>cases h
 case rangeFunc=>(repeat' split at h)<;>cases h
def Ey{P:Program}{o:Oper}{d:qO}(h:dq P o=some d):Ac d=d:=by
 cases d<;>first|rfl|skip
 case mkSliceB=>exact(afD h).elim
 case callS=>
  obtain⟨c,_,hc⟩:=fU h (.inr (.inl ⟨_,_,rfl⟩));exfalso;unfold eB at hc;repeat' split at hc
  all_goals first
   |(cases hc;done)
   |(simp only[ju,vj,kw,jE,cq,reduceCtorEq,Lh,Ei]at hc;done)
 case callF=>
  obtain⟨c,_,hc⟩:=fU h (.inr (.inr (.inr (.inl ⟨_,_,rfl⟩))));exfalso;unfold eB at hc;repeat' split at hc
  all_goals first
   |(cases hc;done)
   |(simp only[ju,vj,kw,jE,cq,reduceCtorEq,Lh,Ei]at hc;done)
 case callR=>
  obtain⟨c,_,hc⟩:=fU h (.inr (.inr (.inr (.inr ⟨_,_,rfl⟩))));exfalso;unfold eB at hc;repeat' split at hc
  all_goals first
   |(cases hc;done)
   |(simp only[ju,vj,kw,jE,cq,reduceCtorEq,Lh,Ei]at hc;done)
def Cv{P:Program}{o:Oper}{r:RO}(h:eR P ops o=some r):bare r=r:=by
 simp only[eR,vj,kw,jE,cq]at h;obtain⟨d,hd,g,hg,rfl⟩:=h;simp only[bare,Ey hd]
def sK{P:Program}(h:fO P ops=some rs):rs.map bare=rs:=by
 unfold fO at h;have key:∀(l:List Oper) (rs:cA),l.mapM (eR P ops)=some rs->rs.map bare=rs:=by
  intro l;induction l with
  |nil=>intro rs h;simp at h;subst h;rfl
  |cons o l ih=>
   intro rs h;simp only[Zbw,vj,kw,jE,cq]at h;obtain⟨r,hr,rs',mK,rfl⟩:=h;simp only[vG,Cv hr,ih rs' mK]
 exact key _ _ h
def xK:cA->List (Option (cN))->cA
 |r::rs,t::ts=>⟨r.d,r.dst,r.guard,r.after,t⟩::xK rs ts
 |rs,_=>rs
structure Ms(κ:oT)(nt:Nat)(st:lK)(a:Act)(w:World)(L:Loc):Prop where
 r:fz κ nt ⟨st.tmps,st.ab,st.todo⟩ a w L
 fresh:∀r,st.aP<=r->st.ab r=none
 low:∀r,st.low<=r->κ.go r=none
 it:κ.J.isSome=true->st.low=0
def Sat(P:Program)(nt:Nat)(c:Code)(Q:Exit->lK->Prop)(st:lK):Prop:=
 ∀(n:Nat) (κ:oT) (a:Act) (w:World) (L:Loc),κ.Good P->Ms κ nt st a w L->
  c.wpIn (vf κ.ro) n P (λe a' w'=>∃ir L',Q e ir/\Ms κ nt ir a' w' L') a w
structure aa(P:Program)(nt:Nat)(d:DC)(Q:Exit->lK->Prop)(st:lK):Prop where
 run:∀c,bR P nt c=d->Sat P nt c Q st
def Le(st ir:lK):Prop:=∀(κ:oT) (nt:Nat) (a:Act) (w:World) (L:Loc),Ms κ nt st a w L->∃L',Ms κ nt ir a w L'
def Le.trans{a b c:lK}(h:Le a b)(k:Le b c):Le a c:=λ_ _ _ _ L r=>let⟨_,r'⟩:=h _ _ _ _ L r;k _ _ _ _ _ r'
section
variable{P:Program}{nt:Nat}{Γ:kv}{Q:Exit->lK->Prop}{st:lK}
def Sat.le{c:Code}(h:Le st ir)(k:Sat P nt c Q ir):Sat P nt c Q st:=λn κ a w L g r=>let⟨L',r'⟩:=h _ _ _ _ L r;k n κ a w L' g r'
def aa.le{d:DC}(h:Le st ir)(k:aa P nt d Q ir):aa P nt d Q st:=⟨λc hc=>Sat.le h (k.run c hc)⟩
def aa.rN{d:DC}{Q':Exit->lK->Prop}(h:aa P nt d Q st)(hq:∀e st,Q e st->∃A2,Le st A2/\Q' e A2):aa P nt d Q' st:=
 ⟨λc hc n κ a w L g r=>wpIn_mono (h.run c hc n κ a w L g r) λ_ _ _ ⟨_,L',q,r'⟩=>let⟨A2,hl,q2⟩:=hq _ _ q;let⟨L2,r2⟩:=hl _ _ _ _ L' r';⟨A2,L2,q2,r2⟩⟩
def aa.skip(h:Q .normal st):aa P nt .skip Q st:=by
 refine⟨λc hc=>?_⟩;obtain rfl:=UY hc;exact λn κ a w L g r=>wpIn_skip ⟨st,L,h,r⟩
def aa.exit(h:Q (.exit id) st):aa P nt (.exit id) Q st:=by
 refine⟨λc hc=>?_⟩;obtain rfl:=UZ hc;exact λn κ a w L g r=>wpIn_exit ⟨st,L,h,r⟩
def aa.ret(h:Q .ret st):aa P nt .ret Q st:=by
 refine⟨λc hc=>?_⟩;obtain rfl:=aaw hc;exact λn κ a w L g r=>wpIn_ret ⟨st,L,h,r⟩
def Fe(k:lK->Prop)(Q:Exit->lK->Prop):Exit->lK->Prop
 |.normal,st=>k st
 |e,st=>Q e st
def aa.seq{a b:DC}(h:aa P nt a (Fe (aa P nt b Q) Q) st):aa P nt (.seq a b) Q st:=by
 refine⟨λc hc=>?_⟩;obtain⟨a',b',rfl,ha,hb⟩:=aax hc;intro n κ ZZ w L g r;refine wpIn_seq (wpIn_mono (h.run _ ha n κ ZZ w L g r) ?_);rintro e a' w' ⟨ir,L',q,r'⟩;cases e with
 |normal=>exact q.run _ hb n κ a' w' L' g r'
 |_=>exact⟨ir,L',q,r'⟩
def aa.cond{x:bK}{a b:DC}{t:Bool}(hx:x.ev st.tmps=.v (.bool t))(ht:t=true->aa P nt a Q st)(hf:t=false->aa P nt b Q st):aa P nt (.cond x a b) Q st:=by
 refine⟨λc hc=>?_⟩;obtain⟨x',a',b',rfl,nK,ha,hb⟩:=U0 hc;intro n κ ZZ w L g r;obtain⟨W,base,M,w0,gG,h0⟩:=r.r.ex;have:=bK.bJ h0.o.gl h0.tmps nK;rw[hx]at this;simp only[aD,be]at this;cases t with
 |true=>exact wpIn_cond_true this ((ht rfl).run _ ha n κ ZZ w L g r)
 |false=>exact wpIn_cond_false this ((hf rfl).run _ hb n κ ZZ w L g r)
def p6(id:Nat)(Q:Exit->lK->Prop):Exit->lK->Prop
 |.exit id',st=>if id'=id then Q .normal st else Q (.exit id') st
 |e,st=>Q e st
def aa.block{a:DC}(h:aa P nt a (p6 id Q) st):aa P nt (.block id a) Q st:=by
 refine⟨λc hc=>?_⟩;obtain⟨a',rfl,ha⟩:=RK hc;intro n κ ZZ w L g r;refine wpIn_block (wpIn_mono (h.run _ ha n κ ZZ w L g r) ?_);rintro e a' w' ⟨ir,L',q,r'⟩;cases e with
 |exit id'=>
  simp only[p6]at q;simp only[Exit.inBlock];split at q
  .rename_i h;rw[ee h];exact⟨ir,L',q,r'⟩
  .rename_i h;rw[iK h];exact⟨ir,L',q,r'⟩
 |_=>exact⟨ir,L',q,r'⟩
def aa.loop{α:Type}{body:DC}(R:α->lK)(I:α->Prop)(μ:α->Nat)(x:α)(h0:Le st (R x))(hI:I x)
  (round:∀y,I y->aa P nt body (Fe (λir=>∃z,Le ir (R z)/\I z/\μ z<μ y) Q) (R y)):aa P nt (.loop body) Q st:=by
 refine⟨λc hc=>?_⟩;obtain⟨a',rfl,ha'⟩:=U1 hc;intro n κ ZZ w L g r;obtain⟨L0,r0⟩:=h0 _ _ _ _ L r;refine wpIn_loop_ghost (λk a w=>∃y L,μ y=k/\I y/\Ms κ nt (R y) a w L) (μ x) ⟨x,L0,rfl,hI,r0⟩ ?_;rintro k a w ⟨y,L,rfl,hy,hr⟩;refine wpIn_mono ((round y hy).run _ ha' n κ a w L g hr) ?_;rintro e a' w' ⟨ir,L',q,r'⟩;cases e with
 |normal=>
  obtain⟨z,io,hz,cQ⟩:=q;obtain⟨L2,r2⟩:=io _ _ _ _ L' r';exact⟨μ z,cQ,z,L2,rfl,hz,r2⟩
 |_=>exact⟨ir,L',q,r'⟩
def xL(bb:aw P Γ){aP:Nat}:∀(rs:cA),rs.all (oe nt)=true->∀(st:RS),jR Γ aP rs st->∀t,aP+nt+1<=t->st.ab t=none->(dQ Γ aP rs st).ab t=none
 |[],_,st,_,t,_,h=>h
 |r::rs,dJ,st,aN,t,ht,h=>by
  simp only[ZdK,mA]at dJ;simp only[jR]at aN;refine xL bb rs dJ.2 _ aN.2 t ht (yV bb aN.1 h λhl e=>?_);have hr:=dJ.1;simp only[oe,mA]at hr;have hs:r.dst.isSome=true:=by simpa [gm,hl]using hr.1.2
  obtain⟨d,hd⟩:=Tz.1 hs;have cQ:d<nt:=by have:=hr.2;rw[hd]at this;simpa using this
  simp only[nm,bQ,hd]at e;omega
def rO(bb:aw P Γ)(hm:P.follows .mixedOrders=true)(mK:fO P ops=some (rs.map bare))(aN:eC nt iL rs=true)
  (bO:jR Γ st.aP rs ⟨st.tmps,st.ab,st.todo⟩) (hQ:Q .normal ⟨(dQ Γ st.aP rs ⟨st.tmps,st.ab,st.todo⟩).tmps,(dQ Γ st.aP rs ⟨st.tmps,st.ab,st.todo⟩).ab,st.aP+nt+1,st.low,(dQ Γ st.aP rs ⟨st.tmps,st.ab,st.todo⟩).todo⟩):
  Sat P nt (.region id ops iL) Q st:=by
 intro n κ ZZ w L g r;have eO:∀x∈rs,∃k,nm st.aP x=st.aP+k:=λx _=>by
  unfold nm bQ;cases x.dst with
  |none=>exact⟨0,rfl⟩
  |some d=>exact⟨d+1,by simp only[pn]⟩
 have hf:kU st.aP rs ⟨st.tmps,st.ab,st.todo⟩:=⟨r.fresh _ (gJ _),λx hx=>by
  obtain⟨k,hk⟩:=eO x hx;rw[hk];exact r.fresh _ (by omega)⟩
 have dM:∀a' w' L',fz κ nt (dQ Γ st.aP rs ⟨st.tmps,st.ab,st.todo⟩) a' w' L'->∃ir L',Q .normal ir/\Ms κ nt ir a' w' L':=by
  intro a' w' L' r';refine⟨_,L',hQ,r', ?_,r.low,r.it⟩;have dJ:rs.all (oe nt)=true:=by simp only[eC,mA]at aN;exact aN.1.1
  intro t ht;exact xL bb rs dJ _ bO t ht (r.fresh t (by simp only at ht;omega))
 cases iL with
 |false=>exact Jg bb g mK aN r.r hf bO dM
 |true=>exact Jh bb g hm mK aN r.r hf bO dM
def aa.region(bb:aw P Γ)(hm:P.follows .mixedOrders=true)(bO:jR Γ st.aP rs ⟨st.tmps,st.ab,st.todo⟩)(hQ:Q .normal ⟨(dQ Γ st.aP rs ⟨st.tmps,st.ab,st.todo⟩).tmps,(dQ Γ st.aP rs ⟨st.tmps,st.ab,st.todo⟩).ab,st.aP+nt+1,st.low,(dQ Γ st.aP rs ⟨st.tmps,st.ab,st.todo⟩).todo⟩):
  aa P nt (.region iL rs) Q st:=by
 refine⟨λc hc=>?_⟩;obtain⟨id,ops,rfl,mK,aN⟩:=rL hc;exact rO bb hm (by rw[sK mK];exact mK) aN bO hQ
def aa.aay(bb:aw P Γ)(hm:P.follows .mixedOrders=true){d:DC}(hd:d=.rK (rs.map bare)\/∃iL,d=.region iL (rs.map bare))(aN:eC nt true rs=true)
  (bO:jR Γ st.aP rs ⟨st.tmps,st.ab,st.todo⟩) (hQ:Q .normal ⟨(dQ Γ st.aP rs ⟨st.tmps,st.ab,st.todo⟩).tmps,(dQ Γ st.aP rs ⟨st.tmps,st.ab,st.todo⟩).ab,st.aP+nt+1,st.low,(dQ Γ st.aP rs ⟨st.tmps,st.ab,st.todo⟩).todo⟩):
  aa P nt d Q st:=by
 refine⟨λc hc=>?_⟩;rcases hd with rfl|⟨iL,rfl⟩
 .obtain⟨id,ops,rfl,mK⟩:=Ji hc;exact rO bb hm mK aN bO hQ
 .obtain⟨id,ops,rfl,mK,afB⟩:=rL hc;refine rO bb hm mK ?_ bO hQ;cases iL with
  |true=>exact aN
  |false=>simp only[eC,mA]at aN⊢;exact⟨aN.1,rfl⟩
def aa.next{x:bK}{r m s l c:Nat}{sn:cN}{bZ:List Sh}{agg:Bool}{es:List (Nat×T×DV)}(hx:x.ev st.tmps=.eo r)(hr:st.ab r=some (.eo m s sn l))(hm:st.ab m=some (.map bZ agg c es))(cQ:∀e∈es,e.1<s)(hl:s<=l)
  (U2:(∀e∈es,e.1∈sn)->Q .normal ⟨cO (cO st.tmps (some d1) .undef) (some d2) (.v (.bool false)),st.ab,st.aP,st.low,st.todo⟩)
  (hgo:∀e∈es,e.1∉sn->Q .normal ⟨cO (cO st.tmps (some d1) .undef) (some d2) (.v (.bool true)),cC st.ab (some (r,.eo m s (sn++[e.1]) c)),st.aP,st.low,st.todo⟩):
  aa P nt (.OK x d1 d2) Q st:=by
 refine⟨λcc hc=>?_⟩;obtain⟨id,o1,o2,y,rfl,h1,hy,h2,h3,h4,h5,h6,RG,hd2⟩:=RL hc;intro n κ a w L g r0;refine wpIn_region ?_;have hR:=r0.r;obtain⟨W,base,M,w0,gG,h0⟩:=hR.ex;have Ih:=bK.bJ h0.o.gl h0.tmps hy;rw[hx]at Ih;simp only[aD]at Ih;obtain⟨_,hxv⟩:=Ih;have dM:∀{b:Bool} {aM:bS} {v:Value} {w':World},ci base W M w0 aM w' L->jA W st.ab L w aM L w'->(∃N,∀r,N<=r->aM r=none)->(∀t,st.ab t=none->aM t=none)->(∃rest:List Value,v=.tuple (Value.bool b::rest).toArray)->(execOp a.eval o1).run P w=.ok (.value v) w'->
   Q .normal ⟨cO (cO st.tmps (some d1) .undef) (some d2) (.v (.bool b)),aM,st.aP,st.low,st.todo⟩->
   wpOpsIn (vf κ.ro) n P #[o1,o2] (λe a' w'=>∃ir L',Q e ir/\Ms κ nt ir a' w' L') (List.range 2) a w:=by
  intro b aM v w' hO hA fN xI hv bO hQ;obtain⟨rest,rfl⟩:=hv;show wpOpsIn (vf κ.ro) n P #[o1,o2] _ [0,1] a w;rw[wpOpsIn_cons,wpOpIn];simp only[show(#[o1,o2]:Array Oper)[0]? =some o1 from rfl,Region.wanted,h3,Eg];refine⟨oU o1 w _, ?_⟩;rw[show(vf κ.ro).round=κ.ro from rfl,Oper.semAt_eq κ.ro _ o1 (λc hc=>by rw[h1]at hc;cases hc),bO,Oper.uponIn_value,h2];have R1:fz κ nt ⟨cO st.tmps (some d1) .undef,aM,st.todo⟩ (a.put (some d1) (.tuple (Value.bool b::rest).toArray)) w' L:=fz.put hR gG h0 (some d1) (λd hd=>by cases hd;exact RG) hO hA (by simp[aD]) fN;rw[wpOpsIn_cons,wpOpIn];simp only[show(#[o1,o2]:Array Oper)[1]? =some o2 from rfl,Region.wanted,h6,Eg];refine⟨oU o2 w' _, ?_⟩;have ZK:(a.put (some d1) (.tuple (Value.bool b::rest).toArray)).eval (.tmp d1)=.tuple (Value.bool b::rest).toArray:=by
   simp only[Act.put,Act.eval];rw[Ci _ _ _ _ (by rw[h0.size];exact RG)];simp
  have O1:(execOp (a.put (some d1) (.tuple (Value.bool b::rest).toArray)).eval o2).run P w'=.ok (.value (.bool b)) w':=by
   simp[execOp,h4,ZK,Instr.extract]
  rw[show(vf κ.ro).round=κ.ro from rfl,Oper.semAt_eq κ.ro _ o2 (λc hc=>by rw[h4]at hc;cases hc),O1,Oper.uponIn_value,h5];obtain⟨W2,alU,M2,w02,RM,h02⟩:=R1.ex;have R2:=fz.put R1 RM h02 (some d2) (λd hd=>by cases hd;exact hd2) (v:=.v (.bool b)) (x:=.bool b) h02.o (jA.cS (c8.refl _ _)) (by simp[aD,be]) fN;exact⟨_,L,hQ,R2,λt ht=>xI t (r0.fresh t ht),r0.low,r0.it⟩
 rcases Mt (P:=P) h0.o hr hm cQ hl o1.type with⟨dJ,bO⟩|⟨e,he,hn,k,v,w',bO,hO,hA⟩
 .refine dM (b:=false) h0.o (jA.cS (c8.refl _ _)) hR.dM (λt h=>h) ⟨[],rfl⟩ ?_ (U2 dJ);simp[execOp,h1,hxv,bO]
 .refine dM (b:=true) hO hA ?_ ?_ ⟨[k,v],rfl⟩ ?_ (hgo e he hn)
  .obtain⟨N,hN⟩:=hR.dM;refine⟨max N (r+1),λr' nl=>?_⟩;simp only[cC];rw[iK (by omega)];exact hN r' (by omega)
  .intro t ht;simp only[cC];rw[iK (λe=>by rw[e,hr]at ht;cases ht)];exact ht
  .simp[execOp,h1,hxv,bO]
end
end
abbrev t(n:Nat):bK:=.tmp n
abbrev i(n:Int):bK:=.wW (.v (.int .i64 n))
abbrev o(d:qO)(r:Nat)(af:cN):RO:=⟨d,some r,none,af,none⟩
abbrev s(d:qO)(af:cN):RO:=⟨d,none,none,af,none⟩
abbrev g(d:qO)(r b:Nat)(w:Bool)(af:cN):RO:=⟨d,some r,some (b,w),af,none⟩
abbrev m(a r:Nat)(af:cN):RO:=⟨.Lg (.tmp a),some r,none,af,none⟩
abbrev n(a r:Nat):RO:=⟨.Lg (.tmp a),some r,none,[],none⟩
abbrev l(a r:Nat)(af:cN):RO:=⟨.load 1 false (.tmp a),some r,none,af,none⟩
abbrev L(k a r:Nat)(af:cN):RO:=⟨.load k true (.tmp a),some r,none,af,none⟩
abbrev a(k b r:Nat)(af:cN):RO:=⟨.addOff k (.tmp b),some r,none,af,none⟩
abbrev b(op:BinOp)(x y r:Nat)(af:cN):RO:=⟨.bin op (.tmp x) (.tmp y),some r,none,af,none⟩
abbrev c(x r:Nat)(af:cN):RO:=⟨.nilCheck (.tmp x),some r,none,af,none⟩
abbrev e(k x r:Nat)(af:cN):RO:=⟨.extract k (.tmp x),some r,none,af,none⟩
abbrev x(k y z r:Nat)(af:cN):RO:=⟨.idxAddr k (.tmp y) (.tmp z),some r,none,af,none⟩
abbrev S(k y z:Nat)(af:cN):RO:=⟨.store k (.tmp y) (.tmp z),none,none,af,none⟩
abbrev p(u v r:Nat)(af:cN):RO:=⟨.pick (.tmp u) (.wW (.v (.bool true))) (.tmp v),some r,none,af,none⟩
abbrev q(u v r:Nat)(af:cN):RO:=⟨.pick (.tmp u) (.tmp v) (.wW (.v (.bool false))),some r,none,af,none⟩
abbrev u(k y r b:Nat)(w:Bool)(af:cN):RO:=⟨.addOff k (.tmp y),some r,some (b,w),af,none⟩
abbrev v(y r b:Nat)(w:Bool)(af:cN):RO:=⟨.load 1 false (.tmp y),some r,some (b,w),af,none⟩
abbrev w(y r b:Nat)(w:Bool)(af:cN):RO:=⟨.Lg (.tmp y),some r,some (b,w),af,none⟩
abbrev y(l:cA):DC:=.region false l
abbrev Y(l:cA):DC:=.region true l
abbrev j(a b:DC):DC:=.seq a b
abbrev F(r:Nat):RO:=⟨.Lg (.wW (.v (.bool false))),some r,none,[],none⟩
abbrev R(r:Nat):RO:=⟨.Lg (.wW (.v (.bool true))),some r,none,[],none⟩
abbrev I(k:Int)(r:Nat):RO:=⟨.Lg (.wW (.v (.int .i64 k))),some r,none,[],none⟩
abbrev Z(r:Nat):RO:=⟨.Lg (.wW .aZ),some r,none,[],none⟩
abbrev B(k r:Nat):RO:=⟨.box (.tmp k),some r,none,[],none⟩
abbrev N(k r:Nat)(af:cN):RO:=⟨.len (.tmp k),some r,none,af,none⟩
abbrev U(k r:Nat)(af:cN):RO:=⟨.un .not (.tmp k),some r,none,af,none⟩
abbrev C(op:BinOp)(x:Nat)(k:Int)(r:Nat)(af:cN):RO:=⟨.bin op (.tmp x) (.wW (.v (.int .i64 k))),some r,none,af,none⟩
abbrev D(op:BinOp)(x y r b:Nat)(w:Bool)(af:cN):RO:=⟨.bin op (.tmp x) (.tmp y),some r,some (b,w),af,none⟩
abbrev E(op:BinOp)(x:Nat)(k:Int)(r b:Nat)(w:Bool)(af:cN):RO:=⟨.bin op (.tmp x) (.wW (.v (.int .i64 k))),some r,some (b,w),af,none⟩
abbrev H(x r b:Nat)(w:Bool)(af:cN):RO:=⟨.len (.tmp x),some r,some (b,w),af,none⟩
abbrev K(x r b:Nat)(w:Bool)(af:cN):RO:=⟨.un .not (.tmp x),some r,some (b,w),af,none⟩
abbrev V(k:Int):DV:=.v (.int .i64 k)
abbrev k(l:cN)(k:Nat):cN:=l++List.range (k+1)
attribute [simp] t i o s g m n l L a b c e x S p q u v w y Y j F R I Z B N U C D E H K V
section
variable{base nt:Nat}{W M W':fm}{w0:World}{st:lK}{fT:Bool}{f:FuncId}{d:DC}{cT:Array Value}
variable [bD] [dF]
inductive cH where
 |fB (t:Nat)
 |cell (a n:Nat) (agg:Bool)
def nh(P:Program):ResultVar->Option cH
 |.tmp t=>some (.fB t)
 |.cell a t=>match P.underlying t,P.info? t with
  |some d,some i=>some (.cell a i.size (bU d))
  |_,_=>none
def cH.od(st:lK):cH->D9
 |.fB t=>⟨True,st.tmps t,none⟩
 |.cell a n agg=>gP n agg st.ab (st.tmps a)
def t8(fT:Bool)(st:lK):List cH->Prop
 |[]=>True
 |r::rs=>((r.od st).ok/\Ed fT st.ab (r.od st).val)/\t8 fT st rs
def xM(st:lK)(rs:List cH):aG:=rs.map λr=>sY st.ab (r.od st).val
def U3(rs:List cH)(t:T)(st:lK):Prop:=
 t8 true st rs/\t=(match xM st rs with|[x]=>x|ts=>.dh ts)
def Mu(rs:List cH)(r:iw)(st:lK):Prop:=
 t8 false st rs/\st.ab=r.ab/\r.val=.v (match xM st rs with|[x]=>x|ts=>.dh ts)
def AP:Option T->DV
 |some t=>.v t
 |none=>.skip
def p7(ts:aG):lK:=⟨λk=>AP ts[k]?,λ_=>none,1000,1000,[]⟩
def Mv:Option DV->DV
 |some d=>d
 |none=>.skip
def Af(args:bW)(ab:bS)(N:Nat):lK:=⟨λk=>Mv args[k]?,ab,N,N,[]⟩
def afL(rs:List cH)(t:T):Exit->lK->Prop
 |.normal,st|.ret,st=>U3 rs t st
 |_,_=>False
def aaz(rs:List cH)(r:iw):Exit->lK->Prop
 |.normal,st|.ret,st=>Mu rs r st
 |_,_=>False
section
variable{P:Program}
def aaA{w:World}{a:Act}{L:Loc}(h:R0 base W M w0 nt st.tmps st.ab a w L)(hW:fT=true->∀r o b,st.ab r=some o->L.own r o=some b->¬W' b)(Rx:∀b,W' b->WW W st.ab L b){rv:ResultVar}{r:cH}(hr:nh P rv=some r)(aN:(r.od st).ok/\Ed fT st.ab (r.od st).val):
  ∃v,((match rv with|.tmp t=>pure (a.tmps.getD t Go.undef)|.cell b t=>do loadVar t (<-asAddr (a.tmps.getD b Go.undef))):Sem Value).run P w=.ok v w/\be w W' (sY st.ab (r.od st).val) v:=by
 have dM:∀{d:DV} {x:Value},aD w W st.ab L d x->Ed fT st.ab d->be w W' (sY st.ab d) x:=λhd hk=>
  (xD (fT:=fT) W' h.o hW Rx).1 _ _ hd hk
 cases rv with
 |tmp t=>
  simp only[nh,cq]at hr;subst hr;exact⟨_,rfl,dM (h.tmps t) aN.2⟩
 |cell b t=>
  simp only[nh]at hr;split at hr
  .rename_i d i hd hi;simp only[cq]at hr;subst hr;simp only[cH.od]at aN;obtain⟨hp,v,bO,hv⟩:=wb h.o hd hi (h.tmps b) aN.1;refine⟨v, ?_,dM hv aN.2⟩;have hpt:∃p,a.tmps.getD b Go.undef=.pointer (some p):=by
    have hx:=h.tmps b;have ho:=aN.1;cases hq:st.tmps b with
    |ptr r off=>rw[hq]at hx;simp only[aD]at hx;exact⟨_,hx.2⟩
    |mw aC j off=>rw[hq]at hx;simp only[aD]at hx;obtain⟨_,_,_,hx,_⟩:=hx;exact⟨_,hx⟩
    |j9 cs off=>rw[hq]at hx;simp only[aD]at hx;obtain⟨_,_,hx,_⟩:=hx;exact⟨_,hx⟩
    |kr r bG j off=>rw[hq]at hx;simp only[aD]at hx;obtain⟨⟨_,_,hx⟩,_⟩:=hx;exact⟨_,hx⟩
    |v t'=>
     rw[hq]at hx ho;cases t' with
     |box cs=>simp only[aD,be]at hx;obtain⟨_,_,hx,_⟩:=hx;exact⟨_,hx⟩
     |_=>exact ho.elim
    |_=>rw[hq]at ho;exact ho.elim
   obtain⟨p,hp⟩:=hpt;show Sem.run P (do loadVar t (<-asAddr (a.tmps.getD b Go.undef))) w=_;rw[hp]at bO⊢;simpa [Instr.loadAt,Instr.sureAddr,asAddr]using bO
  .cases hr
def O2{base:Nat}{W M:fm}{w0 w:World}{nt:Nat}{st:lK}{a:Act}{L:Loc}(h:R0 base W M w0 nt st.tmps st.ab a w L){fT:Bool}{W':fm}(hW:fT=true->∀r o b,st.ab r=some o->L.own r o=some b->¬W' b)(Rx:∀b,W' b->WW W st.ab L b):∀{rvs:List ResultVar} {rs:List cH},rvs.mapM (nh P)=some rs->t8 fT st rs->
  ∃vs,(rvs.mapM (λrv=>((match rv with|.tmp t=>pure (a.tmps.getD t Go.undef)|.cell b t=>do loadVar t (<-asAddr (a.tmps.getD b Go.undef))):Sem Value))).run P w=.ok vs w/\eS w W' (xM st rs) vs
 |[],rs,hr,_=>by simp at hr;subst hr;exact⟨[],by simp,by simp[xM,eS]⟩
 |rv::rvs,rs,hr,aN=>by
  simp only[Zbw,vj,kw,jE,cq]at hr;obtain⟨r,ql,rs',mK,rfl⟩:=hr;simp only[t8]at aN;obtain⟨v,h1,h2⟩:=aaA h hW Rx ql aN.1;obtain⟨vs,h3,h4⟩:=O2 h hW Rx mK aN.2;refine⟨v::vs, ?_, ?_⟩
  .rw[Zbw];simp only[Sem.run_bind,h1,Result.andThen_ok,h3,Sem.run_pure]
  .simp only[xM,vG,eS];exact⟨v,vs,rfl,h2,h4⟩
def ub{w:World}{a:Act}{L:Loc}(h:R0 base W M w0 nt st.tmps st.ab a w L)(hW:fT=true->∀r o b,st.ab r=some o->L.own r o=some b->¬W' b)(Rx:∀b,W' b->WW W st.ab L b){fn:Func}{rs:List cH}(hr:fn.results.toList.mapM (nh P)=some rs){t:T}(aN:t8 fT st rs/\t=(match xM st rs with|[x]=>x|ts=>.dh ts)):
  ∃v,(results fn a.tmps).run P w=.ok v w/\be w W' t v:=by
 obtain⟨h1,rfl⟩:=aN;obtain⟨vs,h2,h3⟩:=O2 h hW Rx hr h1;have hm:(fn.results.mapM (λrv=>((match rv with|.tmp t=>pure (a.tmps.getD t Go.undef)|.cell b t=>do loadVar t (<-asAddr (a.tmps.getD b Go.undef))):Sem Value))).run P w=.ok vs.toArray w:=by
  rw[Zdv];simp only[Sem.run_map,h2,Result.andThen_ok]
 have hl:vs.length=(xM st rs).length:=eS.length h3;refine⟨if h:vs.toArray.size=1 then vs.toArray[0]else .tuple vs.toArray, ?_, ?_⟩
 .have pY:(results fn a.tmps)=(do
   let vs<-fn.results.mapM (λrv=>((match rv with|.tmp t=>pure (a.tmps.getD t Go.undef)|.cell b t=>do loadVar t (<-asAddr (a.tmps.getD b Go.undef))):Sem Value))
   pure (if h:vs.size=1 then vs[0]else .tuple vs)):=rfl
  rw[pY];simp only[Sem.run_bind,hm,Result.andThen_ok,Sem.run_pure]
 .cases xz:xM st rs with
  |nil=>
   rw[xz]at hl h3;have:vs=[]:=oK (by simpa using hl);subst this;simp only[be];exact⟨#[],by simp,by simp[eS]⟩
  |cons x xs=>
   rw[xz]at hl h3;cases xs with
   |nil=>
    simp only[eS]at h3;obtain⟨v,jz,rfl,hv,rfl⟩:=h3;simpa using hv
   |cons y ys=>
    have:vs.toArray.size≠1:=by simp at hl⊢;omega
    rw[dif_neg this];simp only[be];exact⟨_,rfl,by simpa using h3⟩
def RN{κ:oT}{st:RS}{a:Act}{w:World}{L:Loc}(hJ:κ.J=none)(h:fz κ nt st a w L){D:Nat}{Ds:cN}(hd:a.defers=(D::Ds).map mark)(hn:(D::Ds).Nodup)(hk:∀D'∈D::Ds,w.heap[D']? =some (.deferred (some []))/\κ.gw.heap.size<=D'):
  fz κ nt st {a with defers:=Ds.map mark} (w.putObj D (.deferred none)) L:=by
 obtain⟨W,base,M,w0,gG,h0⟩:=h.ex;have hD:=hk D (Iu ..);have cQ:=(cM.1 hD.1).1;have Mp:∀b,b≠D->(w.putObj D (.deferred none)).heap[b]? =w.heap[b]? :=λb hb=>World.putObj_heap_other hb;have jc:(w.putObj D (.deferred none)).heap.size=w.heap.size:=by simp[World.putObj]
 have Cl:=gG;unfold oT.At at Cl;simp only[hJ]at Cl;obtain⟨_,rfl,rfl,rfl,rfl⟩:=Cl;have hbD:κ.base<=D:=zN (h.bg hJ) hD.2;have oW:∀(b:Nat) c e fr,w.heap[b]? =some (.cells c e fr)->(w.putObj D (.deferred none)).heap[b]? =some (.cells c e fr):=λb c e fr hb=>by
  rw[Mp b (by rintro rfl;rw[hD.1]at hb;cases hb)];exact hb
 have wl:KeepsC (WW κ.W st.ab L) w (w.putObj D (.deferred none)):=⟨by rw[jc];exact gJ _,λb c e fr hb _=>oW b c e fr hb⟩;have kd:∀(d:DV) (x:Value),aD w κ.W st.ab L d x->aD (w.putObj D (.deferred none)) κ.W st.ab L d x:=λd x=>(mS wl (SizeOf.sizeOf d+1)).1 d x (by omega);have hO:ci κ.base κ.W κ.M κ.w0 st.ab (w.putObj D (.deferred none)) L:=tW h0.o hD.1 (λe=>e) hbD;refine⟨⟨κ.W,κ.base,κ.M,κ.w0,gG,h0.size,λt=>kd _ _ (h0.tmps t),hO⟩, ?_,⟨Ds,rfl,(ZcX.1 hn).2,λD' hD'=>?_,λh=>by rw[hJ]at h;cases h⟩,h.bg,h.dM⟩
 .have Z0:=h.gq;refine⟨⟨⟨by rw[jc];exact Z0.cL.size,λb c e fr hb RP=>oW _ _ _ _ (Z0.cL.jK b c e fr hb RP)⟩,λb hb=>?_,λb r hb=>?_⟩,Z0.sub,Z0.fix,Z0.bm,Z0.yl⟩
  .rw[Mp b (by have:=(cM.1 hb).1;rw[oT.xH]at this;omega)];exact Z0.cL.OI b hb
  .rw[Mp b (by have:=(cM.1 hb).1;rw[oT.xH]at this;omega)];exact Z0.cL.Rj b r hb
 .have dd:D'≠D:=λe=>(ZcX.1 hn).1 (e▸hD');have:=hk D' (Ib _ hD');exact⟨by rw[Mp D' dd];exact this.1,this.2⟩
def leaves{κ:oT}{nt:Nat}{st:RS}{fn:Func}{R:Ending->World->Prop}(hJ:κ.J=none)(hR:∀(a:Act) (w:World) (L:Loc),fz κ nt st a w L->∃v,(results fn a.tmps).run P w=.ok v w/\R (.returned v) w):
  ∀(Ds:cN) (a:Act) (w:World) (L:Loc),fz κ nt st a w L->a.defers=Ds.map mark->Ds.Nodup->(∀D∈Ds,w.heap[D]? =some (.deferred (some []))/\κ.gw.heap.size<=D)->
   LeavesInM Fence.wide 0 P fn a.tmps R (Ds.map mark) .returning w
 |[],a,w,L,h,_,_,_=>by
  obtain⟨v,h1,h2⟩:=hR a w L h;exact⟨v,h1,h2⟩
 |D::Ds,a,w,L,h,hd,hn,hk=>by
  refine⟨by simp,.inl ⟨D,w.putObj D (.deferred none),rfl,run_takeDeferred (hk D (Iu ..)).1, ?_⟩⟩;have h':=RN hJ h hd hn hk;obtain⟨Ds',e1,_,e3,_⟩:=h'.defers;have e:Ds'=Ds:=by
   have hi:∀(l l':cN),l.map mark=l'.map mark->l=l':=by
    intro l;induction l with
    |nil=>intro l' e;cases l'<;>simp_all
    |cons x l ih=>
     intro l' e;cases l' with
     |nil=>simp at e
     |cons y l'=>
      simp only[vG,Gf,mark,Deferred.mk.injEq,Target.collected.injEq,ZI]at e;rw[e.1,ih l' e.2]
   exact hi _ _ e1.symm
  subst e;exact leaves hJ hR Ds' {a with defers:=Ds'.map mark} _ L h' rfl (ZcX.1 hn).2 e3
def aR(P:Program)(f:FuncId)(nt:Nat)(d:DC)(rs:List cH):Prop:=
 ∃fn,P.funcs[f]? =some fn/\fn.ntmps=nt/\fn.body.map (bR P nt)=some d/\fn.results.toList.mapM (nh P)=some rs/\(fn.name== "runtime.NumGoroutine")=false
abbrev dI(n:Nat):List cH:=[.fB n]
def aR.of{f:FuncId}{nt:Nat}{d:DC}{rs:List cH}(fn:Func)(h:(P.funcs[f]?,fn.ntmps,fn.body.map (bR P nt),fn.results.toList.mapM (nh P),fn.name== "runtime.NumGoroutine")=(some fn,nt,some d,some rs,false)):aR P f nt d rs:=by
 simp only[eX]at h;exact⟨fn,h⟩
def aR.entry{rs:List cH}(h:aR P f nt d rs):Cg P f:=by
 obtain⟨fn,h1,_,h3,_,h5⟩:=h;obtain⟨c,h2,_⟩:=ju.1 h3;exact⟨fn,h1,by simpa using h5,by simp[h2]⟩
def qw{n:Nat}{k:Nat}{v:Value}(h:cT.toList[k]? =some v):(cT++Array.replicate (n-cT.size) Go.undef).getD k Go.undef=v:=by
 have cQ:k<cT.size:=by have:=(tp.1 h).1;simpa using this
 rw[vq,Zdu cQ];simp only[Zb9]at h;rw[h];rfl
def qx{n:Nat}{k:Nat}(h:cT.size<=k):(cT++Array.replicate (n-cT.size) Go.undef).getD k Go.undef=Go.undef:=by
 rw[vq,Array.getElem?_append_right h,Array.getElem?_replicate];split<;>rfl
def aR.ok{rs:List cH}(h:aR P f nt d rs){ts:aG}{t:T}(ct:ts.length<=nt)(k:aa P nt d (afL rs t) (p7 ts)):aJ P f ts t:=by
 have Cw:=h.entry;obtain⟨fn,yB,rfl,h3,hr,_⟩:=h;obtain⟨c,hb,hc⟩:=ju.1 h3;refine⟨Cw,λW w cT hW hg ip=>?_⟩;have hl:=eS.length ip;simp only[Lt]at hl;have xN:Ms ⟨W,λ_=>none,⟨λ_=>0,λ_=>Go.undef,0⟩,w,w.heap.size,λ_=>False,w,none,none,none⟩ fn.ntmps (p7 ts) {tmps:=cT++Array.replicate (fn.ntmps-cT.size) Go.undef,defers:=[]} w ⟨λ_=>0,λ_=>Go.undef,0⟩:=by
  refine⟨⟨⟨W,w.heap.size,λ_=>False,w,⟨λ_=>rfl,rfl,rfl,rfl,rfl⟩,by simp;omega,λk=>?_,⟨Fr.refl (gJ _),(λr o h=>by cases h),(λr r' o o' b _ h=>by cases h),(λr o b h=>by cases h),hW,hg.start⟩⟩,
   jA.cS (c8.refl _ _),⟨[],rfl,Zcx,(λ_ h=>by cases h),λ_=>rfl⟩,λ_=>gJ _,⟨0,λ_ _=>rfl⟩⟩,λ_ _=>rfl,λ_ _=>rfl,λh=>by cases h⟩
  simp only[p7];cases hk:ts[k]? with
  |some x=>
   obtain⟨v,hv,nk⟩:=eS.get ip hk;simp only[qw hv,AP,aD];refine be.aL (c8.refl W w).toKeepsC ?_ x v nk;rintro b hb (h|⟨r,o,h,_⟩)
   .exact h
   .cases h
  |none=>
   have Ba:cT.size<=k:=by
    have:=Zcc.1 hk;omega
   simp only[AP,aD,qx Ba]
 refine callsIn_wide.1 (callsIn_of_wp_marks (n:=0) yB hb trivial ?_);refine wpIn_mono (k.run c hc 0 _ _ _ _ ⟨λJ hJ=>(by cases hJ),λl r s hY=>(by cases hY),λl hl=>(by cases hl)⟩ xN) ?_;rintro e a' w' ⟨ir,L',q,r'⟩;have done:U3 rs t ir->LeavesInM Fence.wide 0 P fn a'.tmps (λe w'=>∃v,e=.returned v/\xl w.heap.size w w'/\be w' W t v) a'.defers .returning w':=by
  intro hq;obtain⟨Ds,h1,h2,h3,_⟩:=r'.r.defers;rw[h1];refine leaves (κ:=⟨W,λ_=>none,⟨λ_=>0,λ_=>Go.undef,0⟩,w,w.heap.size,λ_=>False,w,none,none,none⟩) rfl ?_ Ds a' w' L' r'.r h1 h2 h3;intro a2 w2 L2 h4;obtain⟨W',O3,M',w0',gG,h0⟩:=h4.ex;obtain⟨_,e1,e2,e3,e4⟩:=gG
  replace h0:R0 w.heap.size W (λ_=>False) w fn.ntmps ir.tmps ir.ab a2 w2 L2:=by rw[e1,e2,e3,e4]at h0;exact h0
  obtain⟨v,k1,k2⟩:=ub (st:=ir) h0 (fT:=true) (W':=W) (λ_ r o b e1 e2=>h0.o.tK r o b e1 e2) (λb hb=>.inl hb) hr hq;have fr:=h0.o.fr;exact⟨v,k1,v,rfl,⟨⟨fr.os,fr.tape,fr.output,fr.size,λk hk=>fr.block k hk (λx=>x)⟩,fr.drawn⟩,k2⟩
 cases e with
 |normal=>exact done q
 |ret=>exact done q
 |_=>exact q.elim
def aR.Z1{rs:List cH}(h:aR P f nt d rs){args:bW}{ab:bS}{r:iw}{N:Nat}(hN:∀r,N<=r->ab r=none)(ct:args.length<=nt)(k:aa P nt d (aaz rs r) (Af args ab N)):ce P f args ab r:=by
 have Cw:=h.entry;obtain⟨fn,yB,rfl,h3,hr,_⟩:=h;obtain⟨c,hb,hc⟩:=ju.1 h3;refine⟨Cw,λbase W M w0 w L cT hO Lb=>?_⟩;have hl:=Lb.1;simp only[Lt]at hl;have xN:Ms ⟨W,ab,L,w,base,M,w0,none,none,none⟩ fn.ntmps (Af args ab N) {tmps:=cT++Array.replicate (fn.ntmps-cT.size) Go.undef,defers:=[]} w L:=by
  refine⟨⟨⟨W,base,M,w0,⟨λ_=>rfl,rfl,rfl,rfl,rfl⟩,by simp;omega,λk=>?_,hO⟩,
   jA.cS (c8.refl _ _),⟨[],rfl,Zcx,(λ_ h=>by cases h),λ_=>rfl⟩,λ_=>zN hO.fr.jN hO.fr.size,⟨N,hN⟩⟩,hN,hN,λh=>by cases h⟩
  simp only[Af];cases hk:args[k]? with
  |some x=>
   have hv:∃v,cT.toList[k]? =some v:=by
    have:k<cT.size:=by rw[hl];exact(tp.1 hk).1
    exact⟨cT[k],by simp[this]⟩
   obtain⟨v,hv⟩:=hv;simp only[qw hv,Mv];exact Lb.2 k x v hk hv
  |none=>
   have Ba:cT.size<=k:=by
    have:=Zcc.1 hk;omega
   simp only[Mv,aD,qx Ba]
 refine callsIn_wide.1 (callsIn_of_wp_marks (n:=0) yB hb trivial ?_);refine wpIn_mono (k.run c hc 0 _ _ _ _ ⟨λJ hJ=>(by cases hJ),λl r s hY=>(by cases hY),λl hl=>(by cases hl)⟩ xN) ?_;rintro e a' w' ⟨ir,L',q,r'⟩;have done:Mu rs r ir->LeavesInM Fence.wide 0 P fn a'.tmps (λe w'=>∃v L',e=.returned v/\ci base W M w0 r.ab w' L'/\jA W ab L w r.ab L' w'/\aD w' W r.ab L' r.val v) a'.defers .returning w':=by
  rintro⟨hq1,ZO,hq3⟩;obtain⟨Ds,h1,h2,h3,_⟩:=r'.r.defers;rw[h1];refine leaves (κ:=⟨W,ab,L,w,base,M,w0,none,none,none⟩) rfl ?_ Ds a' w' L' r'.r h1 h2 h3;intro a2 w2 L2 h4;obtain⟨W',O3,M',w0',gG,h0⟩:=h4.ex;obtain⟨_,e1,e2,e3,e4⟩:=gG
  replace h0:R0 base W M w0 fn.ntmps ir.tmps ir.ab a2 w2 L2:=by rw[e1,e2,e3,e4]at h0;exact h0
  obtain⟨v,k1,k2⟩:=ub (st:=ir) h0 (fT:=false) (W':=WW W ir.ab L2) (λx=>by cases x) (λb hb=>hb) hr ⟨hq1,rfl⟩;have Im:=h0.o;have Mw:=h4.gq;simp only[ZO]at Im Mw k2;refine⟨v,k1,v,L2,rfl,Im,Mw, ?_⟩;rw[hq3];simp only[aD];exact k2
 cases e with
 |normal=>exact done q
 |ret=>exact done q
 |_=>exact q.elim
end
end
end Go.DM
namespace Go.DM
open Go.RowKit
variable [bD] [dF]
section
def eW(Γ:kv)(aP:Nat):cA->RS->(RS->Prop)->Prop
 |[],st,K=>K st
 |r::rs,st,K=>
  match r.guard with
  |none=>dN r st.tmps/\tV r st.ab (post Γ aP r st).ab/\(post Γ aP r st).ok/\eW Γ aP rs ⟨cO st.tmps r.dst (post Γ aP r st).val,(post Γ aP r st).ab,(post Γ aP r st).todo⟩ K
  |some (s,lI)=>
   match st.tmps s with
   |.v (.bool b)=>(b=lI->dN r st.tmps/\tV r st.ab (post Γ aP r st).ab/\(post Γ aP r st).ok/\eW Γ aP rs ⟨cO (cO st.tmps (some s) (.v (.bool lI))) r.dst (post Γ aP r st).val,(post Γ aP r st).ab,(post Γ aP r st).todo⟩ K)/\
     (b= !lI->eW Γ aP rs ⟨cO (cO st.tmps (some s) (.v (.bool (!lI)))) r.dst .skip,st.ab,st.todo⟩ K)
   |.skip=>eW Γ aP rs ⟨cO st.tmps r.dst .skip,st.ab,st.todo⟩ K
   |_=>False
def kf{ρ:dW}{s:Nat}{v:DV}(h:ρ s=v):cO ρ (some s) v=ρ:=by
 funext x;simp only[cO];split
 .rename_i e;rw[e,h]
 .rfl
def jS{Γ:kv}{aP:Nat}:∀(rs:cA) (st:RS) (K:RS->Prop),eW Γ aP rs st K->jR Γ aP rs st/\K (dQ Γ aP rs st)
 |[],st,K,h=>⟨trivial,h⟩
 |r::rs,st,K,h=>by
  simp only[eW]at h;simp only[jR,dQ];have yes:fQ r.guard st.tmps=some true->(dN r st.tmps/\tV r st.ab (post Γ aP r st).ab/\(post Γ aP r st).ok/\eW Γ aP rs ⟨cO st.tmps r.dst (post Γ aP r st).val,(post Γ aP r st).ab,(post Γ aP r st).todo⟩ K)->(cI Γ aP r st/\jR Γ aP rs (dX Γ aP r st))/\K (dQ Γ aP rs (dX Γ aP r st)):=by
   rintro hw ⟨ht,hk4,aN,hk⟩;have e1:dX Γ aP r st=⟨cO st.tmps r.dst (post Γ aP r st).val,(post Γ aP r st).ab,(post Γ aP r st).todo⟩:=by simp only[dX,hw]
   have e2:cI Γ aP r st:=by simp only[cI,hw];exact⟨aN,ht,hk4⟩
   rw[e1];have:=jS rs _ K hk;exact⟨⟨e2,this.1⟩,this.2⟩
  have no:fQ r.guard st.tmps=some false->eW Γ aP rs ⟨cO st.tmps r.dst .skip,st.ab,st.todo⟩ K->(cI Γ aP r st/\jR Γ aP rs (dX Γ aP r st))/\K (dQ Γ aP rs (dX Γ aP r st)):=by
   rintro hw hk;have e1:dX Γ aP r st=⟨cO st.tmps r.dst .skip,st.ab,st.todo⟩:=by simp only[dX,hw]
   have e2:cI Γ aP r st:=by simp only[cI,hw]
   rw[e1];have:=jS rs _ K hk;exact⟨⟨e2,this.1⟩,this.2⟩
  cases hg:r.guard with
  |none=>rw[hg]at h;exact yes (by simp[fQ,hg]) h
  |some g=>
   obtain⟨s,lI⟩:=g;rw[hg]at h;simp only at h;cases hs:st.tmps s with
   |skip=>rw[hs]at h;exact no (by simp[fQ,hg,hs]) h
   |v t=>
    rw[hs]at h;cases t with
    |bool b=>
     simp only at h;by_cases hb:b=lI
     .subst hb;rw[kf hs]at h;exact yes (by simp[fQ,hg,hs]) (h.1 rfl)
     .have nI:b= !lI:=by cases b<;>cases lI<;>simp_all
      subst nI;rw[kf hs]at h;exact no (by simp[fQ,hg,hs]) (h.2 rfl)
    |_=>exact h.elim
   |_=>rw[hs]at h;exact h.elim
def gB(Γ:kv)(aP:Nat)(rs:cA)(tm:dW)(ob:bS)(td:List (aG))(K:RS->Prop)(dst:Option Nat)(e:D9):Prop:=
 e.ok/\eW Γ aP rs ⟨cO tm dst e.val,cC ob e.put,td⟩ K
def Ff(Γ:kv)(aP:Nat)(rs:cA)(tm:dW)(K:RS->Prop)(dst:Option Nat)(e:afy):Prop:=
 e.ok/\eW Γ aP rs ⟨cO tm dst e.val,e.ab,e.todo⟩ K
def mF(Γ:kv)(aP:Nat)(d:qO)(rs:cA)(tm:dW)(ob:bS)(td:List (aG))(K:RS->Prop)(dst:Option Nat)(gu:dW):Prop:=
 if qP d then Ff Γ aP rs gu K dst (zL Γ d tm ob td)else gB Γ aP rs gu ob td K dst (db Γ d (bQ aP dst) tm ob)
def Mx(Γ:kv)(aP:Nat)(d:qO)(rs:cA)(tm:dW)(ob:bS)(td:List (aG))(K:RS->Prop)(dst:Option Nat)(s:Nat)(lI:Bool)(g:DV):Prop:=
 match g with
 |.v (.bool b)=>(b=lI->mF Γ aP d rs tm ob td K dst (cO tm (some s) (.v (.bool lI))))/\
   (b= !lI->eW Γ aP rs ⟨cO (cO tm (some s) (.v (.bool (!lI)))) dst .skip,ob,td⟩ K)
 |.skip=>eW Γ aP rs ⟨cO tm dst .skip,ob,td⟩ K
 |_=>False
section
variable{Γ:kv}{aP:Nat}{st:RS}{K:RS->Prop}{rs:cA}{tm gu:dW}{ob:bS}{td:List (aG)}{dst:Option Nat}
def aaB(ok:Prop)(v:DV)(p:Option (Nat×Ob)):gB Γ aP rs tm ob td K dst ⟨ok,v,p⟩=(ok/\eW Γ aP rs ⟨cO tm dst v,cC ob p,td⟩ K):=rfl
def U4(ok:Prop)(v:DV)(AQ:bS)(td':List (aG)):Ff Γ aP rs tm K dst ⟨ok,v,AQ,td'⟩=(ok/\eW Γ aP rs ⟨cO tm dst v,AQ,td'⟩ K):=rfl
def U5:gB Γ aP rs tm ob td K dst cW=False:=by simp[gB,cW]
def RQ(f:FuncId)(args:List bK):mF Γ aP (.callS f args) rs tm ob td K dst gu=Ff Γ aP rs gu K dst (zL Γ (.callS f args) tm ob td):=by simp[mF,qP]
def ags(x:bK)(args:List bK):mF Γ aP (.callv x args) rs tm ob td K dst gu=Ff Γ aP rs gu K dst (zL Γ (.callv x args) tm ob td):=by simp[mF,qP]
def nw(d:qO)(s:Nat)(b lI:Bool):Mx Γ aP d rs tm ob td K dst s lI (.v (.bool b))=((b=lI->mF Γ aP d rs tm ob td K dst (cO tm (some s) (.v (.bool lI))))/\
   (b= !lI->eW Γ aP rs ⟨cO (cO tm (some s) (.v (.bool (!lI)))) dst .skip,ob,td⟩ K)):=rfl
def U6:eW Γ aP [] st K=K st:=rfl
def xO{d:qO}{g:Option (Nat×Bool)}{af:cN}{l:Option (cN)}:((post Γ aP ⟨d,dst,g,af,l⟩ ⟨tm,ob,td⟩).ok/\eW Γ aP rs ⟨cO gu dst (post Γ aP ⟨d,dst,g,af,l⟩ ⟨tm,ob,td⟩).val,(post Γ aP ⟨d,dst,g,af,l⟩ ⟨tm,ob,td⟩).ab,(post Γ aP ⟨d,dst,g,af,l⟩ ⟨tm,ob,td⟩).todo⟩ K)=mF Γ aP d rs tm ob td K dst gu:=by
 unfold post mF;cases h:qP d<;>simp[gB,Ff,od]
def Cx{d:qO}{g:Option (Nat×Bool)}{af:cN}{o o':bS}:tV ⟨d,dst,g,af,none⟩ o o'=True:=eq_true λ_ l h=>by cases h
def O4(l:cN)(o o':bS):Prop:=∀n,n∉l->o' n=o n
def Cy{d:qO}{g:Option (Nat×Bool)}{af l:cN}:tV ⟨d,dst,g,af,some l⟩ ob (post Γ aP ⟨d,dst,g,af,some l⟩ ⟨tm,ob,td⟩).ab=(qP d=true->O4 l ob (zL Γ d tm ob td).ab):=by
 unfold tV O4 post;by_cases h:qP d=true
 .simp[h]
 .simp[h]
def My(d:qO)(af:cN):eW Γ aP (⟨d,dst,none,af,none⟩::rs) ⟨tm,ob,td⟩ K=mF Γ aP d rs tm ob td K dst tm:=by
 simp only[eW,dN,Cx,Em];exact xO
def Mz(d:qO)(af:cN)(l:cN):
  eW Γ aP (⟨d,dst,none,af,some l⟩::rs) ⟨tm,ob,td⟩ K=(dN ⟨d,dst,none,af,some l⟩ tm/\(qP d=true->O4 l ob (zL Γ d tm ob td).ab)/\mF Γ aP d rs tm ob td K dst tm):=by
 simp only[eW];rw[xO,Cy]
@[simp low] def oZ(d:qO)(s:Nat)(lI:Bool)(af:cN):
  eW Γ aP (⟨d,dst,some (s,lI),af,none⟩::rs) ⟨tm,ob,td⟩ K=Mx Γ aP d rs tm ob td K dst s lI (tm s):=by
 simp only[eW,Mx,dN,Cx,Em];rw[xO]
end
section
variable{Γ:kv}{aP:Nat}{K:RS->Prop}{rs:cA}{tm:dW}{ob:bS}{td:List (aG)}{dst:Option Nat}{d:qO}{s:Nat}{af:cN}
@[simp] def aki(h:tm s=.v (.bool true)):eW Γ aP (⟨d,dst,some (s,true),af,none⟩::rs) ⟨tm,ob,td⟩ K=mF Γ aP d rs tm ob td K dst tm:=by
 rw[oZ,h,nw,kf h];simp
@[simp] def akj(h:tm s=.v (.bool false)):eW Γ aP (⟨d,dst,some (s,false),af,none⟩::rs) ⟨tm,ob,td⟩ K=mF Γ aP d rs tm ob td K dst tm:=by
 rw[oZ,h,nw,kf h];simp
@[simp] def akk(h:tm s=.v (.bool true)):eW Γ aP (⟨d,dst,some (s,false),af,none⟩::rs) ⟨tm,ob,td⟩ K=eW Γ aP rs ⟨cO tm dst .skip,ob,td⟩ K:=by
 rw[oZ,h,nw];simp[kf h]
@[simp] def akl(h:tm s=.v (.bool false)):eW Γ aP (⟨d,dst,some (s,true),af,none⟩::rs) ⟨tm,ob,td⟩ K=eW Γ aP rs ⟨cO tm dst .skip,ob,td⟩ K:=by
 rw[oZ,h,nw];simp[kf h]
@[simp] def akm{lI:Bool}(h:tm s=.skip):eW Γ aP (⟨d,dst,some (s,lI),af,none⟩::rs) ⟨tm,ob,td⟩ K=eW Γ aP rs ⟨cO tm dst .skip,ob,td⟩ K:=by
 rw[oZ,h];rfl
end
def look:pe->Nat->DV
 |[],_=>.undef
 |(j,v)::l,k=>if k=j then v else look l k
def cR:fS->Nat->Option Ob
 |[],_=>none
 |(j,o)::l,k=>if k=j then some o else cR l k
def U7(f:dW)(k:Nat)(v:DV)(x:Nat):cO f (some k) v x=if x=k then v else f x:=rfl
def RU(f:dW)(v:DV):cO f none v=f:=rfl
def agt(f:bS):cC f none=f:=rfl
def Fg(f:bS)(r:Nat)(o:Ob)(x:Nat):cC f (some (r,o)) x=if x=r then some o else f x:=rfl
def oF(j:Nat)(v:DV)(l:pe)(k:Nat):look ((j,v)::l) k=if k=j then v else look l k:=rfl
def U8(k:Nat):look [] k=.undef:=rfl
def tB(j:Nat)(o:Ob)(l:fS)(k:Nat):cR ((j,o)::l) k=if k=j then some o else cR l k:=rfl
def O5(k:Nat):cR [] k=none:=rfl
def U9(l:fS)(r:Nat)(o:Ob):cC (cR l) (some (r,o))=cR ((r,o)::l):=rfl
def o5(ks:cN)(tm:dW):pe:=ks.map λk=>(k,tm k)
def Cz(k:Nat)(ks:cN)(tm:dW):o5 (k::ks) tm=(k,tm k)::o5 ks tm:=rfl
def RW(tm:dW):o5 [] tm=[]:=rfl
def o6(tm:dW):∀(ks:cN) (k:Nat),look (o5 ks tm) k=.undef\/look (o5 ks tm) k=tm k
 |[],_=>.inl rfl
 |j::ks,k=>by
  rw[Cz,oF];split
  .rename_i h;exact .inr (by rw[h])
  .exact o6 tm ks k
def Le.vN{st:lK}{tm:dW}(h:∀k,tm k=.undef\/tm k=st.tmps k):Le st ⟨tm,st.ab,st.aP,st.low,st.todo⟩:=λκ nt a w L r=>
 ⟨L,⟨by
  obtain⟨W,base,M,w0,gG,h0⟩:=r.r.ex;exact⟨W,base,M,w0,gG,h0.size,λt=>by
   rcases h t with e|e
   .show aD w W st.ab L (tm t) _;rw[e];simp[aD]
   .show aD w W st.ab L (tm t) _;rw[e];exact h0.tmps t,h0.o⟩,r.r.gq,r.r.defers,r.r.bg,r.r.dM⟩,r.fresh,r.low,r.it⟩
def RX(ts:aG):Le (p7 ts) ⟨look ((ts.map .v).zipIdx.map λp=>(p.2,p.1)),cR [],1000,1000,[]⟩:=by
 have key:∀(ts:aG) (i k:Nat),look (((ts.map .v).zipIdx i).map λp=>(p.2,p.1)) k=.undef\/look (((ts.map .v).zipIdx i).map λp=>(p.2,p.1)) k=AP (if i<=k then ts[k-i]? else none):=by
  intro ts;induction ts with
  |nil=>intro i k;exact .inl rfl
  |cons t ts ih=>
   intro i k;simp only[vG,ZcM,oF];split
   .rename_i h;subst h;exact .inr (by simp[AP])
   .rename_i h;rcases ih (i+1) k with e|e
    .exact .inl e
    .right;rw[e];by_cases hk:i+1<=k
     .rw[ee hk,ee (by omega),show k-i=(k-(i+1))+1 by omega,Ou]
     .have:¬i<=k:=by omega
      rw[iK hk,iK this]
 refine Le.trans (Le.vN (st:=p7 ts) (tm:=look ((ts.map .v).zipIdx.map λp=>(p.2,p.1))) λk=>?_) (λκ nt a w L r=>⟨L,r⟩);have:=key ts 0 k;simpa [p7]using this
section
variable{P:Program}{nt:Nat}{Γ:kv}{Q:Exit->lK->Prop}{st:lK}{tm:dW}{ob:bS}{aP low:Nat}{td:List (aG)}
def aa.cZ(bb:aw P Γ)(hm:P.follows .mixedOrders=true){iL:Bool}{rs:cA}(ks:cN)
  (h:eW Γ aP rs ⟨tm,ob,td⟩ λs=>Q .normal ⟨look (o5 ks s.tmps),s.ab,aP+nt+1,low,s.todo⟩):aa P nt (.region iL rs) Q ⟨tm,ob,aP,low,td⟩:=by
 have:=jS _ _ _ h;refine aa.rN (Q:=λe s=>e=.normal/\s=⟨(dQ Γ aP rs ⟨tm,ob,td⟩).tmps,(dQ Γ aP rs ⟨tm,ob,td⟩).ab,aP+nt+1,low,(dQ Γ aP rs ⟨tm,ob,td⟩).todo⟩) (aa.region bb hm (st:=⟨tm,ob,aP,low,td⟩) this.1 ⟨rfl,rfl⟩) ?_;rintro e s ⟨rfl,rfl⟩;exact⟨_,Le.vN (o6 _ ks),this.2⟩
def aa.ai(bb:aw P Γ)(hm:P.follows .mixedOrders=true){iL:Bool}{rs:cA}{b:DC}(ks:cN)
  (h:eW Γ aP rs ⟨tm,ob,td⟩ λs=>aa P nt b Q ⟨look (o5 ks s.tmps),s.ab,aP+nt+1,low,s.todo⟩):aa P nt (.seq (.region iL rs) b) Q ⟨tm,ob,aP,low,td⟩:=
 aa.seq (aa.cZ bb hm ks h)
def aa.rP(bb:aw P Γ)(hm:P.follows .mixedOrders=true){d:DC}{rs:cA}(hd:d=.rK (rs.map bare)\/∃iL,d=.region iL (rs.map bare))(aN:eC nt true rs=true)(ks:cN)
  (h:eW Γ aP rs ⟨tm,ob,td⟩ λs=>Q .normal ⟨look (o5 ks s.tmps),s.ab,aP+nt+1,low,s.todo⟩):aa P nt d Q ⟨tm,ob,aP,low,td⟩:=by
 have:=jS _ _ _ h;refine aa.rN (Q:=λe s=>e=.normal/\s=⟨(dQ Γ aP rs ⟨tm,ob,td⟩).tmps,(dQ Γ aP rs ⟨tm,ob,td⟩).ab,aP+nt+1,low,(dQ Γ aP rs ⟨tm,ob,td⟩).todo⟩) (aa.aay bb hm hd aN (st:=⟨tm,ob,aP,low,td⟩) this.1 ⟨rfl,rfl⟩) ?_;rintro e s ⟨rfl,rfl⟩;exact⟨_,Le.vN (o6 _ ks),this.2⟩
def aa.fR(bb:aw P Γ)(hm:P.follows .mixedOrders=true){d b:DC}{rs:cA}(hd:d=.rK (rs.map bare)\/∃iL,d=.region iL (rs.map bare))(aN:eC nt true rs=true)(ks:cN)
  (h:eW Γ aP rs ⟨tm,ob,td⟩ λs=>aa P nt b Q ⟨look (o5 ks s.tmps),s.ab,aP+nt+1,low,s.todo⟩):aa P nt (.seq d b) Q ⟨tm,ob,aP,low,td⟩:=
 aa.seq (aa.rP bb hm hd aN ks h)
end
def aH{P:Program}{nt:Nat}{d:DC}{Q:Exit->lK->Prop}{ts:aG}(h:aa P nt d Q ⟨look ((ts.map .v).zipIdx.map λp=>(p.2,p.1)),cR [],1000,1000,[]⟩):aa P nt d Q (p7 ts):=aa.le (RX ts) h
section
variable{Γ:kv}{aP:Nat}{K:RS->Prop}{rs:cA}{tm gu:dW}{ob:bS}{td:List (aG)}{dst:Option Nat}
@[simp] def atl(x:bK):mF Γ aP (.Lg x) rs tm ob td K dst gu=gB Γ aP rs gu ob td K dst (db Γ (.Lg x) (bQ aP dst) tm ob):=rfl
@[simp] def alV(c a b:bK):mF Γ aP (.pick c a b) rs tm ob td K dst gu=gB Γ aP rs gu ob td K dst (db Γ (.pick c a b) (bQ aP dst) tm ob):=rfl
@[simp] def akn(zero:bW):mF Γ aP (.alloc zero) rs tm ob td K dst gu=gB Γ aP rs gu ob td K dst (db Γ (.alloc zero) (bQ aP dst) tm ob):=rfl
@[simp] def atm(x:bK):mF Γ aP (.box x) rs tm ob td K dst gu=gB Γ aP rs gu ob td K dst (db Γ (.box x) (bQ aP dst) tm ob):=rfl
@[simp] def ako(zero:bW)(parts:List (Nat×Nat×bK)):mF Γ aP (.build zero parts) rs tm ob td K dst gu=gB Γ aP rs gu ob td K dst (db Γ (.build zero parts) (bQ aP dst) tm ob):=rfl
@[simp] def afM(len sz:Nat)(zero:bW)(parts:List (Nat×Nat×bK)):mF Γ aP (.bslice len sz zero parts) rs tm ob td K dst gu=gB Γ aP rs gu ob td K dst (db Γ (.bslice len sz zero parts) (bQ aP dst) tm ob):=rfl
@[simp] def alW(n:Nat)(agg:Bool)(x:bK):mF Γ aP (.load n agg x) rs tm ob td K dst gu=gB Γ aP rs gu ob td K dst (db Γ (.load n agg x) (bQ aP dst) tm ob):=rfl
@[simp] def akp(n:Nat)(x y:bK):mF Γ aP (.store n x y) rs tm ob td K dst gu=gB Γ aP rs gu ob td K dst (db Γ (.store n x y) (bQ aP dst) tm ob):=rfl
@[simp] def atn(op:BinOp)(x y:bK):mF Γ aP (.bin op x y) rs tm ob td K dst gu=gB Γ aP rs gu ob td K dst (db Γ (.bin op x y) (bQ aP dst) tm ob):=rfl
@[simp] def ato(neg agg:Bool)(bZ:List Sh)(x y:bK):mF Γ aP (.eqT neg agg bZ x y) rs tm ob td K dst gu=gB Γ aP rs gu ob td K dst (db Γ (.eqT neg agg bZ x y) (bQ aP dst) tm ob):=rfl
@[simp] def atX(op:UnOp)(x:bK):mF Γ aP (.un op x) rs tm ob td K dst gu=gB Γ aP rs gu ob td K dst (db Γ (.un op x) (bQ aP dst) tm ob):=rfl
@[simp] def alX(k:IntKind)(x:bK):mF Γ aP (.conv k x) rs tm ob td K dst gu=gB Γ aP rs gu ob td K dst (db Γ (.conv k x) (bQ aP dst) tm ob):=rfl
@[simp] def afN(k:Nat)(x:bK):mF Γ aP (.addOff k x) rs tm ob td K dst gu=gB Γ aP rs gu ob td K dst (db Γ (.addOff k x) (bQ aP dst) tm ob):=rfl
@[simp] def aaC(x:bK):mF Γ aP (.nilCheck x) rs tm ob td K dst gu=gB Γ aP rs gu ob td K dst (db Γ (.nilCheck x) (bQ aP dst) tm ob):=rfl
@[simp] def ad3(sz:Nat)(x i:bK):mF Γ aP (.idxAddr sz x i) rs tm ob td K dst gu=gB Γ aP rs gu ob td K dst (db Γ (.idxAddr sz x i) (bQ aP dst) tm ob):=rfl
@[simp] def ad4(len sz:Nat)(x i:bK):mF Γ aP (.arrAddr len sz x i) rs tm ob td K dst gu=gB Γ aP rs gu ob td K dst (db Γ (.arrAddr len sz x i) (bQ aP dst) tm ob):=rfl
@[simp] def akq(off n:Nat)(agg:Bool)(x:bK):mF Γ aP (.field off n agg x) rs tm ob td K dst gu=gB Γ aP rs gu ob td K dst (db Γ (.field off n agg x) (bQ aP dst) tm ob):=rfl
@[simp] def akr(sz:Nat)(x:bK)(lo hi:Option bK):mF Γ aP (.slice sz x lo hi) rs tm ob td K dst gu=gB Γ aP rs gu ob td K dst (db Γ (.slice sz x lo hi) (bQ aP dst) tm ob):=rfl
@[simp] def ad5(i:Nat)(x:bK):mF Γ aP (.extract i x) rs tm ob td K dst gu=gB Γ aP rs gu ob td K dst (db Γ (.extract i x) (bQ aP dst) tm ob):=rfl
@[simp] def alY(f:FuncId)(args:List bK):mF Γ aP (.call f args) rs tm ob td K dst gu=gB Γ aP rs gu ob td K dst (db Γ (.call f args) (bQ aP dst) tm ob):=rfl
@[simp] def atp(x:bK):mF Γ aP (.len x) rs tm ob td K dst gu=gB Γ aP rs gu ob td K dst (db Γ (.len x) (bQ aP dst) tm ob):=rfl
@[simp] def alZ(x:bK):mF Γ aP (.lenS x) rs tm ob td K dst gu=gB Γ aP rs gu ob td K dst (db Γ (.lenS x) (bQ aP dst) tm ob):=rfl
@[simp] def afO(IX:Bool)(x y:bK):mF Γ aP (.minmax IX x y) rs tm ob td K dst gu=gB Γ aP rs gu ob td K dst (db Γ (.minmax IX x y) (bQ aP dst) tm ob):=rfl
@[simp] def afP(e sz bytes:Nat)(x y:bK):mF Γ aP (.append e sz bytes x y) rs tm ob td K dst gu=gB Γ aP rs gu ob td K dst (db Γ (.append e sz bytes x y) (bQ aP dst) tm ob):=rfl
@[simp] def ad6(e sz bytes:Nat)(zero:aG)(n:bK):mF Γ aP (.mkSlice e sz bytes zero n) rs tm ob td K dst gu=gB Γ aP rs gu ob td K dst (db Γ (.mkSlice e sz bytes zero n) (bQ aP dst) tm ob):=rfl
@[simp] def aaD(e sz bytes:Nat)(zero:aG)(n:bK):mF Γ aP (.mkSliceB e sz bytes zero n) rs tm ob td K dst gu=gB Γ aP rs gu ob td K dst (db Γ (.mkSliceB e sz bytes zero n) (bQ aP dst) tm ob):=rfl
@[simp] def al0(f:Fn)(cz:List bK):mF Γ aP (.mkFn f cz) rs tm ob td K dst gu=gB Γ aP rs gu ob td K dst (db Γ (.mkFn f cz) (bQ aP dst) tm ob):=rfl
@[simp] def aks(f:FuncId)(args:List bK):mF Γ aP (.callR f args) rs tm ob td K dst gu=gB Γ aP rs gu ob td K dst (db Γ (.callR f args) (bQ aP dst) tm ob):=rfl
@[simp] def akt(f:FuncId)(args:List bK):mF Γ aP (.callF f args) rs tm ob td K dst gu=gB Γ aP rs gu ob td K dst (db Γ (.callF f args) (bQ aP dst) tm ob):=rfl
@[simp] def aku(bZ:List Sh)(agg:Bool):mF Γ aP (.mkMap bZ agg) rs tm ob td K dst gu=gB Γ aP rs gu ob td K dst (db Γ (.mkMap bZ agg) (bQ aP dst) tm ob):=rfl
@[simp] def afQ(bZ:List Sh)(agg:Bool)(zero:DV)(ok:Bool)(x k:bK):mF Γ aP (.lookup bZ agg zero ok x k) rs tm ob td K dst gu=gB Γ aP rs gu ob td K dst (db Γ (.lookup bZ agg zero ok x k) (bQ aP dst) tm ob):=rfl
@[simp] def afR(bZ:List Sh)(agg:Bool)(x k y:bK):mF Γ aP (.mapUpd bZ agg x k y) rs tm ob td K dst gu=gB Γ aP rs gu ob td K dst (db Γ (.mapUpd bZ agg x k y) (bQ aP dst) tm ob):=rfl
@[simp] def afS(bZ:List Sh)(agg:Bool)(z:DV)(x k:bK):mF Γ aP (.mapEnt bZ agg z x k) rs tm ob td K dst gu=gB Γ aP rs gu ob td K dst (db Γ (.mapEnt bZ agg z x k) (bQ aP dst) tm ob):=rfl
@[simp] def akv(x s y:bK):mF Γ aP (.entSt x s y) rs tm ob td K dst gu=gB Γ aP rs gu ob td K dst (db Γ (.entSt x s y) (bQ aP dst) tm ob):=rfl
@[simp] def afT(bZ:List Sh)(agg:Bool)(x k:bK):mF Γ aP (.mapDel bZ agg x k) rs tm ob td K dst gu=gB Γ aP rs gu ob td K dst (db Γ (.mapDel bZ agg x k) (bQ aP dst) tm ob):=rfl
@[simp] def al4(x:bK):mF Γ aP (.lenM x) rs tm ob td K dst gu=gB Γ aP rs gu ob td K dst (db Γ (.lenM x) (bQ aP dst) tm ob):=rfl
@[simp] def afU(x:bK):mF Γ aP (.rangeM x) rs tm ob td K dst gu=gB Γ aP rs gu ob td K dst (db Γ (.rangeM x) (bQ aP dst) tm ob):=rfl
@[simp] def al5(sz:Nat)(x y:bK):mF Γ aP (.copy sz x y) rs tm ob td K dst gu=gB Γ aP rs gu ob td K dst (db Γ (.copy sz x y) (bQ aP dst) tm ob):=rfl
@[simp] def akw(kind:Nat)(neg:Bool)(x:bK):mF Γ aP (.isNil kind neg x) rs tm ob td K dst gu=gB Γ aP rs gu ob td K dst (db Γ (.isNil kind neg x) (bQ aP dst) tm ob):=rfl
@[simp] def afV(x i:bK):mF Γ aP (.indexS x i) rs tm ob td K dst gu=gB Γ aP rs gu ob td K dst (db Γ (.indexS x i) (bQ aP dst) tm ob):=rfl
@[simp] def al6:mF Γ aP (.fail) rs tm ob td K dst gu=gB Γ aP rs gu ob td K dst (db Γ (.fail) (bQ aP dst) tm ob):=rfl
@[simp] def afW(x:bK):mF Γ aP (.entryM x) rs tm ob td K dst gu=Ff Γ aP rs gu K dst (zL Γ (.entryM x) tm ob td):=by simp[mF,qP]
end
attribute [simp] Fg aaB U4 U5 RQ ags zL nw U6 My Mz U7 RU agt U9 oF U8 tB O5 Cz RW
attribute [simp] db bK.ev gP lV tJ B0 OL pi li rj kY oN ni B1 QS B3 jM EI v8 uH oC fK iC lW gj EY pF oQ oP mO jl jm kN jn Fz lj lm kb gk oD vv Gt d9 xq
attribute [simp] afL aaz U3 Mu t8 xM cH.od pD cellsOf eQ kK tG iA cg vI tH sY jr Ed tF bQ xp d8 AJ gQ F2 Fe p6 qP
def av{x:Int}(h: -9223372036854775808<=x/\x<=9223372036854775807):IntKind.i64.wrap x=x:=by
 simp[IntKind.wrap,IntKind.bits,IntKind.signed];omega
def O6{x:Int}(h:0<=x):x.tdiv 2=x/2:=ZcU h
end
end Go.DM
namespace Go.DM
open Go.RowKit
section
variable{P:Program}{f sz:Nat}{fn:aG->List (aG)}
variable [bD] [dF]
def bz:List (Nat×Spec)->kv
 |[],_=>none
 |(g,s)::l,f=>if f=g then some s else bz l f
def aw.nil:aw P (bz []):=λ_ _ h=>by cases h
def aw.add{s:Spec}{l:List (Nat×Spec)}(h:aw P (bz l))(k:UG P f s):aw P (bz ((f,s)::l)):=by
 intro g s' hg;simp only[bz]at hg;split at hg
 .rename_i e;cases hg;subst e;exact k
 .exact h g s' hg
def aw.cons{s:Spec}{l:List (Nat×Spec)}(h:aw P (bz l))
  (k:∀ts,s.pre ts->aJ P f ts (s.fn ts)/\(s.jL=true->iY (s.fn ts)=true)) (hs:s.st=none:=by rfl) (kc:s.fresh=none:=by rfl):aw P (bz ((f,s)::l)):=
 h.add ⟨k,λe sz hf=>(by rw[kc]at hf;cases hf),λk hk=>(by rw[hs]at hk;cases hk)⟩
def fl(k:bW->bS->iw):Spec:=⟨λ_=>False,λ_=>.bool false,true,some k,none,false⟩
def aw.il{k:bW->bS->iw}{l:List (Nat×Spec)}(h:aw P (bz l))
  (hk:∀args ab,(k args ab).ok->(∀N,(∀r,N<=r->ab r=none)->ce P f args ab (k args ab))/\∀r,ab r=none->(k args ab).ab r=none):aw P (bz ((f,fl k)::l)):=
 h.add ⟨λ_ h=>h.elim,λ_ _ h=>(by cases h),λk' e=>by cases e;exact hk⟩
def oS.ok{f:FuncId}{ts:aG}{e:Nat}{aC:List (aG)}(h:oS P f ts e sz aC):aJ P f ts (.sl aC):=
 ⟨h.entry,λW w cT hW hg hr=>(h.run W w cT hW hg hr).mono λe' w' ⟨v,h1,hb,hf⟩=>⟨v,h1,hb,by
  simp only[be];rcases hf.it with⟨h2,a,h3⟩|⟨g,cap,eJ,h2,hp,Ba,hh,h3,h4,h5,h6⟩
  .exact .inl ⟨h2,a,0,h3⟩
  .refine .inr ⟨g,0,cap,sz,h2,(cM.1 hh).1,λhw=>?_,h3,bw.jO (dt.aL (c8.refl (λb=>W b\/b=g) w').toKeepsC (λb _ hb=>.inl hb) _ _ h6) hf.len λj v hv=>?_⟩
   .have:=hW g hw;omega
   .rw[Ow,cell_of_row w' g j eJ e (0,0) hh];rw[L7]at hv;split at hv
    .simpa using hv
    .cases hv⟩⟩
def xP(pre:aG->Prop)(fn:aG->List (aG))(e sz:Nat):Spec:=⟨pre,λts=>.sl (fn ts),false,none,some (e,sz),false⟩
def aw.Va{pre:aG->Prop}{e:Nat}{l:List (Nat×Spec)}(h:aw P (bz l))(k:∀ts,pre ts->oS P f ts e sz (fn ts)):aw P (bz ((f,xP pre fn e sz)::l)):=
 h.add ⟨λts hp=>⟨(k ts hp).ok,λx=>by cases x⟩,λe' jt hf ts hp=>(by cases hf;exact⟨_,rfl,k ts hp,λx=>by cases x⟩),λk hk=>(by cases hk)⟩
def CA(pre:aG->Prop)(fn:aG->List (aG))(e sz:Nat):Spec:=⟨pre,λts=>.sl (fn ts),false,none,some (e,sz),true⟩
def aw.ad7{pre:aG->Prop}{e:Nat}{l:List (Nat×Spec)}(h:aw P (bz l))(k:∀ts,pre ts->oS P f ts e sz (fn ts)/\iY.je (fn ts).flatten=true):aw P (bz ((f,CA pre fn e sz)::l)):=
 h.add ⟨λts hp=>⟨(k ts hp).1.ok,λx=>by cases x⟩,λe' jt hf ts hp=>(by cases hf;exact⟨_,rfl,(k ts hp).1,λ_=>(k ts hp).2⟩),λk hk=>(by cases hk)⟩
@[simp] def ad8(pre:aG->Prop)(fn:aG->List (aG))(e sz:Nat):(CA pre fn e sz).fresh=some (e,sz):=rfl
@[simp] def al8(pre:aG->Prop)(fn:aG->List (aG))(e sz:Nat)(ts:aG):(CA pre fn e sz).fn ts=.sl (fn ts):=rfl
@[simp] def akx(pre:aG->Prop)(fn:aG->List (aG))(e sz:Nat):(CA pre fn e sz).pre=pre:=rfl
@[simp] def afX(pre:aG->Prop)(fn:aG->List (aG))(e sz:Nat):(CA pre fn e sz).fT=true:=rfl
@[simp] def afY(pre:aG->Prop)(fn:aG->List (aG))(e sz:Nat):(xP pre fn e sz).fT=false:=rfl
@[simp] def ad9(pre:aG->Prop)(fn:aG->List (aG))(e sz:Nat):(xP pre fn e sz).fresh=some (e,sz):=rfl
@[simp] def al9(pre:aG->Prop)(fn:aG->List (aG))(e sz:Nat)(ts:aG):(xP pre fn e sz).fn ts=.sl (fn ts):=rfl
@[simp] def aky(pre:aG->Prop)(fn:aG->List (aG))(e sz:Nat):(xP pre fn e sz).pre=pre:=rfl
def bp(pre:aG->Prop)(fn:aG->T)(jL:Bool):Spec:=⟨pre,fn,jL,none,none,false⟩
@[simp] def akz(pre:aG->Prop)(fn:aG->T)(jL:Bool):(bp pre fn jL).pre=pre:=rfl
@[simp] def ama(pre:aG->Prop)(fn:aG->T)(jL:Bool):(bp pre fn jL).fn=fn:=rfl
@[simp] def aaE(pre:aG->Prop)(fn:aG->T)(jL:Bool):(bp pre fn jL).jL=jL:=rfl
@[simp] def amb(pre:aG->Prop)(fn:aG->T)(jL:Bool):(bp pre fn jL).st=none:=rfl
@[simp] def amc(pre:aG->Prop)(fn:aG->List (aG))(e sz:Nat):(xP pre fn e sz).st=none:=rfl
@[simp] def amd(k:bW->bS->iw):(fl k).st=some k:=rfl
def MA(g f:Nat)(s:Spec)(l:List (Nat×Spec)):bz ((g,s)::l) f=if f=g then some s else bz l f:=rfl
def RY(f:Nat):bz [] f=none:=rfl
attribute [simp] MA RY
theorem aJ.aea{P:Program}{f:FuncId}{ts:aG}{t:T}(h:aJ P f ts t){w:World}{cT:Array Value}(hg:BY w λ_=>False)(hr:eS w (λ_=>False) ts cT.toList):
  Calls P f cT w λe w'=>∃v,e=.returned v/\xl w.heap.size w w'/\be w' (λ_=>False) t v:=
 h.run (λ_=>False) w cT (λ_ h=>h.elim) hg hr
@[simp] def ame(n:Nat)(h:n<9223372036854775808):IntKind.i64.wrap (no_index (@OfNat.ofNat Int n instOfNat))= @OfNat.ofNat Int n instOfNat:=by
 have e:(@OfNat.ofNat Int n instOfNat)=(n:Int):=rfl;rw[e,av (by omega)]
@[simp] def amf(n:Nat)(h:n<9223372036854775808):IntKind.i64.wrap (-(no_index (@OfNat.ofNat Int n instOfNat)))= -(@OfNat.ofNat Int n instOfNat):=by
 have e:(@OfNat.ofNat Int n instOfNat)=(n:Int):=rfl;rw[e,av (by omega)]
end
section
variable{o':Ob}{r:Nat}
variable [bD] [dF]
def gone(aM:bS)(σ:Nat->Nat)(r:Nat):Prop:=∀r',aM r'≠none->σ r'≠r
def Vc(ab aM:bS)(σ:Nat->Nat)(r off:Nat):DV->Prop
 |.ptr r' Jn=>r=σ r'/\off=Jn/\∃cs,aM r'=some (.box cs)
 |.j9 cs Jn=>off=Jn/\ab r=some (.box (cs.map .v))/\gone aM σ r
 |.v (.box cs)=>off=0/\ab r=some (.box (cs.map .v))/\gone aM σ r
 |_=>False
def O8(ab aM:bS)(σ:Nat->Nat)(r bG:Nat):DV->Prop
 |.aW r' bM=>r=σ r'/\∃e sz aC e' jt eN,ab r=some (.bm bG e sz aC)/\aM r'=some (.bm bM e' jt eN)
 |.v (.sl aC)=>(∃e sz,ab r=some (.bm bG e sz aC))/\gone aM σ r
 |_=>False
def O9(ab aM:bS)(σ:Nat->Nat)(r bG:Nat)(i:Int)(off:Nat):DV->Prop
 |.kr r' bM i' Jn=>r=σ r'/\i=i'/\off=Jn/\∃e sz aC e' jt eN,ab r=some (.bm bG e sz aC)/\aM r'=some (.bm bM e' jt eN)/\sz=jt/\aC.length=eN.length
 |_=>False
def jT:Option Ob->Prop
 |some (.map _ _ _ _)=>True
 |_=>False
def CE:Option Ob->Prop
 |some (.eo _ _ _ _)=>True
 |_=>False
def jw(aM:bS)(σ:Nat->Nat)(r:Nat):DV->Prop
 |.fH r'=>r=σ r'/\jT (aM r')
 |_=>False
def Vd(aM:bS)(σ:Nat->Nat)(r:Nat):DV->Prop
 |.eo r'=>r=σ r'/\CE (aM r')
 |_=>False
def afZ(ab aM:bS)(σ:Nat->Nat)(r bG lo n:Nat):DV->Prop
 |.v7 r' bM lo' n'=>r=σ r'/\lo=lo'/\n=n'/\∃e sz aC e' jt eN,ab r=some (.bm bG e sz aC)/\aM r'=some (.bm bM e' jt eN)/\sz=jt/\aC.length=eN.length
 |.v (.sl eN)=>(∃e sz aC,ab r=some (.bm bG e sz aC)/\eN=(aC.drop lo).take n)/\gone aM σ r
 |_=>False
def Ve(ab aM:bS)(σ:Nat->Nat)(r n:Nat):DV->Prop
 |.AH r' n'=>r=σ r'/\n=n'/\∃cs,aM r'=some (.box cs)
 |.v (.sl aC)=>aC.length=n/\(∃sz,∀x∈aC,x.length=sz)/\ab r=some (.box (aC.flatten.map .v))/\gone aM σ r
 |_=>False
def CF{o:Option Ob}(h:jT o):∃bZ agg c es,o=some (.map bZ agg c es):=by
 unfold jT at h;split at h
 .exact⟨_,_,_,_,rfl⟩
 .exact h.elim
def RZ{o:Option Ob}(h:CE o):∃m s sn l,o=some (.eo m s sn l):=by
 unfold CE at h;split at h
 .exact⟨_,_,_,_,rfl⟩
 .exact h.elim
def G0:DV->Option (bW)
 |.agg ds=>some ds
 |.v (.agg ts)=>some (ts.map .v)
 |_=>none
mutual
def jJ(ab aM:bS)(σ:Nat->Nat):DV->DV->Prop
 |.aZ,d'=>d'=.undef\/d'=.aZ\/d'=.v (.sl [])
 |.ptr r off,d'=>d'=.undef\/Vc ab aM σ r off d'
 |.aW r bG,d'=>d'=.undef\/O8 ab aM σ r bG d'
 |.kr r bG i off,d'=>d'=.undef\/O9 ab aM σ r bG i off d'
 |.agg ds,d'=>d'=.undef\/match G0 d' with|some pX=>kJ ab aM σ ds pX|none=>False
 |.undef,d'=>d'=.undef
 |.skip,d'=>d'=.undef\/d'=.skip
 |.v t,d'=>d'=.undef\/d'=.v t
 |.mw aC i off,d'=>d'=.undef\/d'=.mw aC i off
 |.j9 cs off,d'=>d'=.undef\/d'=.j9 cs off
 |.BZ,d'=>d'=.undef\/d'=.BZ
 |.fH r,d'=>d'=.undef\/jw aM σ r d'
 |.eo r,d'=>d'=.undef\/Vd aM σ r d'
 |.v7 r bG lo n,d'=>d'=.undef\/afZ ab aM σ r bG lo n d'
 |.AH r n,d'=>d'=.undef\/Ve ab aM σ r n d'
 |.dh ds,d'=>d'=.undef\/match d' with|.dh pX=>kJ ab aM σ ds pX|_=>False
 |.AI f ds,d'=>d'=.undef\/match d' with|.AI f' pX=>f=f'/\kJ ab aM σ ds pX|.v (.fn f' ts)=>f=f'/\kJ ab aM σ ds (ts.map .v)|_=>False
def kJ(ab aM:bS)(σ:Nat->Nat):bW->bW->Prop
 |[],pX=>pX=[]
 |d::ds,pX=>match pX with
  |[]=>False
  |d'::pX=>jJ ab aM σ d d'/\kJ ab aM σ ds pX
end
def iD(ab aM:bS)(σ:Nat->Nat):List (Nat×T×DV)->List (Nat×T×DV)->Prop
 |[],nW=>nW=[]
 |e::es,nW=>match nW with
  |[]=>False
  |e'::nW=>e.1=e'.1/\e.2.1=e'.2.1/\jJ ab aM σ e.2.2 e'.2.2/\iD ab aM σ es nW
def o8{ab aM:bS}{σ:Nat->Nat}:∀{es:List (Nat×T×DV)},(∀e∈es,jJ ab aM σ e.2.2 e.2.2)->iD ab aM σ es es
 |[],_=>by simp[iD]
 |e::es,h=>by simp only[iD];exact⟨trivial,trivial,h e (by simp),o8 λe he=>h e (by simp[he])⟩
def jx(ab aM:bS)(σ:Nat->Nat):Ob->Ob->Prop
 |.box cs,.box yJ=>kJ ab aM σ cs yJ
 |.bm _ e sz aC,.bm _ e' jt eN=>e=e'/\sz=jt/\aC=eN
 |.map bZ agg c es,.map kL kM c' nW=>bZ=kL/\agg=kM/\c=c'/\iD ab aM σ es nW
 |.eo m s sn l,.eo m' s' sn' l'=>m=σ m'/\s=s'/\sn=sn'/\l=l'/\jT (aM m')
 |_,_=>False
def jC:Ob->Ob->Prop
 |.box _,.box _=>True
 |.bm v _ sz aC,.bm v' _ jt eN=>v=v'/\sz=jt/\aC.length=eN.length
 |.map _ _ _ _,.map _ _ _ _=>True
 |.eo _ _ _ _,.eo _ _ _ _=>True
 |_,_=>False
def xQ{o:Ob}(h:jC o o'):o'.kind=o.kind:=by cases o<;>cases o'<;>first|rfl|exact h.elim
def Loc.CG(L:Loc)(σ:Nat->Nat):Loc:=⟨λr=>L.jK (σ r),λr=>L.sl (σ r),L.yl⟩
section
variable{base:Nat}{W M:fm}{w0 w:World}{ab aM:bS}{L:Loc}{σ:Nat->Nat}
def uR{o:Ob}(h:jx ab aM σ o o')(r:Nat):(L.CG σ).own r o'=L.own (σ r) o:=by
 cases o<;>cases o'<;>first|rfl|exact h.elim
def l9(eH:∀r' o',aM r'=some o'->∃o,ab (σ r')=some o/\∀r,(L.CG σ).own r o'=L.own (σ r) o)(b:Nat)(h:WW W aM (L.CG σ) b):WW W ab L b:=by
 rcases h with h|⟨r',o',h1,h2⟩
 .exact .inl h
 .obtain⟨o,h3,h4⟩:=eH r' o' h1;exact .inr ⟨σ r',o,h3,by rw[<-h4];exact h2⟩
def CH(hO:ci base W M w0 ab w L)(eH:∀r' o',aM r'=some o'->∃o,ab (σ r')=some o/\∀r,(L.CG σ).own r o'=L.own (σ r) o){b:Nat}{o:Ob}(hr:ab r=some o)(hb:L.own r o=some b)(hg:gone aM σ r):¬WW W aM (L.CG σ) b:=by
 rintro(h|⟨r',o',h1,h2⟩)
 .exact hO.tK r o b hr hb h
 .obtain⟨o2,h3,h4⟩:=eH r' o' h1;rw[h4]at h2;exact hO.apart r (σ r') o o2 b (λe=>hg r' (by rw[h1];exact λe=>by cases e) e.symm) hr h3 hb h2
def wr(hO:ci base W M w0 ab w L)(eH:∀r' o',aM r'=some o'->∃o,ab (σ r')=some o/\∀r,(L.CG σ).own r o'=L.own (σ r) o){cs:aG}(hr:ab r=some (.box (cs.map .v)))(hg:gone aM σ r):
  L.jK r<w.heap.size/\¬WW W aM (L.CG σ) (L.jK r)/\dY w (WW W aM (L.CG σ)) (L.jK r) 0 cs:=by
 have hb:=hO.ob r _ hr;obtain⟨c,e,hc,ip,_⟩:=hb;refine⟨(cM.1 hc).1,CH hO eH hr rfl hg,dY.BX cs 0 λj t hj=>?_⟩;have hd:(cs.map DV.v)[j]? =some (.v t):=by simp[hj]
 obtain⟨v,hv,h1,h2⟩:=aU.get ip hd;simp only[aD]at h2;refine⟨v, ?_,h1,be.aL (c8.refl (WW W ab L) w).toKeepsC (λb _ hb=>l9 eH b hb) t v h2⟩;simp only[World.cell?,hc,Ow];simpa using hv
def MD(hO:ci base W M w0 ab w L)(eH:∀r' o',aM r'=some o'->∃o,ab (σ r')=some o/\∀r,(L.CG σ).own r o'=L.own (σ r) o){bG e sz:Nat}{aC:List (aG)}(hr:ab r=some (.bm bG e sz aC))(hg:gone aM σ r):
  be w (WW W aM (L.CG σ)) (.sl aC) (L.sl r):=by
 have F5:=hO.ob r _ hr;obtain⟨jc,cK,hm,mE⟩:=F5;simp only[be];rcases mE with⟨rfl,p,hp⟩|⟨g',cap,eJ,sG,hp,hh,io,tN,Gx,ip⟩
 .exact .inl ⟨rfl,p,0,hp⟩
 .have wg:bk (L.sl r)=some g':=by simp[sG,bk,Et.1 hp]
  refine .inr ⟨g',0,cap,sz,sG,(cM.1 hh).1,CH hO eH hr (by simpa [Loc.own]using wg) hg,io, ?_⟩;have pY:=pw.aC (hO.ob r _ hr) (g:=g') wg;obtain⟨vs,qN,Bc,Up⟩:=bw.flatten pY;exact bw.jO (dt.aL (c8.refl (WW W ab L) w).toKeepsC (λb _ hb=>l9 eH b hb) _ _ Bc) cK Up
def CI{ts:aG}:∀{vs:List Value},aU w W ab L (ts.map .v) vs->dt w (WW W ab L) ts vs:=by
 induction ts with
 |nil=>intro vs h;simpa [aU,dt]using h
 |cons t ts ih=>
  intro vs h;simp only[vG,aU]at h;obtain⟨v,jz,rfl,h1,h2,h3⟩:=h;simp only[aD]at h2;simp only[dt];exact⟨v,jz,rfl,h1,h2,ih h3⟩
def Bk(hO:ci base W M w0 ab w L)(eH:∀r' o',aM r'=some o'->∃o,ab (σ r')=some o/\∀r,(L.CG σ).own r o'=L.own (σ r) o):
  ∀n,(∀(d d':DV) (x:Value),SizeOf.sizeOf d<n->jJ ab aM σ d d'->aD w W ab L d x->aD w W aM (L.CG σ) d' x)/\
   (∀(ds pX:bW) (xs:List Value),SizeOf.sizeOf ds<n->kJ ab aM σ ds pX->aU w W ab L ds xs->aU w W aM (L.CG σ) pX xs)/\
   (∀(ds pX:bW) (xs:List Value),SizeOf.sizeOf ds<n->kJ ab aM σ ds pX->eA w W ab L ds xs->eA w W aM (L.CG σ) pX xs):=by
 have o5:∀(t:T) (x:Value),be w (WW W ab L) t x->be w (WW W aM (L.CG σ)) t x:=λt x h=>be.aL (c8.refl (WW W ab L) w).toKeepsC (λb _ hb=>l9 eH b hb) t x h;intro n;induction n with
 |zero=>exact⟨λ_ _ _ h=>by omega,λ_ _ _ h=>by omega,λ_ _ _ h=>by omega⟩
 |succ n ih=>
  refine⟨λd d' x hn hc hr=>?_,λds pX xs hn hc hr=>?_,λds pX xs hn hc hr=>?_⟩
  .by_cases hu:d'=.undef
   .subst hu;simp[aD]
   cases d with
   |undef=>simp only[jJ]at hc;exact qe hc hu
   |skip=>simp only[jJ,hu,Zb6]at hc;subst hc;simpa only[aD]using hr
   |BZ=>simp only[jJ,hu,Zb6]at hc;subst hc;simp only[aD,Loc.CG]at hr⊢;exact hr
   |v t=>simp only[jJ,hu,Zb6]at hc;subst hc;simp only[aD]at hr⊢;exact o5 t x hr
   |mw aC i off=>
    simp only[jJ,hu,Zb6]at hc;subst hc;simp only[aD]at hr⊢;obtain⟨b,o,sz,hx,hb,RP,pY,h1,h2⟩:=hr;exact⟨b,o,sz,hx,hb,λk=>RP (l9 eH b k),bw.aL (c8.refl (WW W ab L) w).toKeepsC (λb _ hb=>l9 eH b hb) hb RP sz o aC pY,h1,h2⟩
   |j9 cs off=>
    simp only[jJ,hu,Zb6]at hc;subst hc;simp only[aD]at hr⊢;obtain⟨b,o,hx,hb,RP,pY⟩:=hr;exact⟨b,o,hx,hb,λk=>RP (l9 eH b k),dY.aL (c8.refl (WW W ab L) w).toKeepsC (λb _ hb=>l9 eH b hb) hb RP o cs pY⟩
   |fH r=>
    simp only[jJ,hu,Zb6]at hc;simp only[aD]at hr;cases d' with
    |fH r'=>
     obtain⟨rfl,hm⟩:=hc;simp only[aD];exact⟨CF hm,hr.2⟩
    |_=>exact hc.elim
   |eo r=>
    simp only[jJ,hu,Zb6]at hc;simp only[aD]at hr;cases d' with
    |eo r'=>
     obtain⟨rfl,hm⟩:=hc;simp only[aD];exact⟨RZ hm,hr.2⟩
    |_=>exact hc.elim
   |dh ds=>
    simp only[jJ,hu,Zb6]at hc;simp only[aD]at hr;obtain⟨vs,rfl,hr⟩:=hr;cases d' with
    |dh pX=>
     simp only[aD];exact⟨vs,rfl,ih.2.2 ds pX _ (by simp at hn⊢;omega) hc hr⟩
    |_=>exact hc.elim
   |AI f ds=>
    simp only[jJ,hu,Zb6]at hc;simp only[aD]at hr;obtain⟨vs,rfl,hr⟩:=hr;cases d' with
    |AI f' pX=>
     obtain⟨rfl,hc⟩:=hc;simp only[aD];exact⟨vs,rfl,ih.2.1 ds pX _ (by simp at hn⊢;omega) hc hr⟩
    |v t=>
     cases t with
     |fn f' ts=>
      obtain⟨rfl,hc⟩:=hc;simp only[aD,be];exact⟨vs,rfl,CI (ih.2.1 ds _ _ (by simp at hn⊢;omega) hc hr)⟩
     |_=>exact hc.elim
    |_=>exact hc.elim
   |AH r m=>
    simp only[jJ,hu,Zb6]at hc;simp only[aD]at hr;obtain⟨⟨cs0,atY⟩,rfl⟩:=hr;cases d' with
    |AH r' m'=>
     obtain⟨rfl,rfl,cs,mZ⟩:=hc;simp only[aD];exact⟨⟨cs,mZ⟩,rfl⟩
    |v t=>
     cases t with
     |sl aC=>
      obtain⟨rfl,⟨sz,jc⟩,F5,hg⟩:=hc;obtain⟨h1,h2,h3⟩:=wr hO eH F5 hg;simp only[aD,be];refine .inr ⟨L.jK r,0,aC.length,sz,rfl,h1,h2,gJ _, ?_⟩;obtain⟨vs,Bb,nk⟩:=dY.cT h3;exact bw.jO Bb jc nk
     |_=>exact hc.elim
    |_=>exact hc.elim
   |v7 r bG lo m=>
    simp only[jJ,hu,Zb6]at hc;simp only[aD]at hr;obtain⟨IY,pW,e2,EZ,lZ,gD,IZ,hx⟩:=hr;cases d' with
    |v7 r' bM lo' m'=>
     obtain⟨rfl,rfl,rfl,e,sz,aC,e',jt,eN,h1,h2,h3,h4⟩:=hc;rw[gD]at h1;simp only[cq,Ob.bm.injEq]at h1;obtain⟨rfl,rfl,rfl,rfl⟩:=h1;simp only[aD];refine⟨IY,bM,e',jt,eN,h2,gJ _,λ_=>?_⟩;obtain⟨k0,p,cap,p2,k1,k2,k3⟩:=hx rfl;exact⟨by rw[<-h4];exact k0,p,cap,p2,by rw[<-h4];exact k1,k2,by rw[<-h3];exact k3⟩
    |v t=>
     cases t with
     |sl eN=>
      obtain⟨⟨e,sz,aC,h1,rfl⟩,hg⟩:=hc;rw[gD]at h1;simp only[cq,Ob.bm.injEq]at h1;obtain⟨rfl,rfl,rfl,rfl⟩:=h1;have hx:=hx rfl;simp only[aD,be];have mq:((lZ.drop lo).take m).length=m:=by rw[Ee,OJ];omega
      rcases tO hO gD hx with⟨rfl,a,c,rfl⟩|⟨g,c,wg,rfl,Rv,pY⟩
      .exact .inl ⟨by simp,a,c,rfl⟩
      .refine .inr ⟨g,lo*EZ,c,EZ,by rw[mq],(hO.ob r _ gD).lt (by simpa [Loc.own]using wg),CH hO eH gD (by simpa [Loc.own]using wg) hg,by omega, ?_⟩;obtain⟨vs,qN,Bc,Up⟩:=bw.flatten pY;exact bw.jO (dt.aL (c8.refl (WW W ab L) w).toKeepsC (λb _ hb=>l9 eH b hb) _ _ Bc) (λx hx=>(hO.ob r _ gD).2.1 x (Zcd (yS hx))) Up
     |_=>exact hc.elim
    |_=>exact hc.elim
   |aZ=>
    simp only[jJ,hu,Zb6]at hc;rcases hc with rfl|rfl
    .simpa only[aD]using hr
    .simp only[aD]at hr;obtain⟨a,rfl⟩:=hr;simp only[aD,be];exact .inl ⟨trivial,a,0,rfl⟩
   |ptr r off=>
    simp only[jJ,hu,Zb6]at hc;simp only[aD]at hr;obtain⟨⟨cs0,atY⟩,rfl⟩:=hr;cases d' with
    |ptr r' Jn=>
     obtain⟨rfl,rfl,cs,mZ⟩:=hc;simp only[aD];exact⟨⟨cs,mZ⟩,rfl⟩
    |j9 cs Jn=>
     obtain⟨rfl,F5,hg⟩:=hc;obtain⟨h1,h2,h3⟩:=wr hO eH F5 hg;simp only[aD];exact⟨L.jK r,0,by simp,h1,h2,h3⟩
    |v t=>
     cases t with
     |box cs=>
      obtain⟨rfl,F5,hg⟩:=hc;obtain⟨h1,h2,h3⟩:=wr hO eH F5 hg;simp only[aD,be];exact⟨L.jK r,0,rfl,h1,h2,h3⟩
     |_=>exact hc.elim
    |_=>exact hc.elim
   |aW r bG=>
    simp only[jJ,hu,Zb6]at hc;simp only[aD]at hr;obtain⟨IY,pW,e2,EZ,lZ,gD,IZ,hx⟩:=hr;cases d' with
    |aW r' bM=>
     obtain⟨rfl,e,sz,aC,e',jt,eN,h1,h2⟩:=hc;rw[gD]at h1;simp only[cq,Ob.bm.injEq]at h1;obtain⟨rfl,_⟩:=h1;simp only[aD];exact⟨IY,bM,e',jt,eN,h2,gJ _,λ_=>hx rfl⟩
    |v t=>
     cases t with
     |sl aC=>
      obtain⟨⟨e,sz,h1⟩,hg⟩:=hc;rw[gD]at h1;simp only[cq,Ob.bm.injEq]at h1;obtain⟨rfl,rfl,rfl,rfl⟩:=h1;have hx:=hx rfl;subst hx;simp only[aD];exact MD hO eH gD hg
     |_=>exact hc.elim
    |_=>exact hc.elim
   |kr r bG i off=>
    simp only[jJ,hu,Zb6]at hc;simp only[aD]at hr;obtain⟨IY,pW,e2,EZ,lZ,gD,IZ,hx⟩:=hr;cases d' with
    |kr r' bM i' Jn=>
     obtain⟨rfl,rfl,rfl,e,sz,aC,e',jt,eN,h1,h2,h3,h4⟩:=hc;rw[gD]at h1;simp only[cq,Ob.bm.injEq]at h1;obtain⟨rfl,rfl,rfl,rfl⟩:=h1;simp only[aD];refine⟨IY,bM,e',jt,eN,h2,gJ _,λ_=>?_⟩;obtain⟨g,k1,k2,k3,k4⟩:=hx rfl;exact⟨g,k1,by rw[<-h3];exact k2,k3,by rw[<-h4];exact k4⟩
    |_=>exact hc.elim
   |agg ds=>
    simp only[jJ,hu,Zb6]at hc;simp only[aD]at hr;obtain⟨vs,rfl,hr⟩:=hr;cases d' with
    |agg pX=>
     simp only[G0]at hc;simp only[aD];exact⟨vs,rfl,ih.2.1 ds pX _ (by simp at hn⊢;omega) hc hr⟩
    |v t=>
     cases t with
     |agg ts=>
      simp only[G0]at hc;simp only[aD,be];exact⟨vs,rfl,CI (ih.2.1 ds _ _ (by simp at hn⊢;omega) hc hr)⟩
     |_=>exact hc.elim
    |_=>exact hc.elim
  .cases ds with
   |nil=>simp only[kJ]at hc;subst hc;simpa only[aU]using hr
   |cons d ds=>
    cases pX with
    |nil=>simp[kJ]at hc
    |cons d' pX=>
     simp only[kJ]at hc;simp only[aU]at hr⊢;obtain⟨y,ys,hv,h1,h2,h3⟩:=hr;exact⟨y,ys,hv,h1,ih.1 d d' y (by simp at hn⊢;omega) hc.1 h2,ih.2.1 ds pX ys (by simp at hn⊢;omega) hc.2 h3⟩
  .cases ds with
   |nil=>simp only[kJ]at hc;subst hc;simpa only[eA]using hr
   |cons d ds=>
    cases pX with
    |nil=>simp[kJ]at hc
    |cons d' pX=>
     simp only[kJ]at hc;simp only[eA]at hr⊢;obtain⟨y,ys,hv,h2,h3⟩:=hr;exact⟨y,ys,hv,ih.1 d d' y (by simp at hn⊢;omega) hc.1 h2,ih.2.2 ds pX ys (by simp at hn⊢;omega) hc.2 h3⟩
def Le.cor{st ir:lK}(σ:Nat->Nat)(py:ir.low=st.low)(Jo:ir.todo=st.todo)(CJ:∀r,ir.aP<=r->ir.ab r=none)
  (eH:∀r' o',ir.ab r'=some o'->∃o,st.ab (σ r')=some o/\jx st.ab ir.ab σ o o')
  (atZ:∀r1 r2,ir.ab r1≠none->ir.ab r2≠none->σ r1=σ r2->r1=r2)
  (Jp:∀r,r<st.low->∀o,st.ab r=some o->σ r=r/\∃o',ir.ab r=some o'/\jC o o')
  (nJ:∀k,jJ st.ab ir.ab σ (st.tmps k) (ir.tmps k)):Le st ir:=by
 intro κ nt a w L h;refine⟨L.CG σ,⟨?_, ?_,h.r.defers,h.r.bg,⟨_,CJ⟩⟩,CJ,by rw[py];exact h.low,by rw[py];exact h.it⟩
 .obtain⟨W,base,M,w0,gG,h0⟩:=h.r.ex;have hO:=h0.o;have F5:∀r' o',ir.ab r'=some o'->∃o,st.ab (σ r')=some o/\∀r,(L.CG σ).own r o'=L.own (σ r) o:=λr' o' h=>let⟨o,h1,h2⟩:=eH r' o' h;⟨o,h1,uR h2⟩
  have cr:=λ(d d':DV) (x:Value)=>(Bk hO F5 (SizeOf.sizeOf d+1)).1 d d' x (by omega);have crs:=λ(ds pX:bW) (xs:List Value)=>(Bk hO F5 (SizeOf.sizeOf ds+1)).2.1 ds pX xs (by omega);refine⟨W,base,M,w0,by rw[Jo];exact gG,h0.size,λt=>cr _ _ _ (nJ t) (h0.tmps t),⟨hO.fr,λr' o' j5=>?_,λr1 r2 o1 o2 b dd h1 h2 yC jZ=>?_,λr' o' b j5 hb=>?_,hO.under,hO.gl.aL (c8.refl (WW W st.ab L) w).toKeepsC λb _ hb=>l9 F5 b hb⟩⟩
  .obtain⟨o,ho,hc⟩:=eH r' o' j5;have hk:=hO.ob (σ r') o ho;cases o with
   |box cs=>
    cases o' with
    |box yJ=>
     obtain⟨c,e,aS,hr,hm⟩:=hk;exact⟨c,e,aS,crs cs yJ _ hc hr,hm⟩
    |_=>exact hc.elim
   |map bZ agg c es=>
    cases o' with
    |map kL kM c' nW=>
     obtain⟨rfl,rfl,rfl,nN⟩:=hc;obtain⟨bm,aS,hr,k1,k2,k3,hm⟩:=hk;have key:∀(es nW:List (Nat×T×DV)) (xs:List MapEntry),iD st.ab ir.ab σ es nW->bH w W st.ab L es xs->bH w W ir.ab (L.CG σ) nW xs/\nW.map (·.1)=es.map (·.1)/\nW.map (·.2.1)=es.map (·.2.1):=by
      intro es;induction es with
      |nil=>intro nW xs h1 h2;simp only[iD]at h1;subst h1;exact⟨by simpa only[bH]using h2,rfl,rfl⟩
      |cons e es ih=>
       intro nW xs h1 h2;cases nW with
       |nil=>simp[iD]at h1
       |cons e' nW=>
        simp only[iD]at h1;simp only[bH]at h2⊢;obtain⟨x,nj,rfl,q0,q1,q2,q3⟩:=h2;obtain⟨i1,i2,i3⟩:=ih nW nj h1.2.2.2 q3;refine⟨⟨x,nj,rfl,q0.trans h1.1, ?_,cr _ _ _ h1.2.2.1 q2,i1⟩,by simp[i2,h1.1],by simp[i3,h1.2.1]⟩;rw[<-h1.2.1];exact be.aL (c8.refl (WW W st.ab L) w).toKeepsC (λb _ hb=>l9 F5 b hb) _ _ q1
     obtain⟨i1,i2,i3⟩:=key es nW _ nN hr;refine⟨bm,aS,i1,λe he=>?_,λe he=>?_,by rw[i2];exact k3,hm⟩
     .have:e.2.1∈es.map (·.2.1):=by rw[<-i3];exact sE.2 ⟨e,he,rfl⟩
      obtain⟨e0,h0',OR⟩:=sE.1 this;rw[<-OR];exact k1 e0 h0'
     .have:e.1∈es.map (·.1):=by rw[<-i2];exact sE.2 ⟨e,he,rfl⟩
      obtain⟨e0,h0',OR⟩:=sE.1 this;rw[<-OR];exact k2 e0 h0'
    |_=>exact hc.elim
   |eo m s sn l=>
    cases o' with
    |eo m' s' sn' l'=>
     obtain⟨rfl,rfl,rfl,rfl,ON⟩:=hc;obtain⟨aS,_,hm⟩:=hk;exact⟨aS,CF ON,hm⟩
    |_=>exact hc.elim
   |bm bG e sz aC=>
    cases o' with
    |box _=>exact hc.elim
    |map _ _ _ _=>exact hc.elim
    |eo _ _ _ _=>exact hc.elim
    |bm bM e' jt eN=>
     obtain⟨rfl,rfl,rfl⟩:=hc;obtain⟨g1,g2,g3,g4⟩:=hk;refine⟨g1,g2,g3, ?_⟩;rcases g4 with g4|⟨g,cap,eJ,hv,hp,hh,k1,k2,k3,k4⟩
     .exact .inl g4
     .exact .inr ⟨g,cap,eJ,hv,hp,hh,k1,k2,k3,dt.aL (c8.refl (WW W st.ab L) w).toKeepsC (λb _ hb=>l9 F5 b hb) _ _ k4⟩
  .obtain⟨p1,q1,c1⟩:=eH r1 o1 h1;obtain⟨p2,q2,c2⟩:=eH r2 o2 h2;rw[uR c1]at yC;rw[uR c2]at jZ;exact hO.apart (σ r1) (σ r2) p1 p2 b (λe=>dd (atZ r1 r2 (λe=>by rw[show ir.ab r1=some o1 from h1]at e;cases e) (λe=>by rw[show ir.ab r2=some o2 from h2]at e;cases e) e)) q1 q2 yC jZ
  .obtain⟨p1,q1,c1⟩:=eH r' o' j5;rw[uR c1]at hb;exact hO.tK (σ r') p1 b q1 hb
 .have ha:jA κ.W κ.go κ.gL (κ.Il st.todo) st.ab L w:=h.r.gq;show jA κ.W κ.go κ.gL (κ.Il ir.todo) ir.ab (L.CG σ) w;rw[Jo];refine⟨ha.cL,λb hb hw=>ha.sub b hb (l9 (λr' o' h=>let⟨o,h1,h2⟩:=eH r' o' h;⟨o,h1,uR h2⟩) b hw),λr o hr hk=>?_,λr bG e sz aC hr=>?_,ha.yl⟩
  .have cQ:r<st.low:=Zcz λio=>by rw[h.low r io]at hr;cases hr
   obtain⟨e1,o1,ql,mr⟩:=ha.fix r o hr hk;obtain⟨hs,o',j5,hv⟩:=Jp r cQ _ ql;exact⟨by simp only[Loc.CG,hs];exact e1,o',j5,(xQ hv).trans mr⟩
  .have cQ:r<st.low:=Zcz λio=>by rw[h.low r io]at hr;cases hr
   obtain⟨v1,e1,s1,r1,ql,l1,k1⟩:=ha.bm r bG e sz aC hr;obtain⟨hs,o',j5,hv⟩:=Jp r cQ _ ql;cases o' with
   |box yJ=>exact hv.elim
   |map _ _ _ _=>exact hv.elim
   |eo _ _ _ _=>exact hv.elim
   |bm v2 e2 s2 r2=>
    obtain⟨rfl,rfl,h3⟩:=hv;exact⟨v1,e2,s1,r2,j5,l1,λhv=>by
     obtain⟨a1,a2,a3⟩:=k1 hv;exact⟨by simp only[Loc.CG,hs];exact a1,a2,by rw[<-h3];exact a3⟩⟩
end
end
end Go.DM
