/- The D-machine, part L: a region whose order is open comes out as in the order of its text. Conditions: none. -/
import Derived.Test.YtbncgpjkfglhdaaDoorDmK
namespace Go.DM
open Go.RowKit
set_option linter.unusedSimpArgs false

def slotOf : Opd → Option Nat
  | .tmp t => some t
  | .con _ => none
def slotsOf (r : RO) : List Nat := (opdsOf r.d).filterMap slotOf ++ (r.guard.map (·.1)).toList
def conOk : Opd → Bool
  | .tmp _ => true
  | .con (.v _) | .con .nil0 => true
  | _ => false
def consOk (r : RO) : Bool := (opdsOf r.d).all conOk

def apartDst (x y : RO) : Bool := match x.dst with | some d => !(slotsOf y).contains d | none => true
def neDst (x y : RO) : Bool := match x.dst, y.dst with | some a, some b => a != b | _, _ => true
def conf (a b : Nat) : Bool := (a == 3 && (b == 1 || b == 3)) || (b == 3 && a == 1)
/-- The two may change places. -/
def disj (x y : Option (List Nat)) : Bool := match x, y with | some a, some b => a.all fun n => b.all fun m => n != m | _, _ => false
def indep (x y : RO) : Bool :=
  apartDst x y && apartDst y x && neDst x y && (!conf (cls x.d) (cls y.d) || disj x.touch y.touch)

/-- It may lay a new object. -/
def lays : DOp → Bool
  | .alloc _ | .box _ | .mkSlice .. | .append .. => true
  | _ => false
def laysOk (r : RO) : Bool := !lays r.d || r.dst.isSome

section
variable {Γ : Env} {nxt : Nat}

def RefAll (st : RS) : Prop := ∀ t, RefOk st.objs (st.tmps t)
def nm (nxt : Nat) (r : RO) : Nat := nameOf nxt r.dst
/-- The names that these operations may lay are free. -/
def Fresh (nxt : Nat) (r : RO) (st : RS) : Prop := r.dst.isSome = true → st.objs (nm nxt r) = none

theorem put_tgt {r : RO} {st : RS} {t : Nat} {o : Ob} (hp : (eff Γ nxt r st).put = some (t, o)) : (t = nm nxt r ∧ lays r.d = true) ∨ (st.objs t ≠ none ∧ cls r.d = 3) := by
  unfold eff at hp
  by_cases h0 : cls r.d = 0 ∨ cls r.d = 1
  · rw [put_none h0] at hp; cases hp
  · by_cases h2 : cls r.d = 2
    · refine .inl ⟨put_new h2 hp, ?_⟩
      cases hd : r.d <;> rw [hd] at h2 <;> first | rfl | (simp [cls] at h2; done)
    · have h3 : cls r.d = 3 := by
        cases hd : r.d <;> rw [hd] at h0 h2 <;> simp_all [cls]
      cases hd : r.d <;> rw [hd] at h3 hp <;> first | (simp [cls] at h3; done) | skip
      case store n x y =>
        simp only [sem] at hp
        unfold storeSem at hp
        split at hp
        · split at hp
          · rename_i hc; simp only [Option.some.injEq, Prod.mk.injEq] at hp; obtain ⟨rfl, _⟩ := hp; exact .inr ⟨by simp [hc], rfl⟩
          · cases hp
        · split at hp
          · rename_i hc; simp only [Option.some.injEq, Prod.mk.injEq] at hp; obtain ⟨rfl, _⟩ := hp; exact .inr ⟨by simp [hc], rfl⟩
          · cases hp
        · cases hp
      case append e sz by' x y =>
        rcases put_old h3 hp with h | h
        · exact .inl ⟨h, by simp [lays]⟩
        · exact .inr ⟨h, rfl⟩

theorem ev_upd {x : Opd} {ρ : Nat → DV} {dst : Option Nat} {v : DV} (h : ∀ d, dst = some d → slotOf x ≠ some d) : x.ev (updT ρ dst v) = x.ev ρ := by
  cases x with
  | con d => rfl
  | tmp t =>
    cases dst with
    | none => rfl
    | some d =>
      have := h d rfl
      simp only [slotOf, ne_eq, Option.some.injEq] at this
      simp [Opd.ev, updT, this]

theorem apart_slots {x y : RO} (h : apartDst x y = true) {d : Nat} (hd : x.dst = some d) : d ∉ slotsOf y := by
  simp only [apartDst, hd] at h
  simpa using h

theorem want_upd {x y : RO} (h : apartDst x y = true) (ρ : Nat → DV) (v : DV) : wantD y.guard (updT ρ x.dst v) = wantD y.guard ρ := by
  cases hg : y.guard with
  | none => rfl
  | some g =>
    obtain ⟨s, want⟩ := g
    cases hd : x.dst with
    | none => rfl
    | some d =>
      have hn := apart_slots h hd
      have : s ≠ d := fun e => hn (by simp [slotsOf, hg, e])
      simp [wantD, updT, this]

theorem ev_after {x y : RO} (h1 : apartDst x y = true) (ρ : Nat → DV) (v : DV) : ∀ o ∈ opdsOf y.d, o.ev (updT ρ x.dst v) = o.ev ρ := fun o ho => ev_upd fun d hd hs => by
    have := apart_slots h1 hd
    exact this (by simp only [slotsOf, List.mem_append, List.mem_filterMap]; exact .inl ⟨o, ho, hs⟩)

theorem touch_after {x y : RO} (h1 : apartDst x y = true) (ρ : Nat → DV) (v : DV) : touchOk y (updT ρ x.dst v) ↔ touchOk y ρ := by
  unfold touchOk
  cases y.touch with
  | none => rfl
  | some l =>
    constructor
    · intro h o ho n hn
      exact h o ho n (by rw [ev_after h1 ρ v o ho]; exact hn)
    · intro h o ho n hn
      exact h o ho n (by rw [ev_after h1 ρ v o ho] at hn; exact hn)

theorem disj_not {x y : RO} {ρ : Nat → DV} (hd : disj x.touch y.touch = true) (tx : touchOk x ρ) (ty : touchOk y ρ) {o p : Opd} (ho : o ∈ opdsOf x.d) (hp : p ∈ opdsOf y.d) {n : Nat} (h1 : n ∈ names (o.ev ρ)) (h2 : n ∈ names (p.ev ρ)) : False := by
  unfold disj at hd
  unfold touchOk at tx ty
  cases hx : x.touch with
  | none => simp [hx] at hd
  | some a =>
    cases hy : y.touch with
    | none => simp [hx, hy] at hd
    | some b =>
      simp only [hx, hy] at hd tx ty
      have := List.all_eq_true.1 (List.all_eq_true.1 hd n (tx o ho n h1)) n (ty p hp n h2)
      simp at this

/-- What writes an old object by the very number of its own name (a store, which has none) names it too. -/
theorem store_name {x : RO} {st : RS} {t : Nat} {o : Ob} (h3x : cls x.d = 3) (hlx : laysOk x = true) (hfree : x.dst.isSome = true → False)
    (hpx : (sem Γ x.d (nameOf nxt x.dst) st.tmps st.objs).put = some (t, o)) (h5 : t = nameOf nxt x.dst) {C : Prop} (k : ∀ a ∈ opdsOf x.d, t ∈ names (a.ev st.tmps) → C) : C := by
  cases hdx : x.dst with
  | some d => exact (hfree (by simp [hdx])).elim
  | none =>
    have : lays x.d = false := by simpa [laysOk, hdx] using hlx
    have hst : ∃ n' a b, x.d = .store n' a b := by
      cases hd : x.d <;> rw [hd] at h3x this <;> first | (simp [cls] at h3x; done) | (simp [lays] at this; done) | exact ⟨_, _, _, rfl⟩
    obtain ⟨n', a, b, hst⟩ := hst
    rw [hst] at hpx
    simp only [sem] at hpx
    unfold storeSem at hpx
    split at hpx
    · rename_i hv
      split at hpx
      · simp only [Option.some.injEq, Prod.mk.injEq] at hpx
        obtain ⟨rfl, _⟩ := hpx
        exact k a (by simp [hst, opdsOf]) (by simp [hv, names])
      · cases hpx
    · rename_i hv
      split at hpx
      · simp only [Option.some.injEq, Prod.mk.injEq] at hpx
        obtain ⟨rfl, _⟩ := hpx
        exact k a (by simp [hst, opdsOf]) (by simp [hv, names])
      · cases hpx
    · cases hpx

theorem eff_after {x y : RO} {st : RS} (hi : indep x y = true) (hcy : consOk y = true) (hlx : laysOk x = true) (hR : RefAll st) (hf : Fresh nxt x st) (v : DV) (ty : touchOk y st.tmps) {p : Option (Nat × Ob)} (hp : p = none ∨ (p = (eff Γ nxt x st).put ∧ touchOk x st.tmps)) :
    eff Γ nxt y ⟨updT st.tmps x.dst v, putO st.objs p⟩ = eff Γ nxt y st := by
  simp only [indep, Bool.and_eq_true, Bool.not_eq_true', Bool.or_eq_true] at hi
  obtain ⟨⟨⟨h1, h2⟩, h3⟩, h4⟩ := hi
  have hev := ev_after h1 st.tmps v
  have href : ∀ o ∈ opdsOf y.d, RefOk st.objs (o.ev st.tmps) := fun o ho => by
    have := List.all_eq_true.1 hcy o ho
    cases o with
    | tmp t => exact hR t
    | con d => cases d <;> first | (simp [conOk] at this; done) | simp [Opd.ev, RefOk]
  unfold eff
  simp only
  rw [sem_reads hev]
  rcases hp with rfl | ⟨rfl, tx⟩
  · rfl
  · cases hpx : (eff Γ nxt x st).put with
    | none => rfl
    | some q =>
      obtain ⟨t, o⟩ := q
      by_cases hy : cls y.d = 0 ∨ cls y.d = 2
      · exact sem_free hy
      · rcases put_tgt hpx with ⟨rfl, hl⟩ | ⟨hne, h3x⟩
        · refine sem_ext (fun r hr => ?_) href
          have hds : x.dst.isSome = true := by simpa [laysOk, hl] using hlx
          have hnone := hf hds
          simp only [putO]
          rw [if_neg]
          rintro rfl
          exact hr hnone
        · rcases h4 with h4 | h4
          · exfalso
            have : cls y.d = 1 ∨ cls y.d = 3 := by
              cases hd : y.d <;> rw [hd] at hy <;> simp_all [cls]
            rcases this with h | h <;> simp [h3x, h, conf] at h4
          · refine sem_names fun p hp n hn => ?_
            simp only [putO]
            rw [if_neg]
            rintro rfl
            unfold eff at hpx
            rcases put_named h3x hpx with h5 | ⟨o', ho', hn'⟩
            · exact store_name h3x hlx (fun e => hne (by rw [show n = nm nxt x from h5]; exact hf e)) hpx h5 (fun a ha hn' => disj_not h4 tx ty ha hp hn' hn)
            · exact disj_not h4 tx ty ho' hp hn' hn

theorem conf_symm (a b : Nat) : conf a b = conf b a := by
  unfold conf
  cases a == 3 <;> cases b == 3 <;> cases a == 1 <;> cases b == 1 <;> rfl
theorem neDst_symm {x y : RO} (h : neDst x y = true) : neDst y x = true := by
  unfold neDst at h ⊢
  cases hx : x.dst <;> cases hy : y.dst <;> simp_all
  exact fun e => h e.symm
theorem disj_symm (a b : Option (List Nat)) : disj a b = disj b a := by
  cases a with
  | none => cases b <;> rfl
  | some a =>
    cases b with
    | none => rfl
    | some b =>
      rw [Bool.eq_iff_iff]
      simp only [disj, List.all_eq_true, bne_iff_ne, ne_eq]
      exact ⟨fun h n hn m hm e => h m hm n hn e.symm, fun h n hn m hm e => h m hm n hn e.symm⟩
theorem indep_symm {x y : RO} (h : indep x y = true) : indep y x = true := by
  simp only [indep, Bool.and_eq_true] at h ⊢
  exact ⟨⟨⟨h.1.1.2, h.1.1.1⟩, neDst_symm h.1.2⟩, by rw [conf_symm, disj_symm]; exact h.2⟩

/-- What a step puts where. -/
def vp (Γ : Env) (nxt : Nat) (r : RO) (st : RS) : DV × Option (Nat × Ob) :=
  match wantD r.guard st.tmps with
  | some true => ((eff Γ nxt r st).val, (eff Γ nxt r st).put)
  | _ => (.skip, none)

theorem step_eq {r : RO} {st : RS} (h : stepOk Γ nxt r st) : stepSt Γ nxt r st = ⟨updT st.tmps r.dst (vp Γ nxt r st).1, putO st.objs (vp Γ nxt r st).2⟩ := by
  unfold stepOk at h
  unfold stepSt vp
  cases hw : wantD r.guard st.tmps with
  | none => rw [hw] at h; exact h.elim
  | some b => cases b <;> rfl
theorem vp_put (r : RO) (st : RS) : (vp Γ nxt r st).2 = none ∨ (vp Γ nxt r st).2 = (eff Γ nxt r st).put := by
  unfold vp
  split
  · exact .inr rfl
  · exact .inl rfl

theorem stepOk_touch {r : RO} {st : RS} (h : stepOk Γ nxt r st) : (vp Γ nxt r st).2 = none ∨ ((vp Γ nxt r st).2 = (eff Γ nxt r st).put ∧ touchOk r st.tmps) := by
  unfold stepOk at h
  unfold vp
  cases hw : wantD r.guard st.tmps with
  | none => rw [hw] at h; exact h.elim
  | some b =>
    cases b with
    | false => exact .inl rfl
    | true => rw [hw] at h; exact .inr ⟨rfl, h.2⟩

theorem after {x y : RO} {st : RS} (hi : indep x y = true) (hcy : consOk y = true) (hlx : laysOk x = true) (hR : RefAll st) (hf : Fresh nxt x st) (ox : stepOk Γ nxt x st) (oy : stepOk Γ nxt y st ∨ stepOk Γ nxt y (stepSt Γ nxt x st)) :
    vp Γ nxt y (stepSt Γ nxt x st) = vp Γ nxt y st ∧ stepOk Γ nxt y (stepSt Γ nxt x st) ∧ stepOk Γ nxt y st := by
  rw [step_eq ox] at oy ⊢
  have ha : apartDst x y = true := by simp only [indep, Bool.and_eq_true] at hi; exact hi.1.1.1
  have hw : wantD y.guard (updT st.tmps x.dst (vp Γ nxt x st).1) = wantD y.guard st.tmps := want_upd ha _ _
  have ht := touch_after (y := y) ha st.tmps (vp Γ nxt x st).1
  have he : touchOk y st.tmps → _ := fun ty => eff_after (Γ := Γ) hi hcy hlx hR hf (vp Γ nxt x st).1 ty (stepOk_touch ox)
  generalize vp Γ nxt x st = q at oy hw ht he ⊢
  unfold stepOk at oy ⊢
  unfold vp
  simp only [hw, ht] at oy ⊢
  cases hb : wantD y.guard st.tmps with
  | none => simp only [hb, or_self] at oy
  | some b =>
    cases b with
    | false => simp
    | true =>
      simp only [hb] at oy ⊢
      have ty : touchOk y st.tmps := by rcases oy with h | h <;> exact h.2
      have he := he ty
      simp only [he] at oy ⊢
      have := oy.elim id id
      exact ⟨trivial, this, this⟩

theorem swap {x y : RO} {st : RS} (hi : indep x y = true) (hcx : consOk x = true) (hcy : consOk y = true) (hlx : laysOk x = true) (hly : laysOk y = true) (hR : RefAll st) (hfx : Fresh nxt x st) (hfy : Fresh nxt y st)
    (ox : stepOk Γ nxt x st) (oy : stepOk Γ nxt y (stepSt Γ nxt x st)) :
    stepOk Γ nxt y st ∧ stepOk Γ nxt x (stepSt Γ nxt y st) ∧ stepSt Γ nxt y (stepSt Γ nxt x st) = stepSt Γ nxt x (stepSt Γ nxt y st) := by
  have a1 := after (Γ := Γ) hi hcy hlx hR hfx ox (.inr oy)
  have oy' := a1.2.2
  have a2 := after (Γ := Γ) (indep_symm hi) hcx hly hR hfy oy' (.inl ox)
  have ox' := a2.2.1
  refine ⟨oy', ox', ?_⟩
  have tx := stepOk_touch ox
  have ty := stepOk_touch oy'
  rw [step_eq oy, step_eq ox', a1.1, a2.1, step_eq ox, step_eq oy']
  simp only [indep, Bool.and_eq_true] at hi
  obtain ⟨⟨⟨h1, h2⟩, h3⟩, h4⟩ := hi
  congr 1
  · funext t
    cases hx : x.dst <;> cases hy : y.dst <;> simp only [updT]
    rename_i d e
    have hde : d ≠ e := by simpa [neDst, hx, hy] using h3
    by_cases h1 : t = d <;> by_cases h2 : t = e <;> simp_all
  · funext t
    cases hx : (vp Γ nxt x st).2 with
    | none => cases (vp Γ nxt y st).2 <;> rfl
    | some p =>
      cases hy : (vp Γ nxt y st).2 with
      | none => rfl
      | some q =>
        obtain ⟨t1, o1⟩ := p
        obtain ⟨t2, o2⟩ := q
        have e1 := put_tgt (((vp_put (Γ := Γ) (nxt := nxt) x st).resolve_left (by simp [hx])).symm.trans hx)
        have e2 := put_tgt (((vp_put (Γ := Γ) (nxt := nxt) y st).resolve_left (by simp [hy])).symm.trans hy)
        have hne : t1 ≠ t2 := by
          rcases e1 with ⟨rfl, l1⟩ | ⟨n1, c1⟩ <;> rcases e2 with ⟨rfl, l2⟩ | ⟨n2, c2⟩
          · have s1 : x.dst.isSome = true := by simpa [laysOk, l1] using hlx
            have s2 : y.dst.isSome = true := by simpa [laysOk, l2] using hly
            obtain ⟨d1, hd1⟩ := Option.isSome_iff_exists.1 s1
            obtain ⟨d2, hd2⟩ := Option.isSome_iff_exists.1 s2
            have : d1 ≠ d2 := by simpa [neDst, hd1, hd2] using h3
            simp [nm, nameOf, hd1, hd2, this]
          · rintro rfl
            exact n2 (hfx (by simpa [laysOk, l1] using hlx))
          · rintro rfl
            exact n1 (hfy (by simpa [laysOk, l2] using hly))
          · simp only [Bool.or_eq_true] at h4
            rcases h4 with h4 | h4
            · simp [conf, c1, c2] at h4
            · rintro rfl
              have p1 := (tx.resolve_left (by simp [hx])).1.symm.trans hx
              have p2 := (ty.resolve_left (by simp [hy])).1.symm.trans hy
              have q1 := (tx.resolve_left (by simp [hx])).2
              have q2 := (ty.resolve_left (by simp [hy])).2
              unfold eff at p1 p2
              rcases put_named c1 p1 with h5 | ⟨o, ho, hn⟩
              · exact store_name c1 hlx (fun e => n1 (by rw [show t1 = nm nxt x from h5]; exact hfx e)) p1 h5 (fun o ho hn => by
                  rcases put_named c2 p2 with h6 | ⟨o', ho', hn'⟩
                  · exact store_name c2 hly (fun e => n2 (by rw [show t1 = nm nxt y from h6]; exact hfy e)) p2 h6 (fun o' ho' hn' => disj_not h4 q1 q2 ho ho' hn hn')
                  · exact disj_not h4 q1 q2 ho ho' hn hn')
              · rcases put_named c2 p2 with h6 | ⟨o', ho', hn'⟩
                · exact store_name c2 hly (fun e => n2 (by rw [show t1 = nm nxt y from h6]; exact hfy e)) p2 h6 (fun o' ho' hn' => disj_not h4 q1 q2 ho ho' hn hn')
                · exact disj_not h4 q1 q2 ho ho' hn hn'
        simp only [putO]
        by_cases h1 : t = t1 <;> by_cases h2 : t = t2 <;> simp_all
end
end Go.DM
