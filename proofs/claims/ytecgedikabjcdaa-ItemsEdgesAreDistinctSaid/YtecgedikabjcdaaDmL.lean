/- The D-machine, part L: a region whose order is open comes out as in the order of its text. Conditions: none. -/
import Derived.Test.YtecgedikabjcdaaDmK
namespace Go.DM
open Go.RowKit
set_option linter.unusedSimpArgs false
set_option linter.unusedVariables false

def slotOf : Opd → Option Nat
  | .tmp t => some t
  | .con _ => none
def slotsOf (r : RO) : List Nat := (opdsOf r.d).filterMap slotOf ++ (r.guard.map (·.1)).toList
def conOk : Opd → Bool
  | .tmp _ => true
  | .con (.v _) | .con .nil0 => true
  | _ => false
def consOk (r : RO) : Bool := (opdsOf r.d).all conOk

def apartDst (x y : RO) : Bool := match x.dst with | some d => !(slotsOf y).contains d | none => true
def neDst (x y : RO) : Bool := match x.dst, y.dst with | some a, some b => a != b | _, _ => true
def conf (a b : Nat) : Bool := ((a == 3 && (b == 1 || b == 3)) || (b == 3 && a == 1)) || ((a == 4 && b != 0) || (b == 4 && a != 0))
/-- The two may change places. -/
def disj (x y : Option (List Nat)) : Bool := match x, y with | some a, some b => a.all fun n => b.all fun m => n != m | _, _ => false
def indep (x y : RO) : Bool :=
  apartDst x y && apartDst y x && neDst x y && (!conf (cls x.d) (cls y.d) || (disj x.touch y.touch && cls x.d != 4 && cls y.d != 4))

/-- It may lay a new object. -/
def lays : DOp → Bool
  | .alloc _ | .box _ | .mkSlice .. | .append .. => true
  | _ => false
def laysOk (r : RO) : Bool := !lays r.d || r.dst.isSome

section
variable {Γ : Env} {nxt : Nat}

def RefAll (st : RS) : Prop := ∀ t, RefOk st.objs (st.tmps t)
def nm (nxt : Nat) (r : RO) : Nat := nameOf nxt r.dst
/-- The names that these operations may lay are free. -/
def Fresh (nxt : Nat) (r : RO) (st : RS) : Prop := r.dst.isSome = true → st.objs (nm nxt r) = none

theorem put_tgt {r : RO} {st : RS} {t : Nat} {o : Ob} (hp : (eff Γ nxt r st).put = some (t, o)) : (t = nm nxt r ∧ lays r.d = true) ∨ (st.objs t ≠ none ∧ cls r.d = 3) := by
  unfold eff at hp
  by_cases h0 : cls r.d = 0 ∨ cls r.d = 1
  · rw [put_none h0] at hp; cases hp
  · by_cases h2 : cls r.d = 2
    · refine .inl ⟨put_new h2 hp, ?_⟩
      cases hd : r.d <;> rw [hd] at h2 <;> first | rfl | (simp [cls] at h2; done)
    · have h3 : cls r.d = 3 := by
        cases hd : r.d <;> rw [hd] at h0 h2 <;> first | (simp_all [cls]; done) | (rw [hd] at hp; simp [sem, bad] at hp)
      cases hd : r.d <;> rw [hd] at h3 hp <;> first | (simp [cls] at h3; done) | skip
      case store n x y =>
        simp only [sem] at hp
        unfold storeSem at hp
        split at hp
        · split at hp
          · rename_i hc; simp only [Option.some.injEq, Prod.mk.injEq] at hp; obtain ⟨rfl, _⟩ := hp; exact .inr ⟨by simp [hc], rfl⟩
          · cases hp
        · split at hp
          · rename_i hc; simp only [Option.some.injEq, Prod.mk.injEq] at hp; obtain ⟨rfl, _⟩ := hp; exact .inr ⟨by simp [hc], rfl⟩
          · cases hp
        · cases hp
      case append e sz by' x y =>
        rcases put_old h3 hp with h | h
        · exact .inl ⟨h, by simp [lays]⟩
        · exact .inr ⟨h, rfl⟩

theorem ev_upd {x : Opd} {ρ : Nat → DV} {dst : Option Nat} {v : DV} (h : ∀ d, dst = some d → slotOf x ≠ some d) : x.ev (updT ρ dst v) = x.ev ρ := by
  cases x with
  | con d => rfl
  | tmp t =>
    cases dst with
    | none => rfl
    | some d =>
      have := h d rfl
      simp only [slotOf, ne_eq, Option.some.injEq] at this
      simp [Opd.ev, updT, this]

theorem apart_slots {x y : RO} (h : apartDst x y = true) {d : Nat} (hd : x.dst = some d) : d ∉ slotsOf y := by
  simp only [apartDst, hd] at h
  simpa using h

theorem want_upd {x y : RO} (h : apartDst x y = true) (ρ : Nat → DV) (v : DV) : wantD y.guard (updT ρ x.dst v) = wantD y.guard ρ := by
  cases hg : y.guard with
  | none => rfl
  | some g =>
    obtain ⟨s, want⟩ := g
    cases hd : x.dst with
    | none => rfl
    | some d =>
      have hn := apart_slots h hd
      have : s ≠ d := fun e => hn (by simp [slotsOf, hg, e])
      simp [wantD, updT, this]

theorem ev_after {x y : RO} (h1 : apartDst x y = true) (ρ : Nat → DV) (v : DV) : ∀ o ∈ opdsOf y.d, o.ev (updT ρ x.dst v) = o.ev ρ := fun o ho => ev_upd fun d hd hs => by
    have := apart_slots h1 hd
    exact this (by simp only [slotsOf, List.mem_append, List.mem_filterMap]; exact .inl ⟨o, ho, hs⟩)

theorem touch_after {x y : RO} (h1 : apartDst x y = true) (ρ : Nat → DV) (v : DV) : touchOk y (updT ρ x.dst v) ↔ touchOk y ρ := by
  unfold touchOk
  cases y.touch with
  | none => rfl
  | some l =>
    constructor
    · intro h o ho n hn
      exact h o ho n (by rw [ev_after h1 ρ v o ho]; exact hn)
    · intro h o ho n hn
      exact h o ho n (by rw [ev_after h1 ρ v o ho] at hn; exact hn)

theorem disj_not {x y : RO} {ρ : Nat → DV} (hd : disj x.touch y.touch = true) (tx : touchOk x ρ) (ty : touchOk y ρ) {o p : Opd} (ho : o ∈ opdsOf x.d) (hp : p ∈ opdsOf y.d) {n : Nat} (h1 : n ∈ names (o.ev ρ)) (h2 : n ∈ names (p.ev ρ)) : False := by
  unfold disj at hd
  unfold touchOk at tx ty
  cases hx : x.touch with
  | none => simp [hx] at hd
  | some a =>
    cases hy : y.touch with
    | none => simp [hx, hy] at hd
    | some b =>
      simp only [hx, hy] at hd tx ty
      have := List.all_eq_true.1 (List.all_eq_true.1 hd n (tx o ho n h1)) n (ty p hp n h2)
      simp at this

/-- What writes an old object by the very number of its own name (a store, which has none) names it too. -/
theorem store_name {x : RO} {st : RS} {t : Nat} {o : Ob} (h3x : cls x.d = 3) (hlx : laysOk x = true) (hfree : x.dst.isSome = true → False)
    (hpx : (sem Γ x.d (nameOf nxt x.dst) st.tmps st.objs).put = some (t, o)) (h5 : t = nameOf nxt x.dst) {C : Prop} (k : ∀ a ∈ opdsOf x.d, t ∈ names (a.ev st.tmps) → C) : C := by
  cases hdx : x.dst with
  | some d => exact (hfree (by simp [hdx])).elim
  | none =>
    have : lays x.d = false := by simpa [laysOk, hdx] using hlx
    have hst : ∃ n' a b, x.d = .store n' a b := by
      cases hd : x.d <;> rw [hd] at h3x this <;> first | (simp [cls] at h3x; done) | (simp [lays] at this; done) | exact ⟨_, _, _, rfl⟩
    obtain ⟨n', a, b, hst⟩ := hst
    rw [hst] at hpx
    simp only [sem] at hpx
    unfold storeSem at hpx
    split at hpx
    · rename_i hv
      split at hpx
      · simp only [Option.some.injEq, Prod.mk.injEq] at hpx
        obtain ⟨rfl, _⟩ := hpx
        exact k a (by simp [hst, opdsOf]) (by simp [hv, names])
      · cases hpx
    · rename_i hv
      split at hpx
      · simp only [Option.some.injEq, Prod.mk.injEq] at hpx
        obtain ⟨rfl, _⟩ := hpx
        exact k a (by simp [hst, opdsOf]) (by simp [hv, names])
      · cases hpx
    · cases hpx

theorem ref_opds {y : RO} {st : RS} (hcy : consOk y = true) (hR : RefAll st) : ∀ o ∈ opdsOf y.d, RefOk st.objs (o.ev st.tmps) := fun o ho => by
  have := List.all_eq_true.1 hcy o ho
  cases o with
  | tmp t => exact hR t
  | con d => cases d <;> first | (simp [conOk] at this; done) | simp [Opd.ev, RefOk]

theorem not4 {d : DOp} : cls d ≠ 4 ↔ is4 d = false := by cases d <;> simp [cls, is4]

theorem semS_reads {d : DOp} {ρ ρ' : Nat → DV} {objs : Obs} {todo : List (List T)} (h : ∀ x ∈ opdsOf d, x.ev ρ = x.ev ρ') : semS Γ d ρ objs todo = semS Γ d ρ' objs todo := by
  cases d <;> first | rfl | skip
  case callS f xs => simp only [semS, map_ev_congr (xs := xs) h]
  case callv x xs =>
    have h1 := h x (by simp [opdsOf])
    have h2 := map_ev_congr (xs := xs) (fun y hy => h y (by simp [opdsOf, hy]))
    simp only [semS, h1, h2]

theorem eff_after {x y : RO} {st : RS} (hi : indep x y = true) (hx4 : is4 x.d = false) (hy4 : is4 y.d = false) (hcy : consOk y = true) (hlx : laysOk x = true) (hR : RefAll st) (hf : Fresh nxt x st) (v : DV) (td : List (List T)) (ty : touchOk y st.tmps) {p : Option (Nat × Ob)} (hp : p = none ∨ (p = (eff Γ nxt x st).put ∧ touchOk x st.tmps)) :
    eff Γ nxt y ⟨updT st.tmps x.dst v, putO st.objs p, td⟩ = eff Γ nxt y st := by
  simp only [indep, Bool.and_eq_true, Bool.not_eq_true', Bool.or_eq_true] at hi
  obtain ⟨⟨⟨h1, h2⟩, h3⟩, h4⟩ := hi
  have hev := ev_after h1 st.tmps v
  have href := ref_opds hcy hR
  unfold eff
  simp only
  rw [sem_reads hev]
  rcases hp with rfl | ⟨rfl, tx⟩
  · rfl
  · cases hpx : (eff Γ nxt x st).put with
    | none => rfl
    | some q =>
      obtain ⟨t, o⟩ := q
      by_cases hy : cls y.d = 0 ∨ cls y.d = 2
      · exact sem_free hy
      · rcases put_tgt hpx with ⟨rfl, hl⟩ | ⟨hne, h3x⟩
        · refine sem_ext (fun r hr => ?_) href
          have hds : x.dst.isSome = true := by simpa [laysOk, hl] using hlx
          have hnone := hf hds
          simp only [putO]
          rw [if_neg]
          rintro rfl
          exact hr hnone
        · rcases h4 with h4 | h4
          · exfalso
            have : cls y.d = 1 ∨ cls y.d = 3 := by
              have := not4.2 hy4
              cases hd : y.d <;> rw [hd] at hy this <;> simp_all [cls]
            rcases this with h | h <;> simp [h3x, h, conf] at h4
          · refine sem_names fun p hp n hn => ?_
            simp only [putO]
            rw [if_neg]
            rintro rfl
            unfold eff at hpx
            rcases put_named h3x hpx with h5 | ⟨o', ho', hn'⟩
            · exact store_name h3x hlx (fun e => hne (by rw [show n = nm nxt x from h5]; exact hf e)) hpx h5 (fun a ha hn' => disj_not h4.1.1 tx ty ha hp hn' hn)
            · exact disj_not h4.1.1 tx ty ho' hp hn' hn

/-- Beside an operation that may do anything stand only such as see no objects. -/
theorem indep4 {x y : RO} (hi : indep x y = true) (h4 : is4 x.d = true) : cls y.d = 0 := by
  have c4 : cls x.d = 4 := by cases hx : x.d <;> rw [hx] at h4 <;> simp_all [cls, is4]
  simp only [indep, Bool.and_eq_true, Bool.not_eq_true', Bool.or_eq_true] at hi
  rcases hi.2 with h | h
  · simp [conf, c4] at h
    exact h.1
  · simp [c4] at h

theorem conf_symm (a b : Nat) : conf a b = conf b a := by
  unfold conf
  cases a == 3 <;> cases b == 3 <;> cases a == 1 <;> cases b == 1 <;> cases a == 4 <;> cases b == 4 <;> cases a != 0 <;> cases b != 0 <;> rfl
theorem neDst_symm {x y : RO} (h : neDst x y = true) : neDst y x = true := by
  unfold neDst at h ⊢
  cases hx : x.dst <;> cases hy : y.dst <;> simp_all
  exact fun e => h e.symm
theorem disj_symm (a b : Option (List Nat)) : disj a b = disj b a := by
  cases a with
  | none => cases b <;> rfl
  | some a =>
    cases b with
    | none => rfl
    | some b =>
      rw [Bool.eq_iff_iff]
      simp only [disj, List.all_eq_true, bne_iff_ne, ne_eq]
      exact ⟨fun h n hn m hm e => h m hm n hn e.symm, fun h n hn m hm e => h m hm n hn e.symm⟩
theorem indep_symm {x y : RO} (h : indep x y = true) : indep y x = true := by
  simp only [indep, Bool.and_eq_true] at h ⊢
  refine ⟨⟨⟨h.1.1.2, h.1.1.1⟩, neDst_symm h.1.2⟩, ?_⟩
  rw [conf_symm, disj_symm]
  have := h.2
  simp only [Bool.or_eq_true, Bool.and_eq_true] at this ⊢
  rcases this with h | h
  · exact .inl h
  · exact .inr ⟨⟨h.1.1, h.2⟩, h.1.2⟩

/-- What a step puts where. -/
def vp (Γ : Env) (nxt : Nat) (r : RO) (st : RS) : DV × Option (Nat × Ob) :=
  match wantD r.guard st.tmps with
  | some true => ((eff Γ nxt r st).val, (eff Γ nxt r st).put)
  | _ => (.skip, none)
/-- The same of an operation that is told whole. -/
def vp4 (Γ : Env) (r : RO) (st : RS) : DV × Obs × List (List T) :=
  match wantD r.guard st.tmps with
  | some true => ((semS Γ r.d st.tmps st.objs st.todo).val, (semS Γ r.d st.tmps st.objs st.todo).objs, (semS Γ r.d st.tmps st.objs st.todo).todo)
  | _ => (.skip, st.objs, st.todo)

theorem step_eq {r : RO} {st : RS} (h4 : is4 r.d = false) (h : stepOk Γ nxt r st) : stepSt Γ nxt r st = ⟨updT st.tmps r.dst (vp Γ nxt r st).1, putO st.objs (vp Γ nxt r st).2, st.todo⟩ := by
  unfold stepOk at h
  unfold stepSt vp
  cases hw : wantD r.guard st.tmps with
  | none => rw [hw] at h; exact h.elim
  | some b => cases b <;> simp [post, h4, putO]
theorem step_eq4 {r : RO} {st : RS} (h4 : is4 r.d = true) (h : stepOk Γ nxt r st) : stepSt Γ nxt r st = ⟨updT st.tmps r.dst (vp4 Γ r st).1, (vp4 Γ r st).2.1, (vp4 Γ r st).2.2⟩ := by
  unfold stepOk at h
  unfold stepSt vp4
  cases hw : wantD r.guard st.tmps with
  | none => rw [hw] at h; exact h.elim
  | some b => cases b <;> simp [post, h4]
theorem vp_put (r : RO) (st : RS) : (vp Γ nxt r st).2 = none ∨ (vp Γ nxt r st).2 = (eff Γ nxt r st).put := by
  unfold vp
  split
  · exact .inr rfl
  · exact .inl rfl
theorem vp_zero {r : RO} {st : RS} (h0 : cls r.d = 0) : (vp Γ nxt r st).2 = none := by
  rcases vp_put (Γ := Γ) (nxt := nxt) r st with h | h
  · exact h
  · rw [h]; exact put_none (.inl h0)

theorem stepOk_touch {r : RO} {st : RS} (h : stepOk Γ nxt r st) : (vp Γ nxt r st).2 = none ∨ ((vp Γ nxt r st).2 = (eff Γ nxt r st).put ∧ touchOk r st.tmps) := by
  unfold stepOk at h
  unfold vp
  cases hw : wantD r.guard st.tmps with
  | none => rw [hw] at h; exact h.elim
  | some b =>
    cases b with
    | false => exact .inl rfl
    | true => rw [hw] at h; exact .inr ⟨rfl, h.2⟩

theorem zero_not4 {d : DOp} (h : cls d = 0) : is4 d = false := not4.1 (by rw [h]; decide)

/-- What sees no objects is the same before and behind. -/
theorem after_zero {x y : RO} {st : RS} (ha : apartDst x y = true) (h0 : cls y.d = 0) (v : DV) (objs' : Obs) (td : List (List T)) :
    vp Γ nxt y ⟨updT st.tmps x.dst v, objs', td⟩ = vp Γ nxt y st ∧ (stepOk Γ nxt y ⟨updT st.tmps x.dst v, objs', td⟩ ↔ stepOk Γ nxt y st) := by
  have hw : wantD y.guard (updT st.tmps x.dst v) = wantD y.guard st.tmps := want_upd ha _ _
  have ht := touch_after (y := y) ha st.tmps v
  have he : eff Γ nxt y ⟨updT st.tmps x.dst v, objs', td⟩ = eff Γ nxt y st := by
    unfold eff
    simp only
    rw [sem_reads (ev_after ha st.tmps v)]
    exact sem_free (.inl h0)
  refine ⟨?_, ?_⟩
  · unfold vp
    simp only [hw, he]
  · unfold stepOk post
    simp only [hw, he, ht, zero_not4 h0, Bool.false_eq_true, if_false]

theorem after {x y : RO} {st : RS} (hi : indep x y = true) (hx4 : is4 x.d = false) (hy4 : is4 y.d = false) (hcy : consOk y = true) (hlx : laysOk x = true) (hR : RefAll st) (hf : Fresh nxt x st) (ox : stepOk Γ nxt x st) (oy : stepOk Γ nxt y st ∨ stepOk Γ nxt y (stepSt Γ nxt x st)) :
    vp Γ nxt y (stepSt Γ nxt x st) = vp Γ nxt y st ∧ stepOk Γ nxt y (stepSt Γ nxt x st) ∧ stepOk Γ nxt y st := by
  rw [step_eq hx4 ox] at oy ⊢
  have ha : apartDst x y = true := by simp only [indep, Bool.and_eq_true] at hi; exact hi.1.1.1
  have hw : wantD y.guard (updT st.tmps x.dst (vp Γ nxt x st).1) = wantD y.guard st.tmps := want_upd ha _ _
  have ht := touch_after (y := y) ha st.tmps (vp Γ nxt x st).1
  have he : touchOk y st.tmps → _ := fun ty => eff_after (Γ := Γ) hi hx4 hy4 hcy hlx hR hf (vp Γ nxt x st).1 st.todo ty (stepOk_touch ox)
  generalize vp Γ nxt x st = q at oy hw ht he ⊢
  unfold stepOk post at oy ⊢
  unfold vp
  simp only [hw, ht, hy4, Bool.false_eq_true, if_false] at oy ⊢
  cases hb : wantD y.guard st.tmps with
  | none => simp only [hb, or_self] at oy
  | some b =>
    cases b with
    | false => simp
    | true =>
      simp only [hb] at oy ⊢
      have ty : touchOk y st.tmps := by rcases oy with h | h <;> exact h.2
      have he := he ty
      simp only [he] at oy ⊢
      have := oy.elim id id
      exact ⟨trivial, this, this⟩

theorem updT_comm {x y : RO} (h3 : neDst x y = true) (f : Nat → DV) (u v : DV) : updT (updT f x.dst u) y.dst v = updT (updT f y.dst v) x.dst u := by
  funext t
  cases hx : x.dst <;> cases hy : y.dst <;> simp only [updT]
  rename_i d e
  have hde : d ≠ e := by simpa [neDst, hx, hy] using h3
  by_cases h1 : t = d <;> by_cases h2 : t = e <;> simp_all

theorem apart4 {x y : RO} {st : RS} (ha : apartDst y x = true) (v : DV) : vp4 Γ x ⟨updT st.tmps y.dst v, st.objs, st.todo⟩ = vp4 Γ x st ∧ (is4 x.d = true → (stepOk Γ nxt x ⟨updT st.tmps y.dst v, st.objs, st.todo⟩ ↔ stepOk Γ nxt x st)) := by
  have hw : wantD x.guard (updT st.tmps y.dst v) = wantD x.guard st.tmps := want_upd ha _ _
  have ht := touch_after (y := x) ha st.tmps v
  have hs : semS Γ x.d (updT st.tmps y.dst v) st.objs st.todo = semS Γ x.d st.tmps st.objs st.todo := semS_reads (ev_after ha st.tmps v)
  refine ⟨?_, fun h4 => ?_⟩
  · unfold vp4
    simp only [hw, hs]
  · unfold stepOk post
    simp only [hw, hs, ht, h4, if_true]

theorem swap {x y : RO} {st : RS} (hi : indep x y = true) (hcx : consOk x = true) (hcy : consOk y = true) (hlx : laysOk x = true) (hly : laysOk y = true) (hR : RefAll st) (hfx : Fresh nxt x st) (hfy : Fresh nxt y st)
    (ox : stepOk Γ nxt x st) (oy : stepOk Γ nxt y (stepSt Γ nxt x st)) :
    stepOk Γ nxt y st ∧ stepOk Γ nxt x (stepSt Γ nxt y st) ∧ stepSt Γ nxt y (stepSt Γ nxt x st) = stepSt Γ nxt x (stepSt Γ nxt y st) := by
  have hi' := hi
  simp only [indep, Bool.and_eq_true] at hi'
  obtain ⟨⟨⟨h1, h2⟩, h3⟩, h4⟩ := hi'
  by_cases hx4 : is4 x.d = true
  · have y0 := indep4 hi hx4
    have hy4 := zero_not4 y0
    rw [step_eq4 hx4 ox] at oy ⊢
    obtain ⟨e1, e2⟩ := after_zero (Γ := Γ) (nxt := nxt) (st := st) h1 y0 (vp4 Γ x st).1 (vp4 Γ x st).2.1 (vp4 Γ x st).2.2
    have oy' := e2.1 oy
    rw [step_eq hy4 oy, step_eq hy4 oy', e1, vp_zero y0]
    obtain ⟨e3, e4⟩ := apart4 (Γ := Γ) (nxt := nxt) (x := x) (y := y) (st := st) h2 (vp Γ nxt y st).1
    have ox' := (e4 hx4).2 ox
    refine ⟨oy', ox', ?_⟩
    simp only [putO] at ox' ⊢
    rw [step_eq4 hx4 ox', e3]
    simp only
    rw [updT_comm h3]
  · have hx4 : is4 x.d = false := by simpa using hx4
    by_cases hy4 : is4 y.d = true
    · have x0 := indep4 (indep_symm hi) hy4
      rw [step_eq hx4 ox, vp_zero x0] at oy ⊢
      simp only [putO] at oy ⊢
      obtain ⟨e3, e4⟩ := apart4 (Γ := Γ) (nxt := nxt) (x := y) (y := x) (st := st) h1 (vp Γ nxt x st).1
      have oy' := (e4 hy4).1 oy
      rw [step_eq4 hy4 oy, step_eq4 hy4 oy', e3]
      obtain ⟨e1, e2⟩ := after_zero (Γ := Γ) (nxt := nxt) (st := st) (x := y) (y := x) h2 x0 (vp4 Γ y st).1 (vp4 Γ y st).2.1 (vp4 Γ y st).2.2
      have ox' := e2.2 ox
      refine ⟨oy', ox', ?_⟩
      rw [step_eq hx4 ox', e1, vp_zero x0]
      simp only [putO]
      rw [updT_comm h3]
    · have hy4 : is4 y.d = false := by simpa using hy4
      have a1 := after (Γ := Γ) hi hx4 hy4 hcy hlx hR hfx ox (.inr oy)
      have oy' := a1.2.2
      have a2 := after (Γ := Γ) (indep_symm hi) hy4 hx4 hcx hly hR hfy oy' (.inl ox)
      have ox' := a2.2.1
      refine ⟨oy', ox', ?_⟩
      have tx := stepOk_touch ox
      have ty := stepOk_touch oy'
      rw [step_eq hy4 oy, step_eq hx4 ox', a1.1, a2.1, step_eq hx4 ox, step_eq hy4 oy']
      congr 1
      · exact updT_comm h3 _ _ _
      · funext t
        cases hx : (vp Γ nxt x st).2 with
        | none => cases (vp Γ nxt y st).2 <;> rfl
        | some p =>
          cases hy : (vp Γ nxt y st).2 with
          | none => rfl
          | some q =>
            obtain ⟨t1, o1⟩ := p
            obtain ⟨t2, o2⟩ := q
            have e1 := put_tgt (((vp_put (Γ := Γ) (nxt := nxt) x st).resolve_left (by simp [hx])).symm.trans hx)
            have e2 := put_tgt (((vp_put (Γ := Γ) (nxt := nxt) y st).resolve_left (by simp [hy])).symm.trans hy)
            have hne : t1 ≠ t2 := by
              rcases e1 with ⟨rfl, l1⟩ | ⟨n1, c1⟩ <;> rcases e2 with ⟨rfl, l2⟩ | ⟨n2, c2⟩
              · have s1 : x.dst.isSome = true := by simpa [laysOk, l1] using hlx
                have s2 : y.dst.isSome = true := by simpa [laysOk, l2] using hly
                obtain ⟨d1, hd1⟩ := Option.isSome_iff_exists.1 s1
                obtain ⟨d2, hd2⟩ := Option.isSome_iff_exists.1 s2
                have : d1 ≠ d2 := by simpa [neDst, hd1, hd2] using h3
                simp [nm, nameOf, hd1, hd2, this]
              · rintro rfl
                exact n2 (hfx (by simpa [laysOk, l1] using hlx))
              · rintro rfl
                exact n1 (hfy (by simpa [laysOk, l2] using hly))
              · simp only [Bool.or_eq_true, Bool.and_eq_true] at h4
                rcases h4 with h4 | h4
                · simp [conf, c1, c2] at h4
                · rintro rfl
                  have p1 := (tx.resolve_left (by simp [hx])).1.symm.trans hx
                  have p2 := (ty.resolve_left (by simp [hy])).1.symm.trans hy
                  have q1 := (tx.resolve_left (by simp [hx])).2
                  have q2 := (ty.resolve_left (by simp [hy])).2
                  unfold eff at p1 p2
                  rcases put_named c1 p1 with h5 | ⟨o, ho, hn⟩
                  · exact store_name c1 hlx (fun e => n1 (by rw [show t1 = nm nxt x from h5]; exact hfx e)) p1 h5 (fun o ho hn => by
                      rcases put_named c2 p2 with h6 | ⟨o', ho', hn'⟩
                      · exact store_name c2 hly (fun e => n2 (by rw [show t1 = nm nxt y from h6]; exact hfy e)) p2 h6 (fun o' ho' hn' => disj_not h4.1.1 q1 q2 ho ho' hn hn')
                      · exact disj_not h4.1.1 q1 q2 ho ho' hn hn')
                  · rcases put_named c2 p2 with h6 | ⟨o', ho', hn'⟩
                    · exact store_name c2 hly (fun e => n2 (by rw [show t1 = nm nxt y from h6]; exact hfy e)) p2 h6 (fun o' ho' hn' => disj_not h4.1.1 q1 q2 ho ho' hn hn')
                    · exact disj_not h4.1.1 q1 q2 ho ho' hn hn'
            simp only [putO]
            by_cases h1 : t = t1 <;> by_cases h2 : t = t2 <;> simp_all
end
end Go.DM
