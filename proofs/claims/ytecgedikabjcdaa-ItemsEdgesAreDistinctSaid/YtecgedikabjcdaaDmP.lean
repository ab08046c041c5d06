/- The D-machine, part P: a region told as one proposition that 'simp' works off; states in normal form. Conditions: none. -/
import Derived.Test.YtecgedikabjcdaaDmO
namespace Go.DM
open Go.RowKit
set_option linter.unusedSimpArgs false
set_option linter.unusedVariables false

/-- A region's operations in the order of the text; then K. -/
def exec (Γ : Env) (nxt : Nat) : List RO → RS → (RS → Prop) → Prop
  | [], st, K => K st
  | r :: rs, st, K =>
    match r.guard with
    | none => touchOk r st.tmps ∧ (post Γ nxt r st).ok ∧ exec Γ nxt rs ⟨updT st.tmps r.dst (post Γ nxt r st).val, (post Γ nxt r st).objs, (post Γ nxt r st).todo⟩ K
    | some (s, want) =>
      match st.tmps s with
      | .v (.bool b) => (b = want → touchOk r st.tmps ∧ (post Γ nxt r st).ok ∧ exec Γ nxt rs ⟨updT (updT st.tmps (some s) (.v (.bool want))) r.dst (post Γ nxt r st).val, (post Γ nxt r st).objs, (post Γ nxt r st).todo⟩ K) ∧
          (b = !want → exec Γ nxt rs ⟨updT (updT st.tmps (some s) (.v (.bool (!want)))) r.dst .skip, st.objs, st.todo⟩ K)
      | .skip => exec Γ nxt rs ⟨updT st.tmps r.dst .skip, st.objs, st.todo⟩ K
      | _ => False

theorem updT_self {ρ : Nat → DV} {s : Nat} {v : DV} (h : ρ s = v) : updT ρ (some s) v = ρ := by
  funext x
  simp only [updT]
  split
  · rename_i e; rw [e, h]
  · rfl

theorem exec_sound {Γ : Env} {nxt : Nat} : ∀ (rs : List RO) (st : RS) (K : RS → Prop), exec Γ nxt rs st K → runOk Γ nxt rs st ∧ K (runSt Γ nxt rs st)
  | [], st, K, h => ⟨trivial, h⟩
  | r :: rs, st, K, h => by
    simp only [exec] at h
    simp only [runOk, runSt]
    have yes : wantD r.guard st.tmps = some true → (touchOk r st.tmps ∧ (post Γ nxt r st).ok ∧ exec Γ nxt rs ⟨updT st.tmps r.dst (post Γ nxt r st).val, (post Γ nxt r st).objs, (post Γ nxt r st).todo⟩ K) → (stepOk Γ nxt r st ∧ runOk Γ nxt rs (stepSt Γ nxt r st)) ∧ K (runSt Γ nxt rs (stepSt Γ nxt r st)) := by
      rintro hw ⟨ht, hok, hk⟩
      have e1 : stepSt Γ nxt r st = ⟨updT st.tmps r.dst (post Γ nxt r st).val, (post Γ nxt r st).objs, (post Γ nxt r st).todo⟩ := by simp only [stepSt, hw]
      have e2 : stepOk Γ nxt r st := by simp only [stepOk, hw]; exact ⟨hok, ht⟩
      rw [e1]
      have := exec_sound rs _ K hk
      exact ⟨⟨e2, this.1⟩, this.2⟩
    have no : wantD r.guard st.tmps = some false → exec Γ nxt rs ⟨updT st.tmps r.dst .skip, st.objs, st.todo⟩ K → (stepOk Γ nxt r st ∧ runOk Γ nxt rs (stepSt Γ nxt r st)) ∧ K (runSt Γ nxt rs (stepSt Γ nxt r st)) := by
      rintro hw hk
      have e1 : stepSt Γ nxt r st = ⟨updT st.tmps r.dst .skip, st.objs, st.todo⟩ := by simp only [stepSt, hw]
      have e2 : stepOk Γ nxt r st := by simp only [stepOk, hw]
      rw [e1]
      have := exec_sound rs _ K hk
      exact ⟨⟨e2, this.1⟩, this.2⟩
    cases hg : r.guard with
    | none => rw [hg] at h; exact yes (by simp [wantD, hg]) h
    | some g =>
      obtain ⟨s, want⟩ := g
      rw [hg] at h
      simp only at h
      cases hs : st.tmps s with
      | skip => rw [hs] at h; exact no (by simp [wantD, hg, hs]) h
      | v t =>
        rw [hs] at h
        cases t with
        | bool b =>
          simp only at h
          by_cases hb : b = want
          · subst hb
            rw [updT_self hs] at h
            exact yes (by simp [wantD, hg, hs]) (h.1 rfl)
          · have hb' : b = !want := by cases b <;> cases want <;> simp_all
            subst hb'
            rw [updT_self hs] at h
            exact no (by simp [wantD, hg, hs]) (h.2 rfl)
        | _ => exact h.elim
      | _ => rw [hs] at h; exact h.elim

/-- Going on with an effect. -/
def goOn (Γ : Env) (nxt : Nat) (rs : List RO) (tm : Nat → DV) (ob : Obs) (td : List (List T)) (K : RS → Prop) (dst : Option Nat) (e : Eff) : Prop :=
  e.ok ∧ exec Γ nxt rs ⟨updT tm dst e.val, putO ob e.put, td⟩ K
/-- The same of an effect that is told whole. -/
def goOn4 (Γ : Env) (nxt : Nat) (rs : List RO) (tm : Nat → DV) (K : RS → Prop) (dst : Option Nat) (e : SEff) : Prop :=
  e.ok ∧ exec Γ nxt rs ⟨updT tm dst e.val, e.objs, e.todo⟩ K
def goD (Γ : Env) (nxt : Nat) (d : DOp) (rs : List RO) (tm : Nat → DV) (ob : Obs) (td : List (List T)) (K : RS → Prop) (dst : Option Nat) (tm' : Nat → DV) : Prop :=
  if is4 d then goOn4 Γ nxt rs tm' K dst (semS Γ d tm ob td) else goOn Γ nxt rs tm' ob td K dst (sem Γ d (nameOf nxt dst) tm ob)
/-- What a guard says. -/
def guardE (Γ : Env) (nxt : Nat) (d : DOp) (rs : List RO) (tm : Nat → DV) (ob : Obs) (td : List (List T)) (K : RS → Prop) (dst : Option Nat) (s : Nat) (want : Bool) (g : DV) : Prop :=
  match g with
  | .v (.bool b) => (b = want → goD Γ nxt d rs tm ob td K dst (updT tm (some s) (.v (.bool want)))) ∧
      (b = !want → exec Γ nxt rs ⟨updT (updT tm (some s) (.v (.bool (!want)))) dst .skip, ob, td⟩ K)
  | .skip => exec Γ nxt rs ⟨updT tm dst .skip, ob, td⟩ K
  | _ => False

section
variable {Γ : Env} {nxt : Nat} {st : RS} {K : RS → Prop} {rs : List RO} {tm tm' : Nat → DV} {ob : Obs} {td : List (List T)} {dst : Option Nat}
theorem goOn_mk (ok : Prop) (v : DV) (p : Option (Nat × Ob)) : goOn Γ nxt rs tm ob td K dst ⟨ok, v, p⟩ = (ok ∧ exec Γ nxt rs ⟨updT tm dst v, putO ob p, td⟩ K) := rfl
theorem goOn4_mk (ok : Prop) (v : DV) (ob' : Obs) (td' : List (List T)) : goOn4 Γ nxt rs tm K dst ⟨ok, v, ob', td'⟩ = (ok ∧ exec Γ nxt rs ⟨updT tm dst v, ob', td'⟩ K) := rfl
theorem goOn_bad : goOn Γ nxt rs tm ob td K dst bad = False := by simp [goOn, bad]
theorem goD_plain {d : DOp} (h : is4 d = false) : goD Γ nxt d rs tm ob td K dst tm' = goOn Γ nxt rs tm' ob td K dst (sem Γ d (nameOf nxt dst) tm ob) := by simp [goD, h]
theorem goD_callS (f : FuncId) (args : List Opd) : goD Γ nxt (.callS f args) rs tm ob td K dst tm' = goOn4 Γ nxt rs tm' K dst (semS Γ (.callS f args) tm ob td) := by simp [goD, is4]
theorem goD_callv (x : Opd) (args : List Opd) : goD Γ nxt (.callv x args) rs tm ob td K dst tm' = goOn4 Γ nxt rs tm' K dst (semS Γ (.callv x args) tm ob td) := by simp [goD, is4]
theorem guardE_bool (d : DOp) (s : Nat) (b want : Bool) : guardE Γ nxt d rs tm ob td K dst s want (.v (.bool b)) = ((b = want → goD Γ nxt d rs tm ob td K dst (updT tm (some s) (.v (.bool want)))) ∧
      (b = !want → exec Γ nxt rs ⟨updT (updT tm (some s) (.v (.bool (!want)))) dst .skip, ob, td⟩ K)) := rfl
theorem exec_nil : exec Γ nxt [] st K = K st := rfl
theorem goD_post {d : DOp} {g : Option (Nat × Bool)} {af : List Nat} {l : Option (List Nat)} : ((post Γ nxt ⟨d, dst, g, af, l⟩ ⟨tm, ob, td⟩).ok ∧ exec Γ nxt rs ⟨updT tm' dst (post Γ nxt ⟨d, dst, g, af, l⟩ ⟨tm, ob, td⟩).val, (post Γ nxt ⟨d, dst, g, af, l⟩ ⟨tm, ob, td⟩).objs, (post Γ nxt ⟨d, dst, g, af, l⟩ ⟨tm, ob, td⟩).todo⟩ K) = goD Γ nxt d rs tm ob td K dst tm' := by
  unfold post goD
  cases h : is4 d <;> simp [goOn, goOn4, eff]
theorem exec_plain (d : DOp) (af : List Nat) : exec Γ nxt (⟨d, dst, none, af, none⟩ :: rs) ⟨tm, ob, td⟩ K = goD Γ nxt d rs tm ob td K dst tm := by
  simp only [exec, touchOk, true_and]
  exact goD_post
theorem exec_touch (d : DOp) (af : List Nat) (l : List Nat) :
    exec Γ nxt (⟨d, dst, none, af, some l⟩ :: rs) ⟨tm, ob, td⟩ K = (touchOk ⟨d, dst, none, af, some l⟩ tm ∧ goD Γ nxt d rs tm ob td K dst tm) := by
  simp only [exec]
  rw [goD_post]
@[simp low] theorem exec_guard (d : DOp) (s : Nat) (want : Bool) (af : List Nat) :
    exec Γ nxt (⟨d, dst, some (s, want), af, none⟩ :: rs) ⟨tm, ob, td⟩ K = guardE Γ nxt d rs tm ob td K dst s want (tm s) := by
  simp only [exec, guardE, touchOk, true_and]
  rw [goD_post]
end

section
variable {Γ : Env} {nxt : Nat} {K : RS → Prop} {rs : List RO} {tm : Nat → DV} {ob : Obs} {td : List (List T)} {dst : Option Nat} {d : DOp} {s : Nat} {af : List Nat}
@[simp] theorem exec_g_tt (h : tm s = .v (.bool true)) : exec Γ nxt (⟨d, dst, some (s, true), af, none⟩ :: rs) ⟨tm, ob, td⟩ K = goD Γ nxt d rs tm ob td K dst tm := by
  rw [exec_guard, h, guardE_bool, updT_self h]; simp
@[simp] theorem exec_g_ff (h : tm s = .v (.bool false)) : exec Γ nxt (⟨d, dst, some (s, false), af, none⟩ :: rs) ⟨tm, ob, td⟩ K = goD Γ nxt d rs tm ob td K dst tm := by
  rw [exec_guard, h, guardE_bool, updT_self h]; simp
@[simp] theorem exec_g_tf (h : tm s = .v (.bool true)) : exec Γ nxt (⟨d, dst, some (s, false), af, none⟩ :: rs) ⟨tm, ob, td⟩ K = exec Γ nxt rs ⟨updT tm dst .skip, ob, td⟩ K := by
  rw [exec_guard, h, guardE_bool]; simp [updT_self h]
@[simp] theorem exec_g_ft (h : tm s = .v (.bool false)) : exec Γ nxt (⟨d, dst, some (s, true), af, none⟩ :: rs) ⟨tm, ob, td⟩ K = exec Γ nxt rs ⟨updT tm dst .skip, ob, td⟩ K := by
  rw [exec_guard, h, guardE_bool]; simp [updT_self h]
@[simp] theorem exec_g_sk {want : Bool} (h : tm s = .skip) : exec Γ nxt (⟨d, dst, some (s, want), af, none⟩ :: rs) ⟨tm, ob, td⟩ K = exec Γ nxt rs ⟨updT tm dst .skip, ob, td⟩ K := by
  rw [exec_guard, h]; rfl
end

/-- Slots in normal form. -/
def look : List (Nat × DV) → Nat → DV
  | [], _ => .undef
  | (j, v) :: l, k => if k = j then v else look l k
/-- Objects in normal form. -/
def obs : List (Nat × Ob) → Nat → Option Ob
  | [], _ => none
  | (j, o) :: l, k => if k = j then some o else obs l k

theorem updT_app (f : Nat → DV) (k : Nat) (v : DV) (x : Nat) : updT f (some k) v x = if x = k then v else f x := rfl
theorem updT_none (f : Nat → DV) (v : DV) : updT f none v = f := rfl
theorem putO_none (f : Obs) : putO f none = f := rfl
theorem putO_some (f : Obs) (r : Nat) (o : Ob) (x : Nat) : putO f (some (r, o)) x = if x = r then some o else f x := rfl
theorem look_cons (j : Nat) (v : DV) (l : List (Nat × DV)) (k : Nat) : look ((j, v) :: l) k = if k = j then v else look l k := rfl
theorem look_nil (k : Nat) : look [] k = .undef := rfl
theorem obs_cons (j : Nat) (o : Ob) (l : List (Nat × Ob)) (k : Nat) : obs ((j, o) :: l) k = if k = j then some o else obs l k := rfl
theorem obs_nil (k : Nat) : obs [] k = none := rfl
theorem putO_obs (l : List (Nat × Ob)) (r : Nat) (o : Ob) : putO (obs l) (some (r, o)) = obs ((r, o) :: l) := rfl

/-- The slots ks alone are kept. -/
def keepT (ks : List Nat) (tm : Nat → DV) : List (Nat × DV) := ks.map fun k => (k, tm k)
theorem keepT_cons (k : Nat) (ks : List Nat) (tm : Nat → DV) : keepT (k :: ks) tm = (k, tm k) :: keepT ks tm := rfl
theorem keepT_nil (tm : Nat → DV) : keepT [] tm = [] := rfl

theorem look_keepT (tm : Nat → DV) : ∀ (ks : List Nat) (k : Nat), look (keepT ks tm) k = .undef ∨ look (keepT ks tm) k = tm k
  | [], _ => .inl rfl
  | j :: ks, k => by
    rw [keepT_cons, look_cons]
    split
    · rename_i h; exact .inr (by rw [h])
    · exact look_keepT tm ks k

/-- Fewer slots say less. -/
theorem Le.slots {st : DSt} {tm : Nat → DV} (h : ∀ k, tm k = .undef ∨ tm k = st.tmps k) : Le st ⟨tm, st.objs, st.nxt, st.low, st.todo⟩ := fun κ nt a w L r =>
  ⟨L, ⟨by
    obtain ⟨W, base, M, w0, hat, h0⟩ := r.r.ex
    exact ⟨W, base, M, w0, hat, h0.size, fun t => by
      rcases h t with e | e
      · show RelD w W st.objs L (tm t) _; rw [e]; simp [RelD]
      · show RelD w W st.objs L (tm t) _; rw [e]; exact h0.tmps t, h0.o⟩, r.r.adv, r.r.defers, r.r.bg, r.r.fin⟩, r.fresh, r.low, r.it⟩

theorem initSt_le (ts : List T) : Le (initSt ts) ⟨look ((ts.map .v).zipIdx.map fun p => (p.2, p.1)), obs [], 1000, 1000, []⟩ := by
  have key : ∀ (ts : List T) (i k : Nat), look (((ts.map .v).zipIdx i).map fun p => (p.2, p.1)) k = .undef ∨ look (((ts.map .v).zipIdx i).map fun p => (p.2, p.1)) k = argD (if i ≤ k then ts[k - i]? else none) := by
    intro ts
    induction ts with
    | nil => intro i k; exact .inl rfl
    | cons t ts ih =>
      intro i k
      simp only [List.map_cons, List.zipIdx_cons, look_cons]
      split
      · rename_i h; subst h; exact .inr (by simp [argD])
      · rename_i h
        rcases ih (i + 1) k with e | e
        · exact .inl e
        · right
          rw [e]
          by_cases hk : i + 1 ≤ k
          · rw [if_pos hk, if_pos (by omega), show k - i = (k - (i + 1)) + 1 by omega, List.getElem?_cons_succ]
          · have : ¬ i ≤ k := by omega
            rw [if_neg hk, if_neg this]
  refine Le.trans (Le.slots (st := initSt ts) (tm := look ((ts.map .v).zipIdx.map fun p => (p.2, p.1))) fun k => ?_) (fun κ nt a w L r => ⟨L, r⟩)
  have := key ts 0 k
  simpa [initSt] using this

section
variable {P : Program} {nt : Nat} {Γ : Env} {Q : Exit → DSt → Prop} {st : DSt} {tm : Nat → DV} {ob : Obs} {nxt low : Nat} {td : List (List T)}

/-- A region, and then only the slots ks. -/
theorem SatD.reg (hΓ : EnvOk P Γ) (hm : P.follows .mixedOrders = true) {draw : Bool} {rs : List RO} (ks : List Nat)
    (h : exec Γ nxt rs ⟨tm, ob, td⟩ fun s => Q .normal ⟨look (keepT ks s.tmps), s.objs, nxt + nt + 1, low, s.todo⟩) : SatD P nt (.region draw rs) Q ⟨tm, ob, nxt, low, td⟩ := by
  have := exec_sound _ _ _ h
  refine SatD.mono_le (Q := fun e s => e = .normal ∧ s = ⟨(runSt Γ nxt rs ⟨tm, ob, td⟩).tmps, (runSt Γ nxt rs ⟨tm, ob, td⟩).objs, nxt + nt + 1, low, (runSt Γ nxt rs ⟨tm, ob, td⟩).todo⟩) (SatD.region hΓ hm (st := ⟨tm, ob, nxt, low, td⟩) this.1 ⟨rfl, rfl⟩) ?_
  rintro e s ⟨rfl, rfl⟩
  exact ⟨_, Le.slots (look_keepT _ ks), this.2⟩
/-- A region, and then the rest of a sequence. -/
theorem SatD.regSeq (hΓ : EnvOk P Γ) (hm : P.follows .mixedOrders = true) {draw : Bool} {rs : List RO} {b : DC} (ks : List Nat)
    (h : exec Γ nxt rs ⟨tm, ob, td⟩ fun s => SatD P nt b Q ⟨look (keepT ks s.tmps), s.objs, nxt + nt + 1, low, s.todo⟩) : SatD P nt (.seq (.region draw rs) b) Q ⟨tm, ob, nxt, low, td⟩ :=
  SatD.seq (SatD.reg hΓ hm ks h)
/-- The same of a region told with words on what its operations touch, and on which calls may write. -/
theorem SatD.regA (hΓ : EnvOk P Γ) (hm : P.follows .mixedOrders = true) {d : DC} {rs : List RO} (hd : d = .regionT (rs.map bare) ∨ ∃ draw, d = .region draw (rs.map bare)) (hok : regionOk nt true rs = true) (ks : List Nat)
    (h : exec Γ nxt rs ⟨tm, ob, td⟩ fun s => Q .normal ⟨look (keepT ks s.tmps), s.objs, nxt + nt + 1, low, s.todo⟩) : SatD P nt d Q ⟨tm, ob, nxt, low, td⟩ := by
  have := exec_sound _ _ _ h
  refine SatD.mono_le (Q := fun e s => e = .normal ∧ s = ⟨(runSt Γ nxt rs ⟨tm, ob, td⟩).tmps, (runSt Γ nxt rs ⟨tm, ob, td⟩).objs, nxt + nt + 1, low, (runSt Γ nxt rs ⟨tm, ob, td⟩).todo⟩) (SatD.regionA hΓ hm hd hok (st := ⟨tm, ob, nxt, low, td⟩) this.1 ⟨rfl, rfl⟩) ?_
  rintro e s ⟨rfl, rfl⟩
  exact ⟨_, Le.slots (look_keepT _ ks), this.2⟩
theorem SatD.regASeq (hΓ : EnvOk P Γ) (hm : P.follows .mixedOrders = true) {d b : DC} {rs : List RO} (hd : d = .regionT (rs.map bare) ∨ ∃ draw, d = .region draw (rs.map bare)) (hok : regionOk nt true rs = true) (ks : List Nat)
    (h : exec Γ nxt rs ⟨tm, ob, td⟩ fun s => SatD P nt b Q ⟨look (keepT ks s.tmps), s.objs, nxt + nt + 1, low, s.todo⟩) : SatD P nt (.seq d b) Q ⟨tm, ob, nxt, low, td⟩ :=
  SatD.seq (SatD.regA hΓ hm hd hok ks h)
end

theorem initSt_sat {P : Program} {nt : Nat} {d : DC} {Q : Exit → DSt → Prop} {ts : List T} (h : SatD P nt d Q ⟨look ((ts.map .v).zipIdx.map fun p => (p.2, p.1)), obs [], 1000, 1000, []⟩) : SatD P nt d Q (initSt ts) := SatD.le (initSt_le ts) h

section
variable {Γ : Env} {nxt : Nat} {K : RS → Prop} {rs : List RO} {tm tm' : Nat → DV} {ob : Obs} {td : List (List T)} {dst : Option Nat}
@[simp] theorem goD_mov (x : Opd) : goD Γ nxt (.mov x) rs tm ob td K dst tm' = goOn Γ nxt rs tm' ob td K dst (sem Γ (.mov x) (nameOf nxt dst) tm ob) := rfl
@[simp] theorem goD_pick (c a b : Opd) : goD Γ nxt (.pick c a b) rs tm ob td K dst tm' = goOn Γ nxt rs tm' ob td K dst (sem Γ (.pick c a b) (nameOf nxt dst) tm ob) := rfl
@[simp] theorem goD_alloc (zero : List DV) : goD Γ nxt (.alloc zero) rs tm ob td K dst tm' = goOn Γ nxt rs tm' ob td K dst (sem Γ (.alloc zero) (nameOf nxt dst) tm ob) := rfl
@[simp] theorem goD_box (x : Opd) : goD Γ nxt (.box x) rs tm ob td K dst tm' = goOn Γ nxt rs tm' ob td K dst (sem Γ (.box x) (nameOf nxt dst) tm ob) := rfl
@[simp] theorem goD_build (zero : List DV) (parts : List (Nat × Nat × Opd)) : goD Γ nxt (.build zero parts) rs tm ob td K dst tm' = goOn Γ nxt rs tm' ob td K dst (sem Γ (.build zero parts) (nameOf nxt dst) tm ob) := rfl
@[simp] theorem goD_bslice (len sz : Nat) (zero : List DV) (parts : List (Nat × Nat × Opd)) : goD Γ nxt (.bslice len sz zero parts) rs tm ob td K dst tm' = goOn Γ nxt rs tm' ob td K dst (sem Γ (.bslice len sz zero parts) (nameOf nxt dst) tm ob) := rfl
@[simp] theorem goD_load (n : Nat) (agg : Bool) (x : Opd) : goD Γ nxt (.load n agg x) rs tm ob td K dst tm' = goOn Γ nxt rs tm' ob td K dst (sem Γ (.load n agg x) (nameOf nxt dst) tm ob) := rfl
@[simp] theorem goD_store (n : Nat) (x y : Opd) : goD Γ nxt (.store n x y) rs tm ob td K dst tm' = goOn Γ nxt rs tm' ob td K dst (sem Γ (.store n x y) (nameOf nxt dst) tm ob) := rfl
@[simp] theorem goD_bin (op : BinOp) (x y : Opd) : goD Γ nxt (.bin op x y) rs tm ob td K dst tm' = goOn Γ nxt rs tm' ob td K dst (sem Γ (.bin op x y) (nameOf nxt dst) tm ob) := rfl
@[simp] theorem goD_eqT (neg agg : Bool) (shs : List Sh) (x y : Opd) : goD Γ nxt (.eqT neg agg shs x y) rs tm ob td K dst tm' = goOn Γ nxt rs tm' ob td K dst (sem Γ (.eqT neg agg shs x y) (nameOf nxt dst) tm ob) := rfl
@[simp] theorem goD_un (op : UnOp) (x : Opd) : goD Γ nxt (.un op x) rs tm ob td K dst tm' = goOn Γ nxt rs tm' ob td K dst (sem Γ (.un op x) (nameOf nxt dst) tm ob) := rfl
@[simp] theorem goD_conv (k : IntKind) (x : Opd) : goD Γ nxt (.conv k x) rs tm ob td K dst tm' = goOn Γ nxt rs tm' ob td K dst (sem Γ (.conv k x) (nameOf nxt dst) tm ob) := rfl
@[simp] theorem goD_addOff (k : Nat) (x : Opd) : goD Γ nxt (.addOff k x) rs tm ob td K dst tm' = goOn Γ nxt rs tm' ob td K dst (sem Γ (.addOff k x) (nameOf nxt dst) tm ob) := rfl
@[simp] theorem goD_nilCheck (x : Opd) : goD Γ nxt (.nilCheck x) rs tm ob td K dst tm' = goOn Γ nxt rs tm' ob td K dst (sem Γ (.nilCheck x) (nameOf nxt dst) tm ob) := rfl
@[simp] theorem goD_idxAddr (sz : Nat) (x i : Opd) : goD Γ nxt (.idxAddr sz x i) rs tm ob td K dst tm' = goOn Γ nxt rs tm' ob td K dst (sem Γ (.idxAddr sz x i) (nameOf nxt dst) tm ob) := rfl
@[simp] theorem goD_arrAddr (len sz : Nat) (x i : Opd) : goD Γ nxt (.arrAddr len sz x i) rs tm ob td K dst tm' = goOn Γ nxt rs tm' ob td K dst (sem Γ (.arrAddr len sz x i) (nameOf nxt dst) tm ob) := rfl
@[simp] theorem goD_field (off n : Nat) (agg : Bool) (x : Opd) : goD Γ nxt (.field off n agg x) rs tm ob td K dst tm' = goOn Γ nxt rs tm' ob td K dst (sem Γ (.field off n agg x) (nameOf nxt dst) tm ob) := rfl
@[simp] theorem goD_slice (sz : Nat) (x : Opd) (lo hi : Option Opd) : goD Γ nxt (.slice sz x lo hi) rs tm ob td K dst tm' = goOn Γ nxt rs tm' ob td K dst (sem Γ (.slice sz x lo hi) (nameOf nxt dst) tm ob) := rfl
@[simp] theorem goD_extract (i : Nat) (x : Opd) : goD Γ nxt (.extract i x) rs tm ob td K dst tm' = goOn Γ nxt rs tm' ob td K dst (sem Γ (.extract i x) (nameOf nxt dst) tm ob) := rfl
@[simp] theorem goD_call (f : FuncId) (args : List Opd) : goD Γ nxt (.call f args) rs tm ob td K dst tm' = goOn Γ nxt rs tm' ob td K dst (sem Γ (.call f args) (nameOf nxt dst) tm ob) := rfl
@[simp] theorem goD_len (x : Opd) : goD Γ nxt (.len x) rs tm ob td K dst tm' = goOn Γ nxt rs tm' ob td K dst (sem Γ (.len x) (nameOf nxt dst) tm ob) := rfl
@[simp] theorem goD_lenS (x : Opd) : goD Γ nxt (.lenS x) rs tm ob td K dst tm' = goOn Γ nxt rs tm' ob td K dst (sem Γ (.lenS x) (nameOf nxt dst) tm ob) := rfl
@[simp] theorem goD_minmax (isMax : Bool) (x y : Opd) : goD Γ nxt (.minmax isMax x y) rs tm ob td K dst tm' = goOn Γ nxt rs tm' ob td K dst (sem Γ (.minmax isMax x y) (nameOf nxt dst) tm ob) := rfl
@[simp] theorem goD_append (e sz bytes : Nat) (x y : Opd) : goD Γ nxt (.append e sz bytes x y) rs tm ob td K dst tm' = goOn Γ nxt rs tm' ob td K dst (sem Γ (.append e sz bytes x y) (nameOf nxt dst) tm ob) := rfl
@[simp] theorem goD_mkSlice (e sz bytes : Nat) (zero : List T) (n : Opd) : goD Γ nxt (.mkSlice e sz bytes zero n) rs tm ob td K dst tm' = goOn Γ nxt rs tm' ob td K dst (sem Γ (.mkSlice e sz bytes zero n) (nameOf nxt dst) tm ob) := rfl
@[simp] theorem goD_mkFn (f : Fn) (caps : List Opd) : goD Γ nxt (.mkFn f caps) rs tm ob td K dst tm' = goOn Γ nxt rs tm' ob td K dst (sem Γ (.mkFn f caps) (nameOf nxt dst) tm ob) := rfl
end
attribute [simp] putO_some goOn_mk goOn4_mk goOn_bad goD_callS goD_callv semS guardE_bool exec_nil exec_plain exec_touch updT_app updT_none putO_none putO_obs look_cons look_nil obs_cons obs_nil keepT_cons keepT_nil
attribute [simp] sem Opd.ev loadSem storeSem binSem eqSem unSem addOffSem nilCheckSem idxSem arrAddrSem fieldSem aggCells intOf? loOf hiOf sliceSem extractSem lenSem lenSSem minmaxSem srcRows appendSem makeSem callSem
attribute [simp] finQ finS RetOk RetOkS retOks retTs DRes.eff boxable cellsOf cellables cellable pureCell pureCells splice fillD fillOk tOf tOfs tOk tOks nameOf leafT fitsT shOk eqTB eqTBs thenQ blockQ

theorem wrap_id {x : Int} (h : -9223372036854775808 ≤ x ∧ x ≤ 9223372036854775807) : IntKind.i64.wrap x = x := by
  simp [IntKind.wrap, IntKind.bits, IntKind.signed]
  omega
theorem tdiv2 {x : Int} (h : 0 ≤ x) : x.tdiv 2 = x / 2 := Int.tdiv_eq_ediv_of_nonneg h
theorem tmod2 {x : Int} (h : 0 ≤ x) : x.tmod 2 = x % 2 := Int.tmod_eq_emod_of_nonneg h
end Go.DM
