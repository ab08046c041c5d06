/- The D-machine, part P: a region told as one proposition that 'simp' works off; states in normal form. Conditions: none. -/
import Derived.Test.YtlimlhidndflhaaDoorMd
import Derived.RangeFuncRecord
import Derived.RangeFuncNested
namespace Go.DM
open Go.RowKit
set_option linter.unusedSimpArgs false
set_option linter.unusedVariables false
set_option linter.unusedSectionVars false
variable [Laid]

/-- A region's operations in the order of the text; then K. -/
def exec (Γ : Env) (nxt : Nat) : List RO → RS → (RS → Prop) → Prop
  | [], st, K => K st
  | r :: rs, st, K =>
    match r.guard with
    | none => touchOk r st.tmps ∧ (post Γ nxt r st).ok ∧ exec Γ nxt rs ⟨updT st.tmps r.dst (post Γ nxt r st).val, (post Γ nxt r st).objs, (post Γ nxt r st).todo⟩ K
    | some (s, want) =>
      match st.tmps s with
      | .v (.bool b) => (b = want → touchOk r st.tmps ∧ (post Γ nxt r st).ok ∧ exec Γ nxt rs ⟨updT (updT st.tmps (some s) (.v (.bool want))) r.dst (post Γ nxt r st).val, (post Γ nxt r st).objs, (post Γ nxt r st).todo⟩ K) ∧
          (b = !want → exec Γ nxt rs ⟨updT (updT st.tmps (some s) (.v (.bool (!want)))) r.dst .skip, st.objs, st.todo⟩ K)
      | .skip => exec Γ nxt rs ⟨updT st.tmps r.dst .skip, st.objs, st.todo⟩ K
      | _ => False

theorem updT_self {ρ : Nat → DV} {s : Nat} {v : DV} (h : ρ s = v) : updT ρ (some s) v = ρ := by
  funext x
  simp only [updT]
  split
  · rename_i e; rw [e, h]
  · rfl

theorem exec_sound {Γ : Env} {nxt : Nat} : ∀ (rs : List RO) (st : RS) (K : RS → Prop), exec Γ nxt rs st K → runOk Γ nxt rs st ∧ K (runSt Γ nxt rs st)
  | [], st, K, h => ⟨trivial, h⟩
  | r :: rs, st, K, h => by
    simp only [exec] at h
    simp only [runOk, runSt]
    have yes : wantD r.guard st.tmps = some true → (touchOk r st.tmps ∧ (post Γ nxt r st).ok ∧ exec Γ nxt rs ⟨updT st.tmps r.dst (post Γ nxt r st).val, (post Γ nxt r st).objs, (post Γ nxt r st).todo⟩ K) → (stepOk Γ nxt r st ∧ runOk Γ nxt rs (stepSt Γ nxt r st)) ∧ K (runSt Γ nxt rs (stepSt Γ nxt r st)) := by
      rintro hw ⟨ht, hok, hk⟩
      have e1 : stepSt Γ nxt r st = ⟨updT st.tmps r.dst (post Γ nxt r st).val, (post Γ nxt r st).objs, (post Γ nxt r st).todo⟩ := by simp only [stepSt, hw]
      have e2 : stepOk Γ nxt r st := by simp only [stepOk, hw]; exact ⟨hok, ht⟩
      rw [e1]
      have := exec_sound rs _ K hk
      exact ⟨⟨e2, this.1⟩, this.2⟩
    have no : wantD r.guard st.tmps = some false → exec Γ nxt rs ⟨updT st.tmps r.dst .skip, st.objs, st.todo⟩ K → (stepOk Γ nxt r st ∧ runOk Γ nxt rs (stepSt Γ nxt r st)) ∧ K (runSt Γ nxt rs (stepSt Γ nxt r st)) := by
      rintro hw hk
      have e1 : stepSt Γ nxt r st = ⟨updT st.tmps r.dst .skip, st.objs, st.todo⟩ := by simp only [stepSt, hw]
      have e2 : stepOk Γ nxt r st := by simp only [stepOk, hw]
      rw [e1]
      have := exec_sound rs _ K hk
      exact ⟨⟨e2, this.1⟩, this.2⟩
    cases hg : r.guard with
    | none => rw [hg] at h; exact yes (by simp [wantD, hg]) h
    | some g =>
      obtain ⟨s, want⟩ := g
      rw [hg] at h
      simp only at h
      cases hs : st.tmps s with
      | skip => rw [hs] at h; exact no (by simp [wantD, hg, hs]) h
      | v t =>
        rw [hs] at h
        cases t with
        | bool b =>
          simp only at h
          by_cases hb : b = want
          · subst hb
            rw [updT_self hs] at h
            exact yes (by simp [wantD, hg, hs]) (h.1 rfl)
          · have hb' : b = !want := by cases b <;> cases want <;> simp_all
            subst hb'
            rw [updT_self hs] at h
            exact no (by simp [wantD, hg, hs]) (h.2 rfl)
        | _ => exact h.elim
      | _ => rw [hs] at h; exact h.elim

/-- Going on with an effect. -/
def goOn (Γ : Env) (nxt : Nat) (rs : List RO) (tm : Nat → DV) (ob : Obs) (td : List (List T)) (K : RS → Prop) (dst : Option Nat) (e : Eff) : Prop :=
  e.ok ∧ exec Γ nxt rs ⟨updT tm dst e.val, putO ob e.put, td⟩ K
/-- The same of an effect that is told whole. -/
def goOn4 (Γ : Env) (nxt : Nat) (rs : List RO) (tm : Nat → DV) (K : RS → Prop) (dst : Option Nat) (e : SEff) : Prop :=
  e.ok ∧ exec Γ nxt rs ⟨updT tm dst e.val, e.objs, e.todo⟩ K
def goD (Γ : Env) (nxt : Nat) (d : DOp) (rs : List RO) (tm : Nat → DV) (ob : Obs) (td : List (List T)) (K : RS → Prop) (dst : Option Nat) (tm' : Nat → DV) : Prop :=
  if is4 d then goOn4 Γ nxt rs tm' K dst (semS Γ d tm ob td) else goOn Γ nxt rs tm' ob td K dst (sem Γ d (nameOf nxt dst) tm ob)
/-- What a guard says. -/
def guardE (Γ : Env) (nxt : Nat) (d : DOp) (rs : List RO) (tm : Nat → DV) (ob : Obs) (td : List (List T)) (K : RS → Prop) (dst : Option Nat) (s : Nat) (want : Bool) (g : DV) : Prop :=
  match g with
  | .v (.bool b) => (b = want → goD Γ nxt d rs tm ob td K dst (updT tm (some s) (.v (.bool want)))) ∧
      (b = !want → exec Γ nxt rs ⟨updT (updT tm (some s) (.v (.bool (!want)))) dst .skip, ob, td⟩ K)
  | .skip => exec Γ nxt rs ⟨updT tm dst .skip, ob, td⟩ K
  | _ => False

section
variable {Γ : Env} {nxt : Nat} {st : RS} {K : RS → Prop} {rs : List RO} {tm tm' : Nat → DV} {ob : Obs} {td : List (List T)} {dst : Option Nat}
theorem goOn_mk (ok : Prop) (v : DV) (p : Option (Nat × Ob)) : goOn Γ nxt rs tm ob td K dst ⟨ok, v, p⟩ = (ok ∧ exec Γ nxt rs ⟨updT tm dst v, putO ob p, td⟩ K) := rfl
theorem goOn4_mk (ok : Prop) (v : DV) (ob' : Obs) (td' : List (List T)) : goOn4 Γ nxt rs tm K dst ⟨ok, v, ob', td'⟩ = (ok ∧ exec Γ nxt rs ⟨updT tm dst v, ob', td'⟩ K) := rfl
theorem goOn_bad : goOn Γ nxt rs tm ob td K dst bad = False := by simp [goOn, bad]
theorem goD_callS (f : FuncId) (args : List Opd) : goD Γ nxt (.callS f args) rs tm ob td K dst tm' = goOn4 Γ nxt rs tm' K dst (semS Γ (.callS f args) tm ob td) := by simp [goD, is4]
theorem goD_callv (x : Opd) (args : List Opd) : goD Γ nxt (.callv x args) rs tm ob td K dst tm' = goOn4 Γ nxt rs tm' K dst (semS Γ (.callv x args) tm ob td) := by simp [goD, is4]
theorem guardE_bool (d : DOp) (s : Nat) (b want : Bool) : guardE Γ nxt d rs tm ob td K dst s want (.v (.bool b)) = ((b = want → goD Γ nxt d rs tm ob td K dst (updT tm (some s) (.v (.bool want)))) ∧
      (b = !want → exec Γ nxt rs ⟨updT (updT tm (some s) (.v (.bool (!want)))) dst .skip, ob, td⟩ K)) := rfl
theorem exec_nil : exec Γ nxt [] st K = K st := rfl
theorem goD_post {d : DOp} {g : Option (Nat × Bool)} {af : List Nat} {l : Option (List Nat)} : ((post Γ nxt ⟨d, dst, g, af, l⟩ ⟨tm, ob, td⟩).ok ∧ exec Γ nxt rs ⟨updT tm' dst (post Γ nxt ⟨d, dst, g, af, l⟩ ⟨tm, ob, td⟩).val, (post Γ nxt ⟨d, dst, g, af, l⟩ ⟨tm, ob, td⟩).objs, (post Γ nxt ⟨d, dst, g, af, l⟩ ⟨tm, ob, td⟩).todo⟩ K) = goD Γ nxt d rs tm ob td K dst tm' := by
  unfold post goD
  cases h : is4 d <;> simp [goOn, goOn4, eff]
theorem exec_plain (d : DOp) (af : List Nat) : exec Γ nxt (⟨d, dst, none, af, none⟩ :: rs) ⟨tm, ob, td⟩ K = goD Γ nxt d rs tm ob td K dst tm := by
  simp only [exec, touchOk, true_and]
  exact goD_post
theorem exec_touch (d : DOp) (af : List Nat) (l : List Nat) :
    exec Γ nxt (⟨d, dst, none, af, some l⟩ :: rs) ⟨tm, ob, td⟩ K = (touchOk ⟨d, dst, none, af, some l⟩ tm ∧ goD Γ nxt d rs tm ob td K dst tm) := by
  simp only [exec]
  rw [goD_post]
@[simp low] theorem exec_guard (d : DOp) (s : Nat) (want : Bool) (af : List Nat) :
    exec Γ nxt (⟨d, dst, some (s, want), af, none⟩ :: rs) ⟨tm, ob, td⟩ K = guardE Γ nxt d rs tm ob td K dst s want (tm s) := by
  simp only [exec, guardE, touchOk, true_and]
  rw [goD_post]
end

section
variable {Γ : Env} {nxt : Nat} {K : RS → Prop} {rs : List RO} {tm : Nat → DV} {ob : Obs} {td : List (List T)} {dst : Option Nat} {d : DOp} {s : Nat} {af : List Nat}
@[simp] theorem exec_g_tt (h : tm s = .v (.bool true)) : exec Γ nxt (⟨d, dst, some (s, true), af, none⟩ :: rs) ⟨tm, ob, td⟩ K = goD Γ nxt d rs tm ob td K dst tm := by
  rw [exec_guard, h, guardE_bool, updT_self h]; simp
@[simp] theorem exec_g_ff (h : tm s = .v (.bool false)) : exec Γ nxt (⟨d, dst, some (s, false), af, none⟩ :: rs) ⟨tm, ob, td⟩ K = goD Γ nxt d rs tm ob td K dst tm := by
  rw [exec_guard, h, guardE_bool, updT_self h]; simp
@[simp] theorem exec_g_tf (h : tm s = .v (.bool true)) : exec Γ nxt (⟨d, dst, some (s, false), af, none⟩ :: rs) ⟨tm, ob, td⟩ K = exec Γ nxt rs ⟨updT tm dst .skip, ob, td⟩ K := by
  rw [exec_guard, h, guardE_bool]; simp [updT_self h]
@[simp] theorem exec_g_ft (h : tm s = .v (.bool false)) : exec Γ nxt (⟨d, dst, some (s, true), af, none⟩ :: rs) ⟨tm, ob, td⟩ K = exec Γ nxt rs ⟨updT tm dst .skip, ob, td⟩ K := by
  rw [exec_guard, h, guardE_bool]; simp [updT_self h]
@[simp] theorem exec_g_sk {want : Bool} (h : tm s = .skip) : exec Γ nxt (⟨d, dst, some (s, want), af, none⟩ :: rs) ⟨tm, ob, td⟩ K = exec Γ nxt rs ⟨updT tm dst .skip, ob, td⟩ K := by
  rw [exec_guard, h]; rfl
end

/-- Slots in normal form. -/
def look : List (Nat × DV) → Nat → DV
  | [], _ => .undef
  | (j, v) :: l, k => if k = j then v else look l k
/-- Objects in normal form. -/
def obs : List (Nat × Ob) → Nat → Option Ob
  | [], _ => none
  | (j, o) :: l, k => if k = j then some o else obs l k

theorem updT_app (f : Nat → DV) (k : Nat) (v : DV) (x : Nat) : updT f (some k) v x = if x = k then v else f x := rfl
theorem updT_none (f : Nat → DV) (v : DV) : updT f none v = f := rfl
theorem putO_none (f : Obs) : putO f none = f := rfl
theorem putO_some (f : Obs) (r : Nat) (o : Ob) (x : Nat) : putO f (some (r, o)) x = if x = r then some o else f x := rfl
theorem look_cons (j : Nat) (v : DV) (l : List (Nat × DV)) (k : Nat) : look ((j, v) :: l) k = if k = j then v else look l k := rfl
theorem look_nil (k : Nat) : look [] k = .undef := rfl
theorem obs_cons (j : Nat) (o : Ob) (l : List (Nat × Ob)) (k : Nat) : obs ((j, o) :: l) k = if k = j then some o else obs l k := rfl
theorem obs_nil (k : Nat) : obs [] k = none := rfl
theorem putO_obs (l : List (Nat × Ob)) (r : Nat) (o : Ob) : putO (obs l) (some (r, o)) = obs ((r, o) :: l) := rfl

/-- The slots ks alone are kept. -/
def keepT (ks : List Nat) (tm : Nat → DV) : List (Nat × DV) := ks.map fun k => (k, tm k)
theorem keepT_cons (k : Nat) (ks : List Nat) (tm : Nat → DV) : keepT (k :: ks) tm = (k, tm k) :: keepT ks tm := rfl
theorem keepT_nil (tm : Nat → DV) : keepT [] tm = [] := rfl

theorem look_keepT (tm : Nat → DV) : ∀ (ks : List Nat) (k : Nat), look (keepT ks tm) k = .undef ∨ look (keepT ks tm) k = tm k
  | [], _ => .inl rfl
  | j :: ks, k => by
    rw [keepT_cons, look_cons]
    split
    · rename_i h; exact .inr (by rw [h])
    · exact look_keepT tm ks k

/-- Fewer slots say less. -/
theorem Le.slots {st : DSt} {tm : Nat → DV} (h : ∀ k, tm k = .undef ∨ tm k = st.tmps k) : Le st ⟨tm, st.objs, st.nxt, st.low, st.todo⟩ := fun κ nt a w L r =>
  ⟨L, ⟨by
    obtain ⟨W, base, M, w0, hat, h0⟩ := r.r.ex
    exact ⟨W, base, M, w0, hat, h0.size, fun t => by
      rcases h t with e | e
      · show RelD w W st.objs L (tm t) _; rw [e]; simp [RelD]
      · show RelD w W st.objs L (tm t) _; rw [e]; exact h0.tmps t, h0.o⟩, r.r.adv, r.r.defers, r.r.bg, r.r.fin⟩, r.fresh, r.low, r.it⟩

theorem initSt_le (ts : List T) : Le (initSt ts) ⟨look ((ts.map .v).zipIdx.map fun p => (p.2, p.1)), obs [], 1000, 1000, []⟩ := by
  have key : ∀ (ts : List T) (i k : Nat), look (((ts.map .v).zipIdx i).map fun p => (p.2, p.1)) k = .undef ∨ look (((ts.map .v).zipIdx i).map fun p => (p.2, p.1)) k = argD (if i ≤ k then ts[k - i]? else none) := by
    intro ts
    induction ts with
    | nil => intro i k; exact .inl rfl
    | cons t ts ih =>
      intro i k
      simp only [List.map_cons, List.zipIdx_cons, look_cons]
      split
      · rename_i h; subst h; exact .inr (by simp [argD])
      · rename_i h
        rcases ih (i + 1) k with e | e
        · exact .inl e
        · right
          rw [e]
          by_cases hk : i + 1 ≤ k
          · rw [if_pos hk, if_pos (by omega), show k - i = (k - (i + 1)) + 1 by omega, List.getElem?_cons_succ]
          · have : ¬ i ≤ k := by omega
            rw [if_neg hk, if_neg this]
  refine Le.trans (Le.slots (st := initSt ts) (tm := look ((ts.map .v).zipIdx.map fun p => (p.2, p.1))) fun k => ?_) (fun κ nt a w L r => ⟨L, r⟩)
  have := key ts 0 k
  simpa [initSt] using this

section
variable {P : Program} {nt : Nat} {Γ : Env} {Q : Exit → DSt → Prop} {st : DSt} {tm : Nat → DV} {ob : Obs} {nxt low : Nat} {td : List (List T)}

/-- A region, and then only the slots ks. -/
theorem SatD.reg (hΓ : EnvOk P Γ) (hm : P.follows .mixedOrders = true) {draw : Bool} {rs : List RO} (ks : List Nat)
    (h : exec Γ nxt rs ⟨tm, ob, td⟩ fun s => Q .normal ⟨look (keepT ks s.tmps), s.objs, nxt + nt + 1, low, s.todo⟩) : SatD P nt (.region draw rs) Q ⟨tm, ob, nxt, low, td⟩ := by
  have := exec_sound _ _ _ h
  refine SatD.mono_le (Q := fun e s => e = .normal ∧ s = ⟨(runSt Γ nxt rs ⟨tm, ob, td⟩).tmps, (runSt Γ nxt rs ⟨tm, ob, td⟩).objs, nxt + nt + 1, low, (runSt Γ nxt rs ⟨tm, ob, td⟩).todo⟩) (SatD.region hΓ hm (st := ⟨tm, ob, nxt, low, td⟩) this.1 ⟨rfl, rfl⟩) ?_
  rintro e s ⟨rfl, rfl⟩
  exact ⟨_, Le.slots (look_keepT _ ks), this.2⟩
/-- A region, and then the rest of a sequence. -/
theorem SatD.regSeq (hΓ : EnvOk P Γ) (hm : P.follows .mixedOrders = true) {draw : Bool} {rs : List RO} {b : DC} (ks : List Nat)
    (h : exec Γ nxt rs ⟨tm, ob, td⟩ fun s => SatD P nt b Q ⟨look (keepT ks s.tmps), s.objs, nxt + nt + 1, low, s.todo⟩) : SatD P nt (.seq (.region draw rs) b) Q ⟨tm, ob, nxt, low, td⟩ :=
  SatD.seq (SatD.reg hΓ hm ks h)
/-- The same of a region told with words on what its operations touch, and on which calls may write. -/
theorem SatD.regA (hΓ : EnvOk P Γ) (hm : P.follows .mixedOrders = true) {d : DC} {rs : List RO} (hd : d = .regionT (rs.map bare) ∨ ∃ draw, d = .region draw (rs.map bare)) (hok : regionOk nt true rs = true) (ks : List Nat)
    (h : exec Γ nxt rs ⟨tm, ob, td⟩ fun s => Q .normal ⟨look (keepT ks s.tmps), s.objs, nxt + nt + 1, low, s.todo⟩) : SatD P nt d Q ⟨tm, ob, nxt, low, td⟩ := by
  have := exec_sound _ _ _ h
  refine SatD.mono_le (Q := fun e s => e = .normal ∧ s = ⟨(runSt Γ nxt rs ⟨tm, ob, td⟩).tmps, (runSt Γ nxt rs ⟨tm, ob, td⟩).objs, nxt + nt + 1, low, (runSt Γ nxt rs ⟨tm, ob, td⟩).todo⟩) (SatD.regionA hΓ hm hd hok (st := ⟨tm, ob, nxt, low, td⟩) this.1 ⟨rfl, rfl⟩) ?_
  rintro e s ⟨rfl, rfl⟩
  exact ⟨_, Le.slots (look_keepT _ ks), this.2⟩
theorem SatD.regASeq (hΓ : EnvOk P Γ) (hm : P.follows .mixedOrders = true) {d b : DC} {rs : List RO} (hd : d = .regionT (rs.map bare) ∨ ∃ draw, d = .region draw (rs.map bare)) (hok : regionOk nt true rs = true) (ks : List Nat)
    (h : exec Γ nxt rs ⟨tm, ob, td⟩ fun s => SatD P nt b Q ⟨look (keepT ks s.tmps), s.objs, nxt + nt + 1, low, s.todo⟩) : SatD P nt (.seq d b) Q ⟨tm, ob, nxt, low, td⟩ :=
  SatD.seq (SatD.regA hΓ hm hd hok ks h)
end

theorem initSt_sat {P : Program} {nt : Nat} {d : DC} {Q : Exit → DSt → Prop} {ts : List T} (h : SatD P nt d Q ⟨look ((ts.map .v).zipIdx.map fun p => (p.2, p.1)), obs [], 1000, 1000, []⟩) : SatD P nt d Q (initSt ts) := SatD.le (initSt_le ts) h

section
variable {Γ : Env} {nxt : Nat} {K : RS → Prop} {rs : List RO} {tm tm' : Nat → DV} {ob : Obs} {td : List (List T)} {dst : Option Nat}
@[simp] theorem goD_mov (x : Opd) : goD Γ nxt (.mov x) rs tm ob td K dst tm' = goOn Γ nxt rs tm' ob td K dst (sem Γ (.mov x) (nameOf nxt dst) tm ob) := rfl
@[simp] theorem goD_pick (c a b : Opd) : goD Γ nxt (.pick c a b) rs tm ob td K dst tm' = goOn Γ nxt rs tm' ob td K dst (sem Γ (.pick c a b) (nameOf nxt dst) tm ob) := rfl
@[simp] theorem goD_alloc (zero : List DV) : goD Γ nxt (.alloc zero) rs tm ob td K dst tm' = goOn Γ nxt rs tm' ob td K dst (sem Γ (.alloc zero) (nameOf nxt dst) tm ob) := rfl
@[simp] theorem goD_box (x : Opd) : goD Γ nxt (.box x) rs tm ob td K dst tm' = goOn Γ nxt rs tm' ob td K dst (sem Γ (.box x) (nameOf nxt dst) tm ob) := rfl
@[simp] theorem goD_build (zero : List DV) (parts : List (Nat × Nat × Opd)) : goD Γ nxt (.build zero parts) rs tm ob td K dst tm' = goOn Γ nxt rs tm' ob td K dst (sem Γ (.build zero parts) (nameOf nxt dst) tm ob) := rfl
@[simp] theorem goD_bslice (len sz : Nat) (zero : List DV) (parts : List (Nat × Nat × Opd)) : goD Γ nxt (.bslice len sz zero parts) rs tm ob td K dst tm' = goOn Γ nxt rs tm' ob td K dst (sem Γ (.bslice len sz zero parts) (nameOf nxt dst) tm ob) := rfl
@[simp] theorem goD_load (n : Nat) (agg : Bool) (x : Opd) : goD Γ nxt (.load n agg x) rs tm ob td K dst tm' = goOn Γ nxt rs tm' ob td K dst (sem Γ (.load n agg x) (nameOf nxt dst) tm ob) := rfl
@[simp] theorem goD_store (n : Nat) (x y : Opd) : goD Γ nxt (.store n x y) rs tm ob td K dst tm' = goOn Γ nxt rs tm' ob td K dst (sem Γ (.store n x y) (nameOf nxt dst) tm ob) := rfl
@[simp] theorem goD_bin (op : BinOp) (x y : Opd) : goD Γ nxt (.bin op x y) rs tm ob td K dst tm' = goOn Γ nxt rs tm' ob td K dst (sem Γ (.bin op x y) (nameOf nxt dst) tm ob) := rfl
@[simp] theorem goD_eqT (neg agg : Bool) (shs : List Sh) (x y : Opd) : goD Γ nxt (.eqT neg agg shs x y) rs tm ob td K dst tm' = goOn Γ nxt rs tm' ob td K dst (sem Γ (.eqT neg agg shs x y) (nameOf nxt dst) tm ob) := rfl
@[simp] theorem goD_un (op : UnOp) (x : Opd) : goD Γ nxt (.un op x) rs tm ob td K dst tm' = goOn Γ nxt rs tm' ob td K dst (sem Γ (.un op x) (nameOf nxt dst) tm ob) := rfl
@[simp] theorem goD_conv (k : IntKind) (x : Opd) : goD Γ nxt (.conv k x) rs tm ob td K dst tm' = goOn Γ nxt rs tm' ob td K dst (sem Γ (.conv k x) (nameOf nxt dst) tm ob) := rfl
@[simp] theorem goD_addOff (k : Nat) (x : Opd) : goD Γ nxt (.addOff k x) rs tm ob td K dst tm' = goOn Γ nxt rs tm' ob td K dst (sem Γ (.addOff k x) (nameOf nxt dst) tm ob) := rfl
@[simp] theorem goD_nilCheck (x : Opd) : goD Γ nxt (.nilCheck x) rs tm ob td K dst tm' = goOn Γ nxt rs tm' ob td K dst (sem Γ (.nilCheck x) (nameOf nxt dst) tm ob) := rfl
@[simp] theorem goD_idxAddr (sz : Nat) (x i : Opd) : goD Γ nxt (.idxAddr sz x i) rs tm ob td K dst tm' = goOn Γ nxt rs tm' ob td K dst (sem Γ (.idxAddr sz x i) (nameOf nxt dst) tm ob) := rfl
@[simp] theorem goD_arrAddr (len sz : Nat) (x i : Opd) : goD Γ nxt (.arrAddr len sz x i) rs tm ob td K dst tm' = goOn Γ nxt rs tm' ob td K dst (sem Γ (.arrAddr len sz x i) (nameOf nxt dst) tm ob) := rfl
@[simp] theorem goD_field (off n : Nat) (agg : Bool) (x : Opd) : goD Γ nxt (.field off n agg x) rs tm ob td K dst tm' = goOn Γ nxt rs tm' ob td K dst (sem Γ (.field off n agg x) (nameOf nxt dst) tm ob) := rfl
@[simp] theorem goD_slice (sz : Nat) (x : Opd) (lo hi : Option Opd) : goD Γ nxt (.slice sz x lo hi) rs tm ob td K dst tm' = goOn Γ nxt rs tm' ob td K dst (sem Γ (.slice sz x lo hi) (nameOf nxt dst) tm ob) := rfl
@[simp] theorem goD_extract (i : Nat) (x : Opd) : goD Γ nxt (.extract i x) rs tm ob td K dst tm' = goOn Γ nxt rs tm' ob td K dst (sem Γ (.extract i x) (nameOf nxt dst) tm ob) := rfl
@[simp] theorem goD_call (f : FuncId) (args : List Opd) : goD Γ nxt (.call f args) rs tm ob td K dst tm' = goOn Γ nxt rs tm' ob td K dst (sem Γ (.call f args) (nameOf nxt dst) tm ob) := rfl
@[simp] theorem goD_len (x : Opd) : goD Γ nxt (.len x) rs tm ob td K dst tm' = goOn Γ nxt rs tm' ob td K dst (sem Γ (.len x) (nameOf nxt dst) tm ob) := rfl
@[simp] theorem goD_lenS (x : Opd) : goD Γ nxt (.lenS x) rs tm ob td K dst tm' = goOn Γ nxt rs tm' ob td K dst (sem Γ (.lenS x) (nameOf nxt dst) tm ob) := rfl
@[simp] theorem goD_minmax (isMax : Bool) (x y : Opd) : goD Γ nxt (.minmax isMax x y) rs tm ob td K dst tm' = goOn Γ nxt rs tm' ob td K dst (sem Γ (.minmax isMax x y) (nameOf nxt dst) tm ob) := rfl
@[simp] theorem goD_append (e sz bytes : Nat) (x y : Opd) : goD Γ nxt (.append e sz bytes x y) rs tm ob td K dst tm' = goOn Γ nxt rs tm' ob td K dst (sem Γ (.append e sz bytes x y) (nameOf nxt dst) tm ob) := rfl
@[simp] theorem goD_mkSlice (e sz bytes : Nat) (zero : List T) (n : Opd) : goD Γ nxt (.mkSlice e sz bytes zero n) rs tm ob td K dst tm' = goOn Γ nxt rs tm' ob td K dst (sem Γ (.mkSlice e sz bytes zero n) (nameOf nxt dst) tm ob) := rfl
@[simp] theorem goD_mkSliceB (e sz bytes : Nat) (zero : List T) (n : Opd) : goD Γ nxt (.mkSliceB e sz bytes zero n) rs tm ob td K dst tm' = goOn Γ nxt rs tm' ob td K dst (sem Γ (.mkSliceB e sz bytes zero n) (nameOf nxt dst) tm ob) := rfl
@[simp] theorem goD_mkFn (f : Fn) (caps : List Opd) : goD Γ nxt (.mkFn f caps) rs tm ob td K dst tm' = goOn Γ nxt rs tm' ob td K dst (sem Γ (.mkFn f caps) (nameOf nxt dst) tm ob) := rfl
@[simp] theorem goD_callR (f : FuncId) (args : List Opd) : goD Γ nxt (.callR f args) rs tm ob td K dst tm' = goOn Γ nxt rs tm' ob td K dst (sem Γ (.callR f args) (nameOf nxt dst) tm ob) := rfl
@[simp] theorem goD_callF (f : FuncId) (args : List Opd) : goD Γ nxt (.callF f args) rs tm ob td K dst tm' = goOn Γ nxt rs tm' ob td K dst (sem Γ (.callF f args) (nameOf nxt dst) tm ob) := rfl
@[simp] theorem goD_mkMap (shs : List Sh) (agg : Bool) : goD Γ nxt (.mkMap shs agg) rs tm ob td K dst tm' = goOn Γ nxt rs tm' ob td K dst (sem Γ (.mkMap shs agg) (nameOf nxt dst) tm ob) := rfl
@[simp] theorem goD_lookup (shs : List Sh) (agg : Bool) (zero : DV) (ok : Bool) (x k : Opd) : goD Γ nxt (.lookup shs agg zero ok x k) rs tm ob td K dst tm' = goOn Γ nxt rs tm' ob td K dst (sem Γ (.lookup shs agg zero ok x k) (nameOf nxt dst) tm ob) := rfl
@[simp] theorem goD_mapUpd (shs : List Sh) (agg : Bool) (x k y : Opd) : goD Γ nxt (.mapUpd shs agg x k y) rs tm ob td K dst tm' = goOn Γ nxt rs tm' ob td K dst (sem Γ (.mapUpd shs agg x k y) (nameOf nxt dst) tm ob) := rfl
@[simp] theorem goD_mapDel (shs : List Sh) (agg : Bool) (x k : Opd) : goD Γ nxt (.mapDel shs agg x k) rs tm ob td K dst tm' = goOn Γ nxt rs tm' ob td K dst (sem Γ (.mapDel shs agg x k) (nameOf nxt dst) tm ob) := rfl
@[simp] theorem goD_lenM (x : Opd) : goD Γ nxt (.lenM x) rs tm ob td K dst tm' = goOn Γ nxt rs tm' ob td K dst (sem Γ (.lenM x) (nameOf nxt dst) tm ob) := rfl
@[simp] theorem goD_rangeM (x : Opd) : goD Γ nxt (.rangeM x) rs tm ob td K dst tm' = goOn Γ nxt rs tm' ob td K dst (sem Γ (.rangeM x) (nameOf nxt dst) tm ob) := rfl
@[simp] theorem goD_copy (sz : Nat) (x y : Opd) : goD Γ nxt (.copy sz x y) rs tm ob td K dst tm' = goOn Γ nxt rs tm' ob td K dst (sem Γ (.copy sz x y) (nameOf nxt dst) tm ob) := rfl
@[simp] theorem goD_isNil (kind : Nat) (neg : Bool) (x : Opd) : goD Γ nxt (.isNil kind neg x) rs tm ob td K dst tm' = goOn Γ nxt rs tm' ob td K dst (sem Γ (.isNil kind neg x) (nameOf nxt dst) tm ob) := rfl
@[simp] theorem goD_indexS (x i : Opd) : goD Γ nxt (.indexS x i) rs tm ob td K dst tm' = goOn Γ nxt rs tm' ob td K dst (sem Γ (.indexS x i) (nameOf nxt dst) tm ob) := rfl
@[simp] theorem goD_fail  : goD Γ nxt (.fail) rs tm ob td K dst tm' = goOn Γ nxt rs tm' ob td K dst (sem Γ (.fail) (nameOf nxt dst) tm ob) := rfl
@[simp] theorem goD_entryM (x : Opd) : goD Γ nxt (.entryM x) rs tm ob td K dst tm' = goOn4 Γ nxt rs tm' K dst (semS Γ (.entryM x) tm ob td) := by simp [goD, is4]
end
attribute [simp] putO_some goOn_mk goOn4_mk goOn_bad goD_callS goD_callv semS guardE_bool exec_nil exec_plain exec_touch updT_app updT_none putO_none putO_obs look_cons look_nil obs_cons obs_nil keepT_cons keepT_nil
attribute [simp] sem Opd.ev loadSem storeSem binSem eqSem unSem addOffSem nilCheckSem idxSem arrAddrSem fieldSem aggCells intOf? loOf hiOf sliceSem extractSem lenSem lenSSem minmaxSem srcRows appendSem makeSem makeBSem zeroC callSem callFSem callRSem lookupSem mapUpdSem mapDelSem lenMSem rangeMSem entryMSem copySem isNilSem indexSSem keyT allV keyOk pureB
attribute [simp] finQ finS RetOk RetOkS retOks retTs DRes.eff boxable cellsOf cellables cellable pureCell pureCells splice fillD fillOk tOf tOfs tOk tOks nameOf leafT fitsT shOk eqTB eqTBs thenQ blockQ

theorem wrap_id {x : Int} (h : -9223372036854775808 ≤ x ∧ x ≤ 9223372036854775807) : IntKind.i64.wrap x = x := by
  simp [IntKind.wrap, IntKind.bits, IntKind.signed]
  omega
theorem tdiv2 {x : Int} (h : 0 ≤ x) : x.tdiv 2 = x / 2 := Int.tdiv_eq_ediv_of_nonneg h
theorem tmod2 {x : Int} (h : 0 ≤ x) : x.tmod 2 = x % 2 := Int.tmod_eq_emod_of_nonneg h
end Go.DM
/- The D-machine, part Q: contracts put together; from the machine's readings to the claim's. Conditions: none. -/
namespace Go.DM
open Go.RowKit
set_option linter.unusedSimpArgs false
set_option linter.unusedVariables false
set_option linter.unusedSectionVars false
variable [Laid]

/-- Contracts by a list. -/
def envOf : List (Nat × Spec) → Env
  | [], _ => none
  | (g, s) :: l, f => if f = g then some s else envOf l f

theorem EnvOk.nil {P : Program} : EnvOk P (envOf []) := fun _ _ h => by cases h
theorem EnvOk.add {P : Program} {f : Nat} {s : Spec} {l : List (Nat × Spec)} (h : EnvOk P (envOf l)) (k : SpecOk P f s) : EnvOk P (envOf ((f, s) :: l)) := by
  intro g s' hg
  simp only [envOf] at hg
  split at hg
  · rename_i e; cases hg; subst e; exact k
  · exact h g s' hg
theorem EnvOk.cons {P : Program} {f : Nat} {s : Spec} {l : List (Nat × Spec)} (h : EnvOk P (envOf l))
    (k : ∀ ts, s.pre ts → CallsOk P f ts (s.fn ts) ∧ (s.scalar = true → scalarT (s.fn ts) = true)) (hs : s.st = none := by rfl) (hfr : s.fresh = none := by rfl) : EnvOk P (envOf ((f, s) :: l)) :=
  h.add ⟨k, fun e sz hf => (by rw [hfr] at hf; cases hf), fun k hk => (by rw [hs] at hk; cases hk)⟩
/-- The contract of a function that may write. -/
def specS (k : List DV → Obs → SRes) : Spec := ⟨fun _ => False, fun _ => .bool false, true, some k, none⟩
theorem EnvOk.consS {P : Program} {f : Nat} {k : List DV → Obs → SRes} {l : List (Nat × Spec)} (h : EnvOk P (envOf l))
    (hk : ∀ args objs, (k args objs).ok → (∀ N, (∀ r, N ≤ r → objs r = none) → CallsS P f args objs (k args objs)) ∧ ∀ r, objs r = none → (k args objs).objs r = none) : EnvOk P (envOf ((f, specS k) :: l)) :=
  h.add ⟨fun _ h => h.elim, fun _ _ h => (by cases h), fun k' e => by cases e; exact hk⟩
theorem CallsF.ok {P : Program} {f : FuncId} {ts : List T} {e sz : Nat} {rows : List (List T)} (h : CallsF P f ts e sz rows) : CallsOk P f ts (.sl rows) :=
  ⟨h.entry, fun W w vals hW hg hr => (h.run W w vals hW hg hr).mono fun e' w' ⟨v, h1, hb, hf⟩ => ⟨v, h1, hb, by
    simp only [RelT]
    rcases hf.it with ⟨h2, a, h3⟩ | ⟨g, cap, cur, h2, hp, hge, hh, h3, h4, h5, h6⟩
    · exact .inl ⟨h2, a, 0, h3⟩
    · refine .inr ⟨g, 0, cap, sz, h2, (Array.getElem?_eq_some_iff.1 hh).1, fun hw => ?_, h3, RelRows.of_flatten (RelL.keep (Keeps.refl (fun b => W b ∨ b = g) w').toKeepsC (fun b _ hb => .inl hb) _ _ h6) hf.len fun j v hv => ?_⟩
      · have := hW g hw; omega
      · rw [Nat.zero_add, cell_of_row w' g j cur e (0, 0) hh]
        rw [List.getElem?_take] at hv
        split at hv
        · simpa using hv
        · cases hv⟩⟩
/-- The contract of a function that answers with a slice over new memory. -/
def specF (pre : List T → Prop) (fn : List T → List (List T)) (e sz : Nat) : Spec := ⟨pre, fun ts => .sl (fn ts), false, none, some (e, sz)⟩
theorem EnvOk.consF {P : Program} {f : Nat} {pre : List T → Prop} {fn : List T → List (List T)} {e sz : Nat} {l : List (Nat × Spec)} (h : EnvOk P (envOf l)) (k : ∀ ts, pre ts → CallsF P f ts e sz (fn ts)) : EnvOk P (envOf ((f, specF pre fn e sz) :: l)) :=
  h.add ⟨fun ts hp => ⟨(k ts hp).ok, fun x => by cases x⟩, fun e' sz' hf ts hp => (by cases hf; exact ⟨_, rfl, k ts hp⟩), fun k hk => (by cases hk)⟩
@[simp] theorem specF_fresh (pre : List T → Prop) (fn : List T → List (List T)) (e sz : Nat) : (specF pre fn e sz).fresh = some (e, sz) := rfl
@[simp] theorem specF_fn (pre : List T → Prop) (fn : List T → List (List T)) (e sz : Nat) (ts : List T) : (specF pre fn e sz).fn ts = .sl (fn ts) := rfl
@[simp] theorem specF_pre (pre : List T → Prop) (fn : List T → List (List T)) (e sz : Nat) : (specF pre fn e sz).pre = pre := rfl
/-- The contract of a function that writes nothing. -/
def specP (pre : List T → Prop) (fn : List T → T) (scalar : Bool) : Spec := ⟨pre, fn, scalar, none, none⟩
@[simp] theorem specP_pre (pre : List T → Prop) (fn : List T → T) (scalar : Bool) : (specP pre fn scalar).pre = pre := rfl
@[simp] theorem specP_fn (pre : List T → Prop) (fn : List T → T) (scalar : Bool) : (specP pre fn scalar).fn = fn := rfl
@[simp] theorem specP_scalar (pre : List T → Prop) (fn : List T → T) (scalar : Bool) : (specP pre fn scalar).scalar = scalar := rfl
@[simp] theorem specP_st (pre : List T → Prop) (fn : List T → T) (scalar : Bool) : (specP pre fn scalar).st = none := rfl
@[simp] theorem specF_st (pre : List T → Prop) (fn : List T → List (List T)) (e sz : Nat) : (specF pre fn e sz).st = none := rfl
@[simp] theorem specS_st (k : List DV → Obs → SRes) : (specS k).st = some k := rfl
theorem envOf_cons (g f : Nat) (s : Spec) (l : List (Nat × Spec)) : envOf ((g, s) :: l) f = if f = g then some s else envOf l f := rfl
theorem envOf_nil (f : Nat) : envOf [] f = none := rfl
attribute [simp] envOf_cons envOf_nil

/-- A call whose arguments read as trees that hold no memory. -/
theorem CallsOk.calls {P : Program} {f : FuncId} {ts : List T} {t : T} (h : CallsOk P f ts t) {w : World} {vals : Array Value} (hg : GOk w fun _ => False) (hr : RelA w (fun _ => False) ts vals.toList) :
    Calls P f vals w fun e w' => ∃ v, e = .returned v ∧ BelD w.heap.size w w' ∧ RelT w' (fun _ => False) t v :=
  h.run (fun _ => False) w vals (fun _ h => h.elim) hg hr
@[simp] theorem wrap_lit (n : Nat) (h : n < 9223372036854775808) : IntKind.i64.wrap (no_index (@OfNat.ofNat Int n instOfNat)) = @OfNat.ofNat Int n instOfNat := by
  have e : (@OfNat.ofNat Int n instOfNat) = (n : Int) := rfl
  rw [e, wrap_id (by omega)]
@[simp] theorem wrap_neg (n : Nat) (h : n < 9223372036854775808) : IntKind.i64.wrap (-(no_index (@OfNat.ofNat Int n instOfNat))) = -(@OfNat.ofNat Int n instOfNat) := by
  have e : (@OfNat.ofNat Int n instOfNat) = (n : Int) := rfl
  rw [e, wrap_id (by omega)]
end Go.DM
/- The D-machine, part S: a state told anew: names changed, objects dropped, versions set back, arrays and boxes that are written no more told as trees. Conditions: none. -/
namespace Go.DM
open Go.RowKit
set_option linter.unusedSimpArgs false
set_option linter.unusedVariables false
set_option linter.unusedSectionVars false
variable [Laid]

/-- The object of the old name r is not kept. -/
def gone (objs' : Obs) (σ : Nat → Nat) (r : Nat) : Prop := ∀ r', objs' r' ≠ none → σ r' ≠ r

def corPtr (objs objs' : Obs) (σ : Nat → Nat) (r off : Nat) : DV → Prop
  | .ptr r' off' => r = σ r' ∧ off = off' ∧ ∃ cs, objs' r' = some (.box cs)
  | .bptr cs off' => off = off' ∧ objs r = some (.box (cs.map .v)) ∧ gone objs' σ r
  | .v (.box cs) => off = 0 ∧ objs r = some (.box (cs.map .v)) ∧ gone objs' σ r
  | _ => False
def corAref (objs objs' : Obs) (σ : Nat → Nat) (r ver : Nat) : DV → Prop
  | .aref r' ver' => r = σ r' ∧ ∃ e sz rows e' sz' rows', objs r = some (.arr ver e sz rows) ∧ objs' r' = some (.arr ver' e' sz' rows')
  | .v (.sl rows) => (∃ e sz, objs r = some (.arr ver e sz rows)) ∧ gone objs' σ r
  | _ => False
def corAptr (objs objs' : Obs) (σ : Nat → Nat) (r ver : Nat) (i : Int) (off : Nat) : DV → Prop
  | .aptr r' ver' i' off' => r = σ r' ∧ i = i' ∧ off = off' ∧ ∃ e sz rows e' sz' rows', objs r = some (.arr ver e sz rows) ∧ objs' r' = some (.arr ver' e' sz' rows') ∧ sz = sz' ∧ rows.length = rows'.length
  | _ => False
def isMap : Option Ob → Prop
  | some (.map _ _ _ _) => True
  | _ => False
def isIter : Option Ob → Prop
  | some (.iter _ _ _ _) => True
  | _ => False
def corMap (objs' : Obs) (σ : Nat → Nat) (r : Nat) : DV → Prop
  | .mref r' => r = σ r' ∧ isMap (objs' r')
  | _ => False
def corIt (objs' : Obs) (σ : Nat → Nat) (r : Nat) : DV → Prop
  | .iter r' => r = σ r' ∧ isIter (objs' r')
  | _ => False
def corAsl (objs objs' : Obs) (σ : Nat → Nat) (r ver lo n : Nat) : DV → Prop
  | .asl r' ver' lo' n' => r = σ r' ∧ lo = lo' ∧ n = n' ∧ ∃ e sz rows e' sz' rows', objs r = some (.arr ver e sz rows) ∧ objs' r' = some (.arr ver' e' sz' rows') ∧ sz = sz' ∧ rows.length = rows'.length
  | .v (.sl rows') => (∃ e sz rows, objs r = some (.arr ver e sz rows) ∧ rows' = (rows.drop lo).take n) ∧ gone objs' σ r
  | _ => False
def corBsl (objs objs' : Obs) (σ : Nat → Nat) (r n : Nat) : DV → Prop
  | .bsl r' n' => r = σ r' ∧ n = n' ∧ ∃ cs, objs' r' = some (.box cs)
  | .v (.sl rows) => rows.length = n ∧ (∃ sz, ∀ x ∈ rows, x.length = sz) ∧ objs r = some (.box (rows.flatten.map .v)) ∧ gone objs' σ r
  | _ => False
theorem isMap_ex {o : Option Ob} (h : isMap o) : ∃ shs agg c es, o = some (.map shs agg c es) := by
  unfold isMap at h; split at h
  · exact ⟨_, _, _, _, rfl⟩
  · exact h.elim
theorem isIter_ex {o : Option Ob} (h : isIter o) : ∃ m s sn l, o = some (.iter m s sn l) := by
  unfold isIter at h; split at h
  · exact ⟨_, _, _, _, rfl⟩
  · exact h.elim
/-- The cells of a bundle. -/
def bundle : DV → Option (List DV)
  | .agg ds => some ds
  | .v (.agg ts) => some (ts.map .v)
  | _ => none
mutual
/-- The new value says no more than the old. -/
def corD (objs objs' : Obs) (σ : Nat → Nat) : DV → DV → Prop
  | .nil0, d' => d' = .undef ∨ d' = .nil0 ∨ d' = .v (.sl [])
  | .ptr r off, d' => d' = .undef ∨ corPtr objs objs' σ r off d'
  | .aref r ver, d' => d' = .undef ∨ corAref objs objs' σ r ver d'
  | .aptr r ver i off, d' => d' = .undef ∨ corAptr objs objs' σ r ver i off d'
  | .agg ds, d' => d' = .undef ∨ match bundle d' with | some ds' => corDs objs objs' σ ds ds' | none => False
  | .undef, d' => d' = .undef
  | .skip, d' => d' = .undef ∨ d' = .skip
  | .v t, d' => d' = .undef ∨ d' = .v t
  | .tptr rows i off, d' => d' = .undef ∨ d' = .tptr rows i off
  | .bptr cs off, d' => d' = .undef ∨ d' = .bptr cs off
  | .yld, d' => d' = .undef ∨ d' = .yld
  | .mref r, d' => d' = .undef ∨ corMap objs' σ r d'
  | .iter r, d' => d' = .undef ∨ corIt objs' σ r d'
  | .asl r ver lo n, d' => d' = .undef ∨ corAsl objs objs' σ r ver lo n d'
  | .bsl r n, d' => d' = .undef ∨ corBsl objs objs' σ r n d'
  | .tup ds, d' => d' = .undef ∨ match d' with | .tup ds' => corDs objs objs' σ ds ds' | _ => False
  | .clo f ds, d' => d' = .undef ∨ match d' with | .clo f' ds' => f = f' ∧ corDs objs objs' σ ds ds' | .v (.fn f' ts) => f = f' ∧ corDs objs objs' σ ds (ts.map .v) | _ => False
def corDs (objs objs' : Obs) (σ : Nat → Nat) : List DV → List DV → Prop
  | [], ds' => ds' = []
  | d :: ds, ds' => match ds' with
    | [] => False
    | d' :: ds' => corD objs objs' σ d d' ∧ corDs objs objs' σ ds ds'
end
def corEs (objs objs' : Obs) (σ : Nat → Nat) : List (Nat × T × DV) → List (Nat × T × DV) → Prop
  | [], es' => es' = []
  | e :: es, es' => match es' with
    | [] => False
    | e' :: es' => e.1 = e'.1 ∧ e.2.1 = e'.2.1 ∧ corD objs objs' σ e.2.2 e'.2.2 ∧ corEs objs objs' σ es es'
theorem corEs_self {objs objs' : Obs} {σ : Nat → Nat} : ∀ {es : List (Nat × T × DV)}, (∀ e ∈ es, corD objs objs' σ e.2.2 e.2.2) → corEs objs objs' σ es es
  | [], _ => by simp [corEs]
  | e :: es, h => by simp only [corEs]; exact ⟨trivial, trivial, h e (by simp), corEs_self fun e he => h e (by simp [he])⟩
def corOb (objs objs' : Obs) (σ : Nat → Nat) : Ob → Ob → Prop
  | .box cs, .box cs' => corDs objs objs' σ cs cs'
  | .arr _ e sz rows, .arr _ e' sz' rows' => e = e' ∧ sz = sz' ∧ rows = rows'
  | .map shs agg c es, .map shs' agg' c' es' => shs = shs' ∧ agg = agg' ∧ c = c' ∧ corEs objs objs' σ es es'
  | .iter m s sn l, .iter m' s' sn' l' => m = σ m' ∧ s = s' ∧ sn = sn' ∧ l = l' ∧ isMap (objs' m')
  | _, _ => False
def sameVer : Ob → Ob → Prop
  | .box _, .box _ => True
  | .arr v _ sz rows, .arr v' _ sz' rows' => v = v' ∧ sz = sz' ∧ rows.length = rows'.length
  | .map _ _ _ _, .map _ _ _ _ => True
  | .iter _ _ _ _, .iter _ _ _ _ => True
  | _, _ => False
theorem sameVer_kind {o o' : Ob} (h : sameVer o o') : o'.kind = o.kind := by cases o <;> cases o' <;> first | rfl | exact h.elim

def Loc.ren (L : Loc) (σ : Nat → Nat) : Loc := ⟨fun r => L.blk (σ r), fun r => L.sl (σ r), L.yl⟩

section
variable {base : Nat} {W M : Nat → Prop} {w0 w : World} {objs objs' : Obs} {L : Loc} {σ : Nat → Nat}

theorem own_cor {o o' : Ob} (h : corOb objs objs' σ o o') (r : Nat) : (L.ren σ).own r o' = L.own (σ r) o := by
  cases o <;> cases o' <;> first | rfl | exact h.elim

theorem ww_cor (hob : ∀ r' o', objs' r' = some o' → ∃ o, objs (σ r') = some o ∧ ∀ r, (L.ren σ).own r o' = L.own (σ r) o) (b : Nat) (h : WW W objs' (L.ren σ) b) : WW W objs L b := by
  rcases h with h | ⟨r', o', h1, h2⟩
  · exact .inl h
  · obtain ⟨o, h3, h4⟩ := hob r' o' h1
    exact .inr ⟨σ r', o, h3, by rw [← h4]; exact h2⟩

theorem gone_not (hO : RelO base W M w0 objs w L) (hob : ∀ r' o', objs' r' = some o' → ∃ o, objs (σ r') = some o ∧ ∀ r, (L.ren σ).own r o' = L.own (σ r) o) {r b : Nat} {o : Ob} (hr : objs r = some o) (hb : L.own r o = some b) (hg : gone objs' σ r) : ¬ WW W objs' (L.ren σ) b := by
  rintro (h | ⟨r', o', h1, h2⟩)
  · exact hO.outer r o b hr hb h
  · obtain ⟨o2, h3, h4⟩ := hob r' o' h1
    rw [h4] at h2
    exact hO.apart r (σ r') o o2 b (fun e => hg r' (by rw [h1]; exact fun e => by cases e) e.symm) hr h3 hb h2

theorem freeze_box (hO : RelO base W M w0 objs w L) (hob : ∀ r' o', objs' r' = some o' → ∃ o, objs (σ r') = some o ∧ ∀ r, (L.ren σ).own r o' = L.own (σ r) o) {r : Nat} {cs : List T} (hr : objs r = some (.box (cs.map .v))) (hg : gone objs' σ r) :
    L.blk r < w.heap.size ∧ ¬ WW W objs' (L.ren σ) (L.blk r) ∧ RelAt w (WW W objs' (L.ren σ)) (L.blk r) 0 cs := by
  have hb := hO.ob r _ hr
  obtain ⟨c, e, hc, hrel, _⟩ := hb
  refine ⟨(Array.getElem?_eq_some_iff.1 hc).1, gone_not hO hob hr rfl hg, RelAt.of_cells cs 0 fun j t hj => ?_⟩
  have hd : (cs.map DV.v)[j]? = some (.v t) := by simp [hj]
  obtain ⟨v, hv, h1, h2⟩ := RelDs.get hrel hd
  simp only [RelD] at h2
  refine ⟨v, ?_, h1, RelT.keep (Keeps.refl (WW W objs L) w).toKeepsC (fun b _ hb => ww_cor hob b hb) t v h2⟩
  simp only [World.cell?, hc, Nat.zero_add]
  simpa using hv

theorem freeze_arr (hO : RelO base W M w0 objs w L) (hob : ∀ r' o', objs' r' = some o' → ∃ o, objs (σ r') = some o ∧ ∀ r, (L.ren σ).own r o' = L.own (σ r) o) {r ver e sz : Nat} {rows : List (List T)} (hr : objs r = some (.arr ver e sz rows)) (hg : gone objs' σ r) :
    RelT w (WW W objs' (L.ren σ)) (.sl rows) (L.sl r) := by
  have hob2 := hO.ob r _ hr
  obtain ⟨hsz, hrows, hm, hal⟩ := hob2
  simp only [RelT]
  rcases hal with ⟨rfl, p, hp⟩ | ⟨g', cap, cur, hv', hp, hh, hle, hcap, hcur, hrel⟩
  · exact .inl ⟨rfl, p, 0, hp⟩
  · have hcb : capBlock (L.sl r) = some g' := by simp [hv', capBlock, Nat.pos_iff_ne_zero.1 hp]
    refine .inr ⟨g', 0, cap, sz, hv', (Array.getElem?_eq_some_iff.1 hh).1, gone_not hO hob hr (by simpa [Loc.own] using hcb) hg, hle, ?_⟩
    have hrr := ObOk.rows (hO.ob r _ hr) (g := g') hcb
    obtain ⟨vs, hvl, hvr, hvc⟩ := RelRows.flatten hrr
    exact RelRows.of_flatten (RelL.keep (Keeps.refl (WW W objs L) w).toKeepsC (fun b _ hb => ww_cor hob b hb) _ _ hvr) hrows hvc

theorem relL_of_ds {ts : List T} : ∀ {vs : List Value}, RelDs w W objs L (ts.map .v) vs → RelL w (WW W objs L) ts vs := by
  induction ts with
  | nil => intro vs h; simpa [RelDs, RelL] using h
  | cons t ts ih =>
    intro vs h
    simp only [List.map_cons, RelDs] at h
    obtain ⟨v, vs', rfl, h1, h2, h3⟩ := h
    simp only [RelD] at h2
    simp only [RelL]
    exact ⟨v, vs', rfl, h1, h2, ih h3⟩

theorem cor_rel (hO : RelO base W M w0 objs w L) (hob : ∀ r' o', objs' r' = some o' → ∃ o, objs (σ r') = some o ∧ ∀ r, (L.ren σ).own r o' = L.own (σ r) o) :
    ∀ n, (∀ (d d' : DV) (x : Value), SizeOf.sizeOf d < n → corD objs objs' σ d d' → RelD w W objs L d x → RelD w W objs' (L.ren σ) d' x) ∧
      (∀ (ds ds' : List DV) (xs : List Value), SizeOf.sizeOf ds < n → corDs objs objs' σ ds ds' → RelDs w W objs L ds xs → RelDs w W objs' (L.ren σ) ds' xs) ∧
      (∀ (ds ds' : List DV) (xs : List Value), SizeOf.sizeOf ds < n → corDs objs objs' σ ds ds' → RelDa w W objs L ds xs → RelDa w W objs' (L.ren σ) ds' xs) := by
  have keepT : ∀ (t : T) (x : Value), RelT w (WW W objs L) t x → RelT w (WW W objs' (L.ren σ)) t x := fun t x h => RelT.keep (Keeps.refl (WW W objs L) w).toKeepsC (fun b _ hb => ww_cor hob b hb) t x h
  intro n
  induction n with
  | zero => exact ⟨fun _ _ _ h => by omega, fun _ _ _ h => by omega, fun _ _ _ h => by omega⟩
  | succ n ih =>
    refine ⟨fun d d' x hn hc hr => ?_, fun ds ds' xs hn hc hr => ?_, fun ds ds' xs hn hc hr => ?_⟩
    · by_cases hu : d' = .undef
      · subst hu; simp [RelD]
      cases d with
      | undef => simp only [corD] at hc; exact absurd hc hu
      | skip => simp only [corD, hu, false_or] at hc; subst hc; simpa only [RelD] using hr
      | yld => simp only [corD, hu, false_or] at hc; subst hc; simp only [RelD, Loc.ren] at hr ⊢; exact hr
      | v t => simp only [corD, hu, false_or] at hc; subst hc; simp only [RelD] at hr ⊢; exact keepT t x hr
      | tptr rows i off =>
        simp only [corD, hu, false_or] at hc
        subst hc
        simp only [RelD] at hr ⊢
        obtain ⟨b, o, sz, hx, hb, hnw, hrr, h1, h2⟩ := hr
        exact ⟨b, o, sz, hx, hb, fun k => hnw (ww_cor hob b k), RelRows.keep (Keeps.refl (WW W objs L) w).toKeepsC (fun b _ hb => ww_cor hob b hb) hb hnw sz o rows hrr, h1, h2⟩
      | bptr cs off =>
        simp only [corD, hu, false_or] at hc
        subst hc
        simp only [RelD] at hr ⊢
        obtain ⟨b, o, hx, hb, hnw, hrr⟩ := hr
        exact ⟨b, o, hx, hb, fun k => hnw (ww_cor hob b k), RelAt.keep (Keeps.refl (WW W objs L) w).toKeepsC (fun b _ hb => ww_cor hob b hb) hb hnw o cs hrr⟩
      | mref r =>
        simp only [corD, hu, false_or] at hc
        simp only [RelD] at hr
        cases d' with
        | mref r' =>
          obtain ⟨rfl, hm⟩ := hc
          simp only [RelD]
          exact ⟨isMap_ex hm, hr.2⟩
        | _ => exact hc.elim
      | iter r =>
        simp only [corD, hu, false_or] at hc
        simp only [RelD] at hr
        cases d' with
        | iter r' =>
          obtain ⟨rfl, hm⟩ := hc
          simp only [RelD]
          exact ⟨isIter_ex hm, hr.2⟩
        | _ => exact hc.elim
      | tup ds =>
        simp only [corD, hu, false_or] at hc
        simp only [RelD] at hr
        obtain ⟨vs, rfl, hr⟩ := hr
        cases d' with
        | tup ds' =>
          simp only [RelD]
          exact ⟨vs, rfl, ih.2.2 ds ds' _ (by simp at hn ⊢; omega) hc hr⟩
        | _ => exact hc.elim
      | clo f ds =>
        simp only [corD, hu, false_or] at hc
        simp only [RelD] at hr
        obtain ⟨vs, rfl, hr⟩ := hr
        cases d' with
        | clo f' ds' =>
          obtain ⟨rfl, hc⟩ := hc
          simp only [RelD]
          exact ⟨vs, rfl, ih.2.1 ds ds' _ (by simp at hn ⊢; omega) hc hr⟩
        | v t =>
          cases t with
          | fn f' ts =>
            obtain ⟨rfl, hc⟩ := hc
            simp only [RelD, RelT]
            exact ⟨vs, rfl, relL_of_ds (ih.2.1 ds _ _ (by simp at hn ⊢; omega) hc hr)⟩
          | _ => exact hc.elim
        | _ => exact hc.elim
      | bsl r m =>
        simp only [corD, hu, false_or] at hc
        simp only [RelD] at hr
        obtain ⟨⟨cs0, hcs0⟩, rfl⟩ := hr
        cases d' with
        | bsl r' m' =>
          obtain ⟨rfl, rfl, cs, hcs⟩ := hc
          simp only [RelD]
          exact ⟨⟨cs, hcs⟩, rfl⟩
        | v t =>
          cases t with
          | sl rows =>
            obtain ⟨rfl, ⟨sz, hsz⟩, hob2, hg⟩ := hc
            obtain ⟨h1, h2, h3⟩ := freeze_box hO hob hob2 hg
            simp only [RelD, RelT]
            refine .inr ⟨L.blk r, 0, rows.length, sz, rfl, h1, h2, Nat.le_refl _, ?_⟩
            obtain ⟨vs, hv1, hv2⟩ := RelAt.vals h3
            exact RelRows.of_flatten hv1 hsz hv2
          | _ => exact hc.elim
        | _ => exact hc.elim
      | asl r ver lo m =>
        simp only [corD, hu, false_or] at hc
        simp only [RelD] at hr
        obtain ⟨hsh, ver2, e2, sz2, rows2, hc2, hle2, hx⟩ := hr
        cases d' with
        | asl r' ver' lo' m' =>
          obtain ⟨rfl, rfl, rfl, e, sz, rows, e', sz', rows', h1, h2, h3, h4⟩ := hc
          rw [hc2] at h1
          simp only [Option.some.injEq, Ob.arr.injEq] at h1
          obtain ⟨rfl, rfl, rfl, rfl⟩ := h1
          simp only [RelD]
          refine ⟨hsh, ver', e', sz', rows', h2, Nat.le_refl _, fun _ => ?_⟩
          obtain ⟨k0, p, cap, p2, k1, k2, k3⟩ := hx rfl
          exact ⟨by rw [← h4]; exact k0, p, cap, p2, by rw [← h4]; exact k1, k2, by rw [← h3]; exact k3⟩
        | v t =>
          cases t with
          | sl rows' =>
            obtain ⟨⟨e, sz, rows, h1, rfl⟩, hg⟩ := hc
            rw [hc2] at h1
            simp only [Option.some.injEq, Ob.arr.injEq] at h1
            obtain ⟨rfl, rfl, rfl, rfl⟩ := h1
            have hx := hx rfl
            simp only [RelD, RelT]
            have htl : ((rows2.drop lo).take m).length = m := by rw [List.length_take, List.length_drop]; omega
            rcases asl_rows hO hc2 hx with ⟨rfl, a, c, rfl⟩ | ⟨g, c, hcb, rfl, hnc, hrr⟩
            · exact .inl ⟨by simp, a, c, rfl⟩
            · refine .inr ⟨g, lo * sz2, c, sz2, by rw [htl], (hO.ob r _ hc2).lt (by simpa [Loc.own] using hcb), gone_not hO hob hc2 (by simpa [Loc.own] using hcb) hg, by omega, ?_⟩
              obtain ⟨vs, hvl, hvr, hvc⟩ := RelRows.flatten hrr
              exact RelRows.of_flatten (RelL.keep (Keeps.refl (WW W objs L) w).toKeepsC (fun b _ hb => ww_cor hob b hb) _ _ hvr) (fun x hx => (hO.ob r _ hc2).2.1 x (List.mem_of_mem_drop (List.mem_of_mem_take hx))) hvc
          | _ => exact hc.elim
        | _ => exact hc.elim
      | nil0 =>
        simp only [corD, hu, false_or] at hc
        rcases hc with rfl | rfl
        · simpa only [RelD] using hr
        · simp only [RelD] at hr
          obtain ⟨a, rfl⟩ := hr
          simp only [RelD, RelT]
          exact .inl ⟨trivial, a, 0, rfl⟩
      | ptr r off =>
        simp only [corD, hu, false_or] at hc
        simp only [RelD] at hr
        obtain ⟨⟨cs0, hcs0⟩, rfl⟩ := hr
        cases d' with
        | ptr r' off' =>
          obtain ⟨rfl, rfl, cs, hcs⟩ := hc
          simp only [RelD]
          exact ⟨⟨cs, hcs⟩, rfl⟩
        | bptr cs off' =>
          obtain ⟨rfl, hob2, hg⟩ := hc
          obtain ⟨h1, h2, h3⟩ := freeze_box hO hob hob2 hg
          simp only [RelD]
          exact ⟨L.blk r, 0, by simp, h1, h2, h3⟩
        | v t =>
          cases t with
          | box cs =>
            obtain ⟨rfl, hob2, hg⟩ := hc
            obtain ⟨h1, h2, h3⟩ := freeze_box hO hob hob2 hg
            simp only [RelD, RelT]
            exact ⟨L.blk r, 0, rfl, h1, h2, h3⟩
          | _ => exact hc.elim
        | _ => exact hc.elim
      | aref r ver =>
        simp only [corD, hu, false_or] at hc
        simp only [RelD] at hr
        obtain ⟨hsh, ver2, e2, sz2, rows2, hc2, hle2, hx⟩ := hr
        cases d' with
        | aref r' ver' =>
          obtain ⟨rfl, e, sz, rows, e', sz', rows', h1, h2⟩ := hc
          rw [hc2] at h1
          simp only [Option.some.injEq, Ob.arr.injEq] at h1
          obtain ⟨rfl, _⟩ := h1
          simp only [RelD]
          exact ⟨hsh, ver', e', sz', rows', h2, Nat.le_refl _, fun _ => hx rfl⟩
        | v t =>
          cases t with
          | sl rows =>
            obtain ⟨⟨e, sz, h1⟩, hg⟩ := hc
            rw [hc2] at h1
            simp only [Option.some.injEq, Ob.arr.injEq] at h1
            obtain ⟨rfl, rfl, rfl, rfl⟩ := h1
            have hx := hx rfl
            subst hx
            simp only [RelD]
            exact freeze_arr hO hob hc2 hg
          | _ => exact hc.elim
        | _ => exact hc.elim
      | aptr r ver i off =>
        simp only [corD, hu, false_or] at hc
        simp only [RelD] at hr
        obtain ⟨hsh, ver2, e2, sz2, rows2, hc2, hle2, hx⟩ := hr
        cases d' with
        | aptr r' ver' i' off' =>
          obtain ⟨rfl, rfl, rfl, e, sz, rows, e', sz', rows', h1, h2, h3, h4⟩ := hc
          rw [hc2] at h1
          simp only [Option.some.injEq, Ob.arr.injEq] at h1
          obtain ⟨rfl, rfl, rfl, rfl⟩ := h1
          simp only [RelD]
          refine ⟨hsh, ver', e', sz', rows', h2, Nat.le_refl _, fun _ => ?_⟩
          obtain ⟨g, k1, k2, k3, k4⟩ := hx rfl
          exact ⟨g, k1, by rw [← h3]; exact k2, k3, by rw [← h4]; exact k4⟩
        | _ => exact hc.elim
      | agg ds =>
        simp only [corD, hu, false_or] at hc
        simp only [RelD] at hr
        obtain ⟨vs, rfl, hr⟩ := hr
        cases d' with
        | agg ds' =>
          simp only [bundle] at hc
          simp only [RelD]
          exact ⟨vs, rfl, ih.2.1 ds ds' _ (by simp at hn ⊢; omega) hc hr⟩
        | v t =>
          cases t with
          | agg ts =>
            simp only [bundle] at hc
            simp only [RelD, RelT]
            exact ⟨vs, rfl, relL_of_ds (ih.2.1 ds _ _ (by simp at hn ⊢; omega) hc hr)⟩
          | _ => exact hc.elim
        | _ => exact hc.elim
    · cases ds with
      | nil => simp only [corDs] at hc; subst hc; simpa only [RelDs] using hr
      | cons d ds =>
        cases ds' with
        | nil => simp [corDs] at hc
        | cons d' ds' =>
          simp only [corDs] at hc
          simp only [RelDs] at hr ⊢
          obtain ⟨y, ys, hv, h1, h2, h3⟩ := hr
          exact ⟨y, ys, hv, h1, ih.1 d d' y (by simp at hn ⊢; omega) hc.1 h2, ih.2.1 ds ds' ys (by simp at hn ⊢; omega) hc.2 h3⟩
    · cases ds with
      | nil => simp only [corDs] at hc; subst hc; simpa only [RelDa] using hr
      | cons d ds =>
        cases ds' with
        | nil => simp [corDs] at hc
        | cons d' ds' =>
          simp only [corDs] at hc
          simp only [RelDa] at hr ⊢
          obtain ⟨y, ys, hv, h2, h3⟩ := hr
          exact ⟨y, ys, hv, ih.1 d d' y (by simp at hn ⊢; omega) hc.1 h2, ih.2.2 ds ds' ys (by simp at hn ⊢; omega) hc.2 h3⟩

/-- A state told anew. -/
theorem Le.cor {st st' : DSt} (σ : Nat → Nat) (hlow : st'.low = st.low) (htodo : st'.todo = st.todo) (hfresh : ∀ r, st'.nxt ≤ r → st'.objs r = none)
    (hob : ∀ r' o', st'.objs r' = some o' → ∃ o, st.objs (σ r') = some o ∧ corOb st.objs st'.objs σ o o')
    (hinj : ∀ r1 r2, st'.objs r1 ≠ none → st'.objs r2 ≠ none → σ r1 = σ r2 → r1 = r2)
    (hkeep : ∀ r, r < st.low → ∀ o, st.objs r = some o → σ r = r ∧ ∃ o', st'.objs r = some o' ∧ sameVer o o')
    (htm : ∀ k, corD st.objs st'.objs σ (st.tmps k) (st'.tmps k)) : Le st st' := by
  intro κ nt a w L h
  refine ⟨L.ren σ, ⟨?_, ?_, h.r.defers, h.r.bg, ⟨_, hfresh⟩⟩, hfresh, by rw [hlow]; exact h.low, by rw [hlow]; exact h.it⟩
  · obtain ⟨W, base, M, w0, hat, h0⟩ := h.r.ex
    have hO := h0.o
    have hob2 : ∀ r' o', st'.objs r' = some o' → ∃ o, st.objs (σ r') = some o ∧ ∀ r, (L.ren σ).own r o' = L.own (σ r) o := fun r' o' h => let ⟨o, h1, h2⟩ := hob r' o' h; ⟨o, h1, own_cor h2⟩
    have cr := fun (d d' : DV) (x : Value) => (cor_rel hO hob2 (SizeOf.sizeOf d + 1)).1 d d' x (by omega)
    have crs := fun (ds ds' : List DV) (xs : List Value) => (cor_rel hO hob2 (SizeOf.sizeOf ds + 1)).2.1 ds ds' xs (by omega)
    refine ⟨W, base, M, w0, by rw [htodo]; exact hat, h0.size, fun t => cr _ _ _ (htm t) (h0.tmps t), ⟨hO.fr, fun r' o' ho' => ?_, fun r1 r2 o1 o2 b hne h1 h2 hb1 hb2 => ?_, fun r' o' b ho' hb => ?_, hO.under, hO.gl.keep (Keeps.refl (WW W st.objs L) w).toKeepsC fun b _ hb => ww_cor hob2 b hb⟩⟩
    · obtain ⟨o, ho, hc⟩ := hob r' o' ho'
      have hk := hO.ob (σ r') o ho
      cases o with
      | box cs =>
        cases o' with
        | box cs' =>
          obtain ⟨c, e, hcc, hr, hm⟩ := hk
          exact ⟨c, e, hcc, crs cs cs' _ hc hr, hm⟩
        | _ => exact hc.elim
      | map shs agg c es =>
        cases o' with
        | map shs' agg' c' es' =>
          obtain ⟨rfl, rfl, rfl, hes⟩ := hc
          obtain ⟨arr, hcc, hr, k1, k2, k3, hm⟩ := hk
          have key : ∀ (es es' : List (Nat × T × DV)) (xs : List MapEntry), corEs st.objs st'.objs σ es es' → RelEs w W st.objs L es xs → RelEs w W st'.objs (L.ren σ) es' xs ∧ es'.map (·.1) = es.map (·.1) ∧ es'.map (·.2.1) = es.map (·.2.1) := by
            intro es
            induction es with
            | nil => intro es' xs h1 h2; simp only [corEs] at h1; subst h1; exact ⟨by simpa only [RelEs] using h2, rfl, rfl⟩
            | cons e es ih =>
              intro es' xs h1 h2
              cases es' with
              | nil => simp [corEs] at h1
              | cons e' es' =>
                simp only [corEs] at h1
                simp only [RelEs] at h2 ⊢
                obtain ⟨x, xs', rfl, q0, q1, q2, q3⟩ := h2
                obtain ⟨i1, i2, i3⟩ := ih es' xs' h1.2.2.2 q3
                refine ⟨⟨x, xs', rfl, q0.trans h1.1, ?_, cr _ _ _ h1.2.2.1 q2, i1⟩, by simp [i2, h1.1], by simp [i3, h1.2.1]⟩
                rw [← h1.2.1]
                exact RelT.keep (Keeps.refl (WW W st.objs L) w).toKeepsC (fun b _ hb => ww_cor hob2 b hb) _ _ q1
          obtain ⟨i1, i2, i3⟩ := key es es' _ hes hr
          refine ⟨arr, hcc, i1, fun e he => ?_, fun e he => ?_, by rw [i2]; exact k3, hm⟩
          · have : e.2.1 ∈ es.map (·.2.1) := by rw [← i3]; exact List.mem_map.2 ⟨e, he, rfl⟩
            obtain ⟨e0, h0', h1'⟩ := List.mem_map.1 this
            rw [← h1']; exact k1 e0 h0'
          · have : e.1 ∈ es.map (·.1) := by rw [← i2]; exact List.mem_map.2 ⟨e, he, rfl⟩
            obtain ⟨e0, h0', h1'⟩ := List.mem_map.1 this
            rw [← h1']; exact k2 e0 h0'
        | _ => exact hc.elim
      | iter m s sn l =>
        cases o' with
        | iter m' s' sn' l' =>
          obtain ⟨rfl, rfl, rfl, rfl, hmp⟩ := hc
          obtain ⟨hcc, _, hm⟩ := hk
          exact ⟨hcc, isMap_ex hmp, hm⟩
        | _ => exact hc.elim
      | arr ver e sz rows =>
        cases o' with
        | box _ => exact hc.elim
        | map _ _ _ _ => exact hc.elim
        | iter _ _ _ _ => exact hc.elim
        | arr ver' e' sz' rows' =>
          obtain ⟨rfl, rfl, rfl⟩ := hc
          obtain ⟨g1, g2, g3, g4⟩ := hk
          refine ⟨g1, g2, g3, ?_⟩
          rcases g4 with g4 | ⟨g, cap, cur, hv, hp, hh, k1, k2, k3, k4⟩
          · exact .inl g4
          · exact .inr ⟨g, cap, cur, hv, hp, hh, k1, k2, k3, RelL.keep (Keeps.refl (WW W st.objs L) w).toKeepsC (fun b _ hb => ww_cor hob2 b hb) _ _ k4⟩
    · obtain ⟨p1, q1, c1⟩ := hob r1 o1 h1
      obtain ⟨p2, q2, c2⟩ := hob r2 o2 h2
      rw [own_cor c1] at hb1
      rw [own_cor c2] at hb2
      exact hO.apart (σ r1) (σ r2) p1 p2 b (fun e => hne (hinj r1 r2 (fun e => by rw [show st'.objs r1 = some o1 from h1] at e; cases e) (fun e => by rw [show st'.objs r2 = some o2 from h2] at e; cases e) e)) q1 q2 hb1 hb2
    · obtain ⟨p1, q1, c1⟩ := hob r' o' ho'
      rw [own_cor c1] at hb
      exact hO.outer (σ r') p1 b q1 hb
  · have ha := h.r.adv
    refine ⟨ha.keeps, fun b hb hw => ha.sub b hb (ww_cor (fun r' o' h => let ⟨o, h1, h2⟩ := hob r' o' h; ⟨o, h1, own_cor h2⟩) b hw), fun r o hr hk => ?_, fun r ver e sz rows hr => ?_, ha.yl⟩
    · have hlt : r < st.low := Nat.lt_of_not_le fun hle => by rw [h.low r hle] at hr; cases hr
      obtain ⟨e1, o1, hr1, hk1⟩ := ha.fix r o hr hk
      obtain ⟨hs, o', ho', hv⟩ := hkeep r hlt _ hr1
      exact ⟨by simp only [Loc.ren, hs]; exact e1, o', ho', (sameVer_kind hv).trans hk1⟩
    · have hlt : r < st.low := Nat.lt_of_not_le fun hle => by rw [h.low r hle] at hr; cases hr
      obtain ⟨v1, e1, s1, r1, hr1, l1, k1⟩ := ha.arr r ver e sz rows hr
      obtain ⟨hs, o', ho', hv⟩ := hkeep r hlt _ hr1
      cases o' with
      | box cs' => exact hv.elim
      | map _ _ _ _ => exact hv.elim
      | iter _ _ _ _ => exact hv.elim
      | arr v2 e2 s2 r2 =>
        obtain ⟨rfl, rfl, h3⟩ := hv
        exact ⟨v1, e2, s1, r2, ho', l1, fun hv => by
          obtain ⟨a1, a2, a3⟩ := k1 hv
          exact ⟨by simp only [Loc.ren, hs]; exact a1, a2, by rw [← h3]; exact a3⟩⟩
end
end Go.DM
/- The D-machine, part T: loops over iterators, and the iterators. Conditions: none. -/
namespace Go.DM
open Go.RowKit
set_option linter.unusedSimpArgs false
set_option linter.unusedVariables false
set_option linter.unusedSectionVars false
variable [Laid]

/-- The function value f with these captured cells hands these values to a loop's body, one after another, and asks for no end. -/
structure ItOk (P : Program) (f : FuncId) (caps : List T) (tot : List (List T)) : Prop where
  entry : Entry P f
  run : ∀ (l : Nat) (J : (Nat → Prop) → List (List T) → World → Prop) (W : Nat → Prop) (A : World) (vs : Array Value), Yields P l J → J W tot A → RelL A W caps vs.toList → (∀ b, W b → b < A.heap.size) → GOk A W →
    Calls P f (#[.func (.yield l) #[] #[]] ++ vs) A fun e B => (∃ v, e = .returned v) ∧ ∃ W', J W' [] B

/-- The slots of a loop's variables get the values handed over. -/
def setPs (f : Nat → DV) : List Nat → List T → Nat → DV
  | p :: ps, x :: xs => setPs (updT f (some p) (.v x)) ps xs
  | _, _ => f

section
variable {P : Program} {nt : Nat}

theorem setPs_rel {A : World} {W : Nat → Prop} {objs : Obs} {L : Loc} : ∀ (ps : List Nat) (x : List T) (vals : List Value) (f : Nat → DV) (tm : Array Value), (∀ p ∈ ps, p < nt) → tm.size = nt → x.length = ps.length → RelA A (WW W objs L) x vals →
    (∀ t, RelD A W objs L (f t) (tm.getD t Go.undef)) →
    ((ps.zip vals).foldl (fun t (pv : Nat × Value) => t.setIfInBounds pv.1 pv.2) tm).size = nt ∧ ∀ t, RelD A W objs L (setPs f ps x t) (((ps.zip vals).foldl (fun t (pv : Nat × Value) => t.setIfInBounds pv.1 pv.2) tm).getD t Go.undef)
  | [], x, vals, f, tm, _, hs, hl, hr, hf => by
    have : x = [] := List.eq_nil_of_length_eq_zero (by simpa using hl)
    subst this
    exact ⟨by simpa using hs, by simpa [setPs] using hf⟩
  | p :: ps, [], vals, f, tm, _, _, hl, _, _ => by simp at hl
  | p :: ps, y :: x, vals, f, tm, hp, hs, hl, hr, hf => by
    simp only [RelA] at hr
    obtain ⟨v, vs', rfl, h1, h2⟩ := hr
    simp only [List.zip_cons_cons, List.foldl_cons, setPs]
    refine setPs_rel ps x vs' _ _ (fun q hq => hp q (List.mem_cons_of_mem _ hq)) (by simpa using hs) (by simpa using hl) h2 fun t => ?_
    rw [getD_put _ _ _ _ (by rw [hs]; exact hp p (List.mem_cons_self ..))]
    simp only [updT]
    by_cases ht : t = p
    · simp only [ht, if_true, RelD]; exact h1
    · simp only [ht, if_false]; exact hf t

theorem zip_toList (qs : Array Nat) (vals : Array Value) (tm : Array Value) : (qs.zip vals).foldl (fun t (p, v) => t.setIfInBounds p v) tm = (qs.toList.zip vals.toList).foldl (fun t (pv : Nat × Value) => t.setIfInBounds pv.1 pv.2) tm := by
  rw [← Array.foldl_toList, Array.toList_zip]

theorem run_enter {ro : Option Nat} {w : World} {fn : FuncId} {tm : Array Value} {ps : Array Nat} {y z : Code} (hro : ∀ l, ro = some l → ∃ r, w.heap[l]? = some (.loop r)) :
    ∃ (l : Nat) (Ds : List Nat) (W1 : World) (rec : Loop), (Instr.enterLoop fn tm ps y z ro).run P w = .ok (l, Ds.map mark) W1 ∧ BelD w.heap.size w W1 ∧ w.heap.size ≤ l ∧ W1.heap[l]? = some (.loop rec) ∧
      rec.state = .ready ∧ rec.pending = none ∧ rec.fn = fn ∧ rec.tmps = tm ∧ rec.params = ps ∧ rec.assign = y ∧ rec.body = z ∧ Ds.Nodup ∧ (∀ D ∈ Ds, W1.heap[D]? = some (.deferred (some [])) ∧ w.heap.size ≤ D) := by
  cases ro with
  | none =>
    refine ⟨_, [w.heap.size], _, { state := .ready, pending := none, fn, tmps := tm, params := ps, assign := y, body := z, defers := w.heap.size }, run_enterLoop_outer _ _ _ _ _, ?_, by simp, ?_, rfl, rfl, rfl, rfl, rfl, rfl, rfl, by simp, ?_⟩
    · exact ⟨((Below.refl _ w).alloc (Nat.le_refl _) _).alloc (by simp) _, Nat.le_refl _⟩
    · have := World.alloc_heap_new (w.alloc (.deferred (some []))) (.loop { state := .ready, pending := none, fn, tmps := tm, params := ps, assign := y, body := z, defers := w.heap.size })
      rwa [World.size_alloc] at this
    · intro D hD
      simp only [List.mem_singleton] at hD
      subst hD
      exact ⟨(Below.heap_alloc _ _ _ (by simp)).trans (World.alloc_heap_new w _), Nat.le_refl _⟩
  | some l0 =>
    obtain ⟨r0, hr0⟩ := hro l0 rfl
    refine ⟨_, [], _, { state := .ready, pending := none, fn, tmps := tm, params := ps, assign := y, body := z, defers := r0.defers }, run_enterLoop_inner hr0 _ _ _ _ _, ?_, Nat.le_refl _, World.alloc_heap_new w _, rfl, rfl, rfl, rfl, rfl, rfl, rfl, List.nodup_nil, fun D hD => by cases hD⟩
    exact ⟨(Below.refl _ w).alloc (Nat.le_refl _) _, Nat.le_refl _⟩

/-- A loop over an iterator. R: the objects between two rounds, by what has come. -/
theorem SatD.rangeF {Q : Exit → DSt → Prop} {st : DSt} {g : Opd} {ps : List Nat} {as bs : DC} {f : FuncId} {caps : List T} {tot : List (List T)} (hit : ItOk P f caps tot) (hlow : 0 < st.low)
    (hg : g.ev st.tmps = .v (.fn (.func f) caps)) (hlen : ∀ x ∈ tot, x.length = ps.length) (R : List (List T) → Obs) (hR0 : R [] = st.objs) (hRf : ∀ pre r, st.nxt ≤ r → R pre r = none)
    (round : ∀ pre x rest, tot = pre ++ x :: rest → SatD P nt as (fun e s1 => e = .normal ∧ SatD P nt bs (fun e s2 => e = .normal ∧ Le s2 ⟨fun _ => .undef, R (pre ++ [x]), st.nxt, st.nxt, []⟩) s1) ⟨setPs st.tmps ps x, R pre, st.nxt, st.nxt, []⟩)
    (done : Q .normal ⟨st.tmps, R tot, st.nxt, st.low, st.todo⟩) : SatD P nt (.rangeF g ps as bs) Q st := by
  refine ⟨fun c hc => ?_⟩
  obtain ⟨g', qs, y, z, rfl, hg', rfl, hlt, hy, hz⟩ := inv_rangeF hc
  intro n κ a w L gd r
  have hJ : κ.J = none := by
    cases hj : κ.J with
    | none => rfl
    | some J => have := r.it (by rw [hj]; rfl); omega
  obtain ⟨W, base, M, w0, hat, h0⟩ := r.r.ex
  have hat' := hat
  unfold Ctx.At at hat'
  simp only [hJ] at hat'
  obtain ⟨htd, rfl, rfl, rfl, rfl⟩ := hat'
  have hgv := Opd.of_rel h0.o.gl h0.tmps hg'
  rw [hg] at hgv
  simp only [RelD, RelT] at hgv
  obtain ⟨vs, hgv, hcaps⟩ := hgv
  have hle : κ.base ≤ w.heap.size := Nat.le_trans h0.o.fr.size0 h0.o.fr.size
  have hww : ∀ b, WW κ.W st.objs L b → b < w.heap.size := by
    rintro b (hb | ⟨r', o', h1, h2⟩)
    · have := h0.o.under b hb; omega
    · exact (h0.o.ob r' o' h1).lt h2
  refine wpIn_rangeFunc ?_
  intro fn hfn
  obtain ⟨l, Ds0, W1, rec, hent, hb1, hlw, hl1, r1, r2, r3, r4, r5, r6, r7, hnd, hDs⟩ := run_enter (P := P) (ro := κ.ro) (w := w) (fn := fn) (tm := a.tmps) (ps := qs) (y := y) (z := z) (fun l hl => by
    obtain ⟨rc, hrc⟩ := gd.rd l hl
    exact ⟨rc, r.r.adv.keeps.lps l rc hrc⟩)
  obtain ⟨fnE, hfnE, hne, hbo⟩ := hit.entry
  have hDl : ∀ D ∈ Ds0, D ≠ l := fun D hD e => by
    have := (hDs D hD).1
    rw [e, hl1] at this
    cases this
  -- what holds between two rounds
  let J : (Nat → Prop) → List (List T) → World → Prop := fun Wk todo A => ∃ pre L', tot = pre ++ todo ∧ RelO κ.base κ.W κ.M κ.w0 (R pre) A L' ∧ Adv κ.W st.objs L w (R pre) L' A ∧ (∀ b, WW κ.W (R pre) L' b → Wk b) ∧
    A.heap[l]? = some (.loop rec) ∧ (∀ D ∈ Ds0, A.heap[D]? = some (.deferred (some []))) ∧ ∀ b, Wk b → b < A.heap.size
  have hrec : ({ rec with state := .ready, pending := none } : Loop) = rec := by cases rec; simp_all
  have hYield : Yields P l J := by
    refine ⟨?_, ?_⟩
    · rintro Wk todo A B ⟨pre, L', h1, h2, h3, h4, h5, h6, h7⟩ hb
      obtain ⟨hO, hA⟩ := RelO.grow h2 hb
      refine ⟨pre, L', h1, hO, h3.comp hA (fun _ h => .inl h) (fun _ h => h), h4, ?_, fun D hD => ?_, fun b hw => Nat.lt_of_lt_of_le (h7 b hw) hb.size⟩
      · exact (hb.block l (Array.getElem?_eq_some_iff.1 h5).1).trans h5
      · exact (hb.block D (Array.getElem?_eq_some_iff.1 (h6 D hD)).1).trans (h6 D hD)
    · rintro Wk x rest vals A ⟨pre, L', h1, h2, h3, h4, h5, h6, h7⟩ hx
      have hxl : x.length = qs.toList.length := hlen x (by rw [h1]; simp)
      have hvl : vals.size = rec.params.size := by
        have := RelA.length hx
        rw [r5]
        simpa [hxl] using this
      have hyr := run_yield (P := P) (args := vals) h5 hvl
      rw [r3, r4, r5, r6, r7] at hyr
      refine ⟨_, _, _, _, hyr, ?_⟩
      have hleA : κ.base ≤ A.heap.size := Nat.le_trans h2.fr.size0 h2.fr.size
      have hlA := (Array.getElem?_eq_some_iff.1 h5).1
      -- the round's own frame
      have hxW : RelA A (WW κ.W (R pre) L') x vals.toList := by
        have hk := Keeps.refl Wk A
        have conv : ∀ (ts : List T) (vs : List Value), RelA A Wk ts vs → RelA A (WW κ.W (R pre) L') ts vs := fun ts vs h => RelA.keep hk.toKeepsC (fun b _ hb => h4 b hb) ts vs h
        exact conv _ _ hx
      have htm : ∀ t, RelD A κ.W (R pre) L' (st.tmps t) (a.tmps.getD t Go.undef) := fun t => RelD.adv h3 _ _ (h0.tmps t)
      have hps := setPs_rel (nt := nt) qs.toList x vals.toList st.tmps a.tmps hlt h0.size hxl hxW htm
      rw [← zip_toList] at hps
      let κ1 : Ctx := ⟨κ.W, R pre, L', A, κ.base, κ.M, κ.w0, none, some l⟩
      have good1 : κ1.Good P := ⟨fun J hJ => (by cases hJ), fun l' hl' => by cases hl'; exact ⟨rec, h5⟩⟩
      have rel1 : Rel κ1 nt ⟨setPs st.tmps qs.toList x, R pre, st.nxt, st.nxt, []⟩ { tmps := (qs.zip vals).foldl (fun t (p, v) => t.setIfInBounds p v) a.tmps, defers := [] } A L' :=
        ⟨⟨⟨κ.W, κ.base, κ.M, κ.w0, ⟨rfl, rfl, rfl, rfl, rfl⟩, hps.1, hps.2, h2⟩, Adv.refl_of_keeps (Keeps.refl _ _), ⟨[], rfl, List.nodup_nil, (fun _ h => by cases h), fun _ => rfl⟩, fun _ => hleA, ⟨st.nxt, hRf pre⟩⟩, hRf pre, hRf pre, fun h => by cases h⟩
      refine roundIn_of_wpIn trivial ?_
      refine wpIn_mono ((round pre x rest h1).run y hy 0 κ1 _ A L' good1 rel1) ?_
      rintro e a' w' ⟨s1, L1, ⟨rfl, hbody⟩, rel2⟩
      have had1 := rel2.r.adv
      have hl2 : w'.heap[l]? = some (.loop rec) := had1.keeps.lps l rec h5
      have hlw' := (Array.getElem?_eq_some_iff.1 hl2).1
      refine ⟨_, run_beginRound hl2 r1, ?_⟩
      -- the record is busy
      let busy : Loop := { rec with state := .busy }
      let κ2 : Ctx := ⟨κ.W, R pre, L', A.putObj l (.loop busy), κ.base, κ.M, κ.w0, none, some l⟩
      have hsA : (A.putObj l (.loop busy)).heap.size = A.heap.size := by simp [World.putObj]
      have hsw : (w'.putObj l (.loop busy)).heap.size = w'.heap.size := by simp [World.putObj]
      have gA : (A.putObj l (.loop busy)).heap[l]? = some (.loop busy) := World.putObj_heap_same hlA
      have gw' : (w'.putObj l (.loop busy)).heap[l]? = some (.loop busy) := World.putObj_heap_same hlw'
      have oA : ∀ b, b ≠ l → (A.putObj l (.loop busy)).heap[b]? = A.heap[b]? := fun b hb => World.putObj_heap_other hb
      have ow : ∀ b, b ≠ l → (w'.putObj l (.loop busy)).heap[b]? = w'.heap[b]? := fun b hb => World.putObj_heap_other hb
      have hnl : ¬ Obj.plain (.loop rec) := fun e => e
      have good2 : κ2.Good P := ⟨fun J hJ => (by cases hJ), fun l' hl' => by cases hl'; exact ⟨busy, gA⟩⟩
      have hlb : κ.base ≤ l := Nat.le_trans hle hlw
      have adv2 : Adv κ.W (R pre) L' (A.putObj l (.loop busy)) s1.objs L1 (w'.putObj l (.loop busy)) := by
        refine ⟨⟨⟨by rw [hsA, hsw]; exact had1.keeps.size, fun b c e fr hb hn => ?_⟩, fun b hb => ?_, fun b rr hb => ?_⟩, fun b hb hw => ?_, had1.fix, had1.arr, had1.yl⟩
        · have hne : b ≠ l := by rintro rfl; rw [gA] at hb; cases hb
          rw [oA b hne] at hb
          rw [ow b hne]
          exact had1.keeps.blk b c e fr hb hn
        · have hne : b ≠ l := by rintro rfl; rw [gA] at hb; cases hb
          rw [oA b hne] at hb
          rw [ow b hne]
          exact had1.keeps.dfr b hb
        · by_cases hne : b = l
          · subst hne
            rw [gA] at hb
            rw [gw']
            exact hb
          · rw [oA b hne] at hb
            rw [ow b hne]
            exact had1.keeps.lps b rr hb
        · rw [hsA] at hb
          exact had1.sub b hb hw
      have rel3 : Rel κ2 nt s1 a' (w'.putObj l (.loop busy)) L1 := by
        obtain ⟨W2, base2, M2, w02, hat2, h02⟩ := rel2.r.ex
        have hat2' := hat2
        obtain ⟨e0, e1, e2, e3, e4⟩ := hat2
        replace h02 : R0 κ.base κ.W κ.M κ.w0 nt s1.tmps s1.objs a' w' L1 := by rw [e1, e2, e3, e4] at h02; exact h02
        have hkc : KeepsC (WW κ.W s1.objs L1) w' (w'.putObj l (.loop busy)) := ⟨by rw [hsw]; exact Nat.le_refl _, fun b c e fr hb _ => putObj_cells hl2 hnl b _ trivial hb⟩
        obtain ⟨Ds, d1, d2, d3, d4⟩ := rel2.r.defers
        refine ⟨⟨⟨κ.W, κ.base, κ.M, κ.w0, ⟨e0, rfl, rfl, rfl, rfl⟩, h02.size, fun t => (relD_keepC hkc (SizeOf.sizeOf (s1.tmps t) + 1)).1 (s1.tmps t) _ (Nat.lt_succ_self _) (h02.tmps t), relO_put h02.o hl2 hnl hlb⟩, adv2, ⟨Ds, d1, d2, fun D hD => ?_, d4⟩, fun _ => by rw [hsA]; exact hleA, rel2.r.fin⟩, rel2.fresh, rel2.low, fun h => by cases h⟩
        have := d3 D hD
        refine ⟨?_, by rw [hsA]; exact this.2⟩
        rw [ow D (by rintro rfl; rw [hl2] at this; cases this.1)]
        exact this.1
      refine wpIn_mono (hbody.run z hz 0 κ2 a' _ L1 good2 rel3) ?_
      rintro e a3 w3 ⟨s3, L3, ⟨rfl, hLe⟩, rel4⟩
      obtain ⟨L4, rel5⟩ := hLe κ2 nt a3 w3 L3 rel4
      have had4 := rel5.r.adv
      have hl3 : w3.heap[l]? = some (.loop busy) := had4.keeps.lps l busy gA
      have hlw3 := (Array.getElem?_eq_some_iff.1 hl3).1
      have hend := run_endRound (P := P) none hl3
      simp only [Option.isNone_none, if_true] at hend
      have hbr : ({ busy with state := .ready, pending := none } : Loop) = rec := by rw [← hrec]
      rw [hbr] at hend
      refine ⟨_, _, hend, rfl, ?_⟩
      have hs3 : (w3.putObj l (.loop rec)).heap.size = w3.heap.size := by simp [World.putObj]
      have g3 : (w3.putObj l (.loop rec)).heap[l]? = some (.loop rec) := World.putObj_heap_same hlw3
      have o3 : ∀ b, b ≠ l → (w3.putObj l (.loop rec)).heap[b]? = w3.heap[b]? := fun b hb => World.putObj_heap_other hb
      have hnb : ¬ Obj.plain (.loop busy) := fun e => e
      have advR : Adv κ.W (R pre) L' A (R (pre ++ [x])) L4 (w3.putObj l (.loop rec)) := by
        refine ⟨⟨⟨by rw [hs3]; have := had4.keeps.size; rw [hsA] at this; exact this, fun b c e fr hb hn => ?_⟩, fun b hb => ?_, fun b rr hb => ?_⟩, fun b hb hw => ?_, had4.fix, had4.arr, had4.yl⟩
        · have hne : b ≠ l := by rintro rfl; rw [h5] at hb; cases hb
          rw [o3 b hne]
          exact had4.keeps.blk b c e fr (by rw [oA b hne]; exact hb) hn
        · have hne : b ≠ l := by rintro rfl; rw [h5] at hb; cases hb
          rw [o3 b hne]
          exact had4.keeps.dfr b (by rw [oA b hne]; exact hb)
        · by_cases hne : b = l
          · subst hne
            rw [h5] at hb
            rw [g3]
            exact hb
          · rw [o3 b hne]
            exact had4.keeps.lps b rr (by rw [oA b hne]; exact hb)
        · exact had4.sub b (by rw [hsA]; exact hb) hw
      obtain ⟨W5, base5, M5, w05, hat5, h05⟩ := rel5.r.ex
      obtain ⟨_, e1, e2, e3, e4⟩ := hat5
      replace h05 : RelO κ.base κ.W κ.M κ.w0 (R (pre ++ [x])) w3 L4 := by have := h05.o; rw [e1, e2, e3, e4] at this; exact this
      have hO4 : RelO κ.base κ.W κ.M κ.w0 (R (pre ++ [x])) (w3.putObj l (.loop rec)) L4 := relO_put h05 hl3 hnb hlb
      have hle4 : κ.base ≤ (w3.putObj l (.loop rec)).heap.size := Nat.le_trans hO4.fr.size0 hO4.fr.size
      have hww4 : ∀ b, WW κ.W (R (pre ++ [x])) L4 b → b < (w3.putObj l (.loop rec)).heap.size := by
        rintro b (hb | ⟨r', o', q1, q2⟩)
        · have := hO4.under b hb; omega
        · exact (hO4.ob r' o' q1).lt q2
      have hAw : A.heap.size ≤ (w3.putObj l (.loop rec)).heap.size := advR.keeps.size
      refine ⟨fun b => Wk b ∨ WW κ.W (R (pre ++ [x])) L4 b, ⟨pre ++ [x], L4, by rw [h1]; simp, hO4, h3.comp advR (fun _ h => .inl h) (fun _ h => h), fun b hb => .inr hb, g3, fun D hD => advR.keeps.dfr D (h6 D hD), ?_⟩, advR.keeps.mono h4, ?_, fun b hb => .inl hb⟩
      · rintro b (hb | hb)
        · exact Nat.lt_of_lt_of_le (h7 b hb) hAw
        · exact hww4 b hb
      · rintro b (hb | hb)
        · exact ⟨Nat.lt_of_lt_of_le (h7 b hb) hAw, .inl hb⟩
        · refine ⟨hww4 b hb, ?_⟩
          by_cases hlt' : b < A.heap.size
          · exact .inl (h4 b (advR.sub b hlt' hb))
          · exact .inr (by omega)
  obtain ⟨hO1, hA1⟩ := RelO.grow h0.o hb1
  have hJ1 : J (WW κ.W st.objs L) tot W1 := ⟨[], L, rfl, by rw [hR0]; exact hO1, by rw [hR0]; exact hA1, by rw [hR0]; exact fun b hb => hb, hl1, fun D hD => (hDs D hD).1, fun b hb => Nat.lt_of_lt_of_le (hww b hb) hb1.size⟩
  refine ⟨l, Ds0.map mark, W1, { target := .fn (.func f) vs, args := #[.func (.yield l) #[] #[]] }, W1, f, #[.func (.yield l) #[] #[]] ++ vs, W1, hent, ?_, fun _ _ => trivial, ?_, (fun h => by cases h), ?_⟩
  · simp only [resolve, rangeCall, hgv, Deferred.ofValue]
    simp [hgv, Deferred.ofValue, Act.eval]
  · simp [invoke, callFunc, hfnE, hne]
    intro hnone
    simp [hnone] at hbo
  · refine callsIn_wideR ((hit.run l J (WW κ.W st.objs L) W1 vs hYield hJ1 ?_ (fun b hb => Nat.lt_of_lt_of_le (hww b hb) hb1.size) hO1.gl).mono ?_)
    · exact RelL.keep (Keeps.of_below hb1.toBelow (W := WW κ.W st.objs L)).toKeepsC (fun _ _ h => h) _ _ hcaps
    · rintro e B ⟨⟨v, rfl⟩, W', pre, L', h1, h2, h3, h4, h5, h6, h7⟩
      have : pre = tot := by simpa using h1.symm
      subst this
      refine ⟨none, _, by have := run_endLoop (P := P) h5 (by rw [r1]; simp); rw [r2] at this; exact this, ?_⟩
      have hlB := (Array.getElem?_eq_some_iff.1 h5).1
      let off : Loop := { rec with state := .exhausted, pending := none }
      have hnl : ¬ Obj.plain (.loop rec) := fun e => e
      have hlb : κ.base ≤ l := Nat.le_trans hle hlw
      have hsB : (B.putObj l (.loop off)).heap.size = B.heap.size := by simp [World.putObj]
      have oB : ∀ b, b ≠ l → (B.putObj l (.loop off)).heap[b]? = B.heap[b]? := fun b hb => World.putObj_heap_other hb
      have hkc : KeepsC (WW κ.W (R pre) L') B (B.putObj l (.loop off)) := ⟨by rw [hsB]; exact Nat.le_refl _, fun b c e fr hb _ => putObj_cells h5 hnl b _ trivial hb⟩
      have hgw := r.r.adv.keeps.size
      have advT : Adv κ.W κ.go κ.gL κ.gw (R pre) L' (B.putObj l (.loop off)) := by
        have h := r.r.adv.comp h3 (fun _ h => .inl h) (fun _ h => h)
        refine ⟨⟨⟨by rw [hsB]; exact h.keeps.size, fun b c e fr hb hn => putObj_cells h5 hnl b _ trivial (h.keeps.blk b c e fr hb hn)⟩, fun b hb => ?_, fun b rr hb => ?_⟩, h.sub, h.fix, h.arr, h.yl⟩
        · rw [oB b (by have := (Array.getElem?_eq_some_iff.1 hb).1; omega)]
          exact h.keeps.dfr b hb
        · rw [oB b (by have := (Array.getElem?_eq_some_iff.1 hb).1; omega)]
          exact h.keeps.lps b rr hb
      obtain ⟨Ds, d1, d2, d3, d4⟩ := r.r.defers
      refine ⟨_, L', done, ⟨⟨κ.W, κ.base, κ.M, κ.w0, hat, h0.size, fun t => (relD_keepC hkc (SizeOf.sizeOf (st.tmps t) + 1)).1 (st.tmps t) _ (Nat.lt_succ_self _) (RelD.adv h3 _ _ (h0.tmps t)), relO_put h2 h5 hnl hlb⟩, advT, ⟨Ds0 ++ Ds, by rw [List.map_append, ← d1], ?_, fun D hD => ?_, fun h => by rw [hJ] at h; cases h⟩, r.r.bg, ⟨st.nxt, hRf pre⟩⟩, hRf pre, r.low, r.it⟩
      · rw [List.nodup_append]
        refine ⟨hnd, d2, fun D hD D' hD' e => ?_⟩
        subst e
        have k1 := (hDs D hD).2
        have k2 := (Array.getElem?_eq_some_iff.1 (d3 D hD').1).1
        omega
      · rcases List.mem_append.1 hD with hD | hD
        · refine ⟨?_, Nat.le_trans hgw (hDs D hD).2⟩
          rw [oB D (hDl D hD)]
          exact h6 D hD
        · refine ⟨?_, (d3 D hD).2⟩
          have k2 := (Array.getElem?_eq_some_iff.1 (d3 D hD).1).1
          rw [oB D (by omega)]
          exact h3.keeps.dfr D (d3 D hD).1

end

/-! States in normal form, told anew. -/
def corTms (objs objs' : Obs) (σ : Nat → Nat) (tm : Nat → DV) : List (Nat × DV) → Prop
  | [] => True
  | (k, d) :: l => corD objs objs' σ (tm k) d ∧ corTms objs objs' σ tm l
def corObs (objs objs' : Obs) (σ : Nat → Nat) : List (Nat × Ob) → Prop
  | [] => True
  | (r, o) :: l => (∃ o0, objs (σ r) = some o0 ∧ corOb objs objs' σ o0 o) ∧ corObs objs objs' σ l
def keysBelow (n : Nat) : List (Nat × Ob) → Prop
  | [] => True
  | (r, _) :: l => r < n ∧ keysBelow n l
def keysFrom (n : Nat) : List (Nat × Ob) → Prop
  | [] => True
  | (r, _) :: l => n ≤ r ∧ keysFrom n l
/-- The old names of the kept objects are different. -/
def apartK (σ : Nat → Nat) (r : Nat) : List (Nat × Ob) → Prop
  | [] => True
  | (r', _) :: l => (σ r = σ r' → r = r') ∧ apartK σ r l
def apartKs (σ : Nat → Nat) : List (Nat × Ob) → Prop
  | [] => True
  | (r, _) :: l => apartK σ r l ∧ apartKs σ l
theorem obs_mem : ∀ {l : List (Nat × Ob)} {r : Nat} {o : Ob}, obs l r = some o → (r, o) ∈ l
  | [], _, _, h => by cases h
  | (j, x) :: l, r, o, h => by
    simp only [obs] at h
    split at h
    · rename_i e; cases h; subst e; exact List.mem_cons_self ..
    · exact List.mem_cons_of_mem _ (obs_mem h)
theorem obs_key {l : List (Nat × Ob)} {r : Nat} (h : obs l r ≠ none) : ∃ o, (r, o) ∈ l := by
  cases ho : obs l r with
  | none => exact absurd ho h
  | some o => exact ⟨o, obs_mem ho⟩
theorem keysBelow_mem {n : Nat} : ∀ {l : List (Nat × Ob)}, keysBelow n l → ∀ r o, (r, o) ∈ l → r < n
  | [], _, _, _, h => by cases h
  | (j, x) :: l, hk, r, o, h => by
    rcases List.mem_cons.1 h with e | h
    · cases e; exact hk.1
    · exact keysBelow_mem hk.2 r o h
theorem keysFrom_mem {n : Nat} : ∀ {l : List (Nat × Ob)}, keysFrom n l → ∀ r o, (r, o) ∈ l → n ≤ r
  | [], _, _, _, h => by cases h
  | (j, x) :: l, hk, r, o, h => by
    rcases List.mem_cons.1 h with e | h
    · cases e; exact hk.1
    · exact keysFrom_mem hk.2 r o h
theorem corObs_mem {objs objs' : Obs} {σ : Nat → Nat} : ∀ {l : List (Nat × Ob)}, corObs objs objs' σ l → ∀ r o, (r, o) ∈ l → ∃ o0, objs (σ r) = some o0 ∧ corOb objs objs' σ o0 o
  | [], _, _, _, h => by cases h
  | (j, x) :: l, hk, r, o, h => by
    rcases List.mem_cons.1 h with e | h
    · cases e; exact hk.1
    · exact corObs_mem hk.2 r o h
theorem apartK_mem {σ : Nat → Nat} {r : Nat} : ∀ {l : List (Nat × Ob)}, apartK σ r l → ∀ r' o, (r', o) ∈ l → σ r = σ r' → r = r'
  | [], _, _, _, h => by cases h
  | (j, x) :: l, hk, r', o, h => by
    rcases List.mem_cons.1 h with e | h
    · cases e; exact hk.1
    · exact apartK_mem hk.2 r' o h
theorem apartKs_mem {σ : Nat → Nat} : ∀ {l : List (Nat × Ob)}, apartKs σ l → ∀ r1 r2 o1 o2, (r1, o1) ∈ l → (r2, o2) ∈ l → σ r1 = σ r2 → r1 = r2
  | [], _, _, _, _, _, h, _ => by cases h
  | (j, x) :: l, hk, r1, r2, o1, o2, h1, h2 => by
    rcases List.mem_cons.1 h1 with e1 | h1
    · cases e1
      rcases List.mem_cons.1 h2 with e2 | h2
      · cases e2; exact fun _ => rfl
      · exact apartK_mem hk.1 r2 o2 h2
    · rcases List.mem_cons.1 h2 with e2 | h2
      · cases e2; exact fun e => (apartK_mem hk.1 r1 o1 h1 e.symm).symm
      · exact apartKs_mem hk.2 r1 r2 o1 o2 h1 h2
@[simp] theorem gone_obs_nil (σ : Nat → Nat) (r : Nat) : gone (obs []) σ r := fun r' h => by simp [obs] at h
theorem gone_obs {σ : Nat → Nat} {r j : Nat} {o : Ob} {l : List (Nat × Ob)} (h1 : σ j ≠ r) (h2 : gone (obs l) σ r) : gone (obs ((j, o) :: l)) σ r := by
  intro r' hr'
  by_cases hj : r' = j
  · subst hj; exact h1
  · exact h2 r' (by rw [obs_cons, if_neg hj] at hr'; exact hr')

theorem look_cor {objs objs' : Obs} {σ : Nat → Nat} {tm : Nat → DV} : ∀ (l : List (Nat × DV)), corTms objs objs' σ tm l → ∀ k, corD objs objs' σ (tm k) (look l k)
  | [], _, k => by
    show corD objs objs' σ (tm k) .undef
    cases tm k <;> simp [corD]
  | (j, d) :: l, h, k => by
    simp only [look]
    split
    · rename_i e; subst e; exact h.1
    · exact look_cor l h.2 k

/-- The same, of a run that began without objects. -/
theorem Le.corL {tm : Nat → DV} {o0 o : List (Nat × Ob)} {l : List (Nat × DV)} {nxt nxt' : Nat} {td : List (List T)} {low : Nat} (σ : Nat → Nat) (hk0 : keysFrom low o0) (hk : keysBelow nxt' o) (ha : apartKs σ o)
    (hob : corObs (obs o0) (obs o) σ o) (htm : corTms (obs o0) (obs o) σ tm l) : Le ⟨tm, obs o0, nxt, low, td⟩ ⟨look l, obs o, nxt', low, td⟩ := by
  refine Le.cor σ rfl rfl (fun r hr => ?_) (fun r' o' h => corObs_mem hob r' o' (obs_mem h)) (fun r1 r2 h1 h2 e => ?_) (fun r hr o' h => ?_) (fun k => look_cor l htm k)
  · cases ho : obs o r with
    | none => exact ho
    | some x => have := keysBelow_mem hk r x (obs_mem ho); simp only at hr; omega
  · obtain ⟨x1, k1⟩ := obs_key h1
    obtain ⟨x2, k2⟩ := obs_key h2
    exact apartKs_mem ha r1 r2 x1 x2 k1 k2 e
  · have := keysFrom_mem hk0 r o' (obs_mem h)
    simp only at hr
    omega
/-- The same, the names kept. -/
theorem Le.keep {tm : Nat → DV} {o0 o : List (Nat × Ob)} {l : List (Nat × DV)} {nxt nxt' : Nat} {td : List (List T)} {low : Nat} (hk0 : keysFrom low o0) (hk : keysBelow nxt' o)
    (hob : corObs (obs o0) (obs o) id o) (htm : corTms (obs o0) (obs o) id tm l) : Le ⟨tm, obs o0, nxt, low, td⟩ ⟨look l, obs o, nxt', low, td⟩ := by
  refine Le.corL id hk0 hk ?_ hob htm
  clear hk hob htm
  induction o with
  | nil => trivial
  | cons p o ih =>
    refine ⟨?_, ih⟩
    clear ih
    induction o with
    | nil => trivial
    | cons q o ih => exact ⟨fun h => h, ih⟩
attribute [simp] corTms corObs keysBelow keysFrom apartK apartKs corD corDs corPtr corBsl corAref corAptr bundle corOb

/-- These slots hold these values. -/
def allAt (tm : Nat → DV) : List (Nat × DV) → Prop
  | [] => True
  | (k, d) :: l => tm k = d ∧ allAt tm l
theorem allAt_le {tm : Nat → DV} : ∀ {l : List (Nat × DV)}, allAt tm l → ∀ k, look l k = .undef ∨ look l k = tm k
  | [], _, _ => .inl rfl
  | (j, d) :: l, h, k => by
    simp only [look]
    split
    · rename_i e; subst e; exact .inr h.1.symm
    · exact allAt_le h.2 k
section
variable {P : Program} {nt : Nat} {Γ : Env} {Q : Exit → DSt → Prop} {tm : Nat → DV} {ob : Obs} {nxt low : Nat} {td : List (List T)}
/-- A region, told by what it leaves. -/
theorem SatD.regTo (hΓ : EnvOk P Γ) (hm : P.follows .mixedOrders = true) {draw : Bool} {rs : List RO} (l : List (Nat × DV)) (ob' : Obs)
    (h : exec Γ nxt rs ⟨tm, ob, td⟩ fun s => allAt s.tmps l ∧ s.objs = ob' ∧ s.todo = td) (k : Q .normal ⟨look l, ob', nxt + nt + 1, low, td⟩) : SatD P nt (.region draw rs) Q ⟨tm, ob, nxt, low, td⟩ := by
  obtain ⟨h1, h2, h3, h4⟩ := exec_sound _ _ _ h
  refine SatD.mono_le (Q := fun e s => e = .normal ∧ s = ⟨(runSt Γ nxt rs ⟨tm, ob, td⟩).tmps, (runSt Γ nxt rs ⟨tm, ob, td⟩).objs, nxt + nt + 1, low, (runSt Γ nxt rs ⟨tm, ob, td⟩).todo⟩) (SatD.region hΓ hm (st := ⟨tm, ob, nxt, low, td⟩) h1 ⟨rfl, rfl⟩) ?_
  rintro e s ⟨rfl, rfl⟩
  refine ⟨_, Le.slots (allAt_le h2), ?_⟩
  simp only [h3, h4]
  exact k
theorem SatD.regToSeq (hΓ : EnvOk P Γ) (hm : P.follows .mixedOrders = true) {draw : Bool} {rs : List RO} {b : DC} (l : List (Nat × DV)) (ob' : Obs)
    (h : exec Γ nxt rs ⟨tm, ob, td⟩ fun s => allAt s.tmps l ∧ s.objs = ob' ∧ s.todo = td) (k : SatD P nt b Q ⟨look l, ob', nxt + nt + 1, low, td⟩) : SatD P nt (.seq (.region draw rs) b) Q ⟨tm, ob, nxt, low, td⟩ :=
  SatD.seq (SatD.regTo hΓ hm l ob' h k)
/-- The same of a region that writes no object. -/
theorem SatD.regToS (hΓ : EnvOk P Γ) (hm : P.follows .mixedOrders = true) {draw : Bool} {rs : List RO} {b : DC} (l : List (Nat × DV))
    (h : exec Γ nxt rs ⟨tm, ob, td⟩ fun s => allAt s.tmps l ∧ s.objs = ob ∧ s.todo = td) (k : SatD P nt b Q ⟨look l, ob, nxt + nt + 1, low, td⟩) : SatD P nt (.seq (.region draw rs) b) Q ⟨tm, ob, nxt, low, td⟩ :=
  SatD.regToSeq hΓ hm l ob h k
/-- Code that falls out of its end, on every way in one state. -/
theorem SatD.to {d : DC} {st : DSt} (st2 : DSt) (h : SatD P nt d (fun e s => e = .normal ∧ Le s st2) st) (k : Q .normal st2) : SatD P nt d Q st :=
  SatD.mono_le h fun e s ⟨h1, h2⟩ => by subst h1; exact ⟨st2, h2, k⟩
end
attribute [simp] allAt
end Go.DM
/- The D-machine, part U: more rules. Conditions: none. -/
namespace Go.DM
set_option linter.unusedVariables false
open Go.RowKit
set_option linter.unusedSectionVars false
variable [Laid]
section
variable {P : Program} {nt : Nat} {Γ : Env} {Q : Exit → DSt → Prop} {tm : Nat → DV} {ob : Obs} {nxt low : Nat} {td : List (List T)}
end

theorem look_args : ∀ (ts : List T) (i k : Nat), look (((ts.map .v).zipIdx i).map fun p => (p.2, p.1)) k = .undef ∨ look (((ts.map .v).zipIdx i).map fun p => (p.2, p.1)) k = argD (if i ≤ k then ts[k - i]? else none)
  | [], i, k => .inl rfl
  | t :: ts, i, k => by
    simp only [List.map_cons, List.zipIdx_cons, look_cons]
    split
    · rename_i h; subst h; exact .inr (by simp [argD])
    · rename_i h
      rcases look_args ts (i + 1) k with e | e
      · exact .inl e
      · right
        rw [e]
        by_cases hk : i + 1 ≤ k
        · rw [if_pos hk, if_pos (by omega), show k - i = (k - (i + 1)) + 1 by omega, List.getElem?_cons_succ]
        · have : ¬ i ≤ k := by omega
          rw [if_neg hk, if_neg this]
/-- The objects with one told anew. -/
def setO (f : Obs) (r : Nat) (o : Ob) : Obs := fun k => if k = r then some o else f k
theorem setO_apply (f : Obs) (r : Nat) (o : Ob) (k : Nat) : setO f r o k = if k = r then some o else f k := rfl
@[simp] theorem putO_setO (f : Obs) (r : Nat) (o o' : Ob) : putO (setO f r o) (some (r, o')) = setO f r o' := by
  funext k
  simp only [putO_some, setO]
  split <;> rfl
@[simp] theorem setO_setO (f : Obs) (r : Nat) (o o' : Ob) : setO (setO f r o) r o' = setO f r o' := by
  funext k
  simp only [setO]
  split <;> rfl
theorem setO_none {f : Obs} {r : Nat} {o o' : Ob} (h : f r = some o) {k : Nat} (hk : f k = none) : setO f r o' k = none := by
  simp only [setO]
  split
  · rename_i e; rw [e, h] at hk; cases hk
  · exact hk
/-- Fewer slots, another next name. -/
theorem Le.same {tm : Nat → DV} {ob : Obs} {nxt nxt' low : Nat} {td : List (List T)} {l : List (Nat × DV)} (h : ∀ r, nxt' ≤ r → ob r = none) (hl : allAt tm l) : Le ⟨tm, ob, nxt, low, td⟩ ⟨look l, ob, nxt', low, td⟩ :=
  Le.trans (Le.slots (allAt_le hl)) fun κ nt a w L r => ⟨L, ⟨r.r, h, r.low, r.it⟩⟩
theorem look_argsV : ∀ (ds : List DV) (i k : Nat), look ((ds.zipIdx i).map fun p => (p.2, p.1)) k = .undef ∨ look ((ds.zipIdx i).map fun p => (p.2, p.1)) k = argV (if i ≤ k then ds[k - i]? else none)
  | [], i, k => .inl rfl
  | t :: ts, i, k => by
    simp only [List.map_cons, List.zipIdx_cons, look_cons]
    split
    · rename_i h; subst h; exact .inr (by simp [argV])
    · rename_i h
      rcases look_argsV ts (i + 1) k with e | e
      · exact .inl e
      · right
        rw [e]
        by_cases hk : i + 1 ≤ k
        · rw [if_pos hk, if_pos (by omega), show k - i = (k - (i + 1)) + 1 by omega, List.getElem?_cons_succ]
        · have : ¬ i ≤ k := by omega
          rw [if_neg hk, if_neg this]
/-- The beginning of a function that may write, its slots told one by one. -/
theorem initS_sat {P : Program} {nt : Nat} {d : DC} {Q : Exit → DSt → Prop} {args : List DV} {objs : Obs} {N : Nat} (h : SatD P nt d Q ⟨look (args.zipIdx.map fun p => (p.2, p.1)), objs, N, N, []⟩) : SatD P nt d Q (initS args objs N) := by
  refine SatD.le (Le.slots (st := initS args objs N) (tm := look (args.zipIdx.map fun p => (p.2, p.1))) fun k => ?_) h
  have := look_argsV args 0 k
  simpa [initS] using this

@[simp] theorem tOfs_map (ob : Obs) : ∀ x : List T, tOfs ob (x.map .v) = x
  | [] => rfl
  | t :: x => by simp [tOfs_map ob x]
@[simp] theorem setO_get (f : Obs) (r : Nat) (o : Ob) : setO f r o r = some o := by simp [setO]
theorem CallsS.of {P : Program} {f : FuncId} {args : List DV} {objs : Obs} {r r' : SRes} (h : CallsS P f args objs r) (h1 : r'.objs = r.objs) (h2 : r'.val = r.val) : CallsS P f args objs r' := by
  obtain ⟨ok, val, ob⟩ := r
  obtain ⟨ok', val', ob'⟩ := r'
  simp only at h1 h2
  subst h1 h2
  exact ⟨h.entry, h.run⟩
end Go.DM
/- The D-machine, part X: a nil slice told as an array without rows. Conditions: none. -/
namespace Go.DM
open Go.RowKit
set_option linter.unusedSimpArgs false
set_option linter.unusedVariables false
set_option linter.unusedSectionVars false
variable [Laid]

def Loc.at (L : Loc) (q : Nat) (x : Value) : Loc := ⟨L.blk, fun k => if k = q then x else L.sl k, L.yl⟩
section
variable {base : Nat} {W M : Nat → Prop} {w0 w : World} {objs : Obs} {L : Loc}
theorem setO_cases {f : Obs} {q : Nat} {o o' : Ob} {r : Nat} (h : setO f q o r = some o') : (r = q ∧ o' = o) ∨ (r ≠ q ∧ f r = some o') := by
  simp only [setO] at h
  split at h
  · rename_i e; exact .inl ⟨e, (Option.some.inj h).symm⟩
  · rename_i e; exact .inr ⟨e, h⟩
theorem setO_of {f : Obs} {q : Nat} {o o' : Ob} {r : Nat} (h : r ≠ q) (k : f r = some o') : setO f q o r = some o' := by
  simp only [setO, if_neg h, k]
theorem own_at {q : Nat} {x : Value} {r : Nat} {o : Ob} (h : r ≠ q) : (L.at q x).own r o = L.own r o := by
  cases o <;> simp [Loc.own, Loc.at, h]
theorem own_nil {q : Nat} {a : Option Addr} {v e sz : Nat} {rows : List (List T)} : (L.at q (.slice a 0 0)).own q (.arr v e sz rows) = none := by
  cases a <;> simp [Loc.own, Loc.at, capBlock]
theorem ww_nil {q : Nat} {a : Option Addr} {e sz : Nat} {b : Nat} (h : WW W (setO objs q (.arr 0 e sz [])) (L.at q (.slice a 0 0)) b) : WW W objs L b := by
  rcases h with h | ⟨r, o, hr, hb⟩
  · exact .inl h
  · rcases setO_cases hr with ⟨rfl, rfl⟩ | ⟨hne, hr⟩
    · rw [own_nil] at hb; cases hb
    · rw [own_at hne] at hb; exact .inr ⟨r, o, hr, hb⟩
theorem nil_adv {q : Nat} {a : Option Addr} {e sz : Nat} (hq : objs q = none) : Adv W objs L w (setO objs q (.arr 0 e sz [])) (L.at q (.slice a 0 0)) w := by
  refine ⟨Keeps.refl _ _, fun b _ h => ww_nil h, fun r o hr hk => ?_, fun r ver e' sz' rows hr => ?_, rfl⟩
  · have hne : r ≠ q := fun h => by rw [h, hq] at hr; cases hr
    exact ⟨rfl, o, setO_of hne hr, rfl⟩
  · have hne : r ≠ q := fun h => by rw [h, hq] at hr; cases hr
    exact ⟨ver, e', sz', rows, setO_of hne hr, Nat.le_refl _, fun _ => ⟨by simp [Loc.at, hne], rfl, rfl⟩⟩
theorem nil_relO (hO : RelO base W M w0 objs w L) {q : Nat} {a : Option Addr} {e sz : Nat} (hsz : 0 < sz) (hq : objs q = none) : RelO base W M w0 (setO objs q (.arr 0 e sz [])) w (L.at q (.slice a 0 0)) := by
  have hA := nil_adv (W := W) (w := w) (L := L) (a := a) (e := e) (sz := sz) hq
  refine ⟨hO.fr, fun r o hr => ?_, fun r r' o o' b hne h1 h2 hb => ?_, fun r o b hr hb => ?_, hO.under, hO.gl.keep hA.keeps.toKeepsC hA.sub⟩
  · rcases setO_cases hr with ⟨rfl, rfl⟩ | ⟨hne, hr⟩
    · refine ⟨hsz, fun x hx => (by cases hx), fun g hg => ?_, .inl ⟨rfl, a, by simp [Loc.at]⟩⟩
      exfalso
      simp only [Loc.at, if_true] at hg
      cases a <;> simp [capBlock] at hg
    · have hk := hO.ob r o hr
      cases o with
      | box cs =>
        obtain ⟨c, f, hcc, hrel, hm⟩ := hk
        exact ⟨c, f, hcc, RelDs.adv hA cs _ hrel, hm⟩
      | map shs agg c es =>
        obtain ⟨arr, hcc, hrel, q1, q2, q3, hm⟩ := hk
        exact ⟨arr, hcc, RelEs.adv hA es _ hrel, q1, q2, q3, hm⟩
      | iter m s sn l =>
        obtain ⟨hcc, hmp, hm⟩ := hk
        exact ⟨hcc, (hA.mp m hmp).2, hm⟩
      | arr ver e' sz' rows =>
        obtain ⟨g1, g2, g3, g4⟩ := hk
        have hs : (L.at q (.slice a 0 0)).sl r = L.sl r := by simp [Loc.at, hne]
        refine ⟨g1, g2, by rw [hs]; exact g3, ?_⟩
        rw [hs]
        rcases g4 with g4 | ⟨g, cap, cur, hv, hp, hh, k1, k2, k3, k4⟩
        · exact .inl g4
        · exact .inr ⟨g, cap, cur, hv, hp, hh, k1, k2, k3, RelL.keep (Keeps.refl (WW W objs L) w).toKeepsC (fun b _ hb => ww_nil hb) _ _ k4⟩
  · rcases setO_cases h1 with ⟨rfl, rfl⟩ | ⟨n1, h1⟩
    · rw [own_nil] at hb; cases hb
    · rw [own_at n1] at hb
      rcases setO_cases h2 with ⟨rfl, rfl⟩ | ⟨n2, h2⟩
      · rw [own_nil]; exact fun h => by cases h
      · rw [own_at n2]; exact hO.apart r r' o o' b hne h1 h2 hb
  · rcases setO_cases hr with ⟨rfl, rfl⟩ | ⟨n1, hr⟩
    · rw [own_nil] at hb; cases hb
    · rw [own_at n1] at hb; exact hO.outer r o b hr hb
end

/-- A slot that holds nil is told as an array without rows. -/
theorem Le.nilSlot {tm : Nat → DV} {ob : Obs} {nxt low : Nat} {td : List (List T)} {k : Nat} (e : Nat) {sz : Nat} (hsz : 0 < sz) (hk : tm k = .nil0) :
    Le ⟨tm, ob, nxt, low, td⟩ ⟨updT tm (some k) (.aref nxt 0), setO ob nxt (.arr 0 e sz []), nxt + 1, low, td⟩ := by
  intro κ nt a w L h
  have hq : ob nxt = none := h.fresh nxt (Nat.le_refl _)
  obtain ⟨W, base, M, w0, hat, h0⟩ := h.r.ex
  have hx := h0.tmps k
  simp only [hk, RelD] at hx
  obtain ⟨ad, hx⟩ := hx
  have hA := nil_adv (W := W) (w := w) (L := L) (a := ad) (e := e) (sz := sz) hq
  have hsub := hat.sub
  have hfr : ∀ r, nxt + 1 ≤ r → setO ob nxt (.arr 0 e sz []) r = none := fun r hr => by
    simp only [setO]; rw [if_neg (by omega)]; exact h.fresh r (by simp only; omega)
  refine ⟨L.at nxt (.slice ad 0 0), ⟨⟨W, base, M, w0, hat, h0.size, fun t => ?_, nil_relO h0.o hsz hq⟩, Adv.comp h.r.adv hA hsub.1 hsub.2, h.r.defers, h.r.bg, ⟨_, hfr⟩⟩, hfr, h.low, h.it⟩
  simp only [updT]
  by_cases ht : t = k
  · subst ht
    simp only [if_true, RelD]
    refine ⟨⟨ad, 0, 0, hx⟩, 0, e, sz, [], by simp, Nat.le_refl _, fun _ => ?_⟩
    rw [hx]; simp [Loc.at]
  · simp only [ht, if_false]
    exact RelD.adv hA _ _ (h0.tmps t)

theorem relDs_set {w : World} {W : Nat → Prop} {objs : Obs} {L : Loc} : ∀ (cs : List DV) (xs : List Value) (k : Nat) (d : DV), RelDs w W objs L cs xs → (∀ x, xs[k]? = some x → RelD w W objs L d x) → RelDs w W objs L (cs.set k d) xs
  | [], xs, k, d, h, _ => by simpa using h
  | c :: cs, xs, 0, d, h, hd => by
    simp only [RelDs] at h
    obtain ⟨x, xs', rfl, h1, h2, h3⟩ := h
    simp only [List.set_cons_zero, RelDs]
    exact ⟨x, xs', rfl, h1, hd x (by simp), h3⟩
  | c :: cs, xs, k + 1, d, h, hd => by
    simp only [RelDs] at h
    obtain ⟨x, xs', rfl, h1, h2, h3⟩ := h
    simp only [List.set_cons_succ, RelDs]
    exact ⟨x, xs', rfl, h1, h2, relDs_set cs xs' k d h3 fun y hy => hd y (by simpa using hy)⟩
theorem relDs_get {w : World} {W : Nat → Prop} {objs : Obs} {L : Loc} : ∀ (cs : List DV) (xs : List Value) (k : Nat) (d : DV) (x : Value), RelDs w W objs L cs xs → cs[k]? = some d → xs[k]? = some x → RelD w W objs L d x
  | [], xs, k, d, x, h, hk, _ => by simp at hk
  | c :: cs, xs, 0, d, x, h, hk, hx => by
    simp only [RelDs] at h
    obtain ⟨y, xs', rfl, h1, h2, h3⟩ := h
    simp only [List.getElem?_cons_zero, Option.some.injEq] at hk hx
    subst hk hx; exact h2
  | c :: cs, xs, k + 1, d, x, h, hk, hx => by
    simp only [RelDs] at h
    obtain ⟨y, xs', rfl, h1, h2, h3⟩ := h
    simp only [List.getElem?_cons_succ] at hk hx
    exact relDs_get cs xs' k d x h3 hk hx
theorem relDs_some {w : World} {W : Nat → Prop} {objs : Obs} {L : Loc} : ∀ (cs : List DV) (xs : List Value) (k : Nat) (d : DV), RelDs w W objs L cs xs → cs[k]? = some d → ∃ x, xs[k]? = some x
  | [], xs, k, d, h, hk => by simp at hk
  | c :: cs, xs, 0, d, h, hk => by
    simp only [RelDs] at h
    obtain ⟨y, xs', rfl, h1, h2, h3⟩ := h
    exact ⟨y, by simp⟩
  | c :: cs, xs, k + 1, d, h, hk => by
    simp only [RelDs] at h
    obtain ⟨y, xs', rfl, h1, h2, h3⟩ := h
    simp only [List.getElem?_cons_succ] at hk
    obtain ⟨x, hx⟩ := relDs_some cs xs' k d h3 hk
    exact ⟨x, by simpa using hx⟩

/-- A cell of a box that holds nil is told as an array without rows. -/
theorem Le.nilCell {tm : Nat → DV} {ob : Obs} {nxt low : Nat} {td : List (List T)} (r : Nat) (k : Nat) {cs : List DV} (e : Nat) {sz : Nat} (hsz : 0 < sz) (hr : ob r = some (.box cs)) (hk : cs[k]? = some .nil0) :
    Le ⟨tm, ob, nxt, low, td⟩ ⟨tm, setO (setO ob nxt (.arr 0 e sz [])) r (.box (cs.set k (.aref nxt 0))), nxt + 1, low, td⟩ := by
  intro κ nt a w L h
  have hq : ob nxt = none := h.fresh nxt (Nat.le_refl _)
  have hrq : r ≠ nxt := fun e => by rw [e, hq] at hr; cases hr
  have hrlt : r < nxt := Nat.lt_of_not_le fun hle => by have := h.fresh r hle; simp only at this; rw [this] at hr; cases hr
  obtain ⟨W, base, M, w0, hat, h0⟩ := h.r.ex
  have hO := h0.o
  obtain ⟨c, f, hcc, hrel, hm⟩ := hO.ob r _ hr
  obtain ⟨x, hx⟩ := relDs_some _ _ _ _ hrel hk
  have hxr := relDs_get _ _ _ _ _ hrel hk hx
  simp only [RelD] at hxr
  obtain ⟨ad, hxa⟩ := hxr
  have hA := nil_adv (W := W) (w := w) (L := L) (a := ad) (e := e) (sz := sz) hq
  have hO1 := nil_relO (a := ad) (e := e) hO hsz hq
  obtain ⟨o1, ho1⟩ : ∃ o1, setO ob nxt (.arr 0 e sz []) = o1 := ⟨_, rfl⟩
  obtain ⟨L1, hL1⟩ : ∃ L1, L.at nxt (.slice ad 0 0) = L1 := ⟨_, rfl⟩
  have hr1 : o1 r = some (.box cs) := by rw [← ho1]; exact setO_of hrq hr
  rw [ho1, hL1] at hA hO1
  have hww : ∀ {V : Nat → Prop} b, WW V (setO o1 r (.box (cs.set k (.aref nxt 0)))) L1 b → WW V o1 L1 b := by
    intro V b hb
    rcases hb with hb | ⟨r', o, hr', hb⟩
    · exact .inl hb
    · rcases setO_cases hr' with ⟨rfl, rfl⟩ | ⟨_, hr'⟩
      · exact .inr ⟨r', _, hr1, hb⟩
      · exact .inr ⟨r', o, hr', hb⟩
  have hA2 : Adv W o1 L1 w (setO o1 r (.box (cs.set k (.aref nxt 0)))) L1 w := by
    refine ⟨Keeps.refl _ _, fun b _ h => hww b h, fun r' o' hr' hk' => ?_, fun r' ver e' sz' rows hr' => ?_, rfl⟩
    · by_cases he : r' = r
      · subst he; rw [hr1] at hr'; cases hr'; exact ⟨rfl, .box (cs.set k (.aref nxt 0)), by simp [setO], rfl⟩
      · exact ⟨rfl, o', setO_of he hr', rfl⟩
    · have he : r' ≠ r := fun he => by rw [he, hr1] at hr'; cases hr'
      exact ⟨ver, e', sz', rows, setO_of he hr', Nat.le_refl _, fun _ => ⟨rfl, rfl, rfl⟩⟩
  have hO2 : RelO base W M w0 (setO o1 r (.box (cs.set k (.aref nxt 0)))) w L1 := by
    refine ⟨hO1.fr, fun r' o hr' => ?_, fun p p' o o' b hne h1 h2 hb => ?_, fun p o b hp hb => ?_, hO1.under, hO1.gl.keep hA2.keeps.toKeepsC hA2.sub⟩
    · rcases setO_cases hr' with ⟨rfl, rfl⟩ | ⟨hne, hr'⟩
      · refine ⟨c, f, by rw [← hL1]; exact hcc, relDs_set _ _ _ _ (RelDs.adv hA2 _ _ (RelDs.adv hA _ _ hrel)) fun y hy => ?_, by rw [← hL1]; exact hm⟩
        rw [hx] at hy
        cases hy
        simp only [RelD]
        refine ⟨⟨ad, 0, 0, hxa⟩, 0, e, sz, [], setO_of (Ne.symm hrq) (by rw [← ho1]; simp), Nat.le_refl _, fun _ => ?_⟩
        rw [hxa, ← hL1]; simp [Loc.at]
      · have hk' := hO1.ob r' o hr'
        cases o with
        | box cs' =>
          obtain ⟨c', f', hcc', hrel', hm'⟩ := hk'
          exact ⟨c', f', hcc', RelDs.adv hA2 cs' _ hrel', hm'⟩
        | map shs agg c es =>
          obtain ⟨arr, hcc', hrel', q1, q2, q3, hm'⟩ := hk'
          exact ⟨arr, hcc', RelEs.adv hA2 es _ hrel', q1, q2, q3, hm'⟩
        | iter m s sn l =>
          obtain ⟨hcc', hmp, hm'⟩ := hk'
          exact ⟨hcc', (hA2.mp m hmp).2, hm'⟩
        | arr ver e' sz' rows =>
          obtain ⟨g1, g2, g3, g4⟩ := hk'
          refine ⟨g1, g2, g3, ?_⟩
          rcases g4 with g4 | ⟨g, cap, cur, hv, hp, hh, k1, k2, k3, k4⟩
          · exact .inl g4
          · exact .inr ⟨g, cap, cur, hv, hp, hh, k1, k2, k3, RelL.keep (Keeps.refl (WW W o1 L1) w).toKeepsC (fun b _ hb => hww b hb) _ _ k4⟩
    · have key : ∀ {p o}, setO o1 r (.box (cs.set k (.aref nxt 0))) p = some o → ∃ o2, o1 p = some o2 ∧ L1.own p o = L1.own p o2 := by
        intro p o hp
        rcases setO_cases hp with ⟨rfl, rfl⟩ | ⟨_, hp⟩
        · exact ⟨_, hr1, rfl⟩
        · exact ⟨o, hp, rfl⟩
      obtain ⟨x1, y1, z1⟩ := key h1
      obtain ⟨x2, y2, z2⟩ := key h2
      rw [z1] at hb
      rw [z2]
      exact hO1.apart p p' x1 x2 b hne y1 y2 hb
    · rcases setO_cases hp with ⟨rfl, rfl⟩ | ⟨_, hp⟩
      · exact hO1.outer p _ b hr1 hb
      · exact hO1.outer p o b hp hb
  have hsub := hat.sub
  have hfr : ∀ r', nxt + 1 ≤ r' → setO o1 r (.box (cs.set k (.aref nxt 0))) r' = none := fun r' hr' => by
    rw [← ho1]; simp only [setO]; rw [if_neg (by omega), if_neg (by omega)]; exact h.fresh r' (by simp only; omega)
  rw [ho1]
  exact ⟨L1, ⟨⟨W, base, M, w0, hat, h0.size, fun t => RelD.adv hA2 _ _ (RelD.adv hA _ _ (h0.tmps t)), hO2⟩, Adv.comp (Adv.comp h.r.adv hA hsub.1 hsub.2) hA2 hsub.1 hsub.2, h.r.defers, h.r.bg, ⟨_, hfr⟩⟩, hfr, h.low, h.it⟩

@[simp] theorem look_nil_fun : look [] = fun _ => DV.undef := by funext k; rfl
def sameVerO : Option Ob → Option Ob → Prop
  | some a, some b => sameVer a b
  | _, _ => False
/-- What was there before is kept. -/
def keptLow (low : Nat) (o0 o : Obs) : List (Nat × Ob) → Prop
  | [] => True
  | (r, _) :: l => (r < low → sameVerO (o0 r) (o r)) ∧ keptLow low o0 o l
attribute [simp] keptLow sameVerO sameVer

@[simp] theorem gone_cons {σ : Nat → Nat} {r j : Nat} {o : Ob} {l : List (Nat × Ob)} : gone (obs ((j, o) :: l)) σ r ↔ σ j ≠ r ∧ gone (obs l) σ r := by
  refine ⟨fun h => ⟨h j (by simp), fun r' hr' => h r' (by simp only [obs_cons]; split <;> simp [hr'])⟩, fun h => gone_obs h.1 h.2⟩
@[simp] theorem gone_nil {σ : Nat → Nat} {r : Nat} : gone (obs []) σ r := fun r' h => absurd rfl h
end Go.DM
/- The D-machine, part Za: objects told as changes of an unknown rest; contracts that tell of the answer no more than a property; answers that hold more than trees. Conditions: none. -/
namespace Go.DM
open Go.RowKit
set_option linter.unusedSimpArgs false
set_option linter.unusedVariables false
set_option linter.unusedSectionVars false
variable [Laid]

/-- The objects f, with these told anew. -/
def over : List (Nat × Ob) → Obs → Obs
  | [], f => f
  | (r, o) :: l, f => fun k => if k = r then some o else over l f k
@[simp] theorem over_cons (r : Nat) (o : Ob) (l : List (Nat × Ob)) (f : Obs) (k : Nat) : over ((r, o) :: l) f k = if k = r then some o else over l f k := rfl
@[simp] theorem over_nil (f : Obs) (k : Nat) : over [] f k = f k := rfl
@[simp] theorem putO_over (l : List (Nat × Ob)) (f : Obs) (r : Nat) (o : Ob) : putO (over l f) (some (r, o)) = over ((r, o) :: l) f := rfl
theorem over_setO (l : List (Nat × Ob)) (f : Obs) (r : Nat) (o : Ob) : setO (over l f) r o = over ((r, o) :: l) f := rfl

/-- The names in an object. -/
def obNames : Ob → List Nat
  | .box cs => namesL cs
  | .arr _ _ _ _ => []
  | .map _ _ _ es => es.flatMap fun e => names e.2.2
  | .iter m _ _ _ => [m]
/-- Every name in an object stands for an object, and all names are below n. -/
def Closed (f : Obs) (n : Nat) : Prop := ∀ r o, f r = some o → r < n ∧ ∀ m ∈ obNames o, f m ≠ none

section
variable {base : Nat} {W M : Nat → Prop} {w0 w : World} {objs objs' : Obs} {L : Loc}

theorem closed_of (hO : RelO base W M w0 objs w L) {N : Nat} (hN : ∀ r, N ≤ r → objs r = none) : Closed objs N := by
  intro r o hr
  refine ⟨Nat.lt_of_not_le (fun h => by rw [hN r h] at hr; cases hr), fun m hm => ?_⟩
  have hob := hO.ob r o hr
  cases o with
  | box cs => obtain ⟨c, e, _, h, _⟩ := hob; exact RefOks.names cs (RefOks.of_rel cs _ h) m hm
  | arr _ _ _ _ => cases hm
  | iter m' _ _ _ =>
    obtain ⟨_, ⟨_, _, _, _, h⟩, _⟩ := hob
    simp only [obNames, List.mem_singleton] at hm
    subst hm
    simp [h]
  | map shs agg c es =>
    obtain ⟨arr, _, h, _⟩ := hob
    simp only [obNames, List.mem_flatMap] at hm
    obtain ⟨e, he, hm⟩ := hm
    obtain ⟨i, hi⟩ := List.getElem?_of_mem he
    obtain ⟨x, _, _, _, hv⟩ := RelEs.get h hi
    exact RefOk.names _ (RefOk.of_rel _ _ hv) m hm

/-- Values whose names stand for objects of the same make and version say the same. -/
def sameAt (objs objs' : Obs) (m : Nat) : Prop := ∃ o o', objs m = some o ∧ objs' m = some o' ∧ sameVer o o'
theorem rel_same (hww : ∀ b, WW W objs' L b → WW W objs L b) :
    ∀ n, (∀ (d : DV) (x : Value), SizeOf.sizeOf d < n → (∀ m ∈ names d, sameAt objs objs' m) → RelD w W objs L d x → RelD w W objs' L d x) ∧
      (∀ (ds : List DV) (xs : List Value), SizeOf.sizeOf ds < n → (∀ m ∈ namesL ds, sameAt objs objs' m) → RelDs w W objs L ds xs → RelDs w W objs' L ds xs) ∧
      (∀ (ds : List DV) (xs : List Value), SizeOf.sizeOf ds < n → (∀ m ∈ namesL ds, sameAt objs objs' m) → RelDa w W objs L ds xs → RelDa w W objs' L ds xs) := by
  have hkc := (Keeps.refl (WW W objs L) w).toKeepsC
  have hsub : ∀ b, b < w.heap.size → WW W objs' L b → WW W objs L b := fun b _ h => hww b h
  intro n
  induction n with
  | zero => exact ⟨fun _ _ h => by omega, fun _ _ h => by omega, fun _ _ h => by omega⟩
  | succ n ih =>
    refine ⟨fun d x hn hm hr => ?_, fun ds xs hn hm hr => ?_, fun ds xs hn hm hr => ?_⟩
    · cases d with
      | undef => simp [RelD]
      | skip => simpa only [RelD] using hr
      | yld => simpa only [RelD] using hr
      | nil0 => simpa only [RelD] using hr
      | v t => simp only [RelD] at hr ⊢; exact RelT.keep hkc hsub t x hr
      | tptr rows i off =>
        simp only [RelD] at hr ⊢
        obtain ⟨b, o, sz, hx, hb, hnw, hrr, h1, h2⟩ := hr
        exact ⟨b, o, sz, hx, hb, fun k => hnw (hww b k), RelRows.keep hkc hsub hb hnw sz o rows hrr, h1, h2⟩
      | bptr cs off =>
        simp only [RelD] at hr ⊢
        obtain ⟨b, o, hx, hb, hnw, hrr⟩ := hr
        exact ⟨b, o, hx, hb, fun k => hnw (hww b k), RelAt.keep hkc hsub hb hnw o cs hrr⟩
      | ptr r off =>
        obtain ⟨o, o', h1, h2, h3⟩ := hm r (by simp [names])
        simp only [RelD] at hr ⊢
        obtain ⟨⟨cs, hc⟩, hx⟩ := hr
        rw [h1] at hc
        cases hc
        cases o' with
        | box cs' => exact ⟨⟨cs', h2⟩, hx⟩
        | _ => exact h3.elim
      | mref r =>
        obtain ⟨o, o', h1, h2, h3⟩ := hm r (by simp [names])
        simp only [RelD] at hr ⊢
        obtain ⟨⟨_, _, _, _, hc⟩, hx⟩ := hr
        rw [h1] at hc
        cases hc
        cases o' with
        | map a b c d => exact ⟨⟨a, b, c, d, h2⟩, hx⟩
        | _ => exact h3.elim
      | iter r =>
        obtain ⟨o, o', h1, h2, h3⟩ := hm r (by simp [names])
        simp only [RelD] at hr ⊢
        obtain ⟨⟨_, _, _, _, hc⟩, hx⟩ := hr
        rw [h1] at hc
        cases hc
        cases o' with
        | iter a b c d => exact ⟨⟨a, b, c, d, h2⟩, hx⟩
        | _ => exact h3.elim
      | aref r ver =>
        obtain ⟨o, o', h1, h2, h3⟩ := hm r (by simp [names])
        simp only [RelD] at hr ⊢
        obtain ⟨hsh, ver', e, sz, rows, hc, hle, hx⟩ := hr
        rw [h1] at hc
        cases hc
        cases o' with
        | arr v2 e2 s2 r2 => obtain ⟨rfl, rfl, h5⟩ := h3; exact ⟨hsh, _, _, _, _, h2, hle, hx⟩
        | _ => exact h3.elim
      | aptr r ver i off =>
        obtain ⟨o, o', h1, h2, h3⟩ := hm r (by simp [names])
        simp only [RelD] at hr ⊢
        obtain ⟨hsh, ver', e, sz, rows, hc, hle, hx⟩ := hr
        rw [h1] at hc
        cases hc
        cases o' with
        | arr v2 e2 s2 r2 =>
          obtain ⟨rfl, rfl, h5⟩ := h3
          exact ⟨hsh, _, _, _, _, h2, hle, fun hv => by obtain ⟨g, k1, k2, k3, k4⟩ := hx hv; exact ⟨g, k1, k2, k3, by rw [← h5]; exact k4⟩⟩
        | _ => exact h3.elim
      | bsl r m =>
        obtain ⟨o, o', h1, h2, h3⟩ := hm r (by simp [names])
        simp only [RelD] at hr ⊢
        obtain ⟨⟨cs, hc⟩, hx⟩ := hr
        rw [h1] at hc
        cases hc
        cases o' with
        | box cs' => exact ⟨⟨cs', h2⟩, hx⟩
        | _ => exact h3.elim
      | asl r ver lo m =>
        obtain ⟨o, o', h1, h2, h3⟩ := hm r (by simp [names])
        simp only [RelD] at hr ⊢
        obtain ⟨hsh, ver', e, sz, rows, hc, hle, hx⟩ := hr
        rw [h1] at hc
        cases hc
        cases o' with
        | arr v2 e2 s2 r2 =>
          obtain ⟨rfl, rfl, h5⟩ := h3
          exact ⟨hsh, _, _, _, _, h2, hle, fun hv => by
            obtain ⟨k0, p, cap, p2, k1, k2, k3⟩ := hx hv
            exact ⟨by rw [← h5]; exact k0, p, cap, p2, by rw [← h5]; exact k1, k2, k3⟩⟩
        | _ => exact h3.elim
      | agg ds =>
        simp only [RelD] at hr ⊢
        obtain ⟨vs, hv, hr⟩ := hr
        exact ⟨vs, hv, ih.2.1 ds _ (by simp at hn ⊢; omega) (fun m h => hm m (by simpa only [names] using h)) hr⟩
      | clo f ds =>
        simp only [RelD] at hr ⊢
        obtain ⟨vs, hv, hr⟩ := hr
        exact ⟨vs, hv, ih.2.1 ds _ (by simp at hn ⊢; omega) (fun m h => hm m (by simpa only [names] using h)) hr⟩
      | tup ds =>
        simp only [RelD] at hr ⊢
        obtain ⟨vs, hv, hr⟩ := hr
        exact ⟨vs, hv, ih.2.2 ds _ (by simp at hn ⊢; omega) (fun m h => hm m (by simpa only [names] using h)) hr⟩
    · cases ds with
      | nil => simpa only [RelDs] using hr
      | cons d ds =>
        simp only [RelDs] at hr ⊢
        obtain ⟨y, ys, hv, h1, h2, h3⟩ := hr
        exact ⟨y, ys, hv, h1, ih.1 d y (by simp at hn ⊢; omega) (fun m h => hm m (by simp [namesL, h])) h2, ih.2.1 ds ys (by simp at hn ⊢; omega) (fun m h => hm m (by simp [namesL, h])) h3⟩
    · cases ds with
      | nil => simpa only [RelDa] using hr
      | cons d ds =>
        simp only [RelDa] at hr ⊢
        obtain ⟨y, ys, hv, h2, h3⟩ := hr
        exact ⟨y, ys, hv, ih.1 d y (by simp at hn ⊢; omega) (fun m h => hm m (by simp [namesL, h])) h2, ih.2.2 ds ys (by simp at hn ⊢; omega) (fun m h => hm m (by simp [namesL, h])) h3⟩

theorem ob_same (hww : ∀ b, WW W objs' L b → WW W objs L b) {r : Nat} {o : Ob} (hm : ∀ m ∈ obNames o, sameAt objs objs' m) (h : ObOk w W objs L base M r o) : ObOk w W objs' L base M r o := by
  cases o with
  | box cs => obtain ⟨c, e, hc, hr, hmm⟩ := h; exact ⟨c, e, hc, (rel_same hww (SizeOf.sizeOf cs + 1)).2.1 cs _ (by omega) hm hr, hmm⟩
  | arr ver e sz rows =>
    obtain ⟨g1, g2, g3, g4⟩ := h
    refine ⟨g1, g2, g3, ?_⟩
    rcases g4 with g4 | ⟨g, cap, cur, hv, hp, hh, k1, k2, k3, k4⟩
    · exact .inl g4
    · exact .inr ⟨g, cap, cur, hv, hp, hh, k1, k2, k3, RelL.keep (Keeps.refl (WW W objs L) w).toKeepsC (fun b _ hb => hww b hb) _ _ k4⟩
  | map shs agg c es =>
    obtain ⟨arr, hc, hr, k1, k2, k3, hmm⟩ := h
    refine ⟨arr, hc, ?_, k1, k2, k3, hmm⟩
    have key : ∀ (es : List (Nat × T × DV)) (xs : List MapEntry), (∀ m ∈ es.flatMap (fun e => names e.2.2), sameAt objs objs' m) → RelEs w W objs L es xs → RelEs w W objs' L es xs := by
      intro es
      induction es with
      | nil => intro xs _ h; simpa only [RelEs] using h
      | cons e es ih =>
        intro xs hm h
        simp only [RelEs] at h ⊢
        obtain ⟨x, xs', hx, h1, h2, h3, h4⟩ := h
        exact ⟨x, xs', hx, h1, RelT.keep (Keeps.refl (WW W objs L) w).toKeepsC (fun b _ hb => hww b hb) _ _ h2,
          (rel_same hww (SizeOf.sizeOf e.2.2 + 1)).1 _ _ (by omega) (fun m h => hm m (by simp [h])) h3, ih xs' (fun m h => hm m (by simp only [List.flatMap_cons, List.mem_append]; exact .inr h)) h4⟩
    exact key es _ hm hr
  | iter m s sn l =>
    obtain ⟨hc, ⟨a1, a2, a3, a4, hmp⟩, hmm⟩ := h
    obtain ⟨o, o', h1, h2, h3⟩ := hm m (by simp [obNames])
    rw [hmp] at h1
    cases h1
    cases o' with
    | map b1 b2 b3 b4 => exact ⟨hc, ⟨b1, b2, b3, b4, h2⟩, hmm⟩
    | _ => exact h3.elim
end

/-- What keeps an object as it is, or tells it by less. -/
def corOb2 (objs objs' : Obs) (o o' : Ob) : Prop := corOb objs objs' id o o' ∨ (o = o' ∧ ∀ m ∈ obNames o, sameAt objs objs' m)
theorem own_cor2 {objs objs' : Obs} {L : Loc} {o o' : Ob} (h : corOb2 objs objs' o o') (r : Nat) : L.own r o' = L.own r o := by
  rcases h with h | ⟨rfl, _⟩
  · exact own_cor (L := L) h r
  · rfl

/-- A state told anew, the names kept. -/
theorem Le.cor2 {st st' : DSt} (hlow : st'.low = st.low) (htodo : st'.todo = st.todo) (hfresh : ∀ r, st'.nxt ≤ r → st'.objs r = none)
    (hob : ∀ r o', st'.objs r = some o' → ∃ o, st.objs r = some o ∧ corOb2 st.objs st'.objs o o')
    (hkeep : ∀ r, r < st.low → ∀ o, st.objs r = some o → ∃ o', st'.objs r = some o' ∧ sameVer o o')
    (htm : ∀ k, corD st.objs st'.objs id (st.tmps k) (st'.tmps k)) : Le st st' := by
  intro κ nt a w L h
  have hob2 : ∀ r' o', st'.objs r' = some o' → ∃ o, st.objs (id r') = some o ∧ ∀ r, (L.ren id).own r o' = L.own (id r) o := fun r' o' h => let ⟨o, h1, h2⟩ := hob r' o' h; ⟨o, h1, own_cor2 (L := L) h2⟩
  refine ⟨L, ⟨?_, ?_, h.r.defers, h.r.bg, ⟨_, hfresh⟩⟩, hfresh, by rw [hlow]; exact h.low, by rw [hlow]; exact h.it⟩
  · obtain ⟨W, base, M, w0, hat, h0⟩ := h.r.ex
    have hO := h0.o
    have hww : ∀ b, WW W st'.objs L b → WW W st.objs L b := fun b hb => ww_cor (L := L) (σ := id) hob2 b hb
    have cr := fun (d d' : DV) (x : Value) => (cor_rel hO hob2 (SizeOf.sizeOf d + 1)).1 d d' x (by omega)
    have crs := fun (ds ds' : List DV) (xs : List Value) => (cor_rel hO hob2 (SizeOf.sizeOf ds + 1)).2.1 ds ds' xs (by omega)
    refine ⟨W, base, M, w0, by rw [htodo]; exact hat, h0.size, fun t => cr _ _ _ (htm t) (h0.tmps t), ⟨hO.fr, fun r' o' ho' => ?_, fun r1 r2 o1 o2 b hne h1 h2 hb1 hb2 => ?_, fun r' o' b ho' hb => ?_, hO.under, hO.gl.keep (Keeps.refl (WW W st.objs L) w).toKeepsC fun b _ hb => hww b hb⟩⟩
    · obtain ⟨o, ho, hc⟩ := hob r' o' ho'
      have hk := hO.ob r' o ho
      rcases hc with hc | ⟨rfl, hc⟩
      · cases o with
        | box cs =>
          cases o' with
          | box cs' =>
            obtain ⟨c, e, hcc, hr, hm⟩ := hk
            exact ⟨c, e, hcc, crs cs cs' _ hc hr, hm⟩
          | _ => exact hc.elim
        | map shs agg c es =>
          cases o' with
          | map shs' agg' c' es' =>
            obtain ⟨rfl, rfl, rfl, hes⟩ := hc
            obtain ⟨arr, hcc, hr, k1, k2, k3, hm⟩ := hk
            have key : ∀ (es es' : List (Nat × T × DV)) (xs : List MapEntry), corEs st.objs st'.objs id es es' → RelEs w W st.objs L es xs → RelEs w W st'.objs L es' xs ∧ es'.map (·.1) = es.map (·.1) ∧ es'.map (·.2.1) = es.map (·.2.1) := by
              intro es
              induction es with
              | nil => intro es' xs h1 h2; simp only [corEs] at h1; subst h1; exact ⟨by simpa only [RelEs] using h2, rfl, rfl⟩
              | cons e es ih =>
                intro es' xs h1 h2
                cases es' with
                | nil => simp [corEs] at h1
                | cons e' es' =>
                  simp only [corEs] at h1
                  simp only [RelEs] at h2 ⊢
                  obtain ⟨x, xs', rfl, q0, q1, q2, q3⟩ := h2
                  obtain ⟨i1, i2, i3⟩ := ih es' xs' h1.2.2.2 q3
                  refine ⟨⟨x, xs', rfl, q0.trans h1.1, ?_, cr _ _ _ h1.2.2.1 q2, i1⟩, by simp [i2, h1.1], by simp [i3, h1.2.1]⟩
                  rw [← h1.2.1]
                  exact RelT.keep (Keeps.refl (WW W st.objs L) w).toKeepsC (fun b _ hb => hww b hb) _ _ q1
            obtain ⟨i1, i2, i3⟩ := key es es' _ hes hr
            refine ⟨arr, hcc, i1, fun e he => ?_, fun e he => ?_, by rw [i2]; exact k3, hm⟩
            · have : e.2.1 ∈ es.map (·.2.1) := by rw [← i3]; exact List.mem_map.2 ⟨e, he, rfl⟩
              obtain ⟨e0, h0', h1'⟩ := List.mem_map.1 this
              rw [← h1']; exact k1 e0 h0'
            · have : e.1 ∈ es.map (·.1) := by rw [← i2]; exact List.mem_map.2 ⟨e, he, rfl⟩
              obtain ⟨e0, h0', h1'⟩ := List.mem_map.1 this
              rw [← h1']; exact k2 e0 h0'
          | _ => exact hc.elim
        | iter m s sn l =>
          cases o' with
          | iter m' s' sn' l' =>
            obtain ⟨rfl, rfl, rfl, rfl, hmp⟩ := hc
            obtain ⟨hcc, _, hm⟩ := hk
            exact ⟨hcc, isMap_ex hmp, hm⟩
          | _ => exact hc.elim
        | arr ver e sz rows =>
          cases o' with
          | box _ => exact hc.elim
          | map _ _ _ _ => exact hc.elim
          | iter _ _ _ _ => exact hc.elim
          | arr ver' e' sz' rows' =>
            obtain ⟨rfl, rfl, rfl⟩ := hc
            obtain ⟨g1, g2, g3, g4⟩ := hk
            refine ⟨g1, g2, g3, ?_⟩
            rcases g4 with g4 | ⟨g, cap, cur, hv, hp, hh, k1, k2, k3, k4⟩
            · exact .inl g4
            · exact .inr ⟨g, cap, cur, hv, hp, hh, k1, k2, k3, RelL.keep (Keeps.refl (WW W st.objs L) w).toKeepsC (fun b _ hb => hww b hb) _ _ k4⟩
      · exact ob_same hww hc hk
    · obtain ⟨p1, q1, c1⟩ := hob r1 o1 h1
      obtain ⟨p2, q2, c2⟩ := hob r2 o2 h2
      rw [own_cor2 c1] at hb1
      rw [own_cor2 c2] at hb2
      exact hO.apart r1 r2 p1 p2 b hne q1 q2 hb1 hb2
    · obtain ⟨p1, q1, c1⟩ := hob r' o' ho'
      rw [own_cor2 c1] at hb
      exact hO.outer r' p1 b q1 hb
  · have ha := h.r.adv
    refine ⟨ha.keeps, fun b hb hw => ha.sub b hb (ww_cor (L := L) (σ := id) hob2 b hw), fun r o hr hk => ?_, fun r ver e sz rows hr => ?_, ha.yl⟩
    · have hlt : r < st.low := Nat.lt_of_not_le fun hle => by rw [h.low r hle] at hr; cases hr
      obtain ⟨e1, o1, hr1, hk1⟩ := ha.fix r o hr hk
      obtain ⟨o', ho', hv⟩ := hkeep r hlt _ hr1
      exact ⟨e1, o', ho', (sameVer_kind hv).trans hk1⟩
    · have hlt : r < st.low := Nat.lt_of_not_le fun hle => by rw [h.low r hle] at hr; cases hr
      obtain ⟨v1, e1, s1, r1, hr1, l1, k1⟩ := ha.arr r ver e sz rows hr
      obtain ⟨o', ho', hv⟩ := hkeep r hlt _ hr1
      cases o' with
      | box cs' => exact hv.elim
      | map _ _ _ _ => exact hv.elim
      | iter _ _ _ _ => exact hv.elim
      | arr v2 e2 s2 r2 =>
        obtain ⟨rfl, rfl, h3⟩ := hv
        exact ⟨v1, e2, s1, r2, ho', l1, fun hv => by
          obtain ⟨a1, a2, a3⟩ := k1 hv
          exact ⟨a1, a2, by rw [← h3]; exact a3⟩⟩

theorem sameVer_refl (o : Ob) : sameVer o o := by cases o <;> simp [sameVer]

/-- Each of the objects that are told anew tells no more than before; those of the unknown rest that change version are told. -/
def overOk (low : Nat) (a b : Obs) : List (Nat × Ob) → Prop
  | [] => True
  | (r, o) :: l => (∃ o0, a r = some o0 ∧ corOb2 a b o0 o ∧ (r < low → sameVer o0 o)) ∧ overOk low a b l
/-- What was told before and is older than the frame is told. -/
def overKeep (low : Nat) (l1 : List (Nat × Ob)) : List (Nat × Ob) → Prop
  | [] => True
  | (r, _) :: l => (r < low → ∃ o, (r, o) ∈ l1) ∧ overKeep low l1 l
theorem over_mem : ∀ {l : List (Nat × Ob)} {f : Obs} {r : Nat} {o : Ob}, over l f r = some o → (r, o) ∈ l ∨ ((∀ o', (r, o') ∉ l) ∧ f r = some o)
  | [], _, _, _, h => .inr ⟨fun _ h => (by cases h), h⟩
  | (j, x) :: l, f, r, o, h => by
    simp only [over_cons] at h
    split at h
    · rename_i e; cases h; subst e; exact .inl (List.mem_cons_self ..)
    · rename_i hne
      rcases over_mem h with h | ⟨h1, h2⟩
      · exact .inl (List.mem_cons_of_mem _ h)
      · refine .inr ⟨fun o' ho' => ?_, h2⟩
        rcases List.mem_cons.1 ho' with e | ho'
        · cases e; exact hne rfl
        · exact h1 o' ho'
theorem over_out {l : List (Nat × Ob)} {f : Obs} {r : Nat} (h : ∀ o', (r, o') ∉ l) : over l f r = f r := by
  induction l with
  | nil => rfl
  | cons p l ih =>
    obtain ⟨j, x⟩ := p
    rw [over_cons, if_neg (fun e => h x (by rw [e]; exact List.mem_cons_self ..))]
    exact ih fun o' ho' => h o' (List.mem_cons_of_mem _ ho')
theorem over_in {l : List (Nat × Ob)} {f : Obs} {r : Nat} {o : Ob} (h : (r, o) ∈ l) : ∃ o', over l f r = some o' ∧ (r, o') ∈ l := by
  induction l with
  | nil => cases h
  | cons p l ih =>
    obtain ⟨j, x⟩ := p
    by_cases e : r = j
    · subst e; exact ⟨x, by simp, List.mem_cons_self ..⟩
    · rcases List.mem_cons.1 h with h | h
      · cases h; exact absurd rfl e
      · obtain ⟨o', h1, h2⟩ := ih h
        exact ⟨o', by rw [over_cons, if_neg e]; exact h1, List.mem_cons_of_mem _ h2⟩
theorem overOk_mem {low : Nat} {a b : Obs} : ∀ {l : List (Nat × Ob)}, overOk low a b l → ∀ r o, (r, o) ∈ l → ∃ o0, a r = some o0 ∧ corOb2 a b o0 o ∧ (r < low → sameVer o0 o)
  | [], _, _, _, h => by cases h
  | (j, x) :: l, hk, r, o, h => by
    rcases List.mem_cons.1 h with e | h
    · cases e; exact hk.1
    · exact overOk_mem hk.2 r o h
theorem overKeep_mem {low : Nat} {l1 : List (Nat × Ob)} : ∀ {l : List (Nat × Ob)}, overKeep low l1 l → ∀ r o, (r, o) ∈ l → r < low → ∃ o, (r, o) ∈ l1
  | [], _, _, _, h => by cases h
  | (j, x) :: l, hk, r, o, h => by
    rcases List.mem_cons.1 h with e | h
    · cases e; exact hk.1
    · exact overKeep_mem hk.2 r o h
/-- The same of a state whose objects are changes of an unknown rest. -/
theorem Le.keepO {tm : Nat → DV} {l0 l1 : List (Nat × Ob)} {f : Obs} {l : List (Nat × DV)} {nxt nxt' : Nat} {td : List (List T)} {low : Nat} (hf : Closed f low) (hn : low ≤ nxt') (hb : keysBelow nxt' l1)
    (h0 : overKeep low l1 l0) (h1 : overOk low (over l0 f) (over l1 f) l1) (htm : corTms (over l0 f) (over l1 f) id tm l) :
    Le ⟨tm, over l0 f, nxt, low, td⟩ ⟨look l, over l1 f, nxt', low, td⟩ := by
  have hlowsame : ∀ r, r < low → ∀ o, over l0 f r = some o → ∃ o', over l1 f r = some o' ∧ sameVer o o' := by
    intro r hr o ho
    by_cases hin : ∃ o', (r, o') ∈ l1
    · obtain ⟨o1, ho1⟩ := hin
      obtain ⟨o2, h2, h3⟩ := over_in (f := f) ho1
      obtain ⟨o0, k1, _, k3⟩ := overOk_mem h1 r o2 h3
      rw [ho] at k1
      cases k1
      exact ⟨o2, h2, k3 hr⟩
    · have hnot : ∀ o', (r, o') ∉ l1 := fun o' h => hin ⟨o', h⟩
      rcases over_mem ho with h | ⟨_, h⟩
      · exact absurd (overKeep_mem h0 r o h hr) hin
      · exact ⟨o, by rw [over_out hnot]; exact h, sameVer_refl o⟩
  refine Le.cor2 rfl rfl (fun r hr => ?_) (fun r o' ho' => ?_) (fun r hr o ho => hlowsame r hr o ho) (fun k => look_cor l htm k)
  · cases ho : over l1 f r with
    | none => exact ho
    | some o =>
      rcases over_mem ho with h | ⟨_, h⟩
      · have := keysBelow_mem hb r o h; simp only at hr; omega
      · have := (hf r o h).1; simp only at hr; omega
  · rcases over_mem ho' with h | ⟨hnot, h⟩
    · obtain ⟨o0, k1, k2, _⟩ := overOk_mem h1 r o' h
      exact ⟨o0, k1, k2⟩
    · obtain ⟨hlt, hnm⟩ := hf r o' h
      have hold : over l0 f r = some o' := by
        by_cases hin : ∃ o1, (r, o1) ∈ l0
        · obtain ⟨o1, ho1⟩ := hin
          obtain ⟨o2, h2⟩ := overKeep_mem h0 r o1 ho1 hlt
          exact absurd h2 (hnot o2)
        · rw [over_out fun o1 h1 => hin ⟨o1, h1⟩]; exact h
      refine ⟨o', hold, .inr ⟨rfl, fun m hm => ?_⟩⟩
      have hm0 := hnm m hm
      have hmlt : m < low := by
        cases hfm : f m with
        | none => exact absurd hfm hm0
        | some x => exact (hf m x hfm).1
      have hex : ∃ o, over l0 f m = some o := by
        by_cases hin : ∃ o1, (m, o1) ∈ l0
        · obtain ⟨o1, ho1⟩ := hin
          obtain ⟨o2, h2, _⟩ := over_in (f := f) ho1
          exact ⟨o2, h2⟩
        · rw [over_out fun o1 h1 => hin ⟨o1, h1⟩]
          exact Option.ne_none_iff_exists'.1 hm0
      obtain ⟨o, ho⟩ := hex
      obtain ⟨o2, h2, h3⟩ := hlowsame m hmlt o ho
      exact ⟨o, o2, ho, h2, h3⟩

section
variable {P : Program}
/-- The contract of a function that may write; of the objects it is known that they are closed. -/
theorem CodeOf.okC {f : FuncId} {nt : Nat} {d : DC} {rs : List DRes} (h : CodeOf P f nt d rs) {args : List DV} {objs : Obs} {r : SRes} {N : Nat} (hN : ∀ r, N ≤ r → objs r = none) (hlen : args.length ≤ nt)
    (k : Closed objs N → SatD P nt d (finS rs r) ⟨look (args.zipIdx.map fun p => (p.2, p.1)), over [] objs, N, N, []⟩) : CallsS P f args objs r :=
  ⟨h.entry, fun base W M w0 w L vals hO hda => (CodeOf.okS h hN hlen (initS_sat (k (closed_of hO hN)))).run base W M w0 w L vals hO hda⟩

theorem results_slot {fn : Func} {t : Nat} {tmps : Array Value} {w : World} (hr : fn.results.toList.mapM (resOf P) = some [.slot t]) : (results fn tmps).run P w = .ok (tmps.getD t Go.undef) w := by
  have h1 : ∃ rv, fn.results.toList = [rv] ∧ resOf P rv = some (.slot t) := by
    cases h : fn.results.toList with
    | nil => rw [h] at hr; simp at hr
    | cons rv l =>
      rw [h] at hr
      simp only [List.mapM_cons, Option.pure_def, Option.bind_eq_bind, Option.bind_eq_some_iff, Option.some.injEq, List.cons.injEq] at hr
      obtain ⟨x, hx, ys, hys, rfl, rfl⟩ := hr
      cases l with
      | nil => exact ⟨rv, rfl, hx⟩
      | cons y l => simp [Option.bind_eq_some_iff] at hys
  obtain ⟨rv, h1, h2⟩ := h1
  have h3 : fn.results = #[rv] := by rw [← Array.toArray_toList (xs := fn.results), h1]
  cases rv with
  | tmp t' =>
    simp only [resOf, Option.some.injEq, DRes.slot.injEq] at h2
    subst h2
    have hrr : (results fn tmps) = (do
      let vs ← fn.results.mapM (fun rv => ((match rv with | .tmp t => pure (tmps.getD t Go.undef) | .cell b t => do loadVar t (← asAddr (tmps.getD b Go.undef))) : Sem Value))
      pure (if h : vs.size = 1 then vs[0] else .tuple vs)) := rfl
    have hm : (fn.results.mapM (fun rv => ((match rv with | .tmp t => pure (tmps.getD t Go.undef) | .cell b t => do loadVar t (← asAddr (tmps.getD b Go.undef))) : Sem Value))).run P w = .ok #[tmps.getD t' Go.undef] w := by
      rw [Array.mapM_eq_mapM_toList, h1]
      simp
    rw [hrr]
    simp only [Sem.run_bind, hm, Result.andThen_ok, Sem.run_pure]
    rfl
  | cell b t' =>
    simp only [resOf] at h2
    split at h2 <;> simp at h2

/-- The end of a function that answers with a slice over new memory. -/
def finF (t e sz : Nat) (rows : List (List T)) : Exit → DSt → Prop
  | .normal, st | .ret, st => (st.tmps t = .nil0 ∧ rows = [] ∧ 0 < sz) ∨ ∃ r ver, st.tmps t = .aref r ver ∧ st.objs r = some (.arr ver e sz rows)
  | _, _ => False
theorem CodeOf.okF {f : FuncId} {nt : Nat} {d : DC} {t : Nat} (h : CodeOf P f nt d [.slot t]) {ts : List T} {e sz : Nat} {rows : List (List T)} (hlen : ts.length ≤ nt) (k : SatD P nt d (finF t e sz rows) (initSt ts)) : CallsF P f ts e sz rows := by
  have hent := h.entry
  obtain ⟨fn, hfn, rfl, h3, hr, _⟩ := h
  obtain ⟨c, hb, hc⟩ := Option.map_eq_some_iff.1 h3
  refine ⟨hent, fun W w vals hW hg hrel => ?_⟩
  have hl := RelA.length hrel
  simp only [Array.length_toList] at hl
  have hrel0 : Rel ⟨W, fun _ => none, ⟨fun _ => 0, fun _ => Go.undef, 0⟩, w, w.heap.size, fun _ => False, w, none, none⟩ fn.ntmps (initSt ts) { tmps := vals ++ Array.replicate (fn.ntmps - vals.size) Go.undef, defers := [] } w ⟨fun _ => 0, fun _ => Go.undef, 0⟩ := by
    refine ⟨⟨⟨W, w.heap.size, fun _ => False, w, ⟨rfl, rfl, rfl, rfl, rfl⟩, by simp; omega, fun k => ?_, ⟨Fr.refl (Nat.le_refl _), (fun r o h => by cases h), (fun r r' o o' b _ h => by cases h), (fun r o b h => by cases h), hW, hg.start⟩⟩,
      Adv.refl_of_keeps (Keeps.refl _ _), ⟨[], rfl, List.nodup_nil, (fun _ h => by cases h), fun _ => rfl⟩, fun _ => Nat.le_refl _, ⟨0, fun _ _ => rfl⟩⟩, fun _ _ => rfl, fun _ _ => rfl, fun h => by cases h⟩
    simp only [initSt]
    cases hk : ts[k]? with
    | some x =>
      obtain ⟨v, hv, hv2⟩ := RelA.get hrel hk
      simp only [init_get hv, argD, RelD]
      refine RelT.keep (Keeps.refl W w).toKeepsC ?_ x v hv2
      rintro b hb (h | ⟨r, o, h, _⟩)
      · exact h
      · cases h
    | none =>
      have hge : vals.size ≤ k := by
        have := List.getElem?_eq_none_iff.1 hk
        omega
      simp only [argD, RelD, init_none hge]
  refine callsIn_wide.1 (callsIn_of_wp_marks (n := 0) hfn hb trivial ?_)
  refine wpIn_mono (k.run c hc 0 _ _ _ _ ⟨fun J hJ => (by cases hJ), fun l hl => (by cases hl)⟩ hrel0) ?_
  rintro e' a' w' ⟨st', L', q, r'⟩
  have done : ((st'.tmps t = .nil0 ∧ rows = [] ∧ 0 < sz) ∨ ∃ r ver, st'.tmps t = .aref r ver ∧ st'.objs r = some (.arr ver e sz rows)) → LeavesInM Fence.wide 0 P fn a'.tmps (fun e' w' => ∃ v, e' = .returned v ∧ BelD w.heap.size w w' ∧ FreshArr w.heap.size w' W e sz rows v) a'.defers .returning w' := by
    intro hq
    obtain ⟨Ds, h1, h2, h3, _⟩ := r'.r.defers
    rw [h1]
    refine leaves (κ := ⟨W, fun _ => none, ⟨fun _ => 0, fun _ => Go.undef, 0⟩, w, w.heap.size, fun _ => False, w, none, none⟩) rfl ?_ Ds a' w' L' r'.r h1 h2 h3
    intro a2 w2 L2 h4
    obtain ⟨W', base', M', w0', hat, h0⟩ := h4.ex
    obtain ⟨_, e1, e2, e3, e4⟩ := hat
    replace h0 : R0 w.heap.size W (fun _ => False) w fn.ntmps st'.tmps st'.objs a2 w2 L2 := by rw [e1, e2, e3, e4] at h0; exact h0
    have fr := h0.o.fr
    refine ⟨_, results_slot hr, _, rfl, ⟨⟨fr.os, fr.tape, fr.output, fr.size, fun k hk => fr.block k hk (fun x => x)⟩, fr.drawn⟩, ?_⟩
    have ht := h0.tmps t
    rcases hq with ⟨hq, rfl, hsz⟩ | ⟨r, ver, hq, ho⟩
    · rw [hq] at ht
      simp only [RelD] at ht
      exact ⟨hsz, fun _ h => (by cases h), .inl ⟨rfl, ht⟩⟩
    · rw [hq] at ht
      simp only [RelD] at ht
      obtain ⟨_, ver', e', sz', rows', ho', _, hx⟩ := ht
      rw [ho] at ho'
      cases ho'
      have hx := hx rfl
      obtain ⟨g1, g2, g3, g4⟩ := h0.o.ob r _ ho
      refine ⟨g1, g2, ?_⟩
      rcases g4 with ⟨h5, a, h6⟩ | ⟨g, cap, cur, hv, hp, hh, k1, k2, k3, k4⟩
      · exact .inl ⟨h5, a, hx.trans h6⟩
      · have hcb : capBlock (L2.sl r) = some g := by rw [hv]; simp [capBlock, Nat.pos_iff_ne_zero.1 hp]
        refine .inr ⟨g, cap, cur, hx.trans hv, hp, (g3 g hcb).resolve_right (fun x => x), hh, k1, k2, k3, RelL.keep (Keeps.refl (WW W st'.objs L2) w2).toKeepsC (fun b _ hb => ?_) _ _ k4⟩
        rcases hb with hb | rfl
        · exact .inl hb
        · exact .inr ⟨r, _, ho, hcb⟩
  cases e' with
  | normal => exact done q
  | ret => exact done q
  | _ => exact q.elim

section
variable {κ : Ctx} {nt : Nat} {Γ : Env} {nxt : Nat} {ro : Option Nat} {n : Nat}
end

section
variable {nt : Nat} {Γ : Env} {Q : Exit → DSt → Prop} {tm : Nat → DV} {ob : Obs} {nxt low : Nat} {td : List (List T)}
end
end
end Go.DM
/- The D-machine: what operations touch, told with names that are not numerals. Conditions: none. -/
namespace Go.DM
set_option linter.unusedSimpArgs false
set_option linter.unusedVariables false
set_option linter.unusedSectionVars false
variable [Laid]
def retouch1 (f : Nat → Nat) (r : RO) : RO := ⟨r.d, r.dst, r.guard, r.after, r.touch.map (·.map f)⟩
def retouch (f : Nat → Nat) (rs : List RO) : List RO := rs.map (retouch1 f)
theorem disj_map {f : Nat → Nat} (hf : ∀ a b, f a = f b → a = b) (x y : Option (List Nat)) : disj (x.map (·.map f)) (y.map (·.map f)) = disj x y := by
  cases x <;> cases y <;> simp only [Option.map_none, Option.map_some, disj]
  rename_i a b
  rw [Bool.eq_iff_iff]
  simp only [List.all_map, List.all_eq_true, Function.comp_apply, bne_iff_ne, ne_eq, List.mem_map, forall_exists_index, and_imp, forall_apply_eq_imp_iff₂]
  exact ⟨fun h x hx y hy e => h x hx y hy (by rw [e]), fun h x hx y hy e => h x hx y hy (hf _ _ e)⟩
theorem indep_map {f : Nat → Nat} (hf : ∀ a b, f a = f b → a = b) (x y : RO) : indep (retouch1 f x) (retouch1 f y) = indep x y := by
  unfold indep
  rw [show (retouch1 f x).touch = x.touch.map (·.map f) from rfl, show (retouch1 f y).touch = y.touch.map (·.map f) from rfl, disj_map hf]
  rfl
theorem masks_map (f : Nat → Nat) (rs : List RO) : masks (retouch f rs) = masks rs := by
  unfold masks retouch
  rw [List.foldl_map]
  rfl
theorem dstsNe_map (f : Nat → Nat) : ∀ rs : List RO, dstsNe (retouch f rs) = dstsNe rs
  | [] => rfl
  | r :: rs => by
    simp only [retouch, List.map_cons, dstsNe, List.all_map]
    have := dstsNe_map f rs
    simp only [retouch] at this
    rw [this]
    rfl
theorem regionOk_map {f : Nat → Nat} (hf : ∀ a b, f a = f b → a = b) (nt : Nat) (draw : Bool) (rs : List RO) : regionOk nt draw (retouch f rs) = regionOk nt draw rs := by
  unfold regionOk
  rw [dstsNe_map, masks_map]
  have h1 : (retouch f rs).all (roOk nt) = rs.all (roOk nt) := by simp only [retouch, List.all_map]; rfl
  have h2 : pairsOk (retouch f rs) (masks rs) = pairsOk rs (masks rs) := by
    unfold pairsOk
    simp only [retouch, List.length_map, List.getElem?_map]
    congr 1
    funext i
    cases rs[i]? with
    | none => rfl
    | some y =>
      cases (masks rs)[i]? with
      | none => rfl
      | some m =>
        simp only [Option.map_some]
        congr 1
        congr 1
        funext x
        cases rs[x]? with
        | none => rfl
        | some r => simp only [Option.map_some, indep_map hf]
  rw [h1, h2]
/-- Names above N, by what is added to N; and one older name. -/
def nameF (b N : Nat) (n : Nat) : Nat := if n = 0 then b else N + n
theorem nameF_inj {b N : Nat} (h : b < N) (x y : Nat) (e : nameF b N x = nameF b N y) : x = y := by
  unfold nameF at e
  split at e <;> split at e <;> omega
theorem obs_setO (l : List (Nat × Ob)) (r : Nat) (o : Ob) : setO (obs l) r o = obs ((r, o) :: l) := rfl
end Go.DM
/- The D-machine, part Zc: regions in the order of the text, with calls that may write. Conditions: none. -/
namespace Go.DM
open Go.RowKit
set_option linter.unusedSimpArgs false
set_option linter.unusedVariables false
set_option linter.unusedSectionVars false
variable [Laid]

section
variable {P : Program} {nt : Nat} {Γ : Env} {Q : Exit → DSt → Prop} {st : DSt} {tm : Nat → DV} {ob : Obs} {nxt low : Nat} {td : List (List T)}
theorem SatD.regionF (hΓ : EnvOk P Γ) (hm : P.follows .mixedOrders = true) {d : DC} {rs : List RO} (hd : d = .region false (rs.map bare)) (hok : regionOk nt false rs = true)
    (hrun : runOk Γ st.nxt rs ⟨st.tmps, st.objs, st.todo⟩) (hQ : Q .normal ⟨(runSt Γ st.nxt rs ⟨st.tmps, st.objs, st.todo⟩).tmps, (runSt Γ st.nxt rs ⟨st.tmps, st.objs, st.todo⟩).objs, st.nxt + nt + 1, st.low, (runSt Γ st.nxt rs ⟨st.tmps, st.objs, st.todo⟩).todo⟩) :
    SatD P nt d Q st := by
  refine ⟨fun c hc => ?_⟩
  subst hd
  obtain ⟨id, ops, rfl, hrs, hok'⟩ := inv_region hc
  exact region_any hΓ hm hrs hok hrun hQ
/-- A region in the order of the text, told with words on which calls may write. -/
theorem SatD.regF (hΓ : EnvOk P Γ) (hm : P.follows .mixedOrders = true) {d : DC} {rs : List RO} (hd : d = .region false (rs.map bare)) (hok : regionOk nt false rs = true) (ks : List Nat)
    (h : exec Γ nxt rs ⟨tm, ob, td⟩ fun s => Q .normal ⟨look (keepT ks s.tmps), s.objs, nxt + nt + 1, low, s.todo⟩) : SatD P nt d Q ⟨tm, ob, nxt, low, td⟩ := by
  have := exec_sound _ _ _ h
  refine SatD.mono_le (Q := fun e s => e = .normal ∧ s = ⟨(runSt Γ nxt rs ⟨tm, ob, td⟩).tmps, (runSt Γ nxt rs ⟨tm, ob, td⟩).objs, nxt + nt + 1, low, (runSt Γ nxt rs ⟨tm, ob, td⟩).todo⟩) (SatD.regionF hΓ hm hd hok (st := ⟨tm, ob, nxt, low, td⟩) this.1 ⟨rfl, rfl⟩) ?_
  rintro e s ⟨rfl, rfl⟩
  exact ⟨_, Le.slots (look_keepT _ ks), this.2⟩
theorem SatD.regFSeq (hΓ : EnvOk P Γ) (hm : P.follows .mixedOrders = true) {d b : DC} {rs : List RO} (hd : d = .region false (rs.map bare)) (hok : regionOk nt false rs = true) (ks : List Nat)
    (h : exec Γ nxt rs ⟨tm, ob, td⟩ fun s => SatD P nt b Q ⟨look (keepT ks s.tmps), s.objs, nxt + nt + 1, low, s.todo⟩) : SatD P nt (.seq d b) Q ⟨tm, ob, nxt, low, td⟩ :=
  SatD.seq (SatD.regF hΓ hm hd hok ks h)
end
end Go.DM
