/- The D-machine, part P: a region told as one proposition that 'simp' works off; states in normal form. Conditions: none. -/
import Derived.Test.YtbncgpjkfglhdaaDoorDmO
namespace Go.DM
open Go.RowKit
set_option linter.unusedSimpArgs false

/-- A region's operations in the order of the text; then K. -/
def exec (Γ : Env) (nxt : Nat) : List RO → RS → (RS → Prop) → Prop
  | [], st, K => K st
  | r :: rs, st, K =>
    match r.guard with
    | none => touchOk r st.tmps ∧ (eff Γ nxt r st).ok ∧ exec Γ nxt rs ⟨updT st.tmps r.dst (eff Γ nxt r st).val, putO st.objs (eff Γ nxt r st).put⟩ K
    | some (s, want) =>
      match st.tmps s with
      | .v (.bool b) => (b = want → touchOk r st.tmps ∧ (eff Γ nxt r st).ok ∧ exec Γ nxt rs ⟨updT (updT st.tmps (some s) (.v (.bool want))) r.dst (eff Γ nxt r st).val, putO st.objs (eff Γ nxt r st).put⟩ K) ∧
          (b = !want → exec Γ nxt rs ⟨updT (updT st.tmps (some s) (.v (.bool (!want)))) r.dst .skip, st.objs⟩ K)
      | .skip => exec Γ nxt rs ⟨updT st.tmps r.dst .skip, st.objs⟩ K
      | _ => False

theorem updT_self {ρ : Nat → DV} {s : Nat} {v : DV} (h : ρ s = v) : updT ρ (some s) v = ρ := by
  funext x
  simp only [updT]
  split
  · rename_i e; rw [e, h]
  · rfl

theorem exec_sound {Γ : Env} {nxt : Nat} : ∀ (rs : List RO) (st : RS) (K : RS → Prop), exec Γ nxt rs st K → runOk Γ nxt rs st ∧ K (runSt Γ nxt rs st)
  | [], st, K, h => ⟨trivial, h⟩
  | r :: rs, st, K, h => by
    simp only [exec] at h
    simp only [runOk, runSt]
    have yes : wantD r.guard st.tmps = some true → (touchOk r st.tmps ∧ (eff Γ nxt r st).ok ∧ exec Γ nxt rs ⟨updT st.tmps r.dst (eff Γ nxt r st).val, putO st.objs (eff Γ nxt r st).put⟩ K) → (stepOk Γ nxt r st ∧ runOk Γ nxt rs (stepSt Γ nxt r st)) ∧ K (runSt Γ nxt rs (stepSt Γ nxt r st)) := by
      rintro hw ⟨ht, hok, hk⟩
      have e1 : stepSt Γ nxt r st = ⟨updT st.tmps r.dst (eff Γ nxt r st).val, putO st.objs (eff Γ nxt r st).put⟩ := by simp only [stepSt, hw]
      have e2 : stepOk Γ nxt r st := by simp only [stepOk, hw]; exact ⟨hok, ht⟩
      rw [e1]
      have := exec_sound rs _ K hk
      exact ⟨⟨e2, this.1⟩, this.2⟩
    have no : wantD r.guard st.tmps = some false → exec Γ nxt rs ⟨updT st.tmps r.dst .skip, st.objs⟩ K → (stepOk Γ nxt r st ∧ runOk Γ nxt rs (stepSt Γ nxt r st)) ∧ K (runSt Γ nxt rs (stepSt Γ nxt r st)) := by
      rintro hw hk
      have e1 : stepSt Γ nxt r st = ⟨updT st.tmps r.dst .skip, st.objs⟩ := by simp only [stepSt, hw]
      have e2 : stepOk Γ nxt r st := by simp only [stepOk, hw]
      rw [e1]
      have := exec_sound rs _ K hk
      exact ⟨⟨e2, this.1⟩, this.2⟩
    cases hg : r.guard with
    | none => rw [hg] at h; exact yes (by simp [wantD, hg]) h
    | some g =>
      obtain ⟨s, want⟩ := g
      rw [hg] at h
      simp only at h
      cases hs : st.tmps s with
      | skip => rw [hs] at h; exact no (by simp [wantD, hg, hs]) h
      | v t =>
        rw [hs] at h
        cases t with
        | bool b =>
          simp only at h
          by_cases hb : b = want
          · subst hb
            rw [updT_self hs] at h
            exact yes (by simp [wantD, hg, hs]) (h.1 rfl)
          · have hb' : b = !want := by cases b <;> cases want <;> simp_all
            subst hb'
            rw [updT_self hs] at h
            exact no (by simp [wantD, hg, hs]) (h.2 rfl)
        | _ => exact h.elim
      | _ => rw [hs] at h; exact h.elim

/-- Going on with an effect. -/
def goOn (Γ : Env) (nxt : Nat) (rs : List RO) (tm : Nat → DV) (ob : Obs) (K : RS → Prop) (dst : Option Nat) (e : Eff) : Prop :=
  e.ok ∧ exec Γ nxt rs ⟨updT tm dst e.val, putO ob e.put⟩ K
/-- What a guard says. -/
def guardE (Γ : Env) (nxt : Nat) (d : DOp) (rs : List RO) (tm : Nat → DV) (ob : Obs) (K : RS → Prop) (dst : Option Nat) (s : Nat) (want : Bool) (g : DV) : Prop :=
  match g with
  | .v (.bool b) => (b = want → goOn Γ nxt rs (updT tm (some s) (.v (.bool want))) ob K dst (sem Γ d (nameOf nxt dst) tm ob)) ∧
      (b = !want → exec Γ nxt rs ⟨updT (updT tm (some s) (.v (.bool (!want)))) dst .skip, ob⟩ K)
  | .skip => exec Γ nxt rs ⟨updT tm dst .skip, ob⟩ K
  | _ => False

section
variable {Γ : Env} {nxt : Nat} {st : RS} {K : RS → Prop} {rs : List RO} {tm : Nat → DV} {ob : Obs} {dst : Option Nat}
theorem goOn_mk (ok : Prop) (v : DV) (p : Option (Nat × Ob)) : goOn Γ nxt rs tm ob K dst ⟨ok, v, p⟩ = (ok ∧ exec Γ nxt rs ⟨updT tm dst v, putO ob p⟩ K) := rfl
theorem goOn_bad : goOn Γ nxt rs tm ob K dst bad = False := by simp [goOn, bad]
theorem guardE_bool (d : DOp) (s : Nat) (b want : Bool) : guardE Γ nxt d rs tm ob K dst s want (.v (.bool b)) = ((b = want → goOn Γ nxt rs (updT tm (some s) (.v (.bool want))) ob K dst (sem Γ d (nameOf nxt dst) tm ob)) ∧
      (b = !want → exec Γ nxt rs ⟨updT (updT tm (some s) (.v (.bool (!want)))) dst .skip, ob⟩ K)) := rfl
theorem exec_nil : exec Γ nxt [] st K = K st := rfl
theorem exec_plain (d : DOp) (af : List Nat) : exec Γ nxt (⟨d, dst, none, af, none⟩ :: rs) ⟨tm, ob⟩ K = goOn Γ nxt rs tm ob K dst (sem Γ d (nameOf nxt dst) tm ob) := by
  simp [exec, touchOk, eff, goOn]
theorem exec_touch (d : DOp) (af : List Nat) (l : List Nat) :
    exec Γ nxt (⟨d, dst, none, af, some l⟩ :: rs) ⟨tm, ob⟩ K = (touchOk ⟨d, dst, none, af, some l⟩ tm ∧ goOn Γ nxt rs tm ob K dst (sem Γ d (nameOf nxt dst) tm ob)) := by
  simp only [exec, eff, goOn]
@[simp low] theorem exec_guard (d : DOp) (s : Nat) (want : Bool) (af : List Nat) :
    exec Γ nxt (⟨d, dst, some (s, want), af, none⟩ :: rs) ⟨tm, ob⟩ K = guardE Γ nxt d rs tm ob K dst s want (tm s) := by
  simp only [exec, guardE, touchOk, eff, true_and, goOn]
end

section
variable {Γ : Env} {nxt : Nat} {K : RS → Prop} {rs : List RO} {tm : Nat → DV} {ob : Obs} {dst : Option Nat} {d : DOp} {s : Nat} {af : List Nat}
@[simp] theorem exec_g_tt (h : tm s = .v (.bool true)) : exec Γ nxt (⟨d, dst, some (s, true), af, none⟩ :: rs) ⟨tm, ob⟩ K = goOn Γ nxt rs tm ob K dst (sem Γ d (nameOf nxt dst) tm ob) := by
  simp [exec, h, touchOk, eff, goOn, updT_self h]
@[simp] theorem exec_g_ff (h : tm s = .v (.bool false)) : exec Γ nxt (⟨d, dst, some (s, false), af, none⟩ :: rs) ⟨tm, ob⟩ K = goOn Γ nxt rs tm ob K dst (sem Γ d (nameOf nxt dst) tm ob) := by
  simp [exec, h, touchOk, eff, goOn, updT_self h]
@[simp] theorem exec_g_tf (h : tm s = .v (.bool true)) : exec Γ nxt (⟨d, dst, some (s, false), af, none⟩ :: rs) ⟨tm, ob⟩ K = exec Γ nxt rs ⟨updT tm dst .skip, ob⟩ K := by
  simp [exec, h, touchOk, eff, goOn, updT_self h]
@[simp] theorem exec_g_ft (h : tm s = .v (.bool false)) : exec Γ nxt (⟨d, dst, some (s, true), af, none⟩ :: rs) ⟨tm, ob⟩ K = exec Γ nxt rs ⟨updT tm dst .skip, ob⟩ K := by
  simp [exec, h, touchOk, eff, goOn, updT_self h]
@[simp] theorem exec_g_sk {want : Bool} (h : tm s = .skip) : exec Γ nxt (⟨d, dst, some (s, want), af, none⟩ :: rs) ⟨tm, ob⟩ K = exec Γ nxt rs ⟨updT tm dst .skip, ob⟩ K := by
  simp [exec, h, touchOk, eff, goOn]
end

/-- Slots in normal form. -/
def look : List (Nat × DV) → Nat → DV
  | [], _ => .undef
  | (j, v) :: l, k => if k = j then v else look l k
/-- Objects in normal form. -/
def obs : List (Nat × Ob) → Nat → Option Ob
  | [], _ => none
  | (j, o) :: l, k => if k = j then some o else obs l k

theorem updT_app (f : Nat → DV) (k : Nat) (v : DV) (x : Nat) : updT f (some k) v x = if x = k then v else f x := rfl
theorem updT_none (f : Nat → DV) (v : DV) : updT f none v = f := rfl
theorem putO_none (f : Obs) : putO f none = f := rfl
theorem putO_some (f : Obs) (r : Nat) (o : Ob) (x : Nat) : putO f (some (r, o)) x = if x = r then some o else f x := rfl
theorem look_cons (j : Nat) (v : DV) (l : List (Nat × DV)) (k : Nat) : look ((j, v) :: l) k = if k = j then v else look l k := rfl
theorem look_nil (k : Nat) : look [] k = .undef := rfl
theorem obs_cons (j : Nat) (o : Ob) (l : List (Nat × Ob)) (k : Nat) : obs ((j, o) :: l) k = if k = j then some o else obs l k := rfl
theorem obs_nil (k : Nat) : obs [] k = none := rfl
theorem putO_obs (l : List (Nat × Ob)) (r : Nat) (o : Ob) : putO (obs l) (some (r, o)) = obs ((r, o) :: l) := rfl

/-- The slots ks alone are kept. -/
def keepT (ks : List Nat) (tm : Nat → DV) : List (Nat × DV) := ks.map fun k => (k, tm k)
theorem keepT_cons (k : Nat) (ks : List Nat) (tm : Nat → DV) : keepT (k :: ks) tm = (k, tm k) :: keepT ks tm := rfl
theorem keepT_nil (tm : Nat → DV) : keepT [] tm = [] := rfl

theorem look_keepT (tm : Nat → DV) : ∀ (ks : List Nat) (k : Nat), look (keepT ks tm) k = .undef ∨ look (keepT ks tm) k = tm k
  | [], _ => .inl rfl
  | j :: ks, k => by
    rw [keepT_cons, look_cons]
    split
    · rename_i h; exact .inr (by rw [h])
    · exact look_keepT tm ks k

/-- Fewer slots say less. -/
theorem Le.slots {st : DSt} {tm : Nat → DV} (h : ∀ k, tm k = .undef ∨ tm k = st.tmps k) : Le st ⟨tm, st.objs, st.nxt⟩ := fun base W M w0 nt a w L r =>
  ⟨L, r.defers, r.size, fun t => by
    rcases h t with e | e
    · show RelD w W st.objs L (tm t) _; rw [e]; simp [RelD]
    · show RelD w W st.objs L (tm t) _; rw [e]; exact r.tmps t, r.o, r.fresh⟩

theorem initSt_le (ts : List T) : Le (initSt ts) ⟨look ((ts.map .v).zipIdx.map fun p => (p.2, p.1)), obs [], 1000⟩ := by
  have key : ∀ (ts : List T) (i k : Nat), look (((ts.map .v).zipIdx i).map fun p => (p.2, p.1)) k = .undef ∨ look (((ts.map .v).zipIdx i).map fun p => (p.2, p.1)) k = argD (if i ≤ k then ts[k - i]? else none) := by
    intro ts
    induction ts with
    | nil => intro i k; exact .inl rfl
    | cons t ts ih =>
      intro i k
      simp only [List.map_cons, List.zipIdx_cons, look_cons]
      split
      · rename_i h; subst h; exact .inr (by simp [argD])
      · rename_i h
        rcases ih (i + 1) k with e | e
        · exact .inl e
        · right
          rw [e]
          by_cases hk : i + 1 ≤ k
          · rw [if_pos hk, if_pos (by omega), show k - i = (k - (i + 1)) + 1 by omega, List.getElem?_cons_succ]
          · have : ¬ i ≤ k := by omega
            rw [if_neg hk, if_neg this]
  refine Le.trans (Le.slots (st := initSt ts) (tm := look ((ts.map .v).zipIdx.map fun p => (p.2, p.1))) fun k => ?_) (fun base W M w0 nt a w L r => ⟨L, r⟩)
  have := key ts 0 k
  simpa [initSt] using this

section
variable {P : Program} {nt : Nat} {Γ : Env} {Q : Exit → DSt → Prop} {st : DSt} {tm : Nat → DV} {ob : Obs} {nxt : Nat}

/-- A region, and then only the slots ks. -/
theorem SatD.reg (hΓ : EnvOk P Γ) (hm : P.follows .mixedOrders = true) {draw : Bool} {rs : List RO} (ks : List Nat)
    (h : exec Γ nxt rs ⟨tm, ob⟩ fun s => Q .normal ⟨look (keepT ks s.tmps), s.objs, nxt + nt + 1⟩) : SatD P nt (.region draw rs) Q ⟨tm, ob, nxt⟩ := by
  have := exec_sound _ _ _ h
  refine SatD.mono_le (Q := fun e s => e = .normal ∧ s = ⟨(runSt Γ nxt rs ⟨tm, ob⟩).tmps, (runSt Γ nxt rs ⟨tm, ob⟩).objs, nxt + nt + 1⟩) (SatD.region hΓ hm (st := ⟨tm, ob, nxt⟩) this.1 ⟨rfl, rfl⟩) ?_
  rintro e s ⟨rfl, rfl⟩
  exact ⟨_, Le.slots (look_keepT _ ks), this.2⟩
/-- A region, and then the rest of a sequence. -/
theorem SatD.regSeq (hΓ : EnvOk P Γ) (hm : P.follows .mixedOrders = true) {draw : Bool} {rs : List RO} {b : DC} (ks : List Nat)
    (h : exec Γ nxt rs ⟨tm, ob⟩ fun s => SatD P nt b Q ⟨look (keepT ks s.tmps), s.objs, nxt + nt + 1⟩) : SatD P nt (.seq (.region draw rs) b) Q ⟨tm, ob, nxt⟩ :=
  SatD.seq (SatD.reg hΓ hm ks h)
/-- The same of a region with words on what it touches. -/
theorem SatD.regT (hΓ : EnvOk P Γ) (hm : P.follows .mixedOrders = true) {rs : List RO} (ts : List (Option (List Nat))) (hok : regionOk nt true (annot rs ts) = true) (ks : List Nat)
    (h : exec Γ nxt (annot rs ts) ⟨tm, ob⟩ fun s => Q .normal ⟨look (keepT ks s.tmps), s.objs, nxt + nt + 1⟩) : SatD P nt (.regionT rs) Q ⟨tm, ob, nxt⟩ := by
  have := exec_sound _ _ _ h
  refine SatD.mono_le (Q := fun e s => e = .normal ∧ s = ⟨(runSt Γ nxt (annot rs ts) ⟨tm, ob⟩).tmps, (runSt Γ nxt (annot rs ts) ⟨tm, ob⟩).objs, nxt + nt + 1⟩) (SatD.regionT hΓ hm ts hok (st := ⟨tm, ob, nxt⟩) this.1 ⟨rfl, rfl⟩) ?_
  rintro e s ⟨rfl, rfl⟩
  exact ⟨_, Le.slots (look_keepT _ ks), this.2⟩
end

theorem initSt_sat {P : Program} {nt : Nat} {d : DC} {Q : Exit → DSt → Prop} {ts : List T} (h : SatD P nt d Q ⟨look ((ts.map .v).zipIdx.map fun p => (p.2, p.1)), obs [], 1000⟩) : SatD P nt d Q (initSt ts) := SatD.le (initSt_le ts) h

attribute [simp] putO_some goOn_mk goOn_bad guardE_bool exec_nil exec_plain exec_touch updT_app updT_none putO_none putO_obs look_cons look_nil obs_cons obs_nil keepT_cons keepT_nil
attribute [simp] sem Opd.ev loadSem storeSem binSem eqSem unSem addOffSem nilCheckSem idxSem arrAddrSem fieldSem aggCells intOf? loOf hiOf sliceSem extractSem lenSem lenSSem minmaxSem srcRows appendSem makeSem callSem
attribute [simp] finQ RetOk retOks retTs DRes.eff boxable cellsOf cellables cellable pureCell pureCells splice fillD fillOk tOf tOfs tOk tOks nameOf leafT fitsT shOk eqTB eqTBs thenQ blockQ

theorem wrap_id {x : Int} (h : -9223372036854775808 ≤ x ∧ x ≤ 9223372036854775807) : IntKind.i64.wrap x = x := by
  simp [IntKind.wrap, IntKind.bits, IntKind.signed]
  omega
theorem tdiv2 {x : Int} (h : 0 ≤ x) : x.tdiv 2 = x / 2 := Int.tdiv_eq_ediv_of_nonneg h
theorem tmod2 {x : Int} (h : 0 ≤ x) : x.tmod 2 = x % 2 := Int.tmod_eq_emod_of_nonneg h
end Go.DM
