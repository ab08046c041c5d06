/- The D-machine, part O: functions. Conditions: none. -/
import Derived.Test.YtbncgpjkfglhdaaDoorDmN
namespace Go.DM
open Go.RowKit
set_option linter.unusedSimpArgs false

/-- A result: a slot, or a variable that a slot points to. -/
inductive DRes where
  | slot (t : Nat)
  | cell (a n : Nat) (agg : Bool)

def resOf (P : Program) : ResultVar → Option DRes
  | .tmp t => some (.slot t)
  | .cell a t => match P.underlying t, P.info? t with
    | some d, some i => some (.cell a i.size (aggDesc d))
    | _, _ => none

def DRes.eff (st : DSt) : DRes → Eff
  | .slot t => ⟨True, st.tmps t, none⟩
  | .cell a n agg => loadSem n agg st.objs (st.tmps a)

def retOks (st : DSt) : List DRes → Prop
  | [] => True
  | r :: rs => ((r.eff st).ok ∧ tOk true st.objs (r.eff st).val) ∧ retOks st rs
def retTs (st : DSt) (rs : List DRes) : List T := rs.map fun r => tOf st.objs (r.eff st).val

/-- What a function answers at its end. -/
def RetOk (rs : List DRes) (t : T) (st : DSt) : Prop :=
  retOks st rs ∧ t = (match retTs st rs with | [x] => x | ts => .tup ts)

def argD : Option T → DV
  | some t => .v t
  | none => .skip
def initSt (ts : List T) : DSt := ⟨fun k => argD ts[k]?, fun _ => none, 1000⟩

def finQ (rs : List DRes) (t : T) : Exit → DSt → Prop
  | .normal, st | .ret, st => RetOk rs t st
  | _, _ => False

section
variable {P : Program}

theorem res_run {base : Nat} {W M : Nat → Prop} {w0 w : World} {nt : Nat} {st : DSt} {a : Act} {L : Loc} (h : Rel base W M w0 nt st a w L) {rv : ResultVar} {r : DRes} (hr : resOf P rv = some r) (hok : (r.eff st).ok ∧ tOk true st.objs (r.eff st).val) :
    ∃ v, ((match rv with | .tmp t => pure (a.tmps.getD t Go.undef) | .cell b t => do loadVar t (← asAddr (a.tmps.getD b Go.undef))) : Sem Value).run P w = .ok v w ∧ RelT w W (tOf st.objs (r.eff st).val) v := by
  have fin : ∀ {d : DV} {x : Value}, RelD w W st.objs L d x → tOk true st.objs d → RelT w W (tOf st.objs d) x := fun hd hk =>
    (tOf_relT (lend := true) W h.o (fun _ r o b h1 h2 => h.o.outer r o b h1 h2) (fun b hb => .inl hb)).1 _ _ hd hk
  cases rv with
  | tmp t =>
    simp only [resOf, Option.some.injEq] at hr
    subst hr
    exact ⟨_, rfl, fin (h.tmps t) hok.2⟩
  | cell b t =>
    simp only [resOf] at hr
    split at hr
    · rename_i d i hd hi
      simp only [Option.some.injEq] at hr
      subst hr
      simp only [DRes.eff] at hok
      obtain ⟨hp, v, hrun, hv⟩ := load_sound h.o hd hi (h.tmps b) hok.1
      refine ⟨v, ?_, fin hv hok.2⟩
      have hpt : ∃ p, a.tmps.getD b Go.undef = .pointer (some p) := by
        have hx := h.tmps b
        have ho := hok.1
        cases hq : st.tmps b with
        | ptr r off => rw [hq] at hx; simp only [RelD] at hx; exact ⟨_, hx.2⟩
        | tptr rows j off => rw [hq] at hx; simp only [RelD] at hx; obtain ⟨_, _, _, hx, _⟩ := hx; exact ⟨_, hx⟩
        | bptr cs off => rw [hq] at hx; simp only [RelD] at hx; obtain ⟨_, _, hx, _⟩ := hx; exact ⟨_, hx⟩
        | aptr r ver j off => rw [hq] at hx; simp only [RelD] at hx; obtain ⟨⟨_, _, hx⟩, _⟩ := hx; exact ⟨_, hx⟩
        | v t' =>
          rw [hq] at hx ho
          cases t' with
          | box cs => simp only [RelD, RelT] at hx; obtain ⟨_, _, hx, _⟩ := hx; exact ⟨_, hx⟩
          | _ => exact ho.elim
        | _ => rw [hq] at ho; exact ho.elim
      obtain ⟨p, hp⟩ := hpt
      show Sem.run P (do loadVar t (← asAddr (a.tmps.getD b Go.undef))) w = _
      rw [hp] at hrun ⊢
      simpa [Instr.loadAt, Instr.sureAddr, asAddr] using hrun
    · cases hr

theorem res_all {base : Nat} {W M : Nat → Prop} {w0 w : World} {nt : Nat} {st : DSt} {a : Act} {L : Loc} (h : Rel base W M w0 nt st a w L) : ∀ {rvs : List ResultVar} {rs : List DRes}, rvs.mapM (resOf P) = some rs → retOks st rs →
    ∃ vs, (rvs.mapM (fun rv => ((match rv with | .tmp t => pure (a.tmps.getD t Go.undef) | .cell b t => do loadVar t (← asAddr (a.tmps.getD b Go.undef))) : Sem Value))).run P w = .ok vs w ∧ RelA w W (retTs st rs) vs
  | [], rs, hr, _ => by simp at hr; subst hr; exact ⟨[], by simp, by simp [retTs, RelA]⟩
  | rv :: rvs, rs, hr, hok => by
    simp only [List.mapM_cons, Option.pure_def, Option.bind_eq_bind, Option.bind_eq_some_iff, Option.some.injEq] at hr
    obtain ⟨r, hr1, rs', hrs, rfl⟩ := hr
    simp only [retOks] at hok
    obtain ⟨v, h1, h2⟩ := res_run h hr1 hok.1
    obtain ⟨vs, h3, h4⟩ := res_all h hrs hok.2
    refine ⟨v :: vs, ?_, ?_⟩
    · rw [List.mapM_cons]
      simp only [Sem.run_bind, h1, Result.andThen_ok, h3, Sem.run_pure]
    · simp only [retTs, List.map_cons, RelA]
      exact ⟨v, vs, rfl, h2, h4⟩

theorem results_run {base : Nat} {W M : Nat → Prop} {w0 w : World} {nt : Nat} {st : DSt} {a : Act} {L : Loc} (h : Rel base W M w0 nt st a w L) {fn : Func} {rs : List DRes} (hr : fn.results.toList.mapM (resOf P) = some rs) {t : T} (hok : RetOk rs t st) :
    ∃ v, (results fn a.tmps).run P w = .ok v w ∧ RelT w W t v := by
  obtain ⟨h1, rfl⟩ := hok
  obtain ⟨vs, h2, h3⟩ := res_all h hr h1
  have hm : (fn.results.mapM (fun rv => ((match rv with | .tmp t => pure (a.tmps.getD t Go.undef) | .cell b t => do loadVar t (← asAddr (a.tmps.getD b Go.undef))) : Sem Value))).run P w = .ok vs.toArray w := by
    rw [Array.mapM_eq_mapM_toList]
    simp only [Sem.run_map, h2, Result.andThen_ok]
  have hl : vs.length = (retTs st rs).length := RelA.length h3
  refine ⟨if h : vs.toArray.size = 1 then vs.toArray[0] else .tuple vs.toArray, ?_, ?_⟩
  · have hrr : (results fn a.tmps) = (do
      let vs ← fn.results.mapM (fun rv => ((match rv with | .tmp t => pure (a.tmps.getD t Go.undef) | .cell b t => do loadVar t (← asAddr (a.tmps.getD b Go.undef))) : Sem Value))
      pure (if h : vs.size = 1 then vs[0] else .tuple vs)) := rfl
    rw [hrr]
    simp only [Sem.run_bind, hm, Result.andThen_ok, Sem.run_pure]
  · cases hts : retTs st rs with
    | nil =>
      rw [hts] at hl h3
      have : vs = [] := List.eq_nil_of_length_eq_zero (by simpa using hl)
      subst this
      simp only [RelT]
      exact ⟨#[], by simp, by simp [RelA]⟩
    | cons x xs =>
      rw [hts] at hl h3
      cases xs with
      | nil =>
        simp only [RelA] at h3
        obtain ⟨v, vs', rfl, hv, rfl⟩ := h3
        simpa using hv
      | cons y ys =>
        have : vs.toArray.size ≠ 1 := by simp at hl ⊢; omega
        rw [dif_neg this]
        simp only [RelT]
        exact ⟨_, rfl, by simpa using h3⟩

/-- A function's code as the machine reads it. -/
def CodeOf (P : Program) (f : FuncId) (nt : Nat) (d : DC) (rs : List DRes) : Prop :=
  ∃ fn, P.funcs[f]? = some fn ∧ fn.ntmps = nt ∧ fn.body.map (compileC P nt) = some d ∧ fn.results.toList.mapM (resOf P) = some rs

/-- A function's contract, out of its code. -/
theorem fn_ok {f : FuncId} {fn : Func} {c : Code} {d : DC} {rs : List DRes} {ts : List T} {t : T} (hfn : P.funcs[f]? = some fn) (hb : fn.body = some c) (hc : compileC P fn.ntmps c = d) (hr : fn.results.toList.mapM (resOf P) = some rs) (hlen : ts.length ≤ fn.ntmps)
    (h : SatD P fn.ntmps d (finQ rs t) (initSt ts)) : CallsOk P f ts t := by
  intro W w vals hW hrel
  have hl := RelA.length hrel
  simp only [Array.length_toList] at hl
  have hrel0 : Rel w.heap.size W (fun _ => False) w fn.ntmps (initSt ts) { tmps := vals ++ Array.replicate (fn.ntmps - vals.size) Go.undef, defers := [] } w ⟨fun _ => 0, fun _ => Go.undef⟩ := by
    refine ⟨rfl, by simp; omega, fun k => ?_, ⟨Fr.refl (Nat.le_refl _), (fun r o h => by cases h), (fun r r' o o' b _ h => by cases h), (fun r o b h => by cases h), hW⟩, fun _ _ => rfl⟩
    simp only [initSt]
    cases hk : ts[k]? with
    | some x =>
      obtain ⟨v, hv, hv2⟩ := RelA.get hrel hk
      have hlt : k < vals.size := by have := (List.getElem?_eq_some_iff.1 hv).1; simpa using this
      have : (vals ++ Array.replicate (fn.ntmps - vals.size) Go.undef).getD k Go.undef = v := by
        rw [Array.getD_eq_getD_getElem?, Array.getElem?_append_left hlt]
        simp only [Array.getElem?_toList] at hv
        rw [hv]; rfl
      simp only [this, argD, RelD]
      refine RelT.keep (Keeps.mono (Keeps.refl (fun _ => False) w) (fun _ h => h.elim)) ?_ x v hv2
      rintro b hb (h | ⟨r, o, h, _⟩)
      · exact h
      · cases h
    | none =>
      have hge : vals.size ≤ k := by
        have := List.getElem?_eq_none_iff.1 hk
        omega
      simp only [argD, RelD]
      rw [Array.getD_eq_getD_getElem?, Array.getElem?_append_right hge, Array.getElem?_replicate]
      split <;> rfl
  have hwp := h.run c hc none 0 _ _ _ _ _ _ _ hrel0
  refine calls_of_wp hfn hb ?_
  refine wp_mono (wpIn_wide.1 hwp) ?_
  rintro e a' w' ⟨st', L', q, r'⟩
  have done : RetOk rs t st' → a'.defers = [] ∧ ∃ v, (results fn a'.tmps).run P w' = .ok v w' ∧ ∃ v_1, Ending.returned v = .returned v_1 ∧ Below w.heap.size w w' ∧ RelT w' W t v_1 := by
    intro hq
    obtain ⟨v, h1, h2⟩ := results_run r' hr hq
    have fr := r'.o.fr
    exact ⟨r'.defers, v, h1, v, rfl, ⟨fr.os, fr.tape, fr.output, fr.size, fun k hk => fr.block k hk (fun x => x)⟩, h2⟩
  cases e with
  | normal => exact done q
  | ret => exact done q
  | _ => exact q.elim

theorem CodeOf.ok {f : FuncId} {nt : Nat} {d : DC} {rs : List DRes} (h : CodeOf P f nt d rs) {ts : List T} {t : T} (hlen : ts.length ≤ nt) (k : SatD P nt d (finQ rs t) (initSt ts)) : CallsOk P f ts t := by
  obtain ⟨fn, h1, rfl, h3, h4⟩ := h
  obtain ⟨c, h2, h3⟩ := Option.map_eq_some_iff.1 h3
  exact fn_ok h1 h2 h3 h4 hlen k
end
end Go.DM
