/- The D-machine, part O: functions. Conditions: none. -/
import Derived.Test.YtecgedikabjcdaaDmN
import Derived.RangeFuncLeaves
namespace Go.DM
open Go.RowKit
set_option linter.unusedSimpArgs false
set_option linter.unusedVariables false

/-- A result: a slot, or a variable that a slot points to. -/
inductive DRes where
  | slot (t : Nat)
  | cell (a n : Nat) (agg : Bool)

def resOf (P : Program) : ResultVar → Option DRes
  | .tmp t => some (.slot t)
  | .cell a t => match P.underlying t, P.info? t with
    | some d, some i => some (.cell a i.size (aggDesc d))
    | _, _ => none

def DRes.eff (st : DSt) : DRes → Eff
  | .slot t => ⟨True, st.tmps t, none⟩
  | .cell a n agg => loadSem n agg st.objs (st.tmps a)

def retOks (lend : Bool) (st : DSt) : List DRes → Prop
  | [] => True
  | r :: rs => ((r.eff st).ok ∧ tOk lend st.objs (r.eff st).val) ∧ retOks lend st rs
def retTs (st : DSt) (rs : List DRes) : List T := rs.map fun r => tOf st.objs (r.eff st).val

/-- What a function answers at its end. -/
def RetOk (rs : List DRes) (t : T) (st : DSt) : Prop :=
  retOks true st rs ∧ t = (match retTs st rs with | [x] => x | ts => .tup ts)
/-- The same of a function that may write. -/
def RetOkS (rs : List DRes) (r : SRes) (st : DSt) : Prop :=
  retOks false st rs ∧ st.objs = r.objs ∧ r.val = .v (match retTs st rs with | [x] => x | ts => .tup ts)

def argD : Option T → DV
  | some t => .v t
  | none => .skip
def initSt (ts : List T) : DSt := ⟨fun k => argD ts[k]?, fun _ => none, 1000, 1000, []⟩
def argV : Option DV → DV
  | some d => d
  | none => .skip
def initS (args : List DV) (objs : Obs) (N : Nat) : DSt := ⟨fun k => argV args[k]?, objs, N, N, []⟩

def finQ (rs : List DRes) (t : T) : Exit → DSt → Prop
  | .normal, st | .ret, st => RetOk rs t st
  | _, _ => False
def finS (rs : List DRes) (r : SRes) : Exit → DSt → Prop
  | .normal, st | .ret, st => RetOkS rs r st
  | _, _ => False

section
variable {P : Program}

theorem res_run {base : Nat} {W M : Nat → Prop} {w0 w : World} {nt : Nat} {st : DSt} {a : Act} {L : Loc} (h : R0 base W M w0 nt st.tmps st.objs a w L) {lend : Bool} {W' : Nat → Prop} (hW : lend = true → ∀ r o b, st.objs r = some o → L.own r o = some b → ¬ W' b) (hW2 : ∀ b, W' b → WW W st.objs L b) {rv : ResultVar} {r : DRes} (hr : resOf P rv = some r) (hok : (r.eff st).ok ∧ tOk lend st.objs (r.eff st).val) :
    ∃ v, ((match rv with | .tmp t => pure (a.tmps.getD t Go.undef) | .cell b t => do loadVar t (← asAddr (a.tmps.getD b Go.undef))) : Sem Value).run P w = .ok v w ∧ RelT w W' (tOf st.objs (r.eff st).val) v := by
  have fin : ∀ {d : DV} {x : Value}, RelD w W st.objs L d x → tOk lend st.objs d → RelT w W' (tOf st.objs d) x := fun hd hk =>
    (tOf_relT (lend := lend) W' h.o hW hW2).1 _ _ hd hk
  cases rv with
  | tmp t =>
    simp only [resOf, Option.some.injEq] at hr
    subst hr
    exact ⟨_, rfl, fin (h.tmps t) hok.2⟩
  | cell b t =>
    simp only [resOf] at hr
    split at hr
    · rename_i d i hd hi
      simp only [Option.some.injEq] at hr
      subst hr
      simp only [DRes.eff] at hok
      obtain ⟨hp, v, hrun, hv⟩ := load_sound h.o hd hi (h.tmps b) hok.1
      refine ⟨v, ?_, fin hv hok.2⟩
      have hpt : ∃ p, a.tmps.getD b Go.undef = .pointer (some p) := by
        have hx := h.tmps b
        have ho := hok.1
        cases hq : st.tmps b with
        | ptr r off => rw [hq] at hx; simp only [RelD] at hx; exact ⟨_, hx.2⟩
        | tptr rows j off => rw [hq] at hx; simp only [RelD] at hx; obtain ⟨_, _, _, hx, _⟩ := hx; exact ⟨_, hx⟩
        | bptr cs off => rw [hq] at hx; simp only [RelD] at hx; obtain ⟨_, _, hx, _⟩ := hx; exact ⟨_, hx⟩
        | aptr r ver j off => rw [hq] at hx; simp only [RelD] at hx; obtain ⟨⟨_, _, hx⟩, _⟩ := hx; exact ⟨_, hx⟩
        | v t' =>
          rw [hq] at hx ho
          cases t' with
          | box cs => simp only [RelD, RelT] at hx; obtain ⟨_, _, hx, _⟩ := hx; exact ⟨_, hx⟩
          | _ => exact ho.elim
        | _ => rw [hq] at ho; exact ho.elim
      obtain ⟨p, hp⟩ := hpt
      show Sem.run P (do loadVar t (← asAddr (a.tmps.getD b Go.undef))) w = _
      rw [hp] at hrun ⊢
      simpa [Instr.loadAt, Instr.sureAddr, asAddr] using hrun
    · cases hr

theorem res_all {base : Nat} {W M : Nat → Prop} {w0 w : World} {nt : Nat} {st : DSt} {a : Act} {L : Loc} (h : R0 base W M w0 nt st.tmps st.objs a w L) {lend : Bool} {W' : Nat → Prop} (hW : lend = true → ∀ r o b, st.objs r = some o → L.own r o = some b → ¬ W' b) (hW2 : ∀ b, W' b → WW W st.objs L b) : ∀ {rvs : List ResultVar} {rs : List DRes}, rvs.mapM (resOf P) = some rs → retOks lend st rs →
    ∃ vs, (rvs.mapM (fun rv => ((match rv with | .tmp t => pure (a.tmps.getD t Go.undef) | .cell b t => do loadVar t (← asAddr (a.tmps.getD b Go.undef))) : Sem Value))).run P w = .ok vs w ∧ RelA w W' (retTs st rs) vs
  | [], rs, hr, _ => by simp at hr; subst hr; exact ⟨[], by simp, by simp [retTs, RelA]⟩
  | rv :: rvs, rs, hr, hok => by
    simp only [List.mapM_cons, Option.pure_def, Option.bind_eq_bind, Option.bind_eq_some_iff, Option.some.injEq] at hr
    obtain ⟨r, hr1, rs', hrs, rfl⟩ := hr
    simp only [retOks] at hok
    obtain ⟨v, h1, h2⟩ := res_run h hW hW2 hr1 hok.1
    obtain ⟨vs, h3, h4⟩ := res_all h hW hW2 hrs hok.2
    refine ⟨v :: vs, ?_, ?_⟩
    · rw [List.mapM_cons]
      simp only [Sem.run_bind, h1, Result.andThen_ok, h3, Sem.run_pure]
    · simp only [retTs, List.map_cons, RelA]
      exact ⟨v, vs, rfl, h2, h4⟩

theorem results_run {base : Nat} {W M : Nat → Prop} {w0 w : World} {nt : Nat} {st : DSt} {a : Act} {L : Loc} (h : R0 base W M w0 nt st.tmps st.objs a w L) {lend : Bool} {W' : Nat → Prop} (hW : lend = true → ∀ r o b, st.objs r = some o → L.own r o = some b → ¬ W' b) (hW2 : ∀ b, W' b → WW W st.objs L b) {fn : Func} {rs : List DRes} (hr : fn.results.toList.mapM (resOf P) = some rs) {t : T} (hok : retOks lend st rs ∧ t = (match retTs st rs with | [x] => x | ts => .tup ts)) :
    ∃ v, (results fn a.tmps).run P w = .ok v w ∧ RelT w W' t v := by
  obtain ⟨h1, rfl⟩ := hok
  obtain ⟨vs, h2, h3⟩ := res_all h hW hW2 hr h1
  have hm : (fn.results.mapM (fun rv => ((match rv with | .tmp t => pure (a.tmps.getD t Go.undef) | .cell b t => do loadVar t (← asAddr (a.tmps.getD b Go.undef))) : Sem Value))).run P w = .ok vs.toArray w := by
    rw [Array.mapM_eq_mapM_toList]
    simp only [Sem.run_map, h2, Result.andThen_ok]
  have hl : vs.length = (retTs st rs).length := RelA.length h3
  refine ⟨if h : vs.toArray.size = 1 then vs.toArray[0] else .tuple vs.toArray, ?_, ?_⟩
  · have hrr : (results fn a.tmps) = (do
      let vs ← fn.results.mapM (fun rv => ((match rv with | .tmp t => pure (a.tmps.getD t Go.undef) | .cell b t => do loadVar t (← asAddr (a.tmps.getD b Go.undef))) : Sem Value))
      pure (if h : vs.size = 1 then vs[0] else .tuple vs)) := rfl
    rw [hrr]
    simp only [Sem.run_bind, hm, Result.andThen_ok, Sem.run_pure]
  · cases hts : retTs st rs with
    | nil =>
      rw [hts] at hl h3
      have : vs = [] := List.eq_nil_of_length_eq_zero (by simpa using hl)
      subst this
      simp only [RelT]
      exact ⟨#[], by simp, by simp [RelA]⟩
    | cons x xs =>
      rw [hts] at hl h3
      cases xs with
      | nil =>
        simp only [RelA] at h3
        obtain ⟨v, vs', rfl, hv, rfl⟩ := h3
        simpa using hv
      | cons y ys =>
        have : vs.toArray.size ≠ 1 := by simp at hl ⊢; omega
        rw [dif_neg this]
        simp only [RelT]
        exact ⟨_, rfl, by simpa using h3⟩

/-- A reading stays where the cells stay. -/
theorem relD_keepC {W : Nat → Prop} {objs : Obs} {L : Loc} {w w' : World} (hkc : KeepsC (WW W objs L) w w') : ∀ n, (∀ (d : DV) (x : Value), SizeOf.sizeOf d < n → RelD w W objs L d x → RelD w' W objs L d x) ∧ (∀ (ds : List DV) (xs : List Value), SizeOf.sizeOf ds < n → RelDs w W objs L ds xs → RelDs w' W objs L ds xs) := by
  have hsub : ∀ b, b < w.heap.size → WW W objs L b → WW W objs L b := fun _ _ h => h
  intro n
  induction n with
  | zero => exact ⟨fun _ _ h => by omega, fun _ _ h => by omega⟩
  | succ n ih =>
    refine ⟨fun d x hn hx => ?_, fun ds xs hn hx => ?_⟩
    · cases d with
      | v t => simp only [RelD] at hx ⊢; exact RelT.keep hkc hsub t x hx
      | tptr rows i off =>
        simp only [RelD] at hx ⊢
        obtain ⟨b, o, sz, hx, hb, hn', hr, h1, h2⟩ := hx
        exact ⟨b, o, sz, hx, Nat.lt_of_lt_of_le hb hkc.size, hn', RelRows.keep hkc hsub hb hn' sz o rows hr, h1, h2⟩
      | bptr cs off =>
        simp only [RelD] at hx ⊢
        obtain ⟨b, o, hx, hb, hn', hr⟩ := hx
        exact ⟨b, o, hx, Nat.lt_of_lt_of_le hb hkc.size, hn', RelAt.keep hkc hsub hb hn' o cs hr⟩
      | agg cs =>
        simp only [RelD] at hx ⊢
        obtain ⟨vs, hv, hr⟩ := hx
        exact ⟨vs, hv, ih.2 cs _ (by simp at hn ⊢; omega) hr⟩
      | _ => exact hx
    · cases ds with
      | nil => simpa only [RelDs] using hx
      | cons d ds =>
        simp only [RelDs] at hx ⊢
        obtain ⟨y, ys, hv, h1, h2, h3⟩ := hx
        exact ⟨y, ys, hv, h1, ih.1 d y (by simp at hn ⊢; omega) h2, ih.2 ds ys (by simp at hn ⊢; omega) h3⟩

/-- A block that holds no cells is turned: the objects do not mind. -/
theorem putObj_cells {w : World} {l : Nat} {o o' : Obj} (hl : w.heap[l]? = some o) (hnc : ∀ c e fr, o ≠ .cells c e fr) : ∀ (b : Nat) c e fr, w.heap[b]? = some (.cells c e fr) → (w.putObj l o').heap[b]? = some (.cells c e fr) := fun b c e fr hb => by
  rw [World.putObj_heap_other (by rintro rfl; rw [hl] at hb; cases hb; exact hnc _ _ _ rfl)]; exact hb
theorem relO_put {base : Nat} {W M : Nat → Prop} {w0 w : World} {objs : Obs} {L : Loc} (h : RelO base W M w0 objs w L) {l : Nat} {o o' : Obj} (hl : w.heap[l]? = some o) (hnc : ∀ c e fr, o ≠ .cells c e fr) (hb : base ≤ l) :
    RelO base W M w0 objs (w.putObj l o') L := by
  have hsz : (w.putObj l o').heap.size = w.heap.size := by simp [World.putObj]
  have hcells := putObj_cells (o' := o') hl hnc
  have hkc : KeepsC (WW W objs L) w (w.putObj l o') := ⟨by rw [hsz]; exact Nat.le_refl _, fun b c e fr hb _ => hcells b c e fr hb⟩
  have f := h.fr
  refine ⟨⟨f.os, f.tape, f.output, f.size0, by rw [hsz]; exact f.size, fun k hk hm => ?_⟩, fun r o ho => ?_, h.apart, h.outer, h.under⟩
  · rw [World.putObj_heap_other (by omega)]; exact f.block k hk hm
  · have hob := h.ob r o ho
    cases o with
    | box cs =>
      obtain ⟨c, e, hc, hr, hm⟩ := hob
      exact ⟨c, e, hcells _ _ _ _ hc, (relD_keepC hkc (SizeOf.sizeOf cs + 1)).2 cs _ (by omega) hr, hm⟩
    | arr ver e sz rows =>
      obtain ⟨g1, g2, g3, g4⟩ := hob
      refine ⟨g1, g2, g3, ?_⟩
      rcases g4 with g4 | ⟨g, cap, cur, hv, hp, hh, k1, k2, k3, k4⟩
      · exact .inl g4
      · exact .inr ⟨g, cap, cur, hv, hp, hcells _ _ _ _ hh, k1, k2, k3, RelL.keep hkc (fun _ _ h => h) _ _ k4⟩

theorem shut_mark {κ : Ctx} {nt : Nat} {st : RS} {a : Act} {w : World} {L : Loc} (hJ : κ.J = none) (h : RelR κ nt st a w L) {D : Nat} {Ds : List Nat} (hd : a.defers = (D :: Ds).map mark) (hn : (D :: Ds).Nodup) (hk : ∀ D' ∈ D :: Ds, w.heap[D']? = some (.deferred (some [])) ∧ κ.gw.heap.size ≤ D') :
    RelR κ nt st { a with defers := Ds.map mark } (w.putObj D (.deferred none)) L := by
  obtain ⟨W, base, M, w0, hat, h0⟩ := h.ex
  have hD := hk D (List.mem_cons_self ..)
  have hlt := (Array.getElem?_eq_some_iff.1 hD.1).1
  have hoth : ∀ b, b ≠ D → (w.putObj D (.deferred none)).heap[b]? = w.heap[b]? := fun b hb => World.putObj_heap_other hb
  have hsz : (w.putObj D (.deferred none)).heap.size = w.heap.size := by simp [World.putObj]
  have hat' := hat
  unfold Ctx.At at hat'
  simp only [hJ] at hat'
  obtain ⟨_, rfl, rfl, rfl, rfl⟩ := hat'
  have hbD : κ.base ≤ D := Nat.le_trans (h.bg hJ) hD.2
  have hcells : ∀ (b : Nat) c e fr, w.heap[b]? = some (.cells c e fr) → (w.putObj D (.deferred none)).heap[b]? = some (.cells c e fr) := fun b c e fr hb => by
    rw [hoth b (by rintro rfl; rw [hD.1] at hb; cases hb)]; exact hb
  have hkc : KeepsC (WW κ.W st.objs L) w (w.putObj D (.deferred none)) := ⟨by rw [hsz]; exact Nat.le_refl _, fun b c e fr hb _ => hcells b c e fr hb⟩
  have kd : ∀ (d : DV) (x : Value), RelD w κ.W st.objs L d x → RelD (w.putObj D (.deferred none)) κ.W st.objs L d x := fun d x => (relD_keepC hkc (SizeOf.sizeOf d + 1)).1 d x (by omega)
  have hO : RelO κ.base κ.W κ.M κ.w0 st.objs (w.putObj D (.deferred none)) L := relO_put h0.o hD.1 (fun _ _ _ e => by cases e) hbD
  refine ⟨⟨κ.W, κ.base, κ.M, κ.w0, hat, h0.size, fun t => kd _ _ (h0.tmps t), hO⟩, ?_, ⟨Ds, rfl, (List.nodup_cons.1 hn).2, fun D' hD' => ?_, fun h => by rw [hJ] at h; cases h⟩, h.bg, h.fin⟩
  · have had := h.adv
    refine ⟨⟨⟨by rw [hsz]; exact had.keeps.size, fun b c e fr hb hnw => hcells _ _ _ _ (had.keeps.blk b c e fr hb hnw)⟩, fun b hb => ?_, fun b r hb => ?_⟩, had.sub, had.box, had.arr, had.yl⟩
    · rw [hoth b (by have := (Array.getElem?_eq_some_iff.1 hb).1; omega)]
      exact had.keeps.dfr b hb
    · rw [hoth b (by have := (Array.getElem?_eq_some_iff.1 hb).1; omega)]
      exact had.keeps.lps b r hb
  · have hne : D' ≠ D := fun e => (List.nodup_cons.1 hn).1 (e ▸ hD')
    have := hk D' (List.mem_cons_of_mem _ hD')
    exact ⟨by rw [hoth D' hne]; exact this.1, this.2⟩

/-- At a function's end the marks are taken, one behind another; then the results are read. -/
theorem leaves {κ : Ctx} {nt : Nat} {st : RS} {fn : Func} {R : Ending → World → Prop} (hJ : κ.J = none) (hR : ∀ (a : Act) (w : World) (L : Loc), RelR κ nt st a w L → ∃ v, (results fn a.tmps).run P w = .ok v w ∧ R (.returned v) w) :
    ∀ (Ds : List Nat) (a : Act) (w : World) (L : Loc), RelR κ nt st a w L → a.defers = Ds.map mark → Ds.Nodup → (∀ D ∈ Ds, w.heap[D]? = some (.deferred (some [])) ∧ κ.gw.heap.size ≤ D) →
      LeavesInM Fence.wide 0 P fn a.tmps R (Ds.map mark) .returning w
  | [], a, w, L, h, _, _, _ => by
    obtain ⟨v, h1, h2⟩ := hR a w L h
    exact ⟨v, h1, h2⟩
  | D :: Ds, a, w, L, h, hd, hn, hk => by
    refine ⟨by simp, .inl ⟨D, w.putObj D (.deferred none), rfl, run_takeDeferred (hk D (List.mem_cons_self ..)).1, ?_⟩⟩
    have h' := shut_mark hJ h hd hn hk
    obtain ⟨Ds', e1, _, e3, _⟩ := h'.defers
    have e : Ds' = Ds := by
      have hi : ∀ (l l' : List Nat), l.map mark = l'.map mark → l = l' := by
        intro l
        induction l with
        | nil => intro l' e; cases l' <;> simp_all
        | cons x l ih =>
          intro l' e
          cases l' with
          | nil => simp at e
          | cons y l' =>
            simp only [List.map_cons, List.cons.injEq, mark, Deferred.mk.injEq, Target.collected.injEq, and_true] at e
            rw [e.1, ih l' e.2]
      exact hi _ _ e1.symm
    subst e
    exact leaves hJ hR Ds' { a with defers := Ds'.map mark } _ L h' rfl (List.nodup_cons.1 hn).2 e3

/-- A function's code as the machine reads it. -/
def CodeOf (P : Program) (f : FuncId) (nt : Nat) (d : DC) (rs : List DRes) : Prop :=
  ∃ fn, P.funcs[f]? = some fn ∧ fn.ntmps = nt ∧ fn.body.map (compileC P nt) = some d ∧ fn.results.toList.mapM (resOf P) = some rs ∧ (fn.name == "runtime.NumGoroutine") = false

theorem CodeOf.entry {f : FuncId} {nt : Nat} {d : DC} {rs : List DRes} (h : CodeOf P f nt d rs) : Entry P f := by
  obtain ⟨fn, h1, _, h3, _, h5⟩ := h
  obtain ⟨c, h2, _⟩ := Option.map_eq_some_iff.1 h3
  exact ⟨fn, h1, by simpa using h5, by simp [h2]⟩

theorem init_get {n : Nat} {vals : Array Value} {k : Nat} {v : Value} (h : vals.toList[k]? = some v) : (vals ++ Array.replicate (n - vals.size) Go.undef).getD k Go.undef = v := by
  have hlt : k < vals.size := by have := (List.getElem?_eq_some_iff.1 h).1; simpa using this
  rw [Array.getD_eq_getD_getElem?, Array.getElem?_append_left hlt]
  simp only [Array.getElem?_toList] at h
  rw [h]; rfl
theorem init_none {n : Nat} {vals : Array Value} {k : Nat} (h : vals.size ≤ k) : (vals ++ Array.replicate (n - vals.size) Go.undef).getD k Go.undef = Go.undef := by
  rw [Array.getD_eq_getD_getElem?, Array.getElem?_append_right h, Array.getElem?_replicate]
  split <;> rfl

/-- A function's contract, out of its code. -/
theorem CodeOf.ok {f : FuncId} {nt : Nat} {d : DC} {rs : List DRes} (h : CodeOf P f nt d rs) {ts : List T} {t : T} (hlen : ts.length ≤ nt) (k : SatD P nt d (finQ rs t) (initSt ts)) : CallsOk P f ts t := by
  have hent := h.entry
  obtain ⟨fn, hfn, rfl, h3, hr, _⟩ := h
  obtain ⟨c, hb, hc⟩ := Option.map_eq_some_iff.1 h3
  refine ⟨hent, fun W w vals hW hrel => ?_⟩
  have hl := RelA.length hrel
  simp only [Array.length_toList] at hl
  have hrel0 : Rel ⟨W, fun _ => none, ⟨fun _ => 0, fun _ => Go.undef, 0⟩, w, w.heap.size, fun _ => False, w, none, none⟩ fn.ntmps (initSt ts) { tmps := vals ++ Array.replicate (fn.ntmps - vals.size) Go.undef, defers := [] } w ⟨fun _ => 0, fun _ => Go.undef, 0⟩ := by
    refine ⟨⟨⟨W, w.heap.size, fun _ => False, w, ⟨rfl, rfl, rfl, rfl, rfl⟩, by simp; omega, fun k => ?_, ⟨Fr.refl (Nat.le_refl _), (fun r o h => by cases h), (fun r r' o o' b _ h => by cases h), (fun r o b h => by cases h), hW⟩⟩,
      Adv.refl_of_keeps (Keeps.refl _ _), ⟨[], rfl, List.nodup_nil, (fun _ h => by cases h), fun _ => rfl⟩, fun _ => Nat.le_refl _, ⟨0, fun _ _ => rfl⟩⟩, fun _ _ => rfl, fun _ _ => rfl, fun h => by cases h⟩
    simp only [initSt]
    cases hk : ts[k]? with
    | some x =>
      obtain ⟨v, hv, hv2⟩ := RelA.get hrel hk
      simp only [init_get hv, argD, RelD]
      refine RelT.keep (Keeps.refl W w).toKeepsC ?_ x v hv2
      rintro b hb (h | ⟨r, o, h, _⟩)
      · exact h
      · cases h
    | none =>
      have hge : vals.size ≤ k := by
        have := List.getElem?_eq_none_iff.1 hk
        omega
      simp only [argD, RelD, init_none hge]
  refine callsIn_wide.1 (callsIn_of_wp_marks (n := 0) hfn hb trivial ?_)
  refine wpIn_mono (k.run c hc 0 _ _ _ _ ⟨fun J hJ => (by cases hJ), fun l hl => (by cases hl)⟩ hrel0) ?_
  rintro e a' w' ⟨st', L', q, r'⟩
  have done : RetOk rs t st' → LeavesInM Fence.wide 0 P fn a'.tmps (fun e w' => ∃ v, e = .returned v ∧ Below w.heap.size w w' ∧ RelT w' W t v) a'.defers .returning w' := by
    intro hq
    obtain ⟨Ds, h1, h2, h3, _⟩ := r'.r.defers
    rw [h1]
    refine leaves (κ := ⟨W, fun _ => none, ⟨fun _ => 0, fun _ => Go.undef, 0⟩, w, w.heap.size, fun _ => False, w, none, none⟩) rfl ?_ Ds a' w' L' r'.r h1 h2 h3
    intro a2 w2 L2 h4
    obtain ⟨W', base', M', w0', hat, h0⟩ := h4.ex
    obtain ⟨_, e1, e2, e3, e4⟩ := hat
    replace h0 : R0 w.heap.size W (fun _ => False) w fn.ntmps st'.tmps st'.objs a2 w2 L2 := by rw [e1, e2, e3, e4] at h0; exact h0
    obtain ⟨v, k1, k2⟩ := results_run (st := st') h0 (lend := true) (W' := W) (fun _ r o b e1 e2 => h0.o.outer r o b e1 e2) (fun b hb => .inl hb) hr hq
    have fr := h0.o.fr
    exact ⟨v, k1, v, rfl, ⟨fr.os, fr.tape, fr.output, fr.size, fun k hk => fr.block k hk (fun x => x)⟩, k2⟩
  cases e with
  | normal => exact done q
  | ret => exact done q
  | _ => exact q.elim

/-- The same of a function that may write. -/
theorem CodeOf.okS {f : FuncId} {nt : Nat} {d : DC} {rs : List DRes} (h : CodeOf P f nt d rs) {args : List DV} {objs : Obs} {r : SRes} {N : Nat} (hN : ∀ r, N ≤ r → objs r = none) (hlen : args.length ≤ nt) (k : SatD P nt d (finS rs r) (initS args objs N)) : CallsS P f args objs r := by
  have hent := h.entry
  obtain ⟨fn, hfn, rfl, h3, hr, _⟩ := h
  obtain ⟨c, hb, hc⟩ := Option.map_eq_some_iff.1 h3
  refine ⟨hent, fun base W M w0 w L vals hO hda => ?_⟩
  have hl := hda.1
  simp only [Array.length_toList] at hl
  have hrel0 : Rel ⟨W, objs, L, w, base, M, w0, none, none⟩ fn.ntmps (initS args objs N) { tmps := vals ++ Array.replicate (fn.ntmps - vals.size) Go.undef, defers := [] } w L := by
    refine ⟨⟨⟨W, base, M, w0, ⟨rfl, rfl, rfl, rfl, rfl⟩, by simp; omega, fun k => ?_, hO⟩,
      Adv.refl_of_keeps (Keeps.refl _ _), ⟨[], rfl, List.nodup_nil, (fun _ h => by cases h), fun _ => rfl⟩, fun _ => Nat.le_trans hO.fr.size0 hO.fr.size, ⟨N, hN⟩⟩, hN, hN, fun h => by cases h⟩
    simp only [initS]
    cases hk : args[k]? with
    | some x =>
      have hv : ∃ v, vals.toList[k]? = some v := by
        have : k < vals.size := by rw [hl]; exact (List.getElem?_eq_some_iff.1 hk).1
        exact ⟨vals[k], by simp [this]⟩
      obtain ⟨v, hv⟩ := hv
      simp only [init_get hv, argV]
      exact hda.2 k x v hk hv
    | none =>
      have hge : vals.size ≤ k := by
        have := List.getElem?_eq_none_iff.1 hk
        omega
      simp only [argV, RelD, init_none hge]
  refine callsIn_wide.1 (callsIn_of_wp_marks (n := 0) hfn hb trivial ?_)
  refine wpIn_mono (k.run c hc 0 _ _ _ _ ⟨fun J hJ => (by cases hJ), fun l hl => (by cases hl)⟩ hrel0) ?_
  rintro e a' w' ⟨st', L', q, r'⟩
  have done : RetOkS rs r st' → LeavesInM Fence.wide 0 P fn a'.tmps (fun e w' => ∃ v L', e = .returned v ∧ RelO base W M w0 r.objs w' L' ∧ Adv W objs L w r.objs L' w' ∧ RelD w' W r.objs L' r.val v) a'.defers .returning w' := by
    rintro ⟨hq1, hq2, hq3⟩
    obtain ⟨Ds, h1, h2, h3, _⟩ := r'.r.defers
    rw [h1]
    refine leaves (κ := ⟨W, objs, L, w, base, M, w0, none, none⟩) rfl ?_ Ds a' w' L' r'.r h1 h2 h3
    intro a2 w2 L2 h4
    obtain ⟨W', base', M', w0', hat, h0⟩ := h4.ex
    obtain ⟨_, e1, e2, e3, e4⟩ := hat
    replace h0 : R0 base W M w0 fn.ntmps st'.tmps st'.objs a2 w2 L2 := by rw [e1, e2, e3, e4] at h0; exact h0
    obtain ⟨v, k1, k2⟩ := results_run (st := st') h0 (lend := false) (W' := WW W st'.objs L2) (fun x => by cases x) (fun b hb => hb) hr ⟨hq1, rfl⟩
    have hO2 := h0.o
    have hA2 := h4.adv
    simp only [hq2] at hO2 hA2 k2
    refine ⟨v, k1, v, L2, rfl, hO2, hA2, ?_⟩
    rw [hq3]
    simp only [RelD]
    exact k2
  cases e with
  | normal => exact done q
  | ret => exact done q
  | _ => exact q.elim
end
end Go.DM
