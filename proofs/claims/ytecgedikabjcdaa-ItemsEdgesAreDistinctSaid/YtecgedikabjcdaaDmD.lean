/- The D-machine, part D: how the model's operations are read as the machine's, and that each does in the model what the machine says. Conditions: none. -/
import Derived.Test.YtecgedikabjcdaaDmC
import Derived.Laws.World
import Derived.Laws.Cells
import Derived.Laws.Small
import Derived.Laws.Entries
import Derived.Laws.Strings
namespace Go.DM
open Go.RowKit
set_option linter.unusedSimpArgs false
set_option linter.unusedVariables false

def constD : Value → Option DV
  | .int k n => some (.v (.int k n))
  | .bool b => some (.v (.bool b))
  | .string s => some (.v (.str s))
  | .slice none 0 0 => some .nil0
  | .pointer none => some (.v (.raw (.pointer none)))
  | .nilFunc => some (.v (.raw .nilFunc))
  | .nilIface => some (.v (.raw .nilIface))
  | .map none => some (.v (.raw (.map none)))
  | _ => none
def constT : Value → Option T
  | .int k n => some (.int k n)
  | .bool b => some (.bool b)
  | .string s => some (.str s)
  | .slice none 0 0 => some (.sl [])
  | .pointer none => some (.raw (.pointer none))
  | .nilFunc => some (.raw .nilFunc)
  | .nilIface => some (.raw .nilIface)
  | .map none => some (.raw (.map none))
  | _ => none

def Opd.of : Operand → Option Opd
  | .tmp t => some (.tmp t)
  | .const v => (constD v).map .con
  | .func f => some (.con (.v (.fn (.func f) [])))
  | .global _ => none

section
variable {w : World} {W : Nat → Prop} {objs : Obs} {L : Loc}
theorem constD_rel : ∀ {x : Value} {d : DV}, constD x = some d → RelD w W objs L d x ∧ x.oneCell' = true := by
  intro x d h
  unfold constD at h
  split at h <;> simp only [Option.some.injEq, reduceCtorEq] at h <;> subst h <;> simp [RelD, RelT, Value.oneCell']
theorem constT_rel : ∀ {x : Value} {t : T}, constT x = some t → RelT w W t x ∧ x.oneCell' = true ∧ leafT t = true := by
  intro x d h
  unfold constT at h
  split at h <;> simp only [Option.some.injEq, reduceCtorEq] at h <;> subst h <;> simp [RelT, Value.oneCell', leafT]
theorem mapM_constD_rel : ∀ {xs : List Value} {ds : List DV}, xs.mapM constD = some ds → RelDs w W objs L ds xs
  | [], ds, h => by simp at h; subst h; simp [RelDs]
  | x :: xs, ds, h => by
    simp only [List.mapM_cons, Option.pure_def, Option.bind_eq_bind, Option.bind_eq_some_iff, Option.some.injEq] at h
    obtain ⟨d, hd, ds', hds, rfl⟩ := h
    simp only [RelDs]
    have := constD_rel (w := w) (W := W) (objs := objs) (L := L) hd
    exact ⟨x, xs, rfl, this.2, this.1, mapM_constD_rel hds⟩
theorem mapM_constT_rel : ∀ {xs : List Value} {ds : List T}, xs.mapM constT = some ds → RelL w W ds xs
  | [], ds, h => by simp at h; subst h; simp [RelL]
  | x :: xs, ds, h => by
    simp only [List.mapM_cons, Option.pure_def, Option.bind_eq_bind, Option.bind_eq_some_iff, Option.some.injEq] at h
    obtain ⟨d, hd, ds', hds, rfl⟩ := h
    simp only [RelL]
    have := constT_rel (w := w) (W := W) hd
    exact ⟨x, xs, rfl, this.2.1, this.1, mapM_constT_rel hds⟩
theorem Opd.of_rel {a : Act} {ρ : Nat → DV} (hρ : ∀ t, RelD w W objs L (ρ t) (a.tmps.getD t Go.undef)) {x : Operand} {y : Opd} (h : Opd.of x = some y) : RelD w W objs L (y.ev ρ) (a.eval x) := by
  cases x with
  | tmp t => simp only [Opd.of, Option.some.injEq] at h; subst h; simpa [Opd.ev, Act.eval] using hρ t
  | const v =>
    simp only [Opd.of, Option.map_eq_some_iff] at h
    obtain ⟨d, hd, rfl⟩ := h
    exact (constD_rel hd).1
  | func f => simp only [Opd.of, Option.some.injEq] at h; subst h; simp [Opd.ev, Act.eval, RelD, RelT, RelL]
  | global g => simp [Opd.of] at h

theorem add_off (b o n : Nat) : (⟨b, o, none⟩ : Addr).add n = ⟨b, o + n, none⟩ := by unfold Addr.add; split <;> simp_all

/-- Cells that are read one after another. -/
theorem run_loadRow {P : Program} {w : World} {b o : Nat} {vs : List Value} (h : ∀ j v, vs[j]? = some v → w.cell? ⟨b, o + j, none⟩ = some v) :
    (loadCells ⟨b, o, none⟩ vs.length).run P w = .ok vs.toArray w :=
  run_loadCells_list w _ vs fun j v hv => by rw [add_off]; exact h j v hv

theorem run_isAgg {P : Program} {w : World} {t : TypeId} {d : TypeDesc} (h : P.underlying t = some d) : (isAgg t).run P w = .ok (match d with | .struct _ | .array _ _ => true | _ => false) w := by
  simp only [isAgg, Sem.run_bind, run_underlying h, Result.andThen_ok]
  cases d <;> rfl
theorem run_sizeOf {P : Program} {w : World} {t : TypeId} {i : TypeInfo} (h : P.info? t = some i) : (sizeOf t).run P w = .ok i.size w := by
  simp [sizeOf, typeInfo, h]

def aggDesc : TypeDesc → Bool
  | .struct _ | .array _ _ => true
  | _ => false

/-- A variable that is read: its cells lie in a row. -/
theorem run_loadVar_row' {P : Program} {w : World} {t : TypeId} {d : TypeDesc} {i : TypeInfo} (hd : P.underlying t = some d) (hi : P.info? t = some i) {b o : Nat} {vs : List Value}
    (hl : vs.length = i.size) (h : ∀ j v, vs[j]? = some v → w.cell? ⟨b, o + j, none⟩ = some v) (hs : aggDesc d = true ∨ i.size = 1) :
    (Instr.loadAt t (.pointer (some ⟨b, o, none⟩))).run P w = .ok (if aggDesc d then .agg vs.toArray else vs.getD 0 Go.undef) w := by
  have h1 : (isAgg t).run P w = .ok (aggDesc d) w := by rw [run_isAgg hd]; cases d <;> rfl
  simp only [Instr.loadAt, Instr.sureAddr, loadVar, Sem.run_bind, Sem.run_pure, Result.andThen_ok, h1]
  by_cases ha : aggDesc d = true
  · simp only [ha, if_true, Sem.run_bind, run_sizeOf hi, Result.andThen_ok]
    rw [← hl, run_loadRow h]
    rfl
  · have h1 : vs.length = 1 := by rw [hl]; exact hs.resolve_left ha
    match vs, h1 with
    | [v], _ =>
      have := h 0 v rfl
      simp only [Nat.add_zero] at this
      simp [ha, this]

theorem RelAt.vals {b : Nat} : ∀ {ts : List T} {o : Nat}, RelAt w W b o ts → ∃ vs, RelL w W ts vs ∧ ∀ j v, vs[j]? = some v → w.cell? ⟨b, o + j, none⟩ = some v
  | [], o, _ => ⟨[], by simp [RelL], by simp⟩
  | t :: ts, o, h => by
    simp only [RelAt] at h
    obtain ⟨⟨v, hc, h1, hr⟩, hrs⟩ := h
    obtain ⟨vs, hv, hcs⟩ := RelAt.vals hrs
    refine ⟨v :: vs, by simp only [RelL]; exact ⟨v, vs, rfl, h1, hr, hv⟩, fun j u hu => ?_⟩
    cases j with
    | zero => simp only [List.getElem?_cons_zero, Option.some.injEq] at hu; subst hu; simpa using hc
    | succ j =>
      have := hcs j u (by simpa using hu)
      rwa [show o + (j + 1) = o + 1 + j by omega]
theorem RelL.split {ts ts' : List T} : ∀ {vs : List Value}, RelL w W (ts ++ ts') vs → ∃ v1 v2, vs = v1 ++ v2 ∧ RelL w W ts v1 ∧ RelL w W ts' v2 := by
  induction ts with
  | nil => intro vs h; exact ⟨[], vs, rfl, by simp [RelL], h⟩
  | cons t ts ih =>
    intro vs h
    simp only [List.cons_append, RelL] at h
    obtain ⟨v, vs', rfl, h1, h2, hr⟩ := h
    obtain ⟨v1, v2, rfl, ha, hb⟩ := ih hr
    exact ⟨v :: v1, v2, rfl, by simp only [RelL]; exact ⟨v, v1, rfl, h1, h2, ha⟩, hb⟩
theorem RelAt.of_relL {b o : Nat} {ts : List T} {vs : List Value} (h : RelL w W ts vs) (hc : ∀ j v, vs[j]? = some v → w.cell? ⟨b, o + j, none⟩ = some v) : RelAt w W b o ts :=
  RelAt.of_cells ts o fun j t ht => by
    obtain ⟨v, hv, h1, hr⟩ := RelL.get h ht
    exact ⟨v, hc j v hv, h1, hr⟩
theorem RelRows.of_flatten {sz b : Nat} : ∀ {rows : List (List T)} {o : Nat} {vs : List Value}, RelL w W rows.flatten vs → (∀ r ∈ rows, r.length = sz) → (∀ j v, vs[j]? = some v → w.cell? ⟨b, o + j, none⟩ = some v) → RelRows w W sz b o rows
  | [], _, _, _, _, _ => by simp [RelRows]
  | r :: rs, o, vs, h, hl, hc => by
    simp only [List.flatten_cons] at h
    obtain ⟨v1, v2, rfl, ha, hb⟩ := RelL.split h
    have hr : r.length = sz := hl r (by simp)
    have hv1 : v1.length = sz := by rw [RelL.length ha, hr]
    simp only [RelRows]
    refine ⟨hr, RelAt.of_relL ha fun j v hv => hc j v ?_, RelRows.of_flatten hb (fun x hx => hl x (by simp [hx])) fun j v hv => ?_⟩
    · rw [List.getElem?_append_left (List.getElem?_eq_some_iff.1 hv).1]; exact hv
    · have := hc (sz + j) v (by rw [List.getElem?_append_right (by omega), hv1]; simpa using hv)
      rwa [show o + sz + j = o + (sz + j) by omega]
theorem RelRows.flatten {sz b : Nat} : ∀ {rows : List (List T)} {o : Nat}, RelRows w W sz b o rows → ∃ vs, vs.length = rows.length * sz ∧ RelL w W rows.flatten vs ∧ ∀ j v, vs[j]? = some v → w.cell? ⟨b, o + j, none⟩ = some v
  | [], o, _ => ⟨[], by simp, by simp [RelL], by simp⟩
  | r :: rs, o, h => by
    simp only [RelRows] at h
    obtain ⟨v1, h1, hc1⟩ := RelAt.vals h.2.1
    obtain ⟨v2, hl2, h2, hc2⟩ := RelRows.flatten h.2.2
    have hv1 : v1.length = sz := by rw [RelL.length h1, h.1]
    refine ⟨v1 ++ v2, by simp [hv1, hl2, Nat.add_mul]; omega, by simpa using RelL.append h1 h2, fun j v hv => ?_⟩
    by_cases hj : j < v1.length
    · rw [List.getElem?_append_left hj] at hv; exact hc1 j v hv
    · rw [List.getElem?_append_right (by omega)] at hv
      have := hc2 (j - v1.length) v hv
      rwa [show o + sz + (j - v1.length) = o + j by omega] at this

theorem ObOk.rows {base : Nat} {M : Nat → Prop} {r ver e sz : Nat} {rows : List (List T)} (h : ObOk w W objs L base M r (.arr ver e sz rows)) {g : Nat} (hg : capBlock (L.sl r) = some g) :
    RelRows w (WW W objs L) sz g 0 rows := by
  obtain ⟨_, hl, _, h⟩ := h
  rcases h with ⟨rfl, _⟩ | ⟨g', cap, cur, hv, hp, hh, h1, h2, h3, h4⟩
  · simp [RelRows]
  · rw [hv] at hg
    simp only [capBlock, if_neg (Nat.pos_iff_ne_zero.1 hp), Option.some.injEq] at hg
    subst hg
    refine RelRows.of_flatten h4 hl fun j v hv => ?_
    rw [Nat.zero_add, cell_of_row w g' j cur e (0, 0) hh]
    rw [List.getElem?_take] at hv
    split at hv
    · simpa using hv
    · cases hv

theorem rowAt_get {rows : List (List T)} {i : Int} (h0 : 0 ≤ i) (h1 : i < rows.length) : rows[i.toNat]? = some (rowAt rows i) := by
  have : i.toNat < rows.length := by omega
  simp [rowAt, List.getD, this]

theorem RelL.take (n : Nat) {ds : List T} : ∀ {vs : List Value}, RelL w W ds vs → RelL w W (ds.take n) (vs.take n) := by
  induction n generalizing ds with
  | zero => intro vs h; simp [RelL]
  | succ n ih =>
    intro vs h
    cases ds with
    | nil => simp only [RelL] at h; subst h; simp [RelL]
    | cons d ds =>
      simp only [RelL] at h
      obtain ⟨v, vs', rfl, h1, h2, hr⟩ := h
      simp only [List.take_succ_cons, RelL]
      exact ⟨v, _, rfl, h1, h2, ih hr⟩
theorem RelL.drop (n : Nat) {ds : List T} : ∀ {vs : List Value}, RelL w W ds vs → RelL w W (ds.drop n) (vs.drop n) := by
  induction n generalizing ds with
  | zero => intro vs h; simpa using h
  | succ n ih =>
    intro vs h
    cases ds with
    | nil => simp only [RelL] at h; subst h; simp [RelL]
    | cons d ds =>
      simp only [RelL] at h
      obtain ⟨v, vs', rfl, h1, h2, hr⟩ := h
      simpa using ih hr

theorem load_tree {P : Program} {t : TypeId} {d : TypeDesc} {i : TypeInfo} (hd : P.underlying t = some d) (hi : P.info? t = some i) {b o off : Nat} {cs : List T}
    (hr : RelAt w (WW W objs L) b o cs) (hok : off + i.size ≤ cs.length ∧ (aggDesc d = true ∨ i.size = 1)) :
    ∃ v, (Instr.loadAt t (.pointer (some ⟨b, o + off, none⟩))).run P w = .ok v w ∧
      RelD w W objs L (if aggDesc d then .v (.agg ((cs.drop off).take i.size)) else .v (cs.getD off default)) v := by
  obtain ⟨vs, hv, hc⟩ := RelAt.vals hr
  have hl := RelL.length hv
  have hv2 := RelL.take i.size (RelL.drop off hv)
  refine ⟨_, run_loadVar_row' hd hi (vs := (vs.drop off).take i.size) (by simp; omega) (fun j v hj => ?_) hok.2, ?_⟩
  · rw [List.getElem?_take] at hj
    split at hj
    · rw [List.getElem?_drop] at hj
      have := hc _ _ hj
      rwa [show o + off + j = o + (off + j) by omega]
    · cases hj
  · by_cases ha : aggDesc d = true
    · simp only [ha, if_true, RelD, RelT]
      exact ⟨_, rfl, by simpa using hv2⟩
    · have h1 : i.size = 1 := hok.2.resolve_left ha
      have hlt : off < cs.length := by omega
      obtain ⟨v, hv', _, hr'⟩ := RelL.get hv (i := off) (t := cs[off]) (by simp [hlt])
      have e1 : (List.take i.size (List.drop off vs)).getD 0 Go.undef = v := by
        rw [h1]
        simp only [List.getD, List.getElem?_take, List.getElem?_drop, Nat.add_zero, hv']
        simp
      have e2 : cs.getD off default = cs[off] := by simp [List.getD, hlt]
      simp only [ha, if_false, e1, e2, RelD]
      exact hr'

theorem load_sound {P : Program} {base : Nat} {M : Nat → Prop} {w0 : World} (hO : RelO base W M w0 objs w L) {t : TypeId} {d : TypeDesc} {i : TypeInfo} (hd : P.underlying t = some d) (hi : P.info? t = some i)
    {x : DV} {xv : Value} (hx : RelD w W objs L x xv) (hok : (loadSem i.size (aggDesc d) objs x).ok) :
    (loadSem i.size (aggDesc d) objs x).put = none ∧ ∃ v, (Instr.loadAt t xv).run P w = .ok v w ∧ RelD w W objs L (loadSem i.size (aggDesc d) objs x).val v := by
  cases x with
  | ptr r off =>
    simp only [RelD] at hx
    obtain ⟨⟨cs, hc⟩, rfl⟩ := hx
    simp only [loadSem, hc] at hok ⊢
    refine ⟨trivial, ?_⟩
    obtain ⟨c, e, hh, hr, _⟩ := hO.ob r _ hc
    have hl := RelDs.length hr
    have hr2 := RelDs.take i.size (RelDs.drop off hr)
    refine ⟨_, run_loadVar_row' hd hi (vs := (c.toList.drop off).take i.size) (by simp at hl ⊢; omega) (fun j v hj => ?_) hok.2, ?_⟩
    · rw [List.getElem?_take] at hj
      split at hj
      · rw [List.getElem?_drop] at hj
        rw [cell_of_row w _ _ c e (0, 0) hh]
        simpa using hj
      · cases hj
    · by_cases ha : aggDesc d = true
      · simp only [ha, if_true, RelD]
        exact ⟨_, rfl, by simpa using hr2⟩
      · have h1 : i.size = 1 := hok.2.resolve_left ha
        have hlt : off < cs.length := by omega
        obtain ⟨v, hv', _, hr'⟩ := RelDs.get hr (i := off) (d := cs[off]) (by simp [hlt])
        have e1 : (List.take i.size (List.drop off c.toList)).getD 0 Go.undef = v := by
          rw [h1]
          simp only [List.getD, List.getElem?_take, List.getElem?_drop, Nat.add_zero, hv']
          simp
        have e2 : cs.getD off .undef = cs[off] := by simp [List.getD, hlt]
        simp only [ha, if_false, e1, e2]
        exact hr'
  | tptr rows j off =>
    simp only [RelD] at hx
    obtain ⟨b, o, sz, rfl, hb, hn, hr, h0, h1⟩ := hx
    simp only [loadSem] at hok ⊢
    exact ⟨trivial, load_tree hd hi (RelRows.row hr (rowAt_get h0 h1)).2 hok⟩
  | bptr cs off =>
    simp only [RelD] at hx
    obtain ⟨b, o, rfl, hb, hn, hr⟩ := hx
    simp only [loadSem] at hok ⊢
    exact ⟨trivial, load_tree hd hi hr hok⟩
  | v t' =>
    cases t' with
    | box cs =>
      simp only [RelD, RelT] at hx
      obtain ⟨b, o, rfl, hb, hn, hr⟩ := hx
      simp only [loadSem] at hok ⊢
      have := load_tree (objs := objs) (L := L) (W := W) hd hi (off := 0) hr (by simpa using hok)
      refine ⟨trivial, ?_⟩
      simpa using this
    | _ => simp [loadSem, bad] at hok
  | aptr r ver j off =>
    simp only [RelD] at hx
    obtain ⟨_, ver', e, sz, rows, ho, hle, hx⟩ := hx
    simp only [loadSem, ho] at hok ⊢
    obtain ⟨g, hg, rfl, h0, h1⟩ := hx hok.1
    have hrr := ObOk.rows (hO.ob r _ ho) hg
    have := (RelRows.row hrr (rowAt_get h0 h1)).2
    rw [Nat.zero_add] at this
    exact ⟨trivial, load_tree hd hi this hok.2⟩
  | _ => simp [loadSem, bad] at hok
end
end Go.DM
