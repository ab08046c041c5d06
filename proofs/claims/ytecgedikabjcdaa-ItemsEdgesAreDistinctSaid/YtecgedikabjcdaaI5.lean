import Derived.Test.YtecgedikabjcdaaI4
namespace Go.Proofs
open Go.DM
set_option linter.unusedSimpArgs false
set_option linter.unusedVariables false

instance : Inhabited Arc := ⟨⟨0, 0, 0, 0, []⟩⟩
instance : Inhabited Rule := ⟨⟨0, 0, 0, 0, 0, 0⟩⟩
instance : Inhabited Edge := ⟨⟨0, [], 0, 0, 0⟩⟩
@[simp] theorem length_ints (l : List Int) : (intsT l).length = l.length := by simp [intsT]
@[simp] theorem length_arcs (l : List Arc) : (arcsT l).length = l.length := by simp [arcsT]
@[simp] theorem length_rules (l : List Rule) : (rulesT l).length = l.length := by simp [rulesT]
@[simp] theorem length_edges (l : List Edge) : (edgesT l).length = l.length := by simp [edgesT]
theorem rowAt_ints {l : List Int} {y : Nat} (h : y < l.length) : DM.rowAt (intsT l) y = [ti (l.getD y default)] := by simp [DM.rowAt, intsT, h]
theorem rowAt_arcs {l : List Arc} {y : Nat} (h : y < l.length) : DM.rowAt (arcsT l) y = (l.getD y default).enc := by simp [DM.rowAt, arcsT, h]
theorem rowAt_rules {l : List Rule} {y : Nat} (h : y < l.length) : DM.rowAt (rulesT l) y = (l.getD y default).enc := by simp [DM.rowAt, rulesT, h]
theorem rowAt_edges {l : List Edge} {y : Nat} (h : y < l.length) : DM.rowAt (edgesT l) y = (l.getD y default).enc := by simp [DM.rowAt, edgesT, h]

abbrev Inf : Int := 1099511627776
def beforeI (f t m f' t' m' : Int) : Bool := if f ≠ f' then decide (f < f') else if t ≠ t' then decide (t < t') else decide (m < m')
abbrev before (a b : Arc) : Bool := beforeI a.f a.t a.term b.f b.t b.term

theorem t45 {Γ : Env} (hΓ : EnvOk Try.prog Γ) (a b : Arc) : CallsOk Try.prog 45 [.agg a.enc, .agg b.enc] (.bool (before a b)) := by
  refine c45.ok (by simp) (initSt_sat ?_)
  simp [Arc.enc]
  refine SatD.regSeq hΓ follows [2, 3] ?_
  simp [d45r0]
  refine SatD.seq ?_
  refine SatD.regSeq hΓ follows [2, 3, 9] ?_
  simp [d45r1]
  refine SatD.cond rfl (fun h => ?_) (fun h => ?_)
  · simp at h
    refine SatD.regSeq hΓ follows [4] ?_
    simp [d45r2]
    refine SatD.ret ?_
    simp [d45res, beforeI, h]
  · simp at h
    refine SatD.skip ?_
    simp
    refine SatD.seq ?_
    refine SatD.regSeq hΓ follows [2, 3, 19] ?_
    simp [d45r3]
    refine SatD.cond rfl (fun h2 => ?_) (fun h2 => ?_)
    · simp at h2
      refine SatD.regSeq hΓ follows [4] ?_
      simp [d45r4]
      refine SatD.ret ?_
      simp [d45res, beforeI, h, h2]
    · simp at h2
      refine SatD.skip ?_
      simp
      refine SatD.regSeq hΓ follows [4] ?_
      simp [d45r5]
      refine SatD.ret ?_
      simp [d45res, beforeI, h, h2]

def fn45 : List T → T
  | [.agg [.int _ f, .int _ t, .int _ m, _, _], .agg [.int _ f', .int _ t', .int _ m', _, _]] => .bool (beforeI f t m f' t' m')
  | _ => .bool false
def pre45 (ts : List T) : Prop := ∃ a b : Arc, ts = [.agg a.enc, .agg b.enc]
def spec45 : DM.Spec := specP pre45 fn45 true
def Γ3 : Env := envOf [(45, spec45)]
theorem ok3 : EnvOk Try.prog Γ3 := by
  refine EnvOk.cons EnvOk.nil ?_
  rintro ts ⟨a, b, rfl⟩
  exact ⟨t45 EnvOk.nil a b, fun _ => rfl⟩

def okFin (l : Lattice) (i : Nat) : Bool := decide (0 ≤ l.final.getD i default ∧ l.final.getD i default ≤ Inf)
def badArc (l : Lattice) (terms : Int) (i : Nat) : Prop :=
  (l.arcs.getD i default).f < 0 ∨ (l.arcs.getD i default).t < (l.arcs.getD i default).f ∨ l.states ≤ (l.arcs.getD i default).t ∨ (l.arcs.getD i default).term < 0 ∨ terms ≤ (l.arcs.getD i default).term ∨
    (l.arcs.getD i default).cost < 0 ∨ Inf ≤ (l.arcs.getD i default).cost ∨ ((l.arcs.getD i default).f = (l.arcs.getD i default).t ∧ (l.arcs.getD i default).cost = 0) ∨ (0 < i ∧ before (l.arcs.getD (i - 1) default) (l.arcs.getD i default) = false)
instance (l : Lattice) (terms : Int) (i : Nat) : Decidable (badArc l terms i) := by unfold badArc; infer_instance
def okArc (l : Lattice) (terms : Int) (i : Nat) : Bool := !decide (badArc l terms i)
def validL (l : Lattice) (terms : Int) : Bool := decide (1 ≤ l.states ∧ (l.final.length : Int) = l.states) && ((List.range l.final.length).all (okFin l) && (List.range l.arcs.length).all (okArc l terms))

theorem all_range_false {p : Nat → Bool} {n i : Nat} (h : i < n) (hp : p i = false) : (List.range n).all p = false := by
  rw [List.all_eq_false]
  exact ⟨i, by simp [h], by simp [hp]⟩
theorem all_range_true {p : Nat → Bool} {n : Nat} (h : ∀ i, i < n → p i = true) : (List.range n).all p = true := by
  rw [List.all_eq_true]
  intro i hi
  exact h i (by simpa using hi)

set_option maxRecDepth 20000 in
theorem t31 (l : Lattice) (terms : Int) (hf : l.final.length ≤ 9223372036854775807) (ha : l.arcs.length ≤ 9223372036854775807) : CallsOk Try.prog 31 [l.enc, ti terms] (.bool (validL l terms)) := by
  have hΓ := ok3
  refine c31.ok (by simp) (initSt_sat ?_)
  simp [Lattice.enc]
  refine SatD.regSeq hΓ follows [1, 2] ?_
  simp [d31r0]
  refine SatD.seq ?_
  refine SatD.regToSeq hΓ follows [(1, .v (ti terms)), (2, .ptr 1003 0), (18, .v (.bool (!decide (1 ≤ l.states ∧ (l.final.length : Int) = l.states))))] (obs [(1003, .box [.v (ti l.states), .v (.sl (arcsT l.arcs)), .v (.sl (intsT l.final))])]) ?_ ?_
  · simp [d31r1]
    refine ⟨fun h => ?_, fun h => ?_⟩ <;> first | omega | (rw [Bool.eq_iff_iff]; simp; omega)
  refine SatD.cond rfl (fun h => ?_) (fun h => ?_)
  · refine SatD.regSeq hΓ follows [4] ?_
    simp [d31r2]
    refine SatD.ret ?_
    simp only [Bool.not_eq_true', decide_eq_false_iff_not] at h
    simp [d31res, validL, h]
  · simp only [Bool.not_eq_false', decide_eq_true_eq] at h
    refine SatD.skip ?_
    simp
    refine SatD.seq ?_
    refine SatD.regSeq hΓ follows [1, 2, 5] ?_
    simp [d31r3]
    refine SatD.block ?_ -- 0
    refine SatD.loop (fun y : Nat => ⟨DM.look [(1, .v (ti terms)), (2, .ptr 1003 0), (5, .v (ti y))], obs [(1003, .box [.v (ti l.states), .v (.sl (arcsT l.arcs)), .v (.sl (intsT l.final))])], 2000, 1000, []⟩)
      (fun y => y ≤ l.final.length ∧ ∀ i, i < y → okFin l i = true) (fun y => l.final.length - y) 0 (Le.keep ?_ ?_ ?_ ?_) (by simp) (fun y hy => ?_)
    · simp
    · simp
    · simp
    · simp
    obtain ⟨hy1, hy2⟩ := hy
    refine SatD.seq ?_
    refine SatD.regSeq hΓ follows [1, 2, 5, 23] ?_
    simp [d31r4]
    refine SatD.cond rfl (fun hc => ?_) (fun hc => ?_)
    · simp at hc
      refine SatD.skip ?_
      simp
      refine SatD.seq ?_
      refine SatD.block ?_ -- 1
      refine SatD.regToSeq hΓ follows [(1, .v (ti terms)), (2, .ptr 1003 0), (5, .v (ti y)), (39, .v (.bool (!okFin l y)))] (obs [(1003, .box [.v (ti l.states), .v (.sl (arcsT l.arcs)), .v (.sl (intsT l.final))])]) ?_ ?_
      · simp [d31r5, rowAt_ints hc, hc, okFin]
        refine ⟨fun h => ?_, fun h => ?_⟩ <;> first | omega | (rw [Bool.eq_iff_iff]; simp; omega)
      refine SatD.cond rfl (fun h2 => ?_) (fun h2 => ?_)
      · refine SatD.regSeq hΓ follows [4] ?_
        simp [d31r6]
        refine SatD.ret ?_
        simp at h2
        have := all_range_false (p := okFin l) hc (by simpa [okFin] using h2)
        simp [d31res, validL, this]
      · simp only [Bool.not_eq_false'] at h2
        refine SatD.skip ?_
        simp
        refine SatD.reg hΓ follows [1, 2, 5] ?_
        simp [d31r7]
        refine ⟨y + 1, Le.keep ?_ ?_ ?_ ?_, ⟨?_, ?_⟩, ?_⟩
        · simp
        · simp
        · simp
        · simp
          exact (wrap_id (by omega)).symm
        · omega
        · intro i hi
          by_cases e : i = y
          · subst e; exact h2
          · exact hy2 i (by omega)
        · omega
    · simp at hc
      have hfin := all_range_true (p := okFin l) (n := l.final.length) (fun i hi => hy2 i (by omega))
      refine SatD.exit ?_
      simp
      refine SatD.seq ?_
      refine SatD.regSeq hΓ follows [1, 2, 6] ?_
      simp [d31r8]
      refine SatD.block ?_ -- 2
      refine SatD.loop (fun y : Nat => ⟨DM.look [(1, .v (ti terms)), (2, .ptr 1003 0), (6, .v (ti y))], obs [(1003, .box [.v (ti l.states), .v (.sl (arcsT l.arcs)), .v (.sl (intsT l.final))])], 3000, 1000, []⟩)
        (fun y => y ≤ l.arcs.length ∧ ∀ i, i < y → okArc l terms i = true) (fun y => l.arcs.length - y) 0 (Le.keep ?_ ?_ ?_ ?_) (by simp) (fun y hy => ?_)
      · simp
      · simp
      · simp
      · simp
      obtain ⟨hy1, hy2⟩ := hy
      refine SatD.seq ?_
      refine SatD.regSeq hΓ follows [1, 2, 6, 44] ?_
      simp [d31r9]
      refine SatD.cond rfl (fun hc => ?_) (fun hc => ?_)
      · simp at hc
        refine SatD.skip ?_
        simp
        refine SatD.seq ?_
        refine SatD.block ?_ -- 3
        refine SatD.regSeq hΓ follows [1, 2, 6, 7] ?_
        have hrow := rowAt_arcs hc
        simp [d31r10, hrow, hc, Arc.enc]
        refine SatD.regToS hΓ follows [(1, .v (ti terms)), (2, .ptr 1003 0), (6, .v (ti y)), (116, .v (.bool (decide (badArc l terms y))))] ?_ ?_
        rotate_left
        · refine SatD.cond rfl (fun h2 => ?_) (fun h2 => ?_)
          · refine SatD.regSeq hΓ follows [4] ?_
            simp [d31r12]
            refine SatD.ret ?_
            have h2' : okArc l terms y = false := by unfold okArc; rw [h2]; rfl
            have := all_range_false (p := okArc l terms) hc h2'
            simp [d31res, validL, this]
          · have h2' : okArc l terms y = true := by unfold okArc; rw [h2]; rfl
            refine SatD.skip ?_
            simp
            refine SatD.reg hΓ follows [1, 2, 6] ?_
            simp [d31r13]
            refine ⟨y + 1, Le.keep ?_ ?_ ?_ ?_, ⟨?_, ?_⟩, ?_⟩
            · simp
            · simp
            · simp
            · simp
              exact (wrap_id (by omega)).symm
            · omega
            · intro i hi
              by_cases e : i = y
              · subst e; exact h2'
              · exact hy2 i (by omega)
            · omega
        · have hb := hc
          cases y with
          | zero =>
            simp [d31r11]
            repeat' (first | apply And.intro | intro _)
            all_goals first | omega | (simp [badArc, hc, Inf]; omega) | (rename_i hh; revert hh; simp [badArc, hc, Inf]; omega)
          | succ z =>
            have ew : IntKind.i64.wrap (z : Int) = z := wrap_id (by omega)
            have hrow2 := rowAt_arcs (l := l.arcs) (y := z) (by omega)
            have hz : z < l.arcs.length := by omega
            simp [d31r11, ew, hrow2, hz, Arc.enc, Γ3, spec45, fn45]
            repeat' (first | apply And.intro | intro _)
            all_goals first | omega | exact ⟨l.arcs[z], l.arcs[z + 1], rfl⟩ | (simp [badArc, hc, hz, Inf]; omega) | (rename_i hh; revert hh; simp [badArc, hc, hz, Inf]; omega) | (generalize hbb : beforeI _ _ _ _ _ _ = bb; cases bb <;> simp [badArc, hc, hz, Inf, hbb] <;> omega)
      · simp at hc
        have harcs := all_range_true (p := okArc l terms) (n := l.arcs.length) (fun i hi => hy2 i (by omega))
        refine SatD.exit ?_
        simp
        refine SatD.regSeq hΓ follows [4] ?_
        simp [d31r14]
        refine SatD.ret ?_
        simp [d31res, validL, hfin, harcs, h]
end Go.Proofs
