import Derived.Test.YtecgedikabjcdaaI3
namespace Go.Proofs
open Go.DM
set_option linter.unusedSimpArgs false
set_option linter.unusedVariables false

theorem t39 {Γ : Env} (hΓ : EnvOk Try.prog Γ) (n : Normal) (l : Lattice) (hs : sm n.nonterms l.states) : CallsOk Try.prog 39 [n.enc, l.enc] (ti (goalI n.nonterms l.states + 1)) := by
  have hgb := goal_bound hs
  obtain ⟨h1, h2, h3, h4⟩ := hs
  have b1 := mul_bound h3 h4 (b := l.states + 1) (n := 1001) (by omega) (by omega)
  have hge : goalI n.nonterms l.states = l.states * (l.states + 1) / 2 * n.nonterms := by
    rw [goal_eq h3]
    have := pre_closed l.states l.states.toNat
    have e : (l.states.toNat : Int) = l.states := by omega
    rw [e, Int.mul_sub, Int.mul_one] at this
    have h2 : l.states * (l.states + 1) / 2 = pre l.states l.states.toNat := by
      rw [Int.mul_add, Int.mul_one]
      omega
    rw [h2]
  refine c39.ok (by simp) (initSt_sat ?_)
  simp [Normal.enc, Lattice.enc]
  refine SatD.regSeq hΓ follows [2, 3] ?_
  simp [d39r0]
  refine SatD.regSeq hΓ follows [4] ?_
  simp [d39r1]
  refine SatD.ret ?_
  simp [d39res]
  rw [wrap_id (x := l.states + 1) (by omega), wrap_id (x := l.states * (l.states + 1)) (by omega), Int.tdiv_eq_ediv_of_nonneg b1.1, wrap_id (x := l.states * (l.states + 1) / 2) (by omega), ← hge, wrap_id (x := goalI n.nonterms l.states) (by omega), wrap_id (by omega)]

def fn39 : List T → T
  | [.agg [_, .int _ nt, _, _], .agg [.int _ st, _, _]] => ti (goalI nt st + 1)
  | _ => .bool false
def pre39 (ts : List T) : Prop := ∃ (n : Normal) (l : Lattice), ts = [n.enc, l.enc] ∧ sm n.nonterms l.states
def spec39 : DM.Spec := specP pre39 fn39 true
def fn40 : List T → T
  | [.agg [_, .int _ nt, _, _], .agg [.int _ st, _, _], .int _ f, .int _ t] => ti (spanI st f t * nt)
  | _ => .bool false
def pre40 (ts : List T) : Prop := ∃ (n : Normal) (l : Lattice) (f t : Int), ts = [n.enc, l.enc, ti f, ti t] ∧ sm n.nonterms l.states ∧ 0 ≤ f ∧ f ≤ t ∧ t < l.states
def spec40 : DM.Spec := specP pre40 fn40 true
def Γ2 : Env := envOf [(39, spec39), (40, spec40)]
theorem ok2 : EnvOk Try.prog Γ2 := by
  refine EnvOk.cons (EnvOk.cons EnvOk.nil ?_) ?_
  · rintro ts ⟨n, l, f, t, rfl, ⟨h1, h2, h3, h4⟩, k1, k2, k3⟩
    exact ⟨t40 EnvOk.nil n l f t h4 k1 k2 k3 h1 h2, fun _ => rfl⟩
  · rintro ts ⟨n, l, rfl, h1⟩
    exact ⟨t39 EnvOk.nil n l h1, fun _ => rfl⟩

theorem t18 (n : Normal) (l : Lattice) (h f t : Int) (hs : sm n.nonterms l.states) : CallsOk Try.prog 18 [n.enc, l.enc, .agg [ti h, ti f, ti t]]
    (if isItem n.nonterms l.states h f t then .tup [ti (idxI n.nonterms l.states h f t), .bool true] else .tup [ti 0, .bool false]) := by
  have hΓ := ok2
  refine c18.ok (by simp) (initSt_sat ?_)
  simp [Normal.enc, Lattice.enc]
  refine SatD.regSeq hΓ follows [3, 4, 5] ?_
  simp [d18r0]
  refine SatD.seq ?_
  refine SatD.regSeq hΓ follows [3, 4, 5, 36] ?_
  simp [d18r1]
  repeat' (first | apply And.intro | intro _)
  all_goals try (
    refine SatD.cond (by simp; rfl) (fun _ => ?_) (fun h => by cases h)
    refine SatD.regSeq hΓ follows [6, 7] ?_
    simp [d18r2]
    refine SatD.ret ?_
    have hn : ¬ isItem n.nonterms l.states h f t := by unfold isItem; omega
    simp [d18res, hn]
    done)
  rename_i a1 a2 a3 a4
  refine SatD.cond (by simp; rfl) (fun hc => ?_) (fun hc => ?_)
  · simp at hc
    have hn : ¬ isItem n.nonterms l.states h f t := by unfold isItem; omega
    refine SatD.regSeq hΓ follows [6, 7] ?_
    simp [d18r2]
    refine SatD.ret ?_
    simp [d18res, hn]
  · simp at hc
    have hn : isItem n.nonterms l.states h f t := by unfold isItem; omega
    have hil := idx_lt hs hn
    have hgb := goal_bound hs
    refine SatD.skip ?_
    simp
    refine SatD.regSeq hΓ follows [6, 7] ?_
    simp [d18r3, Γ2, spec40, fn40]
    refine ⟨⟨n, l, f, t, rfl, hs, by omega, by omega, by omega⟩, ?_⟩
    refine SatD.ret ?_
    simp [d18res, hn]
    rw [idx_eq (by omega), wrap_id (by omega)]

theorem t19a (n : Normal) (l : Lattice) (h f t : Int) (hs : sm n.nonterms l.states) (hi : isItem n.nonterms l.states h f t) :
    CallsOk Try.prog 19 [n.enc, l.enc, ti (spanI l.states f t * n.nonterms + h)] (.tup [.agg [ti h, ti f, ti t], .bool true]) := by
  have hΓ := ok2
  have hr := idx_lt hs hi
  have hgb := goal_bound hs
  have hi' := hi
  unfold isItem at hi'
  have hs' := hs
  obtain ⟨h1, h2, h3, h4⟩ := hs'
  have hsp := span_pos (st := l.states) (f := f) (t := t) h4 (by omega) (by omega) (by omega)
  -- the number lies in the span s, u only if these are f, t
  have hlt : ∀ s u : Int, 0 ≤ s → s ≤ u → u < l.states → spanI l.states s u < spanI l.states f t → spanI l.states s u * n.nonterms + n.nonterms ≤ spanI l.states f t * n.nonterms := by
    intro s u k1 k2 k3 k4
    have := Int.mul_le_mul_of_nonneg_right (show spanI l.states s u + 1 ≤ spanI l.states f t by omega) h1
    rw [Int.add_mul] at this
    omega
  have hbd : ∀ s u : Int, 0 ≤ s → s ≤ u → u < l.states → 0 ≤ spanI l.states s u * n.nonterms ∧ spanI l.states s u * n.nonterms ≤ 1000000000 := by
    intro s u k1 k2 k3
    have b := span_pos (st := l.states) (f := s) (t := u) h4 k1 k2 k3
    have := mul_bound (a := spanI l.states s u) (m := 1000000) b.1 (by omega) h1 h2
    omega
  have hit : spanI l.states f t * n.nonterms ≤ spanI l.states f t * n.nonterms + h := by omega
  generalize hii : spanI l.states f t * n.nonterms + h = i at *
  refine c19.ok (by simp) (initSt_sat ?_)
  simp [Normal.enc, Lattice.enc]
  refine SatD.regSeq hΓ follows [2, 3, 4, 6] ?_
  simp [d19r0]
  refine SatD.seq ?_
  refine SatD.regSeq hΓ follows [2, 3, 4, 6, 20] ?_
  simp [d19r1, Γ2, spec39, fn39]
  refine ⟨fun _ => ⟨⟨n, l, rfl, hs⟩, ?_⟩, fun hc => by omega⟩
  simp (disch := omega) only [wrap_id]
  refine SatD.cond (by simp; rfl) (fun hc => ?_) (fun hc => ?_)
  · simp at hc; omega
  · refine SatD.skip ?_
    simp
    refine SatD.seq ?_
    refine SatD.regSeq hΓ follows [2, 3, 4, 6, 8] ?_
    simp [d19r3]
    refine SatD.block ?_ -- 0
    refine SatD.loop (fun y : Nat => ⟨DM.look [(2, .v (ti i)), (3, .ptr 1004 0), (4, .ptr 1005 0), (6, .ptr 1007 0), (8, .v (ti y))],
        obs [(1007, .box [.v (ti 0), .v (ti 0), .v (ti 0)]), (1005, .box [.v (ti l.states), .v (.sl (arcsT l.arcs)), .v (.sl (intsT l.final))]), (1004, .box [.v (ti n.terms), .v (ti n.nonterms), .v (ti n.start), .v (.sl (rulesT n.rules))])], 2000, 1000, []⟩)
      (fun y => (y : Int) ≤ f) (fun y => f.toNat - y) 0 (Le.keep ?_ ?_ ?_ ?_) (by simp; omega) (fun y hy => ?_)
    · simp
    · simp
    · simp
    · simp
    refine SatD.seq ?_
    refine SatD.regSeq hΓ follows [2, 3, 4, 6, 8, 25] ?_
    simp [d19r4]
    refine SatD.cond (by simp; rfl) (fun hc => ?_) (fun hc => ?_)
    · refine SatD.skip ?_
      simp
      refine SatD.seq ?_
      refine SatD.block ?_ -- 1
      refine SatD.regSeq hΓ follows [2, 3, 4, 6, 8, 9] ?_
      simp [d19r5]
      refine SatD.block ?_ -- 2
      refine SatD.loop (fun z : Nat => ⟨DM.look [(2, .v (ti i)), (3, .ptr 1004 0), (4, .ptr 1005 0), (6, .ptr 1007 0), (8, .v (ti y)), (9, .v (ti z))],
          obs [(1007, .box [.v (ti 0), .v (ti 0), .v (ti 0)]), (1005, .box [.v (ti l.states), .v (.sl (arcsT l.arcs)), .v (.sl (intsT l.final))]), (1004, .box [.v (ti n.terms), .v (ti n.nonterms), .v (ti n.start), .v (.sl (rulesT n.rules))])], 3000, 1000, []⟩)
        (fun z => (y : Int) ≤ z ∧ (z : Int) ≤ l.states ∧ ((y : Int) = f → (z : Int) ≤ t)) (fun z => l.states.toNat - z) y (Le.keep ?_ ?_ ?_ ?_) (by omega) (fun z hz => ?_)
      · simp
      · simp
      · simp
      · simp
      obtain ⟨z1, z2, z3⟩ := hz
      refine SatD.seq ?_
      refine SatD.regSeq hΓ follows [2, 3, 4, 6, 8, 9, 32] ?_
      simp [d19r6]
      refine SatD.cond (by simp; rfl) (fun hd => ?_) (fun hd => ?_)
      · refine SatD.skip ?_
        simp at hd
        simp
        refine SatD.seq ?_
        refine SatD.block ?_ -- 3
        refine SatD.regSeq hΓ follows [2, 3, 4, 6, 8, 9, 10] ?_
        simp [d19r7, Γ2, spec40, fn40]
        refine ⟨⟨n, l, y, z, rfl, hs, by omega, by omega, by omega⟩, ?_⟩
        have hb := hbd y z (by omega) (by omega) (by omega)
        refine SatD.regSeq hΓ follows [2, 3, 4, 6, 8, 9, 10, 45] ?_
        simp [d19r8]
        rw [wrap_id (x := spanI l.states y z * n.nonterms + n.nonterms) (by omega)]
        refine SatD.cond (by simp; rfl) (fun he => ?_) (fun he => ?_)
        · simp at he
          have hyz : (y : Int) = f ∧ (z : Int) = t := by
            by_cases e1 : (y : Int) = f
            · refine ⟨e1, ?_⟩
              by_cases e2 : (z : Int) = t
              · exact e2
              · exfalso
                have hlt2 := hlt y z (by omega) (by omega) (by omega) (by unfold spanI; rw [← e1]; omega)
                omega
            · exfalso
              have hlt2 := hlt y z (by omega) (by omega) (by omega) (span_lt (by omega) (by omega) (by omega) (by omega) (by omega))
              omega
          refine SatD.regSeq hΓ follows [6, 7] ?_
          simp [d19r9]
          refine SatD.ret ?_
          simp [d19res]
          rw [hyz.1, hyz.2, wrap_id (by omega)]
          omega
        · simp at he
          refine SatD.skip ?_
          simp
          refine SatD.reg hΓ follows [2, 3, 4, 6, 8, 9] ?_
          simp [d19r10]
          have hnot : ¬ ((y : Int) = f ∧ (z : Int) = t) := by
            rintro ⟨e1, e2⟩
            rw [e1, e2] at he
            omega
          refine ⟨z + 1, Le.keep ?_ ?_ ?_ ?_, ⟨?_, ?_, ?_⟩, ?_⟩
          · simp
          · simp
          · simp
          · simp
            exact (wrap_id (by omega)).symm
          · omega
          · omega
          · omega
          · omega
      · refine SatD.exit ?_
        simp at hd
        simp
        refine SatD.reg hΓ follows [2, 3, 4, 6, 8] ?_
        simp [d19r11]
        refine ⟨y + 1, Le.keep ?_ ?_ ?_ ?_, ?_, ?_⟩
        · simp
        · simp
        · simp
        · simp
          exact (wrap_id (by omega)).symm
        · omega
        · omega
    · simp at hc; omega

theorem t19b (n : Normal) (l : Lattice) (i : Int) (hs : sm n.nonterms l.states) (hi : i < 0 ∨ goalI n.nonterms l.states ≤ i) :
    CallsOk Try.prog 19 [n.enc, l.enc, ti i] (.tup [.agg [ti 0, ti 0, ti 0], .bool false]) := by
  have hΓ := ok2
  have hgb := goal_bound hs
  refine c19.ok (by simp) (initSt_sat ?_)
  simp [Normal.enc, Lattice.enc]
  refine SatD.regSeq hΓ follows [2, 3, 4, 6] ?_
  simp [d19r0]
  refine SatD.seq ?_
  refine SatD.regSeq hΓ follows [2, 3, 4, 6, 20] ?_
  simp [d19r1, Γ2, spec39, fn39]
  refine ⟨fun _ => ⟨⟨n, l, rfl, hs⟩, ?_⟩, fun hc => ?_⟩
  simp (disch := omega) only [wrap_id]
  all_goals
    refine SatD.cond (by simp; rfl) (fun hc => ?_) (fun hc => ?_)
    · refine SatD.regSeq hΓ follows [6, 7] ?_
      simp [d19r2]
      refine SatD.ret ?_
      simp [d19res]
    · simp at hc <;> omega
end Go.Proofs
