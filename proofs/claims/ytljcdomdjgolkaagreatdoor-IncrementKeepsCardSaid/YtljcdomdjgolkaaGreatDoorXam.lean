/- What an item becomes: Keep, of the reference and of the program. Conditions: none. -/
import Derived.Test.YtljcdomdjgolkaaGreatDoorXal
import Derived.Test.YtljcdomdjgolkaaGreatDoorXaj
import Derived.Test.YtljcdomdjgolkaaGreatDoorXai
namespace Go.Proofs
namespace Inc
open Go.DM
set_option linter.unusedSimpArgs false
set_option linter.unusedVariables false

def keepBad (h f t cf co cn st : Int) : Prop := h < 0 ∨ f < 0 ∨ t < f ∨ t ≥ st ∨ cf < 0 ∨ co < 0 ∨ cn < 0 ∨ cn > 60 ∨ cf > (st - 1) / 2 ∨ co > (st - 1) / 2 - cf
instance (h f t cf co cn st : Int) : Decidable (keepBad h f t cf co cn st) := by unfold keepBad; infer_instance
def endS (t : Int) : Int := if t % 2 = 1 then (t - 1) / 2 + 2 else t / 2
structure KR where
  (h f t : Int)
  ok : Bool
def keepF (h f t cf co cn st : Int) : KR :=
  if keepBad h f t cf co cn st then ⟨0, 0, 0, false⟩ else if endS t ≤ cf then ⟨h, f, t, true⟩ else if f / 2 ≥ cf + co then ⟨h, f + 2 * (cn - co), t + 2 * (cn - co), true⟩ else ⟨0, 0, 0, false⟩
def KR.enc (k : KR) : T := .tup [.agg [ti k.h, ti k.f, ti k.t], .bool k.ok]
set_option maxRecDepth 20000 in
set_option maxHeartbeats 8000000 in
theorem t41 (t : Int) (h1 : 0 ≤ t) (h2 : t ≤ 1000000) : CallsOk Tryz.prog 41 [ti t] (ti (endS t)) := by
  obtain ⟨R, hR⟩ : ∃ R, endS t = R := ⟨_, rfl⟩
  rw [hR]
  unfold endS at hR
  have m1 : IntKind.i64.wrap (t.tmod 2) = t % 2 := by rw [tmod2 h1]; exact wrap_id (by omega)
  have m2 : IntKind.i64.wrap (t.tdiv 2) = t / 2 := by rw [tdiv2 h1]; exact wrap_id (by omega)
  have m3 : IntKind.i64.wrap (t - 1) = t - 1 := wrap_id (by omega)
  have hΓ := ok0
  refine c41.ok (by simp) (initSt_sat ?_)
  simp
  refine SatD.regSeq hΓ follows [0] ?_
  simp [d41r0]
  refine SatD.seq ?_
  refine SatD.regSeq hΓ follows [0, 5] ?_
  simp [d41r1, m1]
  refine SatD.cond rfl (fun g => ?_) (fun g => ?_)
  · have g : t % 2 = 0 := by simpa [tmod2 h1] using g
    rw [if_neg (by omega)] at hR
    refine SatD.regSeq hΓ follows [2] ?_
    simp [d41r2, m2]
    refine SatD.ret ?_
    simp [d41res, hR]
  · have g : ¬ t % 2 = 0 := by simpa [tmod2 h1] using g
    rw [if_pos (by omega)] at hR
    have m4 : IntKind.i64.wrap ((t - 1).tdiv 2) = (t - 1) / 2 := by rw [tdiv2 (by omega)]; exact wrap_id (by omega)
    have m5 : IntKind.i64.wrap ((t - 1) / 2 + 2) = (t - 1) / 2 + 2 := wrap_id (by omega)
    refine SatD.skip ?_
    simp
    refine SatD.regSeq hΓ follows [2] ?_
    simp [d41r3, m3, m4, m5]
    refine SatD.ret ?_
    simp [d41res, hR]
set_option maxRecDepth 20000 in
set_option maxHeartbeats 8000000 in
theorem t39 (h f t cf co cn st : Int) (hs : 1 ≤ st) (hs2 : st ≤ 10000) : CallsOk Tryz.prog 39 [.agg [ti h, ti f, ti t], .agg [ti cf, ti co, ti cn], ti st] (keepF h f t cf co cn st).enc := by
  obtain ⟨R, hR⟩ : ∃ R, keepF h f t cf co cn st = R := ⟨_, rfl⟩
  rw [hR]
  unfold keepF at hR
  have w1 : IntKind.i64.wrap (st - 1) = st - 1 := wrap_id (by omega)
  have w2 : IntKind.i64.wrap ((st - 1).tdiv 2) = (st - 1) / 2 := by rw [tdiv2 (by omega)]; exact wrap_id (by omega)
  have hΓ := ok0
  refine c39.ok (by simp) (initSt_sat ?_)
  simp
  refine SatD.regSeq hΓ follows [2, 3, 4, 6] ?_
  simp [d39r0]
  refine SatD.le (Le.keep (o := [(1007, .box [.v (ti 0), .v (ti 0), .v (ti 0)])]) (l := [(2, .v (ti st)), (3, .v (.box [ti h, ti f, ti t])), (4, .v (.box [ti cf, ti co, ti cn])), (6, .ptr 1007 0)]) (nxt' := 1200) ?_ ?_ ?_ ?_) ?_
  · simp
  · simp
  · simp
  · simp
  refine SatD.seq ?_
  obtain ⟨c1, hc1⟩ : ∃ c1 : Bool, decide (h < 0 ∨ f < 0 ∨ t < f ∨ t ≥ st ∨ cf < 0 ∨ co < 0 ∨ cn < 0 ∨ cn > 60 ∨ cf > (st - 1) / 2 ∨ co > (st - 1) / 2 - cf) = c1 := ⟨_, rfl⟩
  refine SatD.regToS hΓ follows [(3, .v (.box [ti h, ti f, ti t])), (4, .v (.box [ti cf, ti co, ti cn])), (6, .ptr 1007 0), (69, .v (.bool c1))] ?_ ?_
  · by_cases q1 : h < 0
    · have : c1 = true := by rw [← hc1]; simp [q1]
      simp [d39r1, q1, this, w1, w2]
    · skip
      by_cases q2 : f < 0
      · have : c1 = true := by rw [← hc1]; simp [q2]
        simp [d39r1, q1, q2, this, w1, w2]
      · skip
        by_cases q3 : t < f
        · have : c1 = true := by rw [← hc1]; simp [q3]
          simp [d39r1, q1, q2, q3, this, w1, w2]
        · skip
          by_cases q4 : t ≥ st
          · have : c1 = true := by rw [← hc1]; simp [q4]
            simp [d39r1, q1, q2, q3, q4, this, w1, w2]
          · skip
            by_cases q5 : cf < 0
            · have : c1 = true := by rw [← hc1]; simp [q5]
              simp [d39r1, q1, q2, q3, q4, q5, this, w1, w2]
            · skip
              by_cases q6 : co < 0
              · have : c1 = true := by rw [← hc1]; simp [q6]
                simp [d39r1, q1, q2, q3, q4, q5, q6, this, w1, w2]
              · skip
                by_cases q7 : cn < 0
                · have : c1 = true := by rw [← hc1]; simp [q7]
                  simp [d39r1, q1, q2, q3, q4, q5, q6, q7, this, w1, w2]
                · skip
                  by_cases q8 : cn > 60
                  · have : c1 = true := by rw [← hc1]; simp [q8]
                    simp [d39r1, q1, q2, q3, q4, q5, q6, q7, q8, this, w1, w2]
                  · skip
                    by_cases q9 : cf > (st - 1) / 2
                    · have : c1 = true := by rw [← hc1]; simp [q9]
                      simp [d39r1, q1, q2, q3, q4, q5, q6, q7, q8, q9, this, w1, w2]
                    · skip
                      have w3 : IntKind.i64.wrap ((st - 1) / 2 - cf) = (st - 1) / 2 - cf := wrap_id (by omega)
                      by_cases q10 : co > (st - 1) / 2 - cf
                      · have : c1 = true := by rw [← hc1]; simp [q10]
                        simp [d39r1, q1, q2, q3, q4, q5, q6, q7, q8, q9, q10, this, w1, w2, w3]
                      · skip
                        have : c1 = false := by rw [← hc1]; simp [q1, q2, q3, q4, q5, q6, q7, q8, q9, q10]
                        simp [d39r1, q1, q2, q3, q4, q5, q6, q7, q8, q9, q10, this, w1, w2, w3]
  refine SatD.cond rfl (fun g1 => ?_) (fun g1 => ?_)
  · rw [g1] at hc1
    rw [if_pos (show keepBad h f t cf co cn st from of_decide_eq_true hc1)] at hR
    subst hR
    refine SatD.regSeq hΓ follows [6, 7] ?_
    simp [d39r2]
    refine SatD.ret ?_
    simp [d39res, KR.enc]
  · rw [g1] at hc1
    have hc1 := of_decide_eq_false hc1
    rw [if_neg (show ¬ keepBad h f t cf co cn st from hc1)] at hR
    have m1 : IntKind.i64.wrap (t.tmod 2) = t % 2 := by rw [tmod2 (by omega)]; exact wrap_id (by omega)
    have m2 : IntKind.i64.wrap (t.tdiv 2) = t / 2 := by rw [tdiv2 (by omega)]; exact wrap_id (by omega)
    have m3 : IntKind.i64.wrap (t - 1) = t - 1 := wrap_id (by omega)
    have m6 : IntKind.i64.wrap (f.tdiv 2) = f / 2 := by rw [tdiv2 (by omega)]; exact wrap_id (by omega)
    have m7 : IntKind.i64.wrap (cf + co) = cf + co := wrap_id (by omega)
    have m8 : IntKind.i64.wrap (cn - co) = cn - co := wrap_id (by omega)
    have m9 : IntKind.i64.wrap (2 * (cn - co)) = 2 * (cn - co) := wrap_id (by omega)
    have m10 : IntKind.i64.wrap (f + 2 * (cn - co)) = f + 2 * (cn - co) := wrap_id (by omega)
    have m11 : IntKind.i64.wrap (t + 2 * (cn - co)) = t + 2 * (cn - co) := wrap_id (by omega)
    refine SatD.skip ?_
    simp
    refine SatD.regSeq hΓ follows [3, 4, 6, 8] ?_
    simp [d39r3, m2]
    refine SatD.seq ?_
    refine SatD.regSeq hΓ follows [3, 4, 6, 8, 77] ?_
    simp [d39r4, m1]
    refine SatD.cond rfl (fun g2 => ?_) (fun g2 => ?_)
    · have g2 : t % 2 = 1 := by simpa [tmod2 (x := t) (by omega)] using g2
      have m4 : IntKind.i64.wrap ((t - 1).tdiv 2) = (t - 1) / 2 := by rw [tdiv2 (by omega)]; exact wrap_id (by omega)
      have m5 : IntKind.i64.wrap ((t - 1) / 2 + 2) = (t - 1) / 2 + 2 := wrap_id (by omega)
      have hE : endS t = (t - 1) / 2 + 2 := if_pos g2
      rw [hE] at hR
      refine SatD.reg hΓ follows [3, 4, 6, 8] ?_
      simp [d39r5, m3, m4, m5]
      refine SatD.seq ?_
      refine SatD.regSeq hΓ follows [3, 4, 6, 86] ?_
      simp [d39r6]
      refine SatD.cond rfl (fun g3 => ?_) (fun g3 => ?_)
      · rw [if_pos (by simpa using g3)] at hR
        subst hR
        refine SatD.regSeq hΓ follows [6, 7] ?_
        simp [d39r7]
        refine SatD.ret ?_
        simp [d39res, KR.enc]
      · rw [if_neg (by simpa using g3)] at hR
        refine SatD.skip ?_
        simp
        refine SatD.seq ?_
        refine SatD.regSeq hΓ follows [3, 4, 6, 96] ?_
        simp [d39r8, m6, m7]
        refine SatD.cond rfl (fun g4 => ?_) (fun g4 => ?_)
        · rw [if_pos (by simpa using g4)] at hR
          subst hR
          refine SatD.regSeq hΓ follows [3, 6, 9] ?_
          simp [d39r9, m8, m9]
          refine SatD.regSeq hΓ follows [6, 7] ?_
          simp [d39r10, m10, m11]
          refine SatD.ret ?_
          simp [d39res, KR.enc]
        · rw [if_neg (by simpa using g4)] at hR
          subst hR
          refine SatD.skip ?_
          simp
          refine SatD.regSeq hΓ follows [6, 7] ?_
          simp [d39r11]
          refine SatD.ret ?_
          simp [d39res, KR.enc]
    · have g2 : ¬ t % 2 = 1 := by simpa [tmod2 (x := t) (by omega)] using g2
      have hE : endS t = t / 2 := if_neg g2
      rw [hE] at hR
      refine SatD.skip ?_
      simp
      refine SatD.seq ?_
      refine SatD.regSeq hΓ follows [3, 4, 6, 86] ?_
      simp [d39r6]
      refine SatD.cond rfl (fun g3 => ?_) (fun g3 => ?_)
      · rw [if_pos (by simpa using g3)] at hR
        subst hR
        refine SatD.regSeq hΓ follows [6, 7] ?_
        simp [d39r7]
        refine SatD.ret ?_
        simp [d39res, KR.enc]
      · rw [if_neg (by simpa using g3)] at hR
        refine SatD.skip ?_
        simp
        refine SatD.seq ?_
        refine SatD.regSeq hΓ follows [3, 4, 6, 96] ?_
        simp [d39r8, m6, m7]
        refine SatD.cond rfl (fun g4 => ?_) (fun g4 => ?_)
        · rw [if_pos (by simpa using g4)] at hR
          subst hR
          refine SatD.regSeq hΓ follows [3, 6, 9] ?_
          simp [d39r9, m8, m9]
          refine SatD.regSeq hΓ follows [6, 7] ?_
          simp [d39r10, m10, m11]
          refine SatD.ret ?_
          simp [d39res, KR.enc]
        · rw [if_neg (by simpa using g4)] at hR
          subst hR
          refine SatD.skip ?_
          simp
          refine SatD.regSeq hΓ follows [6, 7] ?_
          simp [d39r11]
          refine SatD.ret ?_
          simp [d39res, KR.enc]

abbrev s41 : DM.Spec := specP (fun ts => ∃ t, ts = [ti t] ∧ 0 ≤ t ∧ t ≤ 1000000) (fun | [.int _ t] => ti (endS t) | _ => .bool false) true
theorem ok41 : EnvOk Tryz.prog (envOf [(41, s41)]) := by
  refine EnvOk.cons EnvOk.nil ?_
  rintro ts ⟨t, rfl, h1, h2⟩
  exact ⟨t41 t h1 h2, fun _ => rfl⟩
set_option maxRecDepth 20000 in
set_option maxHeartbeats 8000000 in
theorem t18 (h f t cf co cn st : Int) (hs : 1 ≤ st) (hs2 : st ≤ 10000) : CallsOk Tryz.prog 18 [.agg [ti h, ti f, ti t], .agg [ti cf, ti co, ti cn], ti st] (keepF h f t cf co cn st).enc := by
  obtain ⟨R, hR⟩ : ∃ R, keepF h f t cf co cn st = R := ⟨_, rfl⟩
  rw [hR]
  unfold keepF at hR
  have w1 : IntKind.i64.wrap (st - 1) = st - 1 := wrap_id (by omega)
  have w2 : IntKind.i64.wrap ((st - 1).tdiv 2) = (st - 1) / 2 := by rw [tdiv2 (by omega)]; exact wrap_id (by omega)
  have hΓ := ok41
  refine c18.ok (by simp) (initSt_sat ?_)
  simp
  refine SatD.regSeq hΓ follows [2, 3, 4, 6] ?_
  simp [d18r0]
  refine SatD.le (Le.keep (o := [(1007, .box [.v (ti 0), .v (ti 0), .v (ti 0)])]) (l := [(2, .v (ti st)), (3, .v (.box [ti h, ti f, ti t])), (4, .v (.box [ti cf, ti co, ti cn])), (6, .ptr 1007 0)]) (nxt' := 1200) ?_ ?_ ?_ ?_) ?_
  · simp
  · simp
  · simp
  · simp
  refine SatD.seq ?_
  obtain ⟨c1, hc1⟩ : ∃ c1 : Bool, decide (h < 0 ∨ f < 0 ∨ t < f ∨ t ≥ st ∨ cf < 0 ∨ co < 0 ∨ cn < 0 ∨ cn > 60 ∨ cf > (st - 1) / 2 ∨ co > (st - 1) / 2 - cf) = c1 := ⟨_, rfl⟩
  refine SatD.regToS hΓ follows [(3, .v (.box [ti h, ti f, ti t])), (4, .v (.box [ti cf, ti co, ti cn])), (6, .ptr 1007 0), (68, .v (.bool c1))] ?_ ?_
  · by_cases q1 : h < 0
    · have : c1 = true := by rw [← hc1]; simp [q1]
      simp [d18r1, q1, this, w1, w2]
    · skip
      by_cases q2 : f < 0
      · have : c1 = true := by rw [← hc1]; simp [q2]
        simp [d18r1, q1, q2, this, w1, w2]
      · skip
        by_cases q3 : t < f
        · have : c1 = true := by rw [← hc1]; simp [q3]
          simp [d18r1, q1, q2, q3, this, w1, w2]
        · skip
          by_cases q4 : t ≥ st
          · have : c1 = true := by rw [← hc1]; simp [q4]
            simp [d18r1, q1, q2, q3, q4, this, w1, w2]
          · skip
            by_cases q5 : cf < 0
            · have : c1 = true := by rw [← hc1]; simp [q5]
              simp [d18r1, q1, q2, q3, q4, q5, this, w1, w2]
            · skip
              by_cases q6 : co < 0
              · have : c1 = true := by rw [← hc1]; simp [q6]
                simp [d18r1, q1, q2, q3, q4, q5, q6, this, w1, w2]
              · skip
                by_cases q7 : cn < 0
                · have : c1 = true := by rw [← hc1]; simp [q7]
                  simp [d18r1, q1, q2, q3, q4, q5, q6, q7, this, w1, w2]
                · skip
                  by_cases q8 : cn > 60
                  · have : c1 = true := by rw [← hc1]; simp [q8]
                    simp [d18r1, q1, q2, q3, q4, q5, q6, q7, q8, this, w1, w2]
                  · skip
                    by_cases q9 : cf > (st - 1) / 2
                    · have : c1 = true := by rw [← hc1]; simp [q9]
                      simp [d18r1, q1, q2, q3, q4, q5, q6, q7, q8, q9, this, w1, w2]
                    · skip
                      have w3 : IntKind.i64.wrap ((st - 1) / 2 - cf) = (st - 1) / 2 - cf := wrap_id (by omega)
                      by_cases q10 : co > (st - 1) / 2 - cf
                      · have : c1 = true := by rw [← hc1]; simp [q10]
                        simp [d18r1, q1, q2, q3, q4, q5, q6, q7, q8, q9, q10, this, w1, w2, w3]
                      · skip
                        have : c1 = false := by rw [← hc1]; simp [q1, q2, q3, q4, q5, q6, q7, q8, q9, q10]
                        simp [d18r1, q1, q2, q3, q4, q5, q6, q7, q8, q9, q10, this, w1, w2, w3]
  refine SatD.cond rfl (fun g1 => ?_) (fun g1 => ?_)
  · rw [g1] at hc1
    rw [if_pos (show keepBad h f t cf co cn st from of_decide_eq_true hc1)] at hR
    subst hR
    refine SatD.regSeq hΓ follows [6, 7] ?_
    simp [d18r2]
    refine SatD.ret ?_
    simp [d18res, KR.enc]
  · rw [g1] at hc1
    have hc1 := of_decide_eq_false hc1
    rw [if_neg (show ¬ keepBad h f t cf co cn st from hc1)] at hR
    have m6 : IntKind.i64.wrap (f.tdiv 2) = f / 2 := by rw [tdiv2 (by omega)]; exact wrap_id (by omega)
    have m7 : IntKind.i64.wrap (cf + co) = cf + co := wrap_id (by omega)
    have m8 : IntKind.i64.wrap (cn - co) = cn - co := wrap_id (by omega)
    have m9 : IntKind.i64.wrap (2 * (cn - co)) = 2 * (cn - co) := wrap_id (by omega)
    have m10 : IntKind.i64.wrap (f + 2 * (cn - co)) = f + 2 * (cn - co) := wrap_id (by omega)
    have m11 : IntKind.i64.wrap (t + 2 * (cn - co)) = t + 2 * (cn - co) := wrap_id (by omega)
    refine SatD.skip ?_
    simp
    refine SatD.seq ?_
    refine SatD.regSeq hΓ follows [3, 4, 6, 75] ?_
    simp [d18r3]
    repeat (refine ⟨by omega, ?_⟩)
    refine SatD.cond rfl (fun g3 => ?_) (fun g3 => ?_)
    · rw [if_pos (by simpa using g3)] at hR
      subst hR
      refine SatD.regSeq hΓ follows [6, 7] ?_
      simp [d18r4]
      refine SatD.ret ?_
      simp [d18res, KR.enc]
    · rw [if_neg (by simpa using g3)] at hR
      refine SatD.skip ?_
      simp
      refine SatD.seq ?_
      refine SatD.regSeq hΓ follows [3, 4, 6, 85] ?_
      simp [d18r5, m6, m7]
      refine SatD.cond rfl (fun g4 => ?_) (fun g4 => ?_)
      · rw [if_pos (by simpa using g4)] at hR
        subst hR
        refine SatD.regSeq hΓ follows [3, 6, 8] ?_
        simp [d18r6, m8, m9]
        refine SatD.regSeq hΓ follows [6, 7] ?_
        simp [d18r7, m10, m11]
        refine SatD.ret ?_
        simp [d18res, KR.enc]
      · rw [if_neg (by simpa using g4)] at hR
        subst hR
        refine SatD.skip ?_
        simp
        refine SatD.regSeq hΓ follows [6, 7] ?_
        simp [d18r8]
        refine SatD.ret ?_
        simp [d18res, KR.enc]
end Inc
end Go.Proofs
/- The input after a change: Replace, after, change. Conditions: none. -/
namespace Go.Proofs
namespace Inc
open Go.DM
set_option linter.unusedSimpArgs false
set_option linter.unusedVariables false

structure Ask where
  n : Normal
  x : Input
  (fr od : Int)
  new : List Column
def Ask.enc (z : Ask) : T := .agg [ti z.n.terms, ti z.n.nonterms, ti z.n.start, .sl (rulesT z.n.rules), .sl (colsT z.x.columns), .sl (intsT z.x.insert), ti z.x.swap, ti z.fr, ti z.od, .sl (colsT z.new)]
def replaceX (x : Input) (fr od : Nat) (new : List Column) : Input := ⟨x.columns.take fr ++ new ++ x.columns.drop (fr + od), x.insert, x.swap⟩
theorem cols_rows (l : List Column) : ∀ r ∈ colsT l, r.length = 3 := by
  intro r hr
  simp only [colsT, List.mem_map] at hr
  obtain ⟨c, _, rfl⟩ := hr
  rfl
theorem colsT_append (a b : List Column) : colsT (a ++ b) = colsT a ++ colsT b := by simp [colsT]
theorem colsT_take (a : List Column) (n : Nat) : (colsT a).take n = colsT (a.take n) := by simp [colsT, List.map_take]
theorem colsT_drop (a : List Column) (n : Nat) : (colsT a).drop n = colsT (a.drop n) := by simp [colsT, List.map_drop]
set_option maxRecDepth 20000 in
set_option maxHeartbeats 8000000 in
theorem t38 (x : Input) (fr od : Nat) (new : List Column) (h1 : fr ≤ x.columns.length) (h2 : od ≤ x.columns.length - fr) (h3 : x.columns.length ≤ 1000000) (h4 : new.length ≤ 1000000) :
    CallsOk Tryz.prog 38 [x.enc, ti fr, ti od, .sl (colsT new)] (replaceX x fr od new).enc := by
  obtain ⟨R, hR⟩ : ∃ R, (replaceX x fr od new).columns = R := ⟨_, rfl⟩
  have hRR : replaceX x fr od new = ⟨R, x.insert, x.swap⟩ := by rw [← hR]; rfl
  rw [hRR]
  simp only [replaceX] at hR
  obtain ⟨cols, ins, sw⟩ := x
  simp only at h1 h2 h3 hR
  have w1 : IntKind.i64.wrap ((fr : Int) + od) = (fr : Int) + od := wrap_id (by omega)
  have e1 : ((fr : Int) + od).toNat = fr + od := by omega
  obtain ⟨A, hA⟩ : ∃ A, cols.take fr = A := ⟨_, rfl⟩
  obtain ⟨B, hB⟩ : ∃ B, cols.drop (fr + od) = B := ⟨_, rfl⟩
  have hAl : A.length ≤ 1000000 := by rw [← hA]; simp; omega
  have hBl : B.length ≤ 1000000 := by rw [← hB]; simp; omega
  rw [hA, hB] at hR
  subst hR
  have hra := cols_rows A
  have hrb := cols_rows B
  have hrn := cols_rows new
  have hΓ := ok0
  refine c38.ok (by simp) (initSt_sat ?_)
  simp [Input.enc]
  refine SatD.regSeq hΓ follows [1, 2, 3, 4, 8] ?_
  simp [d38r0]
  refine SatD.le (Le.keep (o := [(1009, .box [.nil0, .nil0, .v (ti 0)])]) (l := [(1, .v (ti fr)), (2, .v (ti od)), (3, .v (.sl (colsT new))), (4, .v (.box [.sl (colsT cols), .sl (intsT ins), ti sw])), (8, .ptr 1009 0)]) (nxt' := 1200) ?_ ?_ ?_ ?_) ?_
  · simp
  · simp
  · simp
  · simp
  refine SatD.regSeq hΓ follows [1, 2, 3, 4, 8, 9] ?_
  simp [d38r1]
  refine SatD.le (Le.keep (o := [(1009, .box [.nil0, .nil0, .v (ti 0)]), (1210, .box [.v (.sl (colsT cols)), .v (.sl (intsT ins)), .v (ti sw)])]) (l := [(1, .v (ti fr)), (2, .v (ti od)), (3, .v (.sl (colsT new))), (4, .v (.box [.sl (colsT cols), .sl (intsT ins), ti sw])), (8, .ptr 1009 0), (9, .ptr 1210 0)]) (nxt' := 1400) ?_ ?_ ?_ ?_) ?_
  · simp
  · simp
  · simp
  · simp
  refine SatD.regASeq hΓ follows (rs := annot d38r2 [none, none, some [], none, some [], some [], none, some [1417], none, some [], none, none, none, some [], some [1417], none, some [1210, 1417]]) (.inl rfl) (by kernel_rfl) [8, 9] ?_
  simp [d38r2, annot, touchOk, opdsOf, names, namesL, w1, e1, roomOk, colsT_take, colsT_drop, hA, hB, h1, h2, hra, hrb, hrn]
  have hrc := cols_rows cols
  refine ⟨hrc, ⟨hra, by omega⟩, ⟨hrn, by omega⟩, ⟨by omega, by omega, hrc⟩, ⟨hrb, by omega⟩, ?_⟩
  refine SatD.regSeq hΓ follows [8] ?_
  simp [d38r3]
  refine SatD.ret ?_
  simp [d38res, colsT_append]

abbrev s38 : DM.Spec := specP (fun ts => ∃ cols ins sw, ∃ fr od : Int, ∃ new, ts = [.agg [.sl (colsT cols), .sl (intsT ins), ti sw], ti fr, ti od, .sl (colsT new)] ∧ 0 ≤ fr ∧ fr ≤ cols.length ∧ 0 ≤ od ∧ od ≤ cols.length - fr ∧ cols.length ≤ 1000000 ∧ new.length ≤ 1000000)
  (fun | [x, .int _ fr, .int _ od, .sl nw] => .agg [.sl (colsT (replaceX (decX x) fr.toNat od.toNat (decCols nw)).columns), .sl (intsT (replaceX (decX x) fr.toNat od.toNat (decCols nw)).insert), ti (replaceX (decX x) fr.toNat od.toNat (decCols nw)).swap] | _ => .bool false) false
theorem ok38 : EnvOk Tryz.prog (envOf [(38, s38)]) := by
  refine EnvOk.cons EnvOk.nil ?_
  rintro ts ⟨cols, ins, sw, fr, od, new, rfl, h1, h2, h3, h4, h5, h6⟩
  obtain ⟨fr, rfl⟩ := Int.eq_ofNat_of_zero_le h1
  obtain ⟨od, rfl⟩ := Int.eq_ofNat_of_zero_le h3
  exact ⟨by simpa [Input.enc] using t38 ⟨cols, ins, sw⟩ fr od new (by simpa using h2) (by simp only; omega) h5 h6, fun h => by cases h⟩
/-- The place and the size of the change fit. -/
def fitA (z : Ask) : Prop := 0 ≤ z.fr ∧ z.fr ≤ z.x.columns.length ∧ 0 ≤ z.od ∧ z.od ≤ z.x.columns.length - z.fr ∧ z.x.columns.length ≤ 1000000 ∧ z.new.length ≤ 1000000
def afterA (z : Ask) : Input := replaceX z.x z.fr.toNat z.od.toNat z.new
set_option maxRecDepth 20000 in
set_option maxHeartbeats 8000000 in
theorem t14 (z : Ask) (h : fitA z) : CallsOk Tryz.prog 14 [z.enc] (afterA z).enc := by
  obtain ⟨⟨nt, nn, ns, rules⟩, ⟨cols, ins, sw⟩, fr, od, new⟩ := z
  obtain ⟨h1, h2, h3, h4, h5, h6⟩ := h
  simp only at h1 h2 h3 h4 h5 h6
  have hΓ := ok38
  refine c14.ok (by simp) (initSt_sat ?_)
  simp [Ask.enc]
  refine SatD.regSeq hΓ follows [1, 2] ?_
  simp [d14r0]
  refine SatD.le (Le.keep (o := [(1003, .box [.nil0, .nil0, .v (ti 0)])]) (l := [(1, .v (.box [ti nt, ti nn, ti ns, .sl (rulesT rules), .sl (colsT cols), .sl (intsT ins), ti sw, ti fr, ti od, .sl (colsT new)])), (2, .ptr 1003 0)]) (nxt' := 1200) ?_ ?_ ?_ ?_) ?_
  · simp
  · simp
  · simp
  · simp
  refine SatD.regSeq hΓ follows [2] ?_
  simp [d14r1, and_assoc, h1, h2, h3, h4, h5, h6]
  refine SatD.ret ?_
  simp [d14res, afterA, Input.enc]
set_option maxRecDepth 20000 in
set_option maxHeartbeats 8000000 in
theorem t15 (z : Ask) : CallsOk Tryz.prog 15 [z.enc] (.agg [ti z.fr, ti z.od, ti (z.new.length : Int)]) := by
  obtain ⟨⟨nt, nn, ns, rules⟩, ⟨cols, ins, sw⟩, fr, od, new⟩ := z
  have hΓ := ok0
  refine c15.ok (by simp) (initSt_sat ?_)
  simp [Ask.enc]
  refine SatD.regSeq hΓ follows [1, 2] ?_
  simp [d15r0]
  refine SatD.le (Le.keep (o := [(1003, .box [.v (ti 0), .v (ti 0), .v (ti 0)])]) (l := [(1, .v (.box [ti nt, ti nn, ti ns, .sl (rulesT rules), .sl (colsT cols), .sl (intsT ins), ti sw, ti fr, ti od, .sl (colsT new)])), (2, .ptr 1003 0)]) (nxt' := 1200) ?_ ?_ ?_ ?_) ?_
  · simp
  · simp
  · simp
  · simp
  refine SatD.regSeq hΓ follows [2] ?_
  simp [d15r1]
  refine SatD.ret ?_
  simp [d15res]
end Inc
end Go.Proofs
/- Validity of normal grammars; the insertion hypergraph. Conditions: none. -/
namespace Go.Proofs
namespace Inc
open Go.DM
set_option linter.unusedSimpArgs false
set_option linter.unusedVariables false

def kindOk (n : Normal) (r : Rule) : Prop :=
  if r.kind = 1 then r.a = 0 ∧ r.b = 0 else if r.kind = 2 then r.a ≥ 0 ∧ r.a < n.terms ∧ r.b = 0 else if r.kind = 3 then r.a ≥ 0 ∧ r.a < n.nonterms ∧ r.b = 0
  else if r.kind = 4 then r.a ≥ 0 ∧ r.a < n.nonterms ∧ r.b ≥ 0 ∧ r.b < n.nonterms else False
instance (n : Normal) (r : Rule) : Decidable (kindOk n r) := by unfold kindOk; infer_instance
def headOk (n : Normal) (r : Rule) : Prop := ¬ (r.head < 0 ∨ r.head ≥ n.nonterms ∨ r.price < 0 ∨ r.price > 1000 ∨ r.origin < -1)
instance (n : Normal) (r : Rule) : Decidable (headOk n r) := by unfold headOk; infer_instance
def topOk (n : Normal) : Prop := ¬ (n.terms < 0 ∨ n.terms > 120 ∨ n.nonterms < 1 ∨ n.nonterms > 1000 ∨ n.start < 0 ∨ n.start ≥ n.nonterms ∨ (n.rules.length : Int) > 600)
instance (n : Normal) : Decidable (topOk n) := by unfold topOk; infer_instance
def validN (n : Normal) : Prop := topOk n ∧ ∀ i, i < n.rules.length → headOk n (n.rules.getD i default) ∧ kindOk n (n.rules.getD i default)
instance (n : Normal) : Decidable (validN n) := by unfold validN; infer_instance
theorem validN.ok {n : Normal} (h : validN n) : nOk n := by
  obtain ⟨h1, h2⟩ := h
  unfold topOk at h1
  refine ⟨by omega, by omega, by omega, fun r hr => ?_⟩
  obtain ⟨i, hi, rfl⟩ := List.getElem_of_mem hr
  obtain ⟨h3, h4⟩ := h2 i hi
  rw [show n.rules.getD i default = n.rules[i] by simp [List.getD, hi]] at h3 h4
  unfold headOk at h3
  unfold kindOk at h4
  unfold ruleOk
  refine ⟨by omega, by omega, by omega, by omega, ?_⟩
  split at h4
  · exact .inl (by assumption)
  · split at h4
    · exact .inr (.inl ⟨by assumption, by omega, by omega⟩)
    · split at h4
      · exact .inr (.inr (.inl ⟨by assumption, by omega, by omega⟩))
      · split at h4
        · exact .inr (.inr (.inr ⟨by assumption, by omega, by omega, by omega, by omega⟩))
        · exact h4.elim
set_option maxRecDepth 20000 in
set_option maxHeartbeats 8000000 in
theorem t20 (n : Normal) (hl : n.rules.length ≤ 9223372036854775807) : CallsOk Tryz.prog 20 [n.enc] (.bool (decide (validN n))) := by
  obtain ⟨nt, nn, ns, rules⟩ := n
  obtain ⟨v, hv⟩ : ∃ v, decide (validN ⟨nt, nn, ns, rules⟩) = v := ⟨_, rfl⟩
  rw [hv]
  simp only at hl
  have hval : validN ⟨nt, nn, ns, rules⟩ ↔ topOk ⟨nt, nn, ns, rules⟩ ∧ ∀ i, i < rules.length → headOk ⟨nt, nn, ns, rules⟩ (rules.getD i default) ∧ kindOk ⟨nt, nn, ns, rules⟩ (rules.getD i default) := Iff.rfl
  have bad : ¬ validN ⟨nt, nn, ns, rules⟩ → v = false := fun h => by rw [← hv]; simp [h]
  have hΓ := ok0
  refine c20.ok (by simp) (initSt_sat ?_)
  simp [Normal.enc]
  refine SatD.regSeq hΓ follows [1] ?_
  simp [d20r0]
  refine SatD.le (Le.keep (o := []) (l := [(1, .v (.box [ti nt, ti nn, ti ns, .sl (rulesT rules)]))]) (nxt' := 1200) ?_ ?_ ?_ ?_) ?_
  · simp
  · simp
  · simp
  · simp
  refine SatD.seq ?_
  obtain ⟨c1, hc1⟩ : ∃ c1 : Bool, decide (nt < 0 ∨ nt > 120 ∨ nn < 1 ∨ nn > 1000 ∨ ns < 0 ∨ ns ≥ nn ∨ (rules.length : Int) > 600) = c1 := ⟨_, rfl⟩
  refine SatD.regToS hΓ follows [(1, .v (.box [ti nt, ti nn, ti ns, .sl (rulesT rules)])), (41, .v (.bool c1))] ?_ ?_
  · by_cases q1 : nt < 0
    · have : c1 = true := by rw [← hc1]; simp [q1]
      simp [d20r1, q1, this]
    · skip
      by_cases q2 : nt > 120
      · have : c1 = true := by rw [← hc1]; simp [q2]
        simp [d20r1, q1, q2, this]
      · skip
        by_cases q3 : nn < 1
        · have : c1 = true := by rw [← hc1]; simp [q3]
          simp [d20r1, q1, q2, q3, this]
        · skip
          by_cases q4 : nn > 1000
          · have : c1 = true := by rw [← hc1]; simp [q4]
            simp [d20r1, q1, q2, q3, q4, this]
          · skip
            by_cases q5 : ns < 0
            · have : c1 = true := by rw [← hc1]; simp [q5]
              simp [d20r1, q1, q2, q3, q4, q5, this]
            · skip
              by_cases q6 : ns ≥ nn
              · have : c1 = true := by rw [← hc1]; simp [q6]
                simp [d20r1, q1, q2, q3, q4, q5, q6, this]
              · skip
                by_cases q7 : (rules.length : Int) > 600
                · have : c1 = true := by rw [← hc1]; simp [q7]
                  simp [d20r1, q1, q2, q3, q4, q5, q6, q7, this]
                · skip
                  have : c1 = false := by rw [← hc1]; simp [q1, q2, q3, q4, q5, q6, q7]
                  simp [d20r1, q1, q2, q3, q4, q5, q6, q7, this]
  refine SatD.cond rfl (fun h1 => ?_) (fun h1 => ?_)
  · rw [h1] at hc1
    have hc1 := of_decide_eq_true hc1
    refine SatD.regSeq hΓ follows [2] ?_
    simp [d20r2]
    refine SatD.ret ?_
    rw [bad fun h => (hval.1 h).1 hc1]
    simp [d20res]
  · rw [h1] at hc1
    have hc1 := of_decide_eq_false hc1
    refine SatD.skip ?_
    simp
    refine SatD.seq ?_
    refine SatD.regSeq hΓ follows [1, 3] ?_
    simp [d20r3]
    refine SatD.block ?_
    refine SatD.loop (fun y : Nat => ⟨DM.look [(1, .v (.box [ti nt, ti nn, ti ns, .sl (rulesT rules)])), (3, .v (ti y))], obs [], 2000, 1000, []⟩)
      (fun y => y ≤ rules.length ∧ ∀ i, i < y → headOk ⟨nt, nn, ns, rules⟩ (rules.getD i default) ∧ kindOk ⟨nt, nn, ns, rules⟩ (rules.getD i default)) (fun y => rules.length - y) 0 (Le.keep (o := []) ?_ ?_ ?_ ?_) (by simp) (fun y hy => ?_)
    · simp
    · simp
    · simp
    · simp
    obtain ⟨hy1, hy2⟩ := hy
    refine SatD.seq ?_
    refine SatD.regSeq hΓ follows [1, 3, 46] ?_
    simp [d20r4]
    refine SatD.cond rfl (fun hcc => ?_) (fun hcc => ?_)
    · have hcc : y < rules.length := by simpa using hcc
      refine SatD.skip ?_
      simp
      refine SatD.seq ?_
      refine SatD.block ?_
      have rr := rowAt_rules hcc
      obtain ⟨⟨rk, rh, ra, rb, rp, rg⟩, hr⟩ : ∃ r, rules.getD y default = r := ⟨_, rfl⟩
      rw [hr] at rr
      refine SatD.regSeq hΓ follows [1, 3, 4] ?_
      simp [d20r5, hcc, rr, Rule.enc]
      refine SatD.le (Le.keep (o := []) (l := [(1, .v (.box [ti nt, ti nn, ti ns, .sl (rulesT rules)])), (3, .v (ti y)), (4, .v (.box [ti rk, ti rh, ti ra, ti rb, ti rp, ti rg]))]) (nxt' := 2400) ?_ ?_ ?_ ?_) ?_
      · simp
      · simp
      · simp
      · simp
      refine SatD.seq ?_
      obtain ⟨c2, hc2⟩ : ∃ c2 : Bool, decide (rh < 0 ∨ rh ≥ nn ∨ rp < 0 ∨ rp > 1000 ∨ rg < -1) = c2 := ⟨_, rfl⟩
      refine SatD.regToS hΓ follows [(1, .v (.box [ti nt, ti nn, ti ns, .sl (rulesT rules)])), (3, .v (ti y)), (4, .v (.box [ti rk, ti rh, ti ra, ti rb, ti rp, ti rg])), (78, .v (.bool c2))] ?_ ?_
      · by_cases q1 : rh < 0
        · have : c2 = true := by rw [← hc2]; simp [q1]
          simp [d20r6, q1, this]
        · skip
          by_cases q2 : rh ≥ nn
          · have : c2 = true := by rw [← hc2]; simp [q2]
            simp [d20r6, q1, q2, this]
          · skip
            by_cases q3 : rp < 0
            · have : c2 = true := by rw [← hc2]; simp [q3]
              simp [d20r6, q1, q2, q3, this]
            · skip
              by_cases q4 : rp > 1000
              · have : c2 = true := by rw [← hc2]; simp [q4]
                simp [d20r6, q1, q2, q3, q4, this]
              · skip
                by_cases q5 : rg < -1
                · have : c2 = true := by rw [← hc2]; simp [q5]
                  simp [d20r6, q1, q2, q3, q4, q5, this]
                · skip
                  have : c2 = false := by rw [← hc2]; simp [q1, q2, q3, q4, q5]
                  simp [d20r6, q1, q2, q3, q4, q5, this]
      refine SatD.cond rfl (fun h2 => ?_) (fun h2 => ?_)
      · rw [h2] at hc2
        have hc2 := of_decide_eq_true hc2
        refine SatD.regSeq hΓ follows [2] ?_
        simp [d20r7]
        refine SatD.ret ?_
        rw [bad fun h => ((hval.1 h).2 y hcc).1 (by rw [hr]; exact hc2)]
        simp [d20res]
      · rw [h2] at hc2
        have hc2 : headOk ⟨nt, nn, ns, rules⟩ ⟨rk, rh, ra, rb, rp, rg⟩ := of_decide_eq_false hc2
        refine SatD.skip ?_
        simp
        obtain ⟨k1, hk1⟩ : ∃ k1 : Bool, decide (kindOk ⟨nt, nn, ns, rules⟩ ⟨rk, rh, ra, rb, rp, rg⟩) = k1 := ⟨_, rfl⟩
        have hk0 := hk1
        have hk1 : k1 = true ↔ kindOk ⟨nt, nn, ns, rules⟩ ⟨rk, rh, ra, rb, rp, rg⟩ := by rw [← hk0, decide_eq_true_iff]
        simp only [kindOk] at hk1
        refine SatD.regSeq hΓ follows [1, 3, 4, 5] ?_
        simp [d20r8]
        refine SatD.seq ?_
        refine SatD.regSeq hΓ follows [1, 3, 4, 5, 80] ?_
        simp [d20r9]
        refine SatD.block ?_
        refine SatD.regSeq hΓ follows [1, 3, 4, 5, 80, 81] ?_
        simp [d20r10]
        refine SatD.cond rfl (fun g1 => ?_) (fun g1 => ?_)
        · have g1 : rk = 1 := by simpa using g1
          rw [if_pos g1] at hk1
          have hk2 : decide (ra = 0 ∧ rb = 0) = k1 := by cases k1 <;> simp at hk1 ⊢ <;> first | exact hk1 | omega
          refine SatD.regToN hΓ follows [(1, .v (.box [ti nt, ti nn, ti ns, .sl (rulesT rules)])), (3, .v (ti y)), (5, .v (.bool k1))] ?_ ?_
          · by_cases q1 : ra = 0
            · skip
              by_cases q2 : rb = 0
              · skip
                have : k1 = true := by rw [← hk2]; simp [q1, q2]
                simp [d20r11, q1, q2, this]
              · have : k1 = false := by rw [← hk2]; simp [q2]
                simp [d20r11, q1, q2, this]
            · have : k1 = false := by rw [← hk2]; simp [q1]
              simp [d20r11, q1, this]
          refine SatD.regSeq hΓ follows [1, 3, 150] ?_
          simp [d20r18]
          refine SatD.cond rfl (fun h5 => ?_) (fun h5 => ?_)
          · skip
            refine SatD.regSeq hΓ follows [2] ?_
            simp [d20r19]
            refine SatD.ret ?_
            rw [bad fun h => by
              have h6 := ((hval.1 h).2 y hcc).2
              rw [hr] at h6
              rw [decide_eq_true h6] at hk0
              simp_all]
            simp [d20res]
          · skip
            refine SatD.skip ?_
            simp
            have hk1 : kindOk ⟨nt, nn, ns, rules⟩ ⟨rk, rh, ra, rb, rp, rg⟩ := of_decide_eq_true (by rw [hk0]; simp_all)
            refine SatD.reg hΓ follows [1, 3] ?_
            simp [d20r20]
            rw [wrap_id (x := (y : Int) + 1) (by omega)]
            refine ⟨y + 1, Le.keep (o := []) ?_ ?_ ?_ ?_, ⟨by omega, fun i hi => ?_⟩, by omega⟩
            · simp
            · simp
            · simp
            · simp
            · by_cases e : i = y
              · subst e; show headOk _ (rules.getD i default) ∧ kindOk _ (rules.getD i default); rw [hr]; exact ⟨hc2, hk1⟩
              · exact hy2 i (by omega)
        · have g1 : ¬ rk = 1 := by simpa using g1
          rw [if_neg g1] at hk1
          refine SatD.regSeq hΓ follows [1, 3, 4, 5, 80, 91] ?_
          simp [d20r12]
          refine SatD.cond rfl (fun g2 => ?_) (fun g2 => ?_)
          · have g2 : rk = 2 := by simpa using g2
            rw [if_pos g2] at hk1
            have hk2 : decide (ra ≥ 0 ∧ ra < nt ∧ rb = 0) = k1 := by cases k1 <;> simp at hk1 ⊢ <;> first | exact hk1 | omega
            refine SatD.regToN hΓ follows [(1, .v (.box [ti nt, ti nn, ti ns, .sl (rulesT rules)])), (3, .v (ti y)), (5, .v (.bool k1))] ?_ ?_
            · by_cases q1 : ra ≥ 0
              · skip
                by_cases q2 : ra < nt
                · skip
                  by_cases q3 : rb = 0
                  · skip
                    have : k1 = true := by rw [← hk2]; simp [q1, q2, q3]
                    simp [d20r13, q1, q2, q3, this]
                  · have : k1 = false := by rw [← hk2]; simp [q3]
                    simp [d20r13, q1, q2, q3, this]
                · have : k1 = false := by rw [← hk2]; simp [q2]
                  simp [d20r13, q1, q2, this]
              · have : k1 = false := by rw [← hk2]; simp [q1]
                simp [d20r13, q1, this]
            refine SatD.regSeq hΓ follows [1, 3, 150] ?_
            simp [d20r18]
            refine SatD.cond rfl (fun h5 => ?_) (fun h5 => ?_)
            · skip
              refine SatD.regSeq hΓ follows [2] ?_
              simp [d20r19]
              refine SatD.ret ?_
              rw [bad fun h => by
                have h6 := ((hval.1 h).2 y hcc).2
                rw [hr] at h6
                rw [decide_eq_true h6] at hk0
                simp_all]
              simp [d20res]
            · skip
              refine SatD.skip ?_
              simp
              have hk1 : kindOk ⟨nt, nn, ns, rules⟩ ⟨rk, rh, ra, rb, rp, rg⟩ := of_decide_eq_true (by rw [hk0]; simp_all)
              refine SatD.reg hΓ follows [1, 3] ?_
              simp [d20r20]
              rw [wrap_id (x := (y : Int) + 1) (by omega)]
              refine ⟨y + 1, Le.keep (o := []) ?_ ?_ ?_ ?_, ⟨by omega, fun i hi => ?_⟩, by omega⟩
              · simp
              · simp
              · simp
              · simp
              · by_cases e : i = y
                · subst e; show headOk _ (rules.getD i default) ∧ kindOk _ (rules.getD i default); rw [hr]; exact ⟨hc2, hk1⟩
                · exact hy2 i (by omega)
          · have g2 : ¬ rk = 2 := by simpa using g2
            rw [if_neg g2] at hk1
            refine SatD.regSeq hΓ follows [1, 3, 4, 5, 80, 108] ?_
            simp [d20r14]
            refine SatD.cond rfl (fun g3 => ?_) (fun g3 => ?_)
            · have g3 : rk = 3 := by simpa using g3
              rw [if_pos g3] at hk1
              have hk2 : decide (ra ≥ 0 ∧ ra < nn ∧ rb = 0) = k1 := by cases k1 <;> simp at hk1 ⊢ <;> first | exact hk1 | omega
              refine SatD.regToN hΓ follows [(1, .v (.box [ti nt, ti nn, ti ns, .sl (rulesT rules)])), (3, .v (ti y)), (5, .v (.bool k1))] ?_ ?_
              · by_cases q1 : ra ≥ 0
                · skip
                  by_cases q2 : ra < nn
                  · skip
                    by_cases q3 : rb = 0
                    · skip
                      have : k1 = true := by rw [← hk2]; simp [q1, q2, q3]
                      simp [d20r15, q1, q2, q3, this]
                    · have : k1 = false := by rw [← hk2]; simp [q3]
                      simp [d20r15, q1, q2, q3, this]
                  · have : k1 = false := by rw [← hk2]; simp [q2]
                    simp [d20r15, q1, q2, this]
                · have : k1 = false := by rw [← hk2]; simp [q1]
                  simp [d20r15, q1, this]
              refine SatD.regSeq hΓ follows [1, 3, 150] ?_
              simp [d20r18]
              refine SatD.cond rfl (fun h5 => ?_) (fun h5 => ?_)
              · skip
                refine SatD.regSeq hΓ follows [2] ?_
                simp [d20r19]
                refine SatD.ret ?_
                rw [bad fun h => by
                  have h6 := ((hval.1 h).2 y hcc).2
                  rw [hr] at h6
                  rw [decide_eq_true h6] at hk0
                  simp_all]
                simp [d20res]
              · skip
                refine SatD.skip ?_
                simp
                have hk1 : kindOk ⟨nt, nn, ns, rules⟩ ⟨rk, rh, ra, rb, rp, rg⟩ := of_decide_eq_true (by rw [hk0]; simp_all)
                refine SatD.reg hΓ follows [1, 3] ?_
                simp [d20r20]
                rw [wrap_id (x := (y : Int) + 1) (by omega)]
                refine ⟨y + 1, Le.keep (o := []) ?_ ?_ ?_ ?_, ⟨by omega, fun i hi => ?_⟩, by omega⟩
                · simp
                · simp
                · simp
                · simp
                · by_cases e : i = y
                  · subst e; show headOk _ (rules.getD i default) ∧ kindOk _ (rules.getD i default); rw [hr]; exact ⟨hc2, hk1⟩
                  · exact hy2 i (by omega)
            · have g3 : ¬ rk = 3 := by simpa using g3
              rw [if_neg g3] at hk1
              refine SatD.regSeq hΓ follows [1, 3, 4, 5, 125] ?_
              simp [d20r16]
              refine SatD.cond rfl (fun g4 => ?_) (fun g4 => ?_)
              · have g4 : rk = 4 := by simpa using g4
                rw [if_pos g4] at hk1
                have hk2 : decide (ra ≥ 0 ∧ ra < nn ∧ rb ≥ 0 ∧ rb < nn) = k1 := by cases k1 <;> simp at hk1 ⊢ <;> first | exact hk1 | omega
                refine SatD.regToN hΓ follows [(1, .v (.box [ti nt, ti nn, ti ns, .sl (rulesT rules)])), (3, .v (ti y)), (5, .v (.bool k1))] ?_ ?_
                · by_cases q1 : ra ≥ 0
                  · skip
                    by_cases q2 : ra < nn
                    · skip
                      by_cases q3 : rb ≥ 0
                      · skip
                        by_cases q4 : rb < nn
                        · skip
                          have : k1 = true := by rw [← hk2]; simp [q1, q2, q3, q4]
                          simp [d20r17, q1, q2, q3, q4, this]
                        · have : k1 = false := by rw [← hk2]; simp [q4]
                          simp [d20r17, q1, q2, q3, q4, this]
                      · have : k1 = false := by rw [← hk2]; simp [q3]
                        simp [d20r17, q1, q2, q3, this]
                    · have : k1 = false := by rw [← hk2]; simp [q2]
                      simp [d20r17, q1, q2, this]
                  · have : k1 = false := by rw [← hk2]; simp [q1]
                    simp [d20r17, q1, this]
                refine SatD.regSeq hΓ follows [1, 3, 150] ?_
                simp [d20r18]
                refine SatD.cond rfl (fun h5 => ?_) (fun h5 => ?_)
                · skip
                  refine SatD.regSeq hΓ follows [2] ?_
                  simp [d20r19]
                  refine SatD.ret ?_
                  rw [bad fun h => by
                    have h6 := ((hval.1 h).2 y hcc).2
                    rw [hr] at h6
                    rw [decide_eq_true h6] at hk0
                    simp_all]
                  simp [d20res]
                · skip
                  refine SatD.skip ?_
                  simp
                  have hk1 : kindOk ⟨nt, nn, ns, rules⟩ ⟨rk, rh, ra, rb, rp, rg⟩ := of_decide_eq_true (by rw [hk0]; simp_all)
                  refine SatD.reg hΓ follows [1, 3] ?_
                  simp [d20r20]
                  rw [wrap_id (x := (y : Int) + 1) (by omega)]
                  refine ⟨y + 1, Le.keep (o := []) ?_ ?_ ?_ ?_, ⟨by omega, fun i hi => ?_⟩, by omega⟩
                  · simp
                  · simp
                  · simp
                  · simp
                  · by_cases e : i = y
                    · subst e; show headOk _ (rules.getD i default) ∧ kindOk _ (rules.getD i default); rw [hr]; exact ⟨hc2, hk1⟩
                    · exact hy2 i (by omega)
              · have g4 : ¬ rk = 4 := by simpa using g4
                rw [if_neg g4] at hk1
                have hk2 : k1 = false := by cases k1 <;> simp at hk1 ⊢
                rw [hk2] at hk0
                refine SatD.skip ?_
                simp
                refine SatD.regSeq hΓ follows [1, 3, 150] ?_
                simp [d20r18]
                refine SatD.cond rfl (fun h5 => ?_) (fun h5 => ?_)
                · skip
                  refine SatD.regSeq hΓ follows [2] ?_
                  simp [d20r19]
                  refine SatD.ret ?_
                  rw [bad fun h => by
                    have h6 := ((hval.1 h).2 y hcc).2
                    rw [hr] at h6
                    rw [decide_eq_true h6] at hk0
                    simp_all]
                  simp [d20res]
                · skip
                  refine SatD.skip ?_
                  simp
                  have hk1 : kindOk ⟨nt, nn, ns, rules⟩ ⟨rk, rh, ra, rb, rp, rg⟩ := of_decide_eq_true (by rw [hk0]; simp_all)
                  refine SatD.reg hΓ follows [1, 3] ?_
                  simp [d20r20]
                  rw [wrap_id (x := (y : Int) + 1) (by omega)]
                  refine ⟨y + 1, Le.keep (o := []) ?_ ?_ ?_ ?_, ⟨by omega, fun i hi => ?_⟩, by omega⟩
                  · simp
                  · simp
                  · simp
                  · simp
                  · by_cases e : i = y
                    · subst e; show headOk _ (rules.getD i default) ∧ kindOk _ (rules.getD i default); rw [hr]; exact ⟨hc2, hk1⟩
                    · exact hy2 i (by omega)
    · have hy3 : y = rules.length := by simp at hcc; omega
      subst hy3
      refine SatD.exit ?_
      simp
      refine SatD.regSeq hΓ follows [2] ?_
      simp [d20r21]
      refine SatD.ret ?_
      have : v = true := by rw [← hv]; exact decide_eq_true (hval.2 ⟨hc1, hy2⟩)
      rw [this]
      simp [d20res]
end Inc
end Go.Proofs
/- The insertion hypergraph and its values: Tails, Graph, Prices, Solve, Values, Moderate. Conditions: none. -/
namespace Go.Proofs
namespace Inc
open Go.DM
set_option linter.unusedSimpArgs false
set_option linter.unusedVariables false

structure HEdge where
  head : Int
  tails : List Int
  (cost l0 l1 : Int)
  deriving DecidableEq, Inhabited
def HEdge.enc (e : HEdge) : List T := [ti e.head, .sl (intsT e.tails), ti e.cost, ti e.l0, ti e.l1]
def hedgesT (l : List HEdge) : List (List T) := l.map HEdge.enc
def decHE : List T → HEdge
  | [a, .sl b, c, d, e] => ⟨unti a, decInts b, unti c, unti d, unti e⟩
  | _ => default
def decHEs (l : List (List T)) : List HEdge := l.map decHE
@[simp] theorem decHE_enc (r : HEdge) : decHE r.enc = r := by simp [decHE, HEdge.enc, unti]
@[simp] theorem decHEs_enc (l : List HEdge) : decHEs (hedgesT l) = l := map_map_id decHE_enc l
@[simp] theorem hedgesT_len (l : List HEdge) : (hedgesT l).length = l.length := by simp [hedgesT]
@[simp] theorem hedgesT_inj {a b : List HEdge} : hedgesT a = hedgesT b ↔ a = b := ⟨fun h => by have := congrArg decHEs h; simpa using this, fun h => by rw [h]⟩
theorem rowAt_hedges {l : List HEdge} {y : Nat} (h : y < l.length) : DM.rowAt (hedgesT l) y = (l.getD y default).enc := by simp [DM.rowAt, hedgesT, h]
def tailsR (r : Rule) : List Int := if r.kind = 3 then [r.a] else if r.kind = 4 then [r.a, r.b] else []
set_option maxRecDepth 20000 in
set_option maxHeartbeats 8000000 in
theorem t93 (r : Rule) : CallsOk Tryz.prog 93 [.agg r.enc] (.sl (intsT (tailsR r))) := by
  obtain ⟨rk, rh, ra, rb, rp, rg⟩ := r
  obtain ⟨R, hR⟩ : ∃ R, tailsR ⟨rk, rh, ra, rb, rp, rg⟩ = R := ⟨_, rfl⟩
  rw [hR]
  simp only [tailsR] at hR
  have hΓ := ok0
  refine c93.ok (by simp) (initSt_sat ?_)
  simp [Rule.enc]
  refine SatD.regSeq hΓ follows [1] ?_
  simp [d93r0]
  refine SatD.le (Le.keep (o := []) (l := [(1, .v (.box [ti rk, ti rh, ti ra, ti rb, ti rp, ti rg]))]) (nxt' := 1200) ?_ ?_ ?_ ?_) ?_
  · simp
  · simp
  · simp
  · simp
  refine SatD.seq ?_
  refine SatD.regSeq hΓ follows [1, 4] ?_
  simp [d93r1]
  refine SatD.block ?_
  refine SatD.regSeq hΓ follows [1, 4, 5] ?_
  simp [d93r2]
  refine SatD.cond rfl (fun h1 => ?_) (fun h1 => ?_)
  · have h1 : rk = 3 := by simpa using h1
    rw [if_pos h1] at hR
    subst hR
    refine SatD.regSeq hΓ follows [2] ?_
    simp [d93r3, chunk]
    refine SatD.ret ?_
    simp [d93res, intsT]
  · have h1 : ¬ rk = 3 := by simpa using h1
    rw [if_neg h1] at hR
    refine SatD.regSeq hΓ follows [1, 10] ?_
    simp [d93r4]
    refine SatD.cond rfl (fun h2 => ?_) (fun h2 => ?_)
    · have h2 : rk = 4 := by simpa using h2
      rw [if_pos h2] at hR
      subst hR
      refine SatD.regSeq hΓ follows [2] ?_
      simp [d93r5, chunk]
      refine SatD.ret ?_
      simp [d93res, intsT]
    · have h2 : ¬ rk = 4 := by simpa using h2
      rw [if_neg h2] at hR
      subst hR
      refine SatD.skip ?_
      simp
      refine SatD.regSeq hΓ follows [2] ?_
      simp [d93r6]
      refine SatD.ret ?_
      simp [d93res, intsT]

def tailsV (v : List Val) (ts : List Int) : List Val := ts.map fun t => v.getD t.toNat default
set_option maxRecDepth 20000 in
set_option maxHeartbeats 8000000 in
theorem t91 (e : HEdge) (v : List Val) (h : ∀ t ∈ e.tails, 0 ≤ t ∧ t < v.length) (hl : e.tails.length ≤ 1000000) : CallsF Tryz.prog 91 [.agg e.enc, .sl (valsT v)] 55 2 (valsT (tailsV v e.tails)) := by
  obtain ⟨eh, ts, ec, e0, e1⟩ := e
  simp only at h hl
  have hΓ := ok0
  refine c91.okF (by simp) (initSt_sat ?_)
  simp [HEdge.enc]
  refine SatD.regSeq hΓ follows [1, 2] ?_
  simp [d91r0]
  refine SatD.le (Le.keep (o := []) (l := [(1, .v (.sl (valsT v))), (2, .v (.box [ti eh, .sl (intsT ts), ti ec, ti e0, ti e1]))]) (nxt' := 1200) ?_ ?_ ?_ ?_) ?_
  · simp
  · simp
  · simp
  · simp
  refine SatD.regSeq hΓ follows [1, 2, 5] ?_
  simp [d91r1]
  refine SatD.le (Le.keep (o := []) (l := [(1, .v (.sl (valsT v))), (2, .v (.box [ti eh, .sl (intsT ts), ti ec, ti e0, ti e1])), (5, .nil0)]) (nxt' := 1400) ?_ ?_ ?_ ?_) ?_
  · simp
  · simp
  · simp
  · simp
  refine SatD.le (Le.nilSlot (k := 5) 55 (sz := 2) (by omega) (by simp)) ?_
  rw [obs_setO]
  refine SatD.seq ?_
  refine SatD.regSeq hΓ follows [1, 2, 5, 6] ?_
  simp [d91r2]
  refine SatD.block ?_
  refine SatD.loop (fun y : Nat => ⟨DM.look [(1, .v (.sl (valsT v))), (2, .v (.box [ti eh, .sl (intsT ts), ti ec, ti e0, ti e1])), (5, .aref 1400 0), (6, .v (ti y))], obs [(1400, .arr 0 55 2 (valsT (tailsV v (ts.take y))))], 1600, 1000, []⟩)
    (fun y => y ≤ ts.length) (fun y => ts.length - y) 0 (Le.keep ?_ ?_ ?_ ?_) (by simp) (fun y hy => ?_)
  · simp
  · simp
  · simp [tailsV]
  · simp
  refine SatD.seq ?_
  refine SatD.regSeq hΓ follows [1, 2, 5, 6, 11] ?_
  simp [d91r3]
  refine SatD.cond rfl (fun hcc => ?_) (fun hcc => ?_)
  · have hcc : y < ts.length := by simpa using hcc
    refine SatD.skip ?_
    simp
    refine SatD.seq ?_
    refine SatD.block ?_
    have rt := rowAt_ints hcc
    obtain ⟨t, ht⟩ : ∃ t, ts.getD y default = t := ⟨_, rfl⟩
    rw [ht] at rt
    obtain ⟨q1, q2⟩ := h t (by rw [← ht]; exact getD_mem hcc)
    obtain ⟨t, rfl⟩ := Int.eq_ofNat_of_zero_le q1
    have q2 : t < v.length := by omega
    have rv := rowAt_vals q2
    obtain ⟨w, hw⟩ : ∃ w, v.getD t default = w := ⟨_, rfl⟩
    rw [hw] at rv
    have hS : valsT (tailsV v (ts.take (y + 1))) = valsT (tailsV v (ts.take y)) ++ [[ti w.cost, ti w.size]] := by
      rw [take_succ_getD hcc, ht]
      simp only [tailsV, List.map_append, List.map_cons, List.map_nil, Int.toNat_natCast, hw, valsT]
    have hTl : (tailsV v (ts.take y)).length ≤ 1000000 := by simp [tailsV]; omega
    refine SatD.reg hΓ follows [1, 2, 5, 6] ?_
    simp [d91r4, hcc, rt, q2, rv, roomOk, chunk]
    repeat (refine ⟨by omega, ?_⟩)
    refine SatD.reg hΓ follows [1, 2, 5, 6] ?_
    simp [d91r5]
    rw [wrap_id (x := (y : Int) + 1) (by omega)]
    refine ⟨y + 1, Le.keep ?_ ?_ ?_ ?_, by omega, by omega⟩
    · simp
    · simp
    · simp [hS]
    · simp
  · have hy2 : y = ts.length := by simp at hcc; omega
    subst hy2
    rw [List.take_length]
    refine SatD.exit ?_
    simp
    refine SatD.regSeq hΓ follows [4] ?_
    simp [d91r6]
    refine SatD.ret ?_
    exact .inr ⟨1400, 0, by simp, by simp⟩

def insP (ins : List Int) (i : Nat) : Prop := ¬ (ins.getD i default < 1 ∨ ins.getD i default > 60000)
instance (ins : List Int) (i : Nat) : Decidable (insP ins i) := by unfold insP; infer_instance
def pricesP (n : Normal) (ins : List Int) : Prop := (ins.length : Int) = n.terms ∧ ∀ i, i < ins.length → insP ins i
instance (n : Normal) (ins : List Int) : Decidable (pricesP n ins) := by unfold pricesP; infer_instance
set_option maxRecDepth 20000 in
set_option maxHeartbeats 8000000 in
theorem t44 (n : Normal) (ins : List Int) (hl : ins.length ≤ 9223372036854775807) : CallsOk Tryz.prog 44 [n.enc, .sl (intsT ins)] (.bool (decide (pricesP n ins))) := by
  obtain ⟨nt, nn, ns, rules⟩ := n
  obtain ⟨v, hv⟩ : ∃ v, decide (pricesP ⟨nt, nn, ns, rules⟩ ins) = v := ⟨_, rfl⟩
  rw [hv]
  have hval : pricesP ⟨nt, nn, ns, rules⟩ ins ↔ (ins.length : Int) = nt ∧ ∀ i, i < ins.length → insP ins i := Iff.rfl
  have bad : ¬ pricesP ⟨nt, nn, ns, rules⟩ ins → v = false := fun h => by rw [← hv]; simp [h]
  have hΓ := ok0
  refine c44.ok (by simp) (initSt_sat ?_)
  simp [Normal.enc]
  refine SatD.regSeq hΓ follows [1, 2] ?_
  simp [d44r0]
  refine SatD.le (Le.keep (o := []) (l := [(1, .v (.sl (intsT ins))), (2, .v (.box [ti nt, ti nn, ti ns, .sl (rulesT rules)]))]) (nxt' := 1200) ?_ ?_ ?_ ?_) ?_
  · simp
  · simp
  · simp
  · simp
  refine SatD.seq ?_
  refine SatD.regSeq hΓ follows [1, 10] ?_
  simp [d44r1]
  refine SatD.cond rfl (fun h1 => ?_) (fun h1 => ?_)
  · have h1 : ¬ (ins.length : Int) = nt := by simpa using h1
    refine SatD.regSeq hΓ follows [4] ?_
    simp [d44r2]
    refine SatD.ret ?_
    rw [bad fun h => h1 (hval.1 h).1]
    simp [d44res]
  · have h1 : (ins.length : Int) = nt := by simpa using h1
    refine SatD.skip ?_
    simp
    refine SatD.seq ?_
    refine SatD.regSeq hΓ follows [1, 5] ?_
    simp [d44r3]
    refine SatD.block ?_
    refine SatD.loop (fun y : Nat => ⟨DM.look [(1, .v (.sl (intsT ins))), (5, .v (ti y))], obs [], 2000, 1000, []⟩)
      (fun y => y ≤ ins.length ∧ ∀ i, i < y → insP ins i) (fun y => ins.length - y) 0 (Le.keep (o := []) ?_ ?_ ?_ ?_) (by simp) (fun y hy => ?_)
    · simp
    · simp
    · simp
    · simp
    obtain ⟨hy1, hy2⟩ := hy
    refine SatD.seq ?_
    refine SatD.regSeq hΓ follows [1, 5, 14] ?_
    simp [d44r4]
    refine SatD.cond rfl (fun hcc => ?_) (fun hcc => ?_)
    · have hcc : y < ins.length := by simpa using hcc
      refine SatD.skip ?_
      simp
      refine SatD.seq ?_
      refine SatD.block ?_
      have rr := rowAt_ints hcc
      obtain ⟨x, hx⟩ : ∃ x, ins.getD y default = x := ⟨_, rfl⟩
      rw [hx] at rr
      obtain ⟨c2, hc2⟩ : ∃ c2 : Bool, decide (x < 1 ∨ x > 60000) = c2 := ⟨_, rfl⟩
      refine SatD.regToS hΓ follows [(1, .v (.sl (intsT ins))), (5, .v (ti y)), (28, .v (.bool c2))] ?_ ?_
      · by_cases q1 : x < 1
        · have : c2 = true := by rw [← hc2]; simp [q1]
          simp [d44r5, q1, this, hcc, rr]
        · skip
          by_cases q2 : x > 60000
          · have : c2 = true := by rw [← hc2]; simp [q2]
            simp [d44r5, q1, q2, this, hcc, rr]
          · skip
            have : c2 = false := by rw [← hc2]; simp [q1, q2]
            simp [d44r5, q1, q2, this, hcc, rr]
      refine SatD.cond rfl (fun h2 => ?_) (fun h2 => ?_)
      · rw [h2] at hc2
        have hc2 := of_decide_eq_true hc2
        refine SatD.regSeq hΓ follows [4] ?_
        simp [d44r6]
        refine SatD.ret ?_
        rw [bad fun h => by have := (hval.1 h).2 y hcc; unfold insP at this; rw [hx] at this; exact this hc2]
        simp [d44res]
      · rw [h2] at hc2
        have hc2 := of_decide_eq_false hc2
        refine SatD.skip ?_
        simp
        refine SatD.reg hΓ follows [1, 5] ?_
        simp [d44r7]
        rw [wrap_id (x := (y : Int) + 1) (by omega)]
        refine ⟨y + 1, Le.keep (o := []) ?_ ?_ ?_ ?_, ⟨by omega, fun i hi => ?_⟩, by omega⟩
        · simp
        · simp
        · simp
        · simp
        · by_cases e : i = y
          · subst e; unfold insP; rw [hx]; exact hc2
          · exact hy2 i (by omega)
    · have hy3 : y = ins.length := by simp at hcc; omega
      subst hy3
      refine SatD.exit ?_
      simp
      refine SatD.regSeq hΓ follows [4] ?_
      simp [d44r8]
      refine SatD.ret ?_
      have : v = true := by rw [← hv]; exact decide_eq_true (hval.2 ⟨h1, hy2⟩)
      rw [this]
      simp [d44res]

def edgeR (ins : List Int) (r : Rule) : HEdge := ⟨r.head, tailsR r, if r.kind = 2 then r.price + ins.getD r.a.toNat default else r.price, 0, 0⟩
def graphE (n : Normal) (ins : List Int) : List HEdge := n.rules.map (edgeR ins)
abbrev s93 : DM.Spec := specP (fun ts => ∃ a b c d e f, ts = [.agg [ti a, ti b, ti c, ti d, ti e, ti f]]) (fun | [.agg r] => .sl (intsT (tailsR (decRule r))) | _ => .bool false) false
theorem ok93 : EnvOk Tryz.prog (envOf [(93, s93)]) := by
  refine EnvOk.cons EnvOk.nil ?_
  rintro ts ⟨a, b, c, d, e, f, rfl⟩
  exact ⟨by simpa [Rule.enc, decRule, unti] using t93 ⟨a, b, c, d, e, f⟩, fun h => by cases h⟩
theorem tailsR_len (r : Rule) : (tailsR r).length ≤ 2 := by unfold tailsR; split <;> (try split) <;> simp
set_option maxRecDepth 20000 in
set_option maxHeartbeats 8000000 in
theorem t67 (n : Normal) (ins : List Int) (hn : nOk n) (hp : pricesP n ins) : CallsOk Tryz.prog 67 [n.enc, .sl (intsT ins)] (.agg [ti n.nonterms, .sl (hedgesT (graphE n ins))]) := by
  obtain ⟨nt, nn, ns, rules⟩ := n
  obtain ⟨n1, n2, n3, n4⟩ := hn
  obtain ⟨p1, p2⟩ := hp
  simp only [graphE] at n1 n2 n3 n4 p1 p2 ⊢
  have hΓ := ok93
  refine c67.ok (by simp) (initSt_sat ?_)
  simp [Normal.enc]
  refine SatD.regSeq hΓ follows [1, 2, 4] ?_
  simp [d67r0]
  refine SatD.le (Le.keep (o := [(1005, .box [.v (ti 0), .nil0])]) (l := [(1, .v (.sl (intsT ins))), (2, .v (.box [ti nt, ti nn, ti ns, .sl (rulesT rules)])), (4, .ptr 1005 0)]) (nxt' := 1200) ?_ ?_ ?_ ?_) ?_
  · simp
  · simp
  · simp
  · simp
  refine SatD.regSeq hΓ follows [1, 2, 4, 5] ?_
  simp [d67r1]
  refine SatD.le (Le.keep (o := [(1005, .box [.v (ti 0), .nil0])]) (l := [(1, .v (.sl (intsT ins))), (2, .v (.box [ti nt, ti nn, ti ns, .sl (rulesT rules)])), (4, .ptr 1005 0), (5, .nil0)]) (nxt' := 1400) ?_ ?_ ?_ ?_) ?_
  · simp
  · simp
  · simp
  · simp
  refine SatD.le (Le.nilSlot (k := 5) 156 (sz := 5) (by omega) (by simp)) ?_
  rw [obs_setO]
  refine SatD.seq ?_
  refine SatD.regSeq hΓ follows [1, 2, 4, 5, 6] ?_
  simp [d67r2]
  refine SatD.block ?_
  refine SatD.loop (fun y : Nat => ⟨DM.look [(1, .v (.sl (intsT ins))), (2, .v (.box [ti nt, ti nn, ti ns, .sl (rulesT rules)])), (4, .ptr 1005 0), (5, .aref 1400 0), (6, .v (ti y))], obs [(1005, .box [.v (ti 0), .nil0]), (1400, .arr 0 156 5 (hedgesT ((rules.take y).map (edgeR ins))))], 1600, 1000, []⟩)
    (fun y => y ≤ rules.length) (fun y => rules.length - y) 0 (Le.keep ?_ ?_ ?_ ?_) (by simp) (fun y hy => ?_)
  · simp
  · simp
  · simp [hedgesT]
  · simp
  refine SatD.seq ?_
  refine SatD.regSeq hΓ follows [1, 2, 4, 5, 6, 13] ?_
  simp [d67r3]
  refine SatD.cond rfl (fun hcc => ?_) (fun hcc => ?_)
  · have hcc : y < rules.length := by simpa using hcc
    refine SatD.skip ?_
    simp
    refine SatD.seq ?_
    refine SatD.block ?_
    have rr := rowAt_rules hcc
    obtain ⟨⟨rk, rh, ra, rb, rp, rg⟩, hr⟩ : ∃ r, rules.getD y default = r := ⟨_, rfl⟩
    rw [hr] at rr
    have hro := n4 ⟨rk, rh, ra, rb, rp, rg⟩ (by rw [← hr]; exact getD_mem hcc)
    obtain ⟨q1, q2, q3, q4, q5⟩ := hro
    simp only at q1 q2 q3 q4 q5
    refine SatD.regSeq hΓ follows [1, 2, 4, 5, 6, 7] ?_
    simp [d67r4, hcc, rr, Rule.enc]
    refine SatD.le (Le.keep (o := [(1005, .box [.v (ti 0), .nil0]), (1400, .arr 0 156 5 (hedgesT ((rules.take y).map (edgeR ins))))]) (l := [(1, .v (.sl (intsT ins))), (2, .v (.box [ti nt, ti nn, ti ns, .sl (rulesT rules)])), (4, .ptr 1005 0), (5, .aref 1400 0), (6, .v (ti y)), (7, .v (.box [ti rk, ti rh, ti ra, ti rb, ti rp, ti rg]))]) (nxt' := 2400) ?_ ?_ ?_ ?_) ?_
    · simp
    · simp
    · simp
    · simp
    refine SatD.regSeq hΓ follows [1, 2, 4, 5, 6, 7, 8] ?_
    simp [d67r5]
    refine SatD.seq ?_
    refine SatD.regSeq hΓ follows [1, 2, 4, 5, 6, 7, 8, 25] ?_
    simp [d67r6]
    refine SatD.cond rfl (fun h6 => ?_) (fun h6 => ?_)
    · have h6 : rk = 2 := by simpa using h6
      have hra : 0 ≤ ra ∧ ra < ins.length := by omega
      obtain ⟨a, rfl⟩ := Int.eq_ofNat_of_zero_le hra.1
      have hal : a < ins.length := by omega
      have ri := rowAt_ints hal
      have hpi := p2 a hal
      unfold insP at hpi
      obtain ⟨x, hx⟩ : ∃ x, ins.getD a default = x := ⟨_, rfl⟩
      rw [hx] at ri hpi
      have hE : edgeR ins ⟨rk, rh, a, rb, rp, rg⟩ = ⟨rh, tailsR ⟨rk, rh, a, rb, rp, rg⟩, rp + x, 0, 0⟩ := by unfold edgeR; simp only [if_pos h6, Int.toNat_natCast, hx]
      refine SatD.reg hΓ follows [1, 2, 4, 5, 6, 7, 8] ?_
      simp [d67r7, hal, ri, wrap_id (x := rp + x) (by omega)]
      refine SatD.reg hΓ follows [1, 2, 4, 5, 6] ?_
      simp [d67r8, decRule, unti, chunk, roomOk]
      repeat (refine ⟨by omega, ?_⟩)
      have hS : ∀ ec, edgeR ins (rules.getD y default) = ⟨rh, tailsR (rules.getD y default), ec, 0, 0⟩ → hedgesT ((rules.map (edgeR ins)).take (y + 1)) = hedgesT ((rules.map (edgeR ins)).take y) ++ [[ti rh, .sl (intsT (tailsR (rules.getD y default))), ti ec, ti 0, ti 0]] := by
        intro ec h
        rw [← List.map_take, take_succ_getD hcc, List.map_append, hedgesT, List.map_append, List.map_take]
        simp only [List.map_cons, List.map_nil, h, HEdge.enc, hedgesT]
      rw [hr] at hS
      have hS := hS _ hE
      refine SatD.reg hΓ follows [1, 2, 4, 5, 6] ?_
      simp [d67r9]
      rw [wrap_id (x := (y : Int) + 1) (by omega)]
      refine ⟨y + 1, Le.keep ?_ ?_ ?_ ?_, by omega, by omega⟩
      · simp
      · simp
      · simp [hS]
      · simp
    · have h6 : ¬ rk = 2 := by simpa using h6
      have hE : edgeR ins ⟨rk, rh, ra, rb, rp, rg⟩ = ⟨rh, tailsR ⟨rk, rh, ra, rb, rp, rg⟩, rp, 0, 0⟩ := by unfold edgeR; simp only [if_neg h6]
      refine SatD.skip ?_
      simp
      refine SatD.reg hΓ follows [1, 2, 4, 5, 6] ?_
      simp [d67r8, decRule, unti, chunk, roomOk]
      repeat (refine ⟨by omega, ?_⟩)
      have hS : ∀ ec, edgeR ins (rules.getD y default) = ⟨rh, tailsR (rules.getD y default), ec, 0, 0⟩ → hedgesT ((rules.map (edgeR ins)).take (y + 1)) = hedgesT ((rules.map (edgeR ins)).take y) ++ [[ti rh, .sl (intsT (tailsR (rules.getD y default))), ti ec, ti 0, ti 0]] := by
        intro ec h
        rw [← List.map_take, take_succ_getD hcc, List.map_append, hedgesT, List.map_append, List.map_take]
        simp only [List.map_cons, List.map_nil, h, HEdge.enc, hedgesT]
      rw [hr] at hS
      have hS := hS _ hE
      refine SatD.reg hΓ follows [1, 2, 4, 5, 6] ?_
      simp [d67r9]
      rw [wrap_id (x := (y : Int) + 1) (by omega)]
      refine ⟨y + 1, Le.keep ?_ ?_ ?_ ?_, by omega, by omega⟩
      · simp
      · simp
      · simp [hS]
      · simp
  · have hy2 : y = rules.length := by simp at hcc; omega
    subst hy2
    rw [show (rules.map (edgeR ins)).take rules.length = rules.map (edgeR ins) from List.take_of_length_le (by simp)]
    refine SatD.exit ?_
    simp
    refine SatD.regSeq hΓ follows [4] ?_
    simp [d67r10]
    refine SatD.ret ?_
    simp [d67res]
end Inc
end Go.Proofs
/- The least values of a hypergraph by iteration: Solve. Conditions: none. -/
namespace Go.Proofs
namespace Inc
open Go.DM
set_option linter.unusedSimpArgs false
set_option linter.unusedVariables false

theorem valsT_set (l : List Val) (i : Nat) (x : Val) : valsT (l.set i x) = (valsT l).set i [ti x.cost, ti x.size] := by simp [valsT, List.map_set]
theorem intsT_set (l : List Int) (i : Nat) (x : Int) : intsT (l.set i x) = (intsT l).set i [ti x] := by simp [intsT, List.map_set]
theorem set_rep {α : Type} (a b : α) {n y : Nat} (h : y < n) : (List.replicate y a ++ List.replicate (n - y) b).set y a = List.replicate (y + 1) a ++ List.replicate (n - (y + 1)) b := by
  rw [List.set_append_right _ _ (by simp)]
  simp only [List.length_replicate, Nat.sub_self]
  rw [show n - y = (n - (y + 1)) + 1 by omega, List.replicate_succ, List.set_cons_zero, List.replicate_succ' (n := y), List.append_assoc]
  rfl
def edgeOk (nd : Int) (e : HEdge) : Prop := 0 ≤ e.head ∧ e.head < nd ∧ (∀ t ∈ e.tails, 0 ≤ t ∧ t < nd) ∧ 0 ≤ e.cost ∧ e.cost ≤ 4000000000000 ∧ e.tails.length ≤ 1000000
def hOk (nd : Int) (es : List HEdge) : Prop := 0 ≤ nd ∧ nd ≤ 1000000 ∧ es.length ≤ 1000000 ∧ ∀ e ∈ es, edgeOk nd e
def vOk (nd : Int) (v : List Val) : Prop := (v.length : Int) = nd ∧ ∀ x ∈ v, okV x
def measX (x : Val) : Nat := x.cost.toNat * 2199023255552 + x.size.toNat
def measV (v : List Val) : Nat := (v.map measX).sum
theorem measV_set {own : List Val} {h : Nat} {y : Val} (hh : h < own.length) (hy : measX y < measX (own.getD h default)) : measV (own.set h y) < measV own := by
  induction own generalizing h with
  | nil => simp at hh
  | cons x own ih =>
    cases h with
    | zero => simp [measV] at hy ⊢; omega
    | succ h =>
      have := ih (h := h) (by simpa using hh) (by simpa using hy)
      simp [measV] at this ⊢
      omega
theorem lt_meas {a b : Val} (ha : okV a) (hb : okV b) (h : a.lt b) : measX a < measX b := by
  obtain ⟨a1, a2, a3, a4⟩ := ha
  obtain ⟨b1, b2, b3, b4⟩ := hb
  unfold Val.lt at h
  unfold measX
  omega
def stepE (v : List Val) (e : HEdge) : List Val := if (comb e.cost (tailsV v e.tails)).lt (v.getD e.head.toNat default) then v.set e.head.toNat (comb e.cost (tailsV v e.tails)) else v
theorem tailsV_ok {nd : Int} {v : List Val} {ts : List Int} (hv : vOk nd v) (h : ∀ t ∈ ts, 0 ≤ t ∧ t < nd) : ∀ x ∈ tailsV v ts, okV x := by
  intro x hx
  simp only [tailsV, List.mem_map] at hx
  obtain ⟨t, ht, rfl⟩ := hx
  have := h t ht
  have := hv.1
  exact hv.2 _ (getD_mem (by omega))
theorem stepE_ok {nd : Int} {v : List Val} {e : HEdge} (he : edgeOk nd e) (hv : vOk nd v) : vOk nd (stepE v e) ∧ (stepE v e = v ∨ measV (stepE v e) < measV v) := by
  obtain ⟨e1, e2, e3, e4, e5, e6⟩ := he
  have hc := comb_ok (c := e.cost) (l := tailsV v e.tails) (tailsV_ok hv e3) e4 e5
  have hh : e.head.toNat < v.length := by have := hv.1; omega
  unfold stepE
  split
  · rename_i h
    refine ⟨⟨by simpa using hv.1, fun x hx => ?_⟩, .inr (measV_set hh (lt_meas hc (hv.2 _ (getD_mem hh)) h))⟩
    rcases List.mem_or_eq_of_mem_set hx with h | rfl
    · exact hv.2 x h
    · exact hc
  · exact ⟨hv, .inl rfl⟩
def sweepE (es : List HEdge) (v : List Val) (y : Nat) : List Val := (List.range y).foldl (fun v k => stepE v (es.getD k default)) v
theorem sweepE_succ (es : List HEdge) (v : List Val) (y : Nat) : sweepE es v (y + 1) = stepE (sweepE es v y) (es.getD y default) := by simp [sweepE, List.range_succ, List.foldl_append]
theorem sweepE_ok {nd : Int} {es : List HEdge} (hh : hOk nd es) {v : List Val} (hv : vOk nd v) : ∀ y, y ≤ es.length → vOk nd (sweepE es v y) ∧ (sweepE es v y = v ∨ measV (sweepE es v y) < measV v)
  | 0, _ => ⟨hv, .inl rfl⟩
  | y + 1, hy => by
    obtain ⟨h1, h2⟩ := sweepE_ok hh hv y (by omega)
    obtain ⟨h3, h4⟩ := stepE_ok (hh.2.2.2 _ (getD_mem (l := es) (i := y) (by omega))) h1
    rw [sweepE_succ]
    refine ⟨h3, ?_⟩
    rcases h4 with e | h4
    · rw [e]; exact h2
    · rcases h2 with e | h2
      · rw [e] at h4 ⊢; exact .inr h4
      · exact .inr (by omega)
def solveI (es : List HEdge) : Nat → List Val → List Val
  | 0, v => v
  | f + 1, v => if sweepE es v es.length = v then v else solveI es f (sweepE es v es.length)
theorem solve_next {es : List HEdge} {v : List Val} {f : Nat} {R : List Val} (hs : sweepE es v es.length = v ∨ measV (sweepE es v es.length) < measV v) (h1 : measV v < f) (h2 : solveI es f v = R) :
    (sweepE es v es.length ≠ v → measV (sweepE es v es.length) < measV v ∧ ∃ f, measV (sweepE es v es.length) < f ∧ solveI es f (sweepE es v es.length) = R) ∧ (sweepE es v es.length = v → v = R) := by
  cases f with
  | zero => omega
  | succ f =>
    unfold solveI at h2
    refine ⟨fun hne => ?_, fun e => ?_⟩
    · rw [if_neg hne] at h2
      have := hs.resolve_left hne
      exact ⟨this, f, by omega, h2⟩
    · rwa [if_pos e] at h2
def val0 (nd : Int) : List Val := List.replicate nd.toNat ⟨1099511627776, 0⟩
def solveV (nd : Int) (es : List HEdge) : List Val := solveI es (measV (val0 nd) + 1) (val0 nd)
theorem solveI_ok {nd : Int} {es : List HEdge} (hh : hOk nd es) : ∀ f v, measV v < f → vOk nd v → vOk nd (solveI es f v)
  | 0, v, h, _ => by omega
  | f + 1, v, h, hv => by
    obtain ⟨h1, h2⟩ := sweepE_ok hh hv es.length (Nat.le_refl _)
    unfold solveI
    split
    · exact hv
    · rename_i hne
      exact solveI_ok hh f _ (by have := h2.resolve_left hne; omega) h1
theorem val0_ok {nd : Int} {es : List HEdge} (hh : hOk nd es) : vOk nd (val0 nd) := by
  refine ⟨by have := hh.1; simp only [val0, List.length_replicate]; omega, fun x hx => ?_⟩
  rw [List.eq_of_mem_replicate hx]
  simp [okV]
theorem solveV_ok {nd : Int} {es : List HEdge} (hh : hOk nd es) : vOk nd (solveV nd es) := solveI_ok hh _ _ (by omega) (val0_ok hh)
/-- Which edge is chosen: one more is looked at, from the end. -/
def stepG (es : List HEdge) (v : List Val) (g : List Int) (j : Nat) : List Int :=
  if (v.getD (es.getD (es.length - 1 - j) default).head.toNat default).cost < 1099511627776 ∧ comb (es.getD (es.length - 1 - j) default).cost (tailsV v (es.getD (es.length - 1 - j) default).tails) = v.getD (es.getD (es.length - 1 - j) default).head.toNat default then g.set (es.getD (es.length - 1 - j) default).head.toNat ((es.length - 1 - j : Nat) : Int) else g
def backG (es : List HEdge) (v : List Val) (nd : Int) (j : Nat) : List Int := (List.range j).foldl (stepG es v) (List.replicate nd.toNat (-1))
theorem backG_succ (es : List HEdge) (v : List Val) (nd : Int) (y : Nat) : backG es v nd (y + 1) = stepG es v (backG es v nd y) y := by simp [backG, List.range_succ, List.foldl_append]
theorem backG_len (es : List HEdge) (v : List Val) {nd : Int} (h : 0 ≤ nd) (y : Nat) : ((backG es v nd y).length : Int) = nd := by
  induction y with
  | zero => simp [backG]; omega
  | succ y ih =>
    rw [backG_succ]
    unfold stepG
    split
    · simpa using ih
    · exact ih
structure VM where
  v : List Val
  more : Bool
abbrev s91 : DM.Spec := specL (fun ts => ∃ a b c d e v, ts = [.agg [ti a, .sl (intsT b), ti c, ti d, ti e], .sl (valsT v)] ∧ (∀ t ∈ b, 0 ≤ t ∧ t < v.length) ∧ b.length ≤ 1000000) (fun | [.agg [_, .sl b, _, _, _], .sl v] => valsT (tailsV (decVals v) (decInts b)) | _ => []) 55 2
theorem scalar_vals (l : List Val) : scalarT.scalarTs (valsT l).flatten = true := by
  induction l with
  | nil => rfl
  | cons x l ih => simpa [valsT, scalarT.scalarTs, scalarT] using ih
theorem okSo : EnvOk Tryz.prog (envOf [(91, s91), (69, s69), (92, s92)]) := by
  refine EnvOk.consL (EnvOk.cons (EnvOk.cons EnvOk.nil ?_) ?_) ?_
  · rintro ts ⟨a, b, c, d, rfl⟩
    exact ⟨t92 ⟨a, b⟩ ⟨c, d⟩, fun _ => rfl⟩
  · rintro ts ⟨c, l, rfl, h1, h2, h3, h4⟩
    exact ⟨by simpa using t69 c l h1 h2 h3 h4, fun _ => rfl⟩
  · rintro ts ⟨a, b, c, d, e, v, rfl, h1, h2⟩
    exact ⟨by simpa [HEdge.enc] using t91 ⟨a, b, c, d, e⟩ v h1 h2, scalar_vals _⟩
set_option maxRecDepth 20000 in
set_option maxHeartbeats 8000000 in
theorem t66 (nd : Int) (es : List HEdge) (hh : hOk nd es) : CallsOk Tryz.prog 66 [.agg [ti nd, .sl (hedgesT es)]] (.tup [.sl (valsT (solveV nd es)), .sl (intsT (backG es (solveV nd es) nd es.length))]) := by
  obtain ⟨R, hR⟩ : ∃ R, solveV nd es = R := ⟨_, rfl⟩
  have hRo : vOk nd R := hR ▸ solveV_ok hh
  rw [hR]
  have h0 := val0_ok hh
  have hsw := fun (v : List Val) (hv : vOk nd v) => sweepE_ok hh hv
  have hst := fun (v : List Val) (hv : vOk nd v) (e : HEdge) (he : edgeOk nd e) => stepE_ok he hv
  obtain ⟨g1, g2, g3, g4⟩ := hh
  have hΓ := okSo
  refine c66.ok (by simp) (initSt_sat ?_)
  simp
  refine SatD.regSeq hΓ follows [1] ?_
  simp [d66r0]
  refine SatD.le (Le.keep (o := []) (l := [(1, .v (.box [ti nd, .sl (hedgesT es)]))]) (nxt' := 1200) ?_ ?_ ?_ ?_) ?_
  · simp
  · simp
  · simp
  · simp
  refine SatD.regSeq hΓ follows [1, 4] ?_
  simp [d66r1, and_assoc, roomOk]
  repeat (refine ⟨by omega, ?_⟩)
  refine SatD.le (Le.keep (o := [(1217, .arr 0 55 2 (valsT ((List.replicate nd.toNat (⟨0, 0⟩ : Val)))))]) (l := [(1, .v (.box [ti nd, .sl (hedgesT es)])), (4, .aref 1217 0)]) (nxt' := 1400) ?_ ?_ ?_ ?_) ?_
  · simp
  · simp
  · simp [valsT]
  · simp
  refine SatD.regSeq hΓ follows [1, 4, 5] ?_
  simp [d66r2, and_assoc, roomOk]
  repeat (refine ⟨by omega, ?_⟩)
  refine SatD.le (Le.keep (o := [(1217, .arr 0 55 2 (valsT ((List.replicate nd.toNat (⟨0, 0⟩ : Val))))), (1420, .arr 0 3 1 (intsT (List.replicate nd.toNat 0)))]) (l := [(1, .v (.box [ti nd, .sl (hedgesT es)])), (4, .aref 1217 0), (5, .aref 1420 0)]) (nxt' := 1600) ?_ ?_ ?_ ?_) ?_
  · simp
  · simp
  · simp [valsT, intsT]
  · simp
  refine SatD.seq ?_
  refine SatD.regSeq hΓ follows [1, 4, 5, 6] ?_
  simp [d66r3]
  refine SatD.block ?_
  refine SatD.loop (fun y : Nat => ⟨DM.look [(1, .v (.box [ti nd, .sl (hedgesT es)])), (4, .aref 1217 0), (5, .aref 1420 0), (6, .v (ti y))], obs [(1217, .arr 0 55 2 (valsT (List.replicate y (⟨1099511627776, 0⟩ : Val) ++ List.replicate (nd.toNat - y) (⟨0, 0⟩ : Val)))), (1420, .arr 0 3 1 (intsT (List.replicate y (-1 : Int) ++ List.replicate (nd.toNat - y) (0 : Int))))], 2000, 1000, []⟩)
    (fun y => y ≤ nd.toNat) (fun y => nd.toNat - y) 0 (Le.keep ?_ ?_ ?_ ?_) (by simp) (fun y hy => ?_)
  · simp
  · simp
  · simp
  · simp
  obtain ⟨A, hA⟩ : ∃ A, List.replicate y (⟨1099511627776, 0⟩ : Val) ++ List.replicate (nd.toNat - y) (⟨0, 0⟩ : Val) = A := ⟨_, rfl⟩
  obtain ⟨E, hE⟩ : ∃ E, List.replicate y (-1 : Int) ++ List.replicate (nd.toNat - y) (0 : Int) = E := ⟨_, rfl⟩
  have hAl : A.length = nd.toNat := by rw [← hA]; simp; omega
  have hEl : E.length = nd.toNat := by rw [← hE]; simp; omega
  rw [hA, hE]
  refine SatD.seq ?_
  refine SatD.regSeq hΓ follows [1, 4, 5, 6, 23] ?_
  simp [d66r4]
  refine SatD.cond rfl (fun hcc => ?_) (fun hcc => ?_)
  · have hcc : (y : Int) < nd := by simpa using hcc
    have hyn : y < nd.toNat := by omega
    refine SatD.skip ?_
    simp
    refine SatD.seq ?_
    refine SatD.block ?_
    have ra := rowAt_vals (l := A) (y := y) (by omega)
    have re := rowAt_ints (l := E) (y := y) (by omega)
    have q1 : y < A.length := by omega
    have q2 : y < E.length := by omega
    refine SatD.reg hΓ follows [1, 4, 5, 6] ?_
    simp [d66r5, q1, q2, ra, re]
    refine SatD.reg hΓ follows [1, 4, 5, 6] ?_
    simp [d66r6]
    rw [wrap_id (x := (y : Int) + 1) (by omega)]
    refine ⟨y + 1, Le.keep ?_ ?_ ?_ ?_, by omega, by omega⟩
    · simp
    · simp
    · simp only [← set_rep _ _ hyn, hA, hE, valsT_set, intsT_set]
      simp
    · simp
  · have hy2 : y = nd.toNat := by simp at hcc; omega
    subst hy2
    have hA2 : A = val0 nd := by rw [← hA]; simp [val0]
    have hE2 : E = List.replicate nd.toNat (-1) := by rw [← hE]; simp
    subst hA2
    subst hE2
    refine SatD.exit ?_
    simp
    refine SatD.seq ?_
    refine SatD.regSeq hΓ follows [1, 4, 5, 7] ?_
    simp [d66r7]
    refine SatD.block ?_
    refine SatD.loop (fun z : VM => ⟨DM.look [(1, .v (.box [ti nd, .sl (hedgesT es)])), (4, .aref 1217 0), (5, .aref 1420 0), (7, .v (.bool z.more))], obs [(1217, .arr 0 55 2 (valsT (z.v))), (1420, .arr 0 3 1 (intsT (List.replicate nd.toNat (-1))))], 3000, 1000, []⟩)
      (fun z => vOk nd z.v ∧ (z.more = true → ∃ f, measV z.v < f ∧ solveI es f z.v = R) ∧ (z.more = false → z.v = R)) (fun z => 2 * measV z.v + (if z.more then 1 else 0)) ⟨val0 nd, true⟩ (Le.keep ?_ ?_ ?_ ?_) (⟨h0, fun _ => ⟨_, Nat.lt_succ_self _, hR⟩, fun h => by cases h⟩) (fun z hy => ?_)
    · simp
    · simp
    · simp
    · simp
    obtain ⟨own, more⟩ := z
    obtain ⟨hz1, hz2, hz3⟩ := hy
    simp only at hz1 hz2 hz3 ⊢
    refine SatD.seq ?_
    refine SatD.regSeq hΓ follows [1, 4, 5, 33] ?_
    simp [d66r8]
    refine SatD.cond rfl (fun hm => ?_) (fun hm => ?_)
    · have hm : more = true := by simpa using hm
      subst hm
      obtain ⟨f, hf1, hf2⟩ := hz2 rfl
      refine SatD.skip ?_
      simp
      refine SatD.block ?_
      refine SatD.regSeq hΓ follows [1, 4, 5, 7] ?_
      simp [d66r9]
      refine SatD.regSeq hΓ follows [1, 4, 5, 7, 8] ?_
      simp [d66r10]
      refine SatD.block ?_
      refine SatD.loop (fun y : Nat => ⟨DM.look [(1, .v (.box [ti nd, .sl (hedgesT es)])), (4, .aref 1217 0), (5, .aref 1420 0), (7, .v (.bool (decide (sweepE es own y ≠ own)))), (8, .v (ti y))], obs [(1217, .arr 0 55 2 (valsT (sweepE es own y))), (1420, .arr 0 3 1 (intsT (List.replicate nd.toNat (-1))))], 4000, 1000, []⟩)
        (fun y => y ≤ es.length) (fun y => es.length - y) 0 (Le.keep ?_ ?_ ?_ ?_) (by simp) (fun y hy3 => ?_)
      · simp
      · simp [sweepE]
      · simp [sweepE]
      · simp [sweepE]
      obtain ⟨O, hO⟩ : ∃ O, sweepE es own y = O := ⟨_, rfl⟩
      obtain ⟨hO1, hO2⟩ := hsw own hz1 y hy3
      rw [hO] at hO1 hO2
      obtain ⟨m1, hm1⟩ : ∃ m1 : Bool, decide (O ≠ own) = m1 := ⟨_, rfl⟩
      rw [hO, hm1]
      refine SatD.seq ?_
      refine SatD.regSeq hΓ follows [1, 4, 5, 7, 8, 38] ?_
      simp [d66r11]
      refine SatD.cond rfl (fun hcc => ?_) (fun hcc => ?_)
      · have hcc : y < es.length := by simpa using hcc
        refine SatD.skip ?_
        simp
        refine SatD.seq ?_
        refine SatD.block ?_
        have rr := rowAt_hedges hcc
        obtain ⟨⟨xh, xt, xc, x0, x1⟩, hx⟩ : ∃ x, es.getD y default = x := ⟨_, rfl⟩
        rw [hx] at rr
        have hxo : edgeOk nd ⟨xh, xt, xc, x0, x1⟩ := g4 _ (by rw [← hx]; exact getD_mem hcc)
        have hso := hst O hO1 _ hxo
        obtain ⟨q1, q2, q3, q4, q5, q6⟩ := hxo
        simp only at q1 q2 q3 q4 q5 q6
        obtain ⟨xh, rfl⟩ := Int.eq_ofNat_of_zero_le q1
        refine SatD.regSeq hΓ follows [1, 4, 5, 7, 8, 9] ?_
        simp [d66r12, hcc, rr, HEdge.enc]
        refine SatD.le (Le.keep (o := [(1217, .arr 0 55 2 (valsT (O))), (1420, .arr 0 3 1 (intsT (List.replicate nd.toNat (-1))))]) (l := [(1, .v (.box [ti nd, .sl (hedgesT es)])), (4, .aref 1217 0), (5, .aref 1420 0), (7, .v (.bool m1)), (8, .v (ti y)), (9, .v (.box [ti xh, .sl (intsT xt), ti xc, ti x0, ti x1]))]) (nxt' := 4200) ?_ ?_ ?_ ?_) ?_
        · simp
        · simp
        · simp
        · simp
        have ht3 : ∀ t ∈ xt, 0 ≤ t ∧ t < O.length := fun t ht => by have := q3 t ht; have := hO1.1; omega
        have htv := tailsV_ok hO1 q3
        have htl : (tailsV O xt).length ≤ 1000000 := by simpa [tailsV] using q6
        obtain ⟨⟨wc, wz⟩, hw⟩ : ∃ w, comb xc (tailsV O xt) = w := ⟨_, rfl⟩
        refine SatD.regASeq hΓ follows (rs := annot d66r13S [none, some [], some [], none, some [1217], some [4251], none, some [4211]]) (.inr ⟨_, rfl⟩) (by kernel_rfl) [1, 4, 5, 7, 8, 9, 10] ?_
        simp [d66r13S, annot, touchOk, opdsOf, names, namesL, and_assoc, q6, htv, htl, hw]
        refine ⟨ht3, htv, ?_⟩
        repeat (refine ⟨by omega, ?_⟩)
        refine SatD.le (Le.keep (o := [(1217, .arr 0 55 2 (valsT (O))), (1420, .arr 0 3 1 (intsT (List.replicate nd.toNat (-1))))]) (l := [(1, .v (.box [ti nd, .sl (hedgesT es)])), (4, .aref 1217 0), (5, .aref 1420 0), (7, .v (.bool m1)), (8, .v (ti y)), (9, .v (.box [ti xh, .sl (intsT xt), ti xc, ti x0, ti x1])), (10, .v (.box [ti wc, ti wz]))]) (nxt' := 4400) ?_ ?_ ?_ ?_) ?_
        · simp
        · simp
        · simp
        · simp
        have hhl : xh < O.length := by have := hO1.1; omega
        have ro := rowAt_vals hhl
        obtain ⟨⟨uc, uz⟩, hu⟩ : ∃ w, O.getD xh default = w := ⟨_, rfl⟩
        rw [hu] at ro
        obtain ⟨c1, hc1⟩ : ∃ c1 : Bool, decide ((⟨wc, wz⟩ : Val).lt ⟨uc, uz⟩) = c1 := ⟨_, rfl⟩
        refine SatD.regSeq hΓ follows [1, 4, 5, 7, 8, 9, 10, 58] ?_
        simp [d66r14, hhl, ro, hc1]
        refine SatD.cond rfl (fun h5 => ?_) (fun h5 => ?_)
        · have h5 : c1 = true := by simpa using h5
          rw [h5] at hc1
          have hc1 := of_decide_eq_true hc1
          have hS0 : stepE O ⟨xh, xt, xc, x0, x1⟩ = O.set xh ⟨wc, wz⟩ := by unfold stepE; simp only [hw, hu, Int.toNat_natCast]; rw [if_pos hc1]
          have hS1 : sweepE es own (y + 1) = O.set xh ⟨wc, wz⟩ := by rw [sweepE_succ, hO, hx, hS0]
          have hne : ¬ sweepE es own (y + 1) = own := by
            intro e
            have h6 : measV (O.set xh ⟨wc, wz⟩) < measV O := by
              refine measV_set hhl ?_
              rw [hu]
              exact lt_meas (by rw [← hw]; exact comb_ok htv q4 q5) (by rw [← hu]; exact hO1.2 _ (getD_mem hhl)) hc1
            rw [← hS1, e] at h6
            rcases hO2 with h | h
            · rw [h] at h6; omega
            · omega
          refine SatD.regSeq hΓ follows [1, 4, 5, 8] ?_
          simp [d66r15, hhl, ro]
          refine SatD.reg hΓ follows [1, 4, 5, 7, 8] ?_
          simp [d66r16]
          refine SatD.reg hΓ follows [1, 4, 5, 7, 8] ?_
          simp [d66r17]
          rw [wrap_id (x := (y : Int) + 1) (by omega)]
          refine ⟨y + 1, Le.keep ?_ ?_ ?_ ?_, by omega, by omega⟩
          · simp
          · simp
          · simp [hS1, valsT_set]
          · simp
            simpa using hne
        · have h5 : c1 = false := by simpa using h5
          rw [h5] at hc1
          have hc1 := of_decide_eq_false hc1
          have hS1 : sweepE es own (y + 1) = O := by rw [sweepE_succ, hO, hx]; unfold stepE; simp only [hw, hu, Int.toNat_natCast]; rw [if_neg hc1]
          have hne := hm1
          rw [← hS1] at hne
          refine SatD.skip ?_
          simp
          refine SatD.reg hΓ follows [1, 4, 5, 7, 8] ?_
          simp [d66r17]
          rw [wrap_id (x := (y : Int) + 1) (by omega)]
          refine ⟨y + 1, Le.keep ?_ ?_ ?_ ?_, by omega, by omega⟩
          · simp
          · simp
          · simp [hS1, valsT_set]
          · simp
            simpa using hne
      · have hy4 : y = es.length := by simp at hcc; omega
        subst hy4
        have hnx := solve_next (hsw own hz1 _ (Nat.le_refl _)).2 hf1 hf2
        simp only [hO] at hnx
        have hdec : 2 * measV O + (if m1 then 1 else 0) < 2 * measV own + 1 := by
          by_cases e : O = own
          · have hm2 : m1 = false := by rw [← hm1]; simp [e]
            subst hm2; rw [e]; simp
          · have := (hnx.1 e).1
            cases m1 <;> simp <;> omega
        refine SatD.exit ?_
        simp
        refine ⟨⟨O, m1⟩, Le.keep ?_ ?_ ?_ ?_, ⟨hO1, fun h => (hnx.1 (of_decide_eq_true (hm1.trans h))).2, fun h => by have e := Classical.not_not.1 (of_decide_eq_false (hm1.trans h)); simp only; rw [e]; exact hnx.2 e⟩, by simpa using hdec⟩
        · simp
        · simp
        · simp
        · simp
    · have hm : more = false := by simpa using hm
      subst hm
      have hz3 := hz3 rfl
      subst hz3
      refine SatD.exit ?_
      simp
      refine SatD.seq ?_
      refine SatD.regSeq hΓ follows [1, 4, 5, 11] ?_
      simp [d66r18, wrap_id (x := (es.length : Int) - 1) (by omega)]
      refine SatD.block ?_
      refine SatD.loop (fun j : Nat => ⟨DM.look [(1, .v (.box [ti nd, .sl (hedgesT es)])), (4, .aref 1217 0), (5, .aref 1420 0), (11, .v (ti ((es.length : Int) - 1 - j)))], obs [(1217, .arr 0 55 2 (valsT (own))), (1420, .arr 0 3 1 (intsT (backG es own nd j)))], 5000, 1000, []⟩)
        (fun j => j ≤ es.length) (fun j => es.length - j) 0 (Le.keep ?_ ?_ ?_ ?_) (by simp) (fun j hj => ?_)
      · simp
      · simp
      · simp [backG]
      · simp
      obtain ⟨G, hG⟩ : ∃ G, backG es own nd j = G := ⟨_, rfl⟩
      have hGl := backG_len es own g1 j
      rw [hG] at hGl
      rw [hG]
      obtain ⟨k, hk⟩ : ∃ k, (es.length : Int) - 1 - j = k := ⟨_, rfl⟩
      rw [hk]
      refine SatD.seq ?_
      refine SatD.regSeq hΓ follows [1, 4, 5, 11, 69] ?_
      simp [d66r19]
      refine SatD.cond rfl (fun h9 => ?_) (fun h9 => ?_)
      · have h9 : 0 ≤ k := by simpa using h9
        obtain ⟨k, rfl⟩ := Int.eq_ofNat_of_zero_le h9
        have hkl : k < es.length := by omega
        have hke : es.length - 1 - j = k := by omega
        refine SatD.skip ?_
        simp
        refine SatD.seq ?_
        refine SatD.block ?_
        have rr := rowAt_hedges hkl
        obtain ⟨⟨xh, xt, xc, x0, x1⟩, hx⟩ : ∃ x, es.getD k default = x := ⟨_, rfl⟩
        rw [hx] at rr
        have hxo : edgeOk nd ⟨xh, xt, xc, x0, x1⟩ := g4 _ (by rw [← hx]; exact getD_mem hkl)
        obtain ⟨q1, q2, q3, q4, q5, q6⟩ := hxo
        simp only at q1 q2 q3 q4 q5 q6
        obtain ⟨xh, rfl⟩ := Int.eq_ofNat_of_zero_le q1
        refine SatD.regSeq hΓ follows [1, 4, 5, 11, 12] ?_
        simp [d66r20, hkl, rr, HEdge.enc]
        refine SatD.le (Le.keep (o := [(1217, .arr 0 55 2 (valsT (own))), (1420, .arr 0 3 1 (intsT (G)))]) (l := [(1, .v (.box [ti nd, .sl (hedgesT es)])), (4, .aref 1217 0), (5, .aref 1420 0), (11, .v (ti k)), (12, .v (.box [ti xh, .sl (intsT xt), ti xc, ti x0, ti x1]))]) (nxt' := 5200) ?_ ?_ ?_ ?_) ?_
        · simp
        · simp
        · simp
        · simp
        have hhl : xh < own.length := by have := hRo.1; omega
        have ro := rowAt_vals hhl
        obtain ⟨⟨uc, uz⟩, hu⟩ : ∃ w, own.getD xh default = w := ⟨_, rfl⟩
        rw [hu] at ro
        refine SatD.regSeq hΓ follows [1, 4, 5, 11, 12, 13] ?_
        simp [d66r21, hhl, ro]
        refine SatD.le (Le.keep (o := [(1217, .arr 0 55 2 (valsT (own))), (1420, .arr 0 3 1 (intsT (G)))]) (l := [(1, .v (.box [ti nd, .sl (hedgesT es)])), (4, .aref 1217 0), (5, .aref 1420 0), (11, .v (ti k)), (12, .v (.box [ti xh, .sl (intsT xt), ti xc, ti x0, ti x1])), (13, .v (.box [ti uc, ti uz]))]) (nxt' := 5400) ?_ ?_ ?_ ?_) ?_
        · simp
        · simp
        · simp
        · simp
        have ht3 : ∀ t ∈ xt, 0 ≤ t ∧ t < own.length := fun t ht => by have := q3 t ht; have := hRo.1; omega
        have htv := tailsV_ok hRo q3
        have htl : (tailsV own xt).length ≤ 1000000 := by simpa [tailsV] using q6
        obtain ⟨⟨wc, wz⟩, hw⟩ : ∃ w, comb xc (tailsV own xt) = w := ⟨_, rfl⟩
        obtain ⟨c1, hc1⟩ : ∃ c1 : Bool, decide (uc < 1099511627776 ∧ (⟨wc, wz⟩ : Val) = ⟨uc, uz⟩) = c1 := ⟨_, rfl⟩
        refine SatD.seq ?_
        refine SatD.to ⟨DM.look [(1, .v (.box [ti nd, .sl (hedgesT es)])), (4, .aref 1217 0), (5, .aref 1420 0), (11, .v (ti k)), (12, .v (.box [ti xh, .sl (intsT xt), ti xc, ti x0, ti x1])), (94, .v (.bool c1))], obs [(1217, .arr 0 55 2 (valsT (own))), (1420, .arr 0 3 1 (intsT (G)))], 6000, 1000, []⟩ ?_ ?_
        · by_cases k1 : uc < 1099511627776
          · refine SatD.regA hΓ follows (rs := annot d66r22S [none, some [], none, none, none, some [], some [], none, some [1217], some [5491], some [], some [], none]) (.inr ⟨_, rfl⟩) (by kernel_rfl) [1, 4, 5, 11, 12, 94] ?_
            simp [annot, d66r22S, touchOk, opdsOf, names, namesL, and_assoc, k1, q6, htv, htl, hw]
            refine ⟨ht3, htv, by omega, by omega, ?_⟩
            have : c1 = (decide (wc = uc) && decide (wz = uz)) := by rw [← hc1]; simp [k1]
            rw [this]
            exact Le.keep (by simp) (by simp) (by simp) (by simp)
          · have : c1 = false := by rw [← hc1]; simp [k1]
            refine SatD.regA hΓ follows (rs := annot d66r22S [none, some [], none, none, none, some [], some [], none, some [1217], some [5491], some [], some [], none]) (.inr ⟨_, rfl⟩) (by kernel_rfl) [1, 4, 5, 11, 12, 94] ?_
            simp [annot, d66r22S, touchOk, opdsOf, names, namesL, and_assoc, k1]
            subst this
            exact Le.keep (by simp) (by simp) (by simp) (by simp)
        simp only [thenQ]
        refine SatD.cond rfl (fun h8 => ?_) (fun h8 => ?_)
        · have h8 : c1 = true := by simpa using h8
          rw [h8] at hc1
          have hc1 := of_decide_eq_true hc1
          have hS2 : stepG es own G j = G.set xh (k : Int) := by unfold stepG; rw [hke, hx]; simp only [hw, hu, Int.toNat_natCast]; rw [if_pos hc1]
          have hgl2 : xh < G.length := by omega
          have rg := rowAt_ints hgl2
          refine SatD.reg hΓ follows [1, 4, 5, 11] ?_
          simp [d66r23, hgl2, rg]
          refine SatD.reg hΓ follows [1, 4, 5, 11] ?_
          simp [d66r24]
          rw [wrap_id (x := (k : Int) - 1) (by omega)]
          refine ⟨j + 1, Le.keep ?_ ?_ ?_ ?_, by omega, by omega⟩
          · simp
          · simp
          · simp [backG_succ, hG, hS2, intsT_set]
          · simp
            omega
        · have h8 : c1 = false := by simpa using h8
          rw [h8] at hc1
          have hc1 := of_decide_eq_false hc1
          have hS2 : stepG es own G j = G := by unfold stepG; rw [hke, hx]; simp only [hw, hu, Int.toNat_natCast]; rw [if_neg hc1]
          refine SatD.skip ?_
          simp
          refine SatD.reg hΓ follows [1, 4, 5, 11] ?_
          simp [d66r24]
          rw [wrap_id (x := (k : Int) - 1) (by omega)]
          refine ⟨j + 1, Le.keep ?_ ?_ ?_ ?_, by omega, by omega⟩
          · simp
          · simp
          · simp [backG_succ, hG, hS2, intsT_set]
          · simp
            omega
      · have h9 : ¬ 0 ≤ k := by simpa using h9
        have hj2 : j = es.length := by omega
        subst hj2
        subst hG
        refine SatD.exit ?_
        simp
        refine SatD.regSeq hΓ follows [2, 3] ?_
        simp [d66r25]
        refine SatD.ret ?_
        simp [d66res]
end Inc
end Go.Proofs
/- Insertion values; moderate grammars. Conditions: none. -/
namespace Go.Proofs
namespace Inc
open Go.DM
set_option linter.unusedSimpArgs false
set_option linter.unusedVariables false

theorem graph_ok {n : Normal} {ins : List Int} (hn : validN n) (hp : pricesP n ins) : hOk n.nonterms (graphE n ins) := by
  have h := hn.ok
  obtain ⟨p1, p2⟩ := hp
  refine ⟨by have := h.1; omega, by have := h.2.1; omega, by simp only [graphE, List.length_map]; have := h.2.2.1; omega, fun e he => ?_⟩
  simp only [graphE, List.mem_map] at he
  obtain ⟨r, hr, rfl⟩ := he
  obtain ⟨q1, q2, q3, q4, q5⟩ := h.2.2.2 r hr
  have hc : 0 ≤ (edgeR ins r).cost ∧ (edgeR ins r).cost ≤ 4000000000000 := by
    unfold edgeR
    split
    · rename_i h2
      have ha : r.a.toNat < ins.length := by omega
      have := p2 _ ha
      unfold insP at this
      simp only
      omega
    · simp only; omega
  refine ⟨q1, q2, fun t ht => ?_, hc.1, hc.2, by have := tailsR_len r; simp only [edgeR]; omega⟩
  simp only [edgeR, tailsR] at ht
  split at ht
  · simp only [List.mem_singleton] at ht; omega
  · split at ht
    · simp only [List.mem_cons, List.not_mem_nil, or_false] at ht; omega
    · cases ht
def valuesL (n : Normal) (ins : List Int) : List Val := if validN n ∧ pricesP n ins then solveV n.nonterms (graphE n ins) else []
abbrev s20 : DM.Spec := specP (fun ts => ∃ a b c l, ts = [.agg [ti a, ti b, ti c, .sl (rulesT l)]] ∧ l.length ≤ 9223372036854775807) (fun | [n] => .bool (decide (validN (decN n))) | _ => .bool false) true
abbrev s44 : DM.Spec := specP (fun ts => ∃ a b c l i, ts = [.agg [ti a, ti b, ti c, .sl (rulesT l)], .sl (intsT i)] ∧ i.length ≤ 9223372036854775807) (fun | [n, .sl i] => .bool (decide (pricesP (decN n) (decInts i))) | _ => .bool false) true
abbrev s67 : DM.Spec := specP (fun ts => ∃ a b c l i, ts = [.agg [ti a, ti b, ti c, .sl (rulesT l)], .sl (intsT i)] ∧ nOk ⟨a, b, c, l⟩ ∧ pricesP ⟨a, b, c, l⟩ i) (fun | [n, .sl i] => .agg [ti (decN n).nonterms, .sl (hedgesT (graphE (decN n) (decInts i)))] | _ => .bool false) false
abbrev s66 : DM.Spec := specP (fun ts => ∃ nd es, ts = [.agg [ti nd, .sl (hedgesT es)]] ∧ hOk nd es) (fun | [.agg [.int _ nd, .sl es]] => .tup [.sl (valsT (solveV nd (decHEs es))), .sl (intsT (backG (decHEs es) (solveV nd (decHEs es)) nd es.length))] | _ => .bool false) false
abbrev s45 : DM.Spec := specP (fun ts => ∃ a b c l i, ts = [.agg [ti a, ti b, ti c, .sl (rulesT l)], .sl (intsT i)] ∧ l.length ≤ 9223372036854775807 ∧ i.length ≤ 9223372036854775807) (fun | [n, .sl i] => .sl (valsT (valuesL (decN n) (decInts i))) | _ => .bool false) false
theorem okV1 : EnvOk Tryz.prog (envOf [(20, s20), (44, s44), (67, s67), (66, s66)]) := by
  refine EnvOk.cons (EnvOk.cons (EnvOk.cons (EnvOk.cons EnvOk.nil ?_) ?_) ?_) ?_
  · rintro ts ⟨nd, es, rfl, h⟩
    exact ⟨by simpa using t66 nd es h, fun h => by cases h⟩
  · rintro ts ⟨a, b, c, l, i, rfl, h1, h2⟩
    exact ⟨by simpa [Normal.enc] using t67 ⟨a, b, c, l⟩ i h1 h2, fun h => by cases h⟩
  · rintro ts ⟨a, b, c, l, i, rfl, h⟩
    exact ⟨by simpa [Normal.enc] using t44 ⟨a, b, c, l⟩ i h, fun _ => rfl⟩
  · rintro ts ⟨a, b, c, l, rfl, h⟩
    exact ⟨by simpa [Normal.enc] using t20 ⟨a, b, c, l⟩ h, fun _ => rfl⟩
set_option maxRecDepth 20000 in
set_option maxHeartbeats 8000000 in
theorem t45 (n : Normal) (ins : List Int) (h1 : n.rules.length ≤ 9223372036854775807) (h2 : ins.length ≤ 9223372036854775807) : CallsOk Tryz.prog 45 [n.enc, .sl (intsT ins)] (.sl (valsT (valuesL n ins))) := by
  obtain ⟨R, hR⟩ : ∃ R, valuesL n ins = R := ⟨_, rfl⟩
  rw [hR]
  unfold valuesL at hR
  obtain ⟨nt, nn, ns, rules⟩ := n
  simp only at h1
  have hΓ := okV1
  refine c45.ok (by simp) (initSt_sat ?_)
  simp [Normal.enc]
  refine SatD.regSeq hΓ follows [1, 2] ?_
  simp [d45r0]
  refine SatD.le (Le.keep (o := []) (l := [(1, .v (.sl (intsT ins))), (2, .v (.box [ti nt, ti nn, ti ns, .sl (rulesT rules)]))]) (nxt' := 1200) ?_ ?_ ?_ ?_) ?_
  · simp
  · simp
  · simp
  · simp
  refine SatD.seq ?_
  obtain ⟨c1, hc1⟩ : ∃ c1 : Bool, decide (¬ validN ⟨nt, nn, ns, rules⟩ ∨ ¬ pricesP ⟨nt, nn, ns, rules⟩ ins) = c1 := ⟨_, rfl⟩
  refine SatD.regToS hΓ follows [(1, .v (.sl (intsT ins))), (2, .v (.box [ti nt, ti nn, ti ns, .sl (rulesT rules)])), (15, .v (.bool c1))] ?_ ?_
  · by_cases q1 : validN ⟨nt, nn, ns, rules⟩
    · by_cases q2 : pricesP ⟨nt, nn, ns, rules⟩ ins
      · have : c1 = false := by rw [← hc1]; simp [q1, q2]
        simp [d45r1, and_assoc, h1, h2, q1, q2, this]
      · have : c1 = true := by rw [← hc1]; simp [q2]
        simp [d45r1, and_assoc, h1, h2, q1, q2, this]
    · have : c1 = true := by rw [← hc1]; simp [q1]
      simp [d45r1, and_assoc, h1, q1, this]
  refine SatD.cond rfl (fun g => ?_) (fun g => ?_)
  · rw [g] at hc1
    have hc1 := of_decide_eq_true hc1
    rw [if_neg (fun h => hc1.elim (fun q => q h.1) (fun q => q h.2))] at hR
    subst hR
    refine SatD.regSeq hΓ follows [4] ?_
    simp [d45r2]
    refine SatD.ret ?_
    simp [d45res]
  · rw [g] at hc1
    have hc1 := of_decide_eq_false hc1
    simp only [not_or, Classical.not_not] at hc1
    obtain ⟨hv1, hv2⟩ := hc1
    refine SatD.skip ?_
    simp
    rw [if_pos ⟨hv1, hv2⟩] at hR
    have hg := graph_ok hv1 hv2
    have hn := hv1.ok
    simp only at hR hg
    refine SatD.regSeq hΓ follows [5] ?_
    simp [d45r3, and_assoc, hn, hv2, hg, hR]
    refine SatD.regSeq hΓ follows [4] ?_
    simp [d45r4]
    refine SatD.ret ?_
    simp [d45res]

def sizeOk (v : List Val) (i : Nat) : Prop := ¬ (v.getD i default).size > 1000
instance (v : List Val) (i : Nat) : Decidable (sizeOk v i) := by unfold sizeOk; infer_instance
def modP (n : Normal) (ins : List Int) : Prop := (validN n ∧ pricesP n ins) ∧ ∀ i, i < (valuesL n ins).length → sizeOk (valuesL n ins) i
instance (n : Normal) (ins : List Int) : Decidable (modP n ins) := by unfold modP; infer_instance
theorem okV2 : EnvOk Tryz.prog (envOf [(20, s20), (44, s44), (45, s45)]) := by
  refine EnvOk.cons (EnvOk.cons (EnvOk.cons EnvOk.nil ?_) ?_) ?_
  · rintro ts ⟨a, b, c, l, i, rfl, h1, h2⟩
    exact ⟨by simpa [Normal.enc] using t45 ⟨a, b, c, l⟩ i h1 h2, fun h => by cases h⟩
  · rintro ts ⟨a, b, c, l, i, rfl, h⟩
    exact ⟨by simpa [Normal.enc] using t44 ⟨a, b, c, l⟩ i h, fun _ => rfl⟩
  · rintro ts ⟨a, b, c, l, rfl, h⟩
    exact ⟨by simpa [Normal.enc] using t20 ⟨a, b, c, l⟩ h, fun _ => rfl⟩
theorem valuesL_len {n : Normal} {ins : List Int} (h1 : validN n) (h2 : pricesP n ins) : (valuesL n ins).length ≤ 1000 := by
  unfold valuesL
  rw [if_pos ⟨h1, h2⟩]
  have := (solveV_ok (graph_ok h1 h2)).1
  have := h1.ok.2.1
  omega
set_option maxRecDepth 20000 in
set_option maxHeartbeats 8000000 in
theorem t22 (n : Normal) (ins : List Int) (h1 : n.rules.length ≤ 9223372036854775807) (h2 : ins.length ≤ 9223372036854775807) : CallsOk Tryz.prog 22 [n.enc, .sl (intsT ins)] (.bool (decide (modP n ins))) := by
  obtain ⟨v, hv⟩ : ∃ v, decide (modP n ins) = v := ⟨_, rfl⟩
  rw [hv]
  have hval : modP n ins ↔ (validN n ∧ pricesP n ins) ∧ ∀ i, i < (valuesL n ins).length → sizeOk (valuesL n ins) i := Iff.rfl
  have bad : ¬ modP n ins → v = false := fun h => by rw [← hv]; simp [h]
  have hll := fun a b => valuesL_len (n := n) (ins := ins) a b
  obtain ⟨V, hV⟩ : ∃ V, valuesL n ins = V := ⟨_, rfl⟩
  rw [hV] at hval hll
  obtain ⟨nt, nn, ns, rules⟩ := n
  simp only at h1
  have hΓ := okV2
  refine c22.ok (by simp) (initSt_sat ?_)
  simp [Normal.enc]
  refine SatD.regSeq hΓ follows [1, 2] ?_
  simp [d22r0]
  refine SatD.le (Le.keep (o := []) (l := [(1, .v (.sl (intsT ins))), (2, .v (.box [ti nt, ti nn, ti ns, .sl (rulesT rules)]))]) (nxt' := 1200) ?_ ?_ ?_ ?_) ?_
  · simp
  · simp
  · simp
  · simp
  refine SatD.seq ?_
  obtain ⟨c1, hc1⟩ : ∃ c1 : Bool, decide (¬ validN ⟨nt, nn, ns, rules⟩ ∨ ¬ pricesP ⟨nt, nn, ns, rules⟩ ins) = c1 := ⟨_, rfl⟩
  refine SatD.regToS hΓ follows [(1, .v (.sl (intsT ins))), (2, .v (.box [ti nt, ti nn, ti ns, .sl (rulesT rules)])), (15, .v (.bool c1))] ?_ ?_
  · by_cases q1 : validN ⟨nt, nn, ns, rules⟩
    · by_cases q2 : pricesP ⟨nt, nn, ns, rules⟩ ins
      · have : c1 = false := by rw [← hc1]; simp [q1, q2]
        simp [d22r1, and_assoc, h1, h2, q1, q2, this]
      · have : c1 = true := by rw [← hc1]; simp [q2]
        simp [d22r1, and_assoc, h1, h2, q1, q2, this]
    · have : c1 = true := by rw [← hc1]; simp [q1]
      simp [d22r1, and_assoc, h1, q1, this]
  refine SatD.cond rfl (fun g => ?_) (fun g => ?_)
  · rw [g] at hc1
    have hc1 := of_decide_eq_true hc1
    refine SatD.regSeq hΓ follows [4] ?_
    simp [d22r2]
    refine SatD.ret ?_
    rw [bad fun h => hc1.elim (fun q => q (hval.1 h).1.1) (fun q => q (hval.1 h).1.2)]
    simp [d22res]
  · rw [g] at hc1
    have hc1 := of_decide_eq_false hc1
    simp only [not_or, Classical.not_not] at hc1
    obtain ⟨hv1, hv2⟩ := hc1
    refine SatD.skip ?_
    simp
    have hVl := hll hv1 hv2
    refine SatD.regSeq hΓ follows [5] ?_
    simp [d22r3, and_assoc, h1, h2, hV]
    refine SatD.seq ?_
    refine SatD.regSeq hΓ follows [5, 6] ?_
    simp [d22r4]
    refine SatD.block ?_
    refine SatD.loop (fun y : Nat => ⟨DM.look [(5, .v (.sl (valsT V))), (6, .v (ti y))], obs [], 2000, 1000, []⟩)
      (fun y => y ≤ V.length ∧ ∀ i, i < y → sizeOk V i) (fun y => V.length - y) 0 (Le.keep (o := []) ?_ ?_ ?_ ?_) (by simp) (fun y hy => ?_)
    · simp
    · simp
    · simp
    · simp
    obtain ⟨hy1, hy2⟩ := hy
    refine SatD.seq ?_
    refine SatD.regSeq hΓ follows [5, 6, 22] ?_
    simp [d22r5]
    refine SatD.cond rfl (fun hcc => ?_) (fun hcc => ?_)
    · have hcc : y < V.length := by simpa using hcc
      refine SatD.skip ?_
      simp
      refine SatD.seq ?_
      refine SatD.block ?_
      have rr := rowAt_vals hcc
      obtain ⟨x, hx⟩ : ∃ x, V.getD y default = x := ⟨_, rfl⟩
      rw [hx] at rr
      refine SatD.regSeq hΓ follows [5, 6, 30] ?_
      simp [d22r6, hcc, rr]
      refine SatD.cond rfl (fun h8 => ?_) (fun h8 => ?_)
      · have h8 : x.size > 1000 := by simpa using h8
        refine SatD.regSeq hΓ follows [4] ?_
        simp [d22r7]
        refine SatD.ret ?_
        rw [bad fun h => by have := (hval.1 h).2 y hcc; unfold sizeOk at this; rw [hx] at this; exact this h8]
        simp [d22res]
      · have h8 : ¬ x.size > 1000 := by simpa using h8
        refine SatD.skip ?_
        simp
        refine SatD.reg hΓ follows [5, 6] ?_
        simp [d22r8]
        rw [wrap_id (x := (y : Int) + 1) (by omega)]
        refine ⟨y + 1, Le.keep (o := []) ?_ ?_ ?_ ?_, ⟨by omega, fun i hi => ?_⟩, by omega⟩
        · simp
        · simp
        · simp
        · simp
        · by_cases e : i = y
          · subst e; unfold sizeOk; rw [hx]; exact h8
          · exact hy2 i (by omega)
    · have hy3 : y = V.length := by simp at hcc; omega
      subst hy3
      refine SatD.exit ?_
      simp
      refine SatD.regSeq hΓ follows [4] ?_
      simp [d22r9]
      refine SatD.ret ?_
      have : v = true := by rw [← hv]; exact decide_eq_true (hval.2 ⟨⟨hv1, hv2⟩, hy2⟩)
      rw [this]
      simp [d22res]
end Inc
end Go.Proofs
/- Comparisons of keys; lengths in bits; products. Conditions: none. -/
namespace Go.Proofs
open Go.DM
set_option linter.unusedSectionVars false
variable [Laid]
set_option linter.unusedSimpArgs false
set_option linter.unusedVariables false
theorem okE : EnvOk Tryz.prog (envOf []) := EnvOk.nil

def cmpI (a b : Int) : Int := if a < b then -1 else if b < a then 1 else 0
def orI (l : List Int) : Int := (l.find? fun x => x != 0).getD 0
def cmpKey (x y : List T) : Int := orI [cmpI (unti (x.getD 0 (ti 0))) (unti (y.getD 0 (ti 0))), cmpI (unti (x.getD 1 (ti 0))) (unti (y.getD 1 (ti 0))), cmpI (unti (x.getD 2 (ti 0))) (unti (y.getD 2 (ti 0)))]

end Go.Proofs
