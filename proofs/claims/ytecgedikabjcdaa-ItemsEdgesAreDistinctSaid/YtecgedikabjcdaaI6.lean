import Derived.Test.YtecgedikabjcdaaI5
import Derived.Test.YtecgedikabjcdaaDmU
namespace Go.Proofs
open Go.DM
set_option linter.unusedSimpArgs false
set_option linter.unusedVariables false

def headBad (n : Normal) : Prop := n.terms < 0 ∨ 120 < n.terms ∨ n.nonterms < 1 ∨ 1000 < n.nonterms ∨ n.start < 0 ∨ n.nonterms ≤ n.start ∨ 600 < (n.rules.length : Int)
instance (n : Normal) : Decidable (headBad n) := by unfold headBad; infer_instance
def ruleBad (n : Normal) (r : Rule) : Prop := r.head < 0 ∨ n.nonterms ≤ r.head ∨ r.price < 0 ∨ 1000 < r.price ∨ r.origin < -1
instance (n : Normal) (r : Rule) : Decidable (ruleBad n r) := by unfold ruleBad; infer_instance
def bodyOk (n : Normal) (r : Rule) : Prop :=
  (r.kind = 1 ∧ r.a = 0 ∧ r.b = 0) ∨ (r.kind = 2 ∧ 0 ≤ r.a ∧ r.a < n.terms ∧ r.b = 0) ∨ (r.kind = 3 ∧ 0 ≤ r.a ∧ r.a < n.nonterms ∧ r.b = 0) ∨ (r.kind = 4 ∧ 0 ≤ r.a ∧ r.a < n.nonterms ∧ 0 ≤ r.b ∧ r.b < n.nonterms)
instance (n : Normal) (r : Rule) : Decidable (bodyOk n r) := by unfold bodyOk; infer_instance
def okRule (n : Normal) (i : Nat) : Bool := decide (¬ ruleBad n (n.rules.getD i default) ∧ bodyOk n (n.rules.getD i default))
def validN (n : Normal) : Bool := !decide (headBad n) && (List.range n.rules.length).all (okRule n)

set_option maxRecDepth 20000 in
theorem t44 {Γ : Env} (hΓ : EnvOk Try.prog Γ) (n : Normal) (hl : n.rules.length ≤ 9223372036854775807) : CallsOk Try.prog 44 [n.enc] (.bool (validN n)) := by
  refine c44.ok (by simp) (initSt_sat ?_)
  simp [Normal.enc]
  refine SatD.regSeq hΓ follows [1] ?_
  simp [d44r0]
  refine SatD.seq ?_
  refine SatD.regToS hΓ follows [(1, .ptr 1002 0), (41, .v (.bool (decide (headBad n))))] ?_ ?_
  · simp [d44r1]
    repeat' (first | apply And.intro | intro _)
    all_goals first | omega | (simp [headBad]; omega) | (rename_i hh; revert hh; simp [headBad]; omega)
  refine SatD.cond rfl (fun h => ?_) (fun h => ?_)
  · refine SatD.regSeq hΓ follows [2] ?_
    simp [d44r2]
    refine SatD.ret ?_
    simp [d44res, validN, h]
  simp only [decide_eq_false_iff_not] at h
  refine SatD.skip ?_
  simp
  refine SatD.seq ?_
  refine SatD.regSeq hΓ follows [1, 3] ?_
  simp [d44r3]
  refine SatD.block ?_ -- 0
  refine SatD.loop (fun y : Nat => ⟨DM.look [(1, .ptr 1002 0), (3, .v (ti y))], obs [(1002, .box [.v (ti n.terms), .v (ti n.nonterms), .v (ti n.start), .v (.sl (rulesT n.rules))])], 2000, 1000, []⟩)
    (fun y => y ≤ n.rules.length ∧ ∀ i, i < y → okRule n i = true) (fun y => n.rules.length - y) 0 (Le.keep ?_ ?_ ?_ ?_) (by simp) (fun y hy => ?_)
  · simp
  · simp
  · simp
  · simp
  obtain ⟨hy1, hy2⟩ := hy
  refine SatD.seq ?_
  refine SatD.regSeq hΓ follows [1, 3, 46] ?_
  simp [d44r4]
  refine SatD.cond rfl (fun hc => ?_) (fun hc => ?_)
  · simp at hc
    refine SatD.skip ?_
    simp
    refine SatD.seq ?_
    refine SatD.block ?_ -- 1
    refine SatD.regSeq hΓ follows [1, 3, 4] ?_
    have hrow := rowAt_rules hc
    simp [d44r5, hrow, hc, Rule.enc]
    obtain ⟨r, hr⟩ : ∃ r, n.rules[y] = r := ⟨_, rfl⟩
    simp only [hr]
    have hgd : n.rules.getD y default = r := by simp [hc, hr]
    refine SatD.seq ?_
    refine SatD.regToS hΓ follows [(1, .ptr 1002 0), (3, .v (ti y)), (4, .ptr 2157 0), (78, .v (.bool (decide (ruleBad n r))))] ?_ ?_
    · simp [d44r6]
      repeat' (first | apply And.intro | intro _)
      all_goals first | omega | (simp [ruleBad]; omega) | (rename_i hh; revert hh; simp [ruleBad]; omega) | trace_state
    refine SatD.cond rfl (fun h2 => ?_) (fun h2 => ?_)
    · refine SatD.regSeq hΓ follows [2] ?_
      simp [d44r7]
      refine SatD.ret ?_
      simp only [decide_eq_true_eq] at h2
      have := all_range_false (p := okRule n) hc (by unfold okRule; rw [hgd]; simp [h2])
      simp [d44res, validN, this]
    · simp only [decide_eq_false_iff_not] at h2
      refine SatD.skip ?_
      simp
      refine SatD.regSeq hΓ follows [1, 3, 4, 5] ?_
      simp [d44r8]
      refine SatD.seq ?_
      refine SatD.regSeq hΓ follows [1, 3, 4, 5, 80] ?_
      simp [d44r9]
      refine SatD.to ⟨DM.look [(1, .ptr 1002 0), (3, .v (ti y)), (5, .v (.bool (decide (bodyOk n r))))], obs [(1002, .box [.v (ti n.terms), .v (ti n.nonterms), .v (ti n.start), .v (.sl (rulesT n.rules))])], 9000, 1000, []⟩ ?_ ?_
      · refine SatD.block ?_ -- 2
        refine SatD.regSeq hΓ follows [1, 3, 4, 5, 80, 81] ?_
        simp [d44r10]
        refine SatD.cond rfl (fun e1 => ?_) (fun e1 => ?_)
        · simp only [decide_eq_true_eq] at e1
          refine SatD.regToN hΓ follows [(1, .ptr 1002 0), (3, .v (ti y)), (5, .v (.bool (decide (bodyOk n r))))] ?_ ?_
          rotate_left
          · simp only [blockQ]
            refine ⟨trivial, Le.keep ?_ ?_ ?_ ?_⟩ <;> simp
          · simp [d44r11, bodyOk, e1]
            repeat' (first | apply And.intro | intro _)
            all_goals first | omega | (rename_i hh; simp [hh])
        simp only [decide_eq_false_iff_not] at e1
        refine SatD.regSeq hΓ follows [1, 3, 4, 5, 80, 91] ?_
        simp [d44r12]
        refine SatD.cond rfl (fun e2 => ?_) (fun e2 => ?_)
        · simp only [decide_eq_true_eq] at e2
          refine SatD.regToN hΓ follows [(1, .ptr 1002 0), (3, .v (ti y)), (5, .v (.bool (decide (bodyOk n r))))] ?_ ?_
          rotate_left
          · simp only [blockQ]
            refine ⟨trivial, Le.keep ?_ ?_ ?_ ?_⟩ <;> simp
          · simp [d44r13, bodyOk, e2]
            repeat' (first | apply And.intro | intro _)
            all_goals first | omega | (rw [Bool.eq_iff_iff]; simp; omega)
        simp only [decide_eq_false_iff_not] at e2
        refine SatD.regSeq hΓ follows [1, 3, 4, 5, 80, 108] ?_
        simp [d44r14]
        refine SatD.cond rfl (fun e3 => ?_) (fun e3 => ?_)
        · simp only [decide_eq_true_eq] at e3
          refine SatD.regToN hΓ follows [(1, .ptr 1002 0), (3, .v (ti y)), (5, .v (.bool (decide (bodyOk n r))))] ?_ ?_
          rotate_left
          · simp only [blockQ]
            refine ⟨trivial, Le.keep ?_ ?_ ?_ ?_⟩ <;> simp
          · simp [d44r15, bodyOk, e3]
            repeat' (first | apply And.intro | intro _)
            all_goals first | omega | (rw [Bool.eq_iff_iff]; simp; omega)
        simp only [decide_eq_false_iff_not] at e3
        refine SatD.regSeq hΓ follows [1, 3, 4, 5, 125] ?_
        simp [d44r16]
        refine SatD.cond rfl (fun e4 => ?_) (fun e4 => ?_)
        · simp only [decide_eq_true_eq] at e4
          refine SatD.regToN hΓ follows [(1, .ptr 1002 0), (3, .v (ti y)), (5, .v (.bool (decide (bodyOk n r))))] ?_ ?_
          rotate_left
          · simp only [blockQ]
            refine ⟨trivial, Le.keep ?_ ?_ ?_ ?_⟩ <;> simp
          · simp [d44r17, bodyOk, e4]
            repeat' (first | apply And.intro | intro _)
            all_goals first | omega | (rw [Bool.eq_iff_iff]; simp; omega)
        · simp only [decide_eq_false_iff_not] at e4
          have hb : ¬ bodyOk n r := by unfold bodyOk; omega
          refine SatD.skip ?_
          simp only [blockQ]
          refine ⟨trivial, Le.keep ?_ ?_ ?_ ?_⟩ <;> simp [hb]
      simp
      refine SatD.regSeq hΓ follows [1, 3, 150] ?_
      simp [d44r18]
      refine SatD.cond rfl (fun h3 => ?_) (fun h3 => ?_)
      · refine SatD.regSeq hΓ follows [2] ?_
        simp [d44r19]
        refine SatD.ret ?_
        simp only [Bool.not_eq_true', decide_eq_false_iff_not] at h3
        have := all_range_false (p := okRule n) hc (by unfold okRule; rw [hgd]; simp [h3])
        simp [d44res, validN, this]
      · simp only [Bool.not_eq_false', decide_eq_true_eq] at h3
        refine SatD.skip ?_
        simp
        refine SatD.reg hΓ follows [1, 3] ?_
        simp [d44r20]
        refine ⟨y + 1, Le.keep ?_ ?_ ?_ ?_, ⟨?_, ?_⟩, ?_⟩
        · simp
        · simp
        · simp
        · simp
          exact (wrap_id (by omega)).symm
        · omega
        · intro i hi
          by_cases e : i = y
          · subst e; unfold okRule; rw [hgd]; simp [h2, h3]
          · exact hy2 i (by omega)
        · omega
  · simp at hc
    have hall := all_range_true (p := okRule n) (n := n.rules.length) (fun i hi => hy2 i (by omega))
    refine SatD.exit ?_
    simp
    refine SatD.regSeq hΓ follows [2] ?_
    simp [d44r21]
    refine SatD.ret ?_
    simp [d44res, validN, hall, h]
end Go.Proofs
