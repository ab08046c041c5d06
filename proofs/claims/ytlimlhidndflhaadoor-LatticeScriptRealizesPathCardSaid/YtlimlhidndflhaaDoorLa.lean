/- Valid. Conditions: none. -/
import Derived.Test.YtlimlhidndflhaaDoorJa
import Derived.Test.YtlimlhidndflhaaDoorKa
import Derived.Test.YtlimlhidndflhaaDoorJ0b
namespace Go.Proofs
open Go.DM
set_option linter.unusedSimpArgs false
set_option linter.unusedVariables false

/-- Is it the arc of a lattice with these numbers of states and terminals? -/
def arcOk (s terms : Int) (a : Arc) : Prop := ¬ (a.f < 0 ∨ a.f > a.t ∨ a.t ≥ s ∨ a.term < 0 ∨ a.term ≥ terms ∨ a.cost < 0 ∨ a.cost ≥ 1099511627776 ∨ (a.f = a.t ∧ a.cost = 0))
instance (s terms : Int) (a : Arc) : Decidable (arcOk s terms a) := by unfold arcOk; infer_instance
def before (a b : Arc) : Prop := a.f < b.f ∨ (a.f = b.f ∧ (a.t < b.t ∨ (a.t = b.t ∧ a.term < b.term)))
instance (a b : Arc) : Decidable (before a b) := by unfold before; infer_instance
def finOk (f : List Int) (i : Nat) : Prop := 0 ≤ f.getD i default ∧ f.getD i default ≤ 1099511627776
def arcsOk (l : Lattice) (terms : Int) (i : Nat) : Prop := arcOk l.states terms (l.arcs.getD i default) ∧ (i = 0 ∨ before (l.arcs.getD (i - 1) default) (l.arcs.getD i default))
def validP (l : Lattice) (terms : Int) : Prop := (1 ≤ l.states ∧ (l.final.length : Int) = l.states) ∧ (∀ i, i < l.final.length → finOk l.final i) ∧ ∀ i, i < l.arcs.length → arcsOk l terms i
instance (f : List Int) (i : Nat) : Decidable (finOk f i) := by unfold finOk; infer_instance
instance (l : Lattice) (terms : Int) (i : Nat) : Decidable (arcsOk l terms i) := by unfold arcsOk; infer_instance
instance (l : Lattice) (terms : Int) : Decidable (validP l terms) := by unfold validP; infer_instance

theorem cmp_before (a b : Arc) : orI [cmpI a.f b.f, cmpI a.t b.t, cmpI a.term b.term] < 0 ↔ before a b := by
  simp only [orI, cmpI, before]
  by_cases h1 : a.f < b.f
  · simp [h1]
  · by_cases h2 : b.f < a.f
    · have : a.f ≠ b.f := by omega
      simp [h1, h2, this]
    · have : a.f = b.f := by omega
      rw [this]
      by_cases h3 : a.t < b.t
      · simp [h3]
      · by_cases h4 : b.t < a.t
        · have : a.t ≠ b.t := by omega
          simp [h3, h4, this]
        · have : a.t = b.t := by omega
          rw [this]
          by_cases h5 : a.term < b.term
          · simp [h5]
          · by_cases h6 : b.term < a.term
            · simp [h5, h6]
            · simp [h5, h6]

abbrev spec33 : DM.Spec := specP (fun ts => ∃ a b c d e f, ts = [.agg [ti a, ti b, ti c], .agg [ti d, ti e, ti f]]) (fun | [.agg [.int _ a, .int _ b, .int _ c], .agg [.int _ d, .int _ e, .int _ f]] => ti (orI [cmpI a d, cmpI b e, cmpI c f]) | _ => .bool false) true
theorem ok33 : EnvOk Tryd.prog (envOf [(25, spec33)]) := by
  refine EnvOk.cons EnvOk.nil ?_
  rintro ts ⟨a, b, c, d, e, f, rfl⟩
  exact ⟨t33 a b c d e f, fun _ => rfl⟩

set_option maxHeartbeats 4000000 in
theorem t15 (l : Lattice) (terms : Int) (h1 : l.final.length ≤ 1000000000) (h2 : l.arcs.length ≤ 1000000000) : CallsOk Tryd.prog 18 [l.enc, ti terms] (.bool (decide (validP l terms))) := by
  have hΓ := ok33
  obtain ⟨s, arcs, fin⟩ := l
  simp only at h1 h2
  have hval : validP ⟨s, arcs, fin⟩ terms ↔ (1 ≤ s ∧ (fin.length : Int) = s) ∧ (∀ i, i < fin.length → finOk fin i) ∧ ∀ i, i < arcs.length → arcsOk ⟨s, arcs, fin⟩ terms i := Iff.rfl
  obtain ⟨v, hv⟩ : ∃ v, decide (validP ⟨s, arcs, fin⟩ terms) = v := ⟨_, rfl⟩
  rw [hv]
  refine c15.ok (by simp) (initSt_sat ?_)
  simp [Lattice.enc]
  refine SatD.regSeq hΓ follows [1, 2] ?_
  simp [d15r0]
  refine SatD.le (Le.keep (o := []) (l := [(1, .v (ti terms)), (2, .v (.box [ti s, .sl (arcsT arcs), .sl (intsT fin)]))]) (nxt' := 1200) ?_ ?_ ?_ ?_) ?_
  · simp
  · simp
  · simp
  · simp
  refine SatD.seq ?_
  refine SatD.regToS hΓ follows [(1, .v (ti terms)), (2, .v (.box [ti s, .sl (arcsT arcs), .sl (intsT fin)])), (20, .v (.bool (decide (s < 1 ∨ (fin.length : Int) ≠ s))))] ?_ ?_
  · by_cases q1 : s < 1
    · simp [d15r1, q1]
    · by_cases q2 : (fin.length : Int) = s <;> simp [d15r1, q1, q2]
  have bad : ¬ validP ⟨s, arcs, fin⟩ terms → v = false := fun h => by rw [← hv]; simp [h]
  refine SatD.cond rfl (fun h => ?_) (fun h => ?_)
  · refine SatD.regSeq hΓ follows [4] ?_
    simp [d15r2]
    refine SatD.ret ?_
    simp only [decide_eq_true_eq] at h
    rw [bad fun hp => by have := (hval.1 hp).1; omega]
    simp [d15res]
  simp only [decide_eq_false_iff_not, not_or, Classical.not_not] at h
  obtain ⟨hs1, hs2⟩ := h
  refine SatD.skip ?_
  simp
  refine SatD.seq ?_
  refine SatD.regSeq hΓ follows [1, 2, 22, 23, 24] ?_
  simp [d15r3]
  refine SatD.block ?_
  refine SatD.loop (fun y : Nat => ⟨DM.look [(1, .v (ti terms)), (2, .v (.box [ti s, .sl (arcsT arcs), .sl (intsT fin)])), (22, .v (.sl (intsT fin))), (23, .v (ti fin.length)), (24, .v (ti y))], obs [], 2000, 1000, []⟩)
    (fun y => y ≤ fin.length ∧ ∀ i, i < y → finOk fin i) (fun y => fin.length - y) 0 (Le.keep (o := []) ?_ ?_ ?_ ?_) (by simp) (fun y hy => ?_)
  · simp
  · simp
  · simp
  · simp
  obtain ⟨hy1, hy2⟩ := hy
  refine SatD.regSeq hΓ follows [1, 2, 22, 23, 24, 25] ?_
  simp [d15r4]
  refine SatD.seq ?_
  refine SatD.cond rfl (fun hcc => ?_) (fun hcc => ?_)
  · simp at hcc
    refine SatD.skip ?_
    simp
    refine SatD.seq ?_
    refine SatD.block ?_
    have hr := rowAt_ints hcc
    obtain ⟨p, hp⟩ : ∃ p, fin.getD y default = p := ⟨_, rfl⟩
    rw [hp] at hr
    refine SatD.regSeq hΓ follows [1, 2, 6, 22, 23, 24] ?_
    simp [d15r5, hr, hcc]
    refine SatD.regToS hΓ follows [(1, .v (ti terms)), (2, .v (.box [ti s, .sl (arcsT arcs), .sl (intsT fin)])), (22, .v (.sl (intsT fin))), (23, .v (ti fin.length)), (24, .v (ti y)), (33, .v (.bool (decide (p < 0 ∨ 1099511627776 < p))))] ?_ ?_
    · by_cases q1 : p < 0
      · simp [d15r6, q1]
      · have q3 : 0 ≤ p := by omega
        by_cases q2 : 1099511627776 < p
        · simp [d15r6, q1, q2]
        · simp [d15r6, q1, q2]
    refine SatD.cond rfl (fun h => ?_) (fun h => ?_)
    · refine SatD.regSeq hΓ follows [4] ?_
      simp [d15r7]
      refine SatD.ret ?_
      simp only [decide_eq_true_eq] at h
      rw [bad fun hp' => by have := (hval.1 hp').2.1 y hcc; unfold finOk at this; rw [hp] at this; omega]
      simp [d15res]
    · simp only [decide_eq_false_iff_not] at h
      refine SatD.skip ?_
      simp
      refine SatD.reg hΓ follows [1, 2, 22, 23, 24] ?_
      simp [d15r8]
      rw [wrap_id (by omega)]
      refine ⟨y + 1, Le.keep (o := []) ?_ ?_ ?_ ?_, ⟨by omega, fun i hi => ?_⟩, by omega⟩
      · simp
      · simp
      · simp
      · simp
      · by_cases e : i = y
        · subst e; unfold finOk; rw [hp]; omega
        · exact hy2 i (by omega)
  simp at hcc
  have hf : ∀ i, i < fin.length → finOk fin i := fun i hi => hy2 i (by omega)
  refine SatD.exit ?_
  simp
  refine SatD.seq ?_
  refine SatD.regSeq hΓ follows [1, 2, 36, 37, 38] ?_
  simp [d15r9]
  refine SatD.block ?_
  refine SatD.loop (fun y : Nat => ⟨DM.look [(1, .v (ti terms)), (2, .v (.box [ti s, .sl (arcsT arcs), .sl (intsT fin)])), (36, .v (.sl (arcsT arcs))), (37, .v (ti arcs.length)), (38, .v (ti y))], obs [], 3000, 1000, []⟩)
    (fun y => y ≤ arcs.length ∧ ∀ i, i < y → arcsOk ⟨s, arcs, fin⟩ terms i) (fun y => arcs.length - y) 0 (Le.keep (o := []) ?_ ?_ ?_ ?_) (by simp) (fun y hy => ?_)
  · simp
  · simp
  · simp
  · simp
  obtain ⟨hy1, hy2⟩ := hy
  refine SatD.regSeq hΓ follows [1, 2, 36, 37, 38, 39] ?_
  simp [d15r10]
  refine SatD.seq ?_
  refine SatD.cond rfl (fun hcc => ?_) (fun hcc => ?_)
  · simp at hcc
    refine SatD.skip ?_
    simp
    refine SatD.seq ?_
    refine SatD.block ?_
    have hr := rowAt_arcs hcc
    obtain ⟨a, ha⟩ : ∃ a, arcs.getD y default = a := ⟨_, rfl⟩
    rw [ha] at hr
    obtain ⟨af, at', ax, ac, ao⟩ := a
    refine SatD.regSeq hΓ follows [1, 2, 7, 8, 36, 37, 38] ?_
    simp [d15r11, hr, hcc, Arc.enc]
    refine SatD.le (Le.keep (o := []) (l := [(1, .v (ti terms)), (2, .v (.box [ti s, .sl (arcsT arcs), .sl (intsT fin)])), (7, .v (ti y)), (8, .v (.box [ti af, ti at', ti ax, ti ac, .sl (opsT ao)])), (36, .v (.sl (arcsT arcs))), (37, .v (ti arcs.length)), (38, .v (ti y))]) (nxt' := 4000) ?_ ?_ ?_ ?_) ?_
    · simp
    · simp
    · simp
    · simp
    obtain ⟨c1, hc1⟩ : ∃ c : Bool, decide (¬ arcOk s terms ⟨af, at', ax, ac, ao⟩) = c := ⟨_, rfl⟩
    refine SatD.seq ?_
    refine SatD.regToS hΓ follows [(1, .v (ti terms)), (2, .v (.box [ti s, .sl (arcsT arcs), .sl (intsT fin)])), (7, .v (ti y)), (8, .v (.box [ti af, ti at', ti ax, ti ac, .sl (opsT ao)])), (36, .v (.sl (arcsT arcs))), (37, .v (ti arcs.length)), (38, .v (ti y)), (92, .v (.bool c1))] ?_ ?_
    · have hc1' : c1 = decide (af < 0 ∨ af > at' ∨ at' ≥ s ∨ ax < 0 ∨ ax ≥ terms ∨ ac < 0 ∨ ac ≥ 1099511627776 ∨ (af = at' ∧ ac = 0)) := by
        rw [← hc1, decide_eq_decide]; simp only [arcOk, Classical.not_not]
      rw [hc1']
      by_cases q1 : af < 0
      · simp [d15r12, q1]
      · by_cases q2 : at' < af
        · simp [d15r12, q1, q2]
        · by_cases q3 : s ≤ at'
          · simp [d15r12, q1, q2, q3]
          · by_cases q4 : ax < 0
            · simp [d15r12, q1, q2, q3, q4]
            · by_cases q5 : terms ≤ ax
              · simp [d15r12, q1, q2, q3, q4, q5]
              · by_cases q6 : ac < 0
                · simp [d15r12, q1, q2, q3, q4, q5, q6]
                · by_cases q7 : 1099511627776 ≤ ac
                  · simp [d15r12, q1, q2, q3, q4, q5, q6, q7]
                  · by_cases q8 : af = at'
                    · by_cases q9 : ac = 0
                      · subst q8
                        simp [d15r12, q1, q2, q3, q4, q5, q6, q7, q9]
                      · subst q8
                        simp [d15r12, q1, q2, q3, q4, q5, q6, q7, q9]
                    · simp [d15r12, q1, q2, q3, q4, q5, q6, q7, q8]
    refine SatD.cond rfl (fun h => ?_) (fun h => ?_)
    · refine SatD.regSeq hΓ follows [4] ?_
      simp [d15r13]
      refine SatD.ret ?_
      rw [bad fun hp' => by
        have := ((hval.1 hp').2.2 y hcc).1
        simp only [ha] at this
        rw [h] at hc1
        simp only [decide_eq_true_eq] at hc1
        exact hc1 this]
      simp [d15res]
    rw [h] at hc1
    simp only [decide_eq_false_iff_not, Classical.not_not] at hc1
    refine SatD.skip ?_
    simp
    refine SatD.regSeq hΓ follows [1, 2, 7, 8, 36, 37, 38, 94] ?_
    simp [d15r14]
    refine SatD.cond rfl (fun h => ?_) (fun h => ?_)
    · simp at h
      obtain ⟨z, hz⟩ : ∃ z, y = z + 1 := ⟨y - 1, by omega⟩
      have w1 : IntKind.i64.wrap ((y : Int) - 1) = z := by rw [wrap_id (by omega)]; omega
      have hzl : z < arcs.length := by omega
      have hr2 := rowAt_arcs hzl
      obtain ⟨b, hb⟩ : ∃ b, arcs.getD z default = b := ⟨_, rfl⟩
      rw [hb] at hr2
      have hz1 : y - 1 = z := by omega
      refine SatD.regSeq hΓ follows [1, 2, 8, 9, 36, 37, 38] ?_
      simp [d15r15, w1, hr2, hzl, Arc.enc]
      refine SatD.regSeq hΓ follows [1, 2, 36, 37, 38, 116] ?_
      simp [d15r16]
      refine SatD.cond rfl (fun h => ?_) (fun h => ?_)
      · refine SatD.regSeq hΓ follows [4] ?_
        simp [d15r17]
        refine SatD.ret ?_
        simp at h
        rw [bad fun hp' => by
          have := ((hval.1 hp').2.2 y hcc).2
          simp only [ha, hz1, hb] at this
          have h3 := (cmp_before b ⟨af, at', ax, ac, ao⟩)
          simp only at h3
          rcases this with h2 | h2
          · omega
          · have := h3.2 h2; omega]
        simp [d15res]
      · simp at h
        have hok : arcsOk ⟨s, arcs, fin⟩ terms y := by
          refine ⟨by simp only [ha]; exact hc1, .inr ?_⟩
          simp only [ha, hz1, hb]
          exact (cmp_before b ⟨af, at', ax, ac, ao⟩).1 h
        refine SatD.skip ?_
        simp
        refine SatD.reg hΓ follows [1, 2, 36, 37, 38] ?_
        simp [d15r18]
        rw [wrap_id (by omega)]
        refine ⟨y + 1, Le.keep (o := []) ?_ ?_ ?_ ?_, ⟨by omega, fun i hi => ?_⟩, by omega⟩
        · simp
        · simp
        · simp
        · simp
        · by_cases e : i = y
          · subst e; exact hok
          · exact hy2 i (by omega)
    · simp at h
      have hok : arcsOk ⟨s, arcs, fin⟩ terms y := ⟨by simp only [ha]; exact hc1, .inl (by omega)⟩
      refine SatD.skip ?_
      simp
      refine SatD.reg hΓ follows [1, 2, 36, 37, 38] ?_
      simp [d15r18]
      rw [wrap_id (by omega)]
      refine ⟨y + 1, Le.keep (o := []) ?_ ?_ ?_ ?_, ⟨by omega, fun i hi => ?_⟩, by omega⟩
      · simp
      · simp
      · simp
      · simp
      · by_cases e : i = y
        · subst e; exact hok
        · exact hy2 i (by omega)
  simp at hcc
  refine SatD.exit ?_
  simp
  refine SatD.regSeq hΓ follows [4] ?_
  simp [d15r19]
  refine SatD.ret ?_
  have : v = true := by rw [← hv]; simp only [decide_eq_true_eq]; exact hval.2 ⟨⟨by omega, hs2⟩, hf, fun i hi => hy2 i (by omega)⟩
  rw [this]
  simp [d15res]
end Go.Proofs
/- Valid, the specification. Conditions: none. -/
namespace Go.Proofs
open Go.DM
set_option linter.unusedSimpArgs false
set_option linter.unusedVariables false

theorem t39 (a b : Arc) : CallsOk Tryd.prog 42 [.agg a.enc, .agg b.enc] (.bool (decide (before a b))) := by
  have hΓ := okE
  obtain ⟨v, hv⟩ : ∃ v, decide (before a b) = v := ⟨_, rfl⟩
  rw [hv]
  refine c39.ok (by simp) (initSt_sat ?_)
  simp [Arc.enc]
  refine SatD.regSeq hΓ follows [2, 3] ?_
  simp [d39r0]
  refine SatD.seq ?_
  refine SatD.regSeq hΓ follows [2, 3, 9] ?_
  simp [d39r1]
  refine SatD.cond rfl (fun h => ?_) (fun h => ?_)
  · simp at h
    refine SatD.regSeq hΓ follows [4] ?_
    simp [d39r2]
    refine SatD.ret ?_
    simp [d39res, ← hv, before, h]
  · simp at h
    refine SatD.skip ?_
    simp
    refine SatD.seq ?_
    refine SatD.regSeq hΓ follows [2, 3, 19] ?_
    simp [d39r3]
    refine SatD.cond rfl (fun h2 => ?_) (fun h2 => ?_)
    · simp at h2
      refine SatD.regSeq hΓ follows [4] ?_
      simp [d39r4]
      refine SatD.ret ?_
      simp [d39res, ← hv, before, h, h2]
    · simp at h2
      refine SatD.skip ?_
      simp
      refine SatD.regSeq hΓ follows [4] ?_
      simp [d39r5]
      refine SatD.ret ?_
      simp [d39res, ← hv, before, h, h2]
abbrev spec39 : DM.Spec := specP (fun ts => ∃ a b : Arc, ts = [.agg a.enc, .agg b.enc]) (fun | [.agg x, .agg y] => .bool (decide (before (decArc x) (decArc y))) | _ => .bool false) true
theorem ok39 : EnvOk Tryd.prog (envOf [(42, spec39)]) := by
  refine EnvOk.cons EnvOk.nil ?_
  rintro ts ⟨a, b, rfl⟩
  exact ⟨by simpa using t39 a b, fun _ => rfl⟩

end Go.Proofs
