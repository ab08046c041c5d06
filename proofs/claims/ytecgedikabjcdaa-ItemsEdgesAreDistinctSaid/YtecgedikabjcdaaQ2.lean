/- What a fair grammar and lattice are. Conditions: none. -/
import Derived.Test.YtecgedikabjcdaaQ1
import Derived.Test.YtecgedikabjcdaaL1
namespace Go.Proofs
open Go.DM Go.DM.Srt
set_option linter.unusedSimpArgs false
set_option linter.unusedVariables false

structure FairP (n : Normal) (l : Lattice) : Prop where
  nt : 1 ≤ n.nonterms ∧ n.nonterms ≤ 14
  terms : 0 ≤ n.terms ∧ n.terms ≤ 6
  nr : n.rules.length ≤ 24
  start : 0 ≤ n.start ∧ n.start < n.nonterms
  rules : ∀ r ∈ n.rules, ¬ ruleBad n r ∧ bodyOk n r
  st : 1 ≤ l.states ∧ l.states ≤ 11
  nfin : (l.final.length : Int) = l.states
  na : l.arcs.length ≤ 120
  fin : ∀ c ∈ l.final, 0 ≤ c ∧ c ≤ Inf
  arcs : ∀ i, i < l.arcs.length → ¬ badArc l n.terms i

theorem fairP {n : Normal} {l : Lattice} (h : fair n l = true) : FairP n l := by
  simp only [fair, smallN, Bool.and_eq_true, decide_eq_true_eq, validN, validL, Bool.not_eq_true', decide_eq_false_iff_not, List.all_eq_true, List.mem_range, okRule, okArc, okFin] at h
  obtain ⟨⟨⟨⟨h1, h2, h3⟩, h4, h5⟩, h6, h7⟩, ⟨h8, h9⟩, h10, h11⟩ := h
  unfold headBad at h4
  refine ⟨by omega, by omega, by omega, by omega, fun r hr => ?_, by omega, h9, by omega, fun c hc => ?_, h11⟩
  · obtain ⟨i, hi, rfl⟩ := List.mem_iff_getElem.1 hr
    have := h5 i hi
    simpa [hi] using this
  · obtain ⟨i, hi, rfl⟩ := List.mem_iff_getElem.1 hc
    have := h10 i hi
    simpa [hi] using this
theorem FairP.head {n : Normal} {l : Lattice} (h : FairP n l) : ∀ r ∈ n.rules, 0 ≤ r.head ∧ r.head < n.nonterms := by
  intro r hr
  have := (h.rules r hr).1
  unfold ruleBad at this
  omega
theorem FairP.arc {n : Normal} {l : Lattice} (h : FairP n l) : ∀ a ∈ l.arcs, 0 ≤ a.f ∧ a.f ≤ a.t ∧ a.t < l.states ∧ 0 ≤ a.term ∧ a.term < n.terms ∧ 0 ≤ a.cost ∧ a.cost < Inf := by
  intro a ha
  obtain ⟨i, hi, rfl⟩ := List.mem_iff_getElem.1 ha
  have := h.arcs i hi
  unfold badArc at this
  rw [List.getD_eq_getElem?_getD, List.getElem?_eq_getElem hi, Option.getD_some] at this
  simp only [Inf] at *
  omega
theorem FairP.fit {n : Normal} {l : Lattice} (h : FairP n l) : Fit n l := by
  have h1 := h.nt
  have h2 := h.st
  have h3 := h.start
  have h4 := h.nr
  have h5 := h.na
  have h6 := h.nfin
  refine ⟨⟨by omega, by omega, by omega, by omega⟩, by omega, fun r hr => ?_, by omega, ⟨by omega, fun a ha => ?_⟩, by omega, by omega, by omega⟩
  · obtain ⟨k1, k2⟩ := h.rules r hr
    unfold ruleBad at k1
    unfold bodyOk at k2
    refine ⟨⟨by omega, by omega, by omega, by omega⟩, fun e => by omega, fun e => by omega⟩
  · have := h.arc a ha
    simp only [Inf] at *
    omega
end Go.Proofs
