/- Plain laws of the list of hyperedges: heads in order. Conditions: none. -/
import Derived.Test.YtecgedikabjcdaaHa
import Derived.Test.YtecgedikabjcdaaAa
import Derived.Test.YtecgedikabjcdaaI0c
namespace Go.Proofs
open Go.DM Go.DM.Srt
set_option linter.unusedSimpArgs false
set_option linter.unusedVariables false

def lexL (a b : Edge) : Prop := a.l0 < b.l0 ∨ (a.l0 = b.l0 ∧ a.l1 < b.l1)
def lexE (a b : Edge) : Prop := a.head < b.head ∨ (a.head = b.head ∧ lexL a b)

theorem inst_l0 {nt st : Int} {r : Rule} {arcs : List Arc} {f t k : Int} {e : Edge} (he : e ∈ inst nt st r arcs f t k) : e.l0 = k := by
  unfold inst at he
  split at he
  · split at he
    · simp only [List.mem_singleton] at he; subst he; rfl
    · cases he
  split at he
  · simp only [List.mem_flatMap] at he
    obtain ⟨i, _, he⟩ := he
    split at he
    · simp only [List.mem_singleton] at he; subst he; rfl
    · cases he
  split at he
  · simp only [List.mem_singleton] at he; subst he; rfl
  split at he
  · simp only [List.mem_map] at he
    obtain ⟨j, _, rfl⟩ := he
    rfl
  · cases he
theorem range_lt (n : Nat) : (List.range n).Pairwise (· < ·) := List.pairwise_lt_range
theorem inst_lex (nt st : Int) (r : Rule) (arcs : List Arc) (f t k : Int) : (inst nt st r arcs f t k).Pairwise lexL := by
  unfold inst
  split
  · split
    · exact List.pairwise_singleton ..
    · exact List.Pairwise.nil
  split
  · rw [List.pairwise_flatMap]
    refine ⟨fun i _ => by split; exact List.pairwise_singleton ..; exact List.Pairwise.nil, (range_lt _).imp fun {a b} hab x hx y hy => ?_⟩
    split at hx
    · split at hy
      · simp only [List.mem_singleton] at hx hy
        subst hx hy
        exact .inr ⟨rfl, by simp only [edgeOf]; omega⟩
      · cases hy
    · cases hx
  split
  · exact List.pairwise_singleton ..
  split
  · rw [List.pairwise_map]
    exact (range_lt _).imp fun {a b} hab => .inr ⟨rfl, by simp only [edgeOf]; omega⟩
  · exact List.Pairwise.nil
theorem spanL_lex (nt st : Int) (rules : List Rule) (arcs : List Arc) (f t : Int) (k : Nat) : (spanL nt st rules arcs f t k).Pairwise lexL := by
  unfold spanL
  rw [List.pairwise_flatMap]
  refine ⟨fun i _ => inst_lex .., (range_lt _).imp fun {a b} hab x hx y hy => .inl ?_⟩
  rw [inst_l0 hx, inst_l0 hy]
  omega
theorem swoH : SWO ltH := by
  refine ⟨fun x => ?_, fun x y z h1 h2 => ?_, fun x y z h1 h2 => ?_⟩ <;> simp only [ltH, decide_eq_true_eq, decide_eq_false_iff_not] at * <;> omega
theorem eqvH (a b : Edge) : eqv ltH a b = true ↔ a.head = b.head := by
  simp only [eqv, ltH, Bool.and_eq_true, Bool.not_eq_true', decide_eq_false_iff_not]
  omega
/-- The stable sort by heads of a list that is in order by labels is in order by heads and labels. -/
theorem sorted_lex : ∀ (l : List Edge), Sorted ltH l → (∀ z, (l.filter (eqv ltH z)).Pairwise lexL) → l.Pairwise lexE
  | [], _, _ => List.Pairwise.nil
  | a :: l, hs, hf => by
    have hs' := List.pairwise_cons.1 hs
    refine List.pairwise_cons.2 ⟨fun b hb => ?_, sorted_lex l hs'.2 fun z => ?_⟩
    · have h1 := hs'.1 b hb
      simp only [ltH, decide_eq_false_iff_not] at h1
      by_cases e : a.head = b.head
      · refine .inr ⟨e, ?_⟩
        have := hf a
        rw [List.filter_cons, (eqvH a a).2 rfl] at this
        simp only [if_true] at this
        exact (List.pairwise_cons.1 this).1 b (List.mem_filter.2 ⟨hb, (eqvH a b).2 e⟩)
      · exact .inl (by omega)
    · have := hf z
      rw [List.filter_cons] at this
      split at this
      · exact (List.pairwise_cons.1 this).2
      · exact this
theorem isort_lex {l : List Edge} (h : l.Pairwise lexL) : (isort ltH l).Pairwise lexE :=
  sorted_lex _ (isort_sorted swoH l) fun z => by rw [isort_filter swoH]; exact h.filter _

theorem spanE_head {n : Normal} {l : Lattice} (h : Fit n l) (hr : ∀ r ∈ n.rules, 0 ≤ r.head ∧ r.head < n.nonterms) {f t : Int} (hf : 0 ≤ f) {e : Edge} (he : e ∈ spanE n.nonterms l.states n.rules l.arcs f t) :
    spanI l.states f t * n.nonterms ≤ e.head ∧ e.head < spanI l.states f t * n.nonterms + n.nonterms := by
  unfold spanE at he
  rw [mem_isort] at he
  simp only [spanL, List.mem_flatMap, List.mem_range] at he
  obtain ⟨i, hi, he⟩ := he
  have := hr (n.rules.getD i default) (by simp [hi])
  rw [inst_head he, idx_eq hf]
  omega
theorem rowL_head {n : Normal} {l : Lattice} (h : Fit n l) (hr : ∀ r ∈ n.rules, 0 ≤ r.head ∧ r.head < n.nonterms) {f t : Nat} {e : Edge} (he : e ∈ rowL n.nonterms l.states n.rules l.arcs f t) :
    ∃ u : Nat, f ≤ u ∧ u < t ∧ spanI l.states f u * n.nonterms ≤ e.head ∧ e.head < spanI l.states f u * n.nonterms + n.nonterms := by
  unfold rowL at he
  rw [List.mem_flatMap] at he
  obtain ⟨u, hu, he⟩ := he
  rw [List.mem_iff_getElem] at hu
  obtain ⟨j, hj, rfl⟩ := hu
  simp only [List.length_drop, List.length_range] at hj
  rw [List.getElem_drop, List.getElem_range] at *
  exact ⟨f + j, by omega, by omega, spanE_head h hr (by omega) he⟩
theorem span_mul {nt a b : Int} (hn : 0 ≤ nt) (h : a < b) : a * nt + nt ≤ b * nt := by
  have := Int.mul_le_mul_of_nonneg_right (show a + 1 ≤ b by omega) hn
  rw [Int.add_mul] at this
  omega
theorem rowL_lex {n : Normal} {l : Lattice} (h : Fit n l) (hr : ∀ r ∈ n.rules, 0 ≤ r.head ∧ r.head < n.nonterms) (f t : Nat) : (rowL n.nonterms l.states n.rules l.arcs f t).Pairwise lexE := by
  unfold rowL
  rw [List.pairwise_flatMap]
  refine ⟨fun u _ => isort_lex (spanL_lex ..), ?_⟩
  refine (((range_lt t).drop (i := f)).imp fun {a b} hab x hx y hy => .inl ?_)
  have h1 := spanE_head h hr (by omega) hx
  have h2 := spanE_head h hr (by omega) hy
  have := span_mul (nt := n.nonterms) (a := spanI l.states f a) (b := spanI l.states f b) h.sm.1 (by unfold spanI; omega)
  omega
theorem allL_head {n : Normal} {l : Lattice} (h : Fit n l) (hr : ∀ r ∈ n.rules, 0 ≤ r.head ∧ r.head < n.nonterms) {f : Nat} {e : Edge} (he : e ∈ allL n.nonterms l.states n.rules l.arcs f) :
    ∃ s u : Nat, s < f ∧ s ≤ u ∧ (u : Int) < l.states ∧ spanI l.states s u * n.nonterms ≤ e.head ∧ e.head < spanI l.states s u * n.nonterms + n.nonterms := by
  unfold allL at he
  simp only [List.mem_flatMap, List.mem_range] at he
  obtain ⟨s, hs, he⟩ := he
  obtain ⟨u, h1, h2, h3⟩ := rowL_head h hr he
  exact ⟨s, u, hs, h1, by omega, h3⟩
theorem allL_lex {n : Normal} {l : Lattice} (h : Fit n l) (hr : ∀ r ∈ n.rules, 0 ≤ r.head ∧ r.head < n.nonterms) (f : Nat) (hf : (f : Int) ≤ l.states) : (allL n.nonterms l.states n.rules l.arcs f).Pairwise lexE := by
  unfold allL
  rw [List.pairwise_flatMap]
  refine ⟨fun s _ => rowL_lex h hr _ _, ?_⟩
  have : (List.range f).Pairwise fun a b => a < b ∧ b < f := by
    rw [List.pairwise_iff_getElem]
    intro i j hi hj hij
    have hj' : j < f := by simpa using hj
    simp only [List.getElem_range]
    omega
  refine this.imp fun {a b} hab x hx y hy => .inl ?_
  obtain ⟨u, h1, h2, h3, h4⟩ := rowL_head h hr hx
  obtain ⟨v, k1, k2, k3, k4⟩ := rowL_head h hr hy
  have hlt := span_lt (st := l.states) (f := b) (t := v) (s := a) (u := u) (by omega) (by omega) (by omega) (by omega) (by omega)
  have := span_mul (nt := n.nonterms) h.sm.1 hlt
  omega
theorem finL_lex (nt st start : Int) (fin : List Int) (k : Nat) : (finL nt st start fin k).Pairwise lexE := by
  unfold finL
  rw [List.pairwise_flatMap]
  refine ⟨fun i _ => ?_, (range_lt _).imp fun {a b} hab x hx y hy => ?_⟩
  · unfold finE; split
    · exact List.pairwise_singleton ..
    · exact List.Pairwise.nil
  · unfold finE at hx hy
    split at hx
    · split at hy
      · simp only [List.mem_singleton] at hx hy
        subst hx hy
        exact .inr ⟨rfl, .inr ⟨rfl, by simp only; omega⟩⟩
      · cases hy
    · cases hx
theorem finL_head {nt st start : Int} {fin : List Int} {k : Nat} {e : Edge} (he : e ∈ finL nt st start fin k) : ∃ t : Nat, t < k ∧ e = ⟨goalI nt st, [idxI nt st start 0 t], fin.getD t default, -1, t⟩ ∧ fin.getD t default < Inf := by
  unfold finL at he
  simp only [List.mem_flatMap, List.mem_range] at he
  obtain ⟨i, hi, he⟩ := he
  unfold finE at he
  split at he
  · simp only [List.mem_singleton] at he
    exact ⟨i, hi, he, by assumption⟩
  · cases he
/-- The hyperedges are in order by heads and labels. -/
theorem hyper_lex {n : Normal} {l : Lattice} (h : Fit n l) (hr : ∀ r ∈ n.rules, 0 ≤ r.head ∧ r.head < n.nonterms) : (hyper n l).Pairwise lexE := by
  unfold hyper
  have hst := h.sm.2.2.1
  rw [List.pairwise_append]
  refine ⟨allL_lex h hr _ (by omega), finL_lex .., fun a ha b hb => .inl ?_⟩
  obtain ⟨s, u, h1, h2, h3, h4, h5⟩ := allL_head h hr ha
  obtain ⟨t, ht, rfl, _⟩ := finL_head hb
  simp only
  rw [goal_eq hst]
  have hp := span_pos (st := l.states) (f := s) (t := u) h.sm.2.2.2 (by omega) (by omega) h3
  have := span_mul (nt := n.nonterms) h.sm.1 hp.2.1
  omega
end Go.Proofs
/- What a fair grammar and lattice are. Conditions: none. -/
namespace Go.Proofs
open Go.DM Go.DM.Srt
set_option linter.unusedSimpArgs false
set_option linter.unusedVariables false

structure FairP (n : Normal) (l : Lattice) : Prop where
  nt : 1 ≤ n.nonterms ∧ n.nonterms ≤ 14
  terms : 0 ≤ n.terms ∧ n.terms ≤ 6
  nr : n.rules.length ≤ 24
  start : 0 ≤ n.start ∧ n.start < n.nonterms
  rules : ∀ r ∈ n.rules, ¬ ruleBad n r ∧ bodyOk n r
  st : 1 ≤ l.states ∧ l.states ≤ 11
  nfin : (l.final.length : Int) = l.states
  na : l.arcs.length ≤ 120
  fin : ∀ c ∈ l.final, 0 ≤ c ∧ c ≤ Inf
  arcs : ∀ i, i < l.arcs.length → ¬ badArc l n.terms i

theorem fairP {n : Normal} {l : Lattice} (h : fair n l = true) : FairP n l := by
  simp only [fair, smallN, Bool.and_eq_true, decide_eq_true_eq, validN, validL, Bool.not_eq_true', decide_eq_false_iff_not, List.all_eq_true, List.mem_range, okRule, okArc, okFin] at h
  obtain ⟨⟨⟨⟨h1, h2, h3⟩, h4, h5⟩, h6, h7⟩, ⟨h8, h9⟩, h10, h11⟩ := h
  unfold headBad at h4
  refine ⟨by omega, by omega, by omega, by omega, fun r hr => ?_, by omega, h9, by omega, fun c hc => ?_, h11⟩
  · obtain ⟨i, hi, rfl⟩ := List.mem_iff_getElem.1 hr
    have := h5 i hi
    simpa [hi] using this
  · obtain ⟨i, hi, rfl⟩ := List.mem_iff_getElem.1 hc
    have := h10 i hi
    simpa [hi] using this
theorem FairP.head {n : Normal} {l : Lattice} (h : FairP n l) : ∀ r ∈ n.rules, 0 ≤ r.head ∧ r.head < n.nonterms := by
  intro r hr
  have := (h.rules r hr).1
  unfold ruleBad at this
  omega
theorem FairP.arc {n : Normal} {l : Lattice} (h : FairP n l) : ∀ a ∈ l.arcs, 0 ≤ a.f ∧ a.f ≤ a.t ∧ a.t < l.states ∧ 0 ≤ a.term ∧ a.term < n.terms ∧ 0 ≤ a.cost ∧ a.cost < Inf := by
  intro a ha
  obtain ⟨i, hi, rfl⟩ := List.mem_iff_getElem.1 ha
  have := h.arcs i hi
  unfold badArc at this
  rw [List.getD_eq_getElem?_getD, List.getElem?_eq_getElem hi, Option.getD_some] at this
  simp only [Inf] at *
  omega
theorem FairP.fit {n : Normal} {l : Lattice} (h : FairP n l) : Fit n l := by
  have h1 := h.nt
  have h2 := h.st
  have h3 := h.start
  have h4 := h.nr
  have h5 := h.na
  have h6 := h.nfin
  refine ⟨⟨by omega, by omega, by omega, by omega⟩, by omega, fun r hr => ?_, by omega, ⟨by omega, fun a ha => ?_⟩, by omega, by omega, by omega⟩
  · obtain ⟨k1, k2⟩ := h.rules r hr
    unfold ruleBad at k1
    unfold bodyOk at k2
    refine ⟨⟨by omega, by omega, by omega, by omega⟩, fun e => by omega, fun e => by omega⟩
  · have := h.arc a ha
    simp only [Inf] at *
    omega
end Go.Proofs
namespace Go.Proofs
open Go.DM Go.DM.Srt
set_option linter.unusedSimpArgs false
set_option linter.unusedVariables false

noncomputable def Γ61 : Env := envOf [(9, specP (fun ts => ts = []) (fun _ => .bool true) true), (10, specP preFair fnFair true), (11, specP pre11 fn11 false)]
theorem ok61 : EnvOk Try.prog Γ61 := by
  refine EnvOk.cons (EnvOk.cons (EnvOk.cons EnvOk.nil ?_) ?_) ?_
  · rintro ts ⟨n, l, rfl, h⟩
    exact ⟨by simpa [fn11] using t11 n l h, fun h => by cases h⟩
  · rintro ts ⟨n, l, rfl, h1, h2, h3⟩
    exact ⟨by simpa [fnFair] using t10 n l h1 h2 h3, fun _ => rfl⟩
  · rintro ts rfl
    exact ⟨t9, fun _ => rfl⟩

theorem hyper_len {n : Normal} {l : Lattice} (h : Fit n l) : (hyper n l).length ≤ 101000000000 := by
  unfold hyper
  rw [List.length_append]
  have h1 := h.sm.2.2.1
  have := allL_len h l.states.toNat (by omega)
  have := finL_len h l.final.length (Nat.le_refl _)
  omega

set_option maxRecDepth 20000 in
set_option maxHeartbeats 4000000 in
theorem t6 (n : Normal) (l : Lattice) (hl : n.rules.length ≤ 9223372036854775807) (hf : l.final.length ≤ 9223372036854775807) (ha : l.arcs.length ≤ 9223372036854775807) : CallsOk Try.prog 6 [n.enc, l.enc] (.bool true) := by
  have hΓ := ok61
  refine c6.ok (by simp) (initSt_sat ?_)
  simp [Normal.enc, Lattice.enc]
  refine SatD.regSeq hΓ follows [2, 3] ?_
  simp [d6r0]
  refine SatD.seq ?_
  refine SatD.regSeq hΓ follows [2, 3, 10] ?_
  simp [d6r1, Γ61]
  refine SatD.cond rfl (fun h => by cases h) (fun _ => ?_)
  refine SatD.skip ?_
  simp
  refine SatD.seq ?_
  refine SatD.regSeq hΓ follows [2, 3, 14] ?_
  simp [d6r3, Γ61, specP, fnFair]
  refine ⟨⟨n, l, rfl, hl, hf, ha⟩, ?_⟩
  refine SatD.cond rfl (fun h => ?_) (fun h => ?_)
  · refine SatD.regSeq hΓ follows [4] ?_
    simp [d6r4]
    refine SatD.ret ?_
    simp [d6res]
  simp only [Bool.not_eq_false'] at h
  have hp : FairP n l := fairP h
  clear h
  have hfit := hp.fit
  have hlen := hyper_len hfit
  have hlex := hyper_lex hfit hp.head
  obtain ⟨es, hes⟩ : ∃ es, hyper n l = es := ⟨_, rfl⟩
  have hes' : hyper ⟨n.terms, n.nonterms, n.start, n.rules⟩ ⟨l.states, l.arcs, l.final⟩ = es := hes
  rw [hes] at hlen hlex
  refine SatD.skip ?_
  simp
  refine SatD.regSeq hΓ follows [5] ?_
  simp [d6r5, Γ61, specP, fn11, hes']
  refine ⟨⟨n, l, rfl, hfit⟩, ?_⟩
  generalize goalI n.nonterms l.states + 1 = gl
  refine SatD.le (Le.keep (o := []) (l := [(5, .v (.box [ti gl, .sl (edgesT es)]))]) (nxt' := 2000) ?_ ?_ ?_ ?_) ?_
  · simp
  · simp
  · simp
  · simp
  refine SatD.seq ?_
  refine SatD.regSeq hΓ follows [5, 6] ?_
  simp [d6r6]
  refine SatD.block ?_ -- 0
  refine SatD.loop (fun i : Nat => ⟨DM.look [(5, .v (.box [ti gl, .sl (edgesT es)])), (6, .v (ti i))], obs [], 3000, 1000, []⟩) (fun i => 1 ≤ i) (fun i => es.length - i) 1 (Le.keep ?_ ?_ ?_ ?_) (Nat.le_refl _) (fun i hi => ?_)
  · simp
  · simp
  · simp
  · simp
  refine SatD.seq ?_
  refine SatD.regSeq hΓ follows [5, 6, 22] ?_
  simp [d6r7]
  refine SatD.cond rfl (fun hc => ?_) (fun hc => ?_)
  · simp at hc
    obtain ⟨a, hga⟩ : ∃ a, es.getD (i - 1) default = a := ⟨_, rfl⟩
    obtain ⟨b, hgb⟩ : ∃ b, es.getD i default = b := ⟨_, rfl⟩
    have hab : lexE a b := by
      rw [← hga, ← hgb]
      have := List.pairwise_iff_getElem.1 hlex (i - 1) i (by omega) hc (by omega)
      simpa [hc, show i - 1 < es.length by omega] using this
    have r1 := rowAt_edges (l := es) (y := i - 1) (by omega)
    have r2 := rowAt_edges hc
    rw [hga] at r1
    rw [hgb] at r2
    have w1 : IntKind.i64.wrap ((i : Int) - 1) = ((i - 1 : Nat) : Int) := by rw [wrap_id (by omega)]; omega
    refine SatD.skip ?_
    simp
    refine SatD.seq ?_
    refine SatD.block ?_ -- 1
    refine SatD.regASeq hΓ follows (rs := annot d6r8 [some [], some [], some [], some [], some [], some [], some [], some [], some [], some [], some [], some [], some [], some [3084], some [3085]]) (.inl rfl) (by kernel_rfl) [5, 6, 7, 8] ?_
    simp [d6r8, annot, touchOk, opdsOf, names, namesL, w1, r1, r2, hc, Edge.enc]
    refine ⟨by omega, ?_⟩
    unfold lexE lexL at hab
    refine SatD.regToS hΓ follows [(5, .v (.box [ti gl, .sl (edgesT es)])), (6, .v (ti i)), (74, .v (.bool false))] ?_ ?_
    · simp [d6r9]
      repeat' (first | apply And.intro | intro _)
      all_goals first | omega | (simp; omega) | trace_state
    refine SatD.cond rfl (fun h => by cases h) (fun _ => ?_)
    refine SatD.skip ?_
    simp
    refine SatD.reg hΓ follows [5, 6] ?_
    simp [d6r11]
    refine ⟨i + 1, Le.keep ?_ ?_ ?_ ?_, ?_, ?_⟩ -- next round
    · simp
    · simp
    · simp
    · simp
      exact (wrap_id (by omega)).symm
    · omega
    · omega
  · refine SatD.exit ?_
    simp
    refine SatD.regSeq hΓ follows [4] ?_
    simp [d6r12]
    refine SatD.ret ?_
    simp [d6res]
end Go.Proofs
