import Derived.Test.YtecgedikabjcdaaQ2
import Derived.Test.YtecgedikabjcdaaI0c
namespace Go.Proofs
open Go.DM Go.DM.Srt
set_option linter.unusedSimpArgs false
set_option linter.unusedVariables false

noncomputable def Γ61 : Env := envOf [(9, specP (fun ts => ts = []) (fun _ => .bool true) true), (10, specP preFair fnFair true), (11, specP pre11 fn11 false)]
theorem ok61 : EnvOk Try.prog Γ61 := by
  refine EnvOk.cons (EnvOk.cons (EnvOk.cons EnvOk.nil ?_) ?_) ?_
  · rintro ts ⟨n, l, rfl, h⟩
    exact ⟨by simpa [fn11] using t11 n l h, fun h => by cases h⟩
  · rintro ts ⟨n, l, rfl, h1, h2, h3⟩
    exact ⟨by simpa [fnFair] using t10 n l h1 h2 h3, fun _ => rfl⟩
  · rintro ts rfl
    exact ⟨t9, fun _ => rfl⟩

theorem hyper_len {n : Normal} {l : Lattice} (h : Fit n l) : (hyper n l).length ≤ 101000000000 := by
  unfold hyper
  rw [List.length_append]
  have h1 := h.sm.2.2.1
  have := allL_len h l.states.toNat (by omega)
  have := finL_len h l.final.length (Nat.le_refl _)
  omega

set_option maxRecDepth 20000 in
set_option maxHeartbeats 4000000 in
theorem t6 (n : Normal) (l : Lattice) (hl : n.rules.length ≤ 9223372036854775807) (hf : l.final.length ≤ 9223372036854775807) (ha : l.arcs.length ≤ 9223372036854775807) : CallsOk Try.prog 6 [n.enc, l.enc] (.bool true) := by
  have hΓ := ok61
  refine c6.ok (by simp) (initSt_sat ?_)
  simp [Normal.enc, Lattice.enc]
  refine SatD.regSeq hΓ follows [2, 3] ?_
  simp [d6r0]
  refine SatD.seq ?_
  refine SatD.regSeq hΓ follows [2, 3, 10] ?_
  simp [d6r1, Γ61]
  refine SatD.cond rfl (fun h => by cases h) (fun _ => ?_)
  refine SatD.skip ?_
  simp
  refine SatD.seq ?_
  refine SatD.regSeq hΓ follows [2, 3, 14] ?_
  simp [d6r3, Γ61, specP, fnFair]
  refine ⟨⟨n, l, rfl, hl, hf, ha⟩, ?_⟩
  refine SatD.cond rfl (fun h => ?_) (fun h => ?_)
  · refine SatD.regSeq hΓ follows [4] ?_
    simp [d6r4]
    refine SatD.ret ?_
    simp [d6res]
  simp only [Bool.not_eq_false'] at h
  have hp : FairP n l := fairP h
  clear h
  have hfit := hp.fit
  have hlen := hyper_len hfit
  have hlex := hyper_lex hfit hp.head
  obtain ⟨es, hes⟩ : ∃ es, hyper n l = es := ⟨_, rfl⟩
  have hes' : hyper ⟨n.terms, n.nonterms, n.start, n.rules⟩ ⟨l.states, l.arcs, l.final⟩ = es := hes
  rw [hes] at hlen hlex
  refine SatD.skip ?_
  simp
  refine SatD.regSeq hΓ follows [5] ?_
  simp [d6r5, Γ61, specP, fn11, hes']
  refine ⟨⟨n, l, rfl, hfit⟩, ?_⟩
  generalize goalI n.nonterms l.states + 1 = gl
  refine SatD.le (Le.keep (o := []) (l := [(5, .v (.box [ti gl, .sl (edgesT es)]))]) (nxt' := 2000) ?_ ?_ ?_ ?_) ?_
  · simp
  · simp
  · simp
  · simp
  refine SatD.seq ?_
  refine SatD.regSeq hΓ follows [5, 6] ?_
  simp [d6r6]
  refine SatD.block ?_ -- 0
  refine SatD.loop (fun i : Nat => ⟨DM.look [(5, .v (.box [ti gl, .sl (edgesT es)])), (6, .v (ti i))], obs [], 3000, 1000, []⟩) (fun i => 1 ≤ i) (fun i => es.length - i) 1 (Le.keep ?_ ?_ ?_ ?_) (Nat.le_refl _) (fun i hi => ?_)
  · simp
  · simp
  · simp
  · simp
  refine SatD.seq ?_
  refine SatD.regSeq hΓ follows [5, 6, 22] ?_
  simp [d6r7]
  refine SatD.cond rfl (fun hc => ?_) (fun hc => ?_)
  · simp at hc
    obtain ⟨a, hga⟩ : ∃ a, es.getD (i - 1) default = a := ⟨_, rfl⟩
    obtain ⟨b, hgb⟩ : ∃ b, es.getD i default = b := ⟨_, rfl⟩
    have hab : lexE a b := by
      rw [← hga, ← hgb]
      have := List.pairwise_iff_getElem.1 hlex (i - 1) i (by omega) hc (by omega)
      simpa [hc, show i - 1 < es.length by omega] using this
    have r1 := rowAt_edges (l := es) (y := i - 1) (by omega)
    have r2 := rowAt_edges hc
    rw [hga] at r1
    rw [hgb] at r2
    have w1 : IntKind.i64.wrap ((i : Int) - 1) = ((i - 1 : Nat) : Int) := by rw [wrap_id (by omega)]; omega
    refine SatD.skip ?_
    simp
    refine SatD.seq ?_
    refine SatD.block ?_ -- 1
    refine SatD.regASeq hΓ follows (rs := annot d6r8 [some [], some [], some [], some [], some [], some [], some [], some [], some [], some [], some [], some [], some [], some [3084], some [3085]]) (.inl rfl) (by kernel_rfl) [5, 6, 7, 8] ?_
    simp [d6r8, annot, touchOk, opdsOf, names, namesL, w1, r1, r2, hc, Edge.enc]
    refine ⟨by omega, ?_⟩
    unfold lexE lexL at hab
    refine SatD.regToS hΓ follows [(5, .v (.box [ti gl, .sl (edgesT es)])), (6, .v (ti i)), (74, .v (.bool false))] ?_ ?_
    · simp [d6r9]
      repeat' (first | apply And.intro | intro _)
      all_goals first | omega | (simp; omega) | trace_state
    refine SatD.cond rfl (fun h => by cases h) (fun _ => ?_)
    refine SatD.skip ?_
    simp
    refine SatD.reg hΓ follows [5, 6] ?_
    simp [d6r11]
    refine ⟨i + 1, Le.keep ?_ ?_ ?_ ?_, ?_, ?_⟩ -- next round
    · simp
    · simp
    · simp
    · simp
      exact (wrap_id (by omega)).symm
    · omega
    · omega
  · refine SatD.exit ?_
    simp
    refine SatD.regSeq hΓ follows [4] ?_
    simp [d6r12]
    refine SatD.ret ?_
    simp [d6res]
end Go.Proofs
