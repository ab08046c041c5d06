import Derived.Test.YtecgedikabjcdaaI7
namespace Go.Proofs
open Go.DM
set_option linter.unusedSimpArgs false
set_option linter.unusedVariables false

def headsEq (x y : Edge) : Prop := x.head = y.head ∧ x.cost = y.cost ∧ x.l0 = y.l0 ∧ x.l1 = y.l1 ∧ x.tails.length = y.tails.length
instance (x y : Edge) : Decidable (headsEq x y) := by unfold headsEq; infer_instance
def okEdges (a : List Edge) : Prop := a.length ≤ 140737488355328 ∧ ∀ e ∈ a, e.tails.length ≤ 140737488355328

set_option maxRecDepth 20000 in
theorem t13 (a b : List Edge) (h1 : okEdges a) : CallsOk Try.prog 13 [.sl (edgesT a), .sl (edgesT b)] (.bool (decide (a = b))) := by
  have hΓ : EnvOk Try.prog (envOf []) := EnvOk.nil
  refine c13.ok (by simp) (initSt_sat ?_)
  simp
  refine SatD.regSeq hΓ follows [0, 1] ?_
  simp [d13r0]
  refine SatD.seq ?_
  refine SatD.regSeq hΓ follows [0, 1, 11] ?_
  simp [d13r1]
  refine SatD.cond rfl (fun h => ?_) (fun h => ?_)
  · refine SatD.regSeq hΓ follows [4] ?_
    simp [d13r2]
    refine SatD.ret ?_
    simp at h
    have : a ≠ b := by rintro rfl; simp at h
    simp [d13res, this]
  · simp at h
    have hab : a.length = b.length := by omega
    refine SatD.skip ?_
    simp
    refine SatD.seq ?_
    refine SatD.regSeq hΓ follows [0, 1, 5] ?_
    simp [d13r3]
    refine SatD.block ?_ -- 0
    refine SatD.loop (fun y : Nat => ⟨DM.look [(0, .v (.sl (edgesT a))), (1, .v (.sl (edgesT b))), (5, .v (ti y))], obs [], 2000, 1000, []⟩) (fun y => y ≤ a.length ∧ ∀ i, i < y → a.getD i default = b.getD i default) (fun y => a.length - y) 0 (Le.keep ?_ ?_ ?_ ?_) (by simp) (fun y hy => ?_)
    · simp
    · simp
    · simp
    · simp
    obtain ⟨hy1, hy2⟩ := hy
    have hlen := h1.1
    refine SatD.seq ?_
    refine SatD.regSeq hΓ follows [0, 1, 5, 15] ?_
    simp [d13r4]
    refine SatD.cond rfl (fun hc => ?_) (fun hc => ?_)
    · simp at hc
      have hc' : y < b.length := by omega
      obtain ⟨p, hp⟩ : ∃ p, a[y] = p := ⟨_, rfl⟩
      obtain ⟨q, hq⟩ : ∃ q, b[y] = q := ⟨_, rfl⟩
      have hgp : a.getD y default = p := by simp [hc, hp]
      have hgq : b.getD y default = q := by simp [hc', hq]
      have hpl : p.tails.length ≤ 140737488355328 := h1.2 p (by rw [← hp]; exact List.getElem_mem hc)
      refine SatD.skip ?_
      simp
      refine SatD.seq ?_
      refine SatD.block ?_ -- 1
      refine SatD.seq ?_
      have hrow := rowAt_edges hc
      have hrow' := rowAt_edges hc'
      rw [hgp] at hrow
      rw [hgq] at hrow'
      refine SatD.regToS hΓ follows [(0, .v (.sl (edgesT a))), (1, .v (.sl (edgesT b))), (5, .v (ti y)), (69, .v (.bool (!decide (headsEq p q))))] ?_ ?_
      · simp [d13r5, hrow, hrow', hc, hc', Edge.enc]
        repeat' (first | apply And.intro | intro _)
        all_goals first | omega | (simp [headsEq, *]; done) | (unfold headsEq at *; omega) | (simp [headsEq, *]; omega) | trace_state
      refine SatD.cond rfl (fun h2 => ?_) (fun h2 => ?_)
      · refine SatD.regSeq hΓ follows [4] ?_
        simp [d13r6]
        refine SatD.ret ?_
        simp at h2
        have : a ≠ b := by
          rintro rfl
          rw [hp] at hq
          subst hq
          exact h2 ⟨rfl, rfl, rfl, rfl, rfl⟩
        simp [d13res, this]
      · simp at h2
        refine SatD.skip ?_
        simp
        refine SatD.regSeq hΓ follows [0, 1, 5, 6] ?_
        simp [d13r7]
        refine SatD.block ?_ -- 2
        refine SatD.loop (fun z : Nat => ⟨DM.look [(0, .v (.sl (edgesT a))), (1, .v (.sl (edgesT b))), (5, .v (ti y)), (6, .v (ti z))], obs [], 3000, 1000, []⟩) (fun z => z ≤ p.tails.length ∧ ∀ i, i < z → p.tails.getD i default = q.tails.getD i default) (fun z => p.tails.length - z) 0 (Le.keep ?_ ?_ ?_ ?_) (by simp) (fun z hz => ?_)
        · simp
        · simp
        · simp
        · simp
        obtain ⟨hz1, hz2⟩ := hz
        refine SatD.seq ?_
        refine SatD.regSeq hΓ follows [0, 1, 5, 6, 77] ?_
        simp [d13r8, hrow, hc, Edge.enc]
        refine SatD.cond rfl (fun hd => ?_) (fun hd => ?_)
        · simp at hd
          have hd' : z < q.tails.length := by rw [← h2.2.2.2.2]; exact hd
          have hz3 := rowAt_ints hd
          have hz4 := rowAt_ints hd'
          refine SatD.skip ?_
          simp
          refine SatD.seq ?_
          refine SatD.block ?_ -- 3
          refine SatD.regSeq hΓ follows [0, 1, 5, 6, 96] ?_
          simp [d13r9, hrow, hrow', hc, hc', Edge.enc, hd, hd', hz3, hz4]
          refine SatD.cond rfl (fun h3 => ?_) (fun h3 => ?_)
          · refine SatD.regSeq hΓ follows [4] ?_
            simp [d13r10]
            refine SatD.ret ?_
            simp at h3
            have : a ≠ b := by
              rintro rfl
              rw [hp] at hq
              subst hq
              exact h3 rfl
            simp [d13res, this]
          · simp at h3
            refine SatD.skip ?_
            simp
            refine SatD.reg hΓ follows [0, 1, 5, 6] ?_
            simp [d13r11]
            refine ⟨z + 1, Le.keep ?_ ?_ ?_ ?_, ⟨?_, ?_⟩, ?_⟩ -- next round
            · simp
            · simp
            · simp
            · simp
              exact (wrap_id (by omega)).symm
            · omega
            · intro i hi
              by_cases e : i = z
              · subst e; simp [hd, hd', h3]
              · exact hz2 i (by omega)
            · omega
        · simp at hd
          refine SatD.exit ?_
          simp -- exit 2
          refine SatD.reg hΓ follows [0, 1, 5] ?_
          simp [d13r12]
          refine ⟨y + 1, Le.keep ?_ ?_ ?_ ?_, ⟨?_, ?_⟩, ?_⟩ -- next round
          · simp
          · simp
          · simp
          · simp
            exact (wrap_id (by omega)).symm
          · omega
          · intro i hi
            by_cases e : i = y
            · subst e
              show a.getD i default = b.getD i default
              rw [hgp, hgq]
              obtain ⟨e1, e2, e3, e4, e5⟩ := h2
              have : p.tails = q.tails := List.ext_getElem e5 fun j hj hj' => by
                have := hz2 j (by omega)
                simpa [hj, hj'] using this
              cases p; cases q; simp_all
            · exact hy2 i (by omega)
          · omega
    · simp at hc
      refine SatD.exit ?_
      simp -- exit 0
      refine SatD.regSeq hΓ follows [4] ?_
      simp [d13r13]
      refine SatD.ret ?_
      have : a = b := List.ext_getElem hab fun j hj hj' => by
        have := hy2 j (by omega)
        simpa [hj, hj'] using this
      simp [d13res, this]
end Go.Proofs
