import Derived.Test.YtecgedikabjcdaaH2
namespace Go.Proofs
open Go.DM Go.DM.Srt
set_option linter.unusedSimpArgs false
set_option linter.unusedVariables false

def exN : Normal := ⟨1, 1, 0, [⟨2, 0, 0, 0, 1, -1⟩, ⟨4, 0, 0, 0, 0, -1⟩]⟩
def exL : Lattice := ⟨2, [⟨0, 1, 0, 2, []⟩], [1099511627776, 0]⟩
@[simp] theorem chunk_2 (sz : Nat) (cs : List T) : chunk sz 2 cs = [cs.take sz, (cs.drop sz).take sz] := rfl

theorem t29 : CallsOk Try.prog 29 [] (.tup [exN.enc, exL.enc]) := by
  have hΓ : EnvOk Try.prog (envOf []) := EnvOk.nil
  refine c29.ok (by simp) (initSt_sat ?_)
  simp
  refine SatD.regSeq hΓ follows [0, 1] ?_
  simp [d29r0]
  refine SatD.regSeq hΓ follows [0, 1, 2] ?_
  simp [d29r1]
  refine SatD.regSeq hΓ follows [0, 1, 2, 3] ?_
  simp [d29r2]
  refine SatD.regASeq hΓ follows (rs := annot d29r3 [some [1018], some [1034], some [1001], some [1002]]) (.inl rfl) (by kernel_rfl) [0, 1] ?_
  simp [d29r3, annot, touchOk, opdsOf, names, namesL]
  refine SatD.ret ?_
  simp [d29res, exN, exL, Normal.enc, Lattice.enc, rulesT, Rule.enc, arcsT, Arc.enc, intsT, opsT]

def wantE : List Edge := [⟨0, [0, 0], 0, 1, 0⟩, ⟨1, [], 3, 0, 0⟩, ⟨1, [0, 1], 0, 1, 0⟩, ⟨1, [1, 2], 0, 1, 1⟩, ⟨2, [2, 2], 0, 1, 1⟩, ⟨3, [1], 0, -1, 1⟩]
theorem hyper_ex : hyper exN exL = wantE := by decide +kernel
theorem fit_ex : Fit exN exL := by
  refine ⟨⟨by decide, by decide, by decide, by decide⟩, ⟨by decide, by decide⟩, fun r hr => ?_, by decide, ⟨by decide, fun a ha => ?_⟩, by decide, by decide, by decide⟩
  · simp only [exN, List.mem_cons, List.not_mem_nil, or_false] at hr
    rcases hr with rfl | rfl
    · refine ⟨⟨by decide, by decide, by decide, by decide⟩, fun h => ?_, fun h => ?_⟩ <;> exact absurd h (by decide)
    · refine ⟨⟨by decide, by decide, by decide, by decide⟩, fun h => absurd h (by decide), fun h => ⟨by decide, by decide, by decide, by decide⟩⟩
  · simp only [exL, List.mem_cons, List.not_mem_nil, or_false] at ha
    subst ha
    exact ⟨by decide, by decide⟩
end Go.Proofs
