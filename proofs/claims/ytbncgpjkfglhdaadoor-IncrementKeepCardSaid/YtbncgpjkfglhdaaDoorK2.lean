import Derived.Test.YtbncgpjkfglhdaaDoorK1
namespace Go.Proofs
open Go.DM
set_option linter.unusedSimpArgs false
set_option linter.unusedVariables false
def args7 : List T := [.agg [.int .i64 1, .int .i64 1, .int .i64 0, .sl []], .agg [.int .i64 0, .int .i64 0, .sl []], .agg [.sl [], .sl [[.int .i64 1]], .int .i64 0], .agg [.int .i64 0, .int .i64 0, .int .i64 0]]
def out7 : T := .tup [.agg [.int .i64 0, .int .i64 0, .sl []], .int .i64 0, .int .i64 13]
theorem t7 {Γ : Env} (hΓ : EnvOk Tryd.prog Γ) : CallsOk Tryd.prog 7 args7 out7 := by
  refine c7.ok (by simp [args7]) (initSt_sat ?_)
  simp [args7]
  refine SatD.regSeq hΓ follows [0,1,2,3,4,5,6,7,8,9,10] ?_
  unfold d7r0
  simp
  refine SatD.regSeq hΓ follows [0,1,2,3,4,5,6,7,8,9,10,11] ?_
  unfold d7r1
  simp
  refine SatD.seq (SatD.seq (SatD.reg hΓ follows [0,1,2,3,4,5,6,7,8,9,10,11,53] ?_))
  unfold d7r2
  simp
  refine SatD.cond (by simp; rfl) (fun h => ?_) (fun h => ?_)
  · simp at h
  refine SatD.skip ?_
  simp
  refine SatD.seq (SatD.seq (SatD.reg hΓ follows [8,9,10,95] ?_))
  unfold d7r4
  simp
  refine SatD.cond (by simp; rfl) (fun h => ?_) (fun h => ?_)
  · refine SatD.regSeq hΓ follows [8,9,10] ?_
    unfold d7r5
    simp
    refine SatD.ret ?_
    simp [d7res, out7]
  · simp at h
end Go.Proofs
