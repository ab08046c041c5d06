import Derived.Test.YtbncgpjkfglhdaaDoorK3
namespace Go.Proofs
open Go.DM
set_option linter.unusedSimpArgs false
set_option linter.unusedVariables false
def spec6 : DM.Spec := ⟨pre5, keepFn, true⟩
def Γ3 : Env := envOf [(4, spec4), (5, spec5), (6, spec6)]
theorem ok3 : EnvOk Tryd.prog Γ3 := by
  refine EnvOk.cons (EnvOk.cons (EnvOk.cons EnvOk.nil ?_) ?_) ?_
  · rintro ts ⟨hd, f, t, cf, co, cn, s, rfl, hs⟩
    exact ⟨t6 EnvOk.nil hd f t cf co cn s hs, fun _ => keep_scalar _⟩
  · rintro ts ⟨hd, f, t, cf, co, cn, s, rfl, hs⟩
    exact ⟨t5 ok8 rfl hd f t cf co cn s hs, fun _ => keep_scalar _⟩
  · rintro ts rfl
    exact ⟨t4, fun _ => rfl⟩
theorem t3 (hd f t cf co cn s : Int) : CallsOk Tryd.prog 3 [.agg [.int .i64 hd, .int .i64 f, .int .i64 t], .agg [.int .i64 cf, .int .i64 co, .int .i64 cn], .int .i64 s] (.bool true) := by
  have hΓ := ok3
  refine c3.ok (by simp) (initSt_sat ?_)
  simp
  refine SatD.regSeq hΓ follows [2, 3, 4, 6] ?_
  unfold d3r0
  simp
  refine SatD.seq (SatD.seq (SatD.reg hΓ follows [2, 3, 4, 6, 12] ?_))
  unfold d3r1
  simp
  refine SatD.cond (by simp; rfl) (fun h => ?_) (fun h => ?_)
  · refine SatD.regSeq hΓ follows [6] ?_
    unfold d3r2
    simp [Γ3, spec4]
    refine SatD.ret ?_
    simp [d3res]
  · simp at h
    refine SatD.skip ?_
    simp
    have key : ∀ o, keepI hd f t cf co cn s = o → keepT' o = keepT' (keepI hd f t cf co cn s) := by rintro _ rfl; rfl
    refine SatD.regSeq hΓ follows [2, 3, 4, 6, 7, 8] ?_
    unfold d3r3
    rcases hk : keepI hd f t cf co cn s with _ | ⟨x, y, z⟩
    all_goals
      simp [Γ3, spec5, pre5_mk, keepFn, hk, keepT']
      refine ⟨h, ?_⟩
      refine SatD.regSeq hΓ follows [6, 7, 8, 9, 10] ?_
      unfold d3r4
      simp [Γ3, spec6, pre5_mk, keepFn, hk, keepT']
      refine ⟨h, ?_⟩
      refine SatD.regSeq hΓ follows [6] ?_
      unfold d3r5
      simp [Γ3, spec4]
      refine SatD.ret ?_
      simp [d3res]
end Go.Proofs
