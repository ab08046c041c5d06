import Derived.Test.YtbncgpjkfglhdaaDoorK2
namespace Go.Proofs
open Go.DM
set_option linter.unusedSimpArgs false
set_option linter.unusedVariables false
def pre5 (ts : List T) : Prop := ∃ hd f t cf co cn s, ts = [.agg [.int .i64 hd, .int .i64 f, .int .i64 t], .agg [.int .i64 cf, .int .i64 co, .int .i64 cn], .int .i64 s] ∧ s ≤ 1000
theorem pre5_mk (hd f t cf co cn s : Int) : pre5 [.agg [.int .i64 hd, .int .i64 f, .int .i64 t], .agg [.int .i64 cf, .int .i64 co, .int .i64 cn], .int .i64 s] ↔ s ≤ 1000 := by
  constructor
  · rintro ⟨_, _, _, _, _, _, _, h, h2⟩
    simp only [List.cons.injEq, T.int.injEq, true_and, and_true] at h
    rw [h.2.2]; exact h2
  · intro h; exact ⟨_, _, _, _, _, _, _, rfl, h⟩
def spec5 : DM.Spec := ⟨pre5, keepFn, true⟩
def spec4 : DM.Spec := ⟨fun ts => ts = [], fun _ => .bool true, true⟩
def spec7 : DM.Spec := ⟨fun ts => ts = args7, fun _ => out7, false⟩
theorem keep_scalar (o : Option (Int × Int × Int)) : scalarT (keepT' o) = true := by
  rcases o with _ | ⟨h, f, t⟩ <;> rfl
def Γ8 : Env := envOf [(8, spec8)]
theorem ok8 : EnvOk Tryd.prog Γ8 := by
  refine EnvOk.cons EnvOk.nil ?_
  rintro ts ⟨t, rfl, h0, h1⟩
  exact ⟨t8 EnvOk.nil t h0 h1, fun _ => rfl⟩
def Γ5 : Env := envOf [(7, spec7), (5, spec5), (8, spec8)]
theorem ok5 : EnvOk Tryd.prog Γ5 := by
  refine EnvOk.cons (EnvOk.cons ok8 ?_) ?_
  · rintro ts ⟨hd, f, t, cf, co, cn, s, rfl, hs⟩
    exact ⟨t5 ok8 rfl hd f t cf co cn s hs, fun _ => keep_scalar _⟩
  · rintro ts rfl
    exact ⟨t7 EnvOk.nil, fun h => by cases h⟩
theorem t4 : CallsOk Tryd.prog 4 [] (.bool true) := by
  have hΓ := ok5
  refine c4.ok (by simp) (initSt_sat ?_)
  simp
  refine SatD.regSeq hΓ follows [0] ?_
  unfold d4r0
  simp
  refine SatD.regSeq hΓ follows [0, 1] ?_
  unfold d4r1
  simp
  refine SatD.regSeq hΓ follows [0, 1, 2, 3] ?_
  unfold d4r2
  simp [Γ5, spec5, pre5_mk, keepFn, keepI, keepT', endI]
  refine SatD.regSeq hΓ follows [0, 1, 2, 3, 4, 5] ?_
  unfold d4r3
  simp [Γ5, spec5, pre5_mk, keepFn, keepI, keepT', endI]
  refine SatD.regSeq hΓ follows [0, 1, 2, 3, 4, 5, 6, 7] ?_
  unfold d4r4
  simp [Γ5, spec5, pre5_mk, keepFn, keepI, keepT', endI]
  refine SatD.regSeq hΓ follows [0, 1, 2, 3, 4, 5, 6, 7, 8, 9] ?_
  unfold d4r5
  simp [Γ5, spec5, pre5_mk, keepFn, keepI, keepT', endI]
  refine SatD.regSeq hΓ follows [0, 1, 2, 3, 4, 5, 6, 7, 8, 9, 10, 11] ?_
  unfold d4r6
  simp [Γ5, spec5, pre5_mk, keepFn, keepI, keepT', endI]
  refine SatD.regSeq hΓ follows [0, 1, 2, 3, 4, 5, 6, 7, 8, 9, 10, 11, 12, 13, 14] ?_
  unfold d4r7
  simp [Γ5, spec7, args7, out7, chunk]
  refine SatD.regSeq hΓ follows [0] ?_
  unfold d4r8
  simp
  refine SatD.ret ?_
  simp [d4res]
end Go.Proofs
