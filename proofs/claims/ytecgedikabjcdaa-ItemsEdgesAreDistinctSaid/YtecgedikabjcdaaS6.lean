import Derived.Test.YtecgedikabjcdaaS5
namespace Go.Proofs
open Go.DM Go.DM.Srt
set_option linter.unusedSimpArgs false
set_option linter.unusedVariables false

theorem t48n {good : List T → Prop} {cmpF : List T → List T → Int} (hc : CmpOk good cmpF 36 5) (hw : SWO (ltF cmpF)) (objs : Obs) (f : Nat) {N : Nat} (hN : ∀ r, N ≤ r → objs r = none) :
    CallsS Try.prog 48 [.nil0, .v (ti 0), .v (.fn (.func f) [])] objs ⟨True, .v (.tup []), objs⟩ := by
  have hΓ := ok49 hc hw 0
  have hfr : ∀ k, N + 1000 ≤ k → objs k = none := fun k hk => hN k (by omega)
  refine c48.okS hN (by simp) (initS_sat ?_)
  simp
  refine SatD.regSeq hΓ follows [0, 1, 2, 6] ?_
  simp [d48r0]
  refine SatD.regSeq hΓ follows [0, 1, 2, 6, 7, 8] ?_
  simp [d48r1]
  refine SatD.seq ?_
  refine SatD.block ?_ -- 0
  refine SatD.loop (fun y : Nat => ⟨DM.look [(0, .nil0), (1, .v (ti 0)), (2, .v (.fn (.func f) [])), (6, .v (ti 20)), (7, .v (ti 0)), (8, .v (ti 20))], objs, N + 1000, N, []⟩) (fun _ => True) (fun _ => 0) 0 (Le.same hfr (by simp)) trivial (fun y hy => ?_)
  refine SatD.seq ?_
  refine SatD.regSeq hΓ follows [0, 1, 2, 6, 7, 13] ?_
  simp [d48r2]
  refine SatD.cond rfl (fun h => by cases h) (fun _ => ?_)
  refine SatD.exit ?_
  simp
  refine SatD.regASeq hΓ follows (rs := d48r6S) (.inr ⟨_, rfl⟩) (by kernel_rfl) [1, 6] ?_
  simp [d48r6S, Γ48, k49]
  refine SatD.block ?_ -- 2
  refine SatD.loop (fun y : Nat => ⟨DM.look [(1, .v (ti 0)), (6, .v (ti 20))], objs, N + 1000, N, []⟩) (fun _ => True) (fun _ => 0) 0 (Le.same hfr (by simp)) trivial (fun y hy => ?_)
  refine SatD.seq ?_
  refine SatD.regSeq hΓ follows [30] ?_
  simp [d48r7]
  refine SatD.cond rfl (fun h => by cases h) (fun _ => ?_)
  refine SatD.exit ?_
  simp [d48res]

def k48 (good : List T → Prop) (cmpF : List T → List T → Int) : List DV → Obs → SRes
  | [.aref r ver, .v (.int .i64 n), .v (.fn (.func c) caps)], objs => match objs r with
    | some (.arr ver' e sz D) => ⟨ver = ver' ∧ sz = 5 ∧ c = 36 ∧ caps = [] ∧ (∀ x ∈ D, good x) ∧ n = D.length ∧ D.length ≤ 140737488355328,
        .v (.tup []), setO objs r (.arr ver e 5 (isort (ltF cmpF) D))⟩
    | _ => ⟨False, .undef, objs⟩
  | [.nil0, .v (.int .i64 n), .v (.fn (.func c) caps)], objs => ⟨n = 0 ∧ caps = [], .v (.tup []), objs⟩
  | _, objs => ⟨False, .undef, objs⟩
theorem ok48 {good : List T → Prop} {cmpF : List T → List T → Int} (hc : CmpOk good cmpF 36 5) (hw : SWO (ltF cmpF)) : EnvOk Try.prog (envOf [(48, specS (k48 good cmpF))]) := by
  refine EnvOk.consS EnvOk.nil ?_
  intro args objs h
  unfold k48 at h ⊢
  split at h
  · split at h
    · rename_i c caps _ ver' e sz D hob
      obtain ⟨rfl, rfl, rfl, rfl, h1, rfl, h5⟩ := h
      refine ⟨fun N hN => ?_, fun k hk => setO_none hob hk⟩
      simp only [hob]
      exact (t48 hc hw D objs _ _ e hob h1 h5 hN).of rfl rfl
    · exact h.elim
  · obtain ⟨rfl, rfl⟩ := h
    exact ⟨fun N hN => (t48n hc hw objs _ hN).of rfl rfl, fun _ h => h⟩
  · exact h.elim

def k35 (good : List T → Prop) (cmpF : List T → List T → Int) : List DV → Obs → SRes
  | [.aref r ver, .v (.fn (.func c) caps)], objs => match objs r with
    | some (.arr ver' e sz D) => ⟨ver = ver' ∧ sz = 5 ∧ c = 36 ∧ caps = [] ∧ (∀ x ∈ D, good x) ∧ D.length ≤ 140737488355328,
        .v (.tup []), setO objs r (.arr ver e 5 (isort (ltF cmpF) D))⟩
    | _ => ⟨False, .undef, objs⟩
  | [.nil0, .v (.fn (.func c) caps)], objs => ⟨caps = [], .v (.tup []), objs⟩
  | _, objs => ⟨False, .undef, objs⟩
theorem t35 {good : List T → Prop} {cmpF : List T → List T → Int} (hc : CmpOk good cmpF 36 5) (hw : SWO (ltF cmpF)) (D : List (List T)) (objs : Obs) (r ver e : Nat) (hob : objs r = some (.arr ver e 5 D)) (hrows : ∀ x ∈ D, good x) (h4 : D.length ≤ 140737488355328)
    {N : Nat} (hN : ∀ r, N ≤ r → objs r = none) : CallsS Try.prog 35 [.aref r ver, .v (.fn (.func 36) [])] objs ⟨True, .v (.tup []), setO objs r (.arr ver e 5 (isort (ltF cmpF) D))⟩ := by
  have hΓ := ok48 hc hw
  refine c35.okS hN (by simp) (initS_sat ?_)
  rw [setO_self hob]
  simp
  refine SatD.regA hΓ follows (rs := d35r0S) (.inr ⟨_, rfl⟩) (by kernel_rfl) [] ?_
  simp [d35r0S, k48, d35res]
  exact ⟨hrows, h4⟩
theorem t35n {good : List T → Prop} {cmpF : List T → List T → Int} (hc : CmpOk good cmpF 36 5) (hw : SWO (ltF cmpF)) (objs : Obs) (f : Nat) {N : Nat} (hN : ∀ r, N ≤ r → objs r = none) : CallsS Try.prog 35 [.nil0, .v (.fn (.func f) [])] objs ⟨True, .v (.tup []), objs⟩ := by
  have hΓ := ok48 hc hw
  refine c35.okS hN (by simp) (initS_sat ?_)
  simp
  refine SatD.regA hΓ follows (rs := d35r0S) (.inr ⟨_, rfl⟩) (by kernel_rfl) [] ?_
  simp [d35r0S, k48, d35res]
theorem ok35 {good : List T → Prop} {cmpF : List T → List T → Int} (hc : CmpOk good cmpF 36 5) (hw : SWO (ltF cmpF)) {l : List (Nat × DM.Spec)} (h : EnvOk Try.prog (envOf l)) : EnvOk Try.prog (envOf ((35, specS (k35 good cmpF)) :: l)) := by
  refine EnvOk.consS h ?_
  intro args objs h
  unfold k35 at h ⊢
  split at h
  · split at h
    · rename_i c caps _ ver' e sz D hob
      obtain ⟨rfl, rfl, rfl, rfl, h1, h5⟩ := h
      refine ⟨fun N hN => ?_, fun k hk => setO_none hob hk⟩
      simp only [hob]
      exact (t35 hc hw D objs _ _ e hob h1 h5 hN).of rfl rfl
    · exact h.elim
  · subst h
    exact ⟨fun N hN => (t35n hc hw objs _ hN).of rfl rfl, fun _ h => h⟩
  · exact h.elim
end Go.Proofs
