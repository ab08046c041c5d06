import Derived.Test.YtecgedikabjcdaaI1
namespace Go.Proofs
open Go.DM
set_option linter.unusedSimpArgs false
set_option linter.unusedVariables false

def fn32 : List T → T
  | [.agg [_, nt, _, _], .agg [st, _, _]] => .agg [nt, st]
  | _ => .bool false
def pre32 (ts : List T) : Prop := ∃ (n : Normal) (l : Lattice), ts = [n.enc, l.enc]
def spec32 : DM.Spec := specP pre32 fn32 true
/-- Numbers of nonterminals and states that are small enough. -/
def sm (nt st : Int) : Prop := 0 ≤ nt ∧ nt ≤ 1000 ∧ 0 ≤ st ∧ st ≤ 1000
def goalI (nt st : Int) : Int := nt * st * (st + 1) / 2
def idxI (nt st h f t : Int) : Int := (f * st - f * (f - 1) / 2 + t - f) * nt + h
def fn33 : List T → T
  | [.agg [.int _ nt, .int _ st]] => ti (goalI nt st)
  | _ => .bool false
def pre33 : List T → Prop
  | [.agg [.int .i64 nt, .int .i64 st]] => sm nt st
  | _ => False
def spec33 : DM.Spec := specP pre33 fn33 true
def fn37 : List T → T
  | [.agg [.int _ nt, .int _ st], .int _ h, .int _ f, .int _ t] => ti (idxI nt st h f t)
  | _ => .bool false
def pre37 : List T → Prop
  | [.agg [.int .i64 nt, .int .i64 st], .int .i64 h, .int .i64 f, .int .i64 t] => sm nt st ∧ 0 ≤ h ∧ h ≤ 1000 ∧ 0 ≤ f ∧ f ≤ 1000 ∧ 0 ≤ t ∧ t ≤ 1000
  | _ => False
def spec37 : DM.Spec := specP pre37 fn37 true

theorem mul_bound {a b m n : Int} (h1 : 0 ≤ a) (h2 : a ≤ m) (h3 : 0 ≤ b) (h4 : b ≤ n) : 0 ≤ a * b ∧ a * b ≤ m * n :=
  ⟨Int.mul_nonneg h1 h3, Int.mul_le_mul h2 h4 h3 (by omega)⟩

theorem t33 {Γ : Env} (hΓ : EnvOk Try.prog Γ) (nt st : Int) (h : sm nt st) : CallsOk Try.prog 33 [.agg [ti nt, ti st]] (ti (goalI nt st)) := by
  obtain ⟨h1, h2, h3, h4⟩ := h
  have b1 := mul_bound h1 h2 h3 h4
  have b2 := mul_bound b1.1 b1.2 (b := st + 1) (n := 1001) (by omega) (by omega)
  refine c33.ok (by simp) (initSt_sat ?_)
  simp
  refine SatD.regSeq hΓ follows [1] ?_
  simp [d33r0]
  refine SatD.regSeq hΓ follows [2] ?_
  simp [d33r1]
  refine SatD.ret ?_
  simp [d33res, goalI]
  simp (disch := omega) only [wrap_id]
  rw [Int.tdiv_eq_ediv_of_nonneg b2.1, wrap_id (by omega)]

theorem t37 {Γ : Env} (hΓ : EnvOk Try.prog Γ) (nt st hd f t : Int) (h : sm nt st) (k : 0 ≤ hd ∧ hd ≤ 1000 ∧ 0 ≤ f ∧ f ≤ 1000 ∧ 0 ≤ t ∧ t ≤ 1000) : CallsOk Try.prog 37 [.agg [ti nt, ti st], ti hd, ti f, ti t] (ti (idxI nt st hd f t)) := by
  obtain ⟨h1, h2, h3, h4⟩ := h
  obtain ⟨k1, k2, k3, k4, k5, k6⟩ := k
  have b1 := mul_bound k3 k4 h3 h4
  have b2 : 0 ≤ f * (f - 1) ∧ f * (f - 1) ≤ 1000000 := by
    by_cases hf : f = 0
    · subst hf; simp
    · have := mul_bound k3 k4 (b := f - 1) (n := 1000) (by omega) (by omega)
      omega
  have b3 : -10000000 * 1000 ≤ (f * st - f * (f - 1) / 2 + t - f) * nt ∧ (f * st - f * (f - 1) / 2 + t - f) * nt ≤ 20000000 * 1000 := by
    have e1 : -10000000 ≤ f * st - f * (f - 1) / 2 + t - f ∧ f * st - f * (f - 1) / 2 + t - f ≤ 10000000 := by omega
    generalize f * st - f * (f - 1) / 2 + t - f = x at e1
    have g1 := mul_bound (a := x + 10000000) (m := 20000000) (b := nt) (n := 1000) (by omega) (by omega) h1 h2
    have g2 : (x + 10000000) * nt = x * nt + 10000000 * nt := Int.add_mul ..
    omega
  refine c37.ok (by simp) (initSt_sat ?_)
  simp
  refine SatD.regSeq hΓ follows [1, 2, 3, 4] ?_
  simp [d37r0]
  refine SatD.regSeq hΓ follows [1, 2, 3, 4, 9] ?_
  simp [d37r1]
  refine SatD.regSeq hΓ follows [8] ?_
  simp [d37r2]
  refine SatD.ret ?_
  simp [d37res, idxI]
  simp (disch := omega) only [wrap_id]
  rw [Int.tdiv_eq_ediv_of_nonneg b2.1]
  simp (disch := omega) only [wrap_id]

def Γ1 : Env := envOf [(32, spec32), (33, spec33), (37, spec37)]
theorem ok1 : EnvOk Try.prog Γ1 := by
  refine EnvOk.cons (EnvOk.cons (EnvOk.cons EnvOk.nil ?_) ?_) ?_
  · intro ts h
    match ts, h with
    | [.agg [.int .i64 nt, .int .i64 st], .int .i64 h, .int .i64 f, .int .i64 t], h1 => exact ⟨t37 EnvOk.nil nt st h f t h1.1 h1.2, fun _ => rfl⟩
  · intro ts h
    match ts, h with
    | [.agg [.int .i64 nt, .int .i64 st]], h1 => exact ⟨t33 EnvOk.nil nt st h1, fun _ => rfl⟩
  · rintro ts ⟨n, l, rfl⟩
    exact ⟨t32 EnvOk.nil n l, fun _ => rfl⟩

theorem t17 (n : Normal) (l : Lattice) (h : sm n.nonterms l.states) : CallsOk Try.prog 17 [n.enc, l.enc] (ti (goalI n.nonterms l.states + 1)) := by
  have hΓ := ok1
  have b : 0 ≤ goalI n.nonterms l.states ∧ goalI n.nonterms l.states ≤ 1001000000 := by
    obtain ⟨h1, h2, h3, h4⟩ := h
    have b1 := mul_bound h1 h2 h3 h4
    have b2 := mul_bound b1.1 b1.2 (b := l.states + 1) (n := 1001) (by omega) (by omega)
    unfold goalI
    omega
  refine c17.ok (by simp) (initSt_sat ?_)
  simp [Normal.enc, Lattice.enc]
  refine SatD.regSeq hΓ follows [2, 3] ?_
  simp [d17r0]
  refine SatD.regSeq hΓ follows [4] ?_
  simp [d17r1, Γ1, spec32, spec33, fn32, fn33, pre33]
  refine ⟨⟨n, l, rfl⟩, h, ?_⟩
  refine SatD.ret ?_
  simp [d17res]
  rw [wrap_id (by omega)]

/-- Is it an item? -/
def isItem (nt st h f t : Int) : Prop := ¬ (h < 0 ∨ nt ≤ h ∨ f < 0 ∨ t < f ∨ st ≤ t)
instance (nt st h f t : Int) : Decidable (isItem nt st h f t) := by unfold isItem; infer_instance

theorem t15 (n : Normal) (l : Lattice) (h f t : Int) (hs : sm n.nonterms l.states) : CallsOk Try.prog 15 [n.enc, l.enc, .agg [ti h, ti f, ti t]]
    (if isItem n.nonterms l.states h f t then .tup [ti (idxI n.nonterms l.states h f t), .bool true] else .tup [ti 0, .bool false]) := by
  have hΓ := ok1
  refine c15.ok (by simp) (initSt_sat ?_)
  simp [Normal.enc, Lattice.enc]
  refine SatD.regSeq hΓ follows [3, 4, 5] ?_
  simp [d15r0]
  refine SatD.seq ?_
  refine SatD.regSeq hΓ follows [3, 4, 5, 36] ?_
  simp [d15r1]
  repeat' (first | apply And.intro | intro _)
  all_goals try (
    refine SatD.cond (by simp; rfl) (fun _ => ?_) (fun h => by cases h)
    refine SatD.regSeq hΓ follows [6, 7] ?_
    simp [d15r2]
    refine SatD.ret ?_
    have hn : ¬ isItem n.nonterms l.states h f t := by unfold isItem; omega
    simp [d15res, hn]
    done)
  rename_i a1 a2 a3 a4
  refine SatD.cond (by simp; rfl) (fun hc => ?_) (fun hc => ?_)
  · simp at hc
    have hn : ¬ isItem n.nonterms l.states h f t := by unfold isItem; omega
    refine SatD.regSeq hΓ follows [6, 7] ?_
    simp [d15r2]
    refine SatD.ret ?_
    simp [d15res, hn]
  · simp at hc
    have hn : isItem n.nonterms l.states h f t := by unfold isItem; omega
    obtain ⟨h1, h2, h3, h4⟩ := hs
    refine SatD.skip ?_
    simp
    refine SatD.regSeq hΓ follows [6, 7] ?_
    simp [d15r3, Γ1, spec32, spec37, fn32, fn37, pre37]
    refine ⟨⟨n, l, rfl⟩, ⟨⟨h1, h2, h3, h4⟩, by omega⟩, ?_⟩
    refine SatD.ret ?_
    simp [d15res, hn]
end Go.Proofs
