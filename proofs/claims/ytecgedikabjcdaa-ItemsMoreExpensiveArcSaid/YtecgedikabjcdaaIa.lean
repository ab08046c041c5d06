import Derived.Test.YtecgedikabjcdaaI0
namespace Go.Proofs
open Go.DM
set_option linter.unusedSimpArgs false
set_option linter.unusedVariables false

abbrev ti (n : Int) : T := .int .i64 n
structure Rule where
  (kind head a b price origin : Int)
structure Normal where
  (terms nonterms start : Int)
  rules : List Rule
structure Arc where
  (f t term cost : Int)
  ops : List (Int × Int)
structure Lattice where
  states : Int
  arcs : List Arc
  final : List Int
structure Edge where
  head : Int
  tails : List Int
  (cost l0 l1 : Int)
  deriving DecidableEq
def Rule.enc (r : Rule) : List T := [ti r.kind, ti r.head, ti r.a, ti r.b, ti r.price, ti r.origin]
def rulesT (l : List Rule) : List (List T) := l.map Rule.enc
def Normal.enc (n : Normal) : T := .agg [ti n.terms, ti n.nonterms, ti n.start, .sl (rulesT n.rules)]
def opsT (l : List (Int × Int)) : List (List T) := l.map fun o => [ti o.1, ti o.2]
def Arc.enc (a : Arc) : List T := [ti a.f, ti a.t, ti a.term, ti a.cost, .sl (opsT a.ops)]
def arcsT (l : List Arc) : List (List T) := l.map Arc.enc
def intsT (l : List Int) : List (List T) := l.map fun x => [ti x]
def Lattice.enc (l : Lattice) : T := .agg [ti l.states, .sl (arcsT l.arcs), .sl (intsT l.final)]
def Edge.enc (e : Edge) : List T := [ti e.head, .sl (intsT e.tails), ti e.cost, ti e.l0, ti e.l1]
def edgesT (l : List Edge) : List (List T) := l.map Edge.enc

theorem t32 {Γ : Env} (hΓ : EnvOk Try.prog Γ) (n : Normal) (l : Lattice) : CallsOk Try.prog 32 [n.enc, l.enc] (.agg [ti n.nonterms, ti l.states]) := by
  refine c32.ok (by simp) (initSt_sat ?_)
  simp [Normal.enc, Lattice.enc]
  refine SatD.regSeq hΓ follows [2, 3, 4] ?_
  simp [d32r0]
  refine SatD.regSeq hΓ follows [4] ?_
  simp [d32r1]
  refine SatD.ret ?_
  simp [d32res]

/-- How many spans begin ahead of state n. -/
def pre (st : Int) : Nat → Int
  | 0 => 0
  | n + 1 => pre st n + st - n
theorem pre_bound {st : Int} (h : st ≤ 1000) : ∀ n : Nat, (n : Int) ≤ st → 0 ≤ pre st n ∧ pre st n ≤ 1000 * n
  | 0, _ => by simp [pre]
  | n + 1, hn => by
    have := pre_bound h n (by omega)
    simp only [pre]
    omega

theorem t40 {Γ : Env} (hΓ : EnvOk Try.prog Γ) (n : Normal) (l : Lattice) (f t : Int) (h1 : l.states ≤ 1000) (h2 : 0 ≤ f) (h3 : f ≤ t) (h4 : t < l.states) (h5 : 0 ≤ n.nonterms) (h6 : n.nonterms ≤ 1000) :
    CallsOk Try.prog 40 [n.enc, l.enc, ti f, ti t] (ti ((pre l.states f.toNat + t - f) * n.nonterms)) := by
  refine c40.ok (by simp) (initSt_sat ?_)
  simp [Normal.enc, Lattice.enc]
  refine SatD.regSeq hΓ follows [2, 3, 4, 5, 8] ?_
  simp [d40r0]
  refine SatD.regSeq hΓ follows [2, 3, 4, 5, 9] ?_
  simp [d40r1]
  refine SatD.seq ?_
  refine SatD.regSeq hΓ follows [2, 3, 4, 5, 9, 10] ?_
  simp [d40r2]
  refine SatD.block ?_ -- 0
  refine SatD.loop (fun y : Nat => ⟨DM.look [(2, .v (ti f)), (3, .v (ti t)), (4, .ptr 1005 0), (5, .ptr 1006 0), (9, .v (ti (pre l.states y))), (10, .v (ti y))], obs [(1006, .box [.v (ti l.states), .v (.sl (arcsT l.arcs)), .v (.sl (intsT l.final))]), (1005, .box [.v (ti n.terms), .v (ti n.nonterms), .v (ti n.start), .v (.sl (rulesT n.rules))])], 2000, 1000, []⟩)
    (fun y => (y : Int) ≤ f) (fun y => f.toNat - y) 0 (Le.keep ?_ ?_ ?_ ?_) (by simpa using h2) (fun y hy => ?_)
  · simp
  · simp
  · simp
  · simp [pre]
  have hb := pre_bound h1 y (by omega)
  refine SatD.seq ?_
  refine SatD.seq ?_
  refine SatD.reg hΓ follows [2, 3, 4, 5, 9, 10, 13] ?_
  simp [d40r3]
  refine SatD.cond (by simp; rfl) (fun h => ?_) (fun h => ?_)
  · refine SatD.skip ?_
    simp at h
    simp
    refine SatD.seq ?_
    refine SatD.block ?_ -- 1
    refine SatD.reg hΓ follows [2, 3, 4, 5, 9, 10] ?_
    simp [d40r4]
    refine SatD.reg hΓ follows [2, 3, 4, 5, 9, 10] ?_
    simp [d40r5]
    refine ⟨y + 1, Le.keep ?_ ?_ ?_ ?_, ?_, ?_⟩
    · simp
    · simp
    · simp
    · simp [pre]
      simp (disch := omega) only [wrap_id]
      exact ⟨trivial, trivial⟩
    · omega
    · omega
  · refine SatD.exit ?_
    simp at h
    simp
    have hyf : (y : Int) = f := by omega
    refine SatD.regSeq hΓ follows [8] ?_
    simp [d40r6]
    refine SatD.ret ?_
    simp [d40res]
    have hy2 : f.toNat = y := by omega
    have hm : 0 ≤ (pre l.states y + t - f) * n.nonterms ∧ (pre l.states y + t - f) * n.nonterms ≤ 2000000 * 1000 := by
      have h7 : 0 ≤ pre l.states y + t - f := by omega
      have h8 : pre l.states y + t - f ≤ 2000000 := by omega
      exact ⟨Int.mul_nonneg h7 h5, Int.mul_le_mul h8 h6 h5 (by omega)⟩
    rw [hy2]
    simp (disch := omega) only [wrap_id]
end Go.Proofs
namespace Go.Proofs
open Go.DM
set_option linter.unusedSimpArgs false
set_option linter.unusedVariables false

def fn32 : List T → T
  | [.agg [_, nt, _, _], .agg [st, _, _]] => .agg [nt, st]
  | _ => .bool false
def pre32 (ts : List T) : Prop := ∃ (n : Normal) (l : Lattice), ts = [n.enc, l.enc]
def spec32 : DM.Spec := specP pre32 fn32 true
/-- Numbers of nonterminals and states that are small enough. -/
def sm (nt st : Int) : Prop := 0 ≤ nt ∧ nt ≤ 1000 ∧ 0 ≤ st ∧ st ≤ 1000
def goalI (nt st : Int) : Int := nt * st * (st + 1) / 2
def idxI (nt st h f t : Int) : Int := (f * st - f * (f - 1) / 2 + t - f) * nt + h
def fn33 : List T → T
  | [.agg [.int _ nt, .int _ st]] => ti (goalI nt st)
  | _ => .bool false
def pre33 : List T → Prop
  | [.agg [.int .i64 nt, .int .i64 st]] => sm nt st
  | _ => False
def spec33 : DM.Spec := specP pre33 fn33 true
def fn37 : List T → T
  | [.agg [.int _ nt, .int _ st], .int _ h, .int _ f, .int _ t] => ti (idxI nt st h f t)
  | _ => .bool false
def pre37 : List T → Prop
  | [.agg [.int .i64 nt, .int .i64 st], .int .i64 h, .int .i64 f, .int .i64 t] => sm nt st ∧ 0 ≤ h ∧ h ≤ 1000 ∧ 0 ≤ f ∧ f ≤ 1000 ∧ 0 ≤ t ∧ t ≤ 1000
  | _ => False
def spec37 : DM.Spec := specP pre37 fn37 true

theorem mul_bound {a b m n : Int} (h1 : 0 ≤ a) (h2 : a ≤ m) (h3 : 0 ≤ b) (h4 : b ≤ n) : 0 ≤ a * b ∧ a * b ≤ m * n :=
  ⟨Int.mul_nonneg h1 h3, Int.mul_le_mul h2 h4 h3 (by omega)⟩

theorem t33 {Γ : Env} (hΓ : EnvOk Try.prog Γ) (nt st : Int) (h : sm nt st) : CallsOk Try.prog 33 [.agg [ti nt, ti st]] (ti (goalI nt st)) := by
  obtain ⟨h1, h2, h3, h4⟩ := h
  have b1 := mul_bound h1 h2 h3 h4
  have b2 := mul_bound b1.1 b1.2 (b := st + 1) (n := 1001) (by omega) (by omega)
  refine c33.ok (by simp) (initSt_sat ?_)
  simp
  refine SatD.regSeq hΓ follows [1] ?_
  simp [d33r0]
  refine SatD.regSeq hΓ follows [2] ?_
  simp [d33r1]
  refine SatD.ret ?_
  simp [d33res, goalI]
  simp (disch := omega) only [wrap_id]
  rw [Int.tdiv_eq_ediv_of_nonneg b2.1, wrap_id (by omega)]

theorem t37 {Γ : Env} (hΓ : EnvOk Try.prog Γ) (nt st hd f t : Int) (h : sm nt st) (k : 0 ≤ hd ∧ hd ≤ 1000 ∧ 0 ≤ f ∧ f ≤ 1000 ∧ 0 ≤ t ∧ t ≤ 1000) : CallsOk Try.prog 37 [.agg [ti nt, ti st], ti hd, ti f, ti t] (ti (idxI nt st hd f t)) := by
  obtain ⟨h1, h2, h3, h4⟩ := h
  obtain ⟨k1, k2, k3, k4, k5, k6⟩ := k
  have b1 := mul_bound k3 k4 h3 h4
  have b2 : 0 ≤ f * (f - 1) ∧ f * (f - 1) ≤ 1000000 := by
    by_cases hf : f = 0
    · subst hf; simp
    · have := mul_bound k3 k4 (b := f - 1) (n := 1000) (by omega) (by omega)
      omega
  have b3 : -10000000 * 1000 ≤ (f * st - f * (f - 1) / 2 + t - f) * nt ∧ (f * st - f * (f - 1) / 2 + t - f) * nt ≤ 20000000 * 1000 := by
    have e1 : -10000000 ≤ f * st - f * (f - 1) / 2 + t - f ∧ f * st - f * (f - 1) / 2 + t - f ≤ 10000000 := by omega
    generalize f * st - f * (f - 1) / 2 + t - f = x at e1
    have g1 := mul_bound (a := x + 10000000) (m := 20000000) (b := nt) (n := 1000) (by omega) (by omega) h1 h2
    have g2 : (x + 10000000) * nt = x * nt + 10000000 * nt := Int.add_mul ..
    omega
  refine c37.ok (by simp) (initSt_sat ?_)
  simp
  refine SatD.regSeq hΓ follows [1, 2, 3, 4] ?_
  simp [d37r0]
  refine SatD.regSeq hΓ follows [1, 2, 3, 4, 9] ?_
  simp [d37r1]
  refine SatD.regSeq hΓ follows [8] ?_
  simp [d37r2]
  refine SatD.ret ?_
  simp [d37res, idxI]
  simp (disch := omega) only [wrap_id]
  rw [Int.tdiv_eq_ediv_of_nonneg b2.1]
  simp (disch := omega) only [wrap_id]

def Γ1 : Env := envOf [(32, spec32), (33, spec33), (37, spec37)]
theorem ok1 : EnvOk Try.prog Γ1 := by
  refine EnvOk.cons (EnvOk.cons (EnvOk.cons EnvOk.nil ?_) ?_) ?_
  · intro ts h
    match ts, h with
    | [.agg [.int .i64 nt, .int .i64 st], .int .i64 h, .int .i64 f, .int .i64 t], h1 => exact ⟨t37 EnvOk.nil nt st h f t h1.1 h1.2, fun _ => rfl⟩
  · intro ts h
    match ts, h with
    | [.agg [.int .i64 nt, .int .i64 st]], h1 => exact ⟨t33 EnvOk.nil nt st h1, fun _ => rfl⟩
  · rintro ts ⟨n, l, rfl⟩
    exact ⟨t32 EnvOk.nil n l, fun _ => rfl⟩

theorem t17 (n : Normal) (l : Lattice) (h : sm n.nonterms l.states) : CallsOk Try.prog 17 [n.enc, l.enc] (ti (goalI n.nonterms l.states + 1)) := by
  have hΓ := ok1
  have b : 0 ≤ goalI n.nonterms l.states ∧ goalI n.nonterms l.states ≤ 1001000000 := by
    obtain ⟨h1, h2, h3, h4⟩ := h
    have b1 := mul_bound h1 h2 h3 h4
    have b2 := mul_bound b1.1 b1.2 (b := l.states + 1) (n := 1001) (by omega) (by omega)
    unfold goalI
    omega
  refine c17.ok (by simp) (initSt_sat ?_)
  simp [Normal.enc, Lattice.enc]
  refine SatD.regSeq hΓ follows [2, 3] ?_
  simp [d17r0]
  refine SatD.regSeq hΓ follows [4] ?_
  simp [d17r1, Γ1, spec32, spec33, fn32, fn33, pre33]
  refine ⟨⟨n, l, rfl⟩, h, ?_⟩
  refine SatD.ret ?_
  simp [d17res]
  rw [wrap_id (by omega)]

/-- Is it an item? -/
def isItem (nt st h f t : Int) : Prop := ¬ (h < 0 ∨ nt ≤ h ∨ f < 0 ∨ t < f ∨ st ≤ t)
instance (nt st h f t : Int) : Decidable (isItem nt st h f t) := by unfold isItem; infer_instance

theorem t15 (n : Normal) (l : Lattice) (h f t : Int) (hs : sm n.nonterms l.states) : CallsOk Try.prog 15 [n.enc, l.enc, .agg [ti h, ti f, ti t]]
    (if isItem n.nonterms l.states h f t then .tup [ti (idxI n.nonterms l.states h f t), .bool true] else .tup [ti 0, .bool false]) := by
  have hΓ := ok1
  refine c15.ok (by simp) (initSt_sat ?_)
  simp [Normal.enc, Lattice.enc]
  refine SatD.regSeq hΓ follows [3, 4, 5] ?_
  simp [d15r0]
  refine SatD.seq ?_
  refine SatD.regSeq hΓ follows [3, 4, 5, 36] ?_
  simp [d15r1]
  repeat' (first | apply And.intro | intro _)
  all_goals try (
    refine SatD.cond (by simp; rfl) (fun _ => ?_) (fun h => by cases h)
    refine SatD.regSeq hΓ follows [6, 7] ?_
    simp [d15r2]
    refine SatD.ret ?_
    have hn : ¬ isItem n.nonterms l.states h f t := by unfold isItem; omega
    simp [d15res, hn]
    done)
  rename_i a1 a2 a3 a4
  refine SatD.cond (by simp; rfl) (fun hc => ?_) (fun hc => ?_)
  · simp at hc
    have hn : ¬ isItem n.nonterms l.states h f t := by unfold isItem; omega
    refine SatD.regSeq hΓ follows [6, 7] ?_
    simp [d15r2]
    refine SatD.ret ?_
    simp [d15res, hn]
  · simp at hc
    have hn : isItem n.nonterms l.states h f t := by unfold isItem; omega
    obtain ⟨h1, h2, h3, h4⟩ := hs
    refine SatD.skip ?_
    simp
    refine SatD.regSeq hΓ follows [6, 7] ?_
    simp [d15r3, Γ1, spec32, spec37, fn32, fn37, pre37]
    refine ⟨⟨n, l, rfl⟩, ⟨⟨h1, h2, h3, h4⟩, by omega⟩, ?_⟩
    refine SatD.ret ?_
    simp [d15res, hn]
end Go.Proofs
namespace Go.Proofs
open Go.DM
set_option linter.unusedSimpArgs false
set_option linter.unusedVariables false

theorem pre_le {st : Int} {a : Nat} : ∀ b : Nat, a ≤ b → (b : Int) ≤ st → pre st a ≤ pre st b
  | 0, h, _ => by
    have : a = 0 := by omega
    subst this; exact Int.le_refl _
  | b + 1, h, hb => by
    by_cases e : a = b + 1
    · subst e; exact Int.le_refl _
    · have := pre_le (st := st) (a := a) b (by omega) (by omega)
      simp only [pre]
      omega
theorem pre_lt {st : Int} {a b : Nat} (h : a < b) (hb : (b : Int) ≤ st) : pre st a + st - a ≤ pre st b := by
  have := pre_le (st := st) (a := a + 1) b h hb
  simpa [pre] using this
theorem pre_closed (st : Int) : ∀ n : Nat, 2 * pre st n = 2 * (n * st) - n * (n - 1)
  | 0 => by simp [pre]
  | n + 1 => by
    have ih := pre_closed st n
    simp only [pre]
    have e1 : ((n + 1 : Nat) : Int) * st = n * st + st := by rw [Int.natCast_add, Int.add_mul]; simp
    have e2 : ((n + 1 : Nat) : Int) * (((n + 1 : Nat) : Int) - 1) = n * (n - 1) + 2 * n := by
      have : ((n + 1 : Nat) : Int) - 1 = n := by omega
      rw [this, Int.natCast_add, Int.add_mul, Int.mul_sub]
      simp; omega
    rw [e1, e2]
    omega
/-- The number of a span. -/
def spanI (st f t : Int) : Int := pre st f.toNat + t - f
theorem idx_eq {nt st h f t : Int} (hf : 0 ≤ f) : idxI nt st h f t = spanI st f t * nt + h := by
  have := pre_closed st f.toNat
  have e : (f.toNat : Int) = f := by omega
  rw [e] at this
  unfold idxI spanI
  have : f * st - f * (f - 1) / 2 = pre st f.toNat := by omega
  rw [this]
theorem goal_eq {nt st : Int} (hs : 0 ≤ st) : goalI nt st = pre st st.toNat * nt := by
  have := pre_closed st st.toNat
  have e : (st.toNat : Int) = st := by omega
  rw [e] at this
  unfold goalI
  have h2 : st * (st + 1) = 2 * pre st st.toNat := by
    rw [Int.mul_add, Int.mul_one]
    rw [Int.mul_sub, Int.mul_one] at this
    omega
  rw [Int.mul_assoc, h2, ← Int.mul_assoc, Int.mul_comm nt 2, Int.mul_assoc, Int.mul_ediv_cancel_left _ (by omega), Int.mul_comm]

theorem span_pos {st f t : Int} (h1 : st ≤ 1000) (hf : 0 ≤ f) (hft : f ≤ t) (ht : t < st) : 0 ≤ spanI st f t ∧ spanI st f t < pre st st.toNat ∧ pre st st.toNat ≤ 1000000 := by
  have b := pre_bound h1 f.toNat (by omega)
  have b2 := pre_bound h1 st.toNat (by omega)
  have l := pre_lt (st := st) (a := f.toNat) (b := st.toNat) (by omega) (by omega)
  unfold spanI
  omega
theorem span_lt {st f t s u : Int} (hs : 0 ≤ s) (hf : s < f) (hfs : f ≤ st) (hft : f ≤ t) (hu : u < st) : spanI st s u < spanI st f t := by
  have l := pre_lt (st := st) (a := s.toNat) (b := f.toNat) (by omega) (by omega)
  unfold spanI
  omega

theorem divmod {x nt h : Int} (h1 : 0 ≤ h) (h2 : h < nt) : (x * nt + h) / nt = x ∧ (x * nt + h) % nt = h := by
  rw [Int.ediv_emod_unique (by omega)]
  exact ⟨by rw [Int.mul_comm nt x]; omega, h1, h2⟩

/-- Every number below the goal is that of an item. -/
theorem item_of {nt st i : Int} (h : sm nt st) (hi : 0 ≤ i) (hg : i < goalI nt st) : ∃ hd f t, isItem nt st hd f t ∧ i = spanI st f t * nt + hd := by
  obtain ⟨h1, h2, h3, h4⟩ := h
  rw [goal_eq h3] at hg
  have hnt : 0 < nt := by
    by_cases e : nt = 0
    · subst e; simp at hg; omega
    · omega
  have hd : i / nt * nt + i % nt = i := by rw [Int.mul_comm]; exact Int.mul_ediv_add_emod i nt
  have hm := Int.emod_nonneg i (show nt ≠ 0 by omega)
  have hm2 := Int.emod_lt_of_pos i hnt
  have hq : 0 ≤ i / nt := Int.ediv_nonneg hi h1
  have hq2 : i / nt < pre st st.toNat := Int.ediv_lt_of_lt_mul hnt hg
  have key : ∀ n : Nat, (n : Int) ≤ st → ∀ q, 0 ≤ q → q < pre st n → ∃ f t, 0 ≤ f ∧ f ≤ t ∧ t < st ∧ q = spanI st f t := by
    intro n
    induction n with
    | zero => intro _ q h0 hq; simp [pre] at hq; omega
    | succ n ih =>
      intro hn q h0 hq
      by_cases hlt : q < pre st n
      · exact ih (by omega) q h0 hlt
      · refine ⟨n, q - pre st n + n, by omega, by omega, ?_, ?_⟩
        · simp only [pre] at hq; omega
        · simp [spanI]; omega
  obtain ⟨f, t, k1, k2, k3, k4⟩ := key st.toNat (by omega) (i / nt) hq hq2
  refine ⟨i % nt, f, t, ?_, by rw [← k4]; exact hd.symm⟩
  unfold isItem
  omega

theorem goal_bound {nt st : Int} (h : sm nt st) : 0 ≤ goalI nt st ∧ goalI nt st ≤ 1000000000 := by
  obtain ⟨h1, h2, h3, h4⟩ := h
  rw [goal_eq h3]
  have b := pre_bound h4 st.toNat (by omega)
  have := mul_bound (a := pre st st.toNat) (m := 1000000) b.1 (by omega) h1 h2
  omega

theorem idx_lt {nt st hd f t : Int} (h : sm nt st) (hi : isItem nt st hd f t) : 0 ≤ spanI st f t * nt + hd ∧ spanI st f t * nt + hd < goalI nt st := by
  obtain ⟨h1, h2, h3, h4⟩ := h
  unfold isItem at hi
  rw [goal_eq h3]
  have b := span_pos (st := st) (f := f) (t := t) h4 (by omega) (by omega) (by omega)
  have g1 := Int.mul_nonneg b.1 h1
  have g2 : (spanI st f t + 1) * nt ≤ pre st st.toNat * nt := Int.mul_le_mul_of_nonneg_right (by omega) h1
  rw [Int.add_mul] at g2
  omega

theorem t16a (n : Normal) (l : Lattice) (h f t : Int) (hs : sm n.nonterms l.states) (hi : isItem n.nonterms l.states h f t) :
    CallsOk Try.prog 16 [n.enc, l.enc, ti (spanI l.states f t * n.nonterms + h)] (.tup [.agg [ti h, ti f, ti t], .bool true]) := by
  have hΓ := ok1
  have hr := idx_lt hs hi
  have hgb := goal_bound hs
  have hi' := hi
  unfold isItem at hi'
  have hs' := hs
  obtain ⟨h1, h2, h3, h4⟩ := hs'
  have hdm := divmod (x := spanI l.states f t) (nt := n.nonterms) (h := h) (by omega) (by omega)
  have hsp := span_pos (st := l.states) (f := f) (t := t) h4 (by omega) (by omega) (by omega)
  generalize hii : spanI l.states f t * n.nonterms + h = i at *
  refine c16.ok (by simp) (initSt_sat ?_)
  simp [Normal.enc, Lattice.enc]
  refine SatD.regSeq hΓ follows [2, 3, 4, 6] ?_
  simp [d16r0]
  refine SatD.seq ?_
  refine SatD.regSeq hΓ follows [2, 3, 4, 6, 19] ?_
  simp [d16r1, Γ1, spec32, spec33, fn32, fn33, pre33]
  refine ⟨fun _ => ⟨⟨n, l, rfl⟩, hs, ?_⟩, fun hc => by omega⟩
  refine SatD.cond (by simp; rfl) (fun hc => ?_) (fun hc => ?_)
  · simp at hc; omega
  · refine SatD.skip ?_
    simp
    refine SatD.regSeq hΓ follows [2, 3, 4, 6, 8] ?_
    simp [d16r3]
    refine ⟨by omega, ?_⟩
    rw [Int.tdiv_eq_ediv_of_nonneg hr.1, hdm.1, wrap_id (by omega)]
    refine SatD.regSeq hΓ follows [2, 3, 4, 6, 8, 9] ?_
    simp [d16r4]
    refine SatD.seq ?_
    refine SatD.block ?_ -- 0
    refine SatD.loop (fun y : Nat => ⟨DM.look [(2, .v (ti i)), (3, .ptr 1004 0), (4, .ptr 1005 0), (6, .ptr 1007 0), (8, .v (ti (spanI l.states f t - pre l.states y))), (9, .v (ti y))],
        obs [(1007, .box [.v (ti 0), .v (ti 0), .v (ti 0)]), (1005, .box [.v (ti l.states), .v (.sl (arcsT l.arcs)), .v (.sl (intsT l.final))]), (1004, .box [.v (ti n.terms), .v (ti n.nonterms), .v (ti n.start), .v (.sl (rulesT n.rules))])], 2000, 1000, []⟩)
      (fun y => (y : Int) ≤ f) (fun y => f.toNat - y) 0 (Le.keep ?_ ?_ ?_ ?_) (by simp; omega) (fun y hy => ?_)
    · simp
    · simp
    · simp
    · simp [pre]
    have hb := pre_bound h4 y (by omega)
    have hsf : y < f.toNat → pre l.states y + l.states - y ≤ pre l.states f.toNat := fun e => pre_lt e (by omega)
    have hspan : spanI l.states f t = pre l.states f.toNat + t - f := rfl
    refine SatD.seq ?_
    refine SatD.regSeq hΓ follows [2, 3, 4, 6, 8, 9, 30] ?_
    simp [d16r5]
    rw [wrap_id (x := l.states - (y : Int)) (by omega)]
    refine SatD.cond (by simp; rfl) (fun hc => ?_) (fun hc => ?_)
    · refine SatD.skip ?_
      simp at hc
      simp
      have hlt : y < f.toNat := by
        by_cases e : y = f.toNat
        · subst e
          omega
        · omega
      refine SatD.block ?_ -- 1
      refine SatD.regSeq hΓ follows [2, 3, 4, 6, 8, 9] ?_
      simp [d16r6]
      refine SatD.reg hΓ follows [2, 3, 4, 6, 8, 9] ?_
      simp [d16r7]
      refine ⟨y + 1, Le.keep ?_ ?_ ?_ ?_, ?_, ?_⟩
      · simp
      · simp
      · simp
      · simp [pre]
        simp (disch := omega) only [wrap_id]
        exact ⟨by omega, trivial⟩
      · omega
      · omega
    · refine SatD.exit ?_
      simp at hc
      simp
      have hyf : y = f.toNat := by
        by_cases e : y < f.toNat
        · have := hsf e
          omega
        · omega
      subst hyf
      refine SatD.regSeq hΓ follows [6, 7] ?_
      simp [d16r8]
      refine ⟨by omega, ?_⟩
      refine SatD.ret ?_
      simp [d16res]
      rw [Int.tmod_eq_emod_of_nonneg hr.1, hdm.2, wrap_id (by omega)]
      omega

theorem t16b (n : Normal) (l : Lattice) (i : Int) (hs : sm n.nonterms l.states) (hi : i < 0 ∨ goalI n.nonterms l.states ≤ i) :
    CallsOk Try.prog 16 [n.enc, l.enc, ti i] (.tup [.agg [ti 0, ti 0, ti 0], .bool false]) := by
  have hΓ := ok1
  refine c16.ok (by simp) (initSt_sat ?_)
  simp [Normal.enc, Lattice.enc]
  refine SatD.regSeq hΓ follows [2, 3, 4, 6] ?_
  simp [d16r0]
  refine SatD.seq ?_
  refine SatD.regSeq hΓ follows [2, 3, 4, 6, 19] ?_
  simp [d16r1, Γ1, spec32, spec33, fn32, fn33, pre33]
  refine ⟨fun _ => ⟨⟨n, l, rfl⟩, hs, ?_⟩, fun hc => ?_⟩
  all_goals
    refine SatD.cond (by simp; rfl) (fun hc => ?_) (fun hc => ?_)
    · refine SatD.regSeq hΓ follows [6, 7] ?_
      simp [d16r2]
      refine SatD.ret ?_
      simp [d16res]
    · simp at hc <;> omega
end Go.Proofs
namespace Go.Proofs
open Go.DM
set_option linter.unusedSimpArgs false
set_option linter.unusedVariables false

theorem t39 {Γ : Env} (hΓ : EnvOk Try.prog Γ) (n : Normal) (l : Lattice) (hs : sm n.nonterms l.states) : CallsOk Try.prog 39 [n.enc, l.enc] (ti (goalI n.nonterms l.states + 1)) := by
  have hgb := goal_bound hs
  obtain ⟨h1, h2, h3, h4⟩ := hs
  have b1 := mul_bound h3 h4 (b := l.states + 1) (n := 1001) (by omega) (by omega)
  have hge : goalI n.nonterms l.states = l.states * (l.states + 1) / 2 * n.nonterms := by
    rw [goal_eq h3]
    have := pre_closed l.states l.states.toNat
    have e : (l.states.toNat : Int) = l.states := by omega
    rw [e, Int.mul_sub, Int.mul_one] at this
    have h2 : l.states * (l.states + 1) / 2 = pre l.states l.states.toNat := by
      rw [Int.mul_add, Int.mul_one]
      omega
    rw [h2]
  refine c39.ok (by simp) (initSt_sat ?_)
  simp [Normal.enc, Lattice.enc]
  refine SatD.regSeq hΓ follows [2, 3] ?_
  simp [d39r0]
  refine SatD.regSeq hΓ follows [4] ?_
  simp [d39r1]
  refine SatD.ret ?_
  simp [d39res]
  rw [wrap_id (x := l.states + 1) (by omega), wrap_id (x := l.states * (l.states + 1)) (by omega), Int.tdiv_eq_ediv_of_nonneg b1.1, wrap_id (x := l.states * (l.states + 1) / 2) (by omega), ← hge, wrap_id (x := goalI n.nonterms l.states) (by omega), wrap_id (by omega)]

def fn39 : List T → T
  | [.agg [_, .int _ nt, _, _], .agg [.int _ st, _, _]] => ti (goalI nt st + 1)
  | _ => .bool false
def pre39 (ts : List T) : Prop := ∃ (n : Normal) (l : Lattice), ts = [n.enc, l.enc] ∧ sm n.nonterms l.states
def spec39 : DM.Spec := specP pre39 fn39 true
def fn40 : List T → T
  | [.agg [_, .int _ nt, _, _], .agg [.int _ st, _, _], .int _ f, .int _ t] => ti (spanI st f t * nt)
  | _ => .bool false
def pre40 (ts : List T) : Prop := ∃ (n : Normal) (l : Lattice) (f t : Int), ts = [n.enc, l.enc, ti f, ti t] ∧ sm n.nonterms l.states ∧ 0 ≤ f ∧ f ≤ t ∧ t < l.states
def spec40 : DM.Spec := specP pre40 fn40 true
def Γ2 : Env := envOf [(39, spec39), (40, spec40)]
theorem ok2 : EnvOk Try.prog Γ2 := by
  refine EnvOk.cons (EnvOk.cons EnvOk.nil ?_) ?_
  · rintro ts ⟨n, l, f, t, rfl, ⟨h1, h2, h3, h4⟩, k1, k2, k3⟩
    exact ⟨t40 EnvOk.nil n l f t h4 k1 k2 k3 h1 h2, fun _ => rfl⟩
  · rintro ts ⟨n, l, rfl, h1⟩
    exact ⟨t39 EnvOk.nil n l h1, fun _ => rfl⟩

theorem t18 (n : Normal) (l : Lattice) (h f t : Int) (hs : sm n.nonterms l.states) : CallsOk Try.prog 18 [n.enc, l.enc, .agg [ti h, ti f, ti t]]
    (if isItem n.nonterms l.states h f t then .tup [ti (idxI n.nonterms l.states h f t), .bool true] else .tup [ti 0, .bool false]) := by
  have hΓ := ok2
  refine c18.ok (by simp) (initSt_sat ?_)
  simp [Normal.enc, Lattice.enc]
  refine SatD.regSeq hΓ follows [3, 4, 5] ?_
  simp [d18r0]
  refine SatD.seq ?_
  refine SatD.regSeq hΓ follows [3, 4, 5, 36] ?_
  simp [d18r1]
  repeat' (first | apply And.intro | intro _)
  all_goals try (
    refine SatD.cond (by simp; rfl) (fun _ => ?_) (fun h => by cases h)
    refine SatD.regSeq hΓ follows [6, 7] ?_
    simp [d18r2]
    refine SatD.ret ?_
    have hn : ¬ isItem n.nonterms l.states h f t := by unfold isItem; omega
    simp [d18res, hn]
    done)
  rename_i a1 a2 a3 a4
  refine SatD.cond (by simp; rfl) (fun hc => ?_) (fun hc => ?_)
  · simp at hc
    have hn : ¬ isItem n.nonterms l.states h f t := by unfold isItem; omega
    refine SatD.regSeq hΓ follows [6, 7] ?_
    simp [d18r2]
    refine SatD.ret ?_
    simp [d18res, hn]
  · simp at hc
    have hn : isItem n.nonterms l.states h f t := by unfold isItem; omega
    have hil := idx_lt hs hn
    have hgb := goal_bound hs
    refine SatD.skip ?_
    simp
    refine SatD.regSeq hΓ follows [6, 7] ?_
    simp [d18r3, Γ2, spec40, fn40]
    refine ⟨⟨n, l, f, t, rfl, hs, by omega, by omega, by omega⟩, ?_⟩
    refine SatD.ret ?_
    simp [d18res, hn]
    rw [idx_eq (by omega), wrap_id (by omega)]

theorem t19a (n : Normal) (l : Lattice) (h f t : Int) (hs : sm n.nonterms l.states) (hi : isItem n.nonterms l.states h f t) :
    CallsOk Try.prog 19 [n.enc, l.enc, ti (spanI l.states f t * n.nonterms + h)] (.tup [.agg [ti h, ti f, ti t], .bool true]) := by
  have hΓ := ok2
  have hr := idx_lt hs hi
  have hgb := goal_bound hs
  have hi' := hi
  unfold isItem at hi'
  have hs' := hs
  obtain ⟨h1, h2, h3, h4⟩ := hs'
  have hsp := span_pos (st := l.states) (f := f) (t := t) h4 (by omega) (by omega) (by omega)
  -- the number lies in the span s, u only if these are f, t
  have hlt : ∀ s u : Int, 0 ≤ s → s ≤ u → u < l.states → spanI l.states s u < spanI l.states f t → spanI l.states s u * n.nonterms + n.nonterms ≤ spanI l.states f t * n.nonterms := by
    intro s u k1 k2 k3 k4
    have := Int.mul_le_mul_of_nonneg_right (show spanI l.states s u + 1 ≤ spanI l.states f t by omega) h1
    rw [Int.add_mul] at this
    omega
  have hbd : ∀ s u : Int, 0 ≤ s → s ≤ u → u < l.states → 0 ≤ spanI l.states s u * n.nonterms ∧ spanI l.states s u * n.nonterms ≤ 1000000000 := by
    intro s u k1 k2 k3
    have b := span_pos (st := l.states) (f := s) (t := u) h4 k1 k2 k3
    have := mul_bound (a := spanI l.states s u) (m := 1000000) b.1 (by omega) h1 h2
    omega
  have hit : spanI l.states f t * n.nonterms ≤ spanI l.states f t * n.nonterms + h := by omega
  generalize hii : spanI l.states f t * n.nonterms + h = i at *
  refine c19.ok (by simp) (initSt_sat ?_)
  simp [Normal.enc, Lattice.enc]
  refine SatD.regSeq hΓ follows [2, 3, 4, 6] ?_
  simp [d19r0]
  refine SatD.seq ?_
  refine SatD.regSeq hΓ follows [2, 3, 4, 6, 20] ?_
  simp [d19r1, Γ2, spec39, fn39]
  refine ⟨fun _ => ⟨⟨n, l, rfl, hs⟩, ?_⟩, fun hc => by omega⟩
  simp (disch := omega) only [wrap_id]
  refine SatD.cond (by simp; rfl) (fun hc => ?_) (fun hc => ?_)
  · simp at hc; omega
  · refine SatD.skip ?_
    simp
    refine SatD.seq ?_
    refine SatD.regSeq hΓ follows [2, 3, 4, 6, 8] ?_
    simp [d19r3]
    refine SatD.block ?_ -- 0
    refine SatD.loop (fun y : Nat => ⟨DM.look [(2, .v (ti i)), (3, .ptr 1004 0), (4, .ptr 1005 0), (6, .ptr 1007 0), (8, .v (ti y))],
        obs [(1007, .box [.v (ti 0), .v (ti 0), .v (ti 0)]), (1005, .box [.v (ti l.states), .v (.sl (arcsT l.arcs)), .v (.sl (intsT l.final))]), (1004, .box [.v (ti n.terms), .v (ti n.nonterms), .v (ti n.start), .v (.sl (rulesT n.rules))])], 2000, 1000, []⟩)
      (fun y => (y : Int) ≤ f) (fun y => f.toNat - y) 0 (Le.keep ?_ ?_ ?_ ?_) (by simp; omega) (fun y hy => ?_)
    · simp
    · simp
    · simp
    · simp
    refine SatD.seq ?_
    refine SatD.regSeq hΓ follows [2, 3, 4, 6, 8, 25] ?_
    simp [d19r4]
    refine SatD.cond (by simp; rfl) (fun hc => ?_) (fun hc => ?_)
    · refine SatD.skip ?_
      simp
      refine SatD.seq ?_
      refine SatD.block ?_ -- 1
      refine SatD.regSeq hΓ follows [2, 3, 4, 6, 8, 9] ?_
      simp [d19r5]
      refine SatD.block ?_ -- 2
      refine SatD.loop (fun z : Nat => ⟨DM.look [(2, .v (ti i)), (3, .ptr 1004 0), (4, .ptr 1005 0), (6, .ptr 1007 0), (8, .v (ti y)), (9, .v (ti z))],
          obs [(1007, .box [.v (ti 0), .v (ti 0), .v (ti 0)]), (1005, .box [.v (ti l.states), .v (.sl (arcsT l.arcs)), .v (.sl (intsT l.final))]), (1004, .box [.v (ti n.terms), .v (ti n.nonterms), .v (ti n.start), .v (.sl (rulesT n.rules))])], 3000, 1000, []⟩)
        (fun z => (y : Int) ≤ z ∧ (z : Int) ≤ l.states ∧ ((y : Int) = f → (z : Int) ≤ t)) (fun z => l.states.toNat - z) y (Le.keep ?_ ?_ ?_ ?_) (by omega) (fun z hz => ?_)
      · simp
      · simp
      · simp
      · simp
      obtain ⟨z1, z2, z3⟩ := hz
      refine SatD.seq ?_
      refine SatD.regSeq hΓ follows [2, 3, 4, 6, 8, 9, 32] ?_
      simp [d19r6]
      refine SatD.cond (by simp; rfl) (fun hd => ?_) (fun hd => ?_)
      · refine SatD.skip ?_
        simp at hd
        simp
        refine SatD.seq ?_
        refine SatD.block ?_ -- 3
        refine SatD.regSeq hΓ follows [2, 3, 4, 6, 8, 9, 10] ?_
        simp [d19r7, Γ2, spec40, fn40]
        refine ⟨⟨n, l, y, z, rfl, hs, by omega, by omega, by omega⟩, ?_⟩
        have hb := hbd y z (by omega) (by omega) (by omega)
        refine SatD.regSeq hΓ follows [2, 3, 4, 6, 8, 9, 10, 45] ?_
        simp [d19r8]
        rw [wrap_id (x := spanI l.states y z * n.nonterms + n.nonterms) (by omega)]
        refine SatD.cond (by simp; rfl) (fun he => ?_) (fun he => ?_)
        · simp at he
          have hyz : (y : Int) = f ∧ (z : Int) = t := by
            by_cases e1 : (y : Int) = f
            · refine ⟨e1, ?_⟩
              by_cases e2 : (z : Int) = t
              · exact e2
              · exfalso
                have hlt2 := hlt y z (by omega) (by omega) (by omega) (by unfold spanI; rw [← e1]; omega)
                omega
            · exfalso
              have hlt2 := hlt y z (by omega) (by omega) (by omega) (span_lt (by omega) (by omega) (by omega) (by omega) (by omega))
              omega
          refine SatD.regSeq hΓ follows [6, 7] ?_
          simp [d19r9]
          refine SatD.ret ?_
          simp [d19res]
          rw [hyz.1, hyz.2, wrap_id (by omega)]
          omega
        · simp at he
          refine SatD.skip ?_
          simp
          refine SatD.reg hΓ follows [2, 3, 4, 6, 8, 9] ?_
          simp [d19r10]
          have hnot : ¬ ((y : Int) = f ∧ (z : Int) = t) := by
            rintro ⟨e1, e2⟩
            rw [e1, e2] at he
            omega
          refine ⟨z + 1, Le.keep ?_ ?_ ?_ ?_, ⟨?_, ?_, ?_⟩, ?_⟩
          · simp
          · simp
          · simp
          · simp
            exact (wrap_id (by omega)).symm
          · omega
          · omega
          · omega
          · omega
      · refine SatD.exit ?_
        simp at hd
        simp
        refine SatD.reg hΓ follows [2, 3, 4, 6, 8] ?_
        simp [d19r11]
        refine ⟨y + 1, Le.keep ?_ ?_ ?_ ?_, ?_, ?_⟩
        · simp
        · simp
        · simp
        · simp
          exact (wrap_id (by omega)).symm
        · omega
        · omega
    · simp at hc; omega

theorem t19b (n : Normal) (l : Lattice) (i : Int) (hs : sm n.nonterms l.states) (hi : i < 0 ∨ goalI n.nonterms l.states ≤ i) :
    CallsOk Try.prog 19 [n.enc, l.enc, ti i] (.tup [.agg [ti 0, ti 0, ti 0], .bool false]) := by
  have hΓ := ok2
  have hgb := goal_bound hs
  refine c19.ok (by simp) (initSt_sat ?_)
  simp [Normal.enc, Lattice.enc]
  refine SatD.regSeq hΓ follows [2, 3, 4, 6] ?_
  simp [d19r0]
  refine SatD.seq ?_
  refine SatD.regSeq hΓ follows [2, 3, 4, 6, 20] ?_
  simp [d19r1, Γ2, spec39, fn39]
  refine ⟨fun _ => ⟨⟨n, l, rfl, hs⟩, ?_⟩, fun hc => ?_⟩
  simp (disch := omega) only [wrap_id]
  all_goals
    refine SatD.cond (by simp; rfl) (fun hc => ?_) (fun hc => ?_)
    · refine SatD.regSeq hΓ follows [6, 7] ?_
      simp [d19r2]
      refine SatD.ret ?_
      simp [d19res]
    · simp at hc <;> omega
end Go.Proofs
namespace Go.Proofs
open Go.DM
set_option linter.unusedSimpArgs false
set_option linter.unusedVariables false

instance : Inhabited Arc := ⟨⟨0, 0, 0, 0, []⟩⟩
instance : Inhabited Rule := ⟨⟨0, 0, 0, 0, 0, 0⟩⟩
instance : Inhabited Edge := ⟨⟨0, [], 0, 0, 0⟩⟩
@[simp] theorem length_ints (l : List Int) : (intsT l).length = l.length := by simp [intsT]
@[simp] theorem length_arcs (l : List Arc) : (arcsT l).length = l.length := by simp [arcsT]
@[simp] theorem length_rules (l : List Rule) : (rulesT l).length = l.length := by simp [rulesT]
@[simp] theorem length_edges (l : List Edge) : (edgesT l).length = l.length := by simp [edgesT]
theorem rowAt_ints {l : List Int} {y : Nat} (h : y < l.length) : DM.rowAt (intsT l) y = [ti (l.getD y default)] := by simp [DM.rowAt, intsT, h]
theorem rowAt_arcs {l : List Arc} {y : Nat} (h : y < l.length) : DM.rowAt (arcsT l) y = (l.getD y default).enc := by simp [DM.rowAt, arcsT, h]
theorem rowAt_rules {l : List Rule} {y : Nat} (h : y < l.length) : DM.rowAt (rulesT l) y = (l.getD y default).enc := by simp [DM.rowAt, rulesT, h]
theorem rowAt_edges {l : List Edge} {y : Nat} (h : y < l.length) : DM.rowAt (edgesT l) y = (l.getD y default).enc := by simp [DM.rowAt, edgesT, h]

abbrev Inf : Int := 1099511627776
def beforeI (f t m f' t' m' : Int) : Bool := if f ≠ f' then decide (f < f') else if t ≠ t' then decide (t < t') else decide (m < m')
abbrev before (a b : Arc) : Bool := beforeI a.f a.t a.term b.f b.t b.term

theorem t45 {Γ : Env} (hΓ : EnvOk Try.prog Γ) (a b : Arc) : CallsOk Try.prog 45 [.agg a.enc, .agg b.enc] (.bool (before a b)) := by
  refine c45.ok (by simp) (initSt_sat ?_)
  simp [Arc.enc]
  refine SatD.regSeq hΓ follows [2, 3] ?_
  simp [d45r0]
  refine SatD.seq ?_
  refine SatD.regSeq hΓ follows [2, 3, 9] ?_
  simp [d45r1]
  refine SatD.cond rfl (fun h => ?_) (fun h => ?_)
  · simp at h
    refine SatD.regSeq hΓ follows [4] ?_
    simp [d45r2]
    refine SatD.ret ?_
    simp [d45res, beforeI, h]
  · simp at h
    refine SatD.skip ?_
    simp
    refine SatD.seq ?_
    refine SatD.regSeq hΓ follows [2, 3, 19] ?_
    simp [d45r3]
    refine SatD.cond rfl (fun h2 => ?_) (fun h2 => ?_)
    · simp at h2
      refine SatD.regSeq hΓ follows [4] ?_
      simp [d45r4]
      refine SatD.ret ?_
      simp [d45res, beforeI, h, h2]
    · simp at h2
      refine SatD.skip ?_
      simp
      refine SatD.regSeq hΓ follows [4] ?_
      simp [d45r5]
      refine SatD.ret ?_
      simp [d45res, beforeI, h, h2]

def fn45 : List T → T
  | [.agg [.int _ f, .int _ t, .int _ m, _, _], .agg [.int _ f', .int _ t', .int _ m', _, _]] => .bool (beforeI f t m f' t' m')
  | _ => .bool false
def pre45 (ts : List T) : Prop := ∃ a b : Arc, ts = [.agg a.enc, .agg b.enc]
def spec45 : DM.Spec := specP pre45 fn45 true
def Γ3 : Env := envOf [(45, spec45)]
theorem ok3 : EnvOk Try.prog Γ3 := by
  refine EnvOk.cons EnvOk.nil ?_
  rintro ts ⟨a, b, rfl⟩
  exact ⟨t45 EnvOk.nil a b, fun _ => rfl⟩

def okFin (l : Lattice) (i : Nat) : Bool := decide (0 ≤ l.final.getD i default ∧ l.final.getD i default ≤ Inf)
def badArc (l : Lattice) (terms : Int) (i : Nat) : Prop :=
  (l.arcs.getD i default).f < 0 ∨ (l.arcs.getD i default).t < (l.arcs.getD i default).f ∨ l.states ≤ (l.arcs.getD i default).t ∨ (l.arcs.getD i default).term < 0 ∨ terms ≤ (l.arcs.getD i default).term ∨
    (l.arcs.getD i default).cost < 0 ∨ Inf ≤ (l.arcs.getD i default).cost ∨ ((l.arcs.getD i default).f = (l.arcs.getD i default).t ∧ (l.arcs.getD i default).cost = 0) ∨ (0 < i ∧ before (l.arcs.getD (i - 1) default) (l.arcs.getD i default) = false)
instance (l : Lattice) (terms : Int) (i : Nat) : Decidable (badArc l terms i) := by unfold badArc; infer_instance
def okArc (l : Lattice) (terms : Int) (i : Nat) : Bool := !decide (badArc l terms i)
def validL (l : Lattice) (terms : Int) : Bool := decide (1 ≤ l.states ∧ (l.final.length : Int) = l.states) && ((List.range l.final.length).all (okFin l) && (List.range l.arcs.length).all (okArc l terms))

theorem all_range_false {p : Nat → Bool} {n i : Nat} (h : i < n) (hp : p i = false) : (List.range n).all p = false := by
  rw [List.all_eq_false]
  exact ⟨i, by simp [h], by simp [hp]⟩
theorem all_range_true {p : Nat → Bool} {n : Nat} (h : ∀ i, i < n → p i = true) : (List.range n).all p = true := by
  rw [List.all_eq_true]
  intro i hi
  exact h i (by simpa using hi)

set_option maxRecDepth 20000 in
theorem t31 (l : Lattice) (terms : Int) (hf : l.final.length ≤ 9223372036854775807) (ha : l.arcs.length ≤ 9223372036854775807) : CallsOk Try.prog 31 [l.enc, ti terms] (.bool (validL l terms)) := by
  have hΓ := ok3
  refine c31.ok (by simp) (initSt_sat ?_)
  simp [Lattice.enc]
  refine SatD.regSeq hΓ follows [1, 2] ?_
  simp [d31r0]
  refine SatD.seq ?_
  refine SatD.regToSeq hΓ follows [(1, .v (ti terms)), (2, .ptr 1003 0), (18, .v (.bool (!decide (1 ≤ l.states ∧ (l.final.length : Int) = l.states))))] (obs [(1003, .box [.v (ti l.states), .v (.sl (arcsT l.arcs)), .v (.sl (intsT l.final))])]) ?_ ?_
  · simp [d31r1]
    refine ⟨fun h => ?_, fun h => ?_⟩ <;> first | omega | (rw [Bool.eq_iff_iff]; simp; omega)
  refine SatD.cond rfl (fun h => ?_) (fun h => ?_)
  · refine SatD.regSeq hΓ follows [4] ?_
    simp [d31r2]
    refine SatD.ret ?_
    simp only [Bool.not_eq_true', decide_eq_false_iff_not] at h
    simp [d31res, validL, h]
  · simp only [Bool.not_eq_false', decide_eq_true_eq] at h
    refine SatD.skip ?_
    simp
    refine SatD.seq ?_
    refine SatD.regSeq hΓ follows [1, 2, 5] ?_
    simp [d31r3]
    refine SatD.block ?_ -- 0
    refine SatD.loop (fun y : Nat => ⟨DM.look [(1, .v (ti terms)), (2, .ptr 1003 0), (5, .v (ti y))], obs [(1003, .box [.v (ti l.states), .v (.sl (arcsT l.arcs)), .v (.sl (intsT l.final))])], 2000, 1000, []⟩)
      (fun y => y ≤ l.final.length ∧ ∀ i, i < y → okFin l i = true) (fun y => l.final.length - y) 0 (Le.keep ?_ ?_ ?_ ?_) (by simp) (fun y hy => ?_)
    · simp
    · simp
    · simp
    · simp
    obtain ⟨hy1, hy2⟩ := hy
    refine SatD.seq ?_
    refine SatD.regSeq hΓ follows [1, 2, 5, 23] ?_
    simp [d31r4]
    refine SatD.cond rfl (fun hc => ?_) (fun hc => ?_)
    · simp at hc
      refine SatD.skip ?_
      simp
      refine SatD.seq ?_
      refine SatD.block ?_ -- 1
      refine SatD.regToSeq hΓ follows [(1, .v (ti terms)), (2, .ptr 1003 0), (5, .v (ti y)), (39, .v (.bool (!okFin l y)))] (obs [(1003, .box [.v (ti l.states), .v (.sl (arcsT l.arcs)), .v (.sl (intsT l.final))])]) ?_ ?_
      · simp [d31r5, rowAt_ints hc, hc, okFin]
        refine ⟨fun h => ?_, fun h => ?_⟩ <;> first | omega | (rw [Bool.eq_iff_iff]; simp; omega)
      refine SatD.cond rfl (fun h2 => ?_) (fun h2 => ?_)
      · refine SatD.regSeq hΓ follows [4] ?_
        simp [d31r6]
        refine SatD.ret ?_
        simp at h2
        have := all_range_false (p := okFin l) hc (by simpa [okFin] using h2)
        simp [d31res, validL, this]
      · simp only [Bool.not_eq_false'] at h2
        refine SatD.skip ?_
        simp
        refine SatD.reg hΓ follows [1, 2, 5] ?_
        simp [d31r7]
        refine ⟨y + 1, Le.keep ?_ ?_ ?_ ?_, ⟨?_, ?_⟩, ?_⟩
        · simp
        · simp
        · simp
        · simp
          exact (wrap_id (by omega)).symm
        · omega
        · intro i hi
          by_cases e : i = y
          · subst e; exact h2
          · exact hy2 i (by omega)
        · omega
    · simp at hc
      have hfin := all_range_true (p := okFin l) (n := l.final.length) (fun i hi => hy2 i (by omega))
      refine SatD.exit ?_
      simp
      refine SatD.seq ?_
      refine SatD.regSeq hΓ follows [1, 2, 6] ?_
      simp [d31r8]
      refine SatD.block ?_ -- 2
      refine SatD.loop (fun y : Nat => ⟨DM.look [(1, .v (ti terms)), (2, .ptr 1003 0), (6, .v (ti y))], obs [(1003, .box [.v (ti l.states), .v (.sl (arcsT l.arcs)), .v (.sl (intsT l.final))])], 3000, 1000, []⟩)
        (fun y => y ≤ l.arcs.length ∧ ∀ i, i < y → okArc l terms i = true) (fun y => l.arcs.length - y) 0 (Le.keep ?_ ?_ ?_ ?_) (by simp) (fun y hy => ?_)
      · simp
      · simp
      · simp
      · simp
      obtain ⟨hy1, hy2⟩ := hy
      refine SatD.seq ?_
      refine SatD.regSeq hΓ follows [1, 2, 6, 44] ?_
      simp [d31r9]
      refine SatD.cond rfl (fun hc => ?_) (fun hc => ?_)
      · simp at hc
        refine SatD.skip ?_
        simp
        refine SatD.seq ?_
        refine SatD.block ?_ -- 3
        refine SatD.regSeq hΓ follows [1, 2, 6, 7] ?_
        have hrow := rowAt_arcs hc
        simp [d31r10, hrow, hc, Arc.enc]
        refine SatD.regToS hΓ follows [(1, .v (ti terms)), (2, .ptr 1003 0), (6, .v (ti y)), (116, .v (.bool (decide (badArc l terms y))))] ?_ ?_
        rotate_left
        · refine SatD.cond rfl (fun h2 => ?_) (fun h2 => ?_)
          · refine SatD.regSeq hΓ follows [4] ?_
            simp [d31r12]
            refine SatD.ret ?_
            have h2' : okArc l terms y = false := by unfold okArc; rw [h2]; rfl
            have := all_range_false (p := okArc l terms) hc h2'
            simp [d31res, validL, this]
          · have h2' : okArc l terms y = true := by unfold okArc; rw [h2]; rfl
            refine SatD.skip ?_
            simp
            refine SatD.reg hΓ follows [1, 2, 6] ?_
            simp [d31r13]
            refine ⟨y + 1, Le.keep ?_ ?_ ?_ ?_, ⟨?_, ?_⟩, ?_⟩
            · simp
            · simp
            · simp
            · simp
              exact (wrap_id (by omega)).symm
            · omega
            · intro i hi
              by_cases e : i = y
              · subst e; exact h2'
              · exact hy2 i (by omega)
            · omega
        · have hb := hc
          cases y with
          | zero =>
            simp [d31r11]
            repeat' (first | apply And.intro | intro _)
            all_goals first | omega | (simp [badArc, hc, Inf]; omega) | (rename_i hh; revert hh; simp [badArc, hc, Inf]; omega)
          | succ z =>
            have ew : IntKind.i64.wrap (z : Int) = z := wrap_id (by omega)
            have hrow2 := rowAt_arcs (l := l.arcs) (y := z) (by omega)
            have hz : z < l.arcs.length := by omega
            simp [d31r11, ew, hrow2, hz, Arc.enc, Γ3, spec45, fn45]
            repeat' (first | apply And.intro | intro _)
            all_goals first | omega | exact ⟨l.arcs[z], l.arcs[z + 1], rfl⟩ | (simp [badArc, hc, hz, Inf]; omega) | (rename_i hh; revert hh; simp [badArc, hc, hz, Inf]; omega) | (generalize hbb : beforeI _ _ _ _ _ _ = bb; cases bb <;> simp [badArc, hc, hz, Inf, hbb] <;> omega)
      · simp at hc
        have harcs := all_range_true (p := okArc l terms) (n := l.arcs.length) (fun i hi => hy2 i (by omega))
        refine SatD.exit ?_
        simp
        refine SatD.regSeq hΓ follows [4] ?_
        simp [d31r14]
        refine SatD.ret ?_
        simp [d31res, validL, hfin, harcs, h]
end Go.Proofs
