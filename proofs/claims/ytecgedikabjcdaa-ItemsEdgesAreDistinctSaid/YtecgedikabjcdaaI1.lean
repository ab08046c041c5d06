import Derived.Test.YtecgedikabjcdaaI0
namespace Go.Proofs
open Go.DM
set_option linter.unusedSimpArgs false
set_option linter.unusedVariables false

abbrev ti (n : Int) : T := .int .i64 n
structure Rule where
  (kind head a b price origin : Int)
structure Normal where
  (terms nonterms start : Int)
  rules : List Rule
structure Arc where
  (f t term cost : Int)
  ops : List (Int × Int)
structure Lattice where
  states : Int
  arcs : List Arc
  final : List Int
structure Edge where
  head : Int
  tails : List Int
  (cost l0 l1 : Int)
  deriving DecidableEq
def Rule.enc (r : Rule) : List T := [ti r.kind, ti r.head, ti r.a, ti r.b, ti r.price, ti r.origin]
def rulesT (l : List Rule) : List (List T) := l.map Rule.enc
def Normal.enc (n : Normal) : T := .agg [ti n.terms, ti n.nonterms, ti n.start, .sl (rulesT n.rules)]
def opsT (l : List (Int × Int)) : List (List T) := l.map fun o => [ti o.1, ti o.2]
def Arc.enc (a : Arc) : List T := [ti a.f, ti a.t, ti a.term, ti a.cost, .sl (opsT a.ops)]
def arcsT (l : List Arc) : List (List T) := l.map Arc.enc
def intsT (l : List Int) : List (List T) := l.map fun x => [ti x]
def Lattice.enc (l : Lattice) : T := .agg [ti l.states, .sl (arcsT l.arcs), .sl (intsT l.final)]
def Edge.enc (e : Edge) : List T := [ti e.head, .sl (intsT e.tails), ti e.cost, ti e.l0, ti e.l1]
def edgesT (l : List Edge) : List (List T) := l.map Edge.enc

theorem t32 {Γ : Env} (hΓ : EnvOk Try.prog Γ) (n : Normal) (l : Lattice) : CallsOk Try.prog 32 [n.enc, l.enc] (.agg [ti n.nonterms, ti l.states]) := by
  refine c32.ok (by simp) (initSt_sat ?_)
  simp [Normal.enc, Lattice.enc]
  refine SatD.regSeq hΓ follows [2, 3, 4] ?_
  simp [d32r0]
  refine SatD.regSeq hΓ follows [4] ?_
  simp [d32r1]
  refine SatD.ret ?_
  simp [d32res]

/-- How many spans begin ahead of state n. -/
def pre (st : Int) : Nat → Int
  | 0 => 0
  | n + 1 => pre st n + st - n
theorem pre_bound {st : Int} (h : st ≤ 1000) : ∀ n : Nat, (n : Int) ≤ st → 0 ≤ pre st n ∧ pre st n ≤ 1000 * n
  | 0, _ => by simp [pre]
  | n + 1, hn => by
    have := pre_bound h n (by omega)
    simp only [pre]
    omega

theorem t40 {Γ : Env} (hΓ : EnvOk Try.prog Γ) (n : Normal) (l : Lattice) (f t : Int) (h1 : l.states ≤ 1000) (h2 : 0 ≤ f) (h3 : f ≤ t) (h4 : t < l.states) (h5 : 0 ≤ n.nonterms) (h6 : n.nonterms ≤ 1000) :
    CallsOk Try.prog 40 [n.enc, l.enc, ti f, ti t] (ti ((pre l.states f.toNat + t - f) * n.nonterms)) := by
  refine c40.ok (by simp) (initSt_sat ?_)
  simp [Normal.enc, Lattice.enc]
  refine SatD.regSeq hΓ follows [2, 3, 4, 5, 8] ?_
  simp [d40r0]
  refine SatD.regSeq hΓ follows [2, 3, 4, 5, 9] ?_
  simp [d40r1]
  refine SatD.seq ?_
  refine SatD.regSeq hΓ follows [2, 3, 4, 5, 9, 10] ?_
  simp [d40r2]
  refine SatD.block ?_ -- 0
  refine SatD.loop (fun y : Nat => ⟨DM.look [(2, .v (ti f)), (3, .v (ti t)), (4, .ptr 1005 0), (5, .ptr 1006 0), (9, .v (ti (pre l.states y))), (10, .v (ti y))], obs [(1006, .box [.v (ti l.states), .v (.sl (arcsT l.arcs)), .v (.sl (intsT l.final))]), (1005, .box [.v (ti n.terms), .v (ti n.nonterms), .v (ti n.start), .v (.sl (rulesT n.rules))])], 2000, 1000, []⟩)
    (fun y => (y : Int) ≤ f) (fun y => f.toNat - y) 0 (Le.keep ?_ ?_ ?_ ?_) (by simpa using h2) (fun y hy => ?_)
  · simp
  · simp
  · simp
  · simp [pre]
  have hb := pre_bound h1 y (by omega)
  refine SatD.seq ?_
  refine SatD.seq ?_
  refine SatD.reg hΓ follows [2, 3, 4, 5, 9, 10, 13] ?_
  simp [d40r3]
  refine SatD.cond (by simp; rfl) (fun h => ?_) (fun h => ?_)
  · refine SatD.skip ?_
    simp at h
    simp
    refine SatD.seq ?_
    refine SatD.block ?_ -- 1
    refine SatD.reg hΓ follows [2, 3, 4, 5, 9, 10] ?_
    simp [d40r4]
    refine SatD.reg hΓ follows [2, 3, 4, 5, 9, 10] ?_
    simp [d40r5]
    refine ⟨y + 1, Le.keep ?_ ?_ ?_ ?_, ?_, ?_⟩
    · simp
    · simp
    · simp
    · simp [pre]
      simp (disch := omega) only [wrap_id]
      exact ⟨trivial, trivial⟩
    · omega
    · omega
  · refine SatD.exit ?_
    simp at h
    simp
    have hyf : (y : Int) = f := by omega
    refine SatD.regSeq hΓ follows [8] ?_
    simp [d40r6]
    refine SatD.ret ?_
    simp [d40res]
    have hy2 : f.toNat = y := by omega
    have hm : 0 ≤ (pre l.states y + t - f) * n.nonterms ∧ (pre l.states y + t - f) * n.nonterms ≤ 2000000 * 1000 := by
      have h7 : 0 ≤ pre l.states y + t - f := by omega
      have h8 : pre l.states y + t - f ≤ 2000000 := by omega
      exact ⟨Int.mul_nonneg h7 h5, Int.mul_le_mul h8 h6 h5 (by omega)⟩
    rw [hy2]
    simp (disch := omega) only [wrap_id]
end Go.Proofs
