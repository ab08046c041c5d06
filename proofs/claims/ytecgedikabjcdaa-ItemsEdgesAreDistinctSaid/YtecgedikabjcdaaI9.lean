import Derived.Test.YtecgedikabjcdaaI8
import Derived.Test.YtecgedikabjcdaaI0b
namespace Go.Proofs
open Go.DM
set_option linter.unusedSimpArgs false
set_option linter.unusedVariables false

def edgeOf (nt st : Int) (r : Rule) (f t k : Int) (cost arg : Int) (tails : List Int) : Edge := ⟨idxI nt st r.head f t, tails, min cost Inf, k, arg⟩
def caps46 (nt st : Int) (r : Rule) (f t k : Int) : List T := [.box [ti nt, ti st], .box r.enc, .box [ti f], .box [ti t], .box [ti k]]
def okR (r : Rule) : Prop := 0 ≤ r.head ∧ r.head ≤ 1000 ∧ 0 ≤ r.price ∧ r.price ≤ 1000
def okF (f t : Int) : Prop := 0 ≤ f ∧ f ≤ t ∧ t ≤ 1000

theorem t46 (nt st : Int) (r : Rule) (f t k cost arg : Int) (tails : List Int) (h : sm nt st) (hr : okR r) (hf : okF f t) :
    CallsOk Try.prog 46 ([ti cost, ti arg, .sl (intsT tails)] ++ caps46 nt st r f t k) (.agg (edgeOf nt st r f t k cost arg tails).enc) := by
  have hΓ := ok1
  refine c46.ok (by simp [caps46]) (initSt_sat ?_)
  simp [caps46, Rule.enc]
  refine SatD.regSeq hΓ follows [0, 1, 2, 3, 4, 5, 6, 7, 11] ?_
  simp [d46r0]
  refine SatD.regSeq hΓ follows [11] ?_
  simp [d46r1, Γ1, spec37, fn37, pre37]
  refine ⟨⟨h, ?_⟩, ?_⟩
  · unfold okR at hr; unfold okF at hf; omega
  refine SatD.ret ?_
  simp [d46res, edgeOf, Edge.enc]

theorem t36 (a b : Edge) (ha : 0 ≤ a.head ∧ a.head ≤ 1000000000000) (hb : 0 ≤ b.head ∧ b.head ≤ 1000000000000) : CallsOk Try.prog 36 [.agg a.enc, .agg b.enc] (ti (a.head - b.head)) := by
  have hΓ : EnvOk Try.prog (envOf []) := EnvOk.nil
  refine c36.ok (by simp) (initSt_sat ?_)
  simp [Edge.enc]
  refine SatD.regSeq hΓ follows [2, 3, 4] ?_
  simp [d36r0]
  refine SatD.regSeq hΓ follows [4] ?_
  simp [d36r1]
  refine SatD.ret ?_
  simp [d36res]
  rw [wrap_id (by omega)]

def caps47 (nt st : Int) (r : Rule) (arcs : List Arc) (fin : List Int) (f t k : Int) : List T := [.box r.enc, .box [ti f], .box [ti t], .box [.fn (.func 46) (caps46 nt st r f t k)], .box [ti st, .sl (arcsT arcs), .sl (intsT fin)], .box [ti nt, ti st]]
theorem t34 (n : Normal) (l : Lattice) (k : Nat) (f t : Int) (hk : k < n.rules.length) :
    CallsOk Try.prog 34 [n.enc, l.enc, ti k, ti f, ti t] (.fn (.func 47) (caps47 n.nonterms l.states (n.rules.getD k default) l.arcs l.final f t k)) := by
  have hΓ := ok1
  refine c34.ok (by simp) (initSt_sat ?_)
  simp [Normal.enc, Lattice.enc]
  refine SatD.regSeq hΓ follows [5, 6, 7, 8, 9, 10] ?_
  simp [d34r0]
  refine SatD.regSeq hΓ follows [5, 6, 7, 8, 9, 11] ?_
  simp [d34r1, Γ1, spec32, fn32, pre32]
  refine ⟨⟨⟨n, rfl⟩, ⟨l, rfl⟩⟩, ?_⟩
  refine SatD.regSeq hΓ follows [6, 7, 8, 9, 11, 12] ?_
  have hrow := rowAt_rules hk
  simp [d34r2, hrow, hk, Rule.enc]
  generalize n.rules[k] = r
  refine SatD.le (Le.keep (o := []) (l := [(6, .v (.box [ti l.states, .sl (arcsT l.arcs), .sl (intsT l.final)])), (7, .v (.box [ti k])), (8, .v (.box [ti f])), (9, .v (.box [ti t])), (11, .v (.box [ti n.nonterms, ti l.states])), (12, .v (.box r.enc))]) (nxt' := 1100) ?_ ?_ ?_ ?_) ?_
  · simp
  · simp
  · simp
  · simp [Rule.enc]
  refine SatD.regSeq hΓ follows [6, 8, 9, 11, 12, 13] ?_
  simp [d34r3]
  refine SatD.le (Le.keep (o := []) (l := [(6, .v (.box [ti l.states, .sl (arcsT l.arcs), .sl (intsT l.final)])), (8, .v (.box [ti f])), (9, .v (.box [ti t])), (11, .v (.box [ti n.nonterms, ti l.states])), (12, .v (.box r.enc)), (13, .v (.box [.fn (.func 46) (caps46 n.nonterms l.states r f t k)]))]) (nxt' := 1200) ?_ ?_ ?_ ?_) ?_
  · simp
  · simp
  · simp
  · simp [caps46]
  refine SatD.regSeq hΓ follows [10] ?_
  simp [d34r4]
  refine SatD.ret ?_
  simp [d34res, caps47, caps46]
end Go.Proofs
