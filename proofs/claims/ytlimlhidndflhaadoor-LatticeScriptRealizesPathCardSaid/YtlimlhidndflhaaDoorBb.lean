/- Locality: the arcs up to a token boundary are those of the tokens before it. Conditions: none. -/
import Derived.Test.YtlimlhidndflhaaDoorBa
namespace Go.Proofs
open Go.DM Go.DM.Srt
set_option linter.unusedSimpArgs false
set_option linter.unusedVariables false

/-- The first k tokens. -/
def part (x : Input) (k : Nat) : Input := ⟨x.columns.take k, x.insert, x.swap⟩
end Go.Proofs
/- Distances in lattices told by paths; the triangle law. Conditions: none. -/
namespace Go.Proofs
open Go.DM Go.DM.Srt
set_option linter.unusedSimpArgs false
set_option linter.unusedVariables false

/-- A path from the first state: its label, its end, its cost. -/
inductive PathTo (arcs : List Arc) : List Int → Nat → Int → Prop
  | nil : PathTo arcs [] 0 0
  | snoc {ys : List Int} {s : Nat} {c : Int} (a : Arc) : PathTo arcs ys s c → a ∈ arcs → a.f = s → PathTo arcs (ys ++ [a.term]) a.t.toNat (c + a.cost)
theorem PathTo.mono {arcs arcs' : List Arc} (h : ∀ a ∈ arcs, a ∈ arcs') {y : List Int} {s : Nat} {c : Int} (p : PathTo arcs y s c) : PathTo arcs' y s c := by
  induction p with
  | nil => exact .nil
  | snoc a p ha hf ih => exact .snoc a ih (h a ha) hf
theorem PathTo.cost {arcs : List Arc} (h : ∀ a ∈ arcs, 0 ≤ a.cost) {y : List Int} {s : Nat} {c : Int} (p : PathTo arcs y s c) : 0 ≤ c := by
  induction p with
  | nil => omega
  | snoc a p ha hf ih => have := h a ha; omega
theorem ref_fin (x : Input) {s : Nat} (hs : s < 2 * x.columns.length + 1) : (refBuildL x).final.getD s default = if s % 2 = 0 then delC x (s / 2) x.columns.length else 1099511627776 := by
  simp [refBuildL, refFin, List.getD, hs]
theorem delC_snoc (x : Input) {i m : Nat} (h : i ≤ m) (hm : m < x.columns.length) : delC x i (m + 1) = min (delC x i m + (x.columns.getD m default).delete) 1099511627776 := by
  unfold delC
  have e : (x.columns.take (m + 1)).drop i = (x.columns.take m).drop i ++ [x.columns.getD m default] := by
    rw [List.take_add_one, List.getElem?_eq_getElem hm, List.drop_append_of_le_length (by simp; omega)]
    simp [List.getD, hm]
  rw [e, delCost_snoc]
end Go.Proofs
