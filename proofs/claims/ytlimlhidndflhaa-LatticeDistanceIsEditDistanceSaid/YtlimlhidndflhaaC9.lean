/- emendatelaw37.LatticeDistanceIsEditDistance answers true at every input, and leaves its arguments as they were. Conditions: none. -/
import Derived.Test.YtlimlhidndflhaaBd
import Derived.Test.YtlimlhidndflhaaPa
import Derived.Test.YtlimlhidndflhaaRows
import Derived.WalkKit
import Derived.ProofKit
import Derived.OpenShut
import Derived.Deep.DeepHandedRow
namespace Go.Proofs.Ytlimlhidndflhaa.edi
open Go.ChangeShapes Go.WideShapes Go.ChangeAt Go.RowKit Go.DM Go.Proofs
set_option linter.unusedVariables false
def tyL : List TypeId := [30, 3, 28, 45, 38, 52, 23, 25, 22, 49, 5]
theorem tyOk : plainTys Try.prog tyL = true := by kernel_rfl
theorem tysOk : tyOf.tysOf (tyOf Try.prog 9) [25, 23] = some [inputTy, (.slice intTy)] := by kernel_rfl
theorem resN : Try.f9.resultTypes = #[4] := by kernel_rfl
theorem undB : Try.prog.underlying 4 = some .bool := by kernel_rfl
theorem parsN : Try.f9.params.toList = [25, 23] := by kernel_rfl
theorem parN : ∀ t ∈ Try.f9.params.toList, t ∈ tyL := by rw [parsN]; simp [tyL]
theorem szN : Try.f9.params.size = 2 := by kernel_rfl
theorem own : ownKnob Try.prog.godebug = none := by kernel_rfl
set_option maxRecDepth 100000 in
theorem contract (H : Type) (enc : TypeId × Value → H) (W : World) (base : Nat) (args : Array Value) (ds gs : List (DataW H)) (before : List MemPlace)
    (hval : ∀ (j : Nat) t v, Try.f9.params[j]? = some t → args[j]? = some v → Value.okWide Try.prog W .any base t v)
    (hW : DataW.Whole enc Try.prog Try.f9.params.toList Rows.latticeDistanceIsEditDistanceSpec.vars false W args.toList ds gs before) :
    Calls Try.prog 9 args W fun e W' => ∃ v, e = .returned v ∧ Rows.latticeDistanceIsEditDistanceSpec.post enc Try.prog Try.f9 false true false false W args v W' := by
  refine law_contract (P := Try.prog) (fn := Try.f9) (f := 9) (s := Rows.latticeDistanceIsEditDistanceSpec) (base := base) (L := tyL) (tb := 4) tyOk parN resN undB rfl ?_ ?_ hval hW
  · intro ds h
    rw [szN] at h
    match ds, h with
    | [a, b], _ => rfl
  · intro xs h
    rw [parsN] at h
    have := args_of tysOk h
    simp only [Ty.args] at this
    obtain ⟨x, xs', rfl, h1, y, ys', rfl, h2, rfl⟩ := this
    obtain ⟨l, rfl, k2, k3⟩ := input_of h1
    obtain ⟨t, rfl, ht⟩ := ints_of h2
    exact t9 l t ht

def wit : Array Value := #[.agg #[.slice none 0 0, .slice none 0 0, .int .i64 0], .slice none 0 0]
set_option maxRecDepth 100000 in
theorem lifted (os : Os) (started : os.Started) (H : Type) (enc : TypeId × Value → H) :
    ReturnsInHanded {} Try.checked os 9 .any (Rows.latticeDistanceIsEditDistanceSpec.pre6 enc Try.prog Try.f9 Rows.latticeDistanceIsEditDistanceRow.domain false) (Rows.latticeDistanceIsEditDistanceSpec.post enc Try.prog Try.f9 false true false false) := by
  refine returnsInHanded_of_change (C := Try.checked) own started (by kernel_rfl) Try.func9
    (ChangeSpec.witness6 (enc := enc) (C := Try.checked) false ⟨#[], wit, []⟩ 8 (by kernel_rfl) (by kernel_rfl) (by kernel_rfl) (by kernel_rfl)) ?_
  intro W base args ds gs before hval hW _ _
  exact contract H enc W base args ds gs before hval hW

theorem said : Rows.LatticeDistanceIsEditDistanceSaid :=
  OpenClaim.holds_of_wide 9 Try.f9 rfl rfl rfl rfl rfl rfl rfl ⟨rfl, rfl, rfl, rfl, rfl⟩ rfl rfl rfl rfl rfl (by kernel_rfl) Try.func9 (by kernel_rfl)
    (of_decide_eq_true (by kernel_rfl)) (by unfold Func.isWrapper; first | (rw [if_pos (by decide +kernel)]; kernel_rfl) | (rw [if_neg (by decide +kernel)]; exact ⟨rfl, rfl⟩))
    (fun os started H enc _ => lifted os started H enc)
end Go.Proofs.Ytlimlhidndflhaa.edi
