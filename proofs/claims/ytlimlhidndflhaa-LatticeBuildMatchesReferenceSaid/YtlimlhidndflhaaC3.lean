/- emendatelaw37.LatticeBuildMatchesReference answers true at every input, and leaves its arguments as they were. Conditions: none. -/
import Derived.Test.YtlimlhidndflhaaBa
import Derived.Test.YtlimlhidndflhaaP2
import Derived.Test.YtlimlhidndflhaaRows
import Derived.WalkKit
import Derived.ProofKit
import Derived.OpenShut
import Derived.Deep.DeepHandedRow
namespace Go.Proofs.Ytlimlhidndflhaa.bld
open Go.ChangeShapes Go.WideShapes Go.ChangeAt Go.RowKit Go.DM Go.Proofs
set_option linter.unusedVariables false
def tyL : List TypeId := [30, 3, 28, 45, 38, 52, 23, 25, 22, 49, 5]
theorem tyOk : plainTys Try.prog tyL = true := by kernel_rfl
theorem tysOk : tyOf.tysOf (tyOf Try.prog 9) [25] = some [inputTy] := by kernel_rfl
theorem resN : Try.f3.resultTypes = #[4] := by kernel_rfl
theorem undB : Try.prog.underlying 4 = some .bool := by kernel_rfl
theorem parsN : Try.f3.params.toList = [25] := by kernel_rfl
theorem parN : ∀ t ∈ Try.f3.params.toList, t ∈ tyL := by rw [parsN]; simp [tyL]
theorem szN : Try.f3.params.size = 1 := by kernel_rfl
theorem own : ownKnob Try.prog.godebug = none := by kernel_rfl
set_option maxRecDepth 100000 in
theorem contract (H : Type) (enc : TypeId × Value → H) (W : World) (base : Nat) (args : Array Value) (ds gs : List (DataW H)) (before : List MemPlace)
    (hval : ∀ (j : Nat) t v, Try.f3.params[j]? = some t → args[j]? = some v → Value.okWide Try.prog W .any base t v)
    (hW : DataW.Whole enc Try.prog Try.f3.params.toList Rows.latticeBuildMatchesReferenceSpec.vars false W args.toList ds gs before) :
    Calls Try.prog 3 args W fun e W' => ∃ v, e = .returned v ∧ Rows.latticeBuildMatchesReferenceSpec.post enc Try.prog Try.f3 false true false false W args v W' := by
  refine law_contract (P := Try.prog) (fn := Try.f3) (f := 3) (s := Rows.latticeBuildMatchesReferenceSpec) (base := base) (L := tyL) (tb := 4) tyOk parN resN undB rfl ?_ ?_ hval hW
  · intro ds h
    rw [szN] at h
    match ds, h with
    | [a], _ => rfl
  · intro xs h
    rw [parsN] at h
    have := args_of tysOk h
    simp only [Ty.args] at this
    obtain ⟨x, xs', rfl, h1, rfl⟩ := this
    obtain ⟨l, rfl, k2, k3⟩ := input_of h1
    exact t3 l

def wit : Array Value := #[.agg #[.slice none 0 0, .slice none 0 0, .int .i64 0]]
set_option maxRecDepth 100000 in
theorem lifted (os : Os) (started : os.Started) (H : Type) (enc : TypeId × Value → H) :
    ReturnsInHanded {} Try.checked os 3 .any (Rows.latticeBuildMatchesReferenceSpec.pre6 enc Try.prog Try.f3 Rows.latticeBuildMatchesReferenceRow.domain false) (Rows.latticeBuildMatchesReferenceSpec.post enc Try.prog Try.f3 false true false false) := by
  refine returnsInHanded_of_change (C := Try.checked) own started (by kernel_rfl) Try.func3
    (ChangeSpec.witness6 (enc := enc) (C := Try.checked) false ⟨#[], wit, []⟩ 8 (by kernel_rfl) (by kernel_rfl) (by kernel_rfl) (by kernel_rfl)) ?_
  intro W base args ds gs before hval hW _ _
  exact contract H enc W base args ds gs before hval hW

theorem said : Rows.LatticeBuildMatchesReferenceSaid :=
  OpenClaim.holds_of_wide 3 Try.f3 rfl rfl rfl rfl rfl rfl rfl ⟨rfl, rfl, rfl, rfl, rfl⟩ rfl rfl rfl rfl rfl (by kernel_rfl) Try.func3 (by kernel_rfl)
    (of_decide_eq_true (by kernel_rfl)) (by unfold Func.isWrapper; first | (rw [if_pos (by decide +kernel)]; kernel_rfl) | (rw [if_neg (by decide +kernel)]; exact ⟨rfl, rfl⟩))
    (fun os started H enc _ => lifted os started H enc)
end Go.Proofs.Ytlimlhidndflhaa.bld
