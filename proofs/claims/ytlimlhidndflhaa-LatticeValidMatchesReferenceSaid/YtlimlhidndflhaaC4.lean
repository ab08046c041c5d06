/- emendatelaw37.LatticeValidMatchesReference answers true at every input, and leaves its arguments as they were. Conditions: none. -/
import Derived.Test.YtlimlhidndflhaaLc
import Derived.Test.YtlimlhidndflhaaP2
import Derived.Test.YtlimlhidndflhaaRows
import Derived.WalkKit
import Derived.ProofKit
import Derived.OpenShut
import Derived.Deep.DeepHandedRow
namespace Go.Proofs.Ytlimlhidndflhaa.val
open Go.ChangeShapes Go.WideShapes Go.ChangeAt Go.RowKit Go.DM Go.Proofs
set_option linter.unusedVariables false
def tyL : List TypeId := [30, 3, 28, 45, 38, 52, 23, 25, 22, 49, 5]
theorem tyOk : plainTys Try.prog tyL = true := by kernel_rfl
theorem tysOk : tyOf.tysOf (tyOf Try.prog 9) [30, 3] = some [latticeTy, intTy] := by kernel_rfl
theorem res4 : Try.f4.resultTypes = #[4] := by kernel_rfl
theorem und4 : Try.prog.underlying 4 = some .bool := by kernel_rfl
theorem pars4 : Try.f4.params.toList = [30, 3] := by kernel_rfl
theorem par4 : ∀ t ∈ Try.f4.params.toList, t ∈ tyL := by rw [pars4]; simp [tyL]
theorem sz4 : Try.f4.params.size = 2 := by kernel_rfl
theorem own : ownKnob Try.prog.godebug = none := by kernel_rfl
set_option maxRecDepth 100000 in
theorem contract (H : Type) (enc : TypeId × Value → H) (W : World) (base : Nat) (args : Array Value) (ds gs : List (DataW H)) (before : List MemPlace)
    (hval : ∀ (j : Nat) t v, Try.f4.params[j]? = some t → args[j]? = some v → Value.okWide Try.prog W .any base t v)
    (hW : DataW.Whole enc Try.prog Try.f4.params.toList Rows.latticeValidMatchesReferenceSpec.vars false W args.toList ds gs before) :
    Calls Try.prog 4 args W fun e W' => ∃ v, e = .returned v ∧ Rows.latticeValidMatchesReferenceSpec.post enc Try.prog Try.f4 false true false false W args v W' := by
  refine law_contract (P := Try.prog) (fn := Try.f4) (f := 4) (s := Rows.latticeValidMatchesReferenceSpec) (base := base) (L := tyL) (tb := 4) tyOk par4 res4 und4 rfl ?_ ?_ hval hW
  · intro ds h
    rw [sz4] at h
    match ds, h with
    | [a, b], _ => rfl
  · intro xs h
    rw [pars4] at h
    have := args_of tysOk h
    simp only [Ty.args] at this
    obtain ⟨x, xs', rfl, h1, y, ys', rfl, h2, rfl⟩ := this
    obtain ⟨l, rfl, k2, k3⟩ := lattice_of h1
    obtain ⟨t, ht⟩ := int_of (show intTy.has [y] from h2)
    simp only [List.cons.injEq, and_true] at ht
    subst ht
    exact t4 l t

def wit : Array Value := #[.agg #[.int .i64 0, .slice none 0 0, .slice none 0 0], .int .i64 0]
set_option maxRecDepth 100000 in
theorem lifted (os : Os) (started : os.Started) (H : Type) (enc : TypeId × Value → H) :
    ReturnsInHanded {} Try.checked os 4 .any (Rows.latticeValidMatchesReferenceSpec.pre6 enc Try.prog Try.f4 Rows.latticeValidMatchesReferenceRow.domain false) (Rows.latticeValidMatchesReferenceSpec.post enc Try.prog Try.f4 false true false false) := by
  refine returnsInHanded_of_change (C := Try.checked) own started (by kernel_rfl) Try.func4
    (ChangeSpec.witness6 (enc := enc) (C := Try.checked) false ⟨#[], wit, []⟩ 8 (by kernel_rfl) (by kernel_rfl) (by kernel_rfl) (by kernel_rfl)) ?_
  intro W base args ds gs before hval hW _ _
  exact contract H enc W base args ds gs before hval hW

theorem said : Rows.LatticeValidMatchesReferenceSaid :=
  OpenClaim.holds_of_wide 4 Try.f4 rfl rfl rfl rfl rfl rfl rfl ⟨rfl, rfl, rfl, rfl, rfl⟩ rfl rfl rfl rfl rfl (by kernel_rfl) Try.func4 (by kernel_rfl)
    (of_decide_eq_true (by kernel_rfl)) (by unfold Func.isWrapper; first | (rw [if_pos (by decide +kernel)]; kernel_rfl) | (rw [if_neg (by decide +kernel)]; exact ⟨rfl, rfl⟩))
    (fun os started H enc _ => lifted os started H enc)
end Go.Proofs.Ytlimlhidndflhaa.val
