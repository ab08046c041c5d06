/- emendatelaw39.ItemsMoreExpensiveArc answers true at every input, and leaves its arguments as they were. Conditions: none. -/
import Derived.Test.YtecgedikabjcdaaUa
import Derived.Test.YtecgedikabjcdaaP1
import Derived.Test.YtecgedikabjcdaaRows
import Derived.WalkKit
import Derived.ProofKit
import Derived.OpenShut
import Derived.Deep.DeepHandedRow
namespace Go.Proofs.Ytecgedikabjcdaa.arc
open Go.ChangeShapes Go.WideShapes Go.ChangeAt Go.RowKit Go.DM Go.Proofs
set_option linter.unusedVariables false
def tyL : List TypeId := [24, 28, 5, 3, 22, 72, 25, 66, 64, 117, 26]
theorem tyOk : plainTys Try.prog tyL = true := by kernel_rfl
theorem tysOk : tyOf.tysOf (tyOf Try.prog 9) [24, 28, 5] = some [normalTy, latticeTy, .int .u8] := by kernel_rfl
theorem res8 : Try.f8.resultTypes = #[4] := by kernel_rfl
theorem und4 : Try.prog.underlying 4 = some .bool := by kernel_rfl
theorem par8 : ∀ t ∈ Try.f8.params.toList, t ∈ tyL := by rw [Try.params8]; simp [tyL]
theorem own : ownKnob Try.prog.godebug = none := by kernel_rfl
set_option maxRecDepth 100000 in
theorem contract (H : Type) (enc : TypeId × Value → H) (W : World) (base : Nat) (args : Array Value) (ds gs : List (DataW H)) (before : List MemPlace)
    (hval : ∀ (j : Nat) t v, Try.f8.params[j]? = some t → args[j]? = some v → Value.okWide Try.prog W .any base t v)
    (hW : DataW.Whole enc Try.prog Try.f8.params.toList Rows.itemsMoreExpensiveArcSpec.vars false W args.toList ds gs before) :
    Calls Try.prog 8 args W fun e W' => ∃ v, e = .returned v ∧ Rows.itemsMoreExpensiveArcSpec.post enc Try.prog Try.f8 false true false false W args v W' := by
  refine law_contract (P := Try.prog) (fn := Try.f8) (f := 8) (s := Rows.itemsMoreExpensiveArcSpec) (base := base) (L := tyL) (tb := 4) tyOk par8 res8 und4 rfl ?_ ?_ hval hW
  · intro ds h
    rw [Try.params8] at h
    match ds, h with
    | [a, b, c], _ => rfl
  · intro xs h
    rw [Try.params8] at h
    have := args_of tysOk h
    simp only [Ty.args] at this
    obtain ⟨x, xs', rfl, h1, y, ys', rfl, h2, z, zs', rfl, h3, rfl⟩ := this
    obtain ⟨n, rfl, k1⟩ := normal_of h1
    obtain ⟨l, rfl, k2, k3⟩ := lattice_of h2
    obtain ⟨kv, rfl, h4⟩ : ∃ kv, z = .int .u8 kv ∧ 0 ≤ kv ∧ kv ≤ 255 := by
      simp only [Ty.arg, Ty.has, List.cons.injEq, and_true] at h3
      obtain ⟨kv, rfl, hwf⟩ := h3
      simp only [Lit.wf, Bool.and_eq_true, decide_eq_true_eq] at hwf
      exact ⟨kv, rfl, hwf.1, hwf.2⟩
    exact t8 n l kv h4 k1 k3 k2

def wit : Array Value := #[.agg #[.int .i64 0, .int .i64 0, .int .i64 0, .slice none 0 0], .agg #[.int .i64 0, .slice none 0 0, .slice none 0 0], .int .u8 0]
set_option maxRecDepth 100000 in
theorem lifted (os : Os) (started : os.Started) (H : Type) (enc : TypeId × Value → H) :
    ReturnsInHanded {} Try.checked os 8 .any (Rows.itemsMoreExpensiveArcSpec.pre6 enc Try.prog Try.f8 Rows.itemsMoreExpensiveArcRow.domain false) (Rows.itemsMoreExpensiveArcSpec.post enc Try.prog Try.f8 false true false false) := by
  refine returnsInHanded_of_change (C := Try.checked) own started (by kernel_rfl) Try.func8
    (ChangeSpec.witness6 (enc := enc) (C := Try.checked) false ⟨#[], wit, []⟩ 8 (by kernel_rfl) (by kernel_rfl) (by kernel_rfl) (by kernel_rfl)) ?_
  intro W base args ds gs before hval hW _ _
  exact contract H enc W base args ds gs before hval hW

theorem said : Rows.ItemsMoreExpensiveArcSaid :=
  OpenClaim.holds_of_wide 8 Try.f8 rfl rfl rfl rfl rfl rfl rfl ⟨rfl, rfl, rfl, rfl, rfl⟩ rfl rfl rfl rfl rfl (by kernel_rfl) Try.func8 (by kernel_rfl)
    (of_decide_eq_true (by kernel_rfl)) (by unfold Func.isWrapper; first | (rw [if_pos (by decide +kernel)]; kernel_rfl) | (rw [if_neg (by decide +kernel)]; exact ⟨rfl, rfl⟩))
    (fun os started H enc _ => lifted os started H enc)
end Go.Proofs.Ytecgedikabjcdaa.arc
