/- emendatelaw47.JobCanceled answers true at every input, and uA its arguments as they were. Conditions: the package variable emendate/chart.none starts as the program's text ut it (the card ties it). -/
import Derived.Test.YtnhpkhblghgpdaaGreatDoorXaf
import Derived.Test.YtnhpkhblghgpdaaGreatDoorCards
import Derived.Test.YtnhpkhblghgpdaaGreatDoorTie
import Derived.WalkKit
import Derived.ProofKit
import Derived.OpenShut
import Derived.Deep.DeepHandedRow
import Derived.Lib.LaidTab
namespace Go.Proofs.YtnhpkhblghgpdaaGreatDoor.jobCanceled
open Go.ChangeShapes Go.WideShapes Go.ChangeAt Go.RowKit Go.DM Go.Proofs Go.Proofs.cC
set_option linter.unusedVariables false
def tyL : List TypeId := [24, 28, 3, 25, 22, 82, 84, 26, 5]
theorem tyOk : nj Tryz.prog tyL = true := by kernel_rfl
theorem tysOk : sv.yn (sv Tryz.prog 9) [24, 28, 5] = some [F1, Jz, .int .u8] := by kernel_rfl
theorem resN : Tryz.f6.resultTypes = #[4] := by kernel_rfl
theorem undB : Tryz.prog.underlying 4 = some .bool := by kernel_rfl
theorem parsN : Tryz.f6.params.toList = [24, 28, 5] := by kernel_rfl
theorem parN : ∀ t ∈ Tryz.f6.params.toList, t ∈ tyL := by rw [parsN]; simp [tyL]
theorem szN : Tryz.f6.params.size = 3 := by kernel_rfl
theorem own : ownKnob Tryz.prog.godebug = none := by kernel_rfl
set_option maxRecDepth 100000 in
theorem contract (H : Type) (enc : TypeId × Value → H) (W : World) (base : Nat) (args : Array Value) (ds gs : List (DataW H)) (im : List MemPlace)
    (c7 : ∀ (j : Nat) t v, Tryz.f6.params[j]? = some t → args[j]? = some v → Value.okWide Tryz.prog W .any base t v)
    (hW : DataW.Whole enc Tryz.prog Tryz.f6.params.toList Rows.jobCanceledSpec.vars false W args.toList ds gs im) (hg : F2 W fun _ => False) :
    Calls Tryz.prog 6 args W fun e W' => ∃ v, e = .returned v ∧ Rows.jobCanceledSpec.post enc Tryz.prog Tryz.f6 false true false false W args v W' := by
  refine Ig (P := Tryz.prog) (fn := Tryz.f6) (f := 6) (s := Rows.jobCanceledSpec) (base := base) (L := tyL) (tb := 4) tyOk parN resN undB rfl ?_ ?_ c7 hW hg
  · intro ds h
    rw [szN] at h
    match ds, h with
    | [a, b, c], _ => rfl
  · intro xs h
    rw [parsN] at h
    have := QK tysOk h
    simp only [Ty.args] at this
    obtain ⟨x, lz, rfl, h1, y, ys', rfl, h2, w, ws', rfl, h3, rfl⟩ := this
    obtain ⟨n, rfl, hn⟩ := W7 h1
    obtain ⟨z, rfl, _, hz⟩ := input_of h2
    obtain ⟨k, rfl, k0, k1⟩ := u8_of h3
    exact Jb.t1006 n z k hn hz k0 k1

/-- A world for the witness: the settled one, the listed variable holding what its initialiser ut. -/
noncomputable def A9 (os : Os) : World :=
  { World.holding Tryz.prog os ⟨#[], #[], []⟩ with heap := (World.holding Tryz.prog os ⟨#[], #[], []⟩).heap.modify 0 fun
      | .cells _ t frozen => .cells #[.int .i64 1099511627776, .int .i64 0, .int .i64 (-1), .int .i64 0] t frozen
      | o => o }
def wit : Array Value := #[.agg #[.int .i64 0, .int .i64 0, .int .i64 0, .slice none 0 0], .agg #[.slice none 0 0, .slice none 0 0, .int .i64 0], .int .u8 0]
theorem laid_met (os : Os) : laidMet Tryz.prog Rows.jobCanceledRow.laid ((A9 os).forCall (fun _ _ => 0) ⟨#[], wit, []⟩).memory :=
  laidMet_of_run' 8 (by kernel_rfl) (by kernel_rfl)
theorem reads (os : Os) {H : Type} (enc : TypeId × Value → H) : ∃ qf, DataW.whole enc Tryz.prog ((A9 os).forCall (fun _ _ => 0) ⟨#[], wit, []⟩).memory Tryz.f6.params.toList Rows.jobCanceledSpec.vars false wit.toList 8 = some ([.agg [.lit (.int .i64 0), .lit (.int .i64 0), .lit (.int .i64 0), .nil], .agg [.nil, .nil, .lit (.int .i64 0)], .lit (.int .u8 0)], [], qf) :=
  ⟨[], by kernel_rfl⟩

set_option maxRecDepth 100000 in
theorem lifted (os : Os) (aaM : os.Started) (H : Type) (enc : TypeId × Value → H) (F : Stop.Interp) :
    ReturnsInHanded {} Tryz.checked os 6 .any ((OpenSpec.ofChange Rows.jobCanceledSpec).preRow enc Tryz.prog Tryz.f6 Rows.jobCanceledRow.domain false Rows.jobCanceledRow.laid) (((OpenSpec.ofChange Rows.jobCanceledSpec).at F).post enc Tryz.prog Tryz.f6 false true false false) := by
  obtain ⟨qf, hx⟩ := reads os enc
  refine returnsInHanded_of_row (C := Tryz.checked) (s := OpenSpec.ofChange Rows.jobCanceledSpec) own aaM (by kernel_rfl) Tryz.func6
    (witness_row_at (enc := enc) (C := Tryz.checked) false (A9 os) wit rfl (by kernel_rfl) (by kernel_rfl) (by kernel_rfl)
      (OpenSpec.preRow_of_cond 8 hx (by kernel_rfl) (fun k hk => by cases hk) (by kernel_rfl) (laid_met os))) ?_
  intro W base args ds gs im c7 hW _ _ _ hl _ _
  exact contract H enc W base args ds gs im c7 hW (laidOk hl)

theorem said : Rows.JobCanceledSaid :=
  OpenClaim.holds_of_cond 6 Tryz.f6 rfl rfl rfl rfl rfl rfl rfl ⟨rfl, rfl, rfl, rfl, rfl⟩ rfl rfl rfl rfl rfl (by kernel_rfl) Tryz.func6 (by kernel_rfl)
    (of_decide_eq_true (by kernel_rfl)) (by unfold Func.isWrapper; first | (rw [if_pos (by decide +kernel)]; kernel_rfl) | (rw [if_neg (by decide +kernel)]; exact ⟨rfl, rfl⟩))
    (fun os aaM H enc _ F => by rw [OpenClaim.pre_eq_preRow]; exact lifted os aaM H enc F)

theorem plain (f : FuncId) (fn : Func) (hf : Tryz.pinned.checked.prog.funcNamed "emendate/emendatelaw47.JobCanceled" = some f) (dn : Tryz.pinned.checked.prog.funcs[f]? = some fn) :
    false = Tryz.pinned.checked.prog.looks [] ∧ ∀ (j : Nat) t, fn.params[j]? = some t → Tryz.pinned.checked.prog.wantsStandIn t = false := by
  obtain rfl : f = 6 := Option.some.inj ((show Tryz.prog.funcNamed "emendate/emendatelaw47.JobCanceled" = some 6 by kernel_rfl).symm.trans hf) |>.symm
  obtain rfl : fn = Tryz.f6 := (Option.some.inj (Tryz.func6.symm.trans dn)).symm
  refine ⟨by kernel_rfl, fun j t ht => ?_⟩
  have hm : t ∈ [24, 28, 5] := by rw [← parsN]; exact Array.mem_def.1 (Array.mem_of_getElem? ht)
  have hm : t = 24 ∨ t = 28 ∨ t = 5 := by simpa using hm
  rcases hm with rfl | rfl | rfl
  · exact (show Tryz.prog.wantsStandIn 24 = false by kernel_rfl)
  · exact (show Tryz.prog.wantsStandIn 28 = false by kernel_rfl)
  · exact (show Tryz.prog.wantsStandIn 5 = false by kernel_rfl)

theorem card : Rows.JobCanceledCardSaid :=
  Claim7.holds_tied_plain_at .later [] _ _ _ _ said (fun _ h => by cases h) (by kernel_rfl) (fun _ h => by cases h) jobCanceled_row_tie rfl ⟨rfl, rfl⟩ (by kernel_rfl) rfl plain (by kernel_rfl)
end Go.Proofs.YtnhpkhblghgpdaaGreatDoor.jobCanceled
