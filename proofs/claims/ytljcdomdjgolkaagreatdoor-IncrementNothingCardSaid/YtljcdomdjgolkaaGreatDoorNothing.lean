/- WN.PO answers true at every input, and leaves its arguments as they were. Conditions: the package variable emendate/chart.none starts as the program's text lays it (the card ties it). -/
import Derived.Test.YtljcdomdjgolkaaGreatDoorXal
import Derived.Test.YtljcdomdjgolkaaGreatDoorXai
import Derived.Test.YtljcdomdjgolkaaGreatDoorCards
import Derived.Test.YtljcdomdjgolkaaGreatDoorTie
import Derived.WalkKit
import Derived.ProofKit
import Derived.OpenShut
import Derived.Deep.DeepHandedRow
import Derived.Lib.LaidTab
namespace Go.Proofs.YtljcdomdjgolkaaGreatDoor.nothing
open Go.ChangeShapes Go.WideShapes Go.ChangeAt Go.RowKit Go.DM Go.Proofs Go.Proofs.cu
set_option linter.unusedVariables false
def tyL : List TypeId := [30, 24, 28, 3, 25, 22, 90, 70, 26]
theorem tyOk : lr Tryz.prog tyL = true := by kernel_rfl
theorem tysOk : po.u7 (po Tryz.prog 9) [30] = some [T4] := by kernel_rfl
theorem resN : Tryz.f6.resultTypes = #[4] := by kernel_rfl
theorem undB : Tryz.prog.underlying 4 = some .bool := by kernel_rfl
theorem Wr : Tryz.f6.params.toList = [30] := by kernel_rfl
theorem parN : ∀ t ∈ Tryz.f6.params.toList, t ∈ tyL := by rw [Wr]; simp [tyL]
theorem szN : Tryz.f6.params.size = 1 := by kernel_rfl
theorem own : ownKnob Tryz.prog.godebug = none := by kernel_rfl
set_option maxRecDepth 100000 in
theorem Ws (H : Type) (enc : TypeId × Value → H) (W : World) (base : Nat) (args : Array Value) (ds gs : List (DataW H)) (before : List MemPlace)
    (cY : ∀ (j : Nat) t v, Tryz.f6.params[j]? = some t → args[j]? = some v → Value.okWide Tryz.prog W .any base t v)
    (hW : DataW.Whole enc Tryz.prog Tryz.f6.params.toList Rows.incrementNothingSpec.vars false W args.toList ds gs before) (hg : zN W fun _ => False) :
    Calls Tryz.prog 6 args W fun e W' => ∃ v, e = .returned v ∧ Rows.incrementNothingSpec.post enc Tryz.prog Tryz.f6 false true false false W args v W' := by
  refine Ew (P := Tryz.prog) (fn := Tryz.f6) (f := 6) (s := Rows.incrementNothingSpec) (base := base) (L := tyL) (tb := 4) tyOk parN resN undB rfl ?_ ?_ cY hW hg
  · intro ds h
    rw [szN] at h
    match ds, h with
    | [a], _ => rfl
  · intro xs h
    rw [Wr] at h
    have := MI tysOk h
    simp only [Ty.args] at this
    obtain ⟨x, jJ, rfl, h1, rfl⟩ := this
    obtain ⟨z, rfl, hl⟩ := ask_of h1
    exact t6 z hl

/-- A world for the witness: the settled one, the listed variable holding what its initialiser lays. -/
noncomputable def xU (os : Os) : World :=
  { World.holding Tryz.prog os ⟨#[], #[], []⟩ with heap := (World.holding Tryz.prog os ⟨#[], #[], []⟩).heap.modify 0 fun
      | .cells _ t frozen => .cells #[.int .i64 1099511627776, .int .i64 0, .int .i64 (-1), .int .i64 0] t frozen
      | o => o }
def wit : Array Value := #[.agg #[.int .i64 0, .int .i64 0, .int .i64 0, .slice none 0 0, .slice none 0 0, .slice none 0 0, .int .i64 0, .int .i64 0, .int .i64 0, .slice none 0 0]]
theorem Wt (os : Os) : laidMet Tryz.prog Rows.incrementNothingRow.laid ((xU os).forCall (fun _ _ => 0) ⟨#[], wit, []⟩).memory :=
  laidMet_of_run' 8 (by kernel_rfl) (by kernel_rfl)
theorem reads (os : Os) {H : Type} (enc : TypeId × Value → H) : ∃ places, DataW.whole enc Tryz.prog ((xU os).forCall (fun _ _ => 0) ⟨#[], wit, []⟩).memory Tryz.f6.params.toList Rows.incrementNothingSpec.vars false wit.toList 8 = some ([.agg [.agg [.lit (.int .i64 0), .lit (.int .i64 0), .lit (.int .i64 0), .nil], .agg [.nil, .nil, .lit (.int .i64 0)], .lit (.int .i64 0), .lit (.int .i64 0), .nil]], [], places) :=
  ⟨[], by kernel_rfl⟩

set_option maxRecDepth 100000 in
theorem lifted (os : Os) (started : os.Started) (H : Type) (enc : TypeId × Value → H) (F : Stop.Interp) :
    ReturnsInHanded {} Tryz.checked os 6 .any ((OpenSpec.ofChange Rows.incrementNothingSpec).preRow enc Tryz.prog Tryz.f6 Rows.incrementNothingRow.domain false Rows.incrementNothingRow.laid) (((OpenSpec.ofChange Rows.incrementNothingSpec).at F).post enc Tryz.prog Tryz.f6 false true false false) := by
  obtain ⟨places, hx⟩ := reads os enc
  refine returnsInHanded_of_row (C := Tryz.checked) (s := OpenSpec.ofChange Rows.incrementNothingSpec) own started (by kernel_rfl) Tryz.func6
    (witness_row_at (enc := enc) (C := Tryz.checked) false (xU os) wit rfl (by kernel_rfl) (by kernel_rfl) (by kernel_rfl)
      (OpenSpec.preRow_of_cond 8 hx (by kernel_rfl) (fun k hk => by cases hk) (by kernel_rfl) (Wt os))) ?_
  intro W base args ds gs before cY hW _ _ _ hl _ _
  exact Ws H enc W base args ds gs before cY hW (laidOk hl)

theorem said : Rows.IncrementNothingSaid :=
  OpenClaim.holds_of_cond 6 Tryz.f6 rfl rfl rfl rfl rfl rfl rfl ⟨rfl, rfl, rfl, rfl, rfl⟩ rfl rfl rfl rfl rfl (by kernel_rfl) Tryz.func6 (by kernel_rfl)
    (of_decide_eq_true (by kernel_rfl)) (by unfold Func.isWrapper; first | (rw [if_pos (by decide +kernel)]; kernel_rfl) | (rw [if_neg (by decide +kernel)]; exact ⟨rfl, rfl⟩))
    (fun os started H enc _ F => by rw [OpenClaim.pre_eq_preRow]; exact lifted os started H enc F)

theorem plain (f : FuncId) (fn : Func) (hf : Tryz.pinned.checked.prog.funcNamed "emendate/emendatelaw43.IncrementNothing" = some f) (wo : Tryz.pinned.checked.prog.funcs[f]? = some fn) :
    false = Tryz.pinned.checked.prog.looks [] ∧ ∀ (j : Nat) t, fn.params[j]? = some t → Tryz.pinned.checked.prog.wantsStandIn t = false := by
  obtain rfl : f = 6 := Option.some.inj ((show Tryz.prog.funcNamed "emendate/emendatelaw43.IncrementNothing" = some 6 by kernel_rfl).symm.trans hf) |>.symm
  obtain rfl : fn = Tryz.f6 := (Option.some.inj (Tryz.func6.symm.trans wo)).symm
  refine ⟨by kernel_rfl, fun j t ht => ?_⟩
  have hm : t ∈ [30] := by rw [← Wr]; exact Array.mem_def.1 (Array.mem_of_getElem? ht)
  obtain rfl : t = 30 := by simpa using hm
  exact (show Tryz.prog.wantsStandIn 30 = false by kernel_rfl)

theorem card : Rows.IncrementNothingCardSaid :=
  Claim7.holds_tied_plain_at .later [] _ _ _ _ said (fun _ h => by cases h) (by kernel_rfl) (fun _ h => by cases h) incrementNothing_row_tie rfl ⟨rfl, rfl⟩ (by kernel_rfl) rfl plain (by kernel_rfl)
end Go.Proofs.YtljcdomdjgolkaaGreatDoor.nothing
