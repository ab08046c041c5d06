/- emendatelaw43.IncrementKeep answers true at every input, and leaves its arguments as they were. Conditions: the package variable emendate/chart.none starts as the program's text lays it (the card ties it; nothing on this road reads it). -/
import Derived.Test.YtbncgpjkfglhdaaDoorK4
import Derived.Test.YtbncgpjkfglhdaaDoorDmR
import Derived.Test.YtbncgpjkfglhdaaDoorCards
import Derived.Test.YtbncgpjkfglhdaaDoorTie
import Derived.WalkKit
import Derived.ProofKit
import Derived.OpenShut
import Derived.Deep.DeepHandedRow
import Derived.Lib.LaidTab
namespace Go.Proofs.YtbncgpjkfglhdaaDoor.keep
open Go.ChangeShapes Go.WideShapes Go.ChangeAt Go.RowKit Go.DM Go.Proofs
set_option linter.unusedVariables false
def tyL : List TypeId := [23, 25, 3]
theorem tyOk : plainTys Tryd.prog tyL = true := by kernel_rfl
theorem tysOk : tyOf.tysOf (tyOf Tryd.prog 5) [23, 25, 3] = some [.seq [.int .i64, .int .i64, .int .i64], .seq [.int .i64, .int .i64, .int .i64], .int .i64] := by kernel_rfl
theorem args_shape {xs : List T} (h : HasArgs Tryd.prog Tryd.f3.params.toList xs) : ∃ hd f t cf co cn s, xs = [.agg [.int .i64 hd, .int .i64 f, .int .i64 t], .agg [.int .i64 cf, .int .i64 co, .int .i64 cn], .int .i64 s] := by
  rw [Tryd.params3] at h
  have := args_of tysOk h
  simp only [Ty.args, Ty.arg, Ty.hasAll, Ty.has] at this
  obtain ⟨x, xs', rfl, ⟨ts, rfl, _, _, rfl, ⟨a, rfl, _⟩, _, _, rfl, ⟨b, rfl, _⟩, _, _, rfl, ⟨c, rfl, _⟩, rfl⟩, y, ys', rfl, ⟨ts, rfl, _, _, rfl, ⟨d, rfl, _⟩, _, _, rfl, ⟨e, rfl, _⟩, _, _, rfl, ⟨f, rfl, _⟩, rfl⟩, z, zs', rfl, ⟨g, hg, _⟩, rfl⟩ := this
  obtain rfl : z = _ := by simpa using hg
  exact ⟨a, b, c, d, e, f, g, rfl⟩
theorem res3 : Tryd.f3.resultTypes = #[4] := by kernel_rfl
theorem und4 : Tryd.prog.underlying 4 = some .bool := by kernel_rfl
theorem par3 : ∀ t ∈ Tryd.f3.params.toList, t ∈ tyL := by rw [Tryd.params3]; simp [tyL]
theorem own : ownKnob Tryd.prog.godebug = none := by kernel_rfl
set_option maxRecDepth 100000 in
theorem contract (H : Type) (enc : TypeId × Value → H) (W : World) (base : Nat) (args : Array Value) (ds gs : List (DataW H)) (before : List MemPlace)
    (hval : ∀ (j : Nat) t v, Tryd.f3.params[j]? = some t → args[j]? = some v → Value.okWide Tryd.prog W .any base t v)
    (hW : DataW.Whole enc Tryd.prog Tryd.f3.params.toList Rows.incrementKeepSpec.vars false W args.toList ds gs before) :
    Calls Tryd.prog 3 args W fun e W' => ∃ v, e = .returned v ∧ Rows.incrementKeepSpec.post enc Tryd.prog Tryd.f3 false true false false W args v W' := by
  refine law_contract (P := Tryd.prog) (fn := Tryd.f3) (f := 3) (s := Rows.incrementKeepSpec) (base := base) (L := tyL) (tb := 4) tyOk par3 res3 und4 rfl ?_ ?_ hval hW
  · intro ds h
    rw [Tryd.params3] at h
    match ds, h with
    | [a, b, c], _ => rfl
  · intro xs h
    obtain ⟨hd, f, t, cf, co, cn, s, rfl⟩ := args_shape h
    exact t3 hd f t cf co cn s

/-- A world for the witness: the settled one, the listed variable holding what its initialiser lays. -/
noncomputable def laidWorld (os : Os) : World :=
  { World.holding Tryd.prog os ⟨#[], #[], []⟩ with heap := (World.holding Tryd.prog os ⟨#[], #[], []⟩).heap.modify 0 fun
      | .cells _ t frozen => .cells #[.int .i64 1099511627776, .int .i64 0, .int .i64 (-1), .int .i64 0] t frozen
      | o => o }
def wit : Array Value := #[.agg #[.int .i64 0, .int .i64 0, .int .i64 0], .agg #[.int .i64 0, .int .i64 0, .int .i64 0], .int .i64 0]
theorem laid_met (os : Os) : laidMet Tryd.prog Rows.incrementKeepRow.laid ((laidWorld os).forCall (fun _ _ => 0) ⟨#[], wit, []⟩).memory :=
  laidMet_of_run' 8 (by kernel_rfl) (by kernel_rfl)
theorem reads (os : Os) {H : Type} (enc : TypeId × Value → H) : ∃ places, DataW.whole enc Tryd.prog ((laidWorld os).forCall (fun _ _ => 0) ⟨#[], wit, []⟩).memory Tryd.f3.params.toList Rows.incrementKeepSpec.vars false wit.toList 8 = some ([.agg [.lit (.int .i64 0), .lit (.int .i64 0), .lit (.int .i64 0)], .agg [.lit (.int .i64 0), .lit (.int .i64 0), .lit (.int .i64 0)], .lit (.int .i64 0)], [], places) :=
  ⟨[], by kernel_rfl⟩

set_option maxRecDepth 100000 in
theorem lifted (os : Os) (started : os.Started) (H : Type) (enc : TypeId × Value → H) (F : Stop.Interp) :
    ReturnsInHanded {} Tryd.checked os 3 .any ((OpenSpec.ofChange Rows.incrementKeepSpec).preRow enc Tryd.prog Tryd.f3 Rows.incrementKeepRow.domain false Rows.incrementKeepRow.laid) (((OpenSpec.ofChange Rows.incrementKeepSpec).at F).post enc Tryd.prog Tryd.f3 false true false false) := by
  obtain ⟨places, hx⟩ := reads os enc
  refine returnsInHanded_of_row (C := Tryd.checked) (s := OpenSpec.ofChange Rows.incrementKeepSpec) own started (by kernel_rfl) Tryd.func3
    (witness_row_at (enc := enc) (C := Tryd.checked) false (laidWorld os) wit rfl (by kernel_rfl) (by kernel_rfl) (by kernel_rfl)
      (OpenSpec.preRow_of_cond 8 hx (by kernel_rfl) (fun k hk => by cases hk) (by kernel_rfl) (laid_met os))) ?_
  intro W base args ds gs before hval hW _ _ _ _ _ _
  exact contract H enc W base args ds gs before hval hW

theorem said : Rows.IncrementKeepSaid :=
  OpenClaim.holds_of_cond 3 Tryd.f3 rfl rfl rfl rfl rfl rfl rfl ⟨rfl, rfl, rfl, rfl, rfl⟩ rfl rfl rfl rfl rfl (by kernel_rfl) Tryd.func3 (by kernel_rfl)
    (of_decide_eq_true (by kernel_rfl)) (by unfold Func.isWrapper; first | (rw [if_pos (by decide +kernel)]; kernel_rfl) | (rw [if_neg (by decide +kernel)]; exact ⟨rfl, rfl⟩))
    (fun os started H enc _ F => by rw [OpenClaim.pre_eq_preRow]; exact lifted os started H enc F)

theorem plain (f : FuncId) (fn : Func) (hf : Tryd.pinned.checked.prog.funcNamed "emendate/emendatelaw43.IncrementKeep" = some f) (hfn : Tryd.pinned.checked.prog.funcs[f]? = some fn) :
    false = Tryd.pinned.checked.prog.looks [] ∧ ∀ (j : Nat) t, fn.params[j]? = some t → Tryd.pinned.checked.prog.wantsStandIn t = false := by
  obtain rfl : f = 3 := Option.some.inj ((show Tryd.prog.funcNamed "emendate/emendatelaw43.IncrementKeep" = some 3 by kernel_rfl).symm.trans hf) |>.symm
  obtain rfl : fn = Tryd.f3 := (Option.some.inj (Tryd.func3.symm.trans hfn)).symm
  refine ⟨by kernel_rfl, fun j t ht => ?_⟩
  rw [Tryd.params3] at ht
  have hm : t = 23 ∨ t = 25 ∨ t = 3 := by simpa using Array.mem_of_getElem? ht
  rcases hm with rfl | rfl | rfl
  · exact (show Tryd.prog.wantsStandIn 23 = false by kernel_rfl)
  · exact (show Tryd.prog.wantsStandIn 25 = false by kernel_rfl)
  · exact (show Tryd.prog.wantsStandIn 3 = false by kernel_rfl)

theorem card : Rows.IncrementKeepCardSaid :=
  Claim7.holds_tied_plain_at .later [] _ _ _ _ said (fun _ h => by cases h) (by kernel_rfl) (fun _ h => by cases h) incrementKeep_row_tie rfl ⟨rfl, rfl⟩ (by kernel_rfl) rfl plain (by kernel_rfl)
end Go.Proofs.YtbncgpjkfglhdaaDoor.keep
