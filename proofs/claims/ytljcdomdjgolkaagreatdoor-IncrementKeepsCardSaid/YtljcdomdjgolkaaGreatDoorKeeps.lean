/- emendatelaw43.IncrementKeeps answers true at every input, and leaves its arguments as they were. Conditions: the package variable emendate/chart.none starts as the program's text lays it (the card ties it). -/
import Derived.Test.YtljcdomdjgolkaaGreatDoorXar
import Derived.Test.YtljcdomdjgolkaaGreatDoorXar
import Derived.Test.YtljcdomdjgolkaaGreatDoorCards
import Derived.Test.YtljcdomdjgolkaaGreatDoorTie
import Derived.WalkKit
import Derived.ProofKit
import Derived.OpenShut
import Derived.Deep.DeepHandedRow
import Derived.Lib.LaidTab
namespace Go.Proofs.YtljcdomdjgolkaaGreatDoor.keeps
open Go.ChangeShapes Go.WideShapes Go.ChangeAt Go.RowKit Go.DM Go.Proofs Go.Proofs.Inc
set_option linter.unusedVariables false
def tyL : List TypeId := [30, 24, 28, 3, 25, 22, 90, 70, 26, 49, 5]
theorem tyOk : plainTys Tryz.prog tyL = true := by kernel_rfl
theorem tysOk : tyOf.tysOf (tyOf Tryz.prog 9) [30, 49, 5] = some [askTy, .seq [.int .u8, .int .u8], .int .u8] := by kernel_rfl
theorem resN : Tryz.f5.resultTypes = #[4] := by kernel_rfl
theorem undB : Tryz.prog.underlying 4 = some .bool := by kernel_rfl
theorem parsN : Tryz.f5.params.toList = [30, 49, 5] := by kernel_rfl
theorem parN : ∀ t ∈ Tryz.f5.params.toList, t ∈ tyL := by rw [parsN]; simp [tyL]
theorem szN : Tryz.f5.params.size = 3 := by kernel_rfl
theorem own : ownKnob Tryz.prog.godebug = none := by kernel_rfl
set_option maxRecDepth 100000 in
theorem contract (H : Type) (enc : TypeId × Value → H) (W : World) (base : Nat) (args : Array Value) (ds gs : List (DataW H)) (before : List MemPlace)
    (hval : ∀ (j : Nat) t v, Tryz.f5.params[j]? = some t → args[j]? = some v → Value.okWide Tryz.prog W .any base t v)
    (hW : DataW.Whole enc Tryz.prog Tryz.f5.params.toList Rows.incrementKeepsSpec.vars false W args.toList ds gs before) (hg : GOk W fun _ => False) :
    Calls Tryz.prog 5 args W fun e W' => ∃ v, e = .returned v ∧ Rows.incrementKeepsSpec.post enc Tryz.prog Tryz.f5 false true false false W args v W' := by
  refine law_contract (P := Tryz.prog) (fn := Tryz.f5) (f := 5) (s := Rows.incrementKeepsSpec) (base := base) (L := tyL) (tb := 4) tyOk parN resN undB rfl ?_ ?_ hval hW hg
  · intro ds h
    rw [szN] at h
    match ds, h with
    | [a, b, c], _ => rfl
  · intro xs h
    rw [parsN] at h
    have := args_of tysOk h
    simp only [Ty.args] at this
    obtain ⟨x, xs', rfl, h1, y, ys', rfl, h2, w, ws', rfl, h3, rfl⟩ := this
    obtain ⟨z, rfl, hl⟩ := ask_of h1
    obtain ⟨a, b, rfl, ha, hb⟩ := pair_of h2
    obtain ⟨c, rfl, hc0, hc⟩ := u8_of h3
    obtain ⟨c, rfl⟩ := Int.eq_ofNat_of_zero_le hc0
    exact t5 z a b c hl ha hb (by omega)

/-- A world for the witness: the settled one, the listed variable holding what its initialiser lays. -/
noncomputable def laidWorld (os : Os) : World :=
  { World.holding Tryz.prog os ⟨#[], #[], []⟩ with heap := (World.holding Tryz.prog os ⟨#[], #[], []⟩).heap.modify 0 fun
      | .cells _ t frozen => .cells #[.int .i64 1099511627776, .int .i64 0, .int .i64 (-1), .int .i64 0] t frozen
      | o => o }
def wit : Array Value := #[.agg #[.int .i64 0, .int .i64 0, .int .i64 0, .slice none 0 0, .slice none 0 0, .slice none 0 0, .int .i64 0, .int .i64 0, .int .i64 0, .slice none 0 0], .agg #[.int .u8 0, .int .u8 0], .int .u8 0]
theorem laid_met (os : Os) : laidMet Tryz.prog Rows.incrementKeepsRow.laid ((laidWorld os).forCall (fun _ _ => 0) ⟨#[], wit, []⟩).memory :=
  laidMet_of_run' 8 (by kernel_rfl) (by kernel_rfl)
theorem reads (os : Os) {H : Type} (enc : TypeId × Value → H) : ∃ places, DataW.whole enc Tryz.prog ((laidWorld os).forCall (fun _ _ => 0) ⟨#[], wit, []⟩).memory Tryz.f5.params.toList Rows.incrementKeepsSpec.vars false wit.toList 8 = some ([.agg [.agg [.lit (.int .i64 0), .lit (.int .i64 0), .lit (.int .i64 0), .nil], .agg [.nil, .nil, .lit (.int .i64 0)], .lit (.int .i64 0), .lit (.int .i64 0), .nil], .agg [.lit (.int .u8 0), .lit (.int .u8 0)], .lit (.int .u8 0)], [], places) :=
  ⟨[], by kernel_rfl⟩

set_option maxRecDepth 100000 in
theorem lifted (os : Os) (started : os.Started) (H : Type) (enc : TypeId × Value → H) (F : Stop.Interp) :
    ReturnsInHanded {} Tryz.checked os 5 .any ((OpenSpec.ofChange Rows.incrementKeepsSpec).preRow enc Tryz.prog Tryz.f5 Rows.incrementKeepsRow.domain false Rows.incrementKeepsRow.laid) (((OpenSpec.ofChange Rows.incrementKeepsSpec).at F).post enc Tryz.prog Tryz.f5 false true false false) := by
  obtain ⟨places, hx⟩ := reads os enc
  refine returnsInHanded_of_row (C := Tryz.checked) (s := OpenSpec.ofChange Rows.incrementKeepsSpec) own started (by kernel_rfl) Tryz.func5
    (witness_row_at (enc := enc) (C := Tryz.checked) false (laidWorld os) wit rfl (by kernel_rfl) (by kernel_rfl) (by kernel_rfl)
      (OpenSpec.preRow_of_cond 8 hx (by kernel_rfl) (fun k hk => by cases hk) (by kernel_rfl) (laid_met os))) ?_
  intro W base args ds gs before hval hW _ _ _ hl _ _
  exact contract H enc W base args ds gs before hval hW (laidOk hl)

theorem said : Rows.IncrementKeepsSaid :=
  OpenClaim.holds_of_cond 5 Tryz.f5 rfl rfl rfl rfl rfl rfl rfl ⟨rfl, rfl, rfl, rfl, rfl⟩ rfl rfl rfl rfl rfl (by kernel_rfl) Tryz.func5 (by kernel_rfl)
    (of_decide_eq_true (by kernel_rfl)) (by unfold Func.isWrapper; first | (rw [if_pos (by decide +kernel)]; kernel_rfl) | (rw [if_neg (by decide +kernel)]; exact ⟨rfl, rfl⟩))
    (fun os started H enc _ F => by rw [OpenClaim.pre_eq_preRow]; exact lifted os started H enc F)

theorem plain (f : FuncId) (fn : Func) (hf : Tryz.pinned.checked.prog.funcNamed "emendate/emendatelaw43.IncrementKeeps" = some f) (hfn : Tryz.pinned.checked.prog.funcs[f]? = some fn) :
    false = Tryz.pinned.checked.prog.looks [] ∧ ∀ (j : Nat) t, fn.params[j]? = some t → Tryz.pinned.checked.prog.wantsStandIn t = false := by
  obtain rfl : f = 5 := Option.some.inj ((show Tryz.prog.funcNamed "emendate/emendatelaw43.IncrementKeeps" = some 5 by kernel_rfl).symm.trans hf) |>.symm
  obtain rfl : fn = Tryz.f5 := (Option.some.inj (Tryz.func5.symm.trans hfn)).symm
  refine ⟨by kernel_rfl, fun j t ht => ?_⟩
  have hm : t ∈ [30, 49, 5] := by rw [← parsN]; exact Array.mem_def.1 (Array.mem_of_getElem? ht)
  have hm : t = 30 ∨ t = 49 ∨ t = 5 := by simpa using hm
  rcases hm with rfl | rfl | rfl
  · exact (show Tryz.prog.wantsStandIn 30 = false by kernel_rfl)
  · exact (show Tryz.prog.wantsStandIn 49 = false by kernel_rfl)
  · exact (show Tryz.prog.wantsStandIn 5 = false by kernel_rfl)

theorem card : Rows.IncrementKeepsCardSaid :=
  Claim7.holds_tied_plain_at .later [] _ _ _ _ said (fun _ h => by cases h) (by kernel_rfl) (fun _ h => by cases h) incrementKeeps_row_tie rfl ⟨rfl, rfl⟩ (by kernel_rfl) rfl plain (by kernel_rfl)
end Go.Proofs.YtljcdomdjgolkaaGreatDoor.keeps
