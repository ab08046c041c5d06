/- emendatelaw41.RepairIsStable answers true at every input, and leaves its arguments as they were. Conditions: the package variables emendate/editscript.actions and emendate/chart.none start as the program's text lays them (the card ties them). -/
import Derived.Test.YtbmaafemenldnaaGreatDoorYak
import Derived.Test.YtbmaafemenldnaaGreatDoorCards
import Derived.Test.YtbmaafemenldnaaGreatDoorTie
import Derived.WalkKit
import Derived.ProofKit
import Derived.OpenShut
import Derived.Deep.DeepHandedRow
import Derived.LaidMore
import Derived.Lib.LaidTab
namespace Go.Proofs.YtbmaafemenldnaaGreatDoor.isStable
open Go.ChangeShapes Go.WideShapes Go.ChangeAt Go.RowKit Go.DM Go.Proofs Go.Proofs.It
set_option linter.all false
def tyL : List TypeId := [3, 22, 24, 25, 26, 28, 47, 97]
theorem avT : nz Tryz.prog tyL = true := by kernel_rfl
theorem avU : Tryz.f6.resultTypes = #[4] := by kernel_rfl
theorem avV : Tryz.prog.underlying 4 = some .bool := by kernel_rfl
theorem ZF : Tryz.f6.params.toList = [24, 28] := by kernel_rfl
theorem avW : ∀ t ∈ Tryz.f6.params.toList, t ∈ tyL := by rw [ZF]; simp [tyL]
theorem szN : Tryz.f6.params.size = 2 := by kernel_rfl
theorem own : ownKnob Tryz.prog.godebug = none := by kernel_rfl
set_option maxRecDepth 100000 in
theorem ZG (H : Type) (enc : TypeId × Value → H) (W : World) (base : Nat) (args : Array Value) (ds gs : List (DataW H)) (cb : List MemPlace)
    (dB : ∀ (j : Nat) t v, Tryz.f6.params[j]? = some t → args[j]? = some v → Value.okWide Tryz.prog W .any base t v)
    (hW : DataW.Whole enc Tryz.prog Tryz.f6.params.toList Rows.repairIsStableSpec.vars false W args.toList ds gs cb) (hg : BY W fun _ => False) :
    Calls Tryz.prog 6 args W fun e W' => ∃ v, e = .returned v ∧ Rows.repairIsStableSpec.post enc Tryz.prog Tryz.f6 false true false false W args v W' := by
  refine GZ (P := Tryz.prog) (fn := Tryz.f6) (f := 6) (s := Rows.repairIsStableSpec) (base := base) (L := tyL) (tb := 4) avT avW avU avV rfl ?_ ?_ dB hW hg
  . intro ds h
    rw [szN] at h
    match ds, h with
    | [a, b], _ => rfl
  . intro xs h
    rw [ZF] at h
    obtain ⟨x, _, rfl, ⟨_, h1⟩, y, _, rfl, ⟨_, h2⟩, rfl⟩ := h
    obtain ⟨n, rfl, k1⟩ := SR (MC (show vA Tryz.prog 9 24 = some DJ by kernel_rfl) h1)
    obtain ⟨x, rfl, k2, k3⟩ := XC (MC (show vA Tryz.prog 9 28 = some HM by kernel_rfl) h2)
    exact azK n x k1 k3

def wit : Array Value := #[.agg #[.int .i64 0, .int .i64 0, .int .i64 0, .slice none 0 0], .agg #[.slice none 0 0, .slice none 0 0, .int .i64 0]]
theorem ZH (os : Os) : laidMetH Tryz.prog Rows.repairIsStableRow.laid ((zx os).forCall (fun _ _ => 0) ⟨#[], wit, []⟩).memory :=
  laidMetH_of_parts3 (fuel := 8) (laidMet_of_run' 8 (by kernel_rfl) (by kernel_rfl)) (by kernel_rfl) (by kernel_rfl)
theorem atj (os : Os) {H : Type} (enc : TypeId × Value → H) : ∃ B9, DataW.whole enc Tryz.prog ((zx os).forCall (fun _ _ => 0) ⟨#[], wit, []⟩).memory Tryz.f6.params.toList Rows.repairIsStableSpec.vars false wit.toList 8 = some ([.agg [.lit (.int .i64 0), .lit (.int .i64 0), .lit (.int .i64 0), .nil], .agg [.nil, .nil, .lit (.int .i64 0)]], [], B9) :=
  ⟨[], by kernel_rfl⟩

set_option maxRecDepth 100000 in
theorem lifted (os : Os) (H9 : os.Started) (H : Type) (enc : TypeId × Value → H) (F : Stop.Interp) :
    ReturnsInHanded {} Tryz.checked os 6 .any ((OpenSpec.ofChange Rows.repairIsStableSpec).preRow enc Tryz.prog Tryz.f6 Rows.repairIsStableRow.domain false Rows.repairIsStableRow.laid) (((OpenSpec.ofChange Rows.repairIsStableSpec).at F).post enc Tryz.prog Tryz.f6 false true false false) := by
  obtain ⟨B9, hx⟩ := atj os enc
  refine returnsInHanded_of_row (C := Tryz.checked) (s := (OpenSpec.ofChange Rows.repairIsStableSpec)) own H9 (by kernel_rfl) Tryz.func6
    (witness_row_at (enc := enc) (C := Tryz.checked) false (zx os) wit rfl (by kernel_rfl) (by kernel_rfl) (by kernel_rfl)
      (OpenSpec.preRow_of_cond 8 hx (by kernel_rfl) (fun k hk => by cases hk) (by kernel_rfl) (ZH os))) ?_
  intro W base args ds gs cb dB hW _ _ _ hl _ _
  exact ZG H enc W base args ds gs cb dB hW (ajF hl)

theorem said : Rows.RepairIsStableSaid :=
  OpenClaim.holds_of_cond 6 Tryz.f6 rfl rfl rfl rfl rfl rfl rfl ⟨rfl, rfl, rfl, rfl, rfl⟩ rfl rfl rfl rfl rfl (by kernel_rfl) Tryz.func6 (by kernel_rfl)
    (of_decide_eq_true (by kernel_rfl)) (by unfold Func.isWrapper; first | (rw [if_pos (by decide +kernel)]; kernel_rfl) | (rw [if_neg (by decide +kernel)]; exact ⟨rfl, rfl⟩))
    (fun os H9 H enc _ F => by rw [OpenClaim.pre_eq_preRow]; exact lifted os H9 H enc F)

theorem plain (f : FuncId) (fn : Func) (hf : Tryz.pinned.checked.prog.funcNamed "emendate/emendatelaw41.RepairIsStable" = some f) (yB : Tryz.pinned.checked.prog.funcs[f]? = some fn) :
    false = Tryz.pinned.checked.prog.looks [] ∧ ∀ (j : Nat) t, fn.params[j]? = some t → Tryz.pinned.checked.prog.wantsStandIn t = false := by
  obtain rfl : f = 6 := Option.some.inj ((show Tryz.prog.funcNamed "emendate/emendatelaw41.RepairIsStable" = some 6 by kernel_rfl).symm.trans hf) |>.symm
  obtain rfl : fn = Tryz.f6 := (Option.some.inj (Tryz.func6.symm.trans yB)).symm
  refine ⟨by kernel_rfl, fun j t ht => ?_⟩
  have hm : t ∈ ([24, 28] : List TypeId) := by rw [← ZF]; exact Array.mem_def.1 (Array.mem_of_getElem? ht)
  have hm : t = 24 ∨ t = 28 := by simpa using hm
  rcases hm with rfl | rfl
  . exact (show Tryz.prog.wantsStandIn 24 = false by kernel_rfl)
  . exact (show Tryz.prog.wantsStandIn 28 = false by kernel_rfl)

theorem card : Rows.RepairIsStableCardSaid :=
  Claim7.holds_tied_plain_at .later [] _ _ _ _ said (fun _ h => by cases h) (by kernel_rfl) (fun _ h => by cases h) repairIsStable_row_tie rfl ⟨rfl, rfl⟩ (by kernel_rfl) rfl plain (by kernel_rfl)
end Go.Proofs.YtbmaafemenldnaaGreatDoor.isStable
