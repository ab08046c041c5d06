/- emendatelaw41.RepairOfSentence answers true at every input, and leaves its arguments as they were. Conditions: the package variables emendate/editscript.actions and emendate/chart.none start as the program's text lays them (the card ties them). -/
import Derived.Test.YtbmaafemenldnaaGreatDoorYal
import Derived.Test.YtbmaafemenldnaaGreatDoorCards
import Derived.Test.YtbmaafemenldnaaGreatDoorTie
import Derived.WalkKit
import Derived.ProofKit
import Derived.OpenShut
import Derived.Deep.DeepHandedRow
import Derived.LaidMore
import Derived.Lib.LaidTab
namespace Go.Proofs.YtbmaafemenldnaaGreatDoor.ofSentence
open Go.ChangeShapes Go.WideShapes Go.ChangeAt Go.RowKit Go.DM Go.Proofs Go.Proofs.It
set_option linter.all false
def tyL : List TypeId := [3, 22, 24, 25, 26, 28, 32, 34, 47, 97]
theorem avT : nz Tryz.prog tyL = true := by kernel_rfl
theorem avU : Tryz.f5.resultTypes = #[4] := by kernel_rfl
theorem avV : Tryz.prog.underlying 4 = some .bool := by kernel_rfl
theorem ZF : Tryz.f5.params.toList = [24, 28, 34] := by kernel_rfl
theorem avW : ∀ t ∈ Tryz.f5.params.toList, t ∈ tyL := by rw [ZF]; simp [tyL]
theorem szN : Tryz.f5.params.size = 3 := by kernel_rfl
theorem own : ownKnob Tryz.prog.godebug = none := by kernel_rfl
set_option maxRecDepth 100000 in
theorem ZG (H : Type) (enc : TypeId × Value → H) (W : World) (base : Nat) (args : Array Value) (ds gs : List (DataW H)) (cb : List MemPlace)
    (dB : ∀ (j : Nat) t v, Tryz.f5.params[j]? = some t → args[j]? = some v → Value.okWide Tryz.prog W .any base t v)
    (hW : DataW.Whole enc Tryz.prog Tryz.f5.params.toList Rows.repairOfSentenceSpec.vars false W args.toList ds gs cb) (hg : BY W fun _ => False) :
    Calls Tryz.prog 5 args W fun e W' => ∃ v, e = .returned v ∧ Rows.repairOfSentenceSpec.post enc Tryz.prog Tryz.f5 false true false false W args v W' := by
  refine GZ (P := Tryz.prog) (fn := Tryz.f5) (f := 5) (s := Rows.repairOfSentenceSpec) (base := base) (L := tyL) (tb := 4) avT avW avU avV rfl ?_ ?_ dB hW hg
  . intro ds h
    rw [szN] at h
    match ds, h with
    | [a, b, c], _ => rfl
  . intro xs h
    rw [ZF] at h
    obtain ⟨x, _, rfl, ⟨_, h1⟩, y, _, rfl, ⟨_, h2⟩, z, _, rfl, ⟨_, h3⟩, rfl⟩ := h
    obtain ⟨n, rfl, k1⟩ := SR (MC (show vA Tryz.prog 9 24 = some DJ by kernel_rfl) h1)
    obtain ⟨x, rfl, k2, k3⟩ := XC (MC (show vA Tryz.prog 9 28 = some HM by kernel_rfl) h2)
    obtain ⟨d, rfl, k4⟩ := awA h3
    exact azH n x d k1 k3 k4

def wit : Array Value := #[.agg #[.int .i64 0, .int .i64 0, .int .i64 0, .slice none 0 0], .agg #[.slice none 0 0, .slice none 0 0, .int .i64 0], .agg #[.int .i64 0, .slice none 0 0]]
theorem ZH (os : Os) : laidMetH Tryz.prog Rows.repairOfSentenceRow.laid ((zx os).forCall (fun _ _ => 0) ⟨#[], wit, []⟩).memory :=
  laidMetH_of_parts3 (fuel := 8) (laidMet_of_run' 8 (by kernel_rfl) (by kernel_rfl)) (by kernel_rfl) (by kernel_rfl)
theorem atj (os : Os) {H : Type} (enc : TypeId × Value → H) : ∃ B9, DataW.whole enc Tryz.prog ((zx os).forCall (fun _ _ => 0) ⟨#[], wit, []⟩).memory Tryz.f5.params.toList Rows.repairOfSentenceSpec.vars false wit.toList 8 = some ([.agg [.lit (.int .i64 0), .lit (.int .i64 0), .lit (.int .i64 0), .nil], .agg [.nil, .nil, .lit (.int .i64 0)], .agg [.lit (.int .i64 0), .nil]], [], B9) :=
  ⟨[], by kernel_rfl⟩

set_option maxRecDepth 100000 in
theorem lifted (os : Os) (H9 : os.Started) (H : Type) (enc : TypeId × Value → H) (F : Stop.Interp) :
    ReturnsInHanded {} Tryz.checked os 5 .any ((OpenSpec.ofChange Rows.repairOfSentenceSpec).preRow enc Tryz.prog Tryz.f5 Rows.repairOfSentenceRow.domain false Rows.repairOfSentenceRow.laid) (((OpenSpec.ofChange Rows.repairOfSentenceSpec).at F).post enc Tryz.prog Tryz.f5 false true false false) := by
  obtain ⟨B9, hx⟩ := atj os enc
  refine returnsInHanded_of_row (C := Tryz.checked) (s := (OpenSpec.ofChange Rows.repairOfSentenceSpec)) own H9 (by kernel_rfl) Tryz.func5
    (witness_row_at (enc := enc) (C := Tryz.checked) false (zx os) wit rfl (by kernel_rfl) (by kernel_rfl) (by kernel_rfl)
      (OpenSpec.preRow_of_cond 8 hx (by kernel_rfl) (fun k hk => by cases hk) (by kernel_rfl) (ZH os))) ?_
  intro W base args ds gs cb dB hW _ _ _ hl _ _
  exact ZG H enc W base args ds gs cb dB hW (ajF hl)

theorem said : Rows.RepairOfSentenceSaid :=
  OpenClaim.holds_of_cond 5 Tryz.f5 rfl rfl rfl rfl rfl rfl rfl ⟨rfl, rfl, rfl, rfl, rfl⟩ rfl rfl rfl rfl rfl (by kernel_rfl) Tryz.func5 an0
    (of_decide_eq_true (by kernel_rfl)) (by unfold Func.isWrapper; first | (rw [if_pos (by decide +kernel)]; kernel_rfl) | (rw [if_neg (by decide +kernel)]; exact ⟨rfl, rfl⟩))
    (fun os H9 H enc _ F => by rw [OpenClaim.pre_eq_preRow]; exact lifted os H9 H enc F)

theorem plain (f : FuncId) (fn : Func) (hf : Tryz.pinned.checked.prog.funcNamed "emendate/emendatelaw41.RepairOfSentence" = some f) (yB : Tryz.pinned.checked.prog.funcs[f]? = some fn) :
    false = Tryz.pinned.checked.prog.looks [] ∧ ∀ (j : Nat) t, fn.params[j]? = some t → Tryz.pinned.checked.prog.wantsStandIn t = false := by
  obtain rfl : f = 5 := Option.some.inj ((show Tryz.prog.funcNamed "emendate/emendatelaw41.RepairOfSentence" = some 5 by kernel_rfl).symm.trans hf) |>.symm
  obtain rfl : fn = Tryz.f5 := (Option.some.inj (Tryz.func5.symm.trans yB)).symm
  refine ⟨by kernel_rfl, fun j t ht => ?_⟩
  have hm : t ∈ ([24, 28, 34] : List TypeId) := by rw [← ZF]; exact Array.mem_def.1 (Array.mem_of_getElem? ht)
  have hm : t = 24 ∨ t = 28 ∨ t = 34 := by simpa using hm
  rcases hm with rfl | rfl | rfl
  . exact (show Tryz.prog.wantsStandIn 24 = false by kernel_rfl)
  . exact (show Tryz.prog.wantsStandIn 28 = false by kernel_rfl)
  . exact (show Tryz.prog.wantsStandIn 34 = false by kernel_rfl)

theorem card : Rows.RepairOfSentenceCardSaid :=
  Claim7.holds_tied_plain_at .later [] _ _ _ _ said (fun _ h => by cases h) (by kernel_rfl) (fun _ h => by cases h) repairOfSentence_row_tie rfl ⟨rfl, rfl⟩ (by kernel_rfl) rfl plain (by kernel_rfl)
end Go.Proofs.YtbmaafemenldnaaGreatDoor.ofSentence
