/- emendatelaw47.JobPartition answers true at every input, and leaves its arguments as they were. Conditions: the package variable emendate/chart.none starts as the program's text lays it (the card ties it). -/
import Derived.Test.YtnhpkhblghgpdaaGreatDoorXaf
import Derived.Test.YtnhpkhblghgpdaaGreatDoorCards
import Derived.Test.YtnhpkhblghgpdaaGreatDoorTie
import Derived.WalkKit
import Derived.ProofKit
import Derived.OpenShut
import Derived.Deep.DeepHandedRow
import Derived.Lib.LaidTab
namespace Go.Proofs.YtnhpkhblghgpdaaGreatDoor.jobPartition
open Go.ChangeShapes Go.WideShapes Go.ChangeAt Go.RowKit Go.DM Go.Proofs Go.Proofs.cD
set_option linter.unusedVariables false
def tyL : List TypeId := [24, 28, 3, 25, 22, 82, 84, 26, 29, 5]
theorem avq : oD Tryz.prog tyL = true := by kernel_rfl
theorem atq : tG.zn (tG Tryz.prog 9) [24, 28, 29] = some [Hf, DY, .seq [.int .u8, .int .u8]] := by kernel_rfl
theorem avr : Tryz.f3.resultTypes = #[4] := by kernel_rfl
theorem avs : Tryz.prog.underlying 4 = some .bool := by kernel_rfl
theorem aee : Tryz.f3.params.toList = [24, 28, 29] := by kernel_rfl
theorem avt : ∀ t ∈ Tryz.f3.params.toList, t ∈ tyL := by rw [aee]; simp [tyL]
theorem szN : Tryz.f3.params.size = 3 := by kernel_rfl
theorem own : ownKnob Tryz.prog.godebug = none := by kernel_rfl
set_option maxRecDepth 100000 in
theorem aef (H : Type) (enc : TypeId × Value → H) (W : World) (base : Nat) (args : Array Value) (ds gs : List (DataW H)) (cR : List MemPlace)
    (dd : ∀ (j : Nat) t v, Tryz.f3.params[j]? = some t → args[j]? = some v → Value.okWide Tryz.prog W .any base t v)
    (hW : DataW.Whole enc Tryz.prog Tryz.f3.params.toList Rows.jobPartitionSpec.vars false W args.toList ds gs cR) (hg : Hg W fun _ => False) :
    Calls Tryz.prog 3 args W fun e W' => ∃ v, e = .returned v ∧ Rows.jobPartitionSpec.post enc Tryz.prog Tryz.f3 false true false false W args v W' := by
  refine JH (P := Tryz.prog) (fn := Tryz.f3) (f := 3) (s := Rows.jobPartitionSpec) (base := base) (L := tyL) (tb := 4) avq avt avr avs rfl ?_ ?_ dd hW hg
  · intro ds h
    rw [szN] at h
    match ds, h with
    | [a, b, c], _ => rfl
  · intro xs h
    rw [aee] at h
    have := SD atq h
    simp only [Ty.args] at this
    obtain ⟨x, mq, rfl, h1, y, ys', rfl, h2, w, ws', rfl, h3, rfl⟩ := this
    obtain ⟨n, rfl, hn⟩ := Y6 h1
    obtain ⟨z, rfl, _, hz⟩ := NN h2
    obtain ⟨a, b, rfl, ha, hb⟩ := acj h3
    exact Jb.afR n z a b hn hz ha hb

/-- A world for the witness: the settled one, the listed variable holding what its initialiser lays. -/
noncomputable def B5 (os : Os) : World :=
  { World.holding Tryz.prog os ⟨#[], #[], []⟩ with heap := (World.holding Tryz.prog os ⟨#[], #[], []⟩).heap.modify 0 fun
      | .cells _ t frozen => .cells #[.int .i64 1099511627776, .int .i64 0, .int .i64 (-1), .int .i64 0] t frozen
      | o => o }
def wit : Array Value := #[.agg #[.int .i64 0, .int .i64 0, .int .i64 0, .slice none 0 0], .agg #[.slice none 0 0, .slice none 0 0, .int .i64 0], .agg #[.int .u8 0, .int .u8 0]]
theorem aeg (os : Os) : laidMet Tryz.prog Rows.jobPartitionRow.laid ((B5 os).forCall (fun _ _ => 0) ⟨#[], wit, []⟩).memory :=
  laidMet_of_run' 8 (by kernel_rfl) (by kernel_rfl)
theorem atr (os : Os) {H : Type} (enc : TypeId × Value → H) : ∃ Ey, DataW.whole enc Tryz.prog ((B5 os).forCall (fun _ _ => 0) ⟨#[], wit, []⟩).memory Tryz.f3.params.toList Rows.jobPartitionSpec.vars false wit.toList 8 = some ([.agg [.lit (.int .i64 0), .lit (.int .i64 0), .lit (.int .i64 0), .nil], .agg [.nil, .nil, .lit (.int .i64 0)], .agg [.lit (.int .u8 0), .lit (.int .u8 0)]], [], Ey) :=
  ⟨[], by kernel_rfl⟩

set_option maxRecDepth 100000 in
theorem lifted (os : Os) (Lk : os.Started) (H : Type) (enc : TypeId × Value → H) (F : Stop.Interp) :
    ReturnsInHanded {} Tryz.checked os 3 .any ((OpenSpec.ofChange Rows.jobPartitionSpec).preRow enc Tryz.prog Tryz.f3 Rows.jobPartitionRow.domain false Rows.jobPartitionRow.laid) (((OpenSpec.ofChange Rows.jobPartitionSpec).at F).post enc Tryz.prog Tryz.f3 false true false false) := by
  obtain ⟨Ey, hx⟩ := atr os enc
  refine returnsInHanded_of_row (C := Tryz.checked) (s := OpenSpec.ofChange Rows.jobPartitionSpec) own Lk (by kernel_rfl) Tryz.func3
    (witness_row_at (enc := enc) (C := Tryz.checked) false (B5 os) wit rfl (by kernel_rfl) (by kernel_rfl) (by kernel_rfl)
      (OpenSpec.preRow_of_cond 8 hx (by kernel_rfl) (fun k hk => by cases hk) (by kernel_rfl) (aeg os))) ?_
  intro W base args ds gs cR dd hW _ _ _ hl _ _
  exact aef H enc W base args ds gs cR dd hW (an4 hl)

theorem said : Rows.JobPartitionSaid :=
  OpenClaim.holds_of_cond 3 Tryz.f3 rfl rfl rfl rfl rfl rfl rfl ⟨rfl, rfl, rfl, rfl, rfl⟩ rfl rfl rfl rfl rfl (by kernel_rfl) Tryz.func3 (by kernel_rfl)
    (of_decide_eq_true (by kernel_rfl)) (by unfold Func.isWrapper; first | (rw [if_pos (by decide +kernel)]; kernel_rfl) | (rw [if_neg (by decide +kernel)]; exact ⟨rfl, rfl⟩))
    (fun os Lk H enc _ F => by rw [OpenClaim.pre_eq_preRow]; exact lifted os Lk H enc F)

theorem plain (f : FuncId) (fn : Func) (hf : Tryz.pinned.checked.prog.funcNamed "emendate/emendatelaw47.JobPartition" = some f) (tz : Tryz.pinned.checked.prog.funcs[f]? = some fn) :
    false = Tryz.pinned.checked.prog.looks [] ∧ ∀ (j : Nat) t, fn.params[j]? = some t → Tryz.pinned.checked.prog.wantsStandIn t = false := by
  obtain rfl : f = 3 := Option.some.inj ((show Tryz.prog.funcNamed "emendate/emendatelaw47.JobPartition" = some 3 by kernel_rfl).symm.trans hf) |>.symm
  obtain rfl : fn = Tryz.f3 := (Option.some.inj (Tryz.func3.symm.trans tz)).symm
  refine ⟨by kernel_rfl, fun j t ht => ?_⟩
  have hm : t ∈ [24, 28, 29] := by rw [← aee]; exact Array.mem_def.1 (Array.mem_of_getElem? ht)
  have hm : t = 24 ∨ t = 28 ∨ t = 29 := by simpa using hm
  rcases hm with rfl | rfl | rfl
  · exact (show Tryz.prog.wantsStandIn 24 = false by kernel_rfl)
  · exact (show Tryz.prog.wantsStandIn 28 = false by kernel_rfl)
  · exact (show Tryz.prog.wantsStandIn 29 = false by kernel_rfl)

theorem card : Rows.JobPartitionCardSaid :=
  Claim7.holds_tied_plain_at .later [] _ _ _ _ said (fun _ h => by cases h) (by kernel_rfl) (fun _ h => by cases h) jobPartition_row_tie rfl ⟨rfl, rfl⟩ (by kernel_rfl) rfl plain (by kernel_rfl)
end Go.Proofs.YtnhpkhblghgpdaaGreatDoor.jobPartition
