/- emendatelaw47.JobInterleaved answers true at every input, and leaves its arguments as they were. Conditions: emendate/chart.none starts as the program lays it (the card ties it). -/
import Derived.Test.YtnhpkhblghgpdaaGreatDoorXaf
import Derived.Test.YtnhpkhblghgpdaaGreatDoorCards
import Derived.Test.YtnhpkhblghgpdaaGreatDoorTie
import Derived.WalkKit
import Derived.ProofKit
import Derived.OpenShut
import Derived.Deep.DeepHandedRow
import Derived.Lib.LaidTab
namespace Go.Proofs.YtnhpkhblghgpdaaGreatDoor.jobInterleaved
open Go.ChangeShapes Go.WideShapes Go.ChangeAt Go.RowKit Go.DM Go.Proofs Go.Proofs.cD
set_option linter.all false
def tyL : List TypeId := [24, 28, 3, 25, 22, 82, 84, 26]
theorem avk : oD Tryz.prog tyL = true := by kernel_rfl
theorem atp : tG.zp (tG Tryz.prog 9) [24, 28, 28] = some [Hj, D2, D2] := by kernel_rfl
theorem avl : Tryz.f5.resultTypes = #[4] := by kernel_rfl
theorem avm : Tryz.prog.underlying 4 = some .bool := by kernel_rfl
theorem aei : Tryz.f5.params.toList = [24, 28, 28] := by kernel_rfl
theorem avn : ∀ t ∈ Tryz.f5.params.toList, t ∈ tyL := by rw [aei]; simp [tyL]
theorem szN : Tryz.f5.params.size = 3 := by kernel_rfl
theorem own : ownKnob Tryz.prog.godebug = none := by kernel_rfl
set_option maxRecDepth 100000 in
theorem aej (H : Type) (enc : TypeId × Value → H) (W : World) (base : Nat) (args : Array Value) (ds gs : List (DataW H)) (cR : List MemPlace)
    (dd : ∀ (j : Nat) t v, Tryz.f5.params[j]? = some t → args[j]? = some v → Value.okWide Tryz.prog W .any base t v)
    (hW : DataW.Whole enc Tryz.prog Tryz.f5.params.toList Rows.jobInterleavedSpec.vars false W args.toList ds gs cR) (hg : Hk W fun _ => False) :
    Calls Tryz.prog 5 args W fun e W' => ∃ v, e = .returned v ∧ Rows.jobInterleavedSpec.post enc Tryz.prog Tryz.f5 false true false false W args v W' := by
  refine JL (P := Tryz.prog) (fn := Tryz.f5) (f := 5) (s := Rows.jobInterleavedSpec) (base := base) (L := tyL) (tb := 4) avk avn avl avm rfl ?_ ?_ dd hW hg
  · intro ds h
    rw [szN] at h
    match ds, h with
    | [a, b, c], _ => rfl
  · intro xs h
    rw [aei] at h
    have := SB atp h
    simp only [Ty.args] at this
    obtain ⟨x, mq, rfl, h1, y, ys', rfl, h2, w, ws', rfl, h3, rfl⟩ := this
    obtain ⟨n, rfl, hn⟩ := Y7 h1
    obtain ⟨z, rfl, _, hz⟩ := NO h2
    obtain ⟨y, rfl, _, hy⟩ := NO h3
    exact Jb.asN n z y hn hz hy

noncomputable def B9 (os : Os) : World :=
  { World.holding Tryz.prog os ⟨#[], #[], []⟩ with heap := (World.holding Tryz.prog os ⟨#[], #[], []⟩).heap.modify 0 fun
      | .cells _ t frozen => .cells #[.int .i64 1099511627776, .int .i64 0, .int .i64 (-1), .int .i64 0] t frozen
      | o => o }
def wit : Array Value := #[.agg #[.int .i64 0, .int .i64 0, .int .i64 0, .slice none 0 0], .agg #[.slice none 0 0, .slice none 0 0, .int .i64 0], .agg #[.slice none 0 0, .slice none 0 0, .int .i64 0]]
theorem aek (os : Os) : laidMet Tryz.prog Rows.jobInterleavedRow.laid ((B9 os).forCall (fun _ _ => 0) ⟨#[], wit, []⟩).memory :=
  laidMet_of_run' 8 (by kernel_rfl) (by kernel_rfl)
theorem atq (os : Os) {H : Type} (enc : TypeId × Value → H) : ∃ EC, DataW.whole enc Tryz.prog ((B9 os).forCall (fun _ _ => 0) ⟨#[], wit, []⟩).memory Tryz.f5.params.toList Rows.jobInterleavedSpec.vars false wit.toList 8 = some ([.agg [.lit (.int .i64 0), .lit (.int .i64 0), .lit (.int .i64 0), .nil], .agg [.nil, .nil, .lit (.int .i64 0)], .agg [.nil, .nil, .lit (.int .i64 0)]], [], EC) :=
  ⟨[], by kernel_rfl⟩

set_option maxRecDepth 100000 in
theorem lifted (os : Os) (Lm : os.Started) (H : Type) (enc : TypeId × Value → H) (F : Stop.Interp) :
    ReturnsInHanded {} Tryz.checked os 5 .any ((OpenSpec.ofChange Rows.jobInterleavedSpec).preRow enc Tryz.prog Tryz.f5 Rows.jobInterleavedRow.domain false Rows.jobInterleavedRow.laid) (((OpenSpec.ofChange Rows.jobInterleavedSpec).at F).post enc Tryz.prog Tryz.f5 false true false false) := by
  obtain ⟨EC, hx⟩ := atq os enc
  refine returnsInHanded_of_row (C := Tryz.checked) (s := OpenSpec.ofChange Rows.jobInterleavedSpec) own Lm (by kernel_rfl) Tryz.func5
    (witness_row_at (enc := enc) (C := Tryz.checked) false (B9 os) wit rfl (by kernel_rfl) (by kernel_rfl) (by kernel_rfl)
      (OpenSpec.preRow_of_cond 8 hx (by kernel_rfl) (fun k hk => by cases hk) (by kernel_rfl) (aek os))) ?_
  intro W base args ds gs cR dd hW _ _ _ hl _ _
  exact aej H enc W base args ds gs cR dd hW (an8 hl)

theorem said : Rows.JobInterleavedSaid :=
  OpenClaim.holds_of_cond 5 Tryz.f5 rfl rfl rfl rfl rfl rfl rfl ⟨rfl, rfl, rfl, rfl, rfl⟩ rfl rfl rfl rfl rfl (by kernel_rfl) Tryz.func5 (by kernel_rfl)
    (of_decide_eq_true (by kernel_rfl)) (by unfold Func.isWrapper; first | (rw [if_pos (by decide +kernel)]; kernel_rfl) | (rw [if_neg (by decide +kernel)]; exact ⟨rfl, rfl⟩))
    (fun os Lm H enc _ F => by rw [OpenClaim.pre_eq_preRow]; exact lifted os Lm H enc F)

theorem plain (f : FuncId) (fn : Func) (hf : Tryz.pinned.checked.prog.funcNamed "emendate/emendatelaw47.JobInterleaved" = some f) (tz : Tryz.pinned.checked.prog.funcs[f]? = some fn) :
    false = Tryz.pinned.checked.prog.looks [] ∧ ∀ (j : Nat) t, fn.params[j]? = some t → Tryz.pinned.checked.prog.wantsStandIn t = false := by
  obtain rfl : f = 5 := Option.some.inj ((show Tryz.prog.funcNamed "emendate/emendatelaw47.JobInterleaved" = some 5 by kernel_rfl).symm.trans hf) |>.symm
  obtain rfl : fn = Tryz.f5 := (Option.some.inj (Tryz.func5.symm.trans tz)).symm
  refine ⟨by kernel_rfl, fun j t ht => ?_⟩
  have hm : t ∈ [24, 28, 28] := by rw [← aei]; exact Array.mem_def.1 (Array.mem_of_getElem? ht)
  have hm : t = 24 ∨ t = 28 ∨ t = 28 := by simpa using hm
  rcases hm with rfl | rfl | rfl
  · exact (show Tryz.prog.wantsStandIn 24 = false by kernel_rfl)
  · exact (show Tryz.prog.wantsStandIn 28 = false by kernel_rfl)
  · exact (show Tryz.prog.wantsStandIn 28 = false by kernel_rfl)

theorem card : Rows.JobInterleavedCardSaid :=
  Claim7.holds_tied_plain_at .later [] _ _ _ _ said (fun _ h => by cases h) (by kernel_rfl) (fun _ h => by cases h) jobInterleaved_row_tie rfl ⟨rfl, rfl⟩ (by kernel_rfl) rfl plain (by kernel_rfl)
end Go.Proofs.YtnhpkhblghgpdaaGreatDoor.jobInterleaved
