/- emendatelaw47.JobCalls answers true at every input, and leaves its arguments as they were. Conditions: the package variable emendate/chart.none starts as the program's text lays it (the card ties it). -/
import Derived.Test.YtnhpkhblghgpdaaGreatDoorXaf
import Derived.Test.YtnhpkhblghgpdaaGreatDoorCards
import Derived.Test.YtnhpkhblghgpdaaGreatDoorTie
import Derived.WalkKit
import Derived.ProofKit
import Derived.OpenShut
import Derived.Deep.DeepHandedRow
import Derived.Lib.LaidTab
namespace Go.Proofs.YtnhpkhblghgpdaaGreatDoor.jobCalls
open Go.ChangeShapes Go.WideShapes Go.ChangeAt Go.RowKit Go.DM Go.Proofs Go.Proofs.cP
set_option linter.all false
def tyL : List TypeId := [24, 28, 3, 25, 22, 82, 84, 26, 46, 48, 4]
theorem axV : oV Tryz.prog tyL = true := by kernel_rfl
theorem avT : uB.Ao (uB Tryz.prog 9) [24, 28, 46] = some [GV, Km, KO] := by kernel_rfl
theorem axW : Tryz.f4.resultTypes = #[4] := by kernel_rfl
theorem axX : Tryz.prog.underlying 4 = some .bool := by kernel_rfl
theorem aa0 : Tryz.f4.params.toList = [24, 28, 46] := by kernel_rfl
theorem axY : ∀ t ∈ Tryz.f4.params.toList, t ∈ tyL := by rw [aa0]; simp [tyL]
theorem szN : Tryz.f4.params.size = 3 := by kernel_rfl
theorem own : ownKnob Tryz.prog.godebug = none := by kernel_rfl
set_option maxRecDepth 100000 in
theorem aa1 (H : Type) (enc : TypeId × Value → H) (W : World) (base : Nat) (args : Array Value) (ds gs : List (DataW H)) (cN : List MemPlace)
    (dv : ∀ (j : Nat) t v, Tryz.f4.params[j]? = some t → args[j]? = some v → Value.okWide Tryz.prog W .any base t v)
    (hW : DataW.Whole enc Tryz.prog Tryz.f4.params.toList Rows.jobCallsSpec.vars false W args.toList ds gs cN) (hg : GW W fun _ => False) :
    Calls Tryz.prog 4 args W fun e W' => ∃ v, e = .returned v ∧ Rows.jobCallsSpec.post enc Tryz.prog Tryz.f4 false true false false W args v W' := by
  refine JB (P := Tryz.prog) (fn := Tryz.f4) (f := 4) (s := Rows.jobCallsSpec) (base := base) (L := tyL) (tb := 4) axV axY axW axX rfl ?_ ?_ dv hW hg
  · intro ds h
    rw [szN] at h
    match ds, h with
    | [a, b, c], _ => rfl
  · intro xs h
    rw [aa0] at h
    have := Rz avT h
    simp only [Ty.args] at this
    obtain ⟨x, mL, rfl, h1, y, ys', rfl, h2, w, ws', rfl, h3, rfl⟩ := this
    obtain ⟨n, rfl, hn⟩ := VB h1
    obtain ⟨z, rfl, _, hz⟩ := ZV h2
    obtain ⟨l, rfl, hl⟩ := aaZ h3
    exact Jb.avg n z l hn hz hl

noncomputable def CC (os : Os) : World :=
  { World.holding Tryz.prog os ⟨#[], #[], []⟩ with heap := (World.holding Tryz.prog os ⟨#[], #[], []⟩).heap.modify 0 fun
      | .cells _ t frozen => .cells #[.int .i64 1099511627776, .int .i64 0, .int .i64 (-1), .int .i64 0] t frozen
      | o => o }
def wit : Array Value := #[.agg #[.int .i64 0, .int .i64 0, .int .i64 0, .slice none 0 0], .agg #[.slice none 0 0, .slice none 0 0, .int .i64 0], .slice none 0 0]
theorem aa2 (os : Os) : laidMet Tryz.prog Rows.jobCallsRow.laid ((CC os).forCall (fun _ _ => 0) ⟨#[], wit, []⟩).memory :=
  laidMet_of_run' 8 (by kernel_rfl) (by kernel_rfl)
theorem avU (os : Os) {H : Type} (enc : TypeId × Value → H) : ∃ ER, DataW.whole enc Tryz.prog ((CC os).forCall (fun _ _ => 0) ⟨#[], wit, []⟩).memory Tryz.f4.params.toList Rows.jobCallsSpec.vars false wit.toList 8 = some ([.agg [.lit (.int .i64 0), .lit (.int .i64 0), .lit (.int .i64 0), .nil], .agg [.nil, .nil, .lit (.int .i64 0)], .nil], [], ER) :=
  ⟨[], by kernel_rfl⟩

set_option maxRecDepth 100000 in
theorem lifted (os : Os) (KP : os.Started) (H : Type) (enc : TypeId × Value → H) (F : Stop.Interp) :
    ReturnsInHanded {} Tryz.checked os 4 .any ((OpenSpec.ofChange Rows.jobCallsSpec).preRow enc Tryz.prog Tryz.f4 Rows.jobCallsRow.domain false Rows.jobCallsRow.laid) (((OpenSpec.ofChange Rows.jobCallsSpec).at F).post enc Tryz.prog Tryz.f4 false true false false) := by
  obtain ⟨ER, hx⟩ := avU os enc
  refine returnsInHanded_of_row (C := Tryz.checked) (s := OpenSpec.ofChange Rows.jobCallsSpec) own KP (by kernel_rfl) Tryz.func4
    (witness_row_at (enc := enc) (C := Tryz.checked) false (CC os) wit rfl (by kernel_rfl) (by kernel_rfl) (by kernel_rfl)
      (OpenSpec.preRow_of_cond 8 hx (by kernel_rfl) (fun k hk => by cases hk) (by kernel_rfl) (aa2 os))) ?_
  intro W base args ds gs cN dv hW _ _ _ hl _ _
  exact aa1 H enc W base args ds gs cN dv hW (alJ hl)

theorem said : Rows.JobCallsSaid :=
  OpenClaim.holds_of_cond 4 Tryz.f4 rfl rfl rfl rfl rfl rfl rfl ⟨rfl, rfl, rfl, rfl, rfl⟩ rfl rfl rfl rfl rfl (by kernel_rfl) Tryz.func4 (by kernel_rfl)
    (of_decide_eq_true (by kernel_rfl)) (by unfold Func.isWrapper; first | (rw [if_pos (by decide +kernel)]; kernel_rfl) | (rw [if_neg (by decide +kernel)]; exact ⟨rfl, rfl⟩))
    (fun os KP H enc _ F => by rw [OpenClaim.pre_eq_preRow]; exact lifted os KP H enc F)

theorem plain (f : FuncId) (fn : Func) (hf : Tryz.pinned.checked.prog.funcNamed "emendate/emendatelaw47.JobCalls" = some f) (ut : Tryz.pinned.checked.prog.funcs[f]? = some fn) :
    false = Tryz.pinned.checked.prog.looks [] ∧ ∀ (j : Nat) t, fn.params[j]? = some t → Tryz.pinned.checked.prog.wantsStandIn t = false := by
  obtain rfl : f = 4 := Option.some.inj ((show Tryz.prog.funcNamed "emendate/emendatelaw47.JobCalls" = some 4 by kernel_rfl).symm.trans hf) |>.symm
  obtain rfl : fn = Tryz.f4 := (Option.some.inj (Tryz.func4.symm.trans ut)).symm
  refine ⟨by kernel_rfl, fun j t ht => ?_⟩
  have hm : t ∈ [24, 28, 46] := by rw [← aa0]; exact Array.mem_def.1 (Array.mem_of_getElem? ht)
  have hm : t = 24 ∨ t = 28 ∨ t = 46 := by simpa using hm
  rcases hm with rfl | rfl | rfl
  · exact (show Tryz.prog.wantsStandIn 24 = false by kernel_rfl)
  · exact (show Tryz.prog.wantsStandIn 28 = false by kernel_rfl)
  · exact (show Tryz.prog.wantsStandIn 46 = false by kernel_rfl)

theorem card : Rows.JobCallsCardSaid :=
  Claim7.holds_tied_plain_at .later [] _ _ _ _ said (fun _ h => by cases h) (by kernel_rfl) (fun _ h => by cases h) jobCalls_row_tie rfl ⟨rfl, rfl⟩ (by kernel_rfl) rfl plain (by kernel_rfl)
end Go.Proofs.YtnhpkhblghgpdaaGreatDoor.jobCalls
