/-
  NARROWER THAN 'FOR EVERY INPUT', by the rows' own cells (each row's printed sentence says how): JobPartition: laid · JobCalls: laid · JobInterleaved: laid · JobCanceled: laid · JobNil: laid.
  DERIVED. THE GIVEN ROWS OF THIS SEAT. 5 by the template 'for every input the law returns true; each argument reads behind the call as it read before'; 0 by the template 'total and deterministic' (their statements: YtnhpkhblghgpdaaGreatDoorTotals.lean).
  GIVEN WITH THE SEED: the statements are not yours to turn. If you find one false, say at which input.
  Laid BY PROGRAM, IN A SANDBOX (cutbox-rows.mjs): the forced cells as the released guide's own fill.sh prints them over the translation 0483cdb91faf09f5… (all of the seat's roots in one cut). By AI agents, Wed Nov 11 2026. No macro, syntax, notation, axiom, sorry.
-/
import Derived.Test.YtnhpkhblghgpdaaGreatDoorChecked
import GoSem.Claim
import GoSem.ClaimJoined
import GoSem.ClaimMapViews
import Derived.JoinedTies
import Derived.KernelRfl
namespace Go.Proofs.YtnhpkhblghgpdaaGreatDoor
/- THE CELL 'sum', in the pinned program and in every row, IS THE sha256 OF THE DUMP (.gsa) THAT YtnhpkhblghgpdaaGreatDoorProg.lean LOADS. Nothing in Lean hashes anything: it is a label: what it is worth is what the hold of that sum in a sandbox is worth. -/
noncomputable def Tryz.pinned : Pinned := { name := "ytnhpkhblghgpdaagreatdoor", sum := "0483cdb91faf09f5b308e934337877c727bd9f05e9713cd8bf8cd97fc4ef65bd", checked := Tryz.checked }
namespace Rows
def none {H : Type} : Left H := { results := [], args := [] }

/- WHAT THE LISTED PACKAGE-LEVEL VARIABLES READ AS WHEN THE CALL BEGINS. Each datum BY PROGRAM (the guide's laid-datum.mjs) off the statement by which the dump's own 'gosem.cut.vars' lays the variable. In a bare row this is a premise. The card (YtnhpkhblghgpdaaGreatDoorCards.lean) ties it to the program's text. -/
def laid_emendate_chart_none {H : Type} : DataW H := .agg [.agg [.lit (.int .i64 1099511627776), .lit (.int .i64 0)], .lit (.int .i64 (-1)), .lit (.int .i64 0)]

/-- 'emendatelaw47.JobPartition': WHATEVER THE INPUT: true; the input reads as it did. -/
def jobPartitionSpec : ChangeSpec := { name := "jobPartition", fn := fun _ => fun
  | [d1, d2, d3] => { results := [.lit (.bool true)], args := [d1, d2, d3] }
  | _ => none }
def jobPartitionRow : OpenClaim := { program := "ytnhpkhblghgpdaagreatdoor", sum := "0483cdb91faf09f5b308e934337877c727bd9f05e9713cd8bf8cd97fc4ef65bd", func := "emendate/emendatelaw47.JobPartition", spec := "jobPartition", unfollowed := true, recurses := true, named := ["emendate/chart.none"], plainKeys := false, apart := false, laid := [("emendate/chart.none", laid_emendate_chart_none)] }
def JobPartitionSaid : Prop := jobPartitionRow.holds Tryz.pinned (OpenSpec.ofChange jobPartitionSpec)

/-- ITS FALSE NEIGHBOUR: 'it returns false'. Refute it at one input. -/
def jobPartitionWrong : ChangeSpec := { name := "jobPartition", fn := fun _ => fun
  | [d1, d2, d3] => { results := [.lit (.bool false)], args := [d1, d2, d3] }
  | _ => none }
def JobPartitionWrongFalsely : Prop := jobPartitionRow.holds Tryz.pinned (OpenSpec.ofChange jobPartitionWrong)

/-- 'emendatelaw47.JobCalls': WHATEVER THE INPUT: true; the input reads as it did. -/
def jobCallsSpec : ChangeSpec := { name := "jobCalls", fn := fun _ => fun
  | [d1, d2, d3] => { results := [.lit (.bool true)], args := [d1, d2, d3] }
  | _ => none }
def jobCallsRow : OpenClaim := { program := "ytnhpkhblghgpdaagreatdoor", sum := "0483cdb91faf09f5b308e934337877c727bd9f05e9713cd8bf8cd97fc4ef65bd", func := "emendate/emendatelaw47.JobCalls", spec := "jobCalls", unfollowed := true, recurses := true, named := ["emendate/chart.none"], plainKeys := false, apart := false, laid := [("emendate/chart.none", laid_emendate_chart_none)] }
def JobCallsSaid : Prop := jobCallsRow.holds Tryz.pinned (OpenSpec.ofChange jobCallsSpec)

/-- ITS FALSE NEIGHBOUR: 'it returns false'. Refute it at one input. -/
def jobCallsWrong : ChangeSpec := { name := "jobCalls", fn := fun _ => fun
  | [d1, d2, d3] => { results := [.lit (.bool false)], args := [d1, d2, d3] }
  | _ => none }
def JobCallsWrongFalsely : Prop := jobCallsRow.holds Tryz.pinned (OpenSpec.ofChange jobCallsWrong)

/-- 'emendatelaw47.JobInterleaved': WHATEVER THE INPUT: true; the input reads as it did. -/
def jobInterleavedSpec : ChangeSpec := { name := "jobInterleaved", fn := fun _ => fun
  | [d1, d2, d3] => { results := [.lit (.bool true)], args := [d1, d2, d3] }
  | _ => none }
def jobInterleavedRow : OpenClaim := { program := "ytnhpkhblghgpdaagreatdoor", sum := "0483cdb91faf09f5b308e934337877c727bd9f05e9713cd8bf8cd97fc4ef65bd", func := "emendate/emendatelaw47.JobInterleaved", spec := "jobInterleaved", unfollowed := true, recurses := true, named := ["emendate/chart.none"], plainKeys := false, apart := false, laid := [("emendate/chart.none", laid_emendate_chart_none)] }
def JobInterleavedSaid : Prop := jobInterleavedRow.holds Tryz.pinned (OpenSpec.ofChange jobInterleavedSpec)

/-- ITS FALSE NEIGHBOUR: 'it returns false'. Refute it at one input. -/
def jobInterleavedWrong : ChangeSpec := { name := "jobInterleaved", fn := fun _ => fun
  | [d1, d2, d3] => { results := [.lit (.bool false)], args := [d1, d2, d3] }
  | _ => none }
def JobInterleavedWrongFalsely : Prop := jobInterleavedRow.holds Tryz.pinned (OpenSpec.ofChange jobInterleavedWrong)

/-- 'emendatelaw47.JobCanceled': WHATEVER THE INPUT: true; the input reads as it did. -/
def jobCanceledSpec : ChangeSpec := { name := "jobCanceled", fn := fun _ => fun
  | [d1, d2, d3] => { results := [.lit (.bool true)], args := [d1, d2, d3] }
  | _ => none }
def jobCanceledRow : OpenClaim := { program := "ytnhpkhblghgpdaagreatdoor", sum := "0483cdb91faf09f5b308e934337877c727bd9f05e9713cd8bf8cd97fc4ef65bd", func := "emendate/emendatelaw47.JobCanceled", spec := "jobCanceled", unfollowed := true, recurses := true, named := ["emendate/chart.none"], plainKeys := false, apart := false, laid := [("emendate/chart.none", laid_emendate_chart_none)] }
def JobCanceledSaid : Prop := jobCanceledRow.holds Tryz.pinned (OpenSpec.ofChange jobCanceledSpec)

/-- ITS FALSE NEIGHBOUR: 'it returns false'. Refute it at one input. -/
def jobCanceledWrong : ChangeSpec := { name := "jobCanceled", fn := fun _ => fun
  | [d1, d2, d3] => { results := [.lit (.bool false)], args := [d1, d2, d3] }
  | _ => none }
def JobCanceledWrongFalsely : Prop := jobCanceledRow.holds Tryz.pinned (OpenSpec.ofChange jobCanceledWrong)

/-- 'emendatelaw47.JobNil': WHATEVER THE INPUT: true; the input reads as it did. -/
def jobNilSpec : ChangeSpec := { name := "jobNil", fn := fun _ => fun
  | [d1, d2, d3] => { results := [.lit (.bool true)], args := [d1, d2, d3] }
  | _ => none }
def jobNilRow : OpenClaim := { program := "ytnhpkhblghgpdaagreatdoor", sum := "0483cdb91faf09f5b308e934337877c727bd9f05e9713cd8bf8cd97fc4ef65bd", func := "emendate/emendatelaw47.JobNil", spec := "jobNil", unfollowed := true, recurses := true, named := ["emendate/chart.none"], plainKeys := false, apart := false, laid := [("emendate/chart.none", laid_emendate_chart_none)] }
def JobNilSaid : Prop := jobNilRow.holds Tryz.pinned (OpenSpec.ofChange jobNilSpec)

/-- ITS FALSE NEIGHBOUR: 'it returns false'. Refute it at one input. -/
def jobNilWrong : ChangeSpec := { name := "jobNil", fn := fun _ => fun
  | [d1, d2, d3] => { results := [.lit (.bool false)], args := [d1, d2, d3] }
  | _ => none }
def JobNilWrongFalsely : Prop := jobNilRow.holds Tryz.pinned (OpenSpec.ofChange jobNilWrong)

/- THE SECOND FORM. 'bulk': how many values and letters a reading holds, each counted each time it is reached (what is shared counts as often as it is met; a slice's spare places count too). A statement '..UptoSaid' is the law's where the arguments, and the package variables that the reading takes, are together of bulk at most 1048576: NARROWER than '..Said'. Prove '..Said' where nothing that the law and all that it calls make is longer than what came in: it says more and counts as full. Else prove '..UptoSaid'. A law counts once. -/
mutual
def uptoBulk {H : Type} : DataW H → Nat
  | .lit (.string bytes) => bytes.length + 1
  | .lit _ => 1
  | .nil => 1
  | .ptr d => uptoBulk d + 1
  | .slice elems spare => uptoBulkAll elems + uptoBulkAll spare + 1
  | .agg parts => uptoBulkAll parts + 1
  | .iface _ d => uptoBulk d + 1
  | .map entries => uptoBulkEntries entries + 1
  | .held _ => 1
def uptoBulkAll {H : Type} : List (DataW H) → Nat
  | [] => 0
  | d :: r => uptoBulk d + uptoBulkAll r
def uptoBulkEntries {H : Type} : List (Lit × DataW H) → Nat
  | [] => 0
  | x :: r => uptoBulkEntry x + uptoBulkEntries r
def uptoBulkEntry {H : Type} : Lit × DataW H → Nat
  | (.string bytes, d) => bytes.length + uptoBulk d + 1
  | (_, d) => uptoBulk d + 1
 end
def uptoSmall : (H : Type) → List (DataW H) → Bool := fun _ ds => decide (uptoBulkAll ds ≤ 1048576)
def OpenSpec.upto (s : _root_.Go.ChangeSpec) : _root_.Go.OpenSpec := { _root_.Go.OpenSpec.ofChange s with cond := some uptoSmall }

/-- 'emendatelaw47.JobPartition', WHERE WHAT IT READS IS OF BULK AT MOST 1048576: true; the input reads as it did. -/
def jobPartitionUptoRow : OpenClaim := { program := "ytnhpkhblghgpdaagreatdoor", sum := "0483cdb91faf09f5b308e934337877c727bd9f05e9713cd8bf8cd97fc4ef65bd", func := "emendate/emendatelaw47.JobPartition", spec := "jobPartition", unfollowed := true, recurses := true, named := ["emendate/chart.none"], plainKeys := false, apart := false, laid := [("emendate/chart.none", laid_emendate_chart_none)], narrowed := true }
def JobPartitionUptoSaid : Prop := jobPartitionUptoRow.holds Tryz.pinned (OpenSpec.upto jobPartitionSpec)

/-- 'emendatelaw47.JobCalls', WHERE WHAT IT READS IS OF BULK AT MOST 1048576: true; the input reads as it did. -/
def jobCallsUptoRow : OpenClaim := { program := "ytnhpkhblghgpdaagreatdoor", sum := "0483cdb91faf09f5b308e934337877c727bd9f05e9713cd8bf8cd97fc4ef65bd", func := "emendate/emendatelaw47.JobCalls", spec := "jobCalls", unfollowed := true, recurses := true, named := ["emendate/chart.none"], plainKeys := false, apart := false, laid := [("emendate/chart.none", laid_emendate_chart_none)], narrowed := true }
def JobCallsUptoSaid : Prop := jobCallsUptoRow.holds Tryz.pinned (OpenSpec.upto jobCallsSpec)

/-- 'emendatelaw47.JobInterleaved', WHERE WHAT IT READS IS OF BULK AT MOST 1048576: true; the input reads as it did. -/
def jobInterleavedUptoRow : OpenClaim := { program := "ytnhpkhblghgpdaagreatdoor", sum := "0483cdb91faf09f5b308e934337877c727bd9f05e9713cd8bf8cd97fc4ef65bd", func := "emendate/emendatelaw47.JobInterleaved", spec := "jobInterleaved", unfollowed := true, recurses := true, named := ["emendate/chart.none"], plainKeys := false, apart := false, laid := [("emendate/chart.none", laid_emendate_chart_none)], narrowed := true }
def JobInterleavedUptoSaid : Prop := jobInterleavedUptoRow.holds Tryz.pinned (OpenSpec.upto jobInterleavedSpec)

/-- 'emendatelaw47.JobCanceled', WHERE WHAT IT READS IS OF BULK AT MOST 1048576: true; the input reads as it did. -/
def jobCanceledUptoRow : OpenClaim := { program := "ytnhpkhblghgpdaagreatdoor", sum := "0483cdb91faf09f5b308e934337877c727bd9f05e9713cd8bf8cd97fc4ef65bd", func := "emendate/emendatelaw47.JobCanceled", spec := "jobCanceled", unfollowed := true, recurses := true, named := ["emendate/chart.none"], plainKeys := false, apart := false, laid := [("emendate/chart.none", laid_emendate_chart_none)], narrowed := true }
def JobCanceledUptoSaid : Prop := jobCanceledUptoRow.holds Tryz.pinned (OpenSpec.upto jobCanceledSpec)

/-- 'emendatelaw47.JobNil', WHERE WHAT IT READS IS OF BULK AT MOST 1048576: true; the input reads as it did. -/
def jobNilUptoRow : OpenClaim := { program := "ytnhpkhblghgpdaagreatdoor", sum := "0483cdb91faf09f5b308e934337877c727bd9f05e9713cd8bf8cd97fc4ef65bd", func := "emendate/emendatelaw47.JobNil", spec := "jobNil", unfollowed := true, recurses := true, named := ["emendate/chart.none"], plainKeys := false, apart := false, laid := [("emendate/chart.none", laid_emendate_chart_none)], narrowed := true }
def JobNilUptoSaid : Prop := jobNilUptoRow.holds Tryz.pinned (OpenSpec.upto jobNilSpec)

end Rows
end Go.Proofs.YtnhpkhblghgpdaaGreatDoor
