/-
  NARROWER THAN 'FOR EVERY INPUT', by the rows' own cells (each row's printed sentence says how): IncrementEqualsScratch: laid · IncrementTwice: laid · IncrementKeeps: laid · IncrementNothing: laid · IncrementErrors: laid · IncrementSaves: laid.
  DERIVED. THE GIVEN ROWS OF THIS SEAT. 6 by the template 'for every input the law returns true; each argument reads behind the call as it read before'; 0 by the template 'total and deterministic' (their statements: YtljcdomdjgolkaaGreatDoorTotals.lean).
  GIVEN WITH THE SEED: the statements are not yours to turn. If you find one false, say at which input.
  Laid BY PROGRAM, IN A SANDBOX (cutbox-rows.mjs): the forced cells as the released guide's own fill.sh prints them over the translation e854bd0503f2cbfb… (all of the seat's roots in one cut). By AI agents, Wed Nov 11 2026. No macro, syntax, notation, axiom, sorry.
-/
import Derived.Test.YtljcdomdjgolkaaGreatDoorChecked
import GoSem.Claim
import GoSem.ClaimJoined
import GoSem.ClaimMapViews
import Derived.JoinedTies
import Derived.KernelRfl
namespace Go.Proofs.YtljcdomdjgolkaaGreatDoor
/- THE CELL 'sum', in the pinned program and in every row, IS THE sha256 OF THE DUMP (.gsa) THAT YtljcdomdjgolkaaGreatDoorProg.lean LOADS. Nothing in Lean hashes anything: it is a label: what it is worth is what the hold of that sum in a sandbox is worth. -/
noncomputable def Tryz.pinned : Pinned := { name := "ytljcdomdjgolkaagreatdoor", sum := "e854bd0503f2cbfb1b7f60060a8be40b6a2caffeef6b6cb3a7076e1988fe9f7a", checked := Tryz.checked }
namespace Rows
def none {H : Type} : Left H := { results := [], args := [] }

/- WHAT THE LISTED PACKAGE-LEVEL VARIABLES READ AS WHEN THE CALL BEGINS. Each datum BY PROGRAM (the guide's laid-datum.mjs) off the statement by which the dump's own 'gosem.cut.vars' lays the variable. In a bare row this is a premise. The card (YtljcdomdjgolkaaGreatDoorCards.lean) ties it to the program's text. -/
def laid_emendate_chart_none {H : Type} : DataW H := .agg [.agg [.lit (.int .i64 1099511627776), .lit (.int .i64 0)], .lit (.int .i64 (-1)), .lit (.int .i64 0)]

/-- 'emendatelaw43.IncrementEqualsScratch': WHATEVER THE INPUT: true; the input reads as it did. -/
def incrementEqualsScratchSpec : ChangeSpec := { name := "incrementEqualsScratch", fn := fun _ => fun
  | [d] => { results := [.lit (.bool true)], args := [d] }
  | _ => none }
def incrementEqualsScratchRow : OpenClaim := { program := "ytljcdomdjgolkaagreatdoor", sum := "e854bd0503f2cbfb1b7f60060a8be40b6a2caffeef6b6cb3a7076e1988fe9f7a", func := "emendate/emendatelaw43.IncrementEqualsScratch", spec := "incrementEqualsScratch", unfollowed := true, recurses := true, named := ["emendate/chart.none"], plainKeys := false, apart := false, laid := [("emendate/chart.none", laid_emendate_chart_none)] }
def IncrementEqualsScratchSaid : Prop := incrementEqualsScratchRow.holds Tryz.pinned (OpenSpec.ofChange incrementEqualsScratchSpec)

/-- ITS FALSE NEIGHBOUR: 'it returns false'. Refute it at one input. -/
def incrementEqualsScratchWrong : ChangeSpec := { name := "incrementEqualsScratch", fn := fun _ => fun
  | [d] => { results := [.lit (.bool false)], args := [d] }
  | _ => none }
def IncrementEqualsScratchWrongFalsely : Prop := incrementEqualsScratchRow.holds Tryz.pinned (OpenSpec.ofChange incrementEqualsScratchWrong)

/-- 'emendatelaw43.IncrementTwice': WHATEVER THE INPUT: true; the input reads as it did. -/
def incrementTwiceSpec : ChangeSpec := { name := "incrementTwice", fn := fun _ => fun
  | [d] => { results := [.lit (.bool true)], args := [d] }
  | _ => none }
def incrementTwiceRow : OpenClaim := { program := "ytljcdomdjgolkaagreatdoor", sum := "e854bd0503f2cbfb1b7f60060a8be40b6a2caffeef6b6cb3a7076e1988fe9f7a", func := "emendate/emendatelaw43.IncrementTwice", spec := "incrementTwice", unfollowed := true, recurses := true, named := ["emendate/chart.none"], plainKeys := false, apart := false, laid := [("emendate/chart.none", laid_emendate_chart_none)] }
def IncrementTwiceSaid : Prop := incrementTwiceRow.holds Tryz.pinned (OpenSpec.ofChange incrementTwiceSpec)

/-- ITS FALSE NEIGHBOUR: 'it returns false'. Refute it at one input. -/
def incrementTwiceWrong : ChangeSpec := { name := "incrementTwice", fn := fun _ => fun
  | [d] => { results := [.lit (.bool false)], args := [d] }
  | _ => none }
def IncrementTwiceWrongFalsely : Prop := incrementTwiceRow.holds Tryz.pinned (OpenSpec.ofChange incrementTwiceWrong)

/-- 'emendatelaw43.IncrementKeeps': WHATEVER THE INPUT: true; the input reads as it did. -/
def incrementKeepsSpec : ChangeSpec := { name := "incrementKeeps", fn := fun _ => fun
  | [d1, d2, d3] => { results := [.lit (.bool true)], args := [d1, d2, d3] }
  | _ => none }
def incrementKeepsRow : OpenClaim := { program := "ytljcdomdjgolkaagreatdoor", sum := "e854bd0503f2cbfb1b7f60060a8be40b6a2caffeef6b6cb3a7076e1988fe9f7a", func := "emendate/emendatelaw43.IncrementKeeps", spec := "incrementKeeps", unfollowed := true, recurses := true, named := ["emendate/chart.none"], plainKeys := false, apart := false, laid := [("emendate/chart.none", laid_emendate_chart_none)] }
def IncrementKeepsSaid : Prop := incrementKeepsRow.holds Tryz.pinned (OpenSpec.ofChange incrementKeepsSpec)

/-- ITS FALSE NEIGHBOUR: 'it returns false'. Refute it at one input. -/
def incrementKeepsWrong : ChangeSpec := { name := "incrementKeeps", fn := fun _ => fun
  | [d1, d2, d3] => { results := [.lit (.bool false)], args := [d1, d2, d3] }
  | _ => none }
def IncrementKeepsWrongFalsely : Prop := incrementKeepsRow.holds Tryz.pinned (OpenSpec.ofChange incrementKeepsWrong)

/-- 'emendatelaw43.IncrementNothing': WHATEVER THE INPUT: true; the input reads as it did. -/
def incrementNothingSpec : ChangeSpec := { name := "incrementNothing", fn := fun _ => fun
  | [d] => { results := [.lit (.bool true)], args := [d] }
  | _ => none }
def incrementNothingRow : OpenClaim := { program := "ytljcdomdjgolkaagreatdoor", sum := "e854bd0503f2cbfb1b7f60060a8be40b6a2caffeef6b6cb3a7076e1988fe9f7a", func := "emendate/emendatelaw43.IncrementNothing", spec := "incrementNothing", unfollowed := true, recurses := true, named := ["emendate/chart.none"], plainKeys := false, apart := false, laid := [("emendate/chart.none", laid_emendate_chart_none)] }
def IncrementNothingSaid : Prop := incrementNothingRow.holds Tryz.pinned (OpenSpec.ofChange incrementNothingSpec)

/-- ITS FALSE NEIGHBOUR: 'it returns false'. Refute it at one input. -/
def incrementNothingWrong : ChangeSpec := { name := "incrementNothing", fn := fun _ => fun
  | [d] => { results := [.lit (.bool false)], args := [d] }
  | _ => none }
def IncrementNothingWrongFalsely : Prop := incrementNothingRow.holds Tryz.pinned (OpenSpec.ofChange incrementNothingWrong)

/-- 'emendatelaw43.IncrementErrors': WHATEVER THE INPUT: true; the input reads as it did. -/
def incrementErrorsSpec : ChangeSpec := { name := "incrementErrors", fn := fun _ => fun
  | [d1, d2, d3] => { results := [.lit (.bool true)], args := [d1, d2, d3] }
  | _ => none }
def incrementErrorsRow : OpenClaim := { program := "ytljcdomdjgolkaagreatdoor", sum := "e854bd0503f2cbfb1b7f60060a8be40b6a2caffeef6b6cb3a7076e1988fe9f7a", func := "emendate/emendatelaw43.IncrementErrors", spec := "incrementErrors", unfollowed := true, recurses := true, named := ["emendate/chart.none"], plainKeys := false, apart := false, laid := [("emendate/chart.none", laid_emendate_chart_none)] }
def IncrementErrorsSaid : Prop := incrementErrorsRow.holds Tryz.pinned (OpenSpec.ofChange incrementErrorsSpec)

/-- ITS FALSE NEIGHBOUR: 'it returns false'. Refute it at one input. -/
def incrementErrorsWrong : ChangeSpec := { name := "incrementErrors", fn := fun _ => fun
  | [d1, d2, d3] => { results := [.lit (.bool false)], args := [d1, d2, d3] }
  | _ => none }
def IncrementErrorsWrongFalsely : Prop := incrementErrorsRow.holds Tryz.pinned (OpenSpec.ofChange incrementErrorsWrong)

/-- 'emendatelaw43.IncrementSaves': WHATEVER THE INPUT: true; the input reads as it did. -/
def incrementSavesSpec : ChangeSpec := { name := "incrementSaves", fn := fun _ => fun
  | [d] => { results := [.lit (.bool true)], args := [d] }
  | _ => none }
def incrementSavesRow : OpenClaim := { program := "ytljcdomdjgolkaagreatdoor", sum := "e854bd0503f2cbfb1b7f60060a8be40b6a2caffeef6b6cb3a7076e1988fe9f7a", func := "emendate/emendatelaw43.IncrementSaves", spec := "incrementSaves", unfollowed := true, recurses := true, named := ["emendate/chart.none"], plainKeys := false, apart := false, laid := [("emendate/chart.none", laid_emendate_chart_none)] }
def IncrementSavesSaid : Prop := incrementSavesRow.holds Tryz.pinned (OpenSpec.ofChange incrementSavesSpec)

/-- ITS FALSE NEIGHBOUR: 'it returns false'. Refute it at one input. -/
def incrementSavesWrong : ChangeSpec := { name := "incrementSaves", fn := fun _ => fun
  | [d] => { results := [.lit (.bool false)], args := [d] }
  | _ => none }
def IncrementSavesWrongFalsely : Prop := incrementSavesRow.holds Tryz.pinned (OpenSpec.ofChange incrementSavesWrong)

/- THE SECOND FORM. 'bulk': how many values and letters a reading holds, each counted each time it is reached (what is shared counts as often as it is met; a slice's spare places count too). A statement '..UptoSaid' is the law's where the arguments, and the package variables that the reading takes, are together of bulk at most 1048576: NARROWER than '..Said'. Prove '..Said' where nothing that the law and all that it calls make is longer than what came in: it says more and counts as full. Else prove '..UptoSaid'. A law counts once. -/
mutual
def uptoBulk {H : Type} : DataW H → Nat
  | .lit (.string bytes) => bytes.length + 1
  | .lit _ => 1
  | .nil => 1
  | .ptr d => uptoBulk d + 1
  | .slice elems spare => uptoBulkAll elems + uptoBulkAll spare + 1
  | .agg parts => uptoBulkAll parts + 1
  | .iface _ d => uptoBulk d + 1
  | .map entries => uptoBulkEntries entries + 1
  | .held _ => 1
def uptoBulkAll {H : Type} : List (DataW H) → Nat
  | [] => 0
  | d :: r => uptoBulk d + uptoBulkAll r
def uptoBulkEntries {H : Type} : List (Lit × DataW H) → Nat
  | [] => 0
  | x :: r => uptoBulkEntry x + uptoBulkEntries r
def uptoBulkEntry {H : Type} : Lit × DataW H → Nat
  | (.string bytes, d) => bytes.length + uptoBulk d + 1
  | (_, d) => uptoBulk d + 1
 end
def uptoSmall : (H : Type) → List (DataW H) → Bool := fun _ ds => decide (uptoBulkAll ds ≤ 1048576)
def OpenSpec.upto (s : _root_.Go.ChangeSpec) : _root_.Go.OpenSpec := { _root_.Go.OpenSpec.ofChange s with cond := some uptoSmall }

/-- 'emendatelaw43.IncrementEqualsScratch', WHERE WHAT IT READS IS OF BULK AT MOST 1048576: true; the input reads as it did. -/
def incrementEqualsScratchUptoRow : OpenClaim := { program := "ytljcdomdjgolkaagreatdoor", sum := "e854bd0503f2cbfb1b7f60060a8be40b6a2caffeef6b6cb3a7076e1988fe9f7a", func := "emendate/emendatelaw43.IncrementEqualsScratch", spec := "incrementEqualsScratch", unfollowed := true, recurses := true, named := ["emendate/chart.none"], plainKeys := false, apart := false, laid := [("emendate/chart.none", laid_emendate_chart_none)], narrowed := true }
def IncrementEqualsScratchUptoSaid : Prop := incrementEqualsScratchUptoRow.holds Tryz.pinned (OpenSpec.upto incrementEqualsScratchSpec)

/-- 'emendatelaw43.IncrementTwice', WHERE WHAT IT READS IS OF BULK AT MOST 1048576: true; the input reads as it did. -/
def incrementTwiceUptoRow : OpenClaim := { program := "ytljcdomdjgolkaagreatdoor", sum := "e854bd0503f2cbfb1b7f60060a8be40b6a2caffeef6b6cb3a7076e1988fe9f7a", func := "emendate/emendatelaw43.IncrementTwice", spec := "incrementTwice", unfollowed := true, recurses := true, named := ["emendate/chart.none"], plainKeys := false, apart := false, laid := [("emendate/chart.none", laid_emendate_chart_none)], narrowed := true }
def IncrementTwiceUptoSaid : Prop := incrementTwiceUptoRow.holds Tryz.pinned (OpenSpec.upto incrementTwiceSpec)

/-- 'emendatelaw43.IncrementKeeps', WHERE WHAT IT READS IS OF BULK AT MOST 1048576: true; the input reads as it did. -/
def incrementKeepsUptoRow : OpenClaim := { program := "ytljcdomdjgolkaagreatdoor", sum := "e854bd0503f2cbfb1b7f60060a8be40b6a2caffeef6b6cb3a7076e1988fe9f7a", func := "emendate/emendatelaw43.IncrementKeeps", spec := "incrementKeeps", unfollowed := true, recurses := true, named := ["emendate/chart.none"], plainKeys := false, apart := false, laid := [("emendate/chart.none", laid_emendate_chart_none)], narrowed := true }
def IncrementKeepsUptoSaid : Prop := incrementKeepsUptoRow.holds Tryz.pinned (OpenSpec.upto incrementKeepsSpec)

/-- 'emendatelaw43.IncrementNothing', WHERE WHAT IT READS IS OF BULK AT MOST 1048576: true; the input reads as it did. -/
def incrementNothingUptoRow : OpenClaim := { program := "ytljcdomdjgolkaagreatdoor", sum := "e854bd0503f2cbfb1b7f60060a8be40b6a2caffeef6b6cb3a7076e1988fe9f7a", func := "emendate/emendatelaw43.IncrementNothing", spec := "incrementNothing", unfollowed := true, recurses := true, named := ["emendate/chart.none"], plainKeys := false, apart := false, laid := [("emendate/chart.none", laid_emendate_chart_none)], narrowed := true }
def IncrementNothingUptoSaid : Prop := incrementNothingUptoRow.holds Tryz.pinned (OpenSpec.upto incrementNothingSpec)

/-- 'emendatelaw43.IncrementErrors', WHERE WHAT IT READS IS OF BULK AT MOST 1048576: true; the input reads as it did. -/
def incrementErrorsUptoRow : OpenClaim := { program := "ytljcdomdjgolkaagreatdoor", sum := "e854bd0503f2cbfb1b7f60060a8be40b6a2caffeef6b6cb3a7076e1988fe9f7a", func := "emendate/emendatelaw43.IncrementErrors", spec := "incrementErrors", unfollowed := true, recurses := true, named := ["emendate/chart.none"], plainKeys := false, apart := false, laid := [("emendate/chart.none", laid_emendate_chart_none)], narrowed := true }
def IncrementErrorsUptoSaid : Prop := incrementErrorsUptoRow.holds Tryz.pinned (OpenSpec.upto incrementErrorsSpec)

/-- 'emendatelaw43.IncrementSaves', WHERE WHAT IT READS IS OF BULK AT MOST 1048576: true; the input reads as it did. -/
def incrementSavesUptoRow : OpenClaim := { program := "ytljcdomdjgolkaagreatdoor", sum := "e854bd0503f2cbfb1b7f60060a8be40b6a2caffeef6b6cb3a7076e1988fe9f7a", func := "emendate/emendatelaw43.IncrementSaves", spec := "incrementSaves", unfollowed := true, recurses := true, named := ["emendate/chart.none"], plainKeys := false, apart := false, laid := [("emendate/chart.none", laid_emendate_chart_none)], narrowed := true }
def IncrementSavesUptoSaid : Prop := incrementSavesUptoRow.holds Tryz.pinned (OpenSpec.upto incrementSavesSpec)

end Rows
end Go.Proofs.YtljcdomdjgolkaaGreatDoor
