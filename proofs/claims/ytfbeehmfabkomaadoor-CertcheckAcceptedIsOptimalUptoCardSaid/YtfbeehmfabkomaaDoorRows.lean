/-
  NARROWER THAN 'FOR EVERY INPUT', by the rows' own cells (each row's printed sentence says how): CertcheckLowerMatchesReference: loops, laid · CertcheckLowerIsSound: loops, laid · CertcheckAcceptedIsOptimal: loops, laid · CertcheckTrueCosts: laid · CertcheckSmallerBound: loops, laid.
  DERIVED. THE GIVEN ROWS OF THIS SEAT. 5 by the template 'for every input the law returns true; each argument reads behind the call as it read before'; 0 by the template 'total and deterministic' (their statements: YtfbeehmfabkomaaDoorTotals.lean).
  GIVEN WITH THE SEED: the statements are not yours to turn. If you find one false, say at which input.
  Laid BY PROGRAM, IN A SANDBOX (cutbox-rows.mjs): the forced cells as the released guide's own fill.sh prints them over the translation c24c2a108353c8a3… (all of the seat's roots in one cut). By AI agents, Wed Nov 11 2026. No macro, syntax, notation, axiom, sorry.
-/
import Derived.Test.YtfbeehmfabkomaaDoorChecked
import GoSem.Claim
import GoSem.ClaimJoined
import GoSem.ClaimMapViews
import Derived.JoinedTies
import Derived.KernelRfl
namespace Go.Proofs.YtfbeehmfabkomaaDoor
/- THE CELL 'sum', in the pinned program and in every row, IS THE sha256 OF THE DUMP (.gsa) THAT YtfbeehmfabkomaaDoorProg.lean LOADS. Nothing in Lean hashes anything: it is a label: what it is worth is what the hold of that sum in a sandbox is worth. -/
noncomputable def Tryd.pinned : Pinned := { name := "ytfbeehmfabkomaadoor", sum := "c24c2a108353c8a34206f410de2212fd69b7902155192a73938248bc65fdab16", checked := Tryd.checked }
namespace Rows
def none {H : Type} : Left H := { results := [], args := [] }

/- WHAT THE LISTED PACKAGE-LEVEL VARIABLES READ AS WHEN THE CALL BEGINS. Each datum BY PROGRAM (the guide's laid-datum.mjs) off the statement by which the dump's own 'gosem.cut.vars' lays the variable. In a bare row this is a premise. The card (YtfbeehmfabkomaaDoorCards.lean) ties it to the program's text. -/
def laid_emendate_editscript_actions {H : Type} : DataW H := .iface "func table" (.agg [.nil, .iface "func" (.lit (.string [40, 42, 101, 109, 101, 110, 100, 97, 116, 101, 47, 101, 100, 105, 116, 115, 99, 114, 105, 112, 116, 46, 115, 116, 97, 116, 101, 41, 46, 114, 101, 97, 100])), .iface "func" (.lit (.string [40, 42, 101, 109, 101, 110, 100, 97, 116, 101, 47, 101, 100, 105, 116, 115, 99, 114, 105, 112, 116, 46, 115, 116, 97, 116, 101, 41, 46, 114, 101, 109, 111, 118, 101])), .iface "func" (.lit (.string [40, 42, 101, 109, 101, 110, 100, 97, 116, 101, 47, 101, 100, 105, 116, 115, 99, 114, 105, 112, 116, 46, 115, 116, 97, 116, 101, 41, 46, 105, 110, 115, 101, 114, 116])), .iface "func" (.lit (.string [40, 42, 101, 109, 101, 110, 100, 97, 116, 101, 47, 101, 100, 105, 116, 115, 99, 114, 105, 112, 116, 46, 115, 116, 97, 116, 101, 41, 46, 115, 119, 97, 112]))])

/-- 'emendatelaw45.CertcheckLowerMatchesReference': WHATEVER THE INPUT: true; the input reads as it did. -/
def certcheckLowerMatchesReferenceSpec : ChangeSpec := { name := "certcheckLowerMatchesReference", fn := fun _ => fun
  | [d] => { results := [.lit (.bool true)], args := [d] }
  | _ => none }
def certcheckLowerMatchesReferenceRow : OpenClaim := { program := "ytfbeehmfabkomaadoor", sum := "c24c2a108353c8a34206f410de2212fd69b7902155192a73938248bc65fdab16", func := "emendate/emendatelaw45.CertcheckLowerMatchesReference", spec := "certcheckLowerMatchesReference", unfollowed := true, recurses := true, named := ["emendate/editscript.actions"], loops := true, plainKeys := false, apart := false, laid := [("emendate/editscript.actions", laid_emendate_editscript_actions)] }
def CertcheckLowerMatchesReferenceSaid : Prop := certcheckLowerMatchesReferenceRow.holds Tryd.pinned (OpenSpec.ofChange certcheckLowerMatchesReferenceSpec)

/-- ITS FALSE NEIGHBOUR: 'it returns false'. Refute it at one input. -/
def certcheckLowerMatchesReferenceWrong : ChangeSpec := { name := "certcheckLowerMatchesReference", fn := fun _ => fun
  | [d] => { results := [.lit (.bool false)], args := [d] }
  | _ => none }
def CertcheckLowerMatchesReferenceWrongFalsely : Prop := certcheckLowerMatchesReferenceRow.holds Tryd.pinned (OpenSpec.ofChange certcheckLowerMatchesReferenceWrong)

/-- 'emendatelaw45.CertcheckLowerIsSound': WHATEVER THE INPUT: true; the input reads as it did. -/
def certcheckLowerIsSoundSpec : ChangeSpec := { name := "certcheckLowerIsSound", fn := fun _ => fun
  | [d] => { results := [.lit (.bool true)], args := [d] }
  | _ => none }
def certcheckLowerIsSoundRow : OpenClaim := { program := "ytfbeehmfabkomaadoor", sum := "c24c2a108353c8a34206f410de2212fd69b7902155192a73938248bc65fdab16", func := "emendate/emendatelaw45.CertcheckLowerIsSound", spec := "certcheckLowerIsSound", unfollowed := true, recurses := true, named := ["emendate/editscript.actions"], loops := true, plainKeys := false, apart := false, laid := [("emendate/editscript.actions", laid_emendate_editscript_actions)] }
def CertcheckLowerIsSoundSaid : Prop := certcheckLowerIsSoundRow.holds Tryd.pinned (OpenSpec.ofChange certcheckLowerIsSoundSpec)

/-- ITS FALSE NEIGHBOUR: 'it returns false'. Refute it at one input. -/
def certcheckLowerIsSoundWrong : ChangeSpec := { name := "certcheckLowerIsSound", fn := fun _ => fun
  | [d] => { results := [.lit (.bool false)], args := [d] }
  | _ => none }
def CertcheckLowerIsSoundWrongFalsely : Prop := certcheckLowerIsSoundRow.holds Tryd.pinned (OpenSpec.ofChange certcheckLowerIsSoundWrong)

/-- 'emendatelaw45.CertcheckAcceptedIsOptimal': WHATEVER THE INPUT: true; the input reads as it did. -/
def certcheckAcceptedIsOptimalSpec : ChangeSpec := { name := "certcheckAcceptedIsOptimal", fn := fun _ => fun
  | [d] => { results := [.lit (.bool true)], args := [d] }
  | _ => none }
def certcheckAcceptedIsOptimalRow : OpenClaim := { program := "ytfbeehmfabkomaadoor", sum := "c24c2a108353c8a34206f410de2212fd69b7902155192a73938248bc65fdab16", func := "emendate/emendatelaw45.CertcheckAcceptedIsOptimal", spec := "certcheckAcceptedIsOptimal", unfollowed := true, recurses := true, named := ["emendate/editscript.actions"], loops := true, plainKeys := false, apart := false, laid := [("emendate/editscript.actions", laid_emendate_editscript_actions)] }
def CertcheckAcceptedIsOptimalSaid : Prop := certcheckAcceptedIsOptimalRow.holds Tryd.pinned (OpenSpec.ofChange certcheckAcceptedIsOptimalSpec)

/-- ITS FALSE NEIGHBOUR: 'it returns false'. Refute it at one input. -/
def certcheckAcceptedIsOptimalWrong : ChangeSpec := { name := "certcheckAcceptedIsOptimal", fn := fun _ => fun
  | [d] => { results := [.lit (.bool false)], args := [d] }
  | _ => none }
def CertcheckAcceptedIsOptimalWrongFalsely : Prop := certcheckAcceptedIsOptimalRow.holds Tryd.pinned (OpenSpec.ofChange certcheckAcceptedIsOptimalWrong)

/-- 'emendatelaw45.CertcheckTrueCosts': WHATEVER THE INPUT: true; the input reads as it did. -/
def certcheckTrueCostsSpec : ChangeSpec := { name := "certcheckTrueCosts", fn := fun _ => fun
  | [d1, d2, d3] => { results := [.lit (.bool true)], args := [d1, d2, d3] }
  | _ => none }
def certcheckTrueCostsRow : OpenClaim := { program := "ytfbeehmfabkomaadoor", sum := "c24c2a108353c8a34206f410de2212fd69b7902155192a73938248bc65fdab16", func := "emendate/emendatelaw45.CertcheckTrueCosts", spec := "certcheckTrueCosts", unfollowed := true, recurses := true, named := ["emendate/editscript.actions"], plainKeys := false, apart := false, laid := [("emendate/editscript.actions", laid_emendate_editscript_actions)] }
def CertcheckTrueCostsSaid : Prop := certcheckTrueCostsRow.holds Tryd.pinned (OpenSpec.ofChange certcheckTrueCostsSpec)

/-- ITS FALSE NEIGHBOUR: 'it returns false'. Refute it at one input. -/
def certcheckTrueCostsWrong : ChangeSpec := { name := "certcheckTrueCosts", fn := fun _ => fun
  | [d1, d2, d3] => { results := [.lit (.bool false)], args := [d1, d2, d3] }
  | _ => none }
def CertcheckTrueCostsWrongFalsely : Prop := certcheckTrueCostsRow.holds Tryd.pinned (OpenSpec.ofChange certcheckTrueCostsWrong)

/-- 'emendatelaw45.CertcheckSmallerBound': WHATEVER THE INPUT: true; the input reads as it did. -/
def certcheckSmallerBoundSpec : ChangeSpec := { name := "certcheckSmallerBound", fn := fun _ => fun
  | [d1, d2] => { results := [.lit (.bool true)], args := [d1, d2] }
  | _ => none }
def certcheckSmallerBoundRow : OpenClaim := { program := "ytfbeehmfabkomaadoor", sum := "c24c2a108353c8a34206f410de2212fd69b7902155192a73938248bc65fdab16", func := "emendate/emendatelaw45.CertcheckSmallerBound", spec := "certcheckSmallerBound", unfollowed := true, recurses := true, named := ["emendate/editscript.actions"], loops := true, plainKeys := false, apart := false, laid := [("emendate/editscript.actions", laid_emendate_editscript_actions)] }
def CertcheckSmallerBoundSaid : Prop := certcheckSmallerBoundRow.holds Tryd.pinned (OpenSpec.ofChange certcheckSmallerBoundSpec)

/-- ITS FALSE NEIGHBOUR: 'it returns false'. Refute it at one input. -/
def certcheckSmallerBoundWrong : ChangeSpec := { name := "certcheckSmallerBound", fn := fun _ => fun
  | [d1, d2] => { results := [.lit (.bool false)], args := [d1, d2] }
  | _ => none }
def CertcheckSmallerBoundWrongFalsely : Prop := certcheckSmallerBoundRow.holds Tryd.pinned (OpenSpec.ofChange certcheckSmallerBoundWrong)

/- THE SECOND FORM. 'bulk': how many values and letters a reading holds, each counted each time it is reached (what is shared counts as often as it is met; a slice's spare places count too). A statement '..UptoSaid' is the law's where the arguments, and the package variables that the reading takes, are together of bulk at most 1048576: NARROWER than '..Said'. Prove '..Said' where nothing that the law and all that it calls make is longer than what came in: it says more and counts as full. Else prove '..UptoSaid'. A law counts once. -/
mutual
def uptoBulk {H : Type} : DataW H → Nat
  | .lit (.string bytes) => bytes.length + 1
  | .lit _ => 1
  | .nil => 1
  | .ptr d => uptoBulk d + 1
  | .slice elems spare => uptoBulkAll elems + uptoBulkAll spare + 1
  | .agg parts => uptoBulkAll parts + 1
  | .iface _ d => uptoBulk d + 1
  | .map entries => uptoBulkEntries entries + 1
  | .held _ => 1
def uptoBulkAll {H : Type} : List (DataW H) → Nat
  | [] => 0
  | d :: r => uptoBulk d + uptoBulkAll r
def uptoBulkEntries {H : Type} : List (Lit × DataW H) → Nat
  | [] => 0
  | x :: r => uptoBulkEntry x + uptoBulkEntries r
def uptoBulkEntry {H : Type} : Lit × DataW H → Nat
  | (.string bytes, d) => bytes.length + uptoBulk d + 1
  | (_, d) => uptoBulk d + 1
 end
def uptoSmall : (H : Type) → List (DataW H) → Bool := fun _ ds => decide (uptoBulkAll ds ≤ 1048576)
def OpenSpec.upto (s : _root_.Go.ChangeSpec) : _root_.Go.OpenSpec := { _root_.Go.OpenSpec.ofChange s with cond := some uptoSmall }

/-- 'emendatelaw45.CertcheckLowerMatchesReference', WHERE WHAT IT READS IS OF BULK AT MOST 1048576: true; the input reads as it did. -/
def certcheckLowerMatchesReferenceUptoRow : OpenClaim := { program := "ytfbeehmfabkomaadoor", sum := "c24c2a108353c8a34206f410de2212fd69b7902155192a73938248bc65fdab16", func := "emendate/emendatelaw45.CertcheckLowerMatchesReference", spec := "certcheckLowerMatchesReference", unfollowed := true, recurses := true, named := ["emendate/editscript.actions"], loops := true, plainKeys := false, apart := false, laid := [("emendate/editscript.actions", laid_emendate_editscript_actions)], narrowed := true }
def CertcheckLowerMatchesReferenceUptoSaid : Prop := certcheckLowerMatchesReferenceUptoRow.holds Tryd.pinned (OpenSpec.upto certcheckLowerMatchesReferenceSpec)

/-- 'emendatelaw45.CertcheckLowerIsSound', WHERE WHAT IT READS IS OF BULK AT MOST 1048576: true; the input reads as it did. -/
def certcheckLowerIsSoundUptoRow : OpenClaim := { program := "ytfbeehmfabkomaadoor", sum := "c24c2a108353c8a34206f410de2212fd69b7902155192a73938248bc65fdab16", func := "emendate/emendatelaw45.CertcheckLowerIsSound", spec := "certcheckLowerIsSound", unfollowed := true, recurses := true, named := ["emendate/editscript.actions"], loops := true, plainKeys := false, apart := false, laid := [("emendate/editscript.actions", laid_emendate_editscript_actions)], narrowed := true }
def CertcheckLowerIsSoundUptoSaid : Prop := certcheckLowerIsSoundUptoRow.holds Tryd.pinned (OpenSpec.upto certcheckLowerIsSoundSpec)

/-- 'emendatelaw45.CertcheckAcceptedIsOptimal', WHERE WHAT IT READS IS OF BULK AT MOST 1048576: true; the input reads as it did. -/
def certcheckAcceptedIsOptimalUptoRow : OpenClaim := { program := "ytfbeehmfabkomaadoor", sum := "c24c2a108353c8a34206f410de2212fd69b7902155192a73938248bc65fdab16", func := "emendate/emendatelaw45.CertcheckAcceptedIsOptimal", spec := "certcheckAcceptedIsOptimal", unfollowed := true, recurses := true, named := ["emendate/editscript.actions"], loops := true, plainKeys := false, apart := false, laid := [("emendate/editscript.actions", laid_emendate_editscript_actions)], narrowed := true }
def CertcheckAcceptedIsOptimalUptoSaid : Prop := certcheckAcceptedIsOptimalUptoRow.holds Tryd.pinned (OpenSpec.upto certcheckAcceptedIsOptimalSpec)

/-- 'emendatelaw45.CertcheckTrueCosts', WHERE WHAT IT READS IS OF BULK AT MOST 1048576: true; the input reads as it did. -/
def certcheckTrueCostsUptoRow : OpenClaim := { program := "ytfbeehmfabkomaadoor", sum := "c24c2a108353c8a34206f410de2212fd69b7902155192a73938248bc65fdab16", func := "emendate/emendatelaw45.CertcheckTrueCosts", spec := "certcheckTrueCosts", unfollowed := true, recurses := true, named := ["emendate/editscript.actions"], plainKeys := false, apart := false, laid := [("emendate/editscript.actions", laid_emendate_editscript_actions)], narrowed := true }
def CertcheckTrueCostsUptoSaid : Prop := certcheckTrueCostsUptoRow.holds Tryd.pinned (OpenSpec.upto certcheckTrueCostsSpec)

/-- 'emendatelaw45.CertcheckSmallerBound', WHERE WHAT IT READS IS OF BULK AT MOST 1048576: true; the input reads as it did. -/
def certcheckSmallerBoundUptoRow : OpenClaim := { program := "ytfbeehmfabkomaadoor", sum := "c24c2a108353c8a34206f410de2212fd69b7902155192a73938248bc65fdab16", func := "emendate/emendatelaw45.CertcheckSmallerBound", spec := "certcheckSmallerBound", unfollowed := true, recurses := true, named := ["emendate/editscript.actions"], loops := true, plainKeys := false, apart := false, laid := [("emendate/editscript.actions", laid_emendate_editscript_actions)], narrowed := true }
def CertcheckSmallerBoundUptoSaid : Prop := certcheckSmallerBoundUptoRow.holds Tryd.pinned (OpenSpec.upto certcheckSmallerBoundSpec)

end Rows
end Go.Proofs.YtfbeehmfabkomaaDoor
