/-
  NARROWER THAN 'FOR EVERY INPUT', by the rows' own cells (each row's printed sentence says how): RepairMatchesReference: laid · RepairIsValid: laid · RepairOfSentence: loops, laid · RepairIsStable: laid · RepairOfDerivations: laid · CertcheckAcceptsCertificates: laid.
  DERIVED. THE GIVEN ROWS OF THIS SEAT. 6 by the template 'for every input the law returns true; each argument reads behind the call as it read before'; 0 by the template 'total and deterministic' (their statements: YtbmaafemenldnaaGreatDoorTotals.lean).
  GIVEN WITH THE SEED: the statements are not yours to turn. If you find one false, say at which input.
  Laid BY PROGRAM, IN A SANDBOX (cutbox-rows.mjs): the forced cells as the released guide's own fill.sh prints them over the translation 39da7ba1d42842ca… (all of the seat's roots in one cut). By AI agents, Wed Nov 11 2026. No macro, syntax, notation, axiom, sorry.
-/
import Derived.Test.YtbmaafemenldnaaGreatDoorChecked
import GoSem.Claim
import GoSem.ClaimJoined
import GoSem.ClaimMapViews
import Derived.JoinedTies
import Derived.KernelRfl
namespace Go.Proofs.YtbmaafemenldnaaGreatDoor
/- THE CELL 'sum', in the pinned program and in every row, IS THE sha256 OF THE DUMP (.gsa) THAT YtbmaafemenldnaaGreatDoorProg.lean LOADS. Nothing in Lean hashes anything: it is a label: what it is worth is what the hold of that sum in a sandbox is worth. -/
noncomputable def Tryz.pinned : Pinned := { name := "ytbmaafemenldnaagreatdoor", sum := "39da7ba1d42842ca2b5dc7285f4ef489df63cb4dee7ba1b02efbecd875968af0", checked := Tryz.checked }
namespace Rows
def none {H : Type} : Left H := { results := [], args := [] }

/- WHAT THE LISTED PACKAGE-LEVEL VARIABLES READ AS WHEN THE CALL BEGINS. Each datum BY PROGRAM (the guide's laid-datum.mjs) off the statement by which the dump's own 'gosem.cut.vars' lays the variable. In a bare row this is a premise. The card (YtbmaafemenldnaaGreatDoorCards.lean) ties it to the program's text. -/
def laid_emendate_editscript_actions {H : Type} : DataW H := .iface "func table" (.agg [.nil, .iface "func" (.lit (.string [40, 42, 101, 109, 101, 110, 100, 97, 116, 101, 47, 101, 100, 105, 116, 115, 99, 114, 105, 112, 116, 46, 115, 116, 97, 116, 101, 41, 46, 114, 101, 97, 100])), .iface "func" (.lit (.string [40, 42, 101, 109, 101, 110, 100, 97, 116, 101, 47, 101, 100, 105, 116, 115, 99, 114, 105, 112, 116, 46, 115, 116, 97, 116, 101, 41, 46, 114, 101, 109, 111, 118, 101])), .iface "func" (.lit (.string [40, 42, 101, 109, 101, 110, 100, 97, 116, 101, 47, 101, 100, 105, 116, 115, 99, 114, 105, 112, 116, 46, 115, 116, 97, 116, 101, 41, 46, 105, 110, 115, 101, 114, 116])), .iface "func" (.lit (.string [40, 42, 101, 109, 101, 110, 100, 97, 116, 101, 47, 101, 100, 105, 116, 115, 99, 114, 105, 112, 116, 46, 115, 116, 97, 116, 101, 41, 46, 115, 119, 97, 112]))])
def laid_emendate_chart_none {H : Type} : DataW H := .agg [.agg [.lit (.int .i64 1099511627776), .lit (.int .i64 0)], .lit (.int .i64 (-1)), .lit (.int .i64 0)]
def laid_math_bits_deBruijn32tab {H : Type} : DataW H := .agg [.lit (.int .u8 0), .lit (.int .u8 1), .lit (.int .u8 28), .lit (.int .u8 2), .lit (.int .u8 29), .lit (.int .u8 14), .lit (.int .u8 24), .lit (.int .u8 3), .lit (.int .u8 30), .lit (.int .u8 22), .lit (.int .u8 20), .lit (.int .u8 15), .lit (.int .u8 25), .lit (.int .u8 17), .lit (.int .u8 4), .lit (.int .u8 8), .lit (.int .u8 31), .lit (.int .u8 27), .lit (.int .u8 13), .lit (.int .u8 23), .lit (.int .u8 21), .lit (.int .u8 19), .lit (.int .u8 16), .lit (.int .u8 7), .lit (.int .u8 26), .lit (.int .u8 12), .lit (.int .u8 18), .lit (.int .u8 6), .lit (.int .u8 11), .lit (.int .u8 5), .lit (.int .u8 10), .lit (.int .u8 9)]
def laid_math_bits_deBruijn64tab {H : Type} : DataW H := .agg [.lit (.int .u8 0), .lit (.int .u8 1), .lit (.int .u8 56), .lit (.int .u8 2), .lit (.int .u8 57), .lit (.int .u8 49), .lit (.int .u8 28), .lit (.int .u8 3), .lit (.int .u8 61), .lit (.int .u8 58), .lit (.int .u8 42), .lit (.int .u8 50), .lit (.int .u8 38), .lit (.int .u8 29), .lit (.int .u8 17), .lit (.int .u8 4), .lit (.int .u8 62), .lit (.int .u8 47), .lit (.int .u8 59), .lit (.int .u8 36), .lit (.int .u8 45), .lit (.int .u8 43), .lit (.int .u8 51), .lit (.int .u8 22), .lit (.int .u8 53), .lit (.int .u8 39), .lit (.int .u8 33), .lit (.int .u8 30), .lit (.int .u8 24), .lit (.int .u8 18), .lit (.int .u8 12), .lit (.int .u8 5), .lit (.int .u8 63), .lit (.int .u8 55), .lit (.int .u8 48), .lit (.int .u8 27), .lit (.int .u8 60), .lit (.int .u8 41), .lit (.int .u8 37), .lit (.int .u8 16), .lit (.int .u8 46), .lit (.int .u8 35), .lit (.int .u8 44), .lit (.int .u8 21), .lit (.int .u8 52), .lit (.int .u8 32), .lit (.int .u8 23), .lit (.int .u8 11), .lit (.int .u8 54), .lit (.int .u8 26), .lit (.int .u8 40), .lit (.int .u8 15), .lit (.int .u8 34), .lit (.int .u8 20), .lit (.int .u8 31), .lit (.int .u8 10), .lit (.int .u8 25), .lit (.int .u8 14), .lit (.int .u8 19), .lit (.int .u8 9), .lit (.int .u8 13), .lit (.int .u8 8), .lit (.int .u8 7), .lit (.int .u8 6)]
def laid_internal_strconv_uint64pow10 {H : Type} : DataW H := .agg [.lit (.int .u64 1), .lit (.int .u64 10), .lit (.int .u64 100), .lit (.int .u64 1000), .lit (.int .u64 10000), .lit (.int .u64 100000), .lit (.int .u64 1000000), .lit (.int .u64 10000000), .lit (.int .u64 100000000), .lit (.int .u64 1000000000), .lit (.int .u64 10000000000), .lit (.int .u64 100000000000), .lit (.int .u64 1000000000000), .lit (.int .u64 10000000000000), .lit (.int .u64 100000000000000), .lit (.int .u64 1000000000000000), .lit (.int .u64 10000000000000000), .lit (.int .u64 100000000000000000), .lit (.int .u64 1000000000000000000), .lit (.int .u64 10000000000000000000)]

/-- 'emendatelaw41.RepairMatchesReference': WHATEVER THE INPUT: true; the input reads as it did. -/
def repairMatchesReferenceSpec : ChangeSpec := { name := "repairMatchesReference", fn := fun _ => fun
  | [d1, d2] => { results := [.lit (.bool true)], args := [d1, d2] }
  | _ => none }
def repairMatchesReferenceRow : OpenClaim := { program := "ytbmaafemenldnaagreatdoor", sum := "39da7ba1d42842ca2b5dc7285f4ef489df63cb4dee7ba1b02efbecd875968af0", func := "emendate/emendatelaw41.RepairMatchesReference", spec := "repairMatchesReference", unfollowed := true, recurses := true, named := ["emendate/chart.none", "emendate/editscript.actions"], plainKeys := false, apart := false, laid := [("emendate/editscript.actions", laid_emendate_editscript_actions), ("emendate/chart.none", laid_emendate_chart_none)] }
def RepairMatchesReferenceSaid : Prop := repairMatchesReferenceRow.holds Tryz.pinned (OpenSpec.ofChange repairMatchesReferenceSpec)

/-- ITS FALSE NEIGHBOUR: 'it returns false'. Refute it at one input. -/
def repairMatchesReferenceWrong : ChangeSpec := { name := "repairMatchesReference", fn := fun _ => fun
  | [d1, d2] => { results := [.lit (.bool false)], args := [d1, d2] }
  | _ => none }
def RepairMatchesReferenceWrongFalsely : Prop := repairMatchesReferenceRow.holds Tryz.pinned (OpenSpec.ofChange repairMatchesReferenceWrong)

/-- 'emendatelaw41.RepairIsValid': WHATEVER THE INPUT: true; the input reads as it did. -/
def repairIsValidSpec : ChangeSpec := { name := "repairIsValid", fn := fun _ => fun
  | [d1, d2] => { results := [.lit (.bool true)], args := [d1, d2] }
  | _ => none }
def repairIsValidRow : OpenClaim := { program := "ytbmaafemenldnaagreatdoor", sum := "39da7ba1d42842ca2b5dc7285f4ef489df63cb4dee7ba1b02efbecd875968af0", func := "emendate/emendatelaw41.RepairIsValid", spec := "repairIsValid", unfollowed := true, recurses := true, named := ["emendate/chart.none", "emendate/editscript.actions"], plainKeys := false, apart := false, laid := [("emendate/editscript.actions", laid_emendate_editscript_actions), ("emendate/chart.none", laid_emendate_chart_none)] }
def RepairIsValidSaid : Prop := repairIsValidRow.holds Tryz.pinned (OpenSpec.ofChange repairIsValidSpec)

/-- ITS FALSE NEIGHBOUR: 'it returns false'. Refute it at one input. -/
def repairIsValidWrong : ChangeSpec := { name := "repairIsValid", fn := fun _ => fun
  | [d1, d2] => { results := [.lit (.bool false)], args := [d1, d2] }
  | _ => none }
def RepairIsValidWrongFalsely : Prop := repairIsValidRow.holds Tryz.pinned (OpenSpec.ofChange repairIsValidWrong)

/-- 'emendatelaw41.RepairOfSentence': WHATEVER THE INPUT: true; the input reads as it did. -/
def repairOfSentenceSpec : ChangeSpec := { name := "repairOfSentence", fn := fun _ => fun
  | [d1, d2, d3] => { results := [.lit (.bool true)], args := [d1, d2, d3] }
  | _ => none }
def repairOfSentenceRow : OpenClaim := { program := "ytbmaafemenldnaagreatdoor", sum := "39da7ba1d42842ca2b5dc7285f4ef489df63cb4dee7ba1b02efbecd875968af0", func := "emendate/emendatelaw41.RepairOfSentence", spec := "repairOfSentence", unfollowed := true, recurses := true, named := ["emendate/chart.none", "emendate/editscript.actions"], loops := true, plainKeys := false, apart := false, laid := [("emendate/editscript.actions", laid_emendate_editscript_actions), ("emendate/chart.none", laid_emendate_chart_none)] }
def RepairOfSentenceSaid : Prop := repairOfSentenceRow.holds Tryz.pinned (OpenSpec.ofChange repairOfSentenceSpec)

/-- ITS FALSE NEIGHBOUR: 'it returns false'. Refute it at one input. -/
def repairOfSentenceWrong : ChangeSpec := { name := "repairOfSentence", fn := fun _ => fun
  | [d1, d2, d3] => { results := [.lit (.bool false)], args := [d1, d2, d3] }
  | _ => none }
def RepairOfSentenceWrongFalsely : Prop := repairOfSentenceRow.holds Tryz.pinned (OpenSpec.ofChange repairOfSentenceWrong)

/-- 'emendatelaw41.RepairIsStable': WHATEVER THE INPUT: true; the input reads as it did. -/
def repairIsStableSpec : ChangeSpec := { name := "repairIsStable", fn := fun _ => fun
  | [d1, d2] => { results := [.lit (.bool true)], args := [d1, d2] }
  | _ => none }
def repairIsStableRow : OpenClaim := { program := "ytbmaafemenldnaagreatdoor", sum := "39da7ba1d42842ca2b5dc7285f4ef489df63cb4dee7ba1b02efbecd875968af0", func := "emendate/emendatelaw41.RepairIsStable", spec := "repairIsStable", unfollowed := true, recurses := true, named := ["emendate/chart.none", "emendate/editscript.actions"], plainKeys := false, apart := false, laid := [("emendate/editscript.actions", laid_emendate_editscript_actions), ("emendate/chart.none", laid_emendate_chart_none)] }
def RepairIsStableSaid : Prop := repairIsStableRow.holds Tryz.pinned (OpenSpec.ofChange repairIsStableSpec)

/-- ITS FALSE NEIGHBOUR: 'it returns false'. Refute it at one input. -/
def repairIsStableWrong : ChangeSpec := { name := "repairIsStable", fn := fun _ => fun
  | [d1, d2] => { results := [.lit (.bool false)], args := [d1, d2] }
  | _ => none }
def RepairIsStableWrongFalsely : Prop := repairIsStableRow.holds Tryz.pinned (OpenSpec.ofChange repairIsStableWrong)

/-- 'emendatelaw41.RepairOfDerivations': WHATEVER THE INPUT: true; the input reads as it did. -/
def repairOfDerivationsSpec : ChangeSpec := { name := "repairOfDerivations", fn := fun _ => fun
  | [d1, d2] => { results := [.lit (.bool true)], args := [d1, d2] }
  | _ => none }
def repairOfDerivationsRow : OpenClaim := { program := "ytbmaafemenldnaagreatdoor", sum := "39da7ba1d42842ca2b5dc7285f4ef489df63cb4dee7ba1b02efbecd875968af0", func := "emendate/emendatelaw41.RepairOfDerivations", spec := "repairOfDerivations", unfollowed := true, recurses := true, named := ["emendate/chart.none", "emendate/editscript.actions", "internal/strconv.uint64pow10", "math/bits.deBruijn32tab", "math/bits.deBruijn64tab"], plainKeys := false, apart := false, laid := [("emendate/editscript.actions", laid_emendate_editscript_actions), ("math/bits.deBruijn32tab", laid_math_bits_deBruijn32tab), ("math/bits.deBruijn64tab", laid_math_bits_deBruijn64tab), ("internal/strconv.uint64pow10", laid_internal_strconv_uint64pow10), ("emendate/chart.none", laid_emendate_chart_none)] }
def RepairOfDerivationsSaid : Prop := repairOfDerivationsRow.holds Tryz.pinned (OpenSpec.ofChange repairOfDerivationsSpec)

/-- ITS FALSE NEIGHBOUR: 'it returns false'. Refute it at one input. -/
def repairOfDerivationsWrong : ChangeSpec := { name := "repairOfDerivations", fn := fun _ => fun
  | [d1, d2] => { results := [.lit (.bool false)], args := [d1, d2] }
  | _ => none }
def RepairOfDerivationsWrongFalsely : Prop := repairOfDerivationsRow.holds Tryz.pinned (OpenSpec.ofChange repairOfDerivationsWrong)

/-- 'emendatelaw45.CertcheckAcceptsCertificates': WHATEVER THE INPUT: true; the input reads as it did. -/
def certcheckAcceptsCertificatesSpec : ChangeSpec := { name := "certcheckAcceptsCertificates", fn := fun _ => fun
  | [d1, d2, d3] => { results := [.lit (.bool true)], args := [d1, d2, d3] }
  | _ => none }
def certcheckAcceptsCertificatesRow : OpenClaim := { program := "ytbmaafemenldnaagreatdoor", sum := "39da7ba1d42842ca2b5dc7285f4ef489df63cb4dee7ba1b02efbecd875968af0", func := "emendate/emendatelaw45.CertcheckAcceptsCertificates", spec := "certcheckAcceptsCertificates", unfollowed := true, recurses := true, named := ["emendate/editscript.actions", "emendate/chart.none"], plainKeys := false, apart := false, laid := [("emendate/editscript.actions", laid_emendate_editscript_actions), ("emendate/chart.none", laid_emendate_chart_none)] }
def CertcheckAcceptsCertificatesSaid : Prop := certcheckAcceptsCertificatesRow.holds Tryz.pinned (OpenSpec.ofChange certcheckAcceptsCertificatesSpec)

/-- ITS FALSE NEIGHBOUR: 'it returns false'. Refute it at one input. -/
def certcheckAcceptsCertificatesWrong : ChangeSpec := { name := "certcheckAcceptsCertificates", fn := fun _ => fun
  | [d1, d2, d3] => { results := [.lit (.bool false)], args := [d1, d2, d3] }
  | _ => none }
def CertcheckAcceptsCertificatesWrongFalsely : Prop := certcheckAcceptsCertificatesRow.holds Tryz.pinned (OpenSpec.ofChange certcheckAcceptsCertificatesWrong)

/- THE SECOND FORM. 'bulk': how many values and letters a reading holds, each counted each time it is reached (what is shared counts as often as it is met; a slice's spare places count too). A statement '..UptoSaid' is the law's where the arguments, and the package variables that the reading takes, are together of bulk at most 1048576: NARROWER than '..Said'. Prove '..Said' where nothing that the law and all that it calls make is longer than what came in: it says more and counts as full. Else prove '..UptoSaid'. A law counts once. -/
mutual
def uptoBulk {H : Type} : DataW H → Nat
  | .lit (.string bytes) => bytes.length + 1
  | .lit _ => 1
  | .nil => 1
  | .ptr d => uptoBulk d + 1
  | .slice elems spare => uptoBulkAll elems + uptoBulkAll spare + 1
  | .agg parts => uptoBulkAll parts + 1
  | .iface _ d => uptoBulk d + 1
  | .map entries => uptoBulkEntries entries + 1
  | .held _ => 1
def uptoBulkAll {H : Type} : List (DataW H) → Nat
  | [] => 0
  | d :: r => uptoBulk d + uptoBulkAll r
def uptoBulkEntries {H : Type} : List (Lit × DataW H) → Nat
  | [] => 0
  | x :: r => uptoBulkEntry x + uptoBulkEntries r
def uptoBulkEntry {H : Type} : Lit × DataW H → Nat
  | (.string bytes, d) => bytes.length + uptoBulk d + 1
  | (_, d) => uptoBulk d + 1
 end
def uptoSmall : (H : Type) → List (DataW H) → Bool := fun _ ds => decide (uptoBulkAll ds ≤ 1048576)
def OpenSpec.upto (s : _root_.Go.ChangeSpec) : _root_.Go.OpenSpec := { _root_.Go.OpenSpec.ofChange s with cond := some uptoSmall }

/-- 'emendatelaw41.RepairMatchesReference', WHERE WHAT IT READS IS OF BULK AT MOST 1048576: true; the input reads as it did. -/
def repairMatchesReferenceUptoRow : OpenClaim := { program := "ytbmaafemenldnaagreatdoor", sum := "39da7ba1d42842ca2b5dc7285f4ef489df63cb4dee7ba1b02efbecd875968af0", func := "emendate/emendatelaw41.RepairMatchesReference", spec := "repairMatchesReference", unfollowed := true, recurses := true, named := ["emendate/chart.none", "emendate/editscript.actions"], plainKeys := false, apart := false, laid := [("emendate/editscript.actions", laid_emendate_editscript_actions), ("emendate/chart.none", laid_emendate_chart_none)], narrowed := true }
def RepairMatchesReferenceUptoSaid : Prop := repairMatchesReferenceUptoRow.holds Tryz.pinned (OpenSpec.upto repairMatchesReferenceSpec)

/-- 'emendatelaw41.RepairIsValid', WHERE WHAT IT READS IS OF BULK AT MOST 1048576: true; the input reads as it did. -/
def repairIsValidUptoRow : OpenClaim := { program := "ytbmaafemenldnaagreatdoor", sum := "39da7ba1d42842ca2b5dc7285f4ef489df63cb4dee7ba1b02efbecd875968af0", func := "emendate/emendatelaw41.RepairIsValid", spec := "repairIsValid", unfollowed := true, recurses := true, named := ["emendate/chart.none", "emendate/editscript.actions"], plainKeys := false, apart := false, laid := [("emendate/editscript.actions", laid_emendate_editscript_actions), ("emendate/chart.none", laid_emendate_chart_none)], narrowed := true }
def RepairIsValidUptoSaid : Prop := repairIsValidUptoRow.holds Tryz.pinned (OpenSpec.upto repairIsValidSpec)

/-- 'emendatelaw41.RepairOfSentence', WHERE WHAT IT READS IS OF BULK AT MOST 1048576: true; the input reads as it did. -/
def repairOfSentenceUptoRow : OpenClaim := { program := "ytbmaafemenldnaagreatdoor", sum := "39da7ba1d42842ca2b5dc7285f4ef489df63cb4dee7ba1b02efbecd875968af0", func := "emendate/emendatelaw41.RepairOfSentence", spec := "repairOfSentence", unfollowed := true, recurses := true, named := ["emendate/chart.none", "emendate/editscript.actions"], loops := true, plainKeys := false, apart := false, laid := [("emendate/editscript.actions", laid_emendate_editscript_actions), ("emendate/chart.none", laid_emendate_chart_none)], narrowed := true }
def RepairOfSentenceUptoSaid : Prop := repairOfSentenceUptoRow.holds Tryz.pinned (OpenSpec.upto repairOfSentenceSpec)

/-- 'emendatelaw41.RepairIsStable', WHERE WHAT IT READS IS OF BULK AT MOST 1048576: true; the input reads as it did. -/
def repairIsStableUptoRow : OpenClaim := { program := "ytbmaafemenldnaagreatdoor", sum := "39da7ba1d42842ca2b5dc7285f4ef489df63cb4dee7ba1b02efbecd875968af0", func := "emendate/emendatelaw41.RepairIsStable", spec := "repairIsStable", unfollowed := true, recurses := true, named := ["emendate/chart.none", "emendate/editscript.actions"], plainKeys := false, apart := false, laid := [("emendate/editscript.actions", laid_emendate_editscript_actions), ("emendate/chart.none", laid_emendate_chart_none)], narrowed := true }
def RepairIsStableUptoSaid : Prop := repairIsStableUptoRow.holds Tryz.pinned (OpenSpec.upto repairIsStableSpec)

/-- 'emendatelaw41.RepairOfDerivations', WHERE WHAT IT READS IS OF BULK AT MOST 1048576: true; the input reads as it did. -/
def repairOfDerivationsUptoRow : OpenClaim := { program := "ytbmaafemenldnaagreatdoor", sum := "39da7ba1d42842ca2b5dc7285f4ef489df63cb4dee7ba1b02efbecd875968af0", func := "emendate/emendatelaw41.RepairOfDerivations", spec := "repairOfDerivations", unfollowed := true, recurses := true, named := ["emendate/chart.none", "emendate/editscript.actions", "internal/strconv.uint64pow10", "math/bits.deBruijn32tab", "math/bits.deBruijn64tab"], plainKeys := false, apart := false, laid := [("emendate/editscript.actions", laid_emendate_editscript_actions), ("math/bits.deBruijn32tab", laid_math_bits_deBruijn32tab), ("math/bits.deBruijn64tab", laid_math_bits_deBruijn64tab), ("internal/strconv.uint64pow10", laid_internal_strconv_uint64pow10), ("emendate/chart.none", laid_emendate_chart_none)], narrowed := true }
def RepairOfDerivationsUptoSaid : Prop := repairOfDerivationsUptoRow.holds Tryz.pinned (OpenSpec.upto repairOfDerivationsSpec)

/-- 'emendatelaw45.CertcheckAcceptsCertificates', WHERE WHAT IT READS IS OF BULK AT MOST 1048576: true; the input reads as it did. -/
def certcheckAcceptsCertificatesUptoRow : OpenClaim := { program := "ytbmaafemenldnaagreatdoor", sum := "39da7ba1d42842ca2b5dc7285f4ef489df63cb4dee7ba1b02efbecd875968af0", func := "emendate/emendatelaw45.CertcheckAcceptsCertificates", spec := "certcheckAcceptsCertificates", unfollowed := true, recurses := true, named := ["emendate/editscript.actions", "emendate/chart.none"], plainKeys := false, apart := false, laid := [("emendate/editscript.actions", laid_emendate_editscript_actions), ("emendate/chart.none", laid_emendate_chart_none)], narrowed := true }
def CertcheckAcceptsCertificatesUptoSaid : Prop := certcheckAcceptsCertificatesUptoRow.holds Tryz.pinned (OpenSpec.upto certcheckAcceptsCertificatesSpec)

end Rows
end Go.Proofs.YtbmaafemenldnaaGreatDoor
