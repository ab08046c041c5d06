/-
  NARROWER THAN 'FOR EVERY INPUT', by the rows' own cells (each row's printed sentence says how): ItemsDerivationIsParse: loops.
  DERIVED. THE GIVEN ROWS OF THIS SEAT. 6 by the template 'for every input the law returns true; each argument reads behind the call as it read before'; 0 by the template 'total and deterministic' (their statements: YtecgedikabjcdaaTotals.lean).
  GIVEN WITH THE SEED: the statements are not yours to turn. If you find one false, say at which input.
  Laid BY PROGRAM, IN A SANDBOX (cutbox-rows.mjs): the forced cells as the released guide's own fill.sh prints them over the translation 51368bb02a3007d9… (all of the seat's roots in one cut). By AI agents, Wed Nov 11 2026. No macro, syntax, notation, axiom, sorry.
-/
import Derived.Test.YtecgedikabjcdaaChecked
import GoSem.Claim
import GoSem.ClaimJoined
import GoSem.ClaimMapViews
import Derived.JoinedTies
import Derived.KernelRfl
namespace Go.Proofs.Ytecgedikabjcdaa
/- THE CELL 'sum', in the pinned program and in every row, IS THE sha256 OF THE DUMP (.gsa) THAT YtecgedikabjcdaaProg.lean LOADS. Nothing in Lean hashes anything: it is a label: what it is worth is what the hold of that sum in a sandbox is worth. -/
noncomputable def Try.pinned : Pinned := { name := "ytecgedikabjcdaa", sum := "51368bb02a3007d9899c4b5976577af61933cb7e6ebbf5436987ed0d33ea2452", checked := Try.checked }
namespace Rows
def none {H : Type} : Left H := { results := [], args := [] }

/-- 'emendatelaw39.ItemsHypergraphMatchesReference': WHATEVER THE INPUT: true; the input reads as it did. -/
def itemsHypergraphMatchesReferenceSpec : ChangeSpec := { name := "itemsHypergraphMatchesReference", fn := fun _ => fun
  | [d1, d2] => { results := [.lit (.bool true)], args := [d1, d2] }
  | _ => none }
def itemsHypergraphMatchesReferenceRow : OpenClaim := { program := "ytecgedikabjcdaa", sum := "51368bb02a3007d9899c4b5976577af61933cb7e6ebbf5436987ed0d33ea2452", func := "emendate/emendatelaw39.ItemsHypergraphMatchesReference", spec := "itemsHypergraphMatchesReference", unfollowed := true, recurses := true, apart := false }
def ItemsHypergraphMatchesReferenceSaid : Prop := itemsHypergraphMatchesReferenceRow.holds Try.pinned (OpenSpec.ofChange itemsHypergraphMatchesReferenceSpec)

/-- ITS FALSE NEIGHBOUR: 'it returns false'. Refute it at one input. -/
def itemsHypergraphMatchesReferenceWrong : ChangeSpec := { name := "itemsHypergraphMatchesReference", fn := fun _ => fun
  | [d1, d2] => { results := [.lit (.bool false)], args := [d1, d2] }
  | _ => none }
def ItemsHypergraphMatchesReferenceWrongFalsely : Prop := itemsHypergraphMatchesReferenceRow.holds Try.pinned (OpenSpec.ofChange itemsHypergraphMatchesReferenceWrong)

/-- 'emendatelaw39.ItemsNumbering': WHATEVER THE INPUT: true; the input reads as it did. -/
def itemsNumberingSpec : ChangeSpec := { name := "itemsNumbering", fn := fun _ => fun
  | [d1, d2] => { results := [.lit (.bool true)], args := [d1, d2] }
  | _ => none }
def itemsNumberingRow : OpenClaim := { program := "ytecgedikabjcdaa", sum := "51368bb02a3007d9899c4b5976577af61933cb7e6ebbf5436987ed0d33ea2452", func := "emendate/emendatelaw39.ItemsNumbering", spec := "itemsNumbering", unfollowed := true, recurses := true, apart := false }
def ItemsNumberingSaid : Prop := itemsNumberingRow.holds Try.pinned (OpenSpec.ofChange itemsNumberingSpec)

/-- ITS FALSE NEIGHBOUR: 'it returns false'. Refute it at one input. -/
def itemsNumberingWrong : ChangeSpec := { name := "itemsNumbering", fn := fun _ => fun
  | [d1, d2] => { results := [.lit (.bool false)], args := [d1, d2] }
  | _ => none }
def ItemsNumberingWrongFalsely : Prop := itemsNumberingRow.holds Try.pinned (OpenSpec.ofChange itemsNumberingWrong)

/-- 'emendatelaw39.ItemsInvalid': WHATEVER THE INPUT: true; the input reads as it did. -/
def itemsInvalidSpec : ChangeSpec := { name := "itemsInvalid", fn := fun _ => fun
  | [d1, d2, d3] => { results := [.lit (.bool true)], args := [d1, d2, d3] }
  | _ => none }
def itemsInvalidRow : OpenClaim := { program := "ytecgedikabjcdaa", sum := "51368bb02a3007d9899c4b5976577af61933cb7e6ebbf5436987ed0d33ea2452", func := "emendate/emendatelaw39.ItemsInvalid", spec := "itemsInvalid", unfollowed := true, recurses := true, apart := false }
def ItemsInvalidSaid : Prop := itemsInvalidRow.holds Try.pinned (OpenSpec.ofChange itemsInvalidSpec)

/-- ITS FALSE NEIGHBOUR: 'it returns false'. Refute it at one input. -/
def itemsInvalidWrong : ChangeSpec := { name := "itemsInvalid", fn := fun _ => fun
  | [d1, d2, d3] => { results := [.lit (.bool false)], args := [d1, d2, d3] }
  | _ => none }
def ItemsInvalidWrongFalsely : Prop := itemsInvalidRow.holds Try.pinned (OpenSpec.ofChange itemsInvalidWrong)

/-- 'emendatelaw39.ItemsEdgesAreDistinct': WHATEVER THE INPUT: true; the input reads as it did. -/
def itemsEdgesAreDistinctSpec : ChangeSpec := { name := "itemsEdgesAreDistinct", fn := fun _ => fun
  | [d1, d2] => { results := [.lit (.bool true)], args := [d1, d2] }
  | _ => none }
def itemsEdgesAreDistinctRow : OpenClaim := { program := "ytecgedikabjcdaa", sum := "51368bb02a3007d9899c4b5976577af61933cb7e6ebbf5436987ed0d33ea2452", func := "emendate/emendatelaw39.ItemsEdgesAreDistinct", spec := "itemsEdgesAreDistinct", unfollowed := true, recurses := true, apart := false }
def ItemsEdgesAreDistinctSaid : Prop := itemsEdgesAreDistinctRow.holds Try.pinned (OpenSpec.ofChange itemsEdgesAreDistinctSpec)

/-- ITS FALSE NEIGHBOUR: 'it returns false'. Refute it at one input. -/
def itemsEdgesAreDistinctWrong : ChangeSpec := { name := "itemsEdgesAreDistinct", fn := fun _ => fun
  | [d1, d2] => { results := [.lit (.bool false)], args := [d1, d2] }
  | _ => none }
def ItemsEdgesAreDistinctWrongFalsely : Prop := itemsEdgesAreDistinctRow.holds Try.pinned (OpenSpec.ofChange itemsEdgesAreDistinctWrong)

/-- 'emendatelaw39.ItemsDerivationIsParse': WHATEVER THE INPUT: true; the input reads as it did. -/
def itemsDerivationIsParseSpec : ChangeSpec := { name := "itemsDerivationIsParse", fn := fun _ => fun
  | [d1, d2, d3] => { results := [.lit (.bool true)], args := [d1, d2, d3] }
  | _ => none }
def itemsDerivationIsParseRow : OpenClaim := { program := "ytecgedikabjcdaa", sum := "51368bb02a3007d9899c4b5976577af61933cb7e6ebbf5436987ed0d33ea2452", func := "emendate/emendatelaw39.ItemsDerivationIsParse", spec := "itemsDerivationIsParse", unfollowed := true, recurses := true, loops := true, apart := false }
def ItemsDerivationIsParseSaid : Prop := itemsDerivationIsParseRow.holds Try.pinned (OpenSpec.ofChange itemsDerivationIsParseSpec)

/-- ITS FALSE NEIGHBOUR: 'it returns false'. Refute it at one input. -/
def itemsDerivationIsParseWrong : ChangeSpec := { name := "itemsDerivationIsParse", fn := fun _ => fun
  | [d1, d2, d3] => { results := [.lit (.bool false)], args := [d1, d2, d3] }
  | _ => none }
def ItemsDerivationIsParseWrongFalsely : Prop := itemsDerivationIsParseRow.holds Try.pinned (OpenSpec.ofChange itemsDerivationIsParseWrong)

/-- 'emendatelaw39.ItemsMoreExpensiveArc': WHATEVER THE INPUT: true; the input reads as it did. -/
def itemsMoreExpensiveArcSpec : ChangeSpec := { name := "itemsMoreExpensiveArc", fn := fun _ => fun
  | [d1, d2, d3] => { results := [.lit (.bool true)], args := [d1, d2, d3] }
  | _ => none }
def itemsMoreExpensiveArcRow : OpenClaim := { program := "ytecgedikabjcdaa", sum := "51368bb02a3007d9899c4b5976577af61933cb7e6ebbf5436987ed0d33ea2452", func := "emendate/emendatelaw39.ItemsMoreExpensiveArc", spec := "itemsMoreExpensiveArc", unfollowed := true, recurses := true, apart := false }
def ItemsMoreExpensiveArcSaid : Prop := itemsMoreExpensiveArcRow.holds Try.pinned (OpenSpec.ofChange itemsMoreExpensiveArcSpec)

/-- ITS FALSE NEIGHBOUR: 'it returns false'. Refute it at one input. -/
def itemsMoreExpensiveArcWrong : ChangeSpec := { name := "itemsMoreExpensiveArc", fn := fun _ => fun
  | [d1, d2, d3] => { results := [.lit (.bool false)], args := [d1, d2, d3] }
  | _ => none }
def ItemsMoreExpensiveArcWrongFalsely : Prop := itemsMoreExpensiveArcRow.holds Try.pinned (OpenSpec.ofChange itemsMoreExpensiveArcWrong)

/- THE SECOND FORM. 'bulk': how many values and letters a reading holds, each counted each time it is reached (what is shared counts as often as it is met; a slice's spare places count too). A statement '..UptoSaid' is the law's where the arguments, and the package variables that the reading takes, are together of bulk at most 1048576: NARROWER than '..Said'. Prove '..Said' where nothing that the law and all that it calls make is longer than what came in: it says more and counts as full. Else prove '..UptoSaid'. A law counts once. -/
mutual
def uptoBulk {H : Type} : DataW H → Nat
  | .lit (.string bytes) => bytes.length + 1
  | .lit _ => 1
  | .nil => 1
  | .ptr d => uptoBulk d + 1
  | .slice elems spare => uptoBulkAll elems + uptoBulkAll spare + 1
  | .agg parts => uptoBulkAll parts + 1
  | .iface _ d => uptoBulk d + 1
  | .map entries => uptoBulkEntries entries + 1
  | .held _ => 1
def uptoBulkAll {H : Type} : List (DataW H) → Nat
  | [] => 0
  | d :: r => uptoBulk d + uptoBulkAll r
def uptoBulkEntries {H : Type} : List (Lit × DataW H) → Nat
  | [] => 0
  | x :: r => uptoBulkEntry x + uptoBulkEntries r
def uptoBulkEntry {H : Type} : Lit × DataW H → Nat
  | (.string bytes, d) => bytes.length + uptoBulk d + 1
  | (_, d) => uptoBulk d + 1
 end
def uptoSmall : (H : Type) → List (DataW H) → Bool := fun _ ds => decide (uptoBulkAll ds ≤ 1048576)
def OpenSpec.upto (s : _root_.Go.ChangeSpec) : _root_.Go.OpenSpec := { _root_.Go.OpenSpec.ofChange s with cond := some uptoSmall }

/-- 'emendatelaw39.ItemsHypergraphMatchesReference', WHERE WHAT IT READS IS OF BULK AT MOST 1048576: true; the input reads as it did. -/
def itemsHypergraphMatchesReferenceUptoRow : OpenClaim := { program := "ytecgedikabjcdaa", sum := "51368bb02a3007d9899c4b5976577af61933cb7e6ebbf5436987ed0d33ea2452", func := "emendate/emendatelaw39.ItemsHypergraphMatchesReference", spec := "itemsHypergraphMatchesReference", unfollowed := true, recurses := true, apart := false, narrowed := true }
def ItemsHypergraphMatchesReferenceUptoSaid : Prop := itemsHypergraphMatchesReferenceUptoRow.holds Try.pinned (OpenSpec.upto itemsHypergraphMatchesReferenceSpec)

/-- 'emendatelaw39.ItemsNumbering', WHERE WHAT IT READS IS OF BULK AT MOST 1048576: true; the input reads as it did. -/
def itemsNumberingUptoRow : OpenClaim := { program := "ytecgedikabjcdaa", sum := "51368bb02a3007d9899c4b5976577af61933cb7e6ebbf5436987ed0d33ea2452", func := "emendate/emendatelaw39.ItemsNumbering", spec := "itemsNumbering", unfollowed := true, recurses := true, apart := false, narrowed := true }
def ItemsNumberingUptoSaid : Prop := itemsNumberingUptoRow.holds Try.pinned (OpenSpec.upto itemsNumberingSpec)

/-- 'emendatelaw39.ItemsInvalid', WHERE WHAT IT READS IS OF BULK AT MOST 1048576: true; the input reads as it did. -/
def itemsInvalidUptoRow : OpenClaim := { program := "ytecgedikabjcdaa", sum := "51368bb02a3007d9899c4b5976577af61933cb7e6ebbf5436987ed0d33ea2452", func := "emendate/emendatelaw39.ItemsInvalid", spec := "itemsInvalid", unfollowed := true, recurses := true, apart := false, narrowed := true }
def ItemsInvalidUptoSaid : Prop := itemsInvalidUptoRow.holds Try.pinned (OpenSpec.upto itemsInvalidSpec)

/-- 'emendatelaw39.ItemsEdgesAreDistinct', WHERE WHAT IT READS IS OF BULK AT MOST 1048576: true; the input reads as it did. -/
def itemsEdgesAreDistinctUptoRow : OpenClaim := { program := "ytecgedikabjcdaa", sum := "51368bb02a3007d9899c4b5976577af61933cb7e6ebbf5436987ed0d33ea2452", func := "emendate/emendatelaw39.ItemsEdgesAreDistinct", spec := "itemsEdgesAreDistinct", unfollowed := true, recurses := true, apart := false, narrowed := true }
def ItemsEdgesAreDistinctUptoSaid : Prop := itemsEdgesAreDistinctUptoRow.holds Try.pinned (OpenSpec.upto itemsEdgesAreDistinctSpec)

/-- 'emendatelaw39.ItemsDerivationIsParse', WHERE WHAT IT READS IS OF BULK AT MOST 1048576: true; the input reads as it did. -/
def itemsDerivationIsParseUptoRow : OpenClaim := { program := "ytecgedikabjcdaa", sum := "51368bb02a3007d9899c4b5976577af61933cb7e6ebbf5436987ed0d33ea2452", func := "emendate/emendatelaw39.ItemsDerivationIsParse", spec := "itemsDerivationIsParse", unfollowed := true, recurses := true, loops := true, apart := false, narrowed := true }
def ItemsDerivationIsParseUptoSaid : Prop := itemsDerivationIsParseUptoRow.holds Try.pinned (OpenSpec.upto itemsDerivationIsParseSpec)

/-- 'emendatelaw39.ItemsMoreExpensiveArc', WHERE WHAT IT READS IS OF BULK AT MOST 1048576: true; the input reads as it did. -/
def itemsMoreExpensiveArcUptoRow : OpenClaim := { program := "ytecgedikabjcdaa", sum := "51368bb02a3007d9899c4b5976577af61933cb7e6ebbf5436987ed0d33ea2452", func := "emendate/emendatelaw39.ItemsMoreExpensiveArc", spec := "itemsMoreExpensiveArc", unfollowed := true, recurses := true, apart := false, narrowed := true }
def ItemsMoreExpensiveArcUptoSaid : Prop := itemsMoreExpensiveArcUptoRow.holds Try.pinned (OpenSpec.upto itemsMoreExpensiveArcSpec)

end Rows
end Go.Proofs.Ytecgedikabjcdaa
