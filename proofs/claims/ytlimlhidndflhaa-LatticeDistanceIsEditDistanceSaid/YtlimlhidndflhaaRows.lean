/-
  No cell of these rows narrows 'for every input' (looked for: loops, veiled, ifaces, maps, wideKeys, modest, calm, conditions, laid).
  DERIVED. THE GIVEN ROWS OF THIS SEAT. 7 by the template 'for every input the law returns true; each argument reads behind the call as it read before'; 0 by the template 'total and deterministic' (their statements: YtlimlhidndflhaaTotals.lean).
  GIVEN WITH THE SEED: the statements are not yours to turn. If you find one false, say at which input.
  Laid BY PROGRAM, IN A SANDBOX (cutbox-rows.mjs): the forced cells as the released guide's own fill.sh prints them over the translation 0dea31ae59e16415… (all of the seat's roots in one cut). By AI agents, Wed Nov 11 2026. No macro, syntax, notation, axiom, sorry.
-/
import Derived.Test.YtlimlhidndflhaaChecked
import GoSem.Claim
import GoSem.ClaimJoined
import GoSem.ClaimMapViews
import Derived.JoinedTies
import Derived.KernelRfl
namespace Go.Proofs.Ytlimlhidndflhaa
/- THE CELL 'sum', in the pinned program and in every row, IS THE sha256 OF THE DUMP (.gsa) THAT YtlimlhidndflhaaProg.lean LOADS. Nothing in Lean hashes anything: it is a label: what it is worth is what the hold of that sum in a sandbox is worth. -/
noncomputable def Try.pinned : Pinned := { name := "ytlimlhidndflhaa", sum := "0dea31ae59e16415b7b854b6f4808274ab41532f09b4b440acf13cb8ae6e349b", checked := Try.checked }
namespace Rows
def none {H : Type} : Left H := { results := [], args := [] }

/-- 'emendatelaw37.LatticeBuildMatchesReference': WHATEVER THE INPUT: true; the input reads as it did. -/
def latticeBuildMatchesReferenceSpec : ChangeSpec := { name := "latticeBuildMatchesReference", fn := fun _ => fun
  | [d] => { results := [.lit (.bool true)], args := [d] }
  | _ => none }
def latticeBuildMatchesReferenceRow : OpenClaim := { program := "ytlimlhidndflhaa", sum := "0dea31ae59e16415b7b854b6f4808274ab41532f09b4b440acf13cb8ae6e349b", func := "emendate/emendatelaw37.LatticeBuildMatchesReference", spec := "latticeBuildMatchesReference", unfollowed := true, recurses := true, plainKeys := false, apart := false }
def LatticeBuildMatchesReferenceSaid : Prop := latticeBuildMatchesReferenceRow.holds Try.pinned (OpenSpec.ofChange latticeBuildMatchesReferenceSpec)

/-- ITS FALSE NEIGHBOUR: 'it returns false'. Refute it at one input. -/
def latticeBuildMatchesReferenceWrong : ChangeSpec := { name := "latticeBuildMatchesReference", fn := fun _ => fun
  | [d] => { results := [.lit (.bool false)], args := [d] }
  | _ => none }
def LatticeBuildMatchesReferenceWrongFalsely : Prop := latticeBuildMatchesReferenceRow.holds Try.pinned (OpenSpec.ofChange latticeBuildMatchesReferenceWrong)

/-- 'emendatelaw37.LatticeValidMatchesReference': WHATEVER THE INPUT: true; the input reads as it did. -/
def latticeValidMatchesReferenceSpec : ChangeSpec := { name := "latticeValidMatchesReference", fn := fun _ => fun
  | [d1, d2] => { results := [.lit (.bool true)], args := [d1, d2] }
  | _ => none }
def latticeValidMatchesReferenceRow : OpenClaim := { program := "ytlimlhidndflhaa", sum := "0dea31ae59e16415b7b854b6f4808274ab41532f09b4b440acf13cb8ae6e349b", func := "emendate/emendatelaw37.LatticeValidMatchesReference", spec := "latticeValidMatchesReference", unfollowed := true, recurses := true, plainKeys := false, apart := false }
def LatticeValidMatchesReferenceSaid : Prop := latticeValidMatchesReferenceRow.holds Try.pinned (OpenSpec.ofChange latticeValidMatchesReferenceSpec)

/-- ITS FALSE NEIGHBOUR: 'it returns false'. Refute it at one input. -/
def latticeValidMatchesReferenceWrong : ChangeSpec := { name := "latticeValidMatchesReference", fn := fun _ => fun
  | [d1, d2] => { results := [.lit (.bool false)], args := [d1, d2] }
  | _ => none }
def LatticeValidMatchesReferenceWrongFalsely : Prop := latticeValidMatchesReferenceRow.holds Try.pinned (OpenSpec.ofChange latticeValidMatchesReferenceWrong)

/-- 'emendatelaw37.LatticeDistanceMatchesReference': WHATEVER THE INPUT: true; the input reads as it did. -/
def latticeDistanceMatchesReferenceSpec : ChangeSpec := { name := "latticeDistanceMatchesReference", fn := fun _ => fun
  | [d1, d2] => { results := [.lit (.bool true)], args := [d1, d2] }
  | _ => none }
def latticeDistanceMatchesReferenceRow : OpenClaim := { program := "ytlimlhidndflhaa", sum := "0dea31ae59e16415b7b854b6f4808274ab41532f09b4b440acf13cb8ae6e349b", func := "emendate/emendatelaw37.LatticeDistanceMatchesReference", spec := "latticeDistanceMatchesReference", unfollowed := true, recurses := true, plainKeys := false, apart := false }
def LatticeDistanceMatchesReferenceSaid : Prop := latticeDistanceMatchesReferenceRow.holds Try.pinned (OpenSpec.ofChange latticeDistanceMatchesReferenceSpec)

/-- ITS FALSE NEIGHBOUR: 'it returns false'. Refute it at one input. -/
def latticeDistanceMatchesReferenceWrong : ChangeSpec := { name := "latticeDistanceMatchesReference", fn := fun _ => fun
  | [d1, d2] => { results := [.lit (.bool false)], args := [d1, d2] }
  | _ => none }
def LatticeDistanceMatchesReferenceWrongFalsely : Prop := latticeDistanceMatchesReferenceRow.holds Try.pinned (OpenSpec.ofChange latticeDistanceMatchesReferenceWrong)

/-- 'emendatelaw37.LatticeScriptMatchesReference': WHATEVER THE INPUT: true; the input reads as it did. -/
def latticeScriptMatchesReferenceSpec : ChangeSpec := { name := "latticeScriptMatchesReference", fn := fun _ => fun
  | [d1, d2] => { results := [.lit (.bool true)], args := [d1, d2] }
  | _ => none }
def latticeScriptMatchesReferenceRow : OpenClaim := { program := "ytlimlhidndflhaa", sum := "0dea31ae59e16415b7b854b6f4808274ab41532f09b4b440acf13cb8ae6e349b", func := "emendate/emendatelaw37.LatticeScriptMatchesReference", spec := "latticeScriptMatchesReference", unfollowed := true, recurses := true, plainKeys := false, apart := false }
def LatticeScriptMatchesReferenceSaid : Prop := latticeScriptMatchesReferenceRow.holds Try.pinned (OpenSpec.ofChange latticeScriptMatchesReferenceSpec)

/-- ITS FALSE NEIGHBOUR: 'it returns false'. Refute it at one input. -/
def latticeScriptMatchesReferenceWrong : ChangeSpec := { name := "latticeScriptMatchesReference", fn := fun _ => fun
  | [d1, d2] => { results := [.lit (.bool false)], args := [d1, d2] }
  | _ => none }
def LatticeScriptMatchesReferenceWrongFalsely : Prop := latticeScriptMatchesReferenceRow.holds Try.pinned (OpenSpec.ofChange latticeScriptMatchesReferenceWrong)

/-- 'emendatelaw37.LatticeLocality': WHATEVER THE INPUT: true; the input reads as it did. -/
def latticeLocalitySpec : ChangeSpec := { name := "latticeLocality", fn := fun _ => fun
  | [d1, d2] => { results := [.lit (.bool true)], args := [d1, d2] }
  | _ => none }
def latticeLocalityRow : OpenClaim := { program := "ytlimlhidndflhaa", sum := "0dea31ae59e16415b7b854b6f4808274ab41532f09b4b440acf13cb8ae6e349b", func := "emendate/emendatelaw37.LatticeLocality", spec := "latticeLocality", unfollowed := true, recurses := true, plainKeys := false, apart := false }
def LatticeLocalitySaid : Prop := latticeLocalityRow.holds Try.pinned (OpenSpec.ofChange latticeLocalitySpec)

/-- ITS FALSE NEIGHBOUR: 'it returns false'. Refute it at one input. -/
def latticeLocalityWrong : ChangeSpec := { name := "latticeLocality", fn := fun _ => fun
  | [d1, d2] => { results := [.lit (.bool false)], args := [d1, d2] }
  | _ => none }
def LatticeLocalityWrongFalsely : Prop := latticeLocalityRow.holds Try.pinned (OpenSpec.ofChange latticeLocalityWrong)

/-- 'emendatelaw37.LatticeTriangle': WHATEVER THE INPUT: true; the input reads as it did. -/
def latticeTriangleSpec : ChangeSpec := { name := "latticeTriangle", fn := fun _ => fun
  | [d1, d2] => { results := [.lit (.bool true)], args := [d1, d2] }
  | _ => none }
def latticeTriangleRow : OpenClaim := { program := "ytlimlhidndflhaa", sum := "0dea31ae59e16415b7b854b6f4808274ab41532f09b4b440acf13cb8ae6e349b", func := "emendate/emendatelaw37.LatticeTriangle", spec := "latticeTriangle", unfollowed := true, recurses := true, plainKeys := false, apart := false }
def LatticeTriangleSaid : Prop := latticeTriangleRow.holds Try.pinned (OpenSpec.ofChange latticeTriangleSpec)

/-- ITS FALSE NEIGHBOUR: 'it returns false'. Refute it at one input. -/
def latticeTriangleWrong : ChangeSpec := { name := "latticeTriangle", fn := fun _ => fun
  | [d1, d2] => { results := [.lit (.bool false)], args := [d1, d2] }
  | _ => none }
def LatticeTriangleWrongFalsely : Prop := latticeTriangleRow.holds Try.pinned (OpenSpec.ofChange latticeTriangleWrong)

/-- 'emendatelaw37.LatticeDistanceIsEditDistance': WHATEVER THE INPUT: true; the input reads as it did. -/
def latticeDistanceIsEditDistanceSpec : ChangeSpec := { name := "latticeDistanceIsEditDistance", fn := fun _ => fun
  | [d1, d2] => { results := [.lit (.bool true)], args := [d1, d2] }
  | _ => none }
def latticeDistanceIsEditDistanceRow : OpenClaim := { program := "ytlimlhidndflhaa", sum := "0dea31ae59e16415b7b854b6f4808274ab41532f09b4b440acf13cb8ae6e349b", func := "emendate/emendatelaw37.LatticeDistanceIsEditDistance", spec := "latticeDistanceIsEditDistance", unfollowed := true, recurses := true, plainKeys := false, apart := false }
def LatticeDistanceIsEditDistanceSaid : Prop := latticeDistanceIsEditDistanceRow.holds Try.pinned (OpenSpec.ofChange latticeDistanceIsEditDistanceSpec)

/-- ITS FALSE NEIGHBOUR: 'it returns false'. Refute it at one input. -/
def latticeDistanceIsEditDistanceWrong : ChangeSpec := { name := "latticeDistanceIsEditDistance", fn := fun _ => fun
  | [d1, d2] => { results := [.lit (.bool false)], args := [d1, d2] }
  | _ => none }
def LatticeDistanceIsEditDistanceWrongFalsely : Prop := latticeDistanceIsEditDistanceRow.holds Try.pinned (OpenSpec.ofChange latticeDistanceIsEditDistanceWrong)

/- THE SECOND FORM. 'bulk': how many values and letters a reading holds, each counted each time it is reached (what is shared counts as often as it is met; a slice's spare places count too). A statement '..UptoSaid' is the law's where the arguments, and the package variables that the reading takes, are together of bulk at most 1048576: NARROWER than '..Said'. Prove '..Said' where nothing that the law and all that it calls make is longer than what came in: it says more and counts as full. Else prove '..UptoSaid'. A law counts once. -/
mutual
def uptoBulk {H : Type} : DataW H → Nat
  | .lit (.string bytes) => bytes.length + 1
  | .lit _ => 1
  | .nil => 1
  | .ptr d => uptoBulk d + 1
  | .slice elems spare => uptoBulkAll elems + uptoBulkAll spare + 1
  | .agg parts => uptoBulkAll parts + 1
  | .iface _ d => uptoBulk d + 1
  | .map entries => uptoBulkEntries entries + 1
  | .held _ => 1
def uptoBulkAll {H : Type} : List (DataW H) → Nat
  | [] => 0
  | d :: r => uptoBulk d + uptoBulkAll r
def uptoBulkEntries {H : Type} : List (Lit × DataW H) → Nat
  | [] => 0
  | x :: r => uptoBulkEntry x + uptoBulkEntries r
def uptoBulkEntry {H : Type} : Lit × DataW H → Nat
  | (.string bytes, d) => bytes.length + uptoBulk d + 1
  | (_, d) => uptoBulk d + 1
 end
def uptoSmall : (H : Type) → List (DataW H) → Bool := fun _ ds => decide (uptoBulkAll ds ≤ 1048576)
def OpenSpec.upto (s : _root_.Go.ChangeSpec) : _root_.Go.OpenSpec := { _root_.Go.OpenSpec.ofChange s with cond := some uptoSmall }

/-- 'emendatelaw37.LatticeBuildMatchesReference', WHERE WHAT IT READS IS OF BULK AT MOST 1048576: true; the input reads as it did. -/
def latticeBuildMatchesReferenceUptoRow : OpenClaim := { program := "ytlimlhidndflhaa", sum := "0dea31ae59e16415b7b854b6f4808274ab41532f09b4b440acf13cb8ae6e349b", func := "emendate/emendatelaw37.LatticeBuildMatchesReference", spec := "latticeBuildMatchesReference", unfollowed := true, recurses := true, plainKeys := false, apart := false, narrowed := true }
def LatticeBuildMatchesReferenceUptoSaid : Prop := latticeBuildMatchesReferenceUptoRow.holds Try.pinned (OpenSpec.upto latticeBuildMatchesReferenceSpec)

/-- 'emendatelaw37.LatticeValidMatchesReference', WHERE WHAT IT READS IS OF BULK AT MOST 1048576: true; the input reads as it did. -/
def latticeValidMatchesReferenceUptoRow : OpenClaim := { program := "ytlimlhidndflhaa", sum := "0dea31ae59e16415b7b854b6f4808274ab41532f09b4b440acf13cb8ae6e349b", func := "emendate/emendatelaw37.LatticeValidMatchesReference", spec := "latticeValidMatchesReference", unfollowed := true, recurses := true, plainKeys := false, apart := false, narrowed := true }
def LatticeValidMatchesReferenceUptoSaid : Prop := latticeValidMatchesReferenceUptoRow.holds Try.pinned (OpenSpec.upto latticeValidMatchesReferenceSpec)

/-- 'emendatelaw37.LatticeDistanceMatchesReference', WHERE WHAT IT READS IS OF BULK AT MOST 1048576: true; the input reads as it did. -/
def latticeDistanceMatchesReferenceUptoRow : OpenClaim := { program := "ytlimlhidndflhaa", sum := "0dea31ae59e16415b7b854b6f4808274ab41532f09b4b440acf13cb8ae6e349b", func := "emendate/emendatelaw37.LatticeDistanceMatchesReference", spec := "latticeDistanceMatchesReference", unfollowed := true, recurses := true, plainKeys := false, apart := false, narrowed := true }
def LatticeDistanceMatchesReferenceUptoSaid : Prop := latticeDistanceMatchesReferenceUptoRow.holds Try.pinned (OpenSpec.upto latticeDistanceMatchesReferenceSpec)

/-- 'emendatelaw37.LatticeScriptMatchesReference', WHERE WHAT IT READS IS OF BULK AT MOST 1048576: true; the input reads as it did. -/
def latticeScriptMatchesReferenceUptoRow : OpenClaim := { program := "ytlimlhidndflhaa", sum := "0dea31ae59e16415b7b854b6f4808274ab41532f09b4b440acf13cb8ae6e349b", func := "emendate/emendatelaw37.LatticeScriptMatchesReference", spec := "latticeScriptMatchesReference", unfollowed := true, recurses := true, plainKeys := false, apart := false, narrowed := true }
def LatticeScriptMatchesReferenceUptoSaid : Prop := latticeScriptMatchesReferenceUptoRow.holds Try.pinned (OpenSpec.upto latticeScriptMatchesReferenceSpec)

/-- 'emendatelaw37.LatticeLocality', WHERE WHAT IT READS IS OF BULK AT MOST 1048576: true; the input reads as it did. -/
def latticeLocalityUptoRow : OpenClaim := { program := "ytlimlhidndflhaa", sum := "0dea31ae59e16415b7b854b6f4808274ab41532f09b4b440acf13cb8ae6e349b", func := "emendate/emendatelaw37.LatticeLocality", spec := "latticeLocality", unfollowed := true, recurses := true, plainKeys := false, apart := false, narrowed := true }
def LatticeLocalityUptoSaid : Prop := latticeLocalityUptoRow.holds Try.pinned (OpenSpec.upto latticeLocalitySpec)

/-- 'emendatelaw37.LatticeTriangle', WHERE WHAT IT READS IS OF BULK AT MOST 1048576: true; the input reads as it did. -/
def latticeTriangleUptoRow : OpenClaim := { program := "ytlimlhidndflhaa", sum := "0dea31ae59e16415b7b854b6f4808274ab41532f09b4b440acf13cb8ae6e349b", func := "emendate/emendatelaw37.LatticeTriangle", spec := "latticeTriangle", unfollowed := true, recurses := true, plainKeys := false, apart := false, narrowed := true }
def LatticeTriangleUptoSaid : Prop := latticeTriangleUptoRow.holds Try.pinned (OpenSpec.upto latticeTriangleSpec)

/-- 'emendatelaw37.LatticeDistanceIsEditDistance', WHERE WHAT IT READS IS OF BULK AT MOST 1048576: true; the input reads as it did. -/
def latticeDistanceIsEditDistanceUptoRow : OpenClaim := { program := "ytlimlhidndflhaa", sum := "0dea31ae59e16415b7b854b6f4808274ab41532f09b4b440acf13cb8ae6e349b", func := "emendate/emendatelaw37.LatticeDistanceIsEditDistance", spec := "latticeDistanceIsEditDistance", unfollowed := true, recurses := true, plainKeys := false, apart := false, narrowed := true }
def LatticeDistanceIsEditDistanceUptoSaid : Prop := latticeDistanceIsEditDistanceUptoRow.holds Try.pinned (OpenSpec.upto latticeDistanceIsEditDistanceSpec)

end Rows
end Go.Proofs.Ytlimlhidndflhaa
