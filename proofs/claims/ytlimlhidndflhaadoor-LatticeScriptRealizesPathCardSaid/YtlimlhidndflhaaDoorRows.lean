/-
  NARROWER THAN 'FOR EVERY INPUT', by the rows' own cells (each row's printed sentence says how): LatticeScriptRealizesPath: laid.
  DERIVED. THE GIVEN ROWS OF THIS SEAT. 1 by the template 'for every input the law returns true; each argument reads behind the call as it read before'; 0 by the template 'total and deterministic' (their statements: YtlimlhidndflhaaDoorTotals.lean).
  GIVEN WITH THE SEED: the statements are not yours to turn. If you find one false, say at which input.
  Laid BY PROGRAM, IN A SANDBOX (cutbox-rows.mjs): the forced cells as the released guide's own fill.sh prints them over the translation e101095cd7dbec73… (all of the seat's roots in one cut). By AI agents, Wed Nov 11 2026. No macro, syntax, notation, axiom, sorry.
-/
import Derived.Test.YtlimlhidndflhaaDoorChecked
import GoSem.Claim
import GoSem.ClaimJoined
import GoSem.ClaimMapViews
import Derived.JoinedTies
import Derived.KernelRfl
namespace Go.Proofs.YtlimlhidndflhaaDoor
/- THE CELL 'sum', in the pinned program and in every row, IS THE sha256 OF THE DUMP (.gsa) THAT YtlimlhidndflhaaDoorProg.lean LOADS. Nothing in Lean hashes anything: it is a label: what it is worth is what the hold of that sum in a sandbox is worth. -/
noncomputable def Tryd.pinned : Pinned := { name := "ytlimlhidndflhaadoor", sum := "e101095cd7dbec73e37d87540b27a95763c9caff0b09d610c37fb30ae403cb74", checked := Tryd.checked }
namespace Rows
def none {H : Type} : Left H := { results := [], args := [] }

/- WHAT THE LISTED PACKAGE-LEVEL VARIABLES READ AS WHEN THE CALL BEGINS. Each datum BY PROGRAM (the guide's laid-datum.mjs) off the statement by which the dump's own 'gosem.cut.vars' lays the variable. In a bare row this is a premise. The card (YtlimlhidndflhaaDoorCards.lean) ties it to the program's text. -/
def laid_emendate_editscript_actions {H : Type} : DataW H := .iface "func table" (.agg [.nil, .iface "func" (.lit (.string [40, 42, 101, 109, 101, 110, 100, 97, 116, 101, 47, 101, 100, 105, 116, 115, 99, 114, 105, 112, 116, 46, 115, 116, 97, 116, 101, 41, 46, 114, 101, 97, 100])), .iface "func" (.lit (.string [40, 42, 101, 109, 101, 110, 100, 97, 116, 101, 47, 101, 100, 105, 116, 115, 99, 114, 105, 112, 116, 46, 115, 116, 97, 116, 101, 41, 46, 114, 101, 109, 111, 118, 101])), .iface "func" (.lit (.string [40, 42, 101, 109, 101, 110, 100, 97, 116, 101, 47, 101, 100, 105, 116, 115, 99, 114, 105, 112, 116, 46, 115, 116, 97, 116, 101, 41, 46, 105, 110, 115, 101, 114, 116])), .iface "func" (.lit (.string [40, 42, 101, 109, 101, 110, 100, 97, 116, 101, 47, 101, 100, 105, 116, 115, 99, 114, 105, 112, 116, 46, 115, 116, 97, 116, 101, 41, 46, 115, 119, 97, 112]))])

/-- 'emendatelaw37.LatticeScriptRealizesPath': WHATEVER THE INPUT: true; the input reads as it did. -/
def latticeScriptRealizesPathSpec : ChangeSpec := { name := "latticeScriptRealizesPath", fn := fun _ => fun
  | [d1, d2] => { results := [.lit (.bool true)], args := [d1, d2] }
  | _ => none }
def latticeScriptRealizesPathRow : OpenClaim := { program := "ytlimlhidndflhaadoor", sum := "e101095cd7dbec73e37d87540b27a95763c9caff0b09d610c37fb30ae403cb74", func := "emendate/emendatelaw37.LatticeScriptRealizesPath", spec := "latticeScriptRealizesPath", unfollowed := true, recurses := true, named := ["emendate/editscript.actions"], plainKeys := false, apart := false, laid := [("emendate/editscript.actions", laid_emendate_editscript_actions)] }
def LatticeScriptRealizesPathSaid : Prop := latticeScriptRealizesPathRow.holds Tryd.pinned (OpenSpec.ofChange latticeScriptRealizesPathSpec)

/-- ITS FALSE NEIGHBOUR: 'it returns false'. Refute it at one input. -/
def latticeScriptRealizesPathWrong : ChangeSpec := { name := "latticeScriptRealizesPath", fn := fun _ => fun
  | [d1, d2] => { results := [.lit (.bool false)], args := [d1, d2] }
  | _ => none }
def LatticeScriptRealizesPathWrongFalsely : Prop := latticeScriptRealizesPathRow.holds Tryd.pinned (OpenSpec.ofChange latticeScriptRealizesPathWrong)

/- THE SECOND FORM. 'bulk': how many values and letters a reading holds, each counted each time it is reached (what is shared counts as often as it is met; a slice's spare places count too). A statement '..UptoSaid' is the law's where the arguments, and the package variables that the reading takes, are together of bulk at most 1048576: NARROWER than '..Said'. Prove '..Said' where nothing that the law and all that it calls make is longer than what came in: it says more and counts as full. Else prove '..UptoSaid'. A law counts once. -/
mutual
def uptoBulk {H : Type} : DataW H → Nat
  | .lit (.string bytes) => bytes.length + 1
  | .lit _ => 1
  | .nil => 1
  | .ptr d => uptoBulk d + 1
  | .slice elems spare => uptoBulkAll elems + uptoBulkAll spare + 1
  | .agg parts => uptoBulkAll parts + 1
  | .iface _ d => uptoBulk d + 1
  | .map entries => uptoBulkEntries entries + 1
  | .held _ => 1
def uptoBulkAll {H : Type} : List (DataW H) → Nat
  | [] => 0
  | d :: r => uptoBulk d + uptoBulkAll r
def uptoBulkEntries {H : Type} : List (Lit × DataW H) → Nat
  | [] => 0
  | x :: r => uptoBulkEntry x + uptoBulkEntries r
def uptoBulkEntry {H : Type} : Lit × DataW H → Nat
  | (.string bytes, d) => bytes.length + uptoBulk d + 1
  | (_, d) => uptoBulk d + 1
 end
def uptoSmall : (H : Type) → List (DataW H) → Bool := fun _ ds => decide (uptoBulkAll ds ≤ 1048576)
def OpenSpec.upto (s : _root_.Go.ChangeSpec) : _root_.Go.OpenSpec := { _root_.Go.OpenSpec.ofChange s with cond := some uptoSmall }

/-- 'emendatelaw37.LatticeScriptRealizesPath', WHERE WHAT IT READS IS OF BULK AT MOST 1048576: true; the input reads as it did. -/
def latticeScriptRealizesPathUptoRow : OpenClaim := { program := "ytlimlhidndflhaadoor", sum := "e101095cd7dbec73e37d87540b27a95763c9caff0b09d610c37fb30ae403cb74", func := "emendate/emendatelaw37.LatticeScriptRealizesPath", spec := "latticeScriptRealizesPath", unfollowed := true, recurses := true, named := ["emendate/editscript.actions"], plainKeys := false, apart := false, laid := [("emendate/editscript.actions", laid_emendate_editscript_actions)], narrowed := true }
def LatticeScriptRealizesPathUptoSaid : Prop := latticeScriptRealizesPathUptoRow.holds Tryd.pinned (OpenSpec.upto latticeScriptRealizesPathSpec)

end Rows
end Go.Proofs.YtlimlhidndflhaaDoor
