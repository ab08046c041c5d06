/-
  DERIVED. GIVEN WITH THE SEED: THE CARDS: each row of YtlimlhidndflhaaDoorRows.lean that lists a variable, with what it lists TIED to the program's text (the seventh form; the later family's looks); each row that meets fmt, with fmt's text TOLD by the authors' own Lean function (tested against real Go, not proved from fmt's source: count such statements apart). THE CARD IS WHAT COUNTS. Prove the row's statement (the work); the ties are given (YtlimlhidndflhaaDoorTie.lean); close each card by the builder's one call (the guide's Derived/Test/ToyasCard.lean, 'card_holds'). Laid BY PROGRAM, IN A SANDBOX (cutbox-door.mjs). By AI agents, Wed Nov 11 2026. No macro, syntax, notation, axiom, sorry.
-/
import Derived.Test.YtlimlhidndflhaaDoorRows
import GoSem.ClaimSeven
namespace Go.Proofs.YtlimlhidndflhaaDoor
namespace Rows

/-- THE TIED CARD OF 'emendatelaw37.LatticeScriptRealizesPath'. -/
def latticeScriptRealizesPathCard : Claim7 := { stood := { row := latticeScriptRealizesPathRow, standIns := [], harness := (true, "a0fcfab833f870a2ccc192b45f90b330c089c6c8fe25453159927b54624e59de"), looks := false }, kinds := [], alts := [], laidByText := true, laidKinds := [.funcs], laidTests := true, laidLooks := .later }
def LatticeScriptRealizesPathCardSaid : Prop := Claim7.holds Tryd.pinned (.plain (OpenSpec.ofChange latticeScriptRealizesPathSpec)) latticeScriptRealizesPathCard

/-- THE SECOND FORM's CARD OF 'emendatelaw37.LatticeScriptRealizesPath'. -/
def latticeScriptRealizesPathUptoCard : Claim7 := { stood := { row := latticeScriptRealizesPathUptoRow, standIns := [], harness := (true, "a0fcfab833f870a2ccc192b45f90b330c089c6c8fe25453159927b54624e59de"), looks := false }, kinds := [], alts := [], laidByText := true, laidKinds := [.funcs], laidTests := true, laidLooks := .later }
def LatticeScriptRealizesPathUptoCardSaid : Prop := Claim7.holds Tryd.pinned (.plain (OpenSpec.upto latticeScriptRealizesPathSpec)) latticeScriptRealizesPathUptoCard
end Rows
end Go.Proofs.YtlimlhidndflhaaDoor
