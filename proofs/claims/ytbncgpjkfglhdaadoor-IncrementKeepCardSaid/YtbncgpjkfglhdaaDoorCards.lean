/-
  DERIVED. GIVEN WITH THE SEED: THE CARDS: each row of YtbncgpjkfglhdaaDoorRows.lean that lists a variable, with what it lists TIED to the program's text (the seventh form; the later family's looks); each row that meets fmt, with fmt's text TOLD by the authors' own Lean function (tested against real Go, not proved from fmt's source: count such statements apart). THE CARD IS WHAT COUNTS. Prove the row's statement (the work); the ties are given (YtbncgpjkfglhdaaDoorTie.lean); close each card by the builder's one call (the guide's Derived/Test/ToyasCard.lean, 'card_holds'). Laid BY PROGRAM, IN A SANDBOX (cutbox-door.mjs). By AI agents, Wed Nov 11 2026. No macro, syntax, notation, axiom, sorry.
-/
import Derived.Test.YtbncgpjkfglhdaaDoorRows
import GoSem.ClaimSeven
namespace Go.Proofs.YtbncgpjkfglhdaaDoor
namespace Rows

/-- THE TIED CARD OF 'emendatelaw43.IncrementKeep'. -/
def incrementKeepCard : Claim7 := { stood := { row := incrementKeepRow, standIns := [], harness := (true, "76853f403bdb79ca73a65a9027d3deee94f27cdce1013b25bc70cd9c8d8b51fb"), looks := false }, kinds := [], alts := [], laidByText := true, laidKinds := [.data], laidTests := true, laidLooks := .later }
def IncrementKeepCardSaid : Prop := Claim7.holds Tryd.pinned (.plain (OpenSpec.ofChange incrementKeepSpec)) incrementKeepCard

/-- THE SECOND FORM's CARD OF 'emendatelaw43.IncrementKeep'. -/
def incrementKeepUptoCard : Claim7 := { stood := { row := incrementKeepUptoRow, standIns := [], harness := (true, "76853f403bdb79ca73a65a9027d3deee94f27cdce1013b25bc70cd9c8d8b51fb"), looks := false }, kinds := [], alts := [], laidByText := true, laidKinds := [.data], laidTests := true, laidLooks := .later }
def IncrementKeepUptoCardSaid : Prop := Claim7.holds Tryd.pinned (.plain (OpenSpec.upto incrementKeepSpec)) incrementKeepUptoCard
end Rows
end Go.Proofs.YtbncgpjkfglhdaaDoor
