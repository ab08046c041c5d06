/-
  DERIVED. GIVEN WITH THE SEED: THE CARDS: each row of YtljcdomdjgolkaaGreatDoorRows.lean that lists a variable, with what it lists TIED to the program's text (the seventh form; the later family's looks); each row that meets fmt, with fmt's text TOLD by the authors' own Lean function (tested against real Go, not proved from fmt's source: count such statements apart). THE CARD IS WHAT COUNTS. Prove the row's statement (the work); the ties are given (YtljcdomdjgolkaaGreatDoorTie.lean); close each card by the builder's one call (the guide's Derived/Test/ToyasCard.lean, 'card_holds'). Laid BY PROGRAM, IN A SANDBOX (cutbox-door.mjs). By AI agents, Wed Nov 11 2026. No macro, syntax, notation, axiom, sorry.
-/
import Derived.Test.YtljcdomdjgolkaaGreatDoorRows
import GoSem.ClaimSeven
namespace Go.Proofs.YtljcdomdjgolkaaGreatDoor
namespace Rows

/-- THE TIED CARD OF 'emendatelaw43.IncrementEqualsScratch'. -/
def incrementEqualsScratchCard : Claim7 := { stood := { row := incrementEqualsScratchRow, standIns := [], harness := (true, "889c9d3dc87e8df00fe079685afb93029bb668955f0a79e73e7ca6fc6a445b50"), looks := false }, kinds := [], alts := [], laidByText := true, laidKinds := [.data], laidTests := true, laidLooks := .later }
def IncrementEqualsScratchCardSaid : Prop := Claim7.holds Tryz.pinned (.plain (OpenSpec.ofChange incrementEqualsScratchSpec)) incrementEqualsScratchCard

/-- THE TIED CARD OF 'emendatelaw43.IncrementTwice'. -/
def incrementTwiceCard : Claim7 := { stood := { row := incrementTwiceRow, standIns := [], harness := (true, "889c9d3dc87e8df00fe079685afb93029bb668955f0a79e73e7ca6fc6a445b50"), looks := false }, kinds := [], alts := [], laidByText := true, laidKinds := [.data], laidTests := true, laidLooks := .later }
def IncrementTwiceCardSaid : Prop := Claim7.holds Tryz.pinned (.plain (OpenSpec.ofChange incrementTwiceSpec)) incrementTwiceCard

/-- THE TIED CARD OF 'emendatelaw43.IncrementKeeps'. -/
def incrementKeepsCard : Claim7 := { stood := { row := incrementKeepsRow, standIns := [], harness := (true, "889c9d3dc87e8df00fe079685afb93029bb668955f0a79e73e7ca6fc6a445b50"), looks := false }, kinds := [], alts := [], laidByText := true, laidKinds := [.data], laidTests := true, laidLooks := .later }
def IncrementKeepsCardSaid : Prop := Claim7.holds Tryz.pinned (.plain (OpenSpec.ofChange incrementKeepsSpec)) incrementKeepsCard

/-- THE TIED CARD OF 'emendatelaw43.IncrementNothing'. -/
def incrementNothingCard : Claim7 := { stood := { row := incrementNothingRow, standIns := [], harness := (true, "889c9d3dc87e8df00fe079685afb93029bb668955f0a79e73e7ca6fc6a445b50"), looks := false }, kinds := [], alts := [], laidByText := true, laidKinds := [.data], laidTests := true, laidLooks := .later }
def IncrementNothingCardSaid : Prop := Claim7.holds Tryz.pinned (.plain (OpenSpec.ofChange incrementNothingSpec)) incrementNothingCard

/-- THE TIED CARD OF 'emendatelaw43.IncrementErrors'. -/
def incrementErrorsCard : Claim7 := { stood := { row := incrementErrorsRow, standIns := [], harness := (true, "889c9d3dc87e8df00fe079685afb93029bb668955f0a79e73e7ca6fc6a445b50"), looks := false }, kinds := [], alts := [], laidByText := true, laidKinds := [.data], laidTests := true, laidLooks := .later }
def IncrementErrorsCardSaid : Prop := Claim7.holds Tryz.pinned (.plain (OpenSpec.ofChange incrementErrorsSpec)) incrementErrorsCard

/-- THE TIED CARD OF 'emendatelaw43.IncrementSaves'. -/
def incrementSavesCard : Claim7 := { stood := { row := incrementSavesRow, standIns := [], harness := (true, "889c9d3dc87e8df00fe079685afb93029bb668955f0a79e73e7ca6fc6a445b50"), looks := false }, kinds := [], alts := [], laidByText := true, laidKinds := [.data], laidTests := true, laidLooks := .later }
def IncrementSavesCardSaid : Prop := Claim7.holds Tryz.pinned (.plain (OpenSpec.ofChange incrementSavesSpec)) incrementSavesCard

/-- THE SECOND FORM's CARD OF 'emendatelaw43.IncrementEqualsScratch'. -/
def incrementEqualsScratchUptoCard : Claim7 := { stood := { row := incrementEqualsScratchUptoRow, standIns := [], harness := (true, "889c9d3dc87e8df00fe079685afb93029bb668955f0a79e73e7ca6fc6a445b50"), looks := false }, kinds := [], alts := [], laidByText := true, laidKinds := [.data], laidTests := true, laidLooks := .later }
def IncrementEqualsScratchUptoCardSaid : Prop := Claim7.holds Tryz.pinned (.plain (OpenSpec.upto incrementEqualsScratchSpec)) incrementEqualsScratchUptoCard

/-- THE SECOND FORM's CARD OF 'emendatelaw43.IncrementTwice'. -/
def incrementTwiceUptoCard : Claim7 := { stood := { row := incrementTwiceUptoRow, standIns := [], harness := (true, "889c9d3dc87e8df00fe079685afb93029bb668955f0a79e73e7ca6fc6a445b50"), looks := false }, kinds := [], alts := [], laidByText := true, laidKinds := [.data], laidTests := true, laidLooks := .later }
def IncrementTwiceUptoCardSaid : Prop := Claim7.holds Tryz.pinned (.plain (OpenSpec.upto incrementTwiceSpec)) incrementTwiceUptoCard

/-- THE SECOND FORM's CARD OF 'emendatelaw43.IncrementKeeps'. -/
def incrementKeepsUptoCard : Claim7 := { stood := { row := incrementKeepsUptoRow, standIns := [], harness := (true, "889c9d3dc87e8df00fe079685afb93029bb668955f0a79e73e7ca6fc6a445b50"), looks := false }, kinds := [], alts := [], laidByText := true, laidKinds := [.data], laidTests := true, laidLooks := .later }
def IncrementKeepsUptoCardSaid : Prop := Claim7.holds Tryz.pinned (.plain (OpenSpec.upto incrementKeepsSpec)) incrementKeepsUptoCard

/-- THE SECOND FORM's CARD OF 'emendatelaw43.IncrementNothing'. -/
def incrementNothingUptoCard : Claim7 := { stood := { row := incrementNothingUptoRow, standIns := [], harness := (true, "889c9d3dc87e8df00fe079685afb93029bb668955f0a79e73e7ca6fc6a445b50"), looks := false }, kinds := [], alts := [], laidByText := true, laidKinds := [.data], laidTests := true, laidLooks := .later }
def IncrementNothingUptoCardSaid : Prop := Claim7.holds Tryz.pinned (.plain (OpenSpec.upto incrementNothingSpec)) incrementNothingUptoCard

/-- THE SECOND FORM's CARD OF 'emendatelaw43.IncrementErrors'. -/
def incrementErrorsUptoCard : Claim7 := { stood := { row := incrementErrorsUptoRow, standIns := [], harness := (true, "889c9d3dc87e8df00fe079685afb93029bb668955f0a79e73e7ca6fc6a445b50"), looks := false }, kinds := [], alts := [], laidByText := true, laidKinds := [.data], laidTests := true, laidLooks := .later }
def IncrementErrorsUptoCardSaid : Prop := Claim7.holds Tryz.pinned (.plain (OpenSpec.upto incrementErrorsSpec)) incrementErrorsUptoCard

/-- THE SECOND FORM's CARD OF 'emendatelaw43.IncrementSaves'. -/
def incrementSavesUptoCard : Claim7 := { stood := { row := incrementSavesUptoRow, standIns := [], harness := (true, "889c9d3dc87e8df00fe079685afb93029bb668955f0a79e73e7ca6fc6a445b50"), looks := false }, kinds := [], alts := [], laidByText := true, laidKinds := [.data], laidTests := true, laidLooks := .later }
def IncrementSavesUptoCardSaid : Prop := Claim7.holds Tryz.pinned (.plain (OpenSpec.upto incrementSavesSpec)) incrementSavesUptoCard
end Rows
end Go.Proofs.YtljcdomdjgolkaaGreatDoor
