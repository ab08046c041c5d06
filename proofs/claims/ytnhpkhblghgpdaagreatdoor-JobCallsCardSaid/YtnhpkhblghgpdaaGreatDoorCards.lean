/-
  DERIVED. GIVEN WITH THE SEED: THE CARDS: each row of YtnhpkhblghgpdaaGreatDoorRows.lean that lists a variable, with what it lists TIED to the program's text (the seventh form; the later family's looks); each row that meets fmt, with fmt's text TOLD by the authors' own Lean function (tested against real Go, not proved from fmt's source: count such statements apart). THE CARD IS WHAT COUNTS. Prove the row's statement (the work); the ties are given (YtnhpkhblghgpdaaGreatDoorTie.lean); close each card by the builder's one call (the guide's Derived/Test/ToyasCard.lean, 'card_holds'). Laid BY PROGRAM, IN A SANDBOX (cutbox-door.mjs). By AI agents, Wed Nov 11 2026. No macro, syntax, notation, axiom, sorry.
-/
import Derived.Test.YtnhpkhblghgpdaaGreatDoorRows
import GoSem.ClaimSeven
namespace Go.Proofs.YtnhpkhblghgpdaaGreatDoor
namespace Rows

/-- THE TIED CARD OF 'emendatelaw47.JobPartition'. -/
def jobPartitionCard : Claim7 := { stood := { row := jobPartitionRow, standIns := [], harness := (true, "a861755f47f9b81cb4d71dd273841f52f907f1ba7e0f0217f69fc0a255e21ae9"), looks := false }, kinds := [], alts := [], laidByText := true, laidKinds := [.data], laidTests := true, laidLooks := .later }
def JobPartitionCardSaid : Prop := Claim7.holds Tryz.pinned (.plain (OpenSpec.ofChange jobPartitionSpec)) jobPartitionCard

/-- THE TIED CARD OF 'emendatelaw47.JobCalls'. -/
def jobCallsCard : Claim7 := { stood := { row := jobCallsRow, standIns := [], harness := (true, "a861755f47f9b81cb4d71dd273841f52f907f1ba7e0f0217f69fc0a255e21ae9"), looks := false }, kinds := [], alts := [], laidByText := true, laidKinds := [.data], laidTests := true, laidLooks := .later }
def JobCallsCardSaid : Prop := Claim7.holds Tryz.pinned (.plain (OpenSpec.ofChange jobCallsSpec)) jobCallsCard

/-- THE TIED CARD OF 'emendatelaw47.JobInterleaved'. -/
def jobInterleavedCard : Claim7 := { stood := { row := jobInterleavedRow, standIns := [], harness := (true, "a861755f47f9b81cb4d71dd273841f52f907f1ba7e0f0217f69fc0a255e21ae9"), looks := false }, kinds := [], alts := [], laidByText := true, laidKinds := [.data], laidTests := true, laidLooks := .later }
def JobInterleavedCardSaid : Prop := Claim7.holds Tryz.pinned (.plain (OpenSpec.ofChange jobInterleavedSpec)) jobInterleavedCard

/-- THE TIED CARD OF 'emendatelaw47.JobCanceled'. -/
def jobCanceledCard : Claim7 := { stood := { row := jobCanceledRow, standIns := [], harness := (true, "a861755f47f9b81cb4d71dd273841f52f907f1ba7e0f0217f69fc0a255e21ae9"), looks := false }, kinds := [], alts := [], laidByText := true, laidKinds := [.data], laidTests := true, laidLooks := .later }
def JobCanceledCardSaid : Prop := Claim7.holds Tryz.pinned (.plain (OpenSpec.ofChange jobCanceledSpec)) jobCanceledCard

/-- THE TIED CARD OF 'emendatelaw47.JobNil'. -/
def jobNilCard : Claim7 := { stood := { row := jobNilRow, standIns := [], harness := (true, "a861755f47f9b81cb4d71dd273841f52f907f1ba7e0f0217f69fc0a255e21ae9"), looks := false }, kinds := [], alts := [], laidByText := true, laidKinds := [.data], laidTests := true, laidLooks := .later }
def JobNilCardSaid : Prop := Claim7.holds Tryz.pinned (.plain (OpenSpec.ofChange jobNilSpec)) jobNilCard

/-- THE SECOND FORM's CARD OF 'emendatelaw47.JobPartition'. -/
def jobPartitionUptoCard : Claim7 := { stood := { row := jobPartitionUptoRow, standIns := [], harness := (true, "a861755f47f9b81cb4d71dd273841f52f907f1ba7e0f0217f69fc0a255e21ae9"), looks := false }, kinds := [], alts := [], laidByText := true, laidKinds := [.data], laidTests := true, laidLooks := .later }
def JobPartitionUptoCardSaid : Prop := Claim7.holds Tryz.pinned (.plain (OpenSpec.upto jobPartitionSpec)) jobPartitionUptoCard

/-- THE SECOND FORM's CARD OF 'emendatelaw47.JobCalls'. -/
def jobCallsUptoCard : Claim7 := { stood := { row := jobCallsUptoRow, standIns := [], harness := (true, "a861755f47f9b81cb4d71dd273841f52f907f1ba7e0f0217f69fc0a255e21ae9"), looks := false }, kinds := [], alts := [], laidByText := true, laidKinds := [.data], laidTests := true, laidLooks := .later }
def JobCallsUptoCardSaid : Prop := Claim7.holds Tryz.pinned (.plain (OpenSpec.upto jobCallsSpec)) jobCallsUptoCard

/-- THE SECOND FORM's CARD OF 'emendatelaw47.JobInterleaved'. -/
def jobInterleavedUptoCard : Claim7 := { stood := { row := jobInterleavedUptoRow, standIns := [], harness := (true, "a861755f47f9b81cb4d71dd273841f52f907f1ba7e0f0217f69fc0a255e21ae9"), looks := false }, kinds := [], alts := [], laidByText := true, laidKinds := [.data], laidTests := true, laidLooks := .later }
def JobInterleavedUptoCardSaid : Prop := Claim7.holds Tryz.pinned (.plain (OpenSpec.upto jobInterleavedSpec)) jobInterleavedUptoCard

/-- THE SECOND FORM's CARD OF 'emendatelaw47.JobCanceled'. -/
def jobCanceledUptoCard : Claim7 := { stood := { row := jobCanceledUptoRow, standIns := [], harness := (true, "a861755f47f9b81cb4d71dd273841f52f907f1ba7e0f0217f69fc0a255e21ae9"), looks := false }, kinds := [], alts := [], laidByText := true, laidKinds := [.data], laidTests := true, laidLooks := .later }
def JobCanceledUptoCardSaid : Prop := Claim7.holds Tryz.pinned (.plain (OpenSpec.upto jobCanceledSpec)) jobCanceledUptoCard

/-- THE SECOND FORM's CARD OF 'emendatelaw47.JobNil'. -/
def jobNilUptoCard : Claim7 := { stood := { row := jobNilUptoRow, standIns := [], harness := (true, "a861755f47f9b81cb4d71dd273841f52f907f1ba7e0f0217f69fc0a255e21ae9"), looks := false }, kinds := [], alts := [], laidByText := true, laidKinds := [.data], laidTests := true, laidLooks := .later }
def JobNilUptoCardSaid : Prop := Claim7.holds Tryz.pinned (.plain (OpenSpec.upto jobNilSpec)) jobNilUptoCard
end Rows
end Go.Proofs.YtnhpkhblghgpdaaGreatDoor
