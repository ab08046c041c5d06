/-
  DERIVED. GIVEN WITH THE SEED: THE CARDS: each row of YtbmaafemenldnaaGreatDoorRows.lean that lists a variable, with what it lists TIED to the program's text (the seventh form; the later family's looks); each row that meets fmt, with fmt's text TOLD by the authors' own Lean function (tested against real Go, not proved from fmt's source: count such statements apart). THE CARD IS WHAT COUNTS. Prove the row's statement (the work); the ties are given (YtbmaafemenldnaaGreatDoorTie.lean); close each card by the builder's one call (the guide's Derived/Test/ToyasCard.lean, 'card_holds'). Laid BY PROGRAM, IN A SANDBOX (cutbox-door.mjs). By AI agents, Wed Nov 11 2026. No macro, syntax, notation, axiom, sorry.
-/
import Derived.Test.YtbmaafemenldnaaGreatDoorRows
import GoSem.ClaimSeven
namespace Go.Proofs.YtbmaafemenldnaaGreatDoor
namespace Rows

/-- THE TIED CARD OF 'emendatelaw41.RepairMatchesReference'. -/
def repairMatchesReferenceCard : Claim7 := { stood := { row := repairMatchesReferenceRow, standIns := [], harness := (true, "2bda4c28e43203d99c2b3ae9ba2a8bc4764fd1008c85abc8c38ff6b5ad8c49f1"), looks := false }, kinds := [], alts := [], laidByText := true, laidKinds := [.funcs, .data], laidTests := true, laidLooks := .later }
def RepairMatchesReferenceCardSaid : Prop := Claim7.holds Tryz.pinned (.plain (OpenSpec.ofChange repairMatchesReferenceSpec)) repairMatchesReferenceCard

/-- THE TIED CARD OF 'emendatelaw41.RepairIsValid'. -/
def repairIsValidCard : Claim7 := { stood := { row := repairIsValidRow, standIns := [], harness := (true, "2bda4c28e43203d99c2b3ae9ba2a8bc4764fd1008c85abc8c38ff6b5ad8c49f1"), looks := false }, kinds := [], alts := [], laidByText := true, laidKinds := [.funcs, .data], laidTests := true, laidLooks := .later }
def RepairIsValidCardSaid : Prop := Claim7.holds Tryz.pinned (.plain (OpenSpec.ofChange repairIsValidSpec)) repairIsValidCard

/-- THE TIED CARD OF 'emendatelaw41.RepairOfSentence'. -/
def repairOfSentenceCard : Claim7 := { stood := { row := repairOfSentenceRow, standIns := [], harness := (true, "2bda4c28e43203d99c2b3ae9ba2a8bc4764fd1008c85abc8c38ff6b5ad8c49f1"), looks := false }, kinds := [], alts := [], laidByText := true, laidKinds := [.funcs, .data], laidTests := true, laidLooks := .later }
def RepairOfSentenceCardSaid : Prop := Claim7.holds Tryz.pinned (.plain (OpenSpec.ofChange repairOfSentenceSpec)) repairOfSentenceCard

/-- THE TIED CARD OF 'emendatelaw41.RepairIsStable'. -/
def repairIsStableCard : Claim7 := { stood := { row := repairIsStableRow, standIns := [], harness := (true, "2bda4c28e43203d99c2b3ae9ba2a8bc4764fd1008c85abc8c38ff6b5ad8c49f1"), looks := false }, kinds := [], alts := [], laidByText := true, laidKinds := [.funcs, .data], laidTests := true, laidLooks := .later }
def RepairIsStableCardSaid : Prop := Claim7.holds Tryz.pinned (.plain (OpenSpec.ofChange repairIsStableSpec)) repairIsStableCard

/-- THE TIED CARD OF 'emendatelaw41.RepairOfDerivations'. -/
def repairOfDerivationsCard : Claim7 := { stood := { row := repairOfDerivationsRow, standIns := [], harness := (true, "2bda4c28e43203d99c2b3ae9ba2a8bc4764fd1008c85abc8c38ff6b5ad8c49f1"), looks := false }, kinds := [], alts := [], laidByText := true, laidKinds := [.funcs, .data, .data, .data, .data], laidTests := true, laidLooks := .later }
def RepairOfDerivationsCardSaid : Prop := Claim7.holds Tryz.pinned (.plain (OpenSpec.ofChange repairOfDerivationsSpec)) repairOfDerivationsCard

/-- THE TIED CARD OF 'emendatelaw45.CertcheckAcceptsCertificates'. -/
def certcheckAcceptsCertificatesCard : Claim7 := { stood := { row := certcheckAcceptsCertificatesRow, standIns := [], harness := (true, "2bda4c28e43203d99c2b3ae9ba2a8bc4764fd1008c85abc8c38ff6b5ad8c49f1"), looks := false }, kinds := [], alts := [], laidByText := true, laidKinds := [.funcs, .data], laidTests := true, laidLooks := .later }
def CertcheckAcceptsCertificatesCardSaid : Prop := Claim7.holds Tryz.pinned (.plain (OpenSpec.ofChange certcheckAcceptsCertificatesSpec)) certcheckAcceptsCertificatesCard

/-- THE SECOND FORM's CARD OF 'emendatelaw41.RepairMatchesReference'. -/
def repairMatchesReferenceUptoCard : Claim7 := { stood := { row := repairMatchesReferenceUptoRow, standIns := [], harness := (true, "2bda4c28e43203d99c2b3ae9ba2a8bc4764fd1008c85abc8c38ff6b5ad8c49f1"), looks := false }, kinds := [], alts := [], laidByText := true, laidKinds := [.funcs, .data], laidTests := true, laidLooks := .later }
def RepairMatchesReferenceUptoCardSaid : Prop := Claim7.holds Tryz.pinned (.plain (OpenSpec.upto repairMatchesReferenceSpec)) repairMatchesReferenceUptoCard

/-- THE SECOND FORM's CARD OF 'emendatelaw41.RepairIsValid'. -/
def repairIsValidUptoCard : Claim7 := { stood := { row := repairIsValidUptoRow, standIns := [], harness := (true, "2bda4c28e43203d99c2b3ae9ba2a8bc4764fd1008c85abc8c38ff6b5ad8c49f1"), looks := false }, kinds := [], alts := [], laidByText := true, laidKinds := [.funcs, .data], laidTests := true, laidLooks := .later }
def RepairIsValidUptoCardSaid : Prop := Claim7.holds Tryz.pinned (.plain (OpenSpec.upto repairIsValidSpec)) repairIsValidUptoCard

/-- THE SECOND FORM's CARD OF 'emendatelaw41.RepairOfSentence'. -/
def repairOfSentenceUptoCard : Claim7 := { stood := { row := repairOfSentenceUptoRow, standIns := [], harness := (true, "2bda4c28e43203d99c2b3ae9ba2a8bc4764fd1008c85abc8c38ff6b5ad8c49f1"), looks := false }, kinds := [], alts := [], laidByText := true, laidKinds := [.funcs, .data], laidTests := true, laidLooks := .later }
def RepairOfSentenceUptoCardSaid : Prop := Claim7.holds Tryz.pinned (.plain (OpenSpec.upto repairOfSentenceSpec)) repairOfSentenceUptoCard

/-- THE SECOND FORM's CARD OF 'emendatelaw41.RepairIsStable'. -/
def repairIsStableUptoCard : Claim7 := { stood := { row := repairIsStableUptoRow, standIns := [], harness := (true, "2bda4c28e43203d99c2b3ae9ba2a8bc4764fd1008c85abc8c38ff6b5ad8c49f1"), looks := false }, kinds := [], alts := [], laidByText := true, laidKinds := [.funcs, .data], laidTests := true, laidLooks := .later }
def RepairIsStableUptoCardSaid : Prop := Claim7.holds Tryz.pinned (.plain (OpenSpec.upto repairIsStableSpec)) repairIsStableUptoCard

/-- THE SECOND FORM's CARD OF 'emendatelaw41.RepairOfDerivations'. -/
def repairOfDerivationsUptoCard : Claim7 := { stood := { row := repairOfDerivationsUptoRow, standIns := [], harness := (true, "2bda4c28e43203d99c2b3ae9ba2a8bc4764fd1008c85abc8c38ff6b5ad8c49f1"), looks := false }, kinds := [], alts := [], laidByText := true, laidKinds := [.funcs, .data, .data, .data, .data], laidTests := true, laidLooks := .later }
def RepairOfDerivationsUptoCardSaid : Prop := Claim7.holds Tryz.pinned (.plain (OpenSpec.upto repairOfDerivationsSpec)) repairOfDerivationsUptoCard

/-- THE SECOND FORM's CARD OF 'emendatelaw45.CertcheckAcceptsCertificates'. -/
def certcheckAcceptsCertificatesUptoCard : Claim7 := { stood := { row := certcheckAcceptsCertificatesUptoRow, standIns := [], harness := (true, "2bda4c28e43203d99c2b3ae9ba2a8bc4764fd1008c85abc8c38ff6b5ad8c49f1"), looks := false }, kinds := [], alts := [], laidByText := true, laidKinds := [.funcs, .data], laidTests := true, laidLooks := .later }
def CertcheckAcceptsCertificatesUptoCardSaid : Prop := Claim7.holds Tryz.pinned (.plain (OpenSpec.upto certcheckAcceptsCertificatesSpec)) certcheckAcceptsCertificatesUptoCard
end Rows
end Go.Proofs.YtbmaafemenldnaaGreatDoor
