/-
  DERIVED. GIVEN WITH THE SEED: THE CARDS: each row of YtfbeehmfabkomaaDoorRows.lean that lists a variable, with what it lists TIED to the program's text (the seventh form; the later family's looks); each row that meets fmt, with fmt's text TOLD by the authors' own Lean function (tested against real Go, not proved from fmt's source: count such statements apart). THE CARD IS WHAT COUNTS. Prove the row's statement (the work); the ties are given (YtfbeehmfabkomaaDoorTie.lean); close each card by the builder's one call (the guide's Derived/Test/ToyasCard.lean, 'card_holds'). Laid BY PROGRAM, IN A SANDBOX (cutbox-door.mjs). By AI agents, Wed Nov 11 2026. No macro, syntax, notation, axiom, sorry.
-/
import Derived.Test.YtfbeehmfabkomaaDoorRows
import GoSem.ClaimSeven
namespace Go.Proofs.YtfbeehmfabkomaaDoor
namespace Rows

/-- THE TIED CARD OF 'emendatelaw45.CertcheckLowerMatchesReference'. -/
def certcheckLowerMatchesReferenceCard : Claim7 := { stood := { row := certcheckLowerMatchesReferenceRow, standIns := [], harness := (true, "a1fd7bc99575d8a121afc720d485f048def6563f1cb5777c792e00ea727e37e8"), looks := false }, kinds := [], alts := [], laidByText := true, laidKinds := [.funcs], laidTests := true, laidLooks := .later }
def CertcheckLowerMatchesReferenceCardSaid : Prop := Claim7.holds Tryd.pinned (.plain (OpenSpec.ofChange certcheckLowerMatchesReferenceSpec)) certcheckLowerMatchesReferenceCard

/-- THE TIED CARD OF 'emendatelaw45.CertcheckLowerIsSound'. -/
def certcheckLowerIsSoundCard : Claim7 := { stood := { row := certcheckLowerIsSoundRow, standIns := [], harness := (true, "a1fd7bc99575d8a121afc720d485f048def6563f1cb5777c792e00ea727e37e8"), looks := false }, kinds := [], alts := [], laidByText := true, laidKinds := [.funcs], laidTests := true, laidLooks := .later }
def CertcheckLowerIsSoundCardSaid : Prop := Claim7.holds Tryd.pinned (.plain (OpenSpec.ofChange certcheckLowerIsSoundSpec)) certcheckLowerIsSoundCard

/-- THE TIED CARD OF 'emendatelaw45.CertcheckAcceptedIsOptimal'. -/
def certcheckAcceptedIsOptimalCard : Claim7 := { stood := { row := certcheckAcceptedIsOptimalRow, standIns := [], harness := (true, "a1fd7bc99575d8a121afc720d485f048def6563f1cb5777c792e00ea727e37e8"), looks := false }, kinds := [], alts := [], laidByText := true, laidKinds := [.funcs], laidTests := true, laidLooks := .later }
def CertcheckAcceptedIsOptimalCardSaid : Prop := Claim7.holds Tryd.pinned (.plain (OpenSpec.ofChange certcheckAcceptedIsOptimalSpec)) certcheckAcceptedIsOptimalCard

/-- THE TIED CARD OF 'emendatelaw45.CertcheckTrueCosts'. -/
def certcheckTrueCostsCard : Claim7 := { stood := { row := certcheckTrueCostsRow, standIns := [], harness := (true, "a1fd7bc99575d8a121afc720d485f048def6563f1cb5777c792e00ea727e37e8"), looks := false }, kinds := [], alts := [], laidByText := true, laidKinds := [.funcs], laidTests := true, laidLooks := .later }
def CertcheckTrueCostsCardSaid : Prop := Claim7.holds Tryd.pinned (.plain (OpenSpec.ofChange certcheckTrueCostsSpec)) certcheckTrueCostsCard

/-- THE TIED CARD OF 'emendatelaw45.CertcheckSmallerBound'. -/
def certcheckSmallerBoundCard : Claim7 := { stood := { row := certcheckSmallerBoundRow, standIns := [], harness := (true, "a1fd7bc99575d8a121afc720d485f048def6563f1cb5777c792e00ea727e37e8"), looks := false }, kinds := [], alts := [], laidByText := true, laidKinds := [.funcs], laidTests := true, laidLooks := .later }
def CertcheckSmallerBoundCardSaid : Prop := Claim7.holds Tryd.pinned (.plain (OpenSpec.ofChange certcheckSmallerBoundSpec)) certcheckSmallerBoundCard

/-- THE SECOND FORM's CARD OF 'emendatelaw45.CertcheckLowerMatchesReference'. -/
def certcheckLowerMatchesReferenceUptoCard : Claim7 := { stood := { row := certcheckLowerMatchesReferenceUptoRow, standIns := [], harness := (true, "a1fd7bc99575d8a121afc720d485f048def6563f1cb5777c792e00ea727e37e8"), looks := false }, kinds := [], alts := [], laidByText := true, laidKinds := [.funcs], laidTests := true, laidLooks := .later }
def CertcheckLowerMatchesReferenceUptoCardSaid : Prop := Claim7.holds Tryd.pinned (.plain (OpenSpec.upto certcheckLowerMatchesReferenceSpec)) certcheckLowerMatchesReferenceUptoCard

/-- THE SECOND FORM's CARD OF 'emendatelaw45.CertcheckLowerIsSound'. -/
def certcheckLowerIsSoundUptoCard : Claim7 := { stood := { row := certcheckLowerIsSoundUptoRow, standIns := [], harness := (true, "a1fd7bc99575d8a121afc720d485f048def6563f1cb5777c792e00ea727e37e8"), looks := false }, kinds := [], alts := [], laidByText := true, laidKinds := [.funcs], laidTests := true, laidLooks := .later }
def CertcheckLowerIsSoundUptoCardSaid : Prop := Claim7.holds Tryd.pinned (.plain (OpenSpec.upto certcheckLowerIsSoundSpec)) certcheckLowerIsSoundUptoCard

/-- THE SECOND FORM's CARD OF 'emendatelaw45.CertcheckAcceptedIsOptimal'. -/
def certcheckAcceptedIsOptimalUptoCard : Claim7 := { stood := { row := certcheckAcceptedIsOptimalUptoRow, standIns := [], harness := (true, "a1fd7bc99575d8a121afc720d485f048def6563f1cb5777c792e00ea727e37e8"), looks := false }, kinds := [], alts := [], laidByText := true, laidKinds := [.funcs], laidTests := true, laidLooks := .later }
def CertcheckAcceptedIsOptimalUptoCardSaid : Prop := Claim7.holds Tryd.pinned (.plain (OpenSpec.upto certcheckAcceptedIsOptimalSpec)) certcheckAcceptedIsOptimalUptoCard

/-- THE SECOND FORM's CARD OF 'emendatelaw45.CertcheckTrueCosts'. -/
def certcheckTrueCostsUptoCard : Claim7 := { stood := { row := certcheckTrueCostsUptoRow, standIns := [], harness := (true, "a1fd7bc99575d8a121afc720d485f048def6563f1cb5777c792e00ea727e37e8"), looks := false }, kinds := [], alts := [], laidByText := true, laidKinds := [.funcs], laidTests := true, laidLooks := .later }
def CertcheckTrueCostsUptoCardSaid : Prop := Claim7.holds Tryd.pinned (.plain (OpenSpec.upto certcheckTrueCostsSpec)) certcheckTrueCostsUptoCard

/-- THE SECOND FORM's CARD OF 'emendatelaw45.CertcheckSmallerBound'. -/
def certcheckSmallerBoundUptoCard : Claim7 := { stood := { row := certcheckSmallerBoundUptoRow, standIns := [], harness := (true, "a1fd7bc99575d8a121afc720d485f048def6563f1cb5777c792e00ea727e37e8"), looks := false }, kinds := [], alts := [], laidByText := true, laidKinds := [.funcs], laidTests := true, laidLooks := .later }
def CertcheckSmallerBoundUptoCardSaid : Prop := Claim7.holds Tryd.pinned (.plain (OpenSpec.upto certcheckSmallerBoundSpec)) certcheckSmallerBoundUptoCard
end Rows
end Go.Proofs.YtfbeehmfabkomaaDoor
