/-
  DERIVED. GIVEN WITH THE SEED: THE PROGRAM's TIES (one call each: nine closed facts by the kernel) AND EACH ROW's TIE, after the 31st guide's Derived/Test/Toyas{Tie, Card}.lean. No idea stands in it: it is a product of the set-up. Laid BY PROGRAM, IN A SANDBOX (cutbox-door.mjs). By AI agents, Wed Nov 11 2026. No macro, syntax, notation, axiom, sorry.
-/
import Derived.Test.YtbmaafemenldnaaGreatDoorRows
import Derived.LaidByTextLater
import Derived.SevenTiedAt
import Derived.LaidSub
import Derived.LaidOnce
namespace Go.Proofs.YtbmaafemenldnaaGreatDoor
open Go
set_option maxRecDepth 100000
theorem seatTie1 : Tryz.prog.laidByTextLater [("emendate/editscript.actions", Rows.laid_emendate_editscript_actions), ("math/bits.deBruijn32tab", Rows.laid_math_bits_deBruijn32tab), ("math/bits.deBruijn64tab", Rows.laid_math_bits_deBruijn64tab), ("internal/strconv.uint64pow10", Rows.laid_internal_strconv_uint64pow10), ("emendate/chart.none", Rows.laid_emendate_chart_none)] [.funcs, .data, .data, .data, .data] true :=
  Program.laidByTextLater_by_one 35 8 65 (by kernel_rfl) (by kernel_rfl) (by kernel_rfl) (by kernel_rfl) (by kernel_rfl) (by kernel_rfl) (fun _ _ => by kernel_rfl)
theorem noOwnUnsafe : Tryz.pinned.checked.prog.headLifts.contains "ownunsafe" = false := by kernel_rfl
theorem tie : Tryz.prog.laidByTextLater [("emendate/editscript.actions", Rows.laid_emendate_editscript_actions), ("emendate/chart.none", Rows.laid_emendate_chart_none)] [.funcs, .data] true :=
  Program.laidByTextLater.sub seatTie1 ["emendate/editscript.actions", "emendate/chart.none"] (by kernel_rfl) (by kernel_rfl)
theorem repairMatchesReference_row_tie : Rows.repairMatchesReferenceRow.laidByTextAt .later Tryz.pinned [.funcs, .data] true :=
  OpenClaim.laidByTextAt_later rfl rfl tie noOwnUnsafe
theorem repairIsValid_row_tie : Rows.repairIsValidRow.laidByTextAt .later Tryz.pinned [.funcs, .data] true :=
  OpenClaim.laidByTextAt_later rfl rfl tie noOwnUnsafe
theorem repairOfSentence_row_tie : Rows.repairOfSentenceRow.laidByTextAt .later Tryz.pinned [.funcs, .data] true :=
  OpenClaim.laidByTextAt_later rfl rfl tie noOwnUnsafe
theorem repairIsStable_row_tie : Rows.repairIsStableRow.laidByTextAt .later Tryz.pinned [.funcs, .data] true :=
  OpenClaim.laidByTextAt_later rfl rfl tie noOwnUnsafe
theorem certcheckAcceptsCertificates_row_tie : Rows.certcheckAcceptsCertificatesRow.laidByTextAt .later Tryz.pinned [.funcs, .data] true :=
  OpenClaim.laidByTextAt_later rfl rfl tie noOwnUnsafe
theorem tie2 : Tryz.prog.laidByTextLater [("emendate/editscript.actions", Rows.laid_emendate_editscript_actions), ("math/bits.deBruijn32tab", Rows.laid_math_bits_deBruijn32tab), ("math/bits.deBruijn64tab", Rows.laid_math_bits_deBruijn64tab), ("internal/strconv.uint64pow10", Rows.laid_internal_strconv_uint64pow10), ("emendate/chart.none", Rows.laid_emendate_chart_none)] [.funcs, .data, .data, .data, .data] true :=
  Program.laidByTextLater.sub seatTie1 ["emendate/editscript.actions", "math/bits.deBruijn32tab", "math/bits.deBruijn64tab", "internal/strconv.uint64pow10", "emendate/chart.none"] (by kernel_rfl) (by kernel_rfl)
theorem repairOfDerivations_row_tie : Rows.repairOfDerivationsRow.laidByTextAt .later Tryz.pinned [.funcs, .data, .data, .data, .data] true :=
  OpenClaim.laidByTextAt_later rfl rfl tie2 noOwnUnsafe
theorem repairMatchesReferenceUpto_row_tie : Rows.repairMatchesReferenceUptoRow.laidByTextAt .later Tryz.pinned [.funcs, .data] true :=
  OpenClaim.laidByTextAt_later rfl rfl tie noOwnUnsafe
theorem repairIsValidUpto_row_tie : Rows.repairIsValidUptoRow.laidByTextAt .later Tryz.pinned [.funcs, .data] true :=
  OpenClaim.laidByTextAt_later rfl rfl tie noOwnUnsafe
theorem repairOfSentenceUpto_row_tie : Rows.repairOfSentenceUptoRow.laidByTextAt .later Tryz.pinned [.funcs, .data] true :=
  OpenClaim.laidByTextAt_later rfl rfl tie noOwnUnsafe
theorem repairIsStableUpto_row_tie : Rows.repairIsStableUptoRow.laidByTextAt .later Tryz.pinned [.funcs, .data] true :=
  OpenClaim.laidByTextAt_later rfl rfl tie noOwnUnsafe
theorem repairOfDerivationsUpto_row_tie : Rows.repairOfDerivationsUptoRow.laidByTextAt .later Tryz.pinned [.funcs, .data, .data, .data, .data] true :=
  OpenClaim.laidByTextAt_later rfl rfl tie2 noOwnUnsafe
theorem certcheckAcceptsCertificatesUpto_row_tie : Rows.certcheckAcceptsCertificatesUptoRow.laidByTextAt .later Tryz.pinned [.funcs, .data] true :=
  OpenClaim.laidByTextAt_later rfl rfl tie noOwnUnsafe
end Go.Proofs.YtbmaafemenldnaaGreatDoor
