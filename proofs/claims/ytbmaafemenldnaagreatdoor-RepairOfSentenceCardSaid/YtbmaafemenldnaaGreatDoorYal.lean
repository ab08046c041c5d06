/- Part. Conditions: none. -/
import Derived.Test.YtbmaafemenldnaaGreatDoorYak
set_option linter.all false
namespace Go.Proofs.YtbmaafemenldnaaGreatDoor
open Go.ChangeShapes Go.WideShapes Go.ChangeAt Go.RowKit Go.DM Go.Proofs
def an0:joinedFacts Tryz.pinned.checked.prog 5 Tryz.f5 (OpenSpec.ofChange Rows.repairOfSentenceSpec).bare Rows.repairOfSentenceRow=true:=by kernel_rfl
end Go.Proofs.YtbmaafemenldnaaGreatDoor
