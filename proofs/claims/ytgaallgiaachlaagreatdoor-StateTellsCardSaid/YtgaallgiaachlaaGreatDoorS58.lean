/-
  Facts about the statement StateTells that the kernel computes.
-/
import Derived.Test.YtgaallgiaachlaaGreatDoorCd
import Derived.Test.YtgaallgiaachlaaGreatDoorCards
import Derived.Test.YtgaallgiaachlaaGreatDoorTie
import Derived.SevenTiedAt
namespace Go.Proofs.YtgaallgiaachlaaGreatDoor
open Go.ChangeShapes Go.WideShapes Go.RowKit Go.Own
set_option maxRecDepth 100000 in
theorem RF:joinedFacts Tryz.checked.prog 3 Tryz.f3 Rows.stateTellsSpec Rows.stateTellsRow=true:=by kernel_rfl
end Go.Proofs.YtgaallgiaachlaaGreatDoor
