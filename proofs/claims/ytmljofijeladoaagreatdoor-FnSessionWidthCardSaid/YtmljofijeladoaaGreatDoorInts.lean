/-
  Contracts of the small functions on []int that the statements use: they copy a list, compare two lists, and count what two lists have in common.
-/
import Derived.Test.YtmljofijeladoaaGreatDoorProg
import Derived.Test.YtmljofijeladoaaGreatDoorBase
namespace Go.Proofs.YtmljofijeladoaaGreatDoor
open Go.RowKit
set_option linter.unusedVariables false




theorem infoInt : (Tryz.prog.info? 3).map (fun i => (i.zero, i.size, i.bytes)) = some (some (.int .i64 0), 1, 8) := by kernel_rfl

theorem elemInt : ElemT Tryz.prog 31 3 1 := ElemT.of Tryz.underlying31 infoInt rfl (by omega) (by omega)

end Go.Proofs.YtmljofijeladoaaGreatDoor
