/-
  Contracts of the small functions on []int that the statements use: they copy a list, compare two lists, and count what two lists have in common.
-/
import Derived.Test.YtmnmdecbehfegaaDoorProg
import Derived.Test.YtmnmdecbehfegaaDoorBase
namespace Go.Proofs.YtmnmdecbehfegaaDoor
open Go.RowKit
set_option linter.unusedVariables false




theorem infoInt : (Tryd.prog.info? 3).map (fun i => (i.zero, i.size, i.bytes)) = some (some (.int .i64 0), 1, 8) := by kernel_rfl

theorem elemInt : ElemT Tryd.prog 89 3 1 := ElemT.of Tryd.underlying89 infoInt rfl (by omega) (by omega)

end Go.Proofs.YtmnmdecbehfegaaDoor
