/-
  Contracts of the small functions on []int that the statements use: they copy a list, compare two lists, and count what two lists have in common.
-/
import Derived.Test.YtigcbnehcofbcaaProg
import Derived.Test.YtigcbnehcofbcaaBase
namespace Go.Proofs.Ytigcbnehcofbcaa
open Go.RowKit
set_option linter.unusedVariables false




theorem infoInt : (Try.prog.info? 3).map (fun i => (i.zero, i.size, i.bytes)) = some (some (.int .i64 0), 1, 8) := by kernel_rfl

theorem elemInt : ElemT Try.prog 57 3 1 := ElemT.of Try.underlying57 infoInt rfl (by omega) (by omega)

end Go.Proofs.Ytigcbnehcofbcaa
