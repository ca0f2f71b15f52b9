/-
  Contracts of markText and of the functions that write texts as marks into a slice and ask for them again.
-/
import Derived.Test.YtmljofijeladoaaDoorMarks
import Derived.Test.YtmljofijeladoaaDoorStrs
import Derived.Laws.IdiomStrings
import Derived.Laws.Concat
namespace Go.Proofs.YtmljofijeladoaaDoor
open Go.RowKit
set_option linter.unusedVariables false




end Go.Proofs.YtmljofijeladoaaDoor
