/-
  From what a statement lists of the library's variables to what the contracts ask: the table of powers of ten.
-/
import Derived.Test.YtmnmdecbehfegaaDoorTxtEnc
import Derived.Test.YtmnmdecbehfegaaDoorRows
import Derived.Lib.LaidTab
import Derived.Stop.LaidErr
namespace Go.Proofs.YtmnmdecbehfegaaDoor
open Go.RowKit
set_option linter.unusedVariables false

theorem tab_eq : (Rows.laid_internal_strconv_uint64pow10 : DataW Unit) = Lib.tabData .u64 Lib.pow10Tab := by kernel_rfl
theorem tb_of {a b : String × DataW Unit} {rest : List (String × DataW Unit)} {W : World} (h : laidMet Tryd.prog (a :: b :: ("internal/strconv.uint64pow10", Rows.laid_internal_strconv_uint64pow10) :: rest) W) : TB W := by
  have h2 := h.tail.tail
  rw [tab_eq] at h2
  exact Lib.tabIs_of_head (g := 2) (t := 120) (e := 103) (n := 20) (by kernel_rfl) (by kernel_rfl) (by kernel_rfl) (by kernel_rfl) (by kernel_rfl) (by kernel_rfl) h2
end Go.Proofs.YtmnmdecbehfegaaDoor
