/-
  From what a statement lists of the library's variables, and from the shape of the world, to what the contracts ask: the two errors, the limit.
-/
import Derived.Test.YtmnmdecbehfegaaDoorTxtLaid
import Derived.Test.YtmnmdecbehfegaaDoorTxtDecI
import Derived.RowKitTokens
import Derived.Shelf.Vars
namespace Go.Proofs.YtmnmdecbehfegaaDoor
open Go.RowKit
set_option linter.unusedVariables false

theorem starE : "*" ++ "errors.errorString" = "*errors.errorString" := by decide
theorem rowE (u : TypeId) (h : Tryd.prog.typeName? 3 u = some "*errors.errorString") : u = 126 :=
  typeName_ptr_named (nm := "errors.errorString") (by rw [starE]; kernel_rfl) (by kernel_rfl) (by decide) u (by rw [starE]; exact h)
theorem gS : Tryd.prog.globalNamed "strconv.ErrSyntax" = some 0 := by kernel_rfl
theorem gR : Tryd.prog.globalNamed "strconv.ErrRange" = some 1 := by kernel_rfl
theorem cellsES : Tryd.prog.cellsOf 128 = 1 := by kernel_rfl
theorem cellsStr : Tryd.prog.cellsOf 9 = 1 := by kernel_rfl
theorem at_of {a b c d : String × DataW Unit} {rest : List (String × DataW Unit)} {W : World}
    (h : laidMet Tryd.prog (a :: b :: c :: d :: ("strconv.ErrRange", Rows.laid_strconv_ErrRange) :: ("strconv.ErrSyntax", Rows.laid_strconv_ErrSyntax) :: rest) W) : AT W := by
  have h4 := h.tail.tail.tail.tail
  obtain ⟨a1, s1, v1, _, _, _⟩ := laid_sentinel h4 gR (by kernel_rfl) Tryd.underlying63 rowE Tryd.underlying126 Tryd.underlying128 rfl rfl Tryd.underlying9 cellsES cellsStr
  obtain ⟨a2, s2, v2, _, _, _⟩ := laid_sentinel h4.tail gS (by kernel_rfl) Tryd.underlying63 rowE Tryd.underlying126 Tryd.underlying128 rfl rfl Tryd.underlying9 cellsES cellsStr
  exact ⟨⟨_, by simpa using World.var?_cell gS v2 0, .inr ⟨_, _, rfl⟩⟩, ⟨_, by simpa using World.var?_cell gR v1 0, .inr ⟨_, _, rfl⟩⟩⟩
theorem ml_of {W : World} (h : W.ShapedOpen Tryd.prog) : ML W :=
  cell_of_shapedOpen_int (t := 3) (zero := #[.int .i64 0]) h (by decide +kernel) (by kernel_rfl) rfl (by kernel_rfl) (by kernel_rfl) Tryd.underlying3
end Go.Proofs.YtmnmdecbehfegaaDoor
