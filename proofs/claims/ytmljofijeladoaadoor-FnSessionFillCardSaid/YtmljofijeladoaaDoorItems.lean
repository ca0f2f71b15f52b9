/-
  Contracts on items: when one is valid, the program's word and the reference's.
-/
import Derived.Test.YtmljofijeladoaaDoorRange
namespace Go.Proofs.YtmljofijeladoaaDoor
open Go.RowKit
set_option linter.unusedVariables false

structure It where
  k : Int
  w : Int
  st : Int
  sh : Int
  p : Int
  f : Bool
  deriving DecidableEq

def It.cells (x : It) : List Value := [.int .i64 x.k, .int .i64 x.w, .int .i64 x.st, .int .i64 x.sh, .int .i64 x.p, .bool x.f]
def items (l : List It) : List Value := l.flatMap It.cells
theorem It.cells_length (x : It) : x.cells.length = 6 := rfl

theorem Rd.item_at {w : World} {A : Option Addr} {n : Nat} {l : List It} (h : Rd w 6 A n (items l)) {k : Nat} (hk : k < n) :
    ∃ b o x, A = some ⟨b, o, none⟩ ∧ l[k]? = some x ∧ w.cell? ⟨b, o + k * 6, none⟩ = some (.int .i64 x.k) ∧ w.cell? ⟨b, o + k * 6 + 1, none⟩ = some (.int .i64 x.w) ∧ w.cell? ⟨b, o + k * 6 + 2, none⟩ = some (.int .i64 x.st) ∧
      w.cell? ⟨b, o + k * 6 + 3, none⟩ = some (.int .i64 x.sh) ∧ w.cell? ⟨b, o + k * 6 + 4, none⟩ = some (.int .i64 x.p) ∧ w.cell? ⟨b, o + k * 6 + 5, none⟩ = some (.bool x.f) := by
  obtain ⟨b, o, x, e, hx, hc⟩ := Rd.elem_at It.cells_length (by omega) h hk
  exact ⟨b, o, x, e, hx, hc 0 (by omega), hc 1 (by omega), hc 2 (by omega), hc 3 (by omega), hc 4 (by omega), hc 5 (by omega)⟩
theorem Rd.item_len {w : World} {A : Option Addr} {n : Nat} {l : List It} (h : Rd w 6 A n (items l)) : l.length = n := Rd.elem_len It.cells_length (by omega) h

/-- A valid item. -/
def vIt (x : It) : Bool :=
  (x.k == 1 && inB 0 1000 x.w && x.st == 0 && x.sh == 0 && x.p == 0 && !x.f) ||
  (x.k == 2 && inB 0 1000 x.w && inB 0 1000 x.st && inB 0 x.w x.sh && x.p == 0 && !x.f) ||
  (x.k == 3 && inB 0 1000 x.w && x.st == 0 && x.sh == 0 && inB (-1000) 1000 x.p)



end Go.Proofs.YtmljofijeladoaaDoor
