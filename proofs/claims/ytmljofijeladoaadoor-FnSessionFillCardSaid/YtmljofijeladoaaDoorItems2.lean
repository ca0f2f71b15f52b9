/-
  Contracts on paragraphs: when a list of items is one, the program's word and the reference's.
-/
import Derived.Test.YtmljofijeladoaaDoorItems
namespace Go.Proofs.YtmljofijeladoaaDoor
open Go.RowKit
set_option linter.unusedVariables false

/-- A forced break. -/
def frc (x : It) : Bool := x.k == 3 && x.p == -1000
def vItems (l : List It) : Bool := inB 1 60 (l.length : Int) && l.all vIt && (match l.getLast? with | some x => frc x | none => false)

theorem items_bad {l : List It} {k : Nat} {x : It} (hx : l[k]? = some x) (h : vIt x = false) : vItems l = false := by
  have : l.all vIt = false := by
    rw [List.all_eq_false]
    exact ⟨x, List.mem_of_getElem? hx, by simp [h]⟩
  rw [vItems, this, Bool.and_false]; rfl
theorem items_step {l : List It} {k : Nat} {x : It} (hx : l[k]? = some x) (h : (l.take k).all vIt = true) (hv : vIt x = true) : (l.take (k + 1)).all vIt = true := by
  rw [List.take_add_one, hx, List.all_append, h]
  simp [hv]
theorem items_end {l : List It} {n : Nat} (hl : l.length = n) (h : (l.take n).all vIt = true) {x : It} (hx : l[n - 1]? = some x) : vItems l = (inB 1 60 (n : Int) && frc x) := by
  rw [← hl, List.take_length] at h
  have h2 : l.getLast? = some x := by rw [List.getLast?_eq_getElem?, hl]; exact hx
  rw [vItems, h, h2, hl, Bool.and_true]
theorem items_short {l : List It} {n : Nat} (hl : l.length = n) (h : inB 1 60 (n : Int) = false) : vItems l = false := by
  rw [vItems, hl, h]; rfl

def ItsRel (W : World) (l : List It) (n : Nat) (i : Value) (wr : World) : Prop :=
  ∃ k : Nat, k ≤ n ∧ i = .int .i64 k ∧ (l.take k).all vIt = true ∧ Below W.heap.size W wr



end Go.Proofs.YtmljofijeladoaaDoor
