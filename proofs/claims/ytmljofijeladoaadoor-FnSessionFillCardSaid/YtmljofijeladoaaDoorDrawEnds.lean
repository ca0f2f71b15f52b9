/-
  Contracts of the reference's generators of lists of numbers: someEnds, DrawKeptLines.
-/
import Derived.Test.YtmljofijeladoaaDoorReader
import Derived.Test.YtmljofijeladoaaDoorInts
namespace Go.Proofs.YtmljofijeladoaaDoor
open Go.RowKit
set_option linter.unusedVariables false

/-- A list of at most 'most' numbers in new memory; the reader has gone on by at most K. -/
def MadeInts (w : World) (B g : Nat) (A : Option Addr) (n c : Nat) (bs : List Int) (p K most : Nat) (e : Ending) (w' : World) : Prop :=
  ∃ L m d xs p', e = .returned (.slice L m d) ∧ m ≤ most ∧ w'.ownsRow w.heap.size 3 1 (.slice L m d) m (ints xs) ∧ p' ≤ p + K ∧ RdrAt w' B g A n c bs p' ∧ w.grownBy w' (some g)

def EndsRel (w : World) (B g : Nat) (A : Option Addr) (n c : Nat) (bs : List Int) (p N : Nat) (v i : Value) (wr : World) : Prop :=
  ∃ (k m : Nat) (xs : List Int) (p' : Nat), 1 ≤ k ∧ k ≤ N + 1 ∧ i = .int .i64 k ∧ m < k ∧ wr.ownsRow w.heap.size 3 1 v m (ints xs) ∧ p' + 2 ≤ p + 2 * k ∧ RdrAt wr B g A n c bs p' ∧ w.grownBy wr (some g)

theorem own_ints_len {w : World} {base : Nat} {E : TypeId} {v : Value} {m : Nat} {xs : List Int} (h : w.ownsRow base E 1 v m (ints xs)) : xs.length = m := by
  have := h.1; simpa [ints] using this

theorem rel_app {w wr w1 : World} {B g : Nat} {A : Option Addr} {n c : Nat} {bs : List Int} {p' m : Nat} {v v' : Value} {xs : List Int} {o : Obj} {x : Int}
    (hgs : g < w.heap.size) (hB : B ≤ w.heap.size) (hown : wr.ownsRow w.heap.size 3 1 v m (ints xs)) (hr : RdrAt wr B g A n c bs p') (hg : w.grownBy wr (some g))
    (h1 : w1.ownsRow w.heap.size 3 1 v' (m + 1) (ints xs ++ [.int .i64 x])) (h2 : (wr.alloc o).grownBy w1 v.ownBlock) :
    w1.ownsRow w.heap.size 3 1 v' (m + 1) (ints (xs ++ [x])) ∧ RdrAt w1 B g A n c bs p' ∧ w.grownBy w1 (some g) := by
  have hrow : ∀ k, v.ownBlock = some k → w.heap.size ≤ k := fun k hk => (hown.lt k hk).1
  exact ⟨by simpa [ints] using h1, (hr.alloc o).grown h2 (fun k hk => Nat.le_trans hB (hrow k hk)), gr_own (gr_alloc hg o) h2 (fun k hk => .inl (hrow k hk))⟩


end Go.Proofs.YtmljofijeladoaaDoor
