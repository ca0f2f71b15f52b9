/-
  Contracts on placed texts: how the statements copy, compare and measure them.
-/
import Derived.Test.YtigcbnehcofbcaaDoorPlaced
namespace Go.Proofs.YtigcbnehcofbcaaDoor
open Go.RowKit
set_option linter.unusedVariables false

def Pl.val (p : Pl) : Value := .agg #[.int .i64 p.x, .int .i64 p.y, .string p.t]

theorem str_ne {s t : ByteArray} (h : ¬ s = t) : (s.toList == t.toList) = false := by
  rw [beq_eq_false_iff_ne, ByteArray.toList_eq, ByteArray.toList_eq]
  intro e
  apply h
  obtain ⟨⟨a⟩⟩ := s
  obtain ⟨⟨b⟩⟩ := t
  simp at e
  rw [e]




/-- What the measure says: not negative only where there are few elements and all texts are short. -/
def SzRes (w : World) (n : Nat) (sizes : List Nat) (left : Int) (e : Ending) (w' : World) : Prop :=
  ∃ r : Int, e = .returned (.int .i64 r) ∧ r ≤ left ∧ (0 ≤ r → n ≤ 1048576 ∧ ∀ s ∈ sizes, s ≤ 1048576) ∧ Below w.heap.size w w'

def SzRel (w : World) (n : Nat) (sizes : List Nat) (left : Int) (i v : Value) (wr : World) : Prop :=
  ∃ (k : Nat) (r : Int), k ≤ n ∧ i = .int .i64 k ∧ v = .int .i64 r ∧ 0 ≤ r ∧ r ≤ left ∧ (∀ j s, j < k → sizes[j]? = some s → s ≤ 1048576) ∧ Below w.heap.size w wr

theorem sz_all {sizes : List Nat} {n : Nat} (hl : sizes.length = n) (h : ∀ j s, j < n → sizes[j]? = some s → s ≤ 1048576) : ∀ s ∈ sizes, s ≤ 1048576 := by
  intro s hs
  obtain ⟨j, hj, rfl⟩ := List.getElem_of_mem hs
  exact h j _ (by omega) (List.getElem?_eq_getElem hj)
theorem sz_step {sizes : List Nat} {k s : Nat} (hs : sizes[k]? = some s) (hb : s ≤ 1048576) (h : ∀ j s, j < k → sizes[j]? = some s → s ≤ 1048576) : ∀ j s, j < k + 1 → sizes[j]? = some s → s ≤ 1048576 := by
  intro j s' hj hs'
  rcases Nat.lt_or_ge j k with h1 | h1
  · exact h j s' h1 hs'
  · obtain rfl : j = k := by omega
    rw [hs] at hs'
    injection hs' with hs'
    omega



theorem infoPlaced : (Tryd.prog.info? 45).map (fun i => (i.zero, i.size, i.bytes)) = some (some (.agg #[.int .i64 0, .int .i64 0, .string ⟨#[]⟩]), 3, 32) := by kernel_rfl

end Go.Proofs.YtigcbnehcofbcaaDoor
