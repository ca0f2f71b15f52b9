/-
  Contracts of the functions that write marks into a slice and ask for them again (integers).
-/
import Derived.Test.YtmnmdecbehfegaaDoorInts
namespace Go.Proofs.YtmnmdecbehfegaaDoor
open Go.RowKit
set_option linter.unusedVariables false

theorem own_cap {w : World} {base : Nat} {E : TypeId} {size : Nat} {L : Option Addr} {n c : Nat} {xs : List Value} (h : w.ownsRow base E size (.slice L n c) n xs) (hn : 0 < n) :
    ∃ g, L = some ⟨g, 0, none⟩ ∧ base ≤ g ∧ g < w.heap.size ∧ n ≤ c ∧ c ≤ maxLen := by
  rcases h.2 with ⟨_, h1⟩ | ⟨g', cap, cur, hv, hg, hh, hn', hc, hz, hx⟩
  · omega
  · injection hv with h1 h2 h3
    subst h1; subst h3
    exact ⟨g', rfl, hg, (Array.getElem?_eq_some_iff.1 hh).1, hn', hc⟩

/-- Behind a call that has written to one row alone, another row, of a block of its own, is as it was. -/
theorem own_apart {w w' : World} {base base' : Nat} {E E' : TypeId} {size size' : Nat} {v v' : Value} {n n' : Nat} {xs xs' : List Value} (h : w.ownsRow base E size v n xs) (h' : w.ownsRow base' E' size' v' n' xs')
    (hg : w.grownBy w' v'.ownBlock) (hne : ∀ k, v.ownBlock = some k → v'.ownBlock = some k → False) : w'.ownsRow base E size v n xs := by
  refine h.kept hg ?_
  cases hb : v.ownBlock with
  | none => exact .inl rfl
  | some k => exact .inr (fun e => hne k hb e.symm)

theorem marks_set (a k i : Nat) (xs : List Int) (hi : i < xs.length) :
    (((List.range i).map fun j => ((k + j : Nat) : Int)) ++ xs.drop i).set i ((k + i : Nat) : Int) = ((List.range (i + 1)).map fun j => ((k + j : Nat) : Int)) ++ xs.drop (i + 1) := by
  rw [List.set_append_right _ _ (by simp)]
  have h1 : i - ((List.range i).map fun j => ((k + j : Nat) : Int)).length = 0 := by simp
  rw [h1, List.drop_eq_getElem_cons hi, List.set_cons_zero, List.range_succ, List.map_append]
  simp

/-- The numbers from k on. -/
def marks (k n : Nat) : List Int := (List.range n).map fun j => ((k + j : Nat) : Int)
theorem marks_length (k n : Nat) : (marks k n).length = n := by simp [marks]
theorem marks_get (k n j : Nat) (h : j < n) : (marks k n)[j]? = some ((k + j : Nat) : Int) := by simp [marks, h]
theorem ints_marks_set (k i : Nat) (xs : List Int) (hi : i < xs.length) : (ints (marks k i ++ xs.drop i)).set i (.int .i64 ((k + i : Nat) : Int)) = ints (marks k (i + 1) ++ xs.drop (i + 1)) := by
  unfold ints marks; rw [← marks_set 0 k i xs hi, List.map_set]

theorem gr_refl_own (w : World) (v : Value) : w.grownBy w v.ownBlock := World.grownBy.refl _ _
theorem gr_set_own {w wr : World} {g : Nat} {n c : Nat} (h : w.grownBy wr (Value.slice (some ⟨g, 0, none⟩) n c).ownBlock) (i : Nat) (u : Value) : w.grownBy (wr.setCell ⟨g, i, none⟩ u) (Value.slice (some ⟨g, 0, none⟩) n c).ownBlock :=
  ⟨h.os, h.tape, h.output, by simpa [World.setCell] using h.size, fun k hk hne => (Below.heap_setCell _ _ _ _ (fun e => hne (by simp [Value.ownBlock, e]))).trans (h.block k hk hne)⟩



end Go.Proofs.YtmnmdecbehfegaaDoor
