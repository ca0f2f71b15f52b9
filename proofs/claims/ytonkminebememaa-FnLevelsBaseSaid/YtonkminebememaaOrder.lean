/-
  Contracts of slices.Reverse, of OrderOf and of reorder.
-/
import Derived.Test.YtonkminebememaaOrdPlain
import Derived.Test.YtonkminebememaaLevels
import Derived.Test.YtonkminebememaaCells
import Derived.Test.YtonkminebememaaShelf
namespace Go.Proofs.Ytonkminebememaa
open Go.RowKit
set_option linter.unusedVariables false

def nats (l : List Nat) : List Int := l.map Int.ofNat
theorem nats_get {l : List Nat} {k x : Nat} (h : l[k]? = some x) : (nats l)[k]? = some (x : Int) := by simp [nats, h]
theorem nats_revd (l : List Nat) (f m : Nat) : revd (nats l) f m = nats (revd l f m) := (revd_map _ l f m).symm
theorem nats_length (l : List Nat) : (nats l).length = l.length := by simp [nats]

/-- A row of the call's own: its numbers, and that nothing else is changed. -/
def RowIs (w0 : World) (base g n d : Nat) (xs : List Int) (w : World) : Prop := w.ownsRow base 3 1 (.slice (some ⟨g, 0, none⟩) n d) n (ints xs) ∧ w0.grownBy w (some g)
theorem RowIs.len {w0 : World} {base g n d : Nat} {xs : List Int} {w : World} (h : RowIs w0 base g n d xs w) : xs.length = n := by have := h.1.1; simpa [ints] using this
theorem RowIs.at {w0 : World} {base g n d : Nat} {xs : List Int} {w : World} (h : RowIs w0 base g n d xs w) {k : Nat} {v : Int} (hv : xs[k]? = some v) : w.cell? ⟨g, k, none⟩ = some (.int .i64 v) := by
  have hk : k < n := by rw [← h.len]; exact (List.getElem?_eq_some_iff.1 hv).1
  rw [h.1.cellAt k (by omega), ints, List.getElem?_map, hv]; rfl
theorem RowIs.free {w0 : World} {base g n d : Nat} {xs : List Int} {w : World} (h : RowIs w0 base g n d xs w) (k : Nat) : w.frozen? ⟨g, k, none⟩ = false := h.1.frozenAt k
theorem RowIs.set {w0 : World} {base g n d : Nat} {xs : List Int} {w : World} (h : RowIs w0 base g n d xs w) (k : Nat) (v : Int) : RowIs w0 base g n d (xs.set k v) (w.setCell ⟨g, k, none⟩ (.int .i64 v)) := by
  have h4 := h.1.stored k (.int .i64 v)
  rw [ints_set] at h4
  exact ⟨h4.1, h4.2.os.trans h.2.os, h4.2.tape.trans h.2.tape, h4.2.output.trans h.2.output, Nat.le_trans h.2.size h4.2.size, fun k hk hne => (h4.2.block k (Nat.lt_of_lt_of_le hk h.2.size) hne).trans (h.2.block k hk hne)⟩
theorem RowIs.drewN {w0 : World} {base g n d : Nat} {xs : List Int} {w : World} (h : RowIs w0 base g n d xs w) (q : Nat) : RowIs w0 base g n d xs (w.drewN q) :=
  ⟨h.1, h.2.os, h.2.tape, h.2.output, h.2.size, h.2.block⟩

theorem ahead_heap (w : World) (q : Nat) : (Sort.ahead w q).heap = w.heap := rfl
theorem putRow_heap {w : World} {g f : Nat} {E : TypeId} {cur : Array Value} (d : Array Int) (h : w.heap[g]? = some (.cells cur E (0, 0))) :
    (Sort.putRow (Value.int .i64) w g f d).heap[g]? = some (.cells (Sort.putCells (Value.int .i64) f d cur) E (0, 0)) := by
  simp [Sort.putRow, Sort.mapBlock, Array.getElem?_modify, h, Sort.onCells]
theorem putRow_block (w : World) (g f : Nat) (d : Array Int) (k : Nat) (hk : k ≠ g) : (Sort.putRow (Value.int .i64) w g f d).heap[k]? = w.heap[k]? := by
  simp only [Sort.putRow, Sort.mapBlock, Array.getElem?_modify]
  rw [if_neg (by omega)]

theorem row_rev {w0 : World} {base g n d f m q : Nat} {xs : List Int} {w : World} (h : RowIs w0 base g n d xs w) (hf : f + m ≤ n) (hs : Sort.Holds (Value.int .i64) w g f ((xs.drop f).take m).toArray) :
    RowIs w0 base g n d (revd xs f m) (Sort.putRow (Value.int .i64) (Sort.ahead w q) g f ((xs.drop f).take m).reverse.toArray) := by
  have hxl := h.len
  have hpl : ((xs.drop f).take m).length = m := by rw [List.length_take, List.length_drop]; omega
  have hold : ∀ j, j < n → w.cell? ⟨g, j, none⟩ = (ints xs)[j]? := fun j hj => h.1.cellAt j (by omega)
  refine ⟨?_, h.2.os, h.2.tape, h.2.output, ?_, fun k hk hne => ?_⟩
  · rcases h.1.2 with ⟨hv, _⟩ | ⟨g', cap, cur, hv, hg, hh, hn', hc, hz, hx⟩
    · cases hv
    injection hv with h1 _ h3
    injection h1 with h1
    injection h1 with h1
    subst h1; subst h3
    refine own_of_cells hg (putRow_heap (w := Sort.ahead w q) _ hh) (by simp [Sort.putCells]; omega) hn' hc (by rw [ints_length, revd_length (by omega), hxl]) (fun j hj => ?_)
    rw [ints, List.getElem?_map, revd_get (by omega)]
    by_cases c : f ≤ j ∧ j < f + m
    · rw [if_pos c]
      have h2 := Sort.cell?_putRow (Value.int .i64) (Sort.ahead w q) g f ((xs.drop f).take m).toArray ((xs.drop f).take m).reverse.toArray hs (by simp) (j - f) (by simp [hpl]; omega)
      rw [show f + (j - f) = j from by omega] at h2
      rw [h2]
      have h3 : ((xs.drop f).take m).reverse[j - f]? = xs[f + (m - 1 - (j - f))]? := by
        rw [List.getElem?_reverse (by omega), hpl, List.getElem?_take, if_pos (by omega), List.getElem?_drop]
      have h4 : xs[f + (m - 1 - (j - f))]? = some (xs[f + (m - 1 - (j - f))]'(by omega)) := List.getElem?_eq_getElem _
      rw [h4] at h3 ⊢
      simp only [List.getElem!_toArray, Option.map_some]
      rw [List.getElem!_eq_getElem?_getD, h3]
      rfl
    · rw [if_neg c]
      rw [Sort.cell?_putRow_other (Value.int .i64) (Sort.ahead w q) g f _ ⟨g, j, none⟩ (by simp [hpl]; omega)]
      have := hold j hj
      rw [ints, List.getElem?_map] at this
      exact this
  · rw [Sort.size_putRow]; exact h.2.size
  · rw [putRow_block _ _ _ _ _ (fun e => hne (by rw [e]))]
    exact h.2.block k hk hne

theorem reverse_any (w0 : World) (base g n d f m c : Nat) (xs : List Int) (w : World) (h : RowIs w0 base g n d xs w) (hf : f + m ≤ n) (hn : n ≤ 1000) :
    Calls Try.prog 31 #[.slice (some ⟨g, f, none⟩) m c] w fun e w' => e = .returned (.tuple #[]) ∧ RowIs w0 base g n d (revd xs f m) w' := by
  have hxl := h.len
  have hpl : ((xs.drop f).take m).length = m := by rw [List.length_take, List.length_drop]; omega
  have hs : Sort.Holds (Value.int .i64) w g f ((xs.drop f).take m).toArray := by
    intro j hj
    rw [List.size_toArray, hpl] at hj
    have h1 : ((xs.drop f).take m)[j]? = some (xs[f + j]'(by omega)) := by
      rw [List.getElem?_take, if_pos hj, List.getElem?_drop, List.getElem?_eq_getElem]
    refine ⟨?_, h.free _⟩
    rw [h.at (List.getElem?_eq_getElem (show f + j < xs.length by omega))]
    simp only [List.getElem!_toArray]
    rw [List.getElem!_eq_getElem?_getD, h1]
    rfl
  have hc := Try.slices_Reverse_int g f c ((xs.drop f).take m) w hs (by omega)
  rw [hpl] at hc
  refine hc.mono ?_
  rintro e w' ⟨rfl, q, rfl⟩
  exact ⟨rfl, row_rev h hf hs⟩
end Go.Proofs.Ytonkminebememaa
