/-
  A row of the call's own after several stores at once: it reads as before, but for the cells that were stored.
-/
import Derived.Test.YtdgmienljhaipaaDoorInts
import Derived.Laws.IdiomCopy
namespace Go.Proofs.YtdgmienljhaipaaDoor
open Go.RowKit
set_option linter.unusedVariables false

theorem setCells_heap (b : Nat) (E : TypeId) : ∀ (vs : List Value) (o : Nat) (w : World) (cur : Array Value), w.heap[b]? = some (.cells cur E (0, 0)) → ∃ cur', (w.setCells b o vs).heap[b]? = some (.cells cur' E (0, 0)) ∧ cur'.size = cur.size
  | [], _, _, cur, h => ⟨cur, h, rfl⟩
  | v :: r, o, w, cur, h => by
    rw [World.setCells]
    obtain ⟨cur', h1, h2⟩ := setCells_heap b E r (o + 1) (w.setCell ⟨b, o, none⟩ v) (cur.setIfInBounds o v) (heap_setCell_same w b o cur E v h)
    exact ⟨cur', h1, by rw [h2]; simp⟩
theorem setCells_grown (b : Nat) : ∀ (vs : List Value) (o : Nat) (w : World), w.grownBy (w.setCells b o vs) (some b)
  | [], _, w => World.grownBy.refl w _
  | v :: r, o, w => by
    have h1 : w.grownBy (w.setCell ⟨b, o, none⟩ v) (some b) := ⟨rfl, rfl, rfl, by simp [World.setCell], fun k _ hk => Below.heap_setCell _ _ _ _ (fun e => hk (congrArg some e))⟩
    have h2 := setCells_grown b r (o + 1) (w.setCell ⟨b, o, none⟩ v)
    rw [World.setCells]
    exact ⟨h2.os.trans h1.os, h2.tape.trans h1.tape, h2.output.trans h1.output, Nat.le_trans h1.size h2.size, fun k hk hne => (h2.block k (Nat.lt_of_lt_of_le hk h1.size) hne).trans (h1.block k hk hne)⟩
theorem own_of_cells {w : World} {base g cap n : Nat} {E : TypeId} {cur : Array Value} {xs : List Value} (hb : base ≤ g) (hg : w.heap[g]? = some (.cells cur E (0, 0))) (hs : cur.size = cap) (hn : n ≤ cap) (hm : cap ≤ maxLen) (hl : xs.length = n)
    (hc : ∀ j, j < n → w.cell? ⟨g, j, none⟩ = xs[j]?) : w.ownsRow base E 1 (.slice (some ⟨g, 0, none⟩) n cap) n xs := by
  refine ⟨by omega, .inr ⟨g, cap, cur, rfl, hb, hg, hn, hm, by omega, ?_⟩⟩
  rw [Nat.mul_one]
  refine ext_upto (n := n) (by rw [List.length_take, Array.length_toList]; omega) hl (fun j hj => ?_)
  rw [← hc j hj, cell_of_row w g j cur E (0, 0) hg, List.getElem?_take, if_pos hj]
  simp

/-- A part put into a list. -/
def insL (xs vs : List Value) (p : Nat) : List Value := xs.take p ++ (vs ++ xs.drop p)
theorem insL_get {xs vs : List Value} {p j : Nat} (hp : p ≤ xs.length) : (insL xs vs p)[j]? = if j < p then xs[j]? else if j < p + vs.length then vs[j - p]? else xs[j - vs.length]? := by
  unfold insL
  have hl : (xs.take p).length = p := by rw [List.length_take]; omega
  split
  · rw [List.getElem?_append_left (by omega), List.getElem?_take, if_pos (by omega)]
  · rw [List.getElem?_append_right (by omega), hl]
    split
    · rw [List.getElem?_append_left (by omega)]
    · rw [List.getElem?_append_right (by omega), List.getElem?_drop]
      congr 1
      omega
theorem insL_length {xs vs : List Value} {p : Nat} (hp : p ≤ xs.length) : (insL xs vs p).length = xs.length + vs.length := by
  unfold insL
  rw [List.length_append, List.length_append, List.length_take, List.length_drop]
  omega

/-- Cells of a part laid behind others of the same block. -/
theorem cell_in {b : Nat} {vs : List Value} {o k : Nat} {w : World} (h : ∀ j, j < vs.length → (w.cell? ⟨b, o + j, none⟩).isSome = true) (h1 : o ≤ k) (h2 : k < o + vs.length) : (w.setCells b o vs).cell? ⟨b, k, none⟩ = vs[k - o]? := by
  have h := World.cell?_setCells_in b vs o w h (k - o) (by omega)
  rw [show o + (k - o) = k from by omega] at h
  rw [h, List.getElem?_eq_getElem]
theorem cell_out {b : Nat} {vs : List Value} {o k : Nat} {w : World} (h : k < o ∨ o + vs.length ≤ k) : (w.setCells b o vs).cell? ⟨b, k, none⟩ = w.cell? ⟨b, k, none⟩ :=
  World.cell?_setCells_out b vs o w ⟨b, k, none⟩ (fun _ _ => h)

/-- Made room by moving what stands from p on, then laid the part. -/
theorem own_shift {w W : World} {base g n c p : Nat} {E : TypeId} {xs vs : List Value} (hB : base ≤ w.heap.size) (h : w.ownsRow base E 1 (.slice (some ⟨g, 0, none⟩) n c) n xs) (hp : p ≤ n) (hroom : n + vs.length ≤ c) (hW : W = (w.drew.setCells g (p + vs.length) (xs.drop p)).setCells g p vs) :
    W.ownsRow base E 1 (.slice (some ⟨g, 0, none⟩) (n + vs.length) c) (n + vs.length) (insL xs vs p) ∧ w.grownBy W (some g) := by
  have hxl : xs.length = n := by have := h.1; omega
  rcases h.2 with ⟨hv, _⟩ | ⟨g', cap, cur, hv, hg, hh, hn', hc, hz, hx⟩
  · cases hv
  injection hv with h1 _ h3
  injection h1 with h1
  injection h1 with h1
  subst h1; subst h3
  rw [Nat.mul_one] at hz hx
  have hh' : w.drew.heap[g]? = some (.cells cur E (0, 0)) := hh
  obtain ⟨c1, k1, s1⟩ := setCells_heap g E (xs.drop p) (p + vs.length) w.drew cur hh'
  obtain ⟨c2, k2, s2⟩ := setCells_heap g E vs p _ c1 k1
  rw [← hW] at k2
  have hall : ∀ j, j < c → (w.drew.cell? ⟨g, j, none⟩).isSome = true := fun j hj => by
    have : w.drew.cell? ⟨g, j, none⟩ = cur[j]? := cell_of_row w g j cur E (0, 0) hh
    rw [this, Array.getElem?_eq_getElem (by omega)]; rfl
  have hdl : (xs.drop p).length = n - p := by rw [List.length_drop, hxl]
  have hall2 : ∀ j, j < c → (((w.drew.setCells g (p + vs.length) (xs.drop p))).cell? ⟨g, j, none⟩).isSome = true := fun j hj => by
    by_cases hin : p + vs.length ≤ j ∧ j < p + vs.length + (xs.drop p).length
    · rw [cell_in (fun i hi => hall _ (by omega)) hin.1 hin.2, List.getElem?_eq_getElem (by omega)]; rfl
    · rw [cell_out (by omega)]; exact hall j hj
  have hold : ∀ j, j < n → w.drew.cell? ⟨g, j, none⟩ = xs[j]? := fun j hj => h.cellAt j (by omega)
  refine ⟨own_of_cells hg k2 (by omega) hroom hc (by rw [insL_length (by omega), hxl]) (fun j hj => ?_), ?_⟩
  · rw [insL_get (by omega), hW]
    by_cases c1 : j < p
    · rw [if_pos c1, cell_out (by omega), cell_out (by omega)]
      exact hold j (by omega)
    · rw [if_neg c1]
      by_cases c2 : j < p + vs.length
      · rw [if_pos c2, cell_in (fun i hi => hall2 _ (by omega)) (by omega) (by omega)]
      · rw [if_neg c2, cell_out (by omega), cell_in (fun i hi => hall _ (by omega)) (by omega) (by omega), List.getElem?_drop]
        congr 1
        omega
  · rw [hW]
    have h1 := setCells_grown g (xs.drop p) (p + vs.length) w.drew
    have h2 := setCells_grown g vs p (w.drew.setCells g (p + vs.length) (xs.drop p))
    exact ⟨h2.os.trans h1.os, h2.tape.trans h1.tape, h2.output.trans h1.output, Nat.le_trans h1.size h2.size, fun k hk hne => (h2.block k (Nat.lt_of_lt_of_le hk h1.size) hne).trans (h1.block k hk hne)⟩

theorem own_endroom {w : World} {base g n c : Nat} {E : TypeId} {xs vs : List Value} (h : w.ownsRow base E 1 (.slice (some ⟨g, 0, none⟩) n c) n xs) (hroom : n + vs.length ≤ c) :
    (w.setCells g n vs).ownsRow base E 1 (.slice (some ⟨g, 0, none⟩) (n + vs.length) c) (n + vs.length) (insL xs vs n) ∧ w.grownBy (w.setCells g n vs) (some g) := by
  have hxl : xs.length = n := by have := h.1; omega
  rcases h.2 with ⟨hv, _⟩ | ⟨g', cap, cur, hv, hg, hh, hn', hc, hz, hx⟩
  · cases hv
  injection hv with h1 _ h3
  injection h1 with h1
  injection h1 with h1
  subst h1; subst h3
  rw [Nat.mul_one] at hz hx
  obtain ⟨c1, k1, s1⟩ := setCells_heap g E vs n w cur hh
  have hall : ∀ j, j < c → (w.cell? ⟨g, j, none⟩).isSome = true := fun j hj => by
    rw [cell_of_row w g j cur E (0, 0) hh, Array.getElem?_eq_getElem (by omega)]; rfl
  refine ⟨own_of_cells hg k1 (by omega) hroom hc (by rw [insL_length (by omega), hxl]) (fun j hj => ?_), setCells_grown g vs n w⟩
  rw [insL_get (by omega)]
  by_cases c1 : j < n
  · rw [if_pos c1, cell_out (by omega)]
    exact h.cellAt j (by omega)
  · rw [if_neg c1, if_pos hj, cell_in (fun i hi => hall _ (by omega)) (by omega) (by omega)]

theorem below_setCells {B b : Nat} {a w : World} (h : Below B a w) (hb : B ≤ b) (hs : B ≤ w.heap.size) (o : Nat) (vs : List Value) : Below B a (w.setCells b o vs) :=
  h.grown (setCells_grown b vs o w) hs (fun k hk => by injection hk with hk; omega)

theorem own_grow {w W : World} {n p G : Nat} {E : TypeId} {xs vs : List Value} {cur0 : Array Value} (hl : xs.length = n) (hp : p ≤ n) (hG : n + vs.length ≤ G) (hGm : G ≤ maxLen) (hs : cur0.size = G) (h0 : ∀ j, j < p → cur0[j]? = xs[j]?)
    (hW : W = (((w.alloc (.cells cur0 E)).drew.setCells w.heap.size p vs).drew).setCells w.heap.size (p + vs.length) (xs.drop p)) :
    W.ownsRow w.heap.size E 1 (.slice (some ⟨w.heap.size, 0, none⟩) (n + vs.length) G) (n + vs.length) (insL xs vs p) ∧ Below w.heap.size w W := by
  have hh : (w.alloc (.cells cur0 E)).drew.heap[w.heap.size]? = some (.cells cur0 E (0, 0)) := heap_alloc_new w _
  obtain ⟨c1, k1, s1⟩ := setCells_heap w.heap.size E vs p _ cur0 hh
  obtain ⟨c2, k2, s2⟩ := setCells_heap w.heap.size E (xs.drop p) (p + vs.length) ((w.alloc (.cells cur0 E)).drew.setCells w.heap.size p vs).drew c1 k1
  rw [← hW] at k2
  have hcell : ∀ j, (w.alloc (.cells cur0 E)).drew.cell? ⟨w.heap.size, j, none⟩ = cur0[j]? := fun j => cell_of_row _ w.heap.size j cur0 E (0, 0) hh
  have hall : ∀ j, j < G → ((w.alloc (.cells cur0 E)).drew.cell? ⟨w.heap.size, j, none⟩).isSome = true := fun j hj => by
    rw [hcell, Array.getElem?_eq_getElem (by omega)]; rfl
  have hdl : (xs.drop p).length = n - p := by rw [List.length_drop, hl]
  have hall2 : ∀ j, j < G → ((((w.alloc (.cells cur0 E)).drew.setCells w.heap.size p vs).drew).cell? ⟨w.heap.size, j, none⟩).isSome = true := fun j hj => by
    have hd : (((w.alloc (.cells cur0 E)).drew.setCells w.heap.size p vs).drew).cell? ⟨w.heap.size, j, none⟩ = ((w.alloc (.cells cur0 E)).drew.setCells w.heap.size p vs).cell? ⟨w.heap.size, j, none⟩ := rfl
    rw [hd]
    by_cases hin : p ≤ j ∧ j < p + vs.length
    · rw [cell_in (fun i hi => hall _ (by omega)) hin.1 hin.2, List.getElem?_eq_getElem (by omega)]; rfl
    · rw [cell_out (by omega)]; exact hall j hj
  refine ⟨own_of_cells (Nat.le_refl _) k2 (by omega) hG hGm (by rw [insL_length (by omega), hl]) (fun j hj => ?_), ?_⟩
  · rw [insL_get (by omega), hW]
    have hd : ∀ x, (((w.alloc (.cells cur0 E)).drew.setCells w.heap.size p vs).drew).cell? x = ((w.alloc (.cells cur0 E)).drew.setCells w.heap.size p vs).cell? x := fun _ => rfl
    by_cases c1 : j < p
    · rw [if_pos c1, cell_out (by omega), hd, cell_out (by omega), hcell]
      exact h0 j c1
    · rw [if_neg c1]
      by_cases c2 : j < p + vs.length
      · rw [if_pos c2, cell_out (by omega), hd, cell_in (fun i hi => hall _ (by omega)) (by omega) (by omega)]
      · rw [if_neg c2, cell_in (fun i hi => hall2 _ (by omega)) (by omega) (by omega), List.getElem?_drop]
        congr 1
        omega
  · rw [hW]
    have b1 : Below w.heap.size w (w.alloc (.cells cur0 E)).drew := ((Below.refl _ w).alloc (Nat.le_refl _) _).drew
    have b2 := below_setCells b1 (Nat.le_refl _) b1.size p vs
    exact below_setCells b2.drew (Nat.le_refl _) b2.size _ _

theorem own_endgrow {w : World} {n G : Nat} {E : TypeId} {xs vs : List Value} {cur0 : Array Value} (hl : xs.length = n) (hG : n + vs.length ≤ G) (hGm : G ≤ maxLen) (hs : cur0.size = G) (h0 : ∀ j, j < n + vs.length → cur0[j]? = (xs ++ vs)[j]?) :
    (w.drew.alloc (.cells cur0 E)).ownsRow w.heap.size E 1 (.slice (some ⟨w.heap.size, 0, none⟩) (n + vs.length) G) (n + vs.length) (insL xs vs n) ∧ Below w.heap.size w (w.drew.alloc (.cells cur0 E)) := by
  have hh : (w.drew.alloc (.cells cur0 E)).heap[w.heap.size]? = some (.cells cur0 E (0, 0)) := heap_alloc_new w.drew _
  have he : insL xs vs n = xs ++ vs := by unfold insL; rw [List.take_of_length_le (by omega), List.drop_of_length_le (by omega), List.append_nil]
  refine ⟨own_of_cells (Nat.le_refl _) hh hs hG hGm (by rw [insL_length (by omega), hl]) (fun j hj => ?_), (Below.refl _ w).drew.alloc (Nat.le_refl _) _⟩
  rw [cell_of_row _ w.heap.size j cur0 E (0, 0) hh, he]
  exact h0 j hj
end Go.Proofs.YtdgmienljhaipaaDoor
