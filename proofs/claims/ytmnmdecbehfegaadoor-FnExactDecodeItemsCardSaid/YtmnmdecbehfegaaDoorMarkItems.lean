/-
  Contracts of the functions that write marks into a list of items and ask for them again.
-/
import Derived.Test.YtmnmdecbehfegaaDoorItems4
namespace Go.Proofs.YtmnmdecbehfegaaDoor
open Go.RowKit
set_option linter.unusedVariables false

theorem own_capI {w : World} {base : Nat} {E : TypeId} {size : Nat} {L : Option Addr} {n c : Nat} {xs : List Value} (h : w.ownsRow base E size (.slice L n c) n xs) (hn : 0 < n) :
    ∃ g, L = some ⟨g, 0, none⟩ ∧ base ≤ g ∧ g < w.heap.size ∧ n ≤ c ∧ c ≤ maxLen := by
  rcases h.2 with ⟨_, h1⟩ | ⟨g', cap, cur, hv, hg, hh, hn', hc, hz, hx⟩
  · omega
  · injection hv with h1 h2 h3
    subst h1; subst h3
    exact ⟨g', rfl, hg, (Array.getElem?_eq_some_iff.1 hh).1, hn', hc⟩

/-- The item that the marks from k on make. -/
def mIt (k : Int) : It := ⟨k, k + 1, k + 1 + 1, k + 1 + 1 + 1, k + 1 + 1 + 1 + 1, (k + 1 + 1 + 1 + 1 + 1) % 3 == 0⟩
def imarks (k : Int) (n : Nat) : List It := (List.range n).map fun j : Nat => mIt (k + 6 * (j : Int))
theorem imarks_length (k : Int) (n : Nat) : (imarks k n).length = n := by simp [imarks]
theorem imarks_get (k : Int) (n j : Nat) (h : j < n) : (imarks k n)[j]? = some (mIt (k + 6 * (j : Int))) := by simp [imarks, h]
theorem imarks_set (k : Int) (i : Nat) (xs : List It) (hi : i < xs.length) : (imarks k i ++ xs.drop i).set i (mIt (k + 6 * (i : Int))) = imarks k (i + 1) ++ xs.drop (i + 1) := by
  unfold imarks
  rw [List.set_append_right _ _ (by simp)]
  have h1 : i - ((List.range i).map fun j : Nat => mIt (k + 6 * (j : Int))).length = 0 := by simp
  rw [h1, List.drop_eq_getElem_cons hi, List.set_cons_zero, List.range_succ, List.map_append]
  simp
theorem imarks_at (k : Int) (i : Nat) (xs : List It) (hi : i < xs.length) : ∃ x, (imarks k i ++ xs.drop i)[i]? = some x := by
  have hl : i < (imarks k i ++ xs.drop i).length := by simp [imarks_length]; omega
  exact ⟨_, List.getElem?_eq_getElem hl⟩

theorem gr_set_ownI {w wr : World} {g : Nat} {n c : Nat} (h : w.grownBy wr (Value.slice (some ⟨g, 0, none⟩) n c).ownBlock) (i : Nat) (u : Value) : w.grownBy (wr.setCell ⟨g, i, none⟩ u) (Value.slice (some ⟨g, 0, none⟩) n c).ownBlock :=
  ⟨h.os, h.tape, h.output, by simpa [World.setCell] using h.size, fun k hk hne => (Below.heap_setCell _ _ _ _ (fun e => hne (by simp [Value.ownBlock, e]))).trans (h.block k hk hne)⟩

def MarkedI (w : World) (base : Nat) (v : Value) (n : Nat) (k : Int) (e : Ending) (w' : World) : Prop :=
  e = .returned (.int .i64 (k + 6 * (n : Int))) ∧ w'.ownsRow base 29 6 v n (items (imarks k n)) ∧ w.grownBy w' v.ownBlock
def MarkRelI (w : World) (base : Nat) (v : Value) (n : Nat) (k : Int) (xs : List It) (s i : Value) (wr : World) : Prop :=
  ∃ j : Nat, j ≤ n ∧ s = .int .i64 (k + 6 * (j : Int)) ∧ i = .int .i64 (j : Int) ∧ wr.ownsRow base 29 6 v n (items (imarks k j ++ xs.drop j)) ∧ w.grownBy wr v.ownBlock

set_option maxHeartbeats 8000000 in
theorem markItemS_any (w : World) (base : Nat) (A : Option Addr) (n c : Nat) (k : Int) (xs : List It) (hx : w.ownsRow base 29 6 (.slice A n c) n (items xs)) (hn : n ≤ 4194304) (hk1 : 1 ≤ k) (hk2 : k ≤ 100000000) :
    Calls Tryd.prog 26 #[.slice A n c, .int .i64 k] w (MarkedI w base (.slice A n c) n k) := by
  have HL := Lib.hid (Rd.own hx).item_len
  have HX := Lib.hid hx
  clear hx
  go_enter Tryd.func26, Tryd.ntmps26
  go_wp2_with fail
  go_loopw [1, 5] (MarkRelI w base (.slice A n c) n k xs) (fun _ i _ => n - (intOf i).toNat)
  case atStart => exact ⟨0, Nat.zero_le _, by simp, rfl, by simpa [imarks] using HX.out, World.grownBy.refl _ _⟩
  case round =>
    obtain ⟨j, hj, rfl, rfl, hown, hgr⟩ := hrel
    have HO := Lib.hid hown
    have HG := Lib.hid hgr
    clear hown hgr
    by_cases hlt : j < n
    · obtain ⟨g, rfl, hg, hgs, hnc, hc⟩ := own_capI HO.out (by omega)
      obtain ⟨x, hx⟩ := imarks_at k j xs (by rw [HL.out]; exact hlt)
      have HXJ := Lib.hid hx
      clear hx
      have hm6 : j * 6 + 6 ≤ n * 6 := by omega
      have d0 : wr.cell? ⟨g, j * 6, none⟩ = some (.int .i64 x.k) := by rw [HO.out.cellAt _ (by omega)]; exact flat_get It.cells 6 It.cells_length _ j 0 x HXJ.out (by omega)
      have f0 := HO.out.frozenAt (j * 6)
      have d1 : wr.cell? ⟨g, j * 6 + 1, none⟩ = some (.int .i64 x.w) := by rw [HO.out.cellAt _ (by omega)]; exact flat_get It.cells 6 It.cells_length _ j 1 x HXJ.out (by omega)
      have f1 := HO.out.frozenAt (j * 6 + 1)
      have d2 : wr.cell? ⟨g, j * 6 + 2, none⟩ = some (.int .i64 x.st) := by rw [HO.out.cellAt _ (by omega)]; exact flat_get It.cells 6 It.cells_length _ j 2 x HXJ.out (by omega)
      have f2 := HO.out.frozenAt (j * 6 + 2)
      have d3 : wr.cell? ⟨g, j * 6 + 3, none⟩ = some (.int .i64 x.sh) := by rw [HO.out.cellAt _ (by omega)]; exact flat_get It.cells 6 It.cells_length _ j 3 x HXJ.out (by omega)
      have f3 := HO.out.frozenAt (j * 6 + 3)
      have d4 : wr.cell? ⟨g, j * 6 + 4, none⟩ = some (.int .i64 x.p) := by rw [HO.out.cellAt _ (by omega)]; exact flat_get It.cells 6 It.cells_length _ j 4 x HXJ.out (by omega)
      have f4 := HO.out.frozenAt (j * 6 + 4)
      have d5 : wr.cell? ⟨g, j * 6 + 5, none⟩ = some (.bool x.f) := by rw [HO.out.cellAt _ (by omega)]; exact flat_get It.cells 6 It.cells_length _ j 5 x HXJ.out (by omega)
      have f5 := HO.out.frozenAt (j * 6 + 5)
      have hj0 : (0 : Int) ≤ (j : Int) := by omega
      have hjb : (j : Int) ≤ 4194304 := by omega
      obtain ⟨K, hK⟩ : ∃ K : Int, K = k + 6 * (j : Int) := ⟨_, rfl⟩
      have ST := Lib.hid ((((((HO.out.stored (j * 6) (.int .i64 K)).1.stored (j * 6 + 1) (.int .i64 (K + 1))).1.stored (j * 6 + 2) (.int .i64 (K + 1 + 1))).1.stored (j * 6 + 3) (.int .i64 (K + 1 + 1 + 1))).1.stored (j * 6 + 4) (.int .i64 (K + 1 + 1 + 1 + 1))).1.stored (j * 6 + 5) (.bool ((K + 1 + 1 + 1 + 1 + 1) % 3 == 0))).1
      have SG := Lib.hid (gr_set_ownI (gr_set_ownI (gr_set_ownI (gr_set_ownI (gr_set_ownI (gr_set_ownI HG.out (j * 6) (.int .i64 K)) (j * 6 + 1) (.int .i64 (K + 1))) (j * 6 + 2) (.int .i64 (K + 1 + 1))) (j * 6 + 3) (.int .i64 (K + 1 + 1 + 1))) (j * 6 + 4) (.int .i64 (K + 1 + 1 + 1 + 1))) (j * 6 + 5) (.bool ((K + 1 + 1 + 1 + 1 + 1) % 3 == 0)))
      have HSET := Lib.hid (imarks_set k j xs (by rw [HL.out]; exact hlt))
      rw [← hK] at HSET
      have HK := Lib.hid hK
      clear hK
      go_wp2_with fail
      rw [← HK.out]
      refine ⟨⟨j + 1, by omega, by rw [HK.out]; exact congrArg (Value.int .i64) (by omega), by go_num, ?_, SG.out⟩, by simp [intOf] <;> omega⟩
      rw [← HSET.out]
      have h := ST.out
      have e6 := flat_set6 It.cells It.cells_length (imarks k j ++ xs.drop j) j (mIt K) (by rw [List.length_append, imarks_length, List.length_drop, HL.out]; omega) (.int .i64 K) (.int .i64 (K + 1)) (.int .i64 (K + 1 + 1)) (.int .i64 (K + 1 + 1 + 1)) (.int .i64 (K + 1 + 1 + 1 + 1)) (.bool ((K + 1 + 1 + 1 + 1 + 1) % 3 == 0)) rfl
      unfold items at h ⊢
      rw [e6] at h
      exact h
    · obtain rfl : j = n := by omega
      go_wp2_with fail
      go_ret
      refine ⟨rfl, ?_, HG.out⟩
      have h := HO.out
      rw [List.drop_of_length_le (by rw [HL.out]; exact Nat.le_refl _), List.append_nil] at h
      exact h

def HeldRelI (w : World) (n : Nat) (k : Int) (s i : Value) (wr : World) : Prop :=
  ∃ j : Nat, j ≤ n ∧ s = .int .i64 (k + 6 * (j : Int)) ∧ i = .int .i64 (j : Int) ∧ wr = w
set_option maxHeartbeats 8000000 in
theorem heldItemS_any (w : World) (A : Option Addr) (n c : Nat) (k : Int) (hx : Rd w 6 A n (items (imarks k n))) (hn : n ≤ 4194304) (hk1 : 1 ≤ k) (hk2 : k ≤ 100000000) :
    Calls Tryd.prog 27 #[.slice A n c, .int .i64 k] w fun e w' => e = .returned (.int .i64 (k + 6 * (n : Int))) ∧ Below w.heap.size w w' := by
  have HX := Lib.hid hx
  clear hx
  go_enter Tryd.func27, Tryd.ntmps27
  go_wp2_with fail
  go_loopw [1, 5] (HeldRelI w n k) (fun _ i _ => n - (intOf i).toNat)
  case atStart => exact ⟨0, Nat.zero_le _, by simp, rfl, rfl⟩
  case round =>
    obtain ⟨j, hj, rfl, rfl, rfl⟩ := hrel
    by_cases hlt : j < n
    · obtain ⟨b, o, x, rfl, ex, d0, d1, d2, d3, d4, d5⟩ := HX.out.item_at hlt
      rw [imarks_get k n j hlt] at ex
      injection ex with ex
      subst ex
      simp only [mIt] at d0 d1 d2 d3 d4 d5
      have hj0 : (0 : Int) ≤ (j : Int) := by omega
      have hjb : (j : Int) ≤ 4194304 := by omega
      have hm6 : j * 6 + 6 ≤ n * 6 := by omega
      go_wp2_with fail
      exact ⟨⟨j + 1, by omega, congrArg (Value.int .i64) (by omega), by go_num, rfl⟩, by simp [intOf] <;> omega⟩
    · obtain rfl : j = n := by omega
      go_wp2_with fail
      go_ret
      exact ⟨rfl, Below.refl _ _⟩
end Go.Proofs.YtmnmdecbehfegaaDoor
