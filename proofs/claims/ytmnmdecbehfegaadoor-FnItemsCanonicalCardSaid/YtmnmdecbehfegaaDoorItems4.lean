/-
  Contracts on lists of items: how the statements copy and measure them; CommonItems.
-/
import Derived.Test.YtmnmdecbehfegaaDoorItems3
namespace Go.Proofs.YtmnmdecbehfegaaDoor
open Go.RowKit
set_option linter.unusedVariables false

theorem toGlue_any (a b c : Int) (w : World) :
    Calls Tryd.prog 34 #[.agg #[.int .i64 a, .int .i64 b, .int .i64 c]] w fun e w' => e = .returned (.agg #[.int .i64 a, .int .i64 b, .int .i64 c]) ∧ Below w.heap.size w w' := by
  go_enter Tryd.func34, Tryd.ntmps34
  go_wp2
  refine bodyPost_ret (v := .agg #[.int .i64 a, .int .i64 b, .int .i64 c]) (by simp [results, Tryd.results34, go_sem]) rfl ⟨rfl, ?_⟩
  exact (((Below.refl _ _).alloc (Nat.le_refl _) _).alloc (by simp) _).alloc (by simp; omega) _

theorem three_blocks {w w1 : World} {a b c : Array Value} {t u v : TypeId} (h : Below (((w.alloc (.cells a t)).alloc (.cells b u)).alloc (.cells c v)).heap.size (((w.alloc (.cells a t)).alloc (.cells b u)).alloc (.cells c v)) w1) :
    w1.heap[w.heap.size]? = some (.cells a t (0, 0)) ∧ w1.heap[w.heap.size + 1]? = some (.cells b u (0, 0)) ∧ w1.heap[w.heap.size + 2]? = some (.cells c v (0, 0)) ∧ Below w.heap.size w w1 := by
  refine ⟨?_, ?_, ?_, below_step ((((Below.refl _ _).alloc (Nat.le_refl _) _).alloc (by simp) _).alloc (by simp; omega) _) h⟩
  · rw [h.block _ (by simp <;> omega), Below.heap_alloc _ _ _ (by simp <;> omega), Below.heap_alloc _ _ _ (by simp)]
    exact heap_alloc_new w _
  · rw [h.block _ (by simp <;> omega), Below.heap_alloc _ _ _ (by simp <;> omega)]
    have := heap_alloc_new (w.alloc (.cells a t)) (.cells b u)
    simpa using this
  · rw [h.block _ (by simp)]
    have := heap_alloc_new ((w.alloc (.cells a t)).alloc (.cells b u)) (.cells c v)
    simpa using this

set_option maxHeartbeats 1000000 in
theorem toItem_any (x : It) (w : World) :
    Calls Tryd.prog 12 #[.agg #[.int .i64 x.k, .int .i64 x.w, .int .i64 x.st, .int .i64 x.sh, .int .i64 x.p, .bool x.f]] w fun e w' => e = .returned (.agg #[.int .i64 x.k, .int .i64 x.w, .int .i64 x.st, .int .i64 x.sh, .int .i64 x.p, .bool x.f]) ∧ Below w.heap.size w w' := by
  go_enter Tryd.func12, Tryd.ntmps12
  go_wp2_with fail
  refine (toGlue_any _ _ _ _).mono ?_
  rintro e w1 ⟨rfl, hb⟩
  obtain ⟨hb0, hb1, hb2, hB⟩ := three_blocks hb
  have HB := Lib.hid hB
  have c10 : w1.cell? ⟨w.heap.size + 1, 0, none⟩ = some (.int .i64 0) := cell_of_row w1 (w.heap.size + 1) 0 _ _ _ hb1
  have f10 : w1.frozen? ⟨w.heap.size + 1, 0, none⟩ = false := frozen_of_row w1 (w.heap.size + 1) 0 _ _ hb1
  have c11 : w1.cell? ⟨w.heap.size + 1, 1, none⟩ = some (.int .i64 0) := cell_of_row w1 (w.heap.size + 1) 1 _ _ _ hb1
  have f11 : w1.frozen? ⟨w.heap.size + 1, 1, none⟩ = false := frozen_of_row w1 (w.heap.size + 1) 1 _ _ hb1
  have c12 : w1.cell? ⟨w.heap.size + 1, 2, none⟩ = some (.int .i64 0) := cell_of_row w1 (w.heap.size + 1) 2 _ _ _ hb1
  have f12 : w1.frozen? ⟨w.heap.size + 1, 2, none⟩ = false := frozen_of_row w1 (w.heap.size + 1) 2 _ _ hb1
  have c13 : w1.cell? ⟨w.heap.size + 1, 3, none⟩ = some (.int .i64 0) := cell_of_row w1 (w.heap.size + 1) 3 _ _ _ hb1
  have f13 : w1.frozen? ⟨w.heap.size + 1, 3, none⟩ = false := frozen_of_row w1 (w.heap.size + 1) 3 _ _ hb1
  have c14 : w1.cell? ⟨w.heap.size + 1, 4, none⟩ = some (.int .i64 0) := cell_of_row w1 (w.heap.size + 1) 4 _ _ _ hb1
  have f14 : w1.frozen? ⟨w.heap.size + 1, 4, none⟩ = false := frozen_of_row w1 (w.heap.size + 1) 4 _ _ hb1
  have c15 : w1.cell? ⟨w.heap.size + 1, 5, none⟩ = some (.bool false) := cell_of_row w1 (w.heap.size + 1) 5 _ _ _ hb1
  have f15 : w1.frozen? ⟨w.heap.size + 1, 5, none⟩ = false := frozen_of_row w1 (w.heap.size + 1) 5 _ _ hb1
  have c20 : w1.cell? ⟨w.heap.size + 2, 0, none⟩ = some (.int .i64 x.k) := cell_of_row w1 (w.heap.size + 2) 0 _ _ _ hb2
  have f20 : w1.frozen? ⟨w.heap.size + 2, 0, none⟩ = false := frozen_of_row w1 (w.heap.size + 2) 0 _ _ hb2
  have c21 : w1.cell? ⟨w.heap.size + 2, 1, none⟩ = some (.int .i64 0) := cell_of_row w1 (w.heap.size + 2) 1 _ _ _ hb2
  have f21 : w1.frozen? ⟨w.heap.size + 2, 1, none⟩ = false := frozen_of_row w1 (w.heap.size + 2) 1 _ _ hb2
  have c22 : w1.cell? ⟨w.heap.size + 2, 2, none⟩ = some (.int .i64 0) := cell_of_row w1 (w.heap.size + 2) 2 _ _ _ hb2
  have f22 : w1.frozen? ⟨w.heap.size + 2, 2, none⟩ = false := frozen_of_row w1 (w.heap.size + 2) 2 _ _ hb2
  have c23 : w1.cell? ⟨w.heap.size + 2, 3, none⟩ = some (.int .i64 0) := cell_of_row w1 (w.heap.size + 2) 3 _ _ _ hb2
  have f23 : w1.frozen? ⟨w.heap.size + 2, 3, none⟩ = false := frozen_of_row w1 (w.heap.size + 2) 3 _ _ hb2
  have c24 : w1.cell? ⟨w.heap.size + 2, 4, none⟩ = some (.int .i64 0) := cell_of_row w1 (w.heap.size + 2) 4 _ _ _ hb2
  have f24 : w1.frozen? ⟨w.heap.size + 2, 4, none⟩ = false := frozen_of_row w1 (w.heap.size + 2) 4 _ _ hb2
  have c25 : w1.cell? ⟨w.heap.size + 2, 5, none⟩ = some (.bool false) := cell_of_row w1 (w.heap.size + 2) 5 _ _ _ hb2
  have f25 : w1.frozen? ⟨w.heap.size + 2, 5, none⟩ = false := frozen_of_row w1 (w.heap.size + 2) 5 _ _ hb2
  have c04 : w1.cell? ⟨w.heap.size, 4, none⟩ = some (.int .i64 x.p) := cell_of_row w1 w.heap.size 4 _ _ _ hb0
  have c05 : w1.cell? ⟨w.heap.size, 5, none⟩ = some (.bool x.f) := cell_of_row w1 w.heap.size 5 _ _ _ hb0
  clear hb hb0 hb1 hb2 hB
  go_wp2_with fail
  refine bodyPost_ret (v := .agg #[.int .i64 x.k, .int .i64 x.w, .int .i64 x.st, .int .i64 x.sh, .int .i64 x.p, .bool x.f]) ?_ rfl ⟨rfl, ?_⟩
  · simp only [results, Tryd.results12]
    go_simp
  refine Below.setCell ?_ (by simp <;> omega) _
  refine Below.setCell ?_ (by simp <;> omega) _
  refine Below.setCell ?_ (by simp <;> omega) _
  refine Below.setCell ?_ (by simp <;> omega) _
  refine Below.setCell ?_ (by simp <;> omega) _
  refine Below.setCell ?_ (by simp <;> omega) _
  refine Below.setCell ?_ (by simp <;> omega) _
  refine Below.setCell ?_ (by simp <;> omega) _
  refine Below.setCell ?_ (by simp <;> omega) _
  refine Below.setCell ?_ (by simp <;> omega) _
  refine Below.setCell ?_ (by simp <;> omega) _
  exact HB.out

theorem szItemS_any (A : Option Addr) (n c : Nat) (w : World) (left : Int) (hn : n ≤ 9223372036854775807) (h0 : 0 ≤ left) (h1 : left ≤ 1048576) :
    Calls Tryd.prog 14 #[.slice A n c, .int .i64 left] w fun e w' => e = .returned (.int .i64 (if left < n then -1 else left - n)) ∧ w = w' := by
  by_cases h : left < n
  · have h' : left - n < 0 := by omega
    go_enter Tryd.func14, Tryd.ntmps14
    go_wp2
    go_ret
    exact ⟨ret_int (by simp [h]), rfl⟩
  · have h' : ¬ left - n < 0 := by omega
    go_enter Tryd.func14, Tryd.ntmps14
    go_wp2
    go_ret
    exact ⟨ret_int (by simp [h]), rfl⟩

theorem infoItem : (Tryd.prog.info? 29).map (fun i => (i.zero, i.size, i.bytes)) = some (some (.agg #[.int .i64 0, .int .i64 0, .int .i64 0, .int .i64 0, .int .i64 0, .bool false]), 6, 48) := by kernel_rfl
theorem elemItem : ElemT Tryd.prog 35 29 6 := ElemT.of Tryd.underlying35 infoItem rfl (by omega) (by omega)

def It0 : It := ⟨0, 0, 0, 0, 0, false⟩
set_option maxHeartbeats 8000000 in
theorem toItemS_any (A : Option Addr) (n c : Nat) (xs : List It) (w : World) (hx : Rd w 6 A n (items xs)) (hn : n ≤ 1048576) :
    Calls Tryd.prog 16 #[.slice A n c] w fun e w' => ∃ B d, e = .returned (.slice B n d) ∧ w'.ownsRow w.heap.size 29 6 (.slice B n d) n (items xs) ∧ Below w.heap.size w w' := by
  have HL := Lib.hid hx.item_len
  obtain ⟨i0, hi, hz0, hz1, hz2⟩ := info_parts infoItem
  have hmk := fun W => run_makeN (P := Tryd.prog) 35 29 i0 _ 6 48 Tryd.underlying35 hi hz0 hz1 hz2 n W (by omega)
  go_enter Tryd.func16, Tryd.ntmps16
  go_wp2_with fail
  go_loopw [4] (FillRel It.cells w 29 6 It0 xs n) (fun i _ => n - (intOf i).toNat)
  case atStart =>
    refine ⟨0, Nat.zero_le _, rfl, ?_, (Below.refl _ _).alloc (Nat.le_refl _) _⟩
    have h := World.ownsRow_lit (base := w.heap.size) (e := 29) (size := 6) w (madeCells #[.int .i64 0, .int .i64 0, .int .i64 0, .int .i64 0, .int .i64 0, .bool false] (n * 6)) n (Nat.le_refl _) (by unfold maxLen; omega) (by rw [size_madeCells])
    rw [made_flat It.cells 6 It.cells_length (by omega) It0 #[.int .i64 0, .int .i64 0, .int .i64 0, .int .i64 0, .int .i64 0, .bool false] rfl] at h
    simpa [HL.out] using h
  case round =>
    obtain ⟨k, hk, rfl, hown, hbel⟩ := hrel
    clear hmk
    have HO := Lib.hid hown
    have HB := Lib.hid hbel
    clear hown hbel
    by_cases hlt : k < n
    · obtain ⟨b, o, x, rfl, ex, hc0, hc1, hc2, hc3, hc4, hc5⟩ := (hx.below HB.out).item_at hlt
      have HF := Lib.hid (fill_cells It.cells 6 It.cells_length xs It0 k (by rw [HL.out]; exact hlt))
      have EX := Lib.hid ex
      have hsz := HB.out.size
      clear hx ex
      go_wp2_with fail
      refine (toItem_any x _).mono ?_
      rintro e w1 ⟨rfl, hb⟩
      have O1 := Lib.hid (own_below HO.out hb)
      have B1 := Lib.hid (below_step HB.out hb)
      clear hb
      have hm6 : k * 6 + 6 ≤ n * 6 := by omega
      have d0 : w1.cell? ⟨w.heap.size, k * 6, none⟩ = some (.int .i64 0) := by rw [O1.out.cellAt _ (by omega)]; exact HF.out 0 (by omega)
      have f0 := O1.out.frozenAt (k * 6)
      have d1 : w1.cell? ⟨w.heap.size, k * 6 + 1, none⟩ = some (.int .i64 0) := by rw [O1.out.cellAt _ (by omega)]; exact HF.out 1 (by omega)
      have f1 := O1.out.frozenAt (k * 6 + 1)
      have d2 : w1.cell? ⟨w.heap.size, k * 6 + 2, none⟩ = some (.int .i64 0) := by rw [O1.out.cellAt _ (by omega)]; exact HF.out 2 (by omega)
      have f2 := O1.out.frozenAt (k * 6 + 2)
      have d3 : w1.cell? ⟨w.heap.size, k * 6 + 3, none⟩ = some (.int .i64 0) := by rw [O1.out.cellAt _ (by omega)]; exact HF.out 3 (by omega)
      have f3 := O1.out.frozenAt (k * 6 + 3)
      have d4 : w1.cell? ⟨w.heap.size, k * 6 + 4, none⟩ = some (.int .i64 0) := by rw [O1.out.cellAt _ (by omega)]; exact HF.out 4 (by omega)
      have f4 := O1.out.frozenAt (k * 6 + 4)
      have d5 : w1.cell? ⟨w.heap.size, k * 6 + 5, none⟩ = some (.bool false) := by rw [O1.out.cellAt _ (by omega)]; exact HF.out 5 (by omega)
      have f5 := O1.out.frozenAt (k * 6 + 5)
      have ST := Lib.hid ((((((O1.out.stored (k * 6) (.int .i64 x.k)).1.stored (k * 6 + 1) (.int .i64 x.w)).1.stored (k * 6 + 2) (.int .i64 x.st)).1.stored (k * 6 + 3) (.int .i64 x.sh)).1.stored (k * 6 + 4) (.int .i64 x.p)).1.stored (k * 6 + 5) (.bool x.f)).1
      go_wp2_with fail
      go_roundw
      case rel =>
        refine ⟨k + 1, by omega, by go_num, ?_, (((((B1.out.setCell (Nat.le_refl _) _).setCell (Nat.le_refl _) _).setCell (Nat.le_refl _) _).setCell (Nat.le_refl _) _).setCell (Nat.le_refl _) _).setCell (Nat.le_refl _) _⟩
        have h := ST.out
        rw [flat_set6 It.cells It.cells_length _ k x (by simp; have := HL.out; omega) _ _ _ _ _ _ rfl, fill_set xs _ x k EX.out] at h
        exact h
      case measure => simp [intOf] <;> omega
    · have hkn : k = n := by omega
      subst hkn
      clear hx
      go_wp2_with fail
      go_ret
      refine ⟨_, _, rfl, ?_, HB.out⟩
      have h := HO.out
      rw [← HL.out, fill_end, HL.out] at h
      exact h

/-- What CommonItems says. -/
def comItems (xs ys : List It) : Int := if vItems xs = true ∧ vItems ys = true then cpre xs ys else -1



end Go.Proofs.YtmnmdecbehfegaaDoor
