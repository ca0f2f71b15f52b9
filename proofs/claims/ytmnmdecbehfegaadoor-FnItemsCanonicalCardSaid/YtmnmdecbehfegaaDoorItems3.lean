/-
  Contracts on lists of items: how the statements copy, compare and measure them; what two paragraphs have in common.
-/
import Derived.Test.YtmnmdecbehfegaaDoorItems2
namespace Go.Proofs.YtmnmdecbehfegaaDoor
open Go.RowKit
set_option linter.unusedVariables false

/-- Where two items part. -/
theorem it_cases (x y : It) : x = y ∨ (x ≠ y ∧ ((x.k == y.k) = false ∨ ((x.k == y.k) = true ∧ (x.w == y.w) = false) ∨ ((x.k == y.k) = true ∧ (x.w == y.w) = true ∧ (x.st == y.st) = false) ∨
    ((x.k == y.k) = true ∧ (x.w == y.w) = true ∧ (x.st == y.st) = true ∧ (x.sh == y.sh) = false) ∨
    ((x.k == y.k) = true ∧ (x.w == y.w) = true ∧ (x.st == y.st) = true ∧ (x.sh == y.sh) = true ∧ (x.p == y.p) = false) ∨
    ((x.k == y.k) = true ∧ (x.w == y.w) = true ∧ (x.st == y.st) = true ∧ (x.sh == y.sh) = true ∧ (x.p == y.p) = true ∧ (x.f == y.f) = false))) := by
  by_cases h : x = y
  · exact .inl h
  · refine .inr ⟨h, ?_⟩
    obtain ⟨k, wd, st, sh, p, f⟩ := x
    obtain ⟨k', wd', st', sh', p', f'⟩ := y
    simp only [It.mk.injEq, not_and, beq_iff_eq, beq_eq_false_iff_ne] at h ⊢
    by_cases h1 : k = k'
    · by_cases h2 : wd = wd'
      · by_cases h3 : st = st'
        · by_cases h4 : sh = sh'
          · by_cases h5 : p = p'
            · exact .inr (.inr (.inr (.inr (.inr ⟨h1, h2, h3, h4, h5, h h1 h2 h3 h4 h5⟩))))
            · exact .inr (.inr (.inr (.inr (.inl ⟨h1, h2, h3, h4, h5⟩))))
          · exact .inr (.inr (.inr (.inl ⟨h1, h2, h3, h4⟩)))
        · exact .inr (.inr (.inl ⟨h1, h2, h3⟩))
      · exact .inr (.inl ⟨h1, h2⟩)
    · exact .inl h1

theorem bne_of {α : Type} [BEq α] {a b : α} {r : Bool} (h : (a == b) = r) : (a != b) = !r := by rw [bne, h]

theorem eqGlue_any (a b c a' b' c' : Int) (w : World) :
    Calls Tryd.prog 47 #[.agg #[.int .i64 a, .int .i64 b, .int .i64 c], .agg #[.int .i64 a', .int .i64 b', .int .i64 c']] w fun e w' => e = .returned (.bool (decide (a = a') && decide (b = b') && decide (c = c'))) ∧ Below w.heap.size w w' := by
  by_cases h1 : a = a'
  · subst h1
    by_cases h2 : b = b'
    · subst h2
      by_cases h3 : c = c'
      · subst h3
        go_enter Tryd.func47, Tryd.ntmps47
        go_wp2
        go_ret
        exact ⟨ret_bool (by simp), ((Below.refl _ _).alloc (Nat.le_refl _) _).alloc (by simp) _⟩
      · have h3' : (c != c') = true := by simpa using h3
        have H := Lib.hid h3
        clear h3
        go_enter Tryd.func47, Tryd.ntmps47
        go_wp2
        go_ret
        exact ⟨ret_bool (by simp [H.out]), ((Below.refl _ _).alloc (Nat.le_refl _) _).alloc (by simp) _⟩
    · have h2' : (b != b') = true := by simpa using h2
      have H := Lib.hid h2
      clear h2
      go_enter Tryd.func47, Tryd.ntmps47
      go_wp2
      go_ret
      exact ⟨ret_bool (by simp [H.out]), ((Below.refl _ _).alloc (Nat.le_refl _) _).alloc (by simp) _⟩
  · have h1' : (a != a') = true := by simpa using h1
    have H := Lib.hid h1
    clear h1
    go_enter Tryd.func47, Tryd.ntmps47
    go_wp2
    go_ret
    exact ⟨ret_bool (by simp [H.out]), ((Below.refl _ _).alloc (Nat.le_refl _) _).alloc (by simp) _⟩

theorem eqGlue_is (r : Bool) (a b c a' b' c' : Int) (hr : (decide (a = a') && decide (b = b') && decide (c = c')) = r) (w : World) :
    Calls Tryd.prog 47 #[.agg #[.int .i64 a, .int .i64 b, .int .i64 c], .agg #[.int .i64 a', .int .i64 b', .int .i64 c']] w fun e w' => e = .returned (.bool r) ∧ Below w.heap.size w w' := by
  subst hr; exact eqGlue_any a b c a' b' c' w

set_option maxHeartbeats 4000000 in
theorem eqItem_any (x y : It) (w : World) :
    Calls Tryd.prog 22 #[.agg #[.int .i64 x.k, .int .i64 x.w, .int .i64 x.st, .int .i64 x.sh, .int .i64 x.p, .bool x.f], .agg #[.int .i64 y.k, .int .i64 y.w, .int .i64 y.st, .int .i64 y.sh, .int .i64 y.p, .bool y.f]] w fun e w' => e = .returned (.bool (decide (x = y))) ∧ Below w.heap.size w w' := by
  have hbel : ∀ w1, Below ((w.alloc (.cells #[.int .i64 x.k, .int .i64 x.w, .int .i64 x.st, .int .i64 x.sh, .int .i64 x.p, .bool x.f] 29)).alloc (.cells #[.int .i64 y.k, .int .i64 y.w, .int .i64 y.st, .int .i64 y.sh, .int .i64 y.p, .bool y.f] 29)).heap.size ((w.alloc (.cells #[.int .i64 x.k, .int .i64 x.w, .int .i64 x.st, .int .i64 x.sh, .int .i64 x.p, .bool x.f] 29)).alloc (.cells #[.int .i64 y.k, .int .i64 y.w, .int .i64 y.st, .int .i64 y.sh, .int .i64 y.p, .bool y.f] 29)) w1 → Below w.heap.size w w1 :=
    fun w1 h => below_step (((Below.refl _ _).alloc (Nat.le_refl _) _).alloc (by simp) _) h
  have HBL := Lib.hid hbel
  clear hbel
  obtain ⟨k, wd, st, sh, p, f⟩ := x
  obtain ⟨k', wd', st', sh', p', f'⟩ := y
  by_cases h1 : k = k'
  case neg =>
    have h1' : (k != k') = true := by simpa using h1
    have H := Lib.hid h1
    clear h1
    go_enter Tryd.func22, Tryd.ntmps22
    go_wp2
    go_ret
    exact ⟨ret_bool (by simp [H.out]), ((Below.refl _ _).alloc (Nat.le_refl _) _).alloc (by simp) _⟩
  subst h1
  by_cases h2 : wd = wd' ∧ st = st' ∧ sh = sh'
  case neg =>
    have HE := Lib.hid (show (decide (wd = wd') && decide (st = st') && decide (sh = sh')) = false from by
      rw [← Bool.not_eq_true]; intro h; simp at h; exact h2 ⟨h.1.1, h.1.2, h.2⟩)
    have H := Lib.hid h2
    clear h2
    go_enter Tryd.func22, Tryd.ntmps22
    go_wp2_with fail
    refine (eqGlue_is false _ _ _ _ _ _ HE.out _).mono ?_
    rintro e w1 ⟨rfl, hb⟩
    have HB := Lib.hid (HBL.out w1 hb)
    clear hb
    go_wp2
    go_ret
    exact ⟨ret_bool (by rw [eq_comm, decide_eq_false_iff_not]; intro h; injection h with _ h3 h4 h5; exact H.out ⟨h3, h4, h5⟩), HB.out⟩
  obtain ⟨rfl, rfl, rfl⟩ := h2
  have fin : ∀ w1, Below ((w.alloc (.cells #[.int .i64 k, .int .i64 wd, .int .i64 st, .int .i64 sh, .int .i64 p, .bool f] 29)).alloc (.cells #[.int .i64 k, .int .i64 wd, .int .i64 st, .int .i64 sh, .int .i64 p', .bool f'] 29)).heap.size ((w.alloc (.cells #[.int .i64 k, .int .i64 wd, .int .i64 st, .int .i64 sh, .int .i64 p, .bool f] 29)).alloc (.cells #[.int .i64 k, .int .i64 wd, .int .i64 st, .int .i64 sh, .int .i64 p', .bool f'] 29)) w1 →
      (∀ j, j < 6 → w1.cell? ⟨w.heap.size, j, none⟩ = (It.cells ⟨k, wd, st, sh, p, f⟩)[j]?) ∧ (∀ j, j < 6 → w1.cell? ⟨w.heap.size + 1, j, none⟩ = (It.cells ⟨k, wd, st, sh, p', f'⟩)[j]?) := by
    intro w1 h
    have a1 := cell_of_row (w.alloc (.cells #[.int .i64 k, .int .i64 wd, .int .i64 st, .int .i64 sh, .int .i64 p, .bool f] 29)) w.heap.size
    have e1 : ((w.alloc (.cells #[.int .i64 k, .int .i64 wd, .int .i64 st, .int .i64 sh, .int .i64 p, .bool f] 29)).alloc (.cells #[.int .i64 k, .int .i64 wd, .int .i64 st, .int .i64 sh, .int .i64 p', .bool f'] 29)).heap[w.heap.size]? = some (.cells #[.int .i64 k, .int .i64 wd, .int .i64 st, .int .i64 sh, .int .i64 p, .bool f] 29 (0, 0)) := by
      rw [Below.heap_alloc _ _ _ (by simp)]; exact heap_alloc_new w _
    have e2 : ((w.alloc (.cells #[.int .i64 k, .int .i64 wd, .int .i64 st, .int .i64 sh, .int .i64 p, .bool f] 29)).alloc (.cells #[.int .i64 k, .int .i64 wd, .int .i64 st, .int .i64 sh, .int .i64 p', .bool f'] 29)).heap[w.heap.size + 1]? = some (.cells #[.int .i64 k, .int .i64 wd, .int .i64 st, .int .i64 sh, .int .i64 p', .bool f'] 29 (0, 0)) := by
      have := heap_alloc_new (w.alloc (.cells #[.int .i64 k, .int .i64 wd, .int .i64 st, .int .i64 sh, .int .i64 p, .bool f] 29)) (.cells #[.int .i64 k, .int .i64 wd, .int .i64 st, .int .i64 sh, .int .i64 p', .bool f'] 29)
      simpa using this
    refine ⟨fun j hj => ?_, fun j hj => ?_⟩
    · rw [cell_of_row w1 w.heap.size j _ _ _ ((h.block _ (by simp; omega)).trans e1)]; simp [It.cells]
    · rw [cell_of_row w1 (w.heap.size + 1) j _ _ _ ((h.block _ (by simp)).trans e2)]; simp [It.cells]
  have FIN := Lib.hid fin
  clear fin
  by_cases h3 : p = p'
  case neg =>
    have h3' : (p != p') = true := by simpa using h3
    have H := Lib.hid h3
    clear h3
    go_enter Tryd.func22, Tryd.ntmps22
    go_wp2_with fail
    refine (eqGlue_is true _ _ _ _ _ _ (by simp) _).mono ?_
    rintro e w1 ⟨rfl, hb⟩
    have HB := Lib.hid (HBL.out w1 hb)
    have c0 : w1.cell? ⟨w.heap.size, 4, none⟩ = some (.int .i64 p) := (FIN.out w1 hb).1 4 (by omega)
    have c1 : w1.cell? ⟨w.heap.size + 1, 4, none⟩ = some (.int .i64 p') := (FIN.out w1 hb).2 4 (by omega)
    clear hb
    go_wp2
    go_ret
    exact ⟨ret_bool (by simp [H.out]), HB.out⟩
  subst h3
  by_cases h4 : f = f'
  case neg =>
    have h4' : (f == f') = false := by simpa using h4
    have H := Lib.hid h4
    clear h4
    go_enter Tryd.func22, Tryd.ntmps22
    go_wp2_with fail
    refine (eqGlue_is true _ _ _ _ _ _ (by simp) _).mono ?_
    rintro e w1 ⟨rfl, hb⟩
    have HB := Lib.hid (HBL.out w1 hb)
    have c0 : w1.cell? ⟨w.heap.size, 4, none⟩ = some (.int .i64 p) := (FIN.out w1 hb).1 4 (by omega)
    have c1 : w1.cell? ⟨w.heap.size + 1, 4, none⟩ = some (.int .i64 p) := (FIN.out w1 hb).2 4 (by omega)
    have c2 : w1.cell? ⟨w.heap.size, 5, none⟩ = some (.bool f) := (FIN.out w1 hb).1 5 (by omega)
    have c3 : w1.cell? ⟨w.heap.size + 1, 5, none⟩ = some (.bool f') := (FIN.out w1 hb).2 5 (by omega)
    clear hb
    go_wp2
    go_ret
    exact ⟨ret_bool (by simp [H.out]), HB.out⟩
  subst h4
  go_enter Tryd.func22, Tryd.ntmps22
  go_wp2_with fail
  refine (eqGlue_is true _ _ _ _ _ _ (by simp) _).mono ?_
  rintro e w1 ⟨rfl, hb⟩
  have HB := Lib.hid (HBL.out w1 hb)
  have c0 : w1.cell? ⟨w.heap.size, 4, none⟩ = some (.int .i64 p) := (FIN.out w1 hb).1 4 (by omega)
  have c1 : w1.cell? ⟨w.heap.size + 1, 4, none⟩ = some (.int .i64 p) := (FIN.out w1 hb).2 4 (by omega)
  have c2 : w1.cell? ⟨w.heap.size, 5, none⟩ = some (.bool f) := (FIN.out w1 hb).1 5 (by omega)
  have c3 : w1.cell? ⟨w.heap.size + 1, 5, none⟩ = some (.bool f) := (FIN.out w1 hb).2 5 (by omega)
  clear hb
  go_wp2
  go_ret
  exact ⟨ret_bool (by simp), HB.out⟩

def EqRelI (w : World) (n : Nat) (xs ys : List It) (i : Value) (wr : World) : Prop :=
  ∃ k : Nat, k ≤ n ∧ i = .int .i64 k ∧ (∀ j, j < k → xs[j]? = ys[j]?) ∧ Below w.heap.size w wr

set_option maxHeartbeats 4000000 in
theorem eqItemS_any (A B : Option Addr) (n m c d : Nat) (xs ys : List It) (w : World) (hx : Rd w 6 A n (items xs)) (hy : Rd w 6 B m (items ys)) (hn : n ≤ 1048576) (hm : m ≤ 1048576) :
    Calls Tryd.prog 18 #[.slice A n c, .slice B m d] w fun e w' => e = .returned (.bool (decide (xs = ys))) ∧ Below w.heap.size w w' := by
  have HLx := Lib.hid hx.item_len
  have HLy := Lib.hid hy.item_len
  by_cases hne : n = m
  case neg =>
    have hb : ((n : Int) != (m : Int)) = true := by simp; omega
    clear hx hy
    go_enter Tryd.func18, Tryd.ntmps18
    go_wp2
    go_ret
    refine ⟨ret_bool ?_, Below.refl _ _⟩
    have : xs ≠ ys := fun e => hne (by rw [← HLx.out, ← HLy.out, e])
    simp [this]
  subst hne
  go_enter Tryd.func18, Tryd.ntmps18
  go_wp2
  go_loopw [5] (EqRelI w n xs ys) (fun i _ => n - (intOf i).toNat)
  case atStart => exact ⟨0, Nat.zero_le _, rfl, fun j h => absurd h (by omega), Below.refl _ _⟩
  case round =>
    obtain ⟨k, hk, rfl, hpre, hb⟩ := hrel
    have HP := Lib.hid hpre
    have HB := Lib.hid hb
    clear hpre hb
    by_cases hlt : k < n
    · obtain ⟨b, o, x, rfl, ex, hc0, hc1, hc2, hc3, hc4, hc5⟩ := (hx.below HB.out).item_at hlt
      obtain ⟨b', o', y, rfl, ey, hd0, hd1, hd2, hd3, hd4, hd5⟩ := (hy.below HB.out).item_at hlt
      have EX := Lib.hid ex
      have EY := Lib.hid ey
      have fc0 := ext_cell hc0
      have fc1 := ext_cell hc1
      have fc2 := ext_cell hc2
      have fc3 := ext_cell hc3
      have fc4 := ext_cell hc4
      have fc5 := ext_cell hc5
      have fd0 := ext_cell hd0
      have fd1 := ext_cell hd1
      have fd2 := ext_cell hd2
      have fd3 := ext_cell hd3
      have fd4 := ext_cell hd4
      have fd5 := ext_cell hd5
      clear hx hy ex ey hc0 hc1 hc2 hc3 hc4 hc5 hd0 hd1 hd2 hd3 hd4 hd5
      have hlt' : (k : Int) < (n : Int) := by omega
      have hk0 : (0 : Int) ≤ (k : Int) := by omega
      cases hpq : decide (x = y)
      · have HC := Lib.hid (eqItem_any x y)
        rw [hpq] at HC
        have H := Lib.hid (of_decide_eq_false hpq)
        clear hpq
        go_wp2_with fail
        refine wp_region_ext (by kernel_rfl) (by kernel_rfl) ?_
        repeat (go_big_quiet_step ((go_at_call 22; exact ext_call (HC.out _))))
        refine wpQuiet_nil ?_
        intro w1 hw1
        have HB1 := Lib.hid (below_step HB.out (ext_below hw1))
        clear hw1
        go_wp2_with fail
        go_ret
        refine ⟨ret_bool ?_, HB1.out⟩
        have : xs ≠ ys := fun e => by
          have h := EX.out
          rw [e, EY.out] at h
          injection h with h
          exact H.out h.symm
        simp [this]
      · have HC := Lib.hid (eqItem_any x y)
        rw [hpq] at HC
        have H := Lib.hid (of_decide_eq_true hpq)
        clear hpq
        go_wp2_with fail
        refine wp_region_ext (by kernel_rfl) (by kernel_rfl) ?_
        repeat (go_big_quiet_step ((go_at_call 22; exact ext_call (HC.out _))))
        refine wpQuiet_nil ?_
        intro w1 hw1
        have HB1 := Lib.hid (below_step HB.out (ext_below hw1))
        clear hw1
        go_wp2_with fail
        go_roundw
        case rel => exact ⟨k + 1, by omega, by go_num, upto_succ HP.out (by rw [EX.out, EY.out, H.out]), HB1.out⟩
        case measure => simp [intOf] <;> omega
    · have hkn : k = n := by omega
      subst hkn
      clear hx hy
      go_wp2_with fail
      go_ret
      refine ⟨ret_bool ?_, HB.out⟩
      simp [ext_upto HLx.out HLy.out HP.out]

end Go.Proofs.YtmnmdecbehfegaaDoor
