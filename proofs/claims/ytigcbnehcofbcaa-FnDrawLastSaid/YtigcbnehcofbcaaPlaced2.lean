/-
  Contracts on placed texts: how the statements copy, compare and measure them.
-/
import Derived.Test.YtigcbnehcofbcaaPlaced
namespace Go.Proofs.Ytigcbnehcofbcaa
open Go.RowKit
set_option linter.unusedVariables false

def Pl.val (p : Pl) : Value := .agg #[.int .i64 p.x, .int .i64 p.y, .string p.t]

theorem str_ne {s t : ByteArray} (h : ¬ s = t) : (s.toList == t.toList) = false := by
  rw [beq_eq_false_iff_ne, ByteArray.toList_eq, ByteArray.toList_eq]
  intro e
  apply h
  obtain ⟨⟨a⟩⟩ := s
  obtain ⟨⟨b⟩⟩ := t
  simp at e
  rw [e]

theorem eqPlaced_any (p q : Pl) (w : World) :
    Calls Try.prog 32 #[.agg #[.int .i64 p.x, .int .i64 p.y, .string p.t], .agg #[.int .i64 q.x, .int .i64 q.y, .string q.t]] w fun e w' => e = .returned (.bool (decide (p = q))) ∧ Below w.heap.size w w' := by
  obtain ⟨x, y, t⟩ := p
  obtain ⟨x', y', t'⟩ := q
  by_cases h1 : x = x'
  · subst h1
    by_cases h2 : y = y'
    · subst h2
      by_cases h3 : t = t'
      · subst h3
        go_enter Try.func32, Try.ntmps32
        go_wp2
        go_ret
        exact ⟨ret_bool (by simp), ((Below.refl _ _).alloc (Nat.le_refl _) _).alloc (by simp) _⟩
      · have h3' := str_ne h3
        have H := Lib.hid h3
        clear h3
        go_enter Try.func32, Try.ntmps32
        go_wp2
        go_ret
        exact ⟨ret_bool (by simp [H.out]), ((Below.refl _ _).alloc (Nat.le_refl _) _).alloc (by simp) _⟩
    · have h2' : (y != y') = true := by simpa using h2
      have H := Lib.hid h2
      clear h2
      go_enter Try.func32, Try.ntmps32
      go_wp2
      go_ret
      exact ⟨ret_bool (by simp [H.out]), ((Below.refl _ _).alloc (Nat.le_refl _) _).alloc (by simp) _⟩
  · have h1' : (x != x') = true := by simpa using h1
    have H := Lib.hid h1
    clear h1
    go_enter Try.func32, Try.ntmps32
    go_wp2
    go_ret
    exact ⟨ret_bool (by simp [H.out]), ((Below.refl _ _).alloc (Nat.le_refl _) _).alloc (by simp) _⟩

def EqRel {α : Type} (w : World) (n : Nat) (xs ys : List α) (i : Value) (wr : World) : Prop :=
  ∃ k : Nat, k ≤ n ∧ i = .int .i64 k ∧ (∀ j, j < k → xs[j]? = ys[j]?) ∧ Below w.heap.size w wr

set_option maxHeartbeats 2000000 in
theorem eqPlacedS_any (A B : Option Addr) (n m c d : Nat) (xs ys : List Pl) (w : World) (hx : Rd w 3 A n (placeds xs)) (hy : Rd w 3 B m (placeds ys)) (hn : n ≤ 1048576) (hm : m ≤ 1048576) :
    Calls Try.prog 14 #[.slice A n c, .slice B m d] w fun e w' => e = .returned (.bool (decide (xs = ys))) ∧ Below w.heap.size w w' := by
  have HLx := Lib.hid hx.placed_len
  have HLy := Lib.hid hy.placed_len
  by_cases hne : n = m
  case neg =>
    have hb : ((n : Int) != (m : Int)) = true := by simp; omega
    clear hx hy
    go_enter Try.func14, Try.ntmps14
    go_wp2
    go_ret
    refine ⟨ret_bool ?_, Below.refl _ _⟩
    have : xs ≠ ys := fun e => hne (by rw [← HLx.out, ← HLy.out, e])
    simp [this]
  subst hne
  go_enter Try.func14, Try.ntmps14
  go_wp2
  go_loopw [5] (EqRel w n xs ys) (fun i _ => n - (intOf i).toNat)
  case atStart => exact ⟨0, Nat.zero_le _, rfl, fun j h => absurd h (by omega), Below.refl _ _⟩
  case round =>
    obtain ⟨k, hk, rfl, hpre, hb⟩ := hrel
    have HP := Lib.hid hpre
    have HB := Lib.hid hb
    clear hpre hb
    by_cases hlt : k < n
    · obtain ⟨b, o, p, rfl, ex, hc0, hc1, hc2⟩ := (hx.below HB.out).placed_at hlt
      obtain ⟨b', o', p', rfl, ey, hd0, hd1, hd2⟩ := (hy.below HB.out).placed_at hlt
      have EX := Lib.hid ex
      have EY := Lib.hid ey
      have fc0 := ext_cell hc0
      have fc1 := ext_cell hc1
      have fc2 := ext_cell hc2
      have fd0 := ext_cell hd0
      have fd1 := ext_cell hd1
      have fd2 := ext_cell hd2
      clear hx hy ex ey hc0 hc1 hc2 hd0 hd1 hd2
      have hlt' : (k : Int) < (n : Int) := by omega
      have hk0 : (0 : Int) ≤ (k : Int) := by omega
      by_cases hpq : p = p'
      · have HC : Hid (∀ W, Calls Try.prog 32 #[.agg #[.int .i64 p.x, .int .i64 p.y, .string p.t], .agg #[.int .i64 p'.x, .int .i64 p'.y, .string p'.t]] W fun e w' => e = .returned (.bool true) ∧ Below W.heap.size W w') := fun W => by
          have h := eqPlaced_any p p' W
          rwa [decide_eq_true hpq] at h
        have H := Lib.hid hpq
        clear hpq
        go_wp2_with fail
        refine wp_region_ext (by kernel_rfl) (by kernel_rfl) ?_
        repeat (go_big_quiet_step ((go_at_call 32; exact ext_call (HC.out _))))
        refine wpQuiet_nil ?_
        intro w1 hw1
        have HB1 := Lib.hid (below_step HB.out (ext_below hw1))
        clear hw1
        go_wp2_with fail
        go_roundw
        case rel => exact ⟨k + 1, by omega, by go_num, upto_succ HP.out (by rw [EX.out, EY.out, H.out]), HB1.out⟩
        case measure => simp [intOf] <;> omega
      · have HC : Hid (∀ W, Calls Try.prog 32 #[.agg #[.int .i64 p.x, .int .i64 p.y, .string p.t], .agg #[.int .i64 p'.x, .int .i64 p'.y, .string p'.t]] W fun e w' => e = .returned (.bool false) ∧ Below W.heap.size W w') := fun W => by
          have h := eqPlaced_any p p' W
          rwa [decide_eq_false hpq] at h
        have H := Lib.hid hpq
        clear hpq
        go_wp2_with fail
        refine wp_region_ext (by kernel_rfl) (by kernel_rfl) ?_
        repeat (go_big_quiet_step ((go_at_call 32; exact ext_call (HC.out _))))
        refine wpQuiet_nil ?_
        intro w1 hw1
        have HB1 := Lib.hid (below_step HB.out (ext_below hw1))
        clear hw1
        go_wp2_with fail
        go_ret
        refine ⟨ret_bool ?_, HB1.out⟩
        have : xs ≠ ys := fun e => by
          have h := EX.out
          rw [e, EY.out] at h
          injection h with h
          exact H.out h.symm
        simp [this]
    · have hkn : k = n := by omega
      subst hkn
      clear hx hy
      go_wp2_with fail
      go_ret
      refine ⟨ret_bool ?_, HB.out⟩
      simp [ext_upto HLx.out HLy.out HP.out]

theorem szPlaced_any (p : Pl) (left : Int) (w : World) (h0 : 0 ≤ left) (h1 : left ≤ 1048576) (hz : p.t.size ≤ 9223372036854775807) :
    Calls Try.prog 27 #[.agg #[.int .i64 p.x, .int .i64 p.y, .string p.t], .int .i64 left] w fun e w' => e = .returned (.int .i64 (if left < p.t.size then -1 else left - p.t.size)) ∧ Below w.heap.size w w' := by
  by_cases h : left < p.t.size
  · have h' : left - p.t.size < 0 := by omega
    go_enter Try.func27, Try.ntmps27
    go_wp2
    go_ret
    exact ⟨ret_int (by simp [h]), (Below.refl _ _).alloc (Nat.le_refl _) _⟩
  · have h' : ¬ left - p.t.size < 0 := by omega
    go_enter Try.func27, Try.ntmps27
    go_wp2
    go_ret
    exact ⟨ret_int (by simp [h]), (Below.refl _ _).alloc (Nat.le_refl _) _⟩

/-- What the measure says: not negative only where there are few elements and all texts are short. -/
def SzRes (w : World) (n : Nat) (sizes : List Nat) (left : Int) (e : Ending) (w' : World) : Prop :=
  ∃ r : Int, e = .returned (.int .i64 r) ∧ r ≤ left ∧ (0 ≤ r → n ≤ 1048576 ∧ ∀ s ∈ sizes, s ≤ 1048576) ∧ Below w.heap.size w w'

def SzRel (w : World) (n : Nat) (sizes : List Nat) (left : Int) (i v : Value) (wr : World) : Prop :=
  ∃ (k : Nat) (r : Int), k ≤ n ∧ i = .int .i64 k ∧ v = .int .i64 r ∧ 0 ≤ r ∧ r ≤ left ∧ (∀ j s, j < k → sizes[j]? = some s → s ≤ 1048576) ∧ Below w.heap.size w wr

theorem sz_all {sizes : List Nat} {n : Nat} (hl : sizes.length = n) (h : ∀ j s, j < n → sizes[j]? = some s → s ≤ 1048576) : ∀ s ∈ sizes, s ≤ 1048576 := by
  intro s hs
  obtain ⟨j, hj, rfl⟩ := List.getElem_of_mem hs
  exact h j _ (by omega) (List.getElem?_eq_getElem hj)
theorem sz_step {sizes : List Nat} {k s : Nat} (hs : sizes[k]? = some s) (hb : s ≤ 1048576) (h : ∀ j s, j < k → sizes[j]? = some s → s ≤ 1048576) : ∀ j s, j < k + 1 → sizes[j]? = some s → s ≤ 1048576 := by
  intro j s' hj hs'
  rcases Nat.lt_or_ge j k with h1 | h1
  · exact h j s' h1 hs'
  · obtain rfl : j = k := by omega
    rw [hs] at hs'
    injection hs' with hs'
    omega

set_option maxHeartbeats 2000000 in
theorem szPlacedS_any (A : Option Addr) (n c : Nat) (l : List Pl) (w : World) (left : Int) (hx : Rd w 3 A n (placeds l)) (hn : n ≤ 9223372036854775807) (hz : ∀ p ∈ l, p.t.size ≤ 9223372036854775807) (h0 : 0 ≤ left) (h1 : left ≤ 1048576) :
    Calls Try.prog 10 #[.slice A n c, .int .i64 left] w (SzRes w n (l.map fun p => p.t.size) left) := by
  have HL := Lib.hid hx.placed_len
  have HZ := Lib.hid hz
  clear hz
  by_cases h2 : left < n
  · have h2' : left - n < 0 := by omega
    clear hx
    go_enter Try.func10, Try.ntmps10
    go_wp2_with fail
    go_ret
    exact ⟨-1, rfl, by omega, fun h => by omega, Below.refl _ _⟩
  have h2' : ¬ left - n < 0 := by omega
  go_enter Try.func10, Try.ntmps10
  go_wp2_with fail
  go_loopw [5, 1] (SzRel w n (l.map fun p => p.t.size) left) (fun i _ _ => n - (intOf i).toNat)
  case atStart => exact ⟨0, left - n, Nat.zero_le _, rfl, rfl, by omega, by omega, fun j s h => absurd h (by omega), Below.refl _ _⟩
  case round =>
    obtain ⟨k, r, hk, rfl, rfl, hr0, hr1, hs, hb⟩ := hrel
    have HS := Lib.hid hs
    have HB := Lib.hid hb
    clear hs hb
    by_cases hlt : k < n
    · obtain ⟨b, o, p, rfl, ex, hc0, hc1, hc2⟩ := (hx.below HB.out).placed_at hlt
      have hpz := HZ.out p (List.mem_of_getElem? ex)
      have HC := Lib.hid (szPlaced_any p r wr hr0 (by omega) hpz)
      have EX : Hid ((l.map fun p => p.t.size)[k]? = some p.t.size) := by show _ = _; rw [List.getElem?_map, ex]; rfl
      clear hx ex
      by_cases hrp : r < p.t.size
      · rw [if_pos hrp] at HC
        go_wp2_with (go_at_call 27; refine HC.out.mono ?_; rintro e w1 ⟨rfl, hb⟩; have HB1 := Lib.hid hb; clear hb)
        go_ret
        exact ⟨-1, rfl, by omega, fun h => by omega, below_step HB.out HB1.out⟩
      · rw [if_neg hrp] at HC
        have h3 : ¬ r - p.t.size < 0 := by omega
        go_wp2_with (go_at_call 27; refine HC.out.mono ?_; rintro e w1 ⟨rfl, hb⟩; have HB1 := Lib.hid hb; clear hb)
        go_roundw
        case rel => exact ⟨k + 1, r - p.t.size, by omega, by go_num, rfl, by omega, by omega, sz_step EX.out (by omega) HS.out, below_step HB.out HB1.out⟩
        case measure => simp [intOf] <;> omega
    · have hkn : k = n := by omega
      subst hkn
      clear hx
      go_wp2_with fail
      go_ret
      exact ⟨r, rfl, hr1, fun _ => ⟨by omega, sz_all (by rw [List.length_map]; exact HL.out) HS.out⟩, HB.out⟩

theorem toPlaced_any (p : Pl) (w : World) :
    Calls Try.prog 29 #[.agg #[.int .i64 p.x, .int .i64 p.y, .string p.t]] w fun e w' => e = .returned (.agg #[.int .i64 p.x, .int .i64 p.y, .string p.t]) ∧ Below w.heap.size w w' := by
  go_enter Try.func29, Try.ntmps29
  go_wp2
  refine bodyPost_ret (v := .agg #[.int .i64 p.x, .int .i64 p.y, .string p.t]) (by simp [results, Try.results29, go_sem]) rfl ⟨rfl, ?_⟩
  exact (((Below.refl _ _).alloc (Nat.le_refl _) _).alloc (by simp) _).alloc (by simp; omega) _

theorem infoPlaced : (Try.prog.info? 36).map (fun i => (i.zero, i.size, i.bytes)) = some (some (.agg #[.int .i64 0, .int .i64 0, .string ⟨#[]⟩]), 3, 32) := by kernel_rfl

set_option maxHeartbeats 2000000 in
theorem toPlacedS_any (A : Option Addr) (n c : Nat) (xs : List Pl) (w : World) (hx : Rd w 3 A n (placeds xs)) (hn : n ≤ 1048576) :
    Calls Try.prog 12 #[.slice A n c] w fun e w' => ∃ B d, e = .returned (.slice B n d) ∧ w'.ownsRow w.heap.size 36 3 (.slice B n d) n (placeds xs) ∧ Below w.heap.size w w' := by
  have HL := Lib.hid hx.placed_len
  obtain ⟨i0, hi, hz0, hz1, hz2⟩ := info_parts infoPlaced
  have hmk := fun W => run_makeN (P := Try.prog) 25 36 i0 _ 3 32 Try.underlying25 hi hz0 hz1 hz2 n W (by omega)
  go_enter Try.func12, Try.ntmps12
  go_wp2_with fail
  go_loopw [4] (FillRel Pl.cells w 36 3 ⟨0, 0, ⟨#[]⟩⟩ xs n) (fun i _ => n - (intOf i).toNat)
  case atStart =>
    refine ⟨0, Nat.zero_le _, rfl, ?_, (Below.refl _ _).alloc (Nat.le_refl _) _⟩
    have h := World.ownsRow_lit (base := w.heap.size) (e := 36) (size := 3) w (madeCells #[.int .i64 0, .int .i64 0, .string ⟨#[]⟩] (n * 3)) n (Nat.le_refl _) (by unfold maxLen; omega) (by rw [size_madeCells])
    rw [made_flat Pl.cells 3 Pl.cells_length (by omega) ⟨0, 0, ⟨#[]⟩⟩ _ rfl] at h
    simpa [HL.out] using h
  case round =>
    obtain ⟨k, hk, rfl, hown, hbel⟩ := hrel
    clear hmk
    have HO := Lib.hid hown
    have HB := Lib.hid hbel
    clear hown hbel
    by_cases hlt : k < n
    · obtain ⟨b, o, p, rfl, ex, hc0, hc1, hc2⟩ := (hx.below HB.out).placed_at hlt
      have HF := Lib.hid (fill_cells Pl.cells 3 Pl.cells_length xs ⟨0, 0, ⟨#[]⟩⟩ k (by rw [HL.out]; exact hlt))
      have EX := Lib.hid ex
      have hsz := HB.out.size
      clear hx ex
      go_wp2_with fail
      refine (toPlaced_any p _).mono ?_
      rintro e w1 ⟨rfl, hb⟩
      have O1 := Lib.hid (own_below HO.out hb)
      have B1 := Lib.hid (below_step HB.out hb)
      clear hb
      have hm3 : k * 3 + 3 ≤ n * 3 := by omega
      have d0 : w1.cell? ⟨w.heap.size, k * 3, none⟩ = some (.int .i64 0) := by rw [O1.out.cellAt _ (by omega)]; exact HF.out 0 (by omega)
      have d1 : w1.cell? ⟨w.heap.size, k * 3 + 1, none⟩ = some (.int .i64 0) := by rw [O1.out.cellAt _ (by omega)]; exact HF.out 1 (by omega)
      have d2 : w1.cell? ⟨w.heap.size, k * 3 + 2, none⟩ = some (.string ⟨#[]⟩) := by rw [O1.out.cellAt _ (by omega)]; exact HF.out 2 (by omega)
      have f0 := O1.out.frozenAt (k * 3)
      have f1 := O1.out.frozenAt (k * 3 + 1)
      have f2 := O1.out.frozenAt (k * 3 + 2)
      go_wp2_with fail
      have ST := Lib.hid (((O1.out.stored (k * 3) (.int .i64 p.x)).1.stored (k * 3 + 1) (.int .i64 p.y)).1.stored (k * 3 + 2) (.string p.t)).1
      go_roundw
      case rel =>
        refine ⟨k + 1, by omega, by go_num, ?_, ((B1.out.setCell (Nat.le_refl _) _).setCell (Nat.le_refl _) _).setCell (Nat.le_refl _) _⟩
        have h := ST.out
        rw [flat_set3 Pl.cells Pl.cells_length _ k p (by simp; have := HL.out; omega) _ _ _ rfl, fill_set xs _ p k EX.out] at h
        exact h
      case measure => simp [intOf] <;> omega
    · have hkn : k = n := by omega
      subst hkn
      clear hx
      go_wp2_with fail
      go_ret
      refine ⟨_, _, rfl, ?_, HB.out⟩
      have h := HO.out
      rw [← HL.out, fill_end, HL.out] at h
      exact h
end Go.Proofs.Ytigcbnehcofbcaa
