/-
  Contracts of the small functions on []int that the statements use: they copy a list, compare two lists, and count what two lists have in common.
-/
import Derived.Test.YtdgmienljhaipaaDoorProg
import Derived.Test.YtdgmienljhaipaaDoorBase
namespace Go.Proofs.YtdgmienljhaipaaDoor
open Go.RowKit
set_option linter.unusedVariables false

set_option maxHeartbeats 400000 in
theorem eqIntS_any (A B : Option Addr) (n m c d : Nat) (xs ys : List Int) (w : World) (hx : Rd w 1 A n (ints xs)) (hy : Rd w 1 B m (ints ys)) (hn : n ≤ 1048576) (hm : m ≤ 1048576) :
    Calls Tryd.prog 20 #[.slice A n c, .slice B m d] w fun e w' => e = .returned (.bool (decide (xs = ys))) ∧ ∃ q, w' = w.drewN q := by
  by_cases hne : n = m
  · subst hne
    go_enter Tryd.func20, Tryd.ntmps20
    go_wp2
    go_loopw [5] (fun i wr => ∃ k q : Nat, k ≤ n ∧ i = .int .i64 k ∧ (∀ j, j < k → xs[j]? = ys[j]?) ∧ wr = w.drewN q) (fun i _ => n - (intOf i).toNat)
    case atStart => exact ⟨0, 0, Nat.zero_le _, rfl, fun j h => absurd h (by omega), rfl⟩
    case round =>
      obtain ⟨k, q, hk, rfl, hpre, rfl⟩ := hrel
      have HP := Lib.hid hpre; clear hpre
      by_cases hlt : k < n
      · obtain ⟨b, o, x, rfl, ex, hcx⟩ := hx.int_at hlt
        obtain ⟨b', o', y, rfl, ey, hcy⟩ := hy.int_at hlt
        have HX := Lib.hid hx; clear hx
        have HY := Lib.hid hy; clear hy
        have EX := Lib.hid ex; clear ex
        have EY := Lib.hid ey; clear ey
        have hlt' : (k : Int) < (n : Int) := by omega
        have hk0 : (0 : Int) ≤ (k : Int) := by omega
        go_wp2
        go_quiet (fail)
        go_wp2
        · have hxy : (x != y) = true := by assumption
          go_ret
          refine ⟨ret_bool ?_, q + nq, by rw [World.drewN_drewN]⟩
          have : xs ≠ ys := fun e => by
            have := EX.out; rw [e, EY.out] at this
            simp at hxy; exact hxy (by injection this with h; exact h.symm)
          simp [this]
        · have hxy : (x != y) = false := by assumption
          have HXY : Hid (x = y) := by show x = y; simpa using hxy
          clear hxy
          go_roundw
          case rel => exact ⟨k + 1, _, by omega, by go_num, upto_succ HP.out (by rw [EX.out, EY.out, HXY.out]), rfl⟩
          case measure => simp [intOf] <;> omega
      · obtain rfl : k = n := by omega
        have HX := Lib.hid hx; clear hx
        have HY := Lib.hid hy; clear hy
        go_wp2
        go_ret
        refine ⟨ret_bool ?_, q, rfl⟩
        simp [ext_upto HX.out.len HY.out.len HP.out]
  · have hb : ((n : Int) != (m : Int)) = true := by simp; omega
    have HX := Lib.hid hx; clear hx
    have HY := Lib.hid hy; clear hy
    go_enter Tryd.func20, Tryd.ntmps20
    go_wp2
    go_ret
    refine ⟨ret_bool ?_, 0, rfl⟩
    have : xs ≠ ys := fun e => hne (by rw [← HX.out.len, ← HY.out.len, e])
    simp [this]



theorem infoInt : (Tryd.prog.info? 3).map (fun i => (i.zero, i.size, i.bytes)) = some (some (.int .i64 0), 1, 8) := by kernel_rfl

theorem elemInt : ElemT Tryd.prog 23 3 1 := ElemT.of Tryd.underlying23 infoInt rfl (by omega) (by omega)

set_option maxHeartbeats 400000 in
theorem toIntS_any (A : Option Addr) (n c : Nat) (xs : List Int) (w : World) (hx : Rd w 1 A n (ints xs)) (hn : n ≤ 1048576) :
    Calls Tryd.prog 18 #[.slice A n c] w fun e w' => ∃ B d, e = .returned (.slice B n d) ∧ w'.ownsRow w.heap.size 3 1 (.slice B n d) n (ints xs) ∧ Below w.heap.size w w' := by
  have HL := Lib.hid hx.len
  have hmk := run_make_row' (P := Tryd.prog) 23 3 (.int .i64 0) 8 Tryd.underlying23 infoInt rfl .i64 .i64 n (by omega) (by omega)
  go_enter Tryd.func18, Tryd.ntmps18
  go_wp2
  go_loopw [4] (fun i wr => ∃ k : Nat, k ≤ n ∧ i = .int .i64 k ∧ wr.ownsRow w.heap.size 3 1 (.slice (some ⟨w.heap.size, 0, none⟩) n n) n (ints (xs.take k ++ List.replicate (xs.length - k) 0)) ∧ Below w.heap.size w wr) (fun i _ => n - (intOf i).toNat)
  case atStart =>
    refine ⟨0, Nat.zero_le _, rfl, ?_, (Below.refl _ _).alloc (Nat.le_refl _) _⟩
    have h := World.ownsRow_lit (base := w.heap.size) (e := 3) (size := 1) w (madeCells #[.int .i64 0] n) n (Nat.le_refl _) (by unfold maxLen; omega) (by rw [size_madeCells]; omega)
    rw [toList_madeCells_one] at h
    simpa [ints, HL.out] using h
  case round =>
    obtain ⟨k, hk, rfl, hown, hbel⟩ := hrel
    clear hmk
    by_cases hlt : k < n
    · obtain ⟨b, o, x, rfl, ex, hcx⟩ := hx.int_at hlt
      have hc1 := cell_below hbel hcx
      have hc2 := hown.cellAt k (by omega)
      rw [ints_fill_at xs 0 k (by rw [HL.out]; exact hlt)] at hc2
      have hf2 := hown.frozenAt k
      have HS := Lib.hid (hown.stored k (.int .i64 x)).1
      have HB := Lib.hid hbel
      have EX := Lib.hid ex
      clear hx hcx hown hbel ex
      have hlt' : (k : Int) < (n : Int) := by omega
      go_wp2
      go_roundw
      case rel => exact ⟨k + 1, by omega, by go_num, by rw [← ints_fill_set xs 0 x k EX.out]; exact HS.out, HB.out.setCell (Nat.le_refl _) _⟩
      case measure => simp [intOf] <;> omega
    · obtain rfl : k = n := by omega
      have HO := Lib.hid hown
      have HB := Lib.hid hbel
      clear hx hown hbel
      go_wp2
      go_ret
      refine ⟨_, _, rfl, ?_, HB.out⟩
      have h := HO.out
      rw [← HL.out, fill_end] at h
      rw [HL.out] at h
      exact h
end Go.Proofs.YtdgmienljhaipaaDoor
