/-
  Contracts of the program's functions on lines: may a line end here, where does it begin, how long is it, where does it end.
-/
import Derived.Test.YtjkmjgjpkneckaaFitGlue
namespace Go.Proofs.Ytjkmjgjpkneckaa
open Go.RowKit
set_option linter.unusedVariables false

set_option maxHeartbeats 2000000 in
theorem brkImpl_any (A : Option Addr) (n c i : Nat) (xs : List It) (w : World) (hx : Rd w 6 A n (items xs)) (hi : i < n) (hn : n ≤ 1000) :
    Calls Try.prog 66 #[.slice A n c, .int .i64 i] w fun e w' => e = .returned (.bool (isB xs i)) ∧ w = w' := by
  have RW := Lib.hid (inB_true (lo := 0) (hi := (n : Int) - 1) (a := (i : Int)) (by omega) (by omega))
  obtain ⟨b, o, x, rfl, ex, hc0, hc1, hc2, hc3, hc4, hc5⟩ := hx.item_at hi
  have EX := Lib.hid ex
  by_cases k3 : x.k = 3
  · have C := Lib.hid (isB_3 ex k3)
    rw [k3] at hc0
    clear ex hx k3 hc1 hc2 hc3 hc5
    obtain ⟨p, hp⟩ : ∃ p, p = x.p := ⟨_, rfl⟩
    rw [← hp] at hc4 C
    clear hp
    by_cases hp : p < 1000
    · have hd : decide (p < 1000) = true := decide_eq_true hp
      go_enter Try.func66, Try.ntmps66
      go_wp2_with (go_at_call 50; refine (within_any _ _ _ _ RW.out _).mono ?_; rintro e w' ⟨rfl, rfl⟩)
      go_ret
      exact ⟨ret_bool (by rw [C.out, hd]), rfl⟩
    · have hd : decide (p < 1000) = false := decide_eq_false hp
      go_enter Try.func66, Try.ntmps66
      go_wp2_with (go_at_call 50; refine (within_any _ _ _ _ RW.out _).mono ?_; rintro e w' ⟨rfl, rfl⟩)
      go_ret
      exact ⟨ret_bool (by rw [C.out, hd]), rfl⟩
  by_cases k2 : x.k = 2
  · by_cases i0 : i = 0
    · have C := Lib.hid (isB_0 ex k2 i0)
      rw [k2] at hc0
      clear ex hx k3 k2 hc1 hc2 hc3 hc4 hc5
      subst i0
      simp only [Nat.zero_mul, Nat.add_zero] at hc0
      show Calls Try.prog 66 #[.slice (some { block := b, off := o }) n c, .int .i64 0] w _
      have RW' : Hid (inB 0 ((n : Int) - 1) 0 = true) := RW
      go_enter Try.func66, Try.ntmps66
      go_wp2_with (go_at_call 50; refine (within_any _ _ _ _ RW'.out _).mono ?_; rintro e w' ⟨rfl, rfl⟩)
      go_ret
      exact ⟨ret_bool (by rw [C.out]), rfl⟩
    · obtain ⟨j, rfl⟩ : ∃ j, i = j + 1 := ⟨i - 1, by omega⟩
      obtain ⟨b', o', y, eA, ey, hd0, _⟩ := hx.item_at (k := j) (by omega)
      injection eA with eA
      injection eA with e1 e2
      subst e1
      subst e2
      have C := Lib.hid (isB_2 ex k2 (by omega) (y := y) (by simpa using ey))
      rw [k2] at hc0
      clear ex hx k3 k2 hc1 hc2 hc3 hc4 hc5 ey
      obtain ⟨k, hk⟩ : ∃ k, k = y.k := ⟨_, rfl⟩
      rw [← hk] at hd0 C
      clear hk
      by_cases hk : k = 1
      · subst hk
        go_enter Try.func66, Try.ntmps66
        go_wp2_with (go_at_call 50; refine (within_any _ _ _ _ RW.out _).mono ?_; rintro e w' ⟨rfl, rfl⟩)
        go_ret
        exact ⟨ret_bool (by rw [C.out]; rfl), rfl⟩
      · have hd : (k == 1) = false := by simpa using hk
        go_enter Try.func66, Try.ntmps66
        go_wp2_with (go_at_call 50; refine (within_any _ _ _ _ RW.out _).mono ?_; rintro e w' ⟨rfl, rfl⟩)
        go_ret
        exact ⟨ret_bool (by rw [C.out, hd]), rfl⟩
  · have C := Lib.hid (isB_no ex k3 k2)
    have hd3 : (x.k == 3) = false := by simpa using k3
    have hd2 : (x.k == 2) = false := by simpa using k2
    clear ex hx k3 k2 hc1 hc2 hc3 hc4 hc5
    go_enter Try.func66, Try.ntmps66
    go_wp2_with (go_at_call 50; refine (within_any _ _ _ _ RW.out _).mono ?_; rintro e w' ⟨rfl, rfl⟩)
    go_ret
    exact ⟨ret_bool (by rw [C.out]), rfl⟩

def StartRel (w : World) (xs : List It) (s t : Nat) (i : Value) (wr : World) : Prop :=
  ∃ k : Nat, s ≤ k ∧ k ≤ t ∧ i = .int .i64 k ∧ lst xs s t = lgo notBox xs (t - k) k ∧ wr = w

set_option maxHeartbeats 2000000 in
theorem startImpl_any (A : Option Addr) (n c s t : Nat) (f : Int) (xs : List It) (w : World) (hx : Rd w 6 A n (items xs)) (hs : s ≤ t) (ht : t < n) (hn : n ≤ 1000) (hf : f + 1 = (s : Int)) :
    Calls Try.prog 73 #[.slice A n c, .int .i64 f, .int .i64 t] w fun e w' => e = .returned (.int .i64 (lst xs s t)) ∧ w = w' := by
  have X := Lib.hid hx
  have F := Lib.hid hf
  have hf1 : -1 ≤ f := by omega
  have hf2 : f < 1000 := by omega
  clear hx hf
  go_enter Try.func73, Try.ntmps73
  go_wp2_with fail
  go_loopw [7] (StartRel w xs s t) (fun i _ => t - (intOf i).toNat)
  case atStart => exact ⟨s, Nat.le_refl _, hs, by rw [F.out], rfl, rfl⟩
  case round =>
    obtain ⟨k, hk1, hk2, rfl, hl, rfl⟩ := hrel
    have HL := Lib.hid hl
    clear hl
    by_cases hlt : k < t
    · obtain ⟨b, o, x, rfl, ex, hc0, _⟩ := X.out.item_at (k := k) (by omega)
      have EX := Lib.hid ex
      clear ex
      obtain ⟨K, hK⟩ : ∃ K, K = x.k := ⟨_, rfl⟩
      rw [← hK] at hc0
      by_cases h1 : K = 1
      · have NB : Hid (notBox x = false) := by show _ = _; rw [notBox, ← hK, h1]; rfl
        subst h1
        clear hK
        go_wp2
        go_ret
        exact ⟨ret_int (by rw [HL.out, lgo_stop EX.out NB.out]), rfl⟩
      · have h1' : (K == 1) = false := by simpa using h1
        have NB : Hid (notBox x = true) := by show _ = _; rw [notBox, ← hK, h1']; rfl
        clear hK
        go_wp2
        go_roundw
        case rel => exact ⟨k + 1, by omega, by omega, by go_num, by rw [HL.out, lgo_step hlt EX.out NB.out], rfl⟩
        case measure => simp [intOf] <;> omega
    · obtain rfl : k = t := by omega
      go_wp2
      go_ret
      exact ⟨ret_int (by rw [HL.out, lgo_end (Nat.le_refl _)]), rfl⟩

end Go.Proofs.Ytjkmjgjpkneckaa
