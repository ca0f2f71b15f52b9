/-
  Contracts of the reference's functions on lines: may a line end here, where does it begin, how long is it.
-/
import Derived.Test.YtjkmjgjpkneckaaFitImpl
namespace Go.Proofs.Ytjkmjgjpkneckaa
open Go.RowKit
set_option linter.unusedVariables false

set_option maxHeartbeats 2000000 in
theorem brkSpec_any (A : Option Addr) (n c i : Nat) (xs : List It) (w : World) (hx : Rd w 6 A n (items xs)) (hi : i < n) (hn : n ≤ 1000) :
    Calls Try.prog 61 #[.slice A n c, .int .i64 i] w fun e w' => e = .returned (.bool (isB xs i)) ∧ w = w' := by
  obtain ⟨b, o, x, rfl, ex, hc0, hc1, hc2, hc3, hc4, hc5⟩ := hx.item_at hi
  have EX := Lib.hid ex
  by_cases k3 : x.k = 3
  · have C := Lib.hid (isB_3 ex k3)
    rw [k3] at hc0
    clear ex hx k3 hc1 hc2 hc3 hc5
    obtain ⟨p, hp⟩ : ∃ p, p = x.p := ⟨_, rfl⟩
    rw [← hp] at hc4 C
    clear hp
    by_cases hp : p < 1000
    · have hd : decide (p < 1000) = true := decide_eq_true hp
      go_enter Try.func61, Try.ntmps61
      go_wp2
      go_ret
      exact ⟨ret_bool (by rw [C.out, hd]), rfl⟩
    · have hd : decide (p < 1000) = false := decide_eq_false hp
      go_enter Try.func61, Try.ntmps61
      go_wp2
      go_ret
      exact ⟨ret_bool (by rw [C.out, hd]), rfl⟩
  by_cases k2 : x.k = 2
  · by_cases i0 : i = 0
    · have C := Lib.hid (isB_0 ex k2 i0)
      rw [k2] at hc0
      clear ex hx k3 k2 hc1 hc2 hc3 hc4 hc5
      subst i0
      simp only [Nat.zero_mul, Nat.add_zero] at hc0
      show Calls Try.prog 61 #[.slice (some { block := b, off := o }) n c, .int .i64 0] w _
      go_enter Try.func61, Try.ntmps61
      go_wp2
      go_ret
      exact ⟨ret_bool (by rw [C.out]), rfl⟩
    · obtain ⟨j, rfl⟩ : ∃ j, i = j + 1 := ⟨i - 1, by omega⟩
      obtain ⟨b', o', y, eA, ey, hd0, _⟩ := hx.item_at (k := j) (by omega)
      injection eA with eA
      injection eA with e1 e2
      subst e1
      subst e2
      have C := Lib.hid (isB_2 ex k2 (by omega) (y := y) (by simpa using ey))
      rw [k2] at hc0
      clear ex hx k3 k2 hc1 hc2 hc3 hc4 hc5 ey
      obtain ⟨k, hk⟩ : ∃ k, k = y.k := ⟨_, rfl⟩
      rw [← hk] at hd0 C
      clear hk
      by_cases hk : k = 1
      · subst hk
        go_enter Try.func61, Try.ntmps61
        go_wp2
        go_ret
        exact ⟨ret_bool (by rw [C.out]; rfl), rfl⟩
      · have hd : (k == 1) = false := by simpa using hk
        go_enter Try.func61, Try.ntmps61
        go_wp2
        go_ret
        exact ⟨ret_bool (by rw [C.out, hd]), rfl⟩
  · have C := Lib.hid (isB_no ex k3 k2)
    have hd3 : (x.k == 3) = false := by simpa using k3
    have hd2 : (x.k == 2) = false := by simpa using k2
    clear ex hx k3 k2 hc1 hc2 hc3 hc4 hc5
    go_enter Try.func61, Try.ntmps61
    go_wp2
    go_ret
    exact ⟨ret_bool (by rw [C.out]), rfl⟩

def StartRelF (w : World) (xs : List It) (s n : Nat) (i : Value) (wr : World) : Prop :=
  ∃ k : Nat, s ≤ k ∧ k ≤ n ∧ i = .int .i64 k ∧ lstF xs s = lgo notBoxF xs (n - k) k ∧ wr = w

set_option maxHeartbeats 4000000 in
theorem startSpec_any (A : Option Addr) (n c s : Nat) (f : Int) (xs : List It) (w : World) (hx : Rd w 6 A n (items xs)) (hs : s ≤ n) (hn : n ≤ 1000) (hf : f + 1 = (s : Int)) :
    Calls Try.prog 69 #[.slice A n c, .int .i64 f] w fun e w' => e = .returned (.int .i64 (lstF xs s)) ∧ w = w' := by
  have hl := hx.item_len
  have X := Lib.hid hx
  have F := Lib.hid hf
  have S0 : Hid (lstF xs s = lgo notBoxF xs (n - s) s) := by show _ = _; rw [lstF, hl]
  have hf1 : -1 ≤ f := by omega
  have hf2 : f < 1000 := by omega
  clear hx hf hl
  go_enter Try.func69, Try.ntmps69
  go_wp2_with fail
  go_loopw [5] (StartRelF w xs s n) (fun i _ => n - (intOf i).toNat)
  case atStart => exact ⟨s, Nat.le_refl _, hs, by rw [F.out], S0.out, rfl⟩
  case round =>
    obtain ⟨k, hk1, hk2, rfl, hl, rfl⟩ := hrel
    have HL := Lib.hid hl
    clear hl
    by_cases hlt : k < n
    · obtain ⟨b, o, x, rfl, ex, hc0, _, _, _, hc4, _⟩ := X.out.item_at (k := k) (by omega)
      have EX := Lib.hid ex
      clear ex
      obtain ⟨K, hK⟩ : ∃ K, K = x.k := ⟨_, rfl⟩
      obtain ⟨P, hP⟩ : ∃ P, P = x.p := ⟨_, rfl⟩
      rw [← hK] at hc0
      rw [← hP] at hc4
      by_cases h1 : K = 1
      · have NB : Hid (notBoxF x = false) := by show _ = _; rw [notBoxF, ← hK, h1]; rfl
        subst h1
        clear hK hP
        go_wp2
        go_ret
        exact ⟨ret_int (by rw [HL.out, lgo_stop EX.out NB.out]), rfl⟩
      have h1' : (K == 1) = false := by simpa using h1
      by_cases h3 : K = 3
      · by_cases hp : P = -1000
        · have NB : Hid (notBoxF x = false) := by show _ = _; rw [notBoxF, frc, ← hK, ← hP, h3, hp]; rfl
          subst h3
          subst hp
          clear hK hP
          go_wp2
          go_ret
          exact ⟨ret_int (by rw [HL.out, lgo_stop EX.out NB.out]), rfl⟩
        · have hp' : (P == -1000) = false := by simpa using hp
          have NB : Hid (notBoxF x = true) := by show _ = _; rw [notBoxF, frc, ← hK, ← hP, hp', h3]; rfl
          subst h3
          clear hK hP
          go_wp2
          go_roundw
          case rel => exact ⟨k + 1, by omega, by omega, by go_num, by rw [HL.out, lgo_step hlt EX.out NB.out], rfl⟩
          case measure => simp [intOf] <;> omega
      · have h3' : (K == 3) = false := by simpa using h3
        have NB : Hid (notBoxF x = true) := by show _ = _; rw [notBoxF, frc, ← hK, h1', h3']; rfl
        clear hK hP
        go_wp2
        go_roundw
        case rel => exact ⟨k + 1, by omega, by omega, by go_num, by rw [HL.out, lgo_step hlt EX.out NB.out], rfl⟩
        case measure => simp [intOf] <;> omega
    · obtain rfl : k = n := by omega
      go_wp2
      go_ret
      exact ⟨ret_int (by rw [HL.out, lgo_end (Nat.le_refl _)]), rfl⟩

def VLRel (W : World) (xs : List It) (s t : Nat) (i : Value) (wr : World) : Prop :=
  ∃ k : Nat, s ≤ k ∧ k ≤ t ∧ i = .int .i64 k ∧ nof xs (t - s) s = nof xs (t - k) k ∧ wr = W

def NofIs (w : World) (r : Bool) (e : Ending) (w' : World) : Prop := e = .returned (.bool r) ∧ Below w.heap.size w w'

set_option maxHeartbeats 4000000 in
set_option maxRecDepth 8000 in
theorem validLine_any (A : Option Addr) (n c s t : Nat) (f : Int) (xs : List It) (w : World) (hx : Rd w 6 A n (items xs)) (hv : vItems xs = true) (hs : s ≤ t) (ht : t < n) (hf : f + 1 = (s : Int)) (hb1 : isB xs t = true) (hb0 : s = 0 ∨ isB xs (s - 1) = true) :
    Calls Try.prog 62 #[.slice A n c, .int .i64 f, .int .i64 t] w (NofIs w (nof xs (t - s) s)) := by
  have hl := hx.item_len
  have hp := vItems_parts hv
  have hn : n ≤ 60 := by omega
  have VI := Lib.hid (specItems_any A n c xs w hx (by omega))
  rw [hv] at VI
  have X := Lib.hid hx
  have BT := Lib.hid (fun w1 (hr : Rd w1 6 A n (items xs)) => brkSpec_any A n c t xs w1 hr ht (by omega))
  rw [hb1] at BT
  have F := Lib.hid hf
  have hf1 : -1 ≤ f := by omega
  have hf2 : f < 1000 := by omega
  have hft : f < (t : Int) := by omega
  have finish : ∀ w1 : World, Below w.heap.size w w1 → (∀ (Q : Ending → World → Prop), True) := fun _ _ _ => trivial
  clear finish hx hv hl hp hb1
  by_cases h0 : s = 0
  · have hfe : f = -1 := by omega
    have F0 := Lib.hid hfe
    clear hf hb0
    subst hfe
    subst h0
    go_enter Try.func62, Try.ntmps62
    go_wp2_with fail
    refine VI.out.mono ?_
    rintro e w1 ⟨rfl, hb⟩
    have B1 := Lib.hid hb
    have X1 := Lib.hid (X.out.below hb)
    clear hb
    go_wp2_with (go_at_call 61; refine (BT.out _ X1.out).mono ?_; rintro e w' ⟨rfl, rfl⟩)
    go_loopw [7] (VLRel w1 xs 0 t) (fun i _ => t - (intOf i).toNat)
    case atStart => exact ⟨0, Nat.le_refl _, hs, rfl, rfl, rfl⟩
    case round =>
      obtain ⟨k, hk1, hk2, rfl, hl, rfl⟩ := hrel
      have HL := Lib.hid hl
      clear hl
      by_cases hlt : k < t
      · obtain ⟨b, o, x, rfl, ex, hc0, _, _, _, hc4, _⟩ := X1.out.item_at (k := k) (by omega)
        have EX := Lib.hid ex
        clear ex
        obtain ⟨K, hK⟩ : ∃ K, K = x.k := ⟨_, rfl⟩
        obtain ⟨P, hP⟩ : ∃ P, P = x.p := ⟨_, rfl⟩
        rw [← hK] at hc0
        rw [← hP] at hc4
        by_cases h3 : K = 3
        · by_cases hp : P = -1000
          · have NB : Hid (frc x = true) := by show _ = _; rw [frc, ← hK, ← hP, h3, hp]; rfl
            subst h3
            subst hp
            clear hK hP
            go_wp2
            go_ret
            exact ⟨ret_bool (by rw [HL.out, nof_stop hlt EX.out NB.out]), B1.out⟩
          · have hp' : (P == -1000) = false := by simpa using hp
            have NB : Hid (frc x = false) := by show _ = _; rw [frc, ← hK, ← hP, hp', h3]; rfl
            subst h3
            clear hK hP
            go_wp2
            go_roundw
            case rel => exact ⟨k + 1, by omega, by omega, by go_num, by rw [HL.out, nof_step hlt EX.out NB.out], rfl⟩
            case measure => simp [intOf] <;> omega
        · have h3' : (K == 3) = false := by simpa using h3
          have NB : Hid (frc x = false) := by show _ = _; rw [frc, ← hK, h3']; rfl
          clear hK hP
          go_wp2
          go_roundw
          case rel => exact ⟨k + 1, by omega, by omega, by go_num, by rw [HL.out, nof_step hlt EX.out NB.out], rfl⟩
          case measure => simp [intOf] <;> omega
      · obtain rfl : k = t := by omega
        go_wp2
        go_ret
        exact ⟨ret_bool (by rw [HL.out, nof_end (Nat.le_refl _)]), B1.out⟩
  · obtain ⟨r, rfl⟩ : ∃ r, s = r + 1 := ⟨s - 1, by omega⟩
    have hbr : isB xs r = true := by simpa using hb0
    have BR := Lib.hid (fun w1 (hr : Rd w1 6 A n (items xs)) => brkSpec_any A n c r xs w1 hr (by omega) (by omega))
    rw [hbr] at BR
    have hfe : f = (r : Int) := by omega
    clear hf hb0 hbr h0 F
    subst hfe
    go_enter Try.func62, Try.ntmps62
    go_wp2_with fail
    refine VI.out.mono ?_
    rintro e w1 ⟨rfl, hb⟩
    have B1 := Lib.hid hb
    have X1 := Lib.hid (X.out.below hb)
    clear hb
    go_wp2_with fail
    refine (BT.out _ X1.out).mono ?_
    rintro e w' ⟨rfl, rfl⟩
    go_wp2_with fail
    refine (BR.out _ X1.out).mono ?_
    rintro e w' ⟨rfl, rfl⟩
    go_wp2_with fail
    go_loopw [7] (VLRel w1 xs (r + 1) t) (fun i _ => t - (intOf i).toNat)
    case atStart => exact ⟨r + 1, Nat.le_refl _, hs, by go_num, rfl, rfl⟩
    case round =>
      obtain ⟨k, hk1, hk2, rfl, hl, rfl⟩ := hrel
      have HL := Lib.hid hl
      clear hl
      by_cases hlt : k < t
      · obtain ⟨b, o, x, rfl, ex, hc0, _, _, _, hc4, _⟩ := X1.out.item_at (k := k) (by omega)
        have EX := Lib.hid ex
        clear ex
        obtain ⟨K, hK⟩ : ∃ K, K = x.k := ⟨_, rfl⟩
        obtain ⟨P, hP⟩ : ∃ P, P = x.p := ⟨_, rfl⟩
        rw [← hK] at hc0
        rw [← hP] at hc4
        by_cases h3 : K = 3
        · by_cases hp : P = -1000
          · have NB : Hid (frc x = true) := by show _ = _; rw [frc, ← hK, ← hP, h3, hp]; rfl
            subst h3
            subst hp
            clear hK hP
            go_wp2
            go_ret
            exact ⟨ret_bool (by rw [HL.out, nof_stop hlt EX.out NB.out]), B1.out⟩
          · have hp' : (P == -1000) = false := by simpa using hp
            have NB : Hid (frc x = false) := by show _ = _; rw [frc, ← hK, ← hP, hp', h3]; rfl
            subst h3
            clear hK hP
            go_wp2
            go_roundw
            case rel => exact ⟨k + 1, by omega, by omega, by go_num, by rw [HL.out, nof_step hlt EX.out NB.out], rfl⟩
            case measure => simp [intOf] <;> omega
        · have h3' : (K == 3) = false := by simpa using h3
          have NB : Hid (frc x = false) := by show _ = _; rw [frc, ← hK, h3']; rfl
          clear hK hP
          go_wp2
          go_roundw
          case rel => exact ⟨k + 1, by omega, by omega, by go_num, by rw [HL.out, nof_step hlt EX.out NB.out], rfl⟩
          case measure => simp [intOf] <;> omega
      · obtain rfl : k = t := by omega
        go_wp2
        go_ret
        exact ⟨ret_bool (by rw [HL.out, nof_end (Nat.le_refl _)]), B1.out⟩
end Go.Proofs.Ytjkmjgjpkneckaa
