/-
  Contracts of ValidOutline and ParentOf, the program's and the reference's, against one plain function each.
-/
import Derived.Test.YtdgmienljhaipaaDoorInts
import Derived.Test.YtdgmienljhaipaaDoorRange
namespace Go.Proofs.YtdgmienljhaipaaDoor
open Go.RowKit
set_option linter.unusedVariables false

/-- Levels of headings behind one of the level 'last': each is at most one more than the one before it, and at most 4. -/
def vOut : Int → List Int → Bool
  | _, [] => true
  | last, l :: ls => inB 1 (min (last + 1) 4) l && vOut l ls
def vOutline (ls : List Int) : Bool := vOut 0 ls && decide (ls.length ≤ 20)

theorem out_false {xs : List Int} {last x : Int} {k : Nat} (hv : vOut 0 xs = vOut last (xs.drop k)) (hx : xs[k]? = some x) (hb : inB 1 (min (last + 1) 4) x = false) : vOutline xs = false := by
  rw [vOutline, hv, drop_of_get hx, vOut, hb]; rfl
theorem out_step {xs : List Int} {last x : Int} {k : Nat} (hv : vOut 0 xs = vOut last (xs.drop k)) (hx : xs[k]? = some x) (hb : inB 1 (min (last + 1) 4) x = true) : vOut 0 xs = vOut x (xs.drop (k + 1)) := by
  rw [hv, drop_of_get hx, vOut, hb, Bool.true_and]
theorem out_end {xs : List Int} {last : Int} {n : Nat} (hl : xs.length = n) (hv : vOut 0 xs = vOut last (xs.drop n)) : vOutline xs = decide (n ≤ 20) := by
  rw [vOutline, hv, List.drop_of_length_le (by omega), hl]; simp [vOut]

def OutRel (xs : List Int) (n : Nat) (i last : Value) : Prop :=
  ∃ (k : Nat) (l : Int), k ≤ n ∧ i = .int .i64 k ∧ last = .int .i64 l ∧ 0 ≤ l ∧ l ≤ 4 ∧ vOut 0 xs = vOut l (xs.drop k)
def OutRel' (xs : List Int) (n : Nat) (i : Value) : Prop :=
  ∃ (k : Nat) (l : Int), k ≤ n ∧ i = .int .i64 k ∧ 0 ≤ l ∧ l ≤ 4 ∧ vOut 0 xs = vOut l (xs.drop k) ∧ (k = 0 → l = 0) ∧ (0 < k → xs[k - 1]? = some l)

set_option maxHeartbeats 2000000 in
theorem specOutline_any (A : Option Addr) (n c : Nat) (xs : List Int) (w : World) (hx : Rd w 1 A n (ints xs)) (hn : n ≤ 1048576) :
    Calls Tryd.prog 28 #[.slice A n c] w fun e w' => e = .returned (.bool (vOutline xs)) ∧ w = w' := by
  have HL := Lib.hid hx.len
  go_enter Tryd.func28, Tryd.ntmps28
  go_wp2_with fail
  go_loop [3] (OutRel' xs n) (fun i => n - (intOf i).toNat)
  case atStart => exact ⟨0, 0, Nat.zero_le _, rfl, by omega, by omega, rfl, fun _ => rfl, fun h => absurd h (by omega)⟩
  case round =>
    obtain ⟨k, last, hk, rfl, hl0, hl1, hv, hz, hp⟩ := hrel
    have HV := Lib.hid hv
    have HZ := Lib.hid hz
    have HP := Lib.hid hp
    clear hv hz hp
    by_cases hlt : k < n
    · obtain ⟨b, o, x, rfl, ex, hcx⟩ := hx.int_at hlt
      have EX := Lib.hid ex
      clear ex
      by_cases hk0 : k = 0
      · subst hk0
        have h0 := HZ.out rfl
        subst h0
        clear hx
        rw [Nat.add_zero] at hcx
        cases hr : inB 1 1 x
        · have HR := Lib.hid hr
          clear hr
          go_wp2_with (go_at_call 32; refine (inRange_any _ _ _ _ HR.out _).mono ?_; rintro e w' ⟨rfl, rfl⟩)
          go_ret
          exact ⟨ret_bool (by rw [out_false HV.out EX.out (by first | exact HR.out | (rw [show min (0 + 1) 4 = 1 from by omega]; exact HR.out))]), rfl⟩
        · have HR := Lib.hid hr
          have hx1 := inB_iff.1 hr
          clear hr
          go_wp2_with (go_at_call 32; refine (inRange_any _ _ _ _ HR.out _).mono ?_; rintro e w' ⟨rfl, rfl⟩)
          go_round
          case rel => exact ⟨0 + 1, x, by omega, by go_num, by omega, by omega, out_step HV.out EX.out (by first | exact HR.out | (rw [show min (0 + 1) 4 = 1 from by omega]; exact HR.out)), fun h => absurd h (by omega), fun _ => EX.out⟩
          case measure => simp [intOf] <;> omega
      · have hpr : w.cell? ⟨b, o + (k - 1), none⟩ = some (.int .i64 last) := by
          obtain ⟨b', o', y, e1, ey, hcy⟩ := hx.int_at (k := k - 1) (by omega)
          injection e1 with e1
          injection e1 with e1 e2
          subst e1; subst e2
          rw [HP.out (by omega)] at ey
          injection ey with ey
          rw [hcy, ey]
        clear hx
        have hk1 : 0 < k := by omega
        by_cases h4 : last = 4
        · subst h4
          cases hr : inB 1 4 x
          · have HR := Lib.hid hr
            clear hr
            go_wp2_with (go_at_call 32; refine (inRange_any _ _ _ _ HR.out _).mono ?_; rintro e w' ⟨rfl, rfl⟩)
            go_ret
            exact ⟨ret_bool (by rw [out_false HV.out EX.out (by first | exact HR.out | (rw [show min (4 + 1) 4 = 4 from by omega]; exact HR.out))]), rfl⟩
          · have HR := Lib.hid hr
            have hx1 := inB_iff.1 hr
            clear hr
            go_wp2_with (go_at_call 32; refine (inRange_any _ _ _ _ HR.out _).mono ?_; rintro e w' ⟨rfl, rfl⟩)
            go_round
            case rel => exact ⟨k + 1, x, by omega, by go_num, by omega, by omega, out_step HV.out EX.out (by first | exact HR.out | (rw [show min (4 + 1) 4 = 4 from by omega]; exact HR.out)), fun h => absurd h (by omega), fun _ => EX.out⟩
            case measure => simp [intOf] <;> omega
        · have h4' : last ≤ 3 := by omega
          clear h4
          cases hr : inB 1 (last + 1) x
          · have HR := Lib.hid hr
            clear hr
            go_wp2_with (go_at_call 32; refine (inRange_any _ _ _ _ HR.out _).mono ?_; rintro e w' ⟨rfl, rfl⟩)
            go_ret
            exact ⟨ret_bool (by rw [out_false HV.out EX.out (by first | exact HR.out | (rw [show min (last + 1) 4 = (last + 1) from by omega]; exact HR.out))]), rfl⟩
          · have HR := Lib.hid hr
            have hx1 := inB_iff.1 hr
            clear hr
            go_wp2_with (go_at_call 32; refine (inRange_any _ _ _ _ HR.out _).mono ?_; rintro e w' ⟨rfl, rfl⟩)
            go_round
            case rel => exact ⟨k + 1, x, by omega, by go_num, by omega, by omega, out_step HV.out EX.out (by first | exact HR.out | (rw [show min (last + 1) 4 = (last + 1) from by omega]; exact HR.out)), fun h => absurd h (by omega), fun _ => EX.out⟩
            case measure => simp [intOf] <;> omega
    · obtain rfl : k = n := by omega
      clear hx
      have HE := Lib.hid (out_end HL.out HV.out)
      go_wp2_with fail
      go_ret
      refine ⟨ret_bool ?_, rfl⟩
      rw [HE.out, Bool.eq_iff_iff]
      simp
      omega
end Go.Proofs.YtdgmienljhaipaaDoor
