/-
  Contracts of the program's ValidOutline, and of ParentOf, the program's and the reference's.
-/
import Derived.Test.YtdgmienljhaipaaDoorOutline
namespace Go.Proofs.YtdgmienljhaipaaDoor
open Go.RowKit
set_option linter.unusedVariables false

set_option maxHeartbeats 2000000 in
theorem implOutline_any (A : Option Addr) (n c : Nat) (xs : List Int) (w : World) (hx : Rd w 1 A n (ints xs)) (hn : n ≤ 1048576) :
    Calls Tryd.prog 9 #[.slice A n c] w fun e w' => e = .returned (.bool (vOutline xs)) ∧ w = w' := by
  have HL := Lib.hid hx.len
  go_enter Tryd.func9, Tryd.ntmps9
  go_wp2_with fail
  go_loop [8, 3] (OutRel xs n) (fun i _ => n - (intOf i).toNat)
  case atStart => exact ⟨0, 0, Nat.zero_le _, rfl, rfl, by omega, by omega, rfl⟩
  case round =>
    obtain ⟨k, last, hk, rfl, rfl, hl0, hl1, hv⟩ := hrel
    have HV := Lib.hid hv
    clear hv
    by_cases hlt : k < n
    · obtain ⟨b, o, x, rfl, ex, hcx⟩ := hx.int_at hlt
      have EX := Lib.hid ex
      clear ex hx
      by_cases h4 : last = 4
      · subst h4
        cases hr : inB 1 4 x
        · have HR := Lib.hid hr
          clear hr
          go_wp2_with (go_at_call 27; refine (within_any _ _ _ _ HR.out _).mono ?_; rintro e w' ⟨rfl, rfl⟩)
          go_ret
          exact ⟨ret_bool (by rw [out_false HV.out EX.out (by first | exact HR.out | (rw [show min (4 + 1) 4 = 4 from by omega]; exact HR.out))]), rfl⟩
        · have HR := Lib.hid hr
          have hx1 := inB_iff.1 hr
          clear hr
          go_wp2_with (go_at_call 27; refine (within_any _ _ _ _ HR.out _).mono ?_; rintro e w' ⟨rfl, rfl⟩)
          go_round
          case rel => exact ⟨k + 1, x, by omega, by go_num, rfl, by omega, by omega, out_step HV.out EX.out (by first | exact HR.out | (rw [show min (4 + 1) 4 = 4 from by omega]; exact HR.out))⟩
          case measure => simp [intOf] <;> omega
      · have h4' : last ≤ 3 := by omega
        clear h4
        cases hr : inB 1 (last + 1) x
        · have HR := Lib.hid hr
          clear hr
          go_wp2_with (go_at_call 27; refine (within_any _ _ _ _ HR.out _).mono ?_; rintro e w' ⟨rfl, rfl⟩)
          go_ret
          exact ⟨ret_bool (by rw [out_false HV.out EX.out (by first | exact HR.out | (rw [show min (last + 1) 4 = (last + 1) from by omega]; exact HR.out))]), rfl⟩
        · have HR := Lib.hid hr
          have hx1 := inB_iff.1 hr
          clear hr
          go_wp2_with (go_at_call 27; refine (within_any _ _ _ _ HR.out _).mono ?_; rintro e w' ⟨rfl, rfl⟩)
          go_round
          case rel => exact ⟨k + 1, x, by omega, by go_num, rfl, by omega, by omega, out_step HV.out EX.out (by first | exact HR.out | (rw [show min (last + 1) 4 = (last + 1) from by omega]; exact HR.out))⟩
          case measure => simp [intOf] <;> omega
    · obtain rfl : k = n := by omega
      clear hx
      have HE := Lib.hid (out_end HL.out HV.out)
      go_wp2_with fail
      go_ret
      refine ⟨ret_bool ?_, rfl⟩
      rw [HE.out, Bool.eq_iff_iff]
      simp
      omega

theorem specValidOutline_any (A : Option Addr) (n c : Nat) (xs : List Int) (w : World) (hx : Rd w 1 A n (ints xs)) (hn : n ≤ 1048576) :
    Calls Tryd.prog 10 #[.slice A n c] w fun e w' => e = .returned (.bool (vOutline xs)) ∧ w = w' := by
  have HC := Lib.hid (specOutline_any A n c xs w hx hn)
  clear hx
  go_enter Tryd.func10, Tryd.ntmps10
  go_wp2_with (go_at_call 28; refine HC.out.mono ?_; rintro e w' ⟨rfl, rfl⟩)
  go_ret
  exact ⟨rfl, rfl⟩

/-- The last of the first k levels that is lower than x, or -1. -/
def pFrom (ls : List Int) (x : Int) : Nat → Int
  | 0 => -1
  | k + 1 => if ls.getD k 0 < x then (k : Int) else pFrom ls x k

def parentOf (ls : List Int) (i : Int) : Int :=
  if vOutline ls = true ∧ inB 0 ((ls.length : Int) - 1) i = true then pFrom ls (ls.getD i.toNat 0) i.toNat else -1

theorem pFrom_lt {ls : List Int} {x y : Int} {k : Nat} (hk : ls[k]? = some y) (h : y < x) : pFrom ls x (k + 1) = k := by
  rw [pFrom, List.getD_eq_getElem?_getD, hk]; simp [h]
theorem pFrom_ge {ls : List Int} {x y : Int} {k : Nat} (hk : ls[k]? = some y) (h : ¬ y < x) : pFrom ls x (k + 1) = pFrom ls x k := by
  rw [pFrom, List.getD_eq_getElem?_getD, hk]; simp [h]

def ParRel (w : World) (ls : List Int) (x : Int) (i : Nat) (v : Value) (wr : World) : Prop :=
  ∃ (k : Int) (q : Nat), -1 ≤ k ∧ k < i ∧ v = .int .i64 k ∧ pFrom ls x i = pFrom ls x (k + 1).toNat ∧ wr = w.drewN q

theorem par_end {ls : List Int} {x : Int} {i : Nat} {k : Int} (h1 : -1 ≤ k) (h2 : ¬ 0 ≤ k) (h : pFrom ls x i = pFrom ls x (k + 1).toNat) : pFrom ls x i = -1 ∧ k = -1 := by
  obtain rfl : k = -1 := by omega
  exact ⟨by rw [h]; rfl, rfl⟩

set_option maxHeartbeats 2000000 in
theorem specParent_any (A : Option Addr) (n c : Nat) (xs : List Int) (w : World) (hx : Rd w 1 A n (ints xs)) (i : Nat) (x : Int) (hi : i < n) (hn : n ≤ 1048576) (hxi : xs[i]? = some x) :
    Calls Tryd.prog 33 #[.slice A n c, .int .i64 i] w fun e w' => e = .returned (.int .i64 (pFrom xs x i)) ∧ ∃ q, w' = w.drewN q := by
  obtain ⟨b, o, x', rfl, ex, hcx⟩ := hx.int_at hi
  rw [hxi] at ex
  injection ex with ex
  subst ex
  have HX := Lib.hid hx
  have HI := Lib.hid hxi
  clear hx hxi
  go_enter Tryd.func33, Tryd.ntmps33
  go_wp2_with fail
  go_loopw [5] (ParRel w xs x i) (fun v _ => (intOf v + 1).toNat)
  case atStart => exact ⟨(i : Int) - 1, 0, by omega, by omega, rfl, by rw [show ((i : Int) - 1 + 1).toNat = i from by omega], rfl⟩
  case round =>
    obtain ⟨k, q, hk1, hk2, rfl, hp, rfl⟩ := hrel
    have HP := Lib.hid hp
    clear hp
    by_cases h0 : 0 ≤ k
    · obtain ⟨j, rfl⟩ := Int.eq_ofNat_of_zero_le h0
      obtain ⟨b', o', y, e1, ey, hcy⟩ := HX.out.int_at (k := j) (by omega)
      injection e1 with e1
      injection e1 with e1 e2
      subst e1; subst e2
      have EY := Lib.hid ey
      clear ey
      by_cases hlt : y < x
      · go_wp2_with fail
        go_quiet (fail)
        go_wp2_with fail
        go_ret
        exact ⟨ret_int (by rw [HP.out, show ((j : Int) + 1).toNat = j + 1 from by omega, pFrom_lt EY.out hlt]), q + nq, by rw [World.drewN_drewN]⟩
      · go_wp2_with fail
        go_quiet (fail)
        go_wp2_with fail
        go_roundw
        case rel => exact ⟨(j : Int) - 1, _, by omega, by omega, rfl, by rw [HP.out, show ((j : Int) + 1).toNat = j + 1 from by omega, pFrom_ge EY.out (by omega), show ((j : Int) - 1 + 1).toNat = j from by omega], rfl⟩
        case measure => simp [intOf] <;> omega
    · have HE := Lib.hid (par_end hk1 h0 HP.out).1
      go_wp2_with fail
      go_ret
      exact ⟨ret_int HE.out.symm, q, rfl⟩

set_option maxHeartbeats 4000000 in
theorem implParent_any (A : Option Addr) (n c : Nat) (xs : List Int) (w : World) (hx : Rd w 1 A n (ints xs)) (i : Int) (hn : n ≤ 1048576) :
    Calls Tryd.prog 14 #[.slice A n c, .int .i64 i] w fun e w' => e = .returned (.int .i64 (parentOf xs i)) ∧ ∃ q, w' = w.drewN q := by
  have HL := Lib.hid hx.len
  have HC := Lib.hid (implOutline_any A n c xs w hx hn)
  cases hv : vOutline xs
  · have HV := Lib.hid hv
    clear hx hv
    rw [HV.out] at HC
    go_enter Tryd.func14, Tryd.ntmps14
    go_wp2_with (go_at_call 9; refine HC.out.mono ?_; rintro e w' ⟨rfl, rfl⟩)
    go_ret
    exact ⟨ret_int (by rw [parentOf, if_neg (by rw [HV.out]; simp)]), 0, rfl⟩
  have HV := Lib.hid hv
  rw [hv] at HC
  clear hv
  cases hr : inB 0 ((n : Int) - 1) i
  · have HR := Lib.hid hr
    clear hr hx
    go_enter Tryd.func14, Tryd.ntmps14
    go_wp2_with (first | (go_at_call 9; refine HC.out.mono ?_; rintro e w' ⟨rfl, rfl⟩) | (go_at_call 27; refine (within_any _ _ _ _ HR.out _).mono ?_; rintro e w' ⟨rfl, rfl⟩))
    go_ret
    exact ⟨ret_int (by rw [parentOf, if_neg (by rw [HL.out, HR.out]; simp)]), 0, rfl⟩
  have HR := Lib.hid hr
  have hir := inB_iff.1 hr
  clear hr
  obtain ⟨h0, h1⟩ := hir
  obtain ⟨i, rfl⟩ := Int.eq_ofNat_of_zero_le h0
  obtain ⟨b, o, x, rfl, ex, hcx⟩ := hx.int_at (k := i) (by omega)
  have HX := Lib.hid hx
  have HI := Lib.hid ex
  have HF : Hid (parentOf xs i = pFrom xs x i) := by
    show parentOf xs i = _
    rw [parentOf, if_pos ⟨HV.out, by rw [HL.out]; exact HR.out⟩, Int.toNat_natCast, List.getD_eq_getElem?_getD, ex]; rfl
  clear hx ex
  go_enter Tryd.func14, Tryd.ntmps14
  go_wp2_with (first | (go_at_call 9; refine HC.out.mono ?_; rintro e w' ⟨rfl, rfl⟩) | (go_at_call 27; refine (within_any _ _ _ _ HR.out _).mono ?_; rintro e w' ⟨rfl, rfl⟩))
  go_loopw [5] (ParRel w xs x i) (fun v _ => (intOf v + 1).toNat)
  case atStart => exact ⟨(i : Int) - 1, 0, by omega, by omega, rfl, by rw [show ((i : Int) - 1 + 1).toNat = i from by omega], rfl⟩
  case round =>
    obtain ⟨k, q, hk1, hk2, rfl, hp, rfl⟩ := hrel
    have HP := Lib.hid hp
    clear hp HC
    by_cases hk0 : 0 ≤ k
    · obtain ⟨j, rfl⟩ := Int.eq_ofNat_of_zero_le hk0
      obtain ⟨b', o', y, e1, ey, hcy⟩ := HX.out.int_at (k := j) (by omega)
      injection e1 with e1
      injection e1 with e1 e2
      subst e1; subst e2
      have EY := Lib.hid ey
      clear ey
      by_cases hlt : y < x
      · have hd : decide (x ≤ y) = false := decide_eq_false (by omega)
        go_wp2_with fail
        go_quiet (fail)
        go_wp2_with fail
        go_ret
        exact ⟨ret_int (by rw [HF.out, HP.out, show ((j : Int) + 1).toNat = j + 1 from by omega, pFrom_lt EY.out hlt]), q + nq, by rw [World.drewN_drewN]⟩
      · have hge : x ≤ y := by omega
        go_wp2_with fail
        go_quiet (fail)
        go_wp2_with fail
        go_roundw
        case rel => exact ⟨(j : Int) - 1, _, by omega, by omega, rfl, by rw [HP.out, show ((j : Int) + 1).toNat = j + 1 from by omega, pFrom_ge EY.out (by omega), show ((j : Int) - 1 + 1).toNat = j from by omega], rfl⟩
        case measure => simp [intOf] <;> omega
    · have HE := Lib.hid (par_end hk1 hk0 HP.out)
      have hd : decide (0 ≤ k) = false := decide_eq_false hk0
      go_wp2_with fail
      go_quiet (fail)
      go_wp2_with fail
      go_ret
      exact ⟨ret_int (by rw [HF.out, HE.out.1, HE.out.2]), q + nq, by rw [World.drewN_drewN]⟩

set_option maxHeartbeats 2000000 in
theorem specParentOf_any (A : Option Addr) (n c : Nat) (xs : List Int) (w : World) (hx : Rd w 1 A n (ints xs)) (i : Int) (hn : n ≤ 1048576) :
    Calls Tryd.prog 15 #[.slice A n c, .int .i64 i] w fun e w' => e = .returned (.int .i64 (parentOf xs i)) ∧ ∃ q, w' = w.drewN q := by
  have HL := Lib.hid hx.len
  have HC := Lib.hid (specOutline_any A n c xs w hx hn)
  cases hv : vOutline xs
  · have HV := Lib.hid hv
    clear hx hv
    rw [HV.out] at HC
    go_enter Tryd.func15, Tryd.ntmps15
    go_wp2_with (go_at_call 28; refine HC.out.mono ?_; rintro e w' ⟨rfl, rfl⟩)
    go_ret
    exact ⟨ret_int (by rw [parentOf, if_neg (by rw [HV.out]; simp)]), 0, rfl⟩
  have HV := Lib.hid hv
  rw [hv] at HC
  clear hv
  cases hr : inB 0 ((n : Int) - 1) i
  · have HR := Lib.hid hr
    clear hr hx
    go_enter Tryd.func15, Tryd.ntmps15
    go_wp2_with (first | (go_at_call 28; refine HC.out.mono ?_; rintro e w' ⟨rfl, rfl⟩) | (go_at_call 32; refine (inRange_any _ _ _ _ HR.out _).mono ?_; rintro e w' ⟨rfl, rfl⟩))
    go_ret
    exact ⟨ret_int (by rw [parentOf, if_neg (by rw [HL.out, HR.out]; simp)]), 0, rfl⟩
  have HR := Lib.hid hr
  have hir := inB_iff.1 hr
  clear hr
  obtain ⟨h0, h1⟩ := hir
  obtain ⟨i, rfl⟩ := Int.eq_ofNat_of_zero_le h0
  obtain ⟨b, o, x, rfl, ex, hcx⟩ := hx.int_at (k := i) (by omega)
  have HF : Hid (parentOf xs i = pFrom xs x i) := by
    show parentOf xs i = _
    rw [parentOf, if_pos ⟨HV.out, by rw [HL.out]; exact HR.out⟩, Int.toNat_natCast, List.getD_eq_getElem?_getD, ex]; rfl
  have HP := Lib.hid (specParent_any _ n c xs w hx i x (by omega) hn ex)
  clear hx ex
  go_enter Tryd.func15, Tryd.ntmps15
  go_wp2_with (first | (go_at_call 28; refine HC.out.mono ?_; rintro e w' ⟨rfl, rfl⟩) | (go_at_call 32; refine (inRange_any _ _ _ _ HR.out _).mono ?_; rintro e w' ⟨rfl, rfl⟩) | (go_at_call 33; refine HP.out.mono ?_; rintro e w' ⟨rfl, q, rfl⟩))
  go_ret
  exact ⟨ret_int HF.out.symm, _, rfl⟩
end Go.Proofs.YtdgmienljhaipaaDoor
