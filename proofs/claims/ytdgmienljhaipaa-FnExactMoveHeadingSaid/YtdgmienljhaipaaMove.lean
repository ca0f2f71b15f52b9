/-
  Contracts of ownedEnd and endOf, and of MoveHeading where a heading is moved into itself.
-/
import Derived.Test.YtdgmienljhaipaaOutline2
namespace Go.Proofs.Ytdgmienljhaipaa
open Go.RowKit
set_option linter.unusedVariables false

/-- From k on: the first heading that is not lower than one of level x, or the end. -/
def oFrom (xs : List Int) (x : Int) (k : Nat) : Nat := k + ((xs.drop k).takeWhile fun y => decide (x < y)).length
theorem oFrom_next {xs : List Int} {x y : Int} {k : Nat} (hk : xs[k]? = some y) (h : x < y) : oFrom xs x k = oFrom xs x (k + 1) := by
  unfold oFrom
  rw [drop_of_get hk, List.takeWhile_cons, decide_eq_true h]
  simp
  omega
theorem oFrom_stop {xs : List Int} {x y : Int} {k : Nat} (hk : xs[k]? = some y) (h : ¬ x < y) : oFrom xs x k = k := by
  unfold oFrom
  rw [drop_of_get hk, List.takeWhile_cons, decide_eq_false h]
  simp
theorem oFrom_end {xs : List Int} {x : Int} {k : Nat} (h : xs.length ≤ k) : oFrom xs x k = k := by
  unfold oFrom
  rw [List.drop_of_length_le h]
  simp
theorem oFrom_le {xs : List Int} {x : Int} {k : Nat} (h : k ≤ xs.length) : oFrom xs x k ≤ xs.length := by
  unfold oFrom
  have := (List.takeWhile_sublist (l := xs.drop k) fun y => decide (x < y)).length_le
  rw [List.length_drop] at this
  omega
theorem oFrom_ge {xs : List Int} {x : Int} {k : Nat} : k ≤ oFrom xs x k := by unfold oFrom; omega
theorem oFrom_past {xs : List Int} {x : Int} : ∀ (m k : Nat), (∀ j y, k ≤ j → j < k + m → xs[j]? = some y → x < y) → k + m ≤ xs.length → k + m ≤ oFrom xs x k
  | 0, k, _, _ => by have := oFrom_ge (xs := xs) (x := x) (k := k); omega
  | m + 1, k, h, hl => by
    have hk : xs[k]? = some xs[k] := List.getElem?_eq_getElem (by omega)
    rw [oFrom_next hk (h k _ (Nat.le_refl _) (by omega) hk)]
    have := oFrom_past m (k + 1) (fun j y h1 h2 h3 => h j y (by omega) (by omega) h3) (by omega)
    omega

set_option maxHeartbeats 2000000 in
theorem implEnd_any (A : Option Addr) (n c : Nat) (xs : List Int) (w : World) (hx : Rd w 1 A n (ints xs)) (i : Nat) (x : Int) (hi : i < n) (hn : n ≤ 1048576) (hxi : xs[i]? = some x) :
    Calls Try.prog 26 #[.slice A n c, .int .i64 (i : Int)] w fun e w' => e = .returned (.int .i64 (oFrom xs x (i + 1) : Int)) ∧ ∃ q, w' = w.drewN q := by
  obtain ⟨b, o, x', rfl, ex, hcx⟩ := hx.int_at hi
  rw [hxi] at ex
  injection ex with ex
  subst ex
  have HX := Lib.hid hx
  have HL := Lib.hid hx.len
  clear hx hxi
  have hi0 : (0 : Int) ≤ (i : Int) := by omega
  have hi1 : (i : Int) < (n : Int) := by omega
  go_enter Try.func26, Try.ntmps26
  go_wp2_with fail
  go_loopw [5] (fun s wr => ∃ k q : Nat, k ≤ n ∧ i < k ∧ s = .int .i64 (k : Int) ∧ oFrom xs x (i + 1) = oFrom xs x k ∧ wr = w.drewN q) (fun s _ => n - (intOf s).toNat)
  case atStart => exact ⟨i + 1, 0, by omega, by omega, by go_num, rfl, rfl⟩
  case round =>
    obtain ⟨k, q, hk, hik, rfl, ho, rfl⟩ := hrel
    have HO := Lib.hid ho
    clear ho
    have hk0 : (0 : Int) ≤ (k : Int) := by omega
    by_cases hlt : k < n
    · have hlt' : (k : Int) < (n : Int) := by omega
      obtain ⟨b', o', y, e1, ey, hcy⟩ := HX.out.int_at hlt
      injection e1 with e1
      injection e1 with e1 e2
      subst e1; subst e2
      have EY := Lib.hid ey
      clear ey
      by_cases hxy : x < y
      · go_wp2_with fail
        go_quiet (fail)
        go_wp2_with fail
        go_roundw
        case rel => exact ⟨k + 1, _, by omega, by omega, by go_num, by rw [HO.out, oFrom_next EY.out hxy], rfl⟩
        case measure => simp [intOf] <;> omega
      · have hd : decide (x < y) = false := decide_eq_false hxy
        go_wp2_with fail
        go_quiet (fail)
        go_wp2_with fail
        go_ret
        exact ⟨ret_int (by rw [HO.out, oFrom_stop EY.out (by omega)]), q + nq, by rw [World.drewN_drewN]⟩
    · obtain rfl : k = n := by omega
      have hd : decide ((k : Int) < (k : Int)) = false := decide_eq_false (by omega)
      have HE : Hid (oFrom xs x k = k) := oFrom_end (by rw [HL.out]; exact Nat.le_refl _)
      go_wp2_with fail
      go_quiet (fail)
      go_wp2_with fail
      go_ret
      exact ⟨ret_int (by rw [HO.out, HE.out]), q + nq, by rw [World.drewN_drewN]⟩
set_option maxHeartbeats 2000000 in
theorem specEnd_any (A : Option Addr) (n c : Nat) (xs : List Int) (w : World) (hx : Rd w 1 A n (ints xs)) (i : Nat) (x : Int) (hi : i < n) (hn : n ≤ 1048576) (hxi : xs[i]? = some x) :
    Calls Try.prog 25 #[.slice A n c, .int .i64 (i : Int)] w fun e w' => e = .returned (.int .i64 (oFrom xs x (i + 1) : Int)) ∧ ∃ q, w' = w.drewN q := by
  obtain ⟨b, o, x', rfl, ex, hcx⟩ := hx.int_at hi
  rw [hxi] at ex
  injection ex with ex
  subst ex
  have HX := Lib.hid hx
  have HL := Lib.hid hx.len
  clear hx hxi
  have hi0 : (0 : Int) ≤ (i : Int) := by omega
  have hi1 : (i : Int) < (n : Int) := by omega
  go_enter Try.func25, Try.ntmps25
  go_wp2_with fail
  go_loopw [5] (fun s wr => ∃ k q : Nat, k ≤ n ∧ i < k ∧ s = .int .i64 (k : Int) ∧ oFrom xs x (i + 1) = oFrom xs x k ∧ wr = w.drewN q) (fun s _ => n - (intOf s).toNat)
  case atStart => exact ⟨i + 1, 0, by omega, by omega, by go_num, rfl, rfl⟩
  case round =>
    obtain ⟨k, q, hk, hik, rfl, ho, rfl⟩ := hrel
    have HO := Lib.hid ho
    clear ho
    have hk0 : (0 : Int) ≤ (k : Int) := by omega
    by_cases hlt : k < n
    · have hlt' : (k : Int) < (n : Int) := by omega
      obtain ⟨b', o', y, e1, ey, hcy⟩ := HX.out.int_at hlt
      injection e1 with e1
      injection e1 with e1 e2
      subst e1; subst e2
      have EY := Lib.hid ey
      clear ey
      by_cases hxy : x < y
      · go_wp2_with fail
        go_quiet (fail)
        go_wp2_with fail
        go_roundw
        case rel => exact ⟨k + 1, _, by omega, by omega, by go_num, by rw [HO.out, oFrom_next EY.out hxy], rfl⟩
        case measure => simp [intOf] <;> omega
      · have hd : decide (x < y) = false := decide_eq_false hxy
        go_wp2_with fail
        go_quiet (fail)
        go_wp2_with fail
        go_ret
        exact ⟨ret_int (by rw [HO.out, oFrom_stop EY.out (by omega)]), q + nq, by rw [World.drewN_drewN]⟩
    · obtain rfl : k = n := by omega
      have hd : decide ((k : Int) < (k : Int)) = false := decide_eq_false (by omega)
      have HE : Hid (oFrom xs x k = k) := oFrom_end (by rw [HL.out]; exact Nat.le_refl _)
      go_wp2_with fail
      go_quiet (fail)
      go_wp2_with fail
      go_ret
      exact ⟨ret_int (by rw [HO.out, HE.out]), q + nq, by rw [World.drewN_drewN]⟩

/-- A heading is not moved into itself. -/
def MoveNo (w : World) (e : Ending) (w' : World) : Prop := e = .returned (.tuple #[.slice none 0 0, .bool false]) ∧ ∃ q, w' = w.drewN q
set_option maxHeartbeats 2000000 in
theorem implMoveOwn_any (A : Option Addr) (n c : Nat) (xs : List Int) (w : World) (hx : Rd w 1 A n (ints xs)) (i k : Nat) (x : Int) (hi : i < n) (hk : k < n) (hn : n ≤ 1048576) (hv : vOutline xs = true) (hxi : xs[i]? = some x) (hik : i ≤ k) (hke : k < oFrom xs x (i + 1)) :
    Calls Try.prog 15 #[.slice A n c, .int .i64 (i : Int), .int .i64 (k : Int)] w (MoveNo w) := by
  have HC := Lib.hid (implOutline_any A n c xs w hx hn)
  rw [hv] at HC
  have T1 := Lib.hid (inB_true (lo := 0) (hi := (n : Int) - 1) (a := (i : Int)) (by omega) (by omega))
  have T2 := Lib.hid (inB_true (lo := 0) (hi := (n : Int) - 1) (a := (k : Int)) (by omega) (by omega))
  have HE := Lib.hid (implEnd_any A n c xs w hx i x hi hn hxi)
  obtain ⟨E, hE⟩ : ∃ E, E = oFrom xs x (i + 1) := ⟨_, rfl⟩
  rw [← hE] at HE hke
  have hle : E ≤ n := by rw [hE, ← hx.len]; exact oFrom_le (by rw [hx.len]; omega)
  have h1 : (i : Int) ≤ (k : Int) := by omega
  have h2 : (k : Int) < (E : Int) := by omega
  clear hx hxi hv hE
  go_enter Try.func15, Try.ntmps15
  go_wp2_with (first | (go_at_call 10; refine HC.out.mono ?_; rintro e w' ⟨rfl, rfl⟩) | (go_at_call_of 22 (Value.int .i64 (i : Int)); refine (within_any _ _ _ _ T1.out _).mono ?_; rintro e w' ⟨rfl, rfl⟩) | (go_at_call 22; refine (within_any _ _ _ _ T2.out _).mono ?_; rintro e w' ⟨rfl, rfl⟩) | (go_at_call 26; refine HE.out.mono ?_; rintro e w' ⟨rfl, q, rfl⟩))
  go_ret2
  exact ⟨rfl, q, rfl⟩
end Go.Proofs.Ytdgmienljhaipaa
