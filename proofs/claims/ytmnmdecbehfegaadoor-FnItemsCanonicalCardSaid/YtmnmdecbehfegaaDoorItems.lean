/-
  Contracts on items: when one is valid, the program's word and the reference's.
-/
import Derived.Test.YtmnmdecbehfegaaDoorRange
namespace Go.Proofs.YtmnmdecbehfegaaDoor
open Go.RowKit
set_option linter.unusedVariables false

structure It where
  k : Int
  w : Int
  st : Int
  sh : Int
  p : Int
  f : Bool
  deriving DecidableEq

def It.cells (x : It) : List Value := [.int .i64 x.k, .int .i64 x.w, .int .i64 x.st, .int .i64 x.sh, .int .i64 x.p, .bool x.f]
def items (l : List It) : List Value := l.flatMap It.cells
theorem It.cells_length (x : It) : x.cells.length = 6 := rfl

theorem Rd.item_at {w : World} {A : Option Addr} {n : Nat} {l : List It} (h : Rd w 6 A n (items l)) {k : Nat} (hk : k < n) :
    ∃ b o x, A = some ⟨b, o, none⟩ ∧ l[k]? = some x ∧ w.cell? ⟨b, o + k * 6, none⟩ = some (.int .i64 x.k) ∧ w.cell? ⟨b, o + k * 6 + 1, none⟩ = some (.int .i64 x.w) ∧ w.cell? ⟨b, o + k * 6 + 2, none⟩ = some (.int .i64 x.st) ∧
      w.cell? ⟨b, o + k * 6 + 3, none⟩ = some (.int .i64 x.sh) ∧ w.cell? ⟨b, o + k * 6 + 4, none⟩ = some (.int .i64 x.p) ∧ w.cell? ⟨b, o + k * 6 + 5, none⟩ = some (.bool x.f) := by
  obtain ⟨b, o, x, e, hx, hc⟩ := Rd.elem_at It.cells_length (by omega) h hk
  exact ⟨b, o, x, e, hx, hc 0 (by omega), hc 1 (by omega), hc 2 (by omega), hc 3 (by omega), hc 4 (by omega), hc 5 (by omega)⟩
theorem Rd.item_len {w : World} {A : Option Addr} {n : Nat} {l : List It} (h : Rd w 6 A n (items l)) : l.length = n := Rd.elem_len It.cells_length (by omega) h

/-- A valid item. -/
def vIt (x : It) : Bool :=
  (x.k == 1 && inB 0 1000 x.w && x.st == 0 && x.sh == 0 && x.p == 0 && !x.f) ||
  (x.k == 2 && inB 0 1000 x.w && inB 0 1000 x.st && inB 0 x.w x.sh && x.p == 0 && !x.f) ||
  (x.k == 3 && inB 0 1000 x.w && x.st == 0 && x.sh == 0 && inB (-1000) 1000 x.p)


set_option maxHeartbeats 4000000 in
theorem specItem_any_1 (wd st sh p : Int) (f : Bool) (w : World) :
    Calls Tryd.prog 32 #[.agg #[.int .i64 1, .int .i64 wd, .int .i64 st, .int .i64 sh, .int .i64 p, .bool f]] w fun e w' => e = .returned (.bool (vIt ⟨1, wd, st, sh, p, f⟩)) ∧ Below w.heap.size w w' := by
  cases twd : inB 0 1000 wd
  · have Twd := Lib.hid twd
    clear twd
    go_enter Tryd.func32, Tryd.ntmps32
    go_wp2_with (first | (go_at_call_of 54 wd; refine (inRange_any _ _ _ _ Twd.out _).mono ?_; rintro e w' ⟨rfl, rfl⟩))
    go_ret
    exact ⟨ret_bool (by simp [vIt, Twd.out]), (Below.refl _ _).alloc (Nat.le_refl _) _⟩
  have Twd := Lib.hid twd
  clear twd
  by_cases zst : st = 0
  case neg =>
    have Zst := Lib.hid zst
    have zst' : (st == 0) = false := by simpa using zst
    clear zst
    go_enter Tryd.func32, Tryd.ntmps32
    go_wp2_with (first | (go_at_call_of 54 wd; refine (inRange_any _ _ _ _ Twd.out _).mono ?_; rintro e w' ⟨rfl, rfl⟩))
    go_ret
    exact ⟨ret_bool (by simp [vIt, Twd.out, Zst.out]), (Below.refl _ _).alloc (Nat.le_refl _) _⟩
  subst zst
  by_cases zsh : sh = 0
  case neg =>
    have Zsh := Lib.hid zsh
    have zsh' : (sh == 0) = false := by simpa using zsh
    clear zsh
    go_enter Tryd.func32, Tryd.ntmps32
    go_wp2_with (first | (go_at_call_of 54 wd; refine (inRange_any _ _ _ _ Twd.out _).mono ?_; rintro e w' ⟨rfl, rfl⟩))
    go_ret
    exact ⟨ret_bool (by simp [vIt, Twd.out, Zsh.out]), (Below.refl _ _).alloc (Nat.le_refl _) _⟩
  subst zsh
  by_cases zp : p = 0
  case neg =>
    have Zp := Lib.hid zp
    have zp' : (p == 0) = false := by simpa using zp
    clear zp
    go_enter Tryd.func32, Tryd.ntmps32
    go_wp2_with (first | (go_at_call_of 54 wd; refine (inRange_any _ _ _ _ Twd.out _).mono ?_; rintro e w' ⟨rfl, rfl⟩))
    go_ret
    exact ⟨ret_bool (by simp [vIt, Twd.out, Zp.out]), (Below.refl _ _).alloc (Nat.le_refl _) _⟩
  subst zp
  cases f
  case true =>
    go_enter Tryd.func32, Tryd.ntmps32
    go_wp2_with (first | (go_at_call_of 54 wd; refine (inRange_any _ _ _ _ Twd.out _).mono ?_; rintro e w' ⟨rfl, rfl⟩))
    go_ret
    exact ⟨ret_bool (by simp [vIt, Twd.out]), (Below.refl _ _).alloc (Nat.le_refl _) _⟩
  go_enter Tryd.func32, Tryd.ntmps32
  go_wp2_with (first | (go_at_call_of 54 wd; refine (inRange_any _ _ _ _ Twd.out _).mono ?_; rintro e w' ⟨rfl, rfl⟩))
  go_ret
  exact ⟨ret_bool (by simp [vIt, Twd.out]), (Below.refl _ _).alloc (Nat.le_refl _) _⟩

set_option maxHeartbeats 4000000 in
theorem specItem_any_2 (wd st sh p : Int) (f : Bool) (w : World) :
    Calls Tryd.prog 32 #[.agg #[.int .i64 2, .int .i64 wd, .int .i64 st, .int .i64 sh, .int .i64 p, .bool f]] w fun e w' => e = .returned (.bool (vIt ⟨2, wd, st, sh, p, f⟩)) ∧ Below w.heap.size w w' := by
  cases twd : inB 0 1000 wd
  · have Twd := Lib.hid twd
    clear twd
    go_enter Tryd.func32, Tryd.ntmps32
    go_wp2_with (first | (go_at_call_of 54 wd; refine (inRange_any _ _ _ _ Twd.out _).mono ?_; rintro e w' ⟨rfl, rfl⟩))
    go_ret
    exact ⟨ret_bool (by simp [vIt, Twd.out]), (Below.refl _ _).alloc (Nat.le_refl _) _⟩
  have Twd := Lib.hid twd
  clear twd
  cases tst : inB 0 1000 st
  · have Tst := Lib.hid tst
    clear tst
    go_enter Tryd.func32, Tryd.ntmps32
    go_wp2_with (first | (go_at_call_of 54 st; refine (inRange_any _ _ _ _ Tst.out _).mono ?_; rintro e w' ⟨rfl, rfl⟩) | (go_at_call_of 54 wd; refine (inRange_any _ _ _ _ Twd.out _).mono ?_; rintro e w' ⟨rfl, rfl⟩))
    go_ret
    exact ⟨ret_bool (by simp [vIt, Twd.out, Tst.out]), (Below.refl _ _).alloc (Nat.le_refl _) _⟩
  have Tst := Lib.hid tst
  clear tst
  cases tsh : inB 0 wd sh
  · have Tsh := Lib.hid tsh
    clear tsh
    go_enter Tryd.func32, Tryd.ntmps32
    go_wp2_with (first | (go_at_call_of 54 sh; refine (inRange_any _ _ _ _ Tsh.out _).mono ?_; rintro e w' ⟨rfl, rfl⟩) | (go_at_call_of 54 st; refine (inRange_any _ _ _ _ Tst.out _).mono ?_; rintro e w' ⟨rfl, rfl⟩) | (go_at_call_of 54 wd; refine (inRange_any _ _ _ _ Twd.out _).mono ?_; rintro e w' ⟨rfl, rfl⟩))
    go_ret
    exact ⟨ret_bool (by simp [vIt, Twd.out, Tst.out, Tsh.out]), (Below.refl _ _).alloc (Nat.le_refl _) _⟩
  have Tsh := Lib.hid tsh
  clear tsh
  by_cases zp : p = 0
  case neg =>
    have Zp := Lib.hid zp
    have zp' : (p == 0) = false := by simpa using zp
    clear zp
    go_enter Tryd.func32, Tryd.ntmps32
    go_wp2_with (first | (go_at_call_of 54 sh; refine (inRange_any _ _ _ _ Tsh.out _).mono ?_; rintro e w' ⟨rfl, rfl⟩) | (go_at_call_of 54 st; refine (inRange_any _ _ _ _ Tst.out _).mono ?_; rintro e w' ⟨rfl, rfl⟩) | (go_at_call_of 54 wd; refine (inRange_any _ _ _ _ Twd.out _).mono ?_; rintro e w' ⟨rfl, rfl⟩))
    go_ret
    exact ⟨ret_bool (by simp [vIt, Twd.out, Tst.out, Tsh.out, Zp.out]), (Below.refl _ _).alloc (Nat.le_refl _) _⟩
  subst zp
  cases f
  case true =>
    go_enter Tryd.func32, Tryd.ntmps32
    go_wp2_with (first | (go_at_call_of 54 sh; refine (inRange_any _ _ _ _ Tsh.out _).mono ?_; rintro e w' ⟨rfl, rfl⟩) | (go_at_call_of 54 st; refine (inRange_any _ _ _ _ Tst.out _).mono ?_; rintro e w' ⟨rfl, rfl⟩) | (go_at_call_of 54 wd; refine (inRange_any _ _ _ _ Twd.out _).mono ?_; rintro e w' ⟨rfl, rfl⟩))
    go_ret
    exact ⟨ret_bool (by simp [vIt, Twd.out, Tst.out, Tsh.out]), (Below.refl _ _).alloc (Nat.le_refl _) _⟩
  go_enter Tryd.func32, Tryd.ntmps32
  go_wp2_with (first | (go_at_call_of 54 sh; refine (inRange_any _ _ _ _ Tsh.out _).mono ?_; rintro e w' ⟨rfl, rfl⟩) | (go_at_call_of 54 st; refine (inRange_any _ _ _ _ Tst.out _).mono ?_; rintro e w' ⟨rfl, rfl⟩) | (go_at_call_of 54 wd; refine (inRange_any _ _ _ _ Twd.out _).mono ?_; rintro e w' ⟨rfl, rfl⟩))
  go_ret
  exact ⟨ret_bool (by simp [vIt, Twd.out, Tst.out, Tsh.out]), (Below.refl _ _).alloc (Nat.le_refl _) _⟩

set_option maxHeartbeats 4000000 in
theorem specItem_any_3 (wd st sh p : Int) (f : Bool) (w : World) :
    Calls Tryd.prog 32 #[.agg #[.int .i64 3, .int .i64 wd, .int .i64 st, .int .i64 sh, .int .i64 p, .bool f]] w fun e w' => e = .returned (.bool (vIt ⟨3, wd, st, sh, p, f⟩)) ∧ Below w.heap.size w w' := by
  cases twd : inB 0 1000 wd
  · have Twd := Lib.hid twd
    clear twd
    go_enter Tryd.func32, Tryd.ntmps32
    go_wp2_with (first | (go_at_call_of 54 wd; refine (inRange_any _ _ _ _ Twd.out _).mono ?_; rintro e w' ⟨rfl, rfl⟩))
    go_ret
    exact ⟨ret_bool (by simp [vIt, Twd.out]), (Below.refl _ _).alloc (Nat.le_refl _) _⟩
  have Twd := Lib.hid twd
  clear twd
  by_cases zst : st = 0
  case neg =>
    have Zst := Lib.hid zst
    have zst' : (st == 0) = false := by simpa using zst
    clear zst
    go_enter Tryd.func32, Tryd.ntmps32
    go_wp2_with (first | (go_at_call_of 54 wd; refine (inRange_any _ _ _ _ Twd.out _).mono ?_; rintro e w' ⟨rfl, rfl⟩))
    go_ret
    exact ⟨ret_bool (by simp [vIt, Twd.out, Zst.out]), (Below.refl _ _).alloc (Nat.le_refl _) _⟩
  subst zst
  by_cases zsh : sh = 0
  case neg =>
    have Zsh := Lib.hid zsh
    have zsh' : (sh == 0) = false := by simpa using zsh
    clear zsh
    go_enter Tryd.func32, Tryd.ntmps32
    go_wp2_with (first | (go_at_call_of 54 wd; refine (inRange_any _ _ _ _ Twd.out _).mono ?_; rintro e w' ⟨rfl, rfl⟩))
    go_ret
    exact ⟨ret_bool (by simp [vIt, Twd.out, Zsh.out]), (Below.refl _ _).alloc (Nat.le_refl _) _⟩
  subst zsh
  cases tp : inB (-1000) 1000 p
  · have Tp := Lib.hid tp
    clear tp
    go_enter Tryd.func32, Tryd.ntmps32
    go_wp2_with (first | (go_at_call_of 54 p; refine (inRange_any _ _ _ _ Tp.out _).mono ?_; rintro e w' ⟨rfl, rfl⟩) | (go_at_call_of 54 wd; refine (inRange_any _ _ _ _ Twd.out _).mono ?_; rintro e w' ⟨rfl, rfl⟩))
    go_ret
    exact ⟨ret_bool (by simp [vIt, Twd.out, Tp.out]), (Below.refl _ _).alloc (Nat.le_refl _) _⟩
  have Tp := Lib.hid tp
  clear tp
  go_enter Tryd.func32, Tryd.ntmps32
  go_wp2_with (first | (go_at_call_of 54 p; refine (inRange_any _ _ _ _ Tp.out _).mono ?_; rintro e w' ⟨rfl, rfl⟩) | (go_at_call_of 54 wd; refine (inRange_any _ _ _ _ Twd.out _).mono ?_; rintro e w' ⟨rfl, rfl⟩))
  go_ret
  exact ⟨ret_bool (by simp [vIt, Twd.out, Tp.out]), (Below.refl _ _).alloc (Nat.le_refl _) _⟩

set_option maxHeartbeats 4000000 in
theorem specItem_any (x : It) (w : World) :
    Calls Tryd.prog 32 #[.agg #[.int .i64 x.k, .int .i64 x.w, .int .i64 x.st, .int .i64 x.sh, .int .i64 x.p, .bool x.f]] w fun e w' => e = .returned (.bool (vIt x)) ∧ Below w.heap.size w w' := by
  obtain ⟨k, wd, st, sh, p, f⟩ := x
  by_cases k1 : k = 1
  · subst k1; exact specItem_any_1 wd st sh p f w
  by_cases k2 : k = 2
  · subst k2; exact specItem_any_2 wd st sh p f w
  by_cases k3 : k = 3
  · subst k3; exact specItem_any_3 wd st sh p f w
  have k1' : (k == 1) = false := by simpa using k1
  have k2' : (k == 2) = false := by simpa using k2
  have k3' : (k == 3) = false := by simpa using k3
  have K : Hid (vIt ⟨k, wd, st, sh, p, f⟩ = false) := by show vIt _ = _; simp [vIt, k1', k2', k3']
  clear k1 k2 k3
  go_enter Tryd.func32, Tryd.ntmps32
  go_wp2
  go_ret
  exact ⟨ret_bool K.out.symm, (Below.refl _ _).alloc (Nat.le_refl _) _⟩

set_option maxHeartbeats 4000000 in
theorem implItem_any_1 (wd st sh p : Int) (f : Bool) (w : World) :
    Calls Tryd.prog 35 #[.agg #[.int .i64 1, .int .i64 wd, .int .i64 st, .int .i64 sh, .int .i64 p, .bool f]] w fun e w' => e = .returned (.bool (vIt ⟨1, wd, st, sh, p, f⟩)) ∧ Below w.heap.size w w' := by
  cases twd : inB 0 1000 wd
  · have Twd := Lib.hid twd
    clear twd
    go_enter Tryd.func35, Tryd.ntmps35
    go_wp2_with (first | (go_at_call_of 52 wd; refine (within_any _ _ _ _ Twd.out _).mono ?_; rintro e w' ⟨rfl, rfl⟩))
    go_ret
    exact ⟨ret_bool (by simp [vIt, Twd.out]), (Below.refl _ _).alloc (Nat.le_refl _) _⟩
  have Twd := Lib.hid twd
  clear twd
  by_cases zst : st = 0
  case neg =>
    have Zst := Lib.hid zst
    have zst' : (st == 0) = false := by simpa using zst
    clear zst
    go_enter Tryd.func35, Tryd.ntmps35
    go_wp2_with (first | (go_at_call_of 52 wd; refine (within_any _ _ _ _ Twd.out _).mono ?_; rintro e w' ⟨rfl, rfl⟩))
    go_ret
    exact ⟨ret_bool (by simp [vIt, Twd.out, Zst.out]), (Below.refl _ _).alloc (Nat.le_refl _) _⟩
  subst zst
  by_cases zsh : sh = 0
  case neg =>
    have Zsh := Lib.hid zsh
    have zsh' : (sh == 0) = false := by simpa using zsh
    clear zsh
    go_enter Tryd.func35, Tryd.ntmps35
    go_wp2_with (first | (go_at_call_of 52 wd; refine (within_any _ _ _ _ Twd.out _).mono ?_; rintro e w' ⟨rfl, rfl⟩))
    go_ret
    exact ⟨ret_bool (by simp [vIt, Twd.out, Zsh.out]), (Below.refl _ _).alloc (Nat.le_refl _) _⟩
  subst zsh
  by_cases zp : p = 0
  case neg =>
    have Zp := Lib.hid zp
    have zp' : (p == 0) = false := by simpa using zp
    clear zp
    go_enter Tryd.func35, Tryd.ntmps35
    go_wp2_with (first | (go_at_call_of 52 wd; refine (within_any _ _ _ _ Twd.out _).mono ?_; rintro e w' ⟨rfl, rfl⟩))
    go_ret
    exact ⟨ret_bool (by simp [vIt, Twd.out, Zp.out]), (Below.refl _ _).alloc (Nat.le_refl _) _⟩
  subst zp
  cases f
  case true =>
    go_enter Tryd.func35, Tryd.ntmps35
    go_wp2_with (first | (go_at_call_of 52 wd; refine (within_any _ _ _ _ Twd.out _).mono ?_; rintro e w' ⟨rfl, rfl⟩))
    go_ret
    exact ⟨ret_bool (by simp [vIt, Twd.out]), (Below.refl _ _).alloc (Nat.le_refl _) _⟩
  go_enter Tryd.func35, Tryd.ntmps35
  go_wp2_with (first | (go_at_call_of 52 wd; refine (within_any _ _ _ _ Twd.out _).mono ?_; rintro e w' ⟨rfl, rfl⟩))
  go_ret
  exact ⟨ret_bool (by simp [vIt, Twd.out]), (Below.refl _ _).alloc (Nat.le_refl _) _⟩

set_option maxHeartbeats 4000000 in
theorem implItem_any_2 (wd st sh p : Int) (f : Bool) (w : World) :
    Calls Tryd.prog 35 #[.agg #[.int .i64 2, .int .i64 wd, .int .i64 st, .int .i64 sh, .int .i64 p, .bool f]] w fun e w' => e = .returned (.bool (vIt ⟨2, wd, st, sh, p, f⟩)) ∧ Below w.heap.size w w' := by
  cases twd : inB 0 1000 wd
  · have Twd := Lib.hid twd
    clear twd
    go_enter Tryd.func35, Tryd.ntmps35
    go_wp2_with (first | (go_at_call_of 52 wd; refine (within_any _ _ _ _ Twd.out _).mono ?_; rintro e w' ⟨rfl, rfl⟩))
    go_ret
    exact ⟨ret_bool (by simp [vIt, Twd.out]), (Below.refl _ _).alloc (Nat.le_refl _) _⟩
  have Twd := Lib.hid twd
  clear twd
  cases tst : inB 0 1000 st
  · have Tst := Lib.hid tst
    clear tst
    go_enter Tryd.func35, Tryd.ntmps35
    go_wp2_with (first | (go_at_call_of 52 st; refine (within_any _ _ _ _ Tst.out _).mono ?_; rintro e w' ⟨rfl, rfl⟩) | (go_at_call_of 52 wd; refine (within_any _ _ _ _ Twd.out _).mono ?_; rintro e w' ⟨rfl, rfl⟩))
    go_ret
    exact ⟨ret_bool (by simp [vIt, Twd.out, Tst.out]), (Below.refl _ _).alloc (Nat.le_refl _) _⟩
  have Tst := Lib.hid tst
  clear tst
  cases tsh : inB 0 wd sh
  · have Tsh := Lib.hid tsh
    clear tsh
    go_enter Tryd.func35, Tryd.ntmps35
    go_wp2_with (first | (go_at_call_of 52 sh; refine (within_any _ _ _ _ Tsh.out _).mono ?_; rintro e w' ⟨rfl, rfl⟩) | (go_at_call_of 52 st; refine (within_any _ _ _ _ Tst.out _).mono ?_; rintro e w' ⟨rfl, rfl⟩) | (go_at_call_of 52 wd; refine (within_any _ _ _ _ Twd.out _).mono ?_; rintro e w' ⟨rfl, rfl⟩))
    go_ret
    exact ⟨ret_bool (by simp [vIt, Twd.out, Tst.out, Tsh.out]), (Below.refl _ _).alloc (Nat.le_refl _) _⟩
  have Tsh := Lib.hid tsh
  clear tsh
  by_cases zp : p = 0
  case neg =>
    have Zp := Lib.hid zp
    have zp' : (p == 0) = false := by simpa using zp
    clear zp
    go_enter Tryd.func35, Tryd.ntmps35
    go_wp2_with (first | (go_at_call_of 52 sh; refine (within_any _ _ _ _ Tsh.out _).mono ?_; rintro e w' ⟨rfl, rfl⟩) | (go_at_call_of 52 st; refine (within_any _ _ _ _ Tst.out _).mono ?_; rintro e w' ⟨rfl, rfl⟩) | (go_at_call_of 52 wd; refine (within_any _ _ _ _ Twd.out _).mono ?_; rintro e w' ⟨rfl, rfl⟩))
    go_ret
    exact ⟨ret_bool (by simp [vIt, Twd.out, Tst.out, Tsh.out, Zp.out]), (Below.refl _ _).alloc (Nat.le_refl _) _⟩
  subst zp
  cases f
  case true =>
    go_enter Tryd.func35, Tryd.ntmps35
    go_wp2_with (first | (go_at_call_of 52 sh; refine (within_any _ _ _ _ Tsh.out _).mono ?_; rintro e w' ⟨rfl, rfl⟩) | (go_at_call_of 52 st; refine (within_any _ _ _ _ Tst.out _).mono ?_; rintro e w' ⟨rfl, rfl⟩) | (go_at_call_of 52 wd; refine (within_any _ _ _ _ Twd.out _).mono ?_; rintro e w' ⟨rfl, rfl⟩))
    go_ret
    exact ⟨ret_bool (by simp [vIt, Twd.out, Tst.out, Tsh.out]), (Below.refl _ _).alloc (Nat.le_refl _) _⟩
  go_enter Tryd.func35, Tryd.ntmps35
  go_wp2_with (first | (go_at_call_of 52 sh; refine (within_any _ _ _ _ Tsh.out _).mono ?_; rintro e w' ⟨rfl, rfl⟩) | (go_at_call_of 52 st; refine (within_any _ _ _ _ Tst.out _).mono ?_; rintro e w' ⟨rfl, rfl⟩) | (go_at_call_of 52 wd; refine (within_any _ _ _ _ Twd.out _).mono ?_; rintro e w' ⟨rfl, rfl⟩))
  go_ret
  exact ⟨ret_bool (by simp [vIt, Twd.out, Tst.out, Tsh.out]), (Below.refl _ _).alloc (Nat.le_refl _) _⟩

set_option maxHeartbeats 4000000 in
theorem implItem_any_3 (wd st sh p : Int) (f : Bool) (w : World) :
    Calls Tryd.prog 35 #[.agg #[.int .i64 3, .int .i64 wd, .int .i64 st, .int .i64 sh, .int .i64 p, .bool f]] w fun e w' => e = .returned (.bool (vIt ⟨3, wd, st, sh, p, f⟩)) ∧ Below w.heap.size w w' := by
  cases twd : inB 0 1000 wd
  · have Twd := Lib.hid twd
    clear twd
    go_enter Tryd.func35, Tryd.ntmps35
    go_wp2_with (first | (go_at_call_of 52 wd; refine (within_any _ _ _ _ Twd.out _).mono ?_; rintro e w' ⟨rfl, rfl⟩))
    go_ret
    exact ⟨ret_bool (by simp [vIt, Twd.out]), (Below.refl _ _).alloc (Nat.le_refl _) _⟩
  have Twd := Lib.hid twd
  clear twd
  by_cases zst : st = 0
  case neg =>
    have Zst := Lib.hid zst
    have zst' : (st == 0) = false := by simpa using zst
    clear zst
    go_enter Tryd.func35, Tryd.ntmps35
    go_wp2_with (first | (go_at_call_of 52 wd; refine (within_any _ _ _ _ Twd.out _).mono ?_; rintro e w' ⟨rfl, rfl⟩))
    go_ret
    exact ⟨ret_bool (by simp [vIt, Twd.out, Zst.out]), (Below.refl _ _).alloc (Nat.le_refl _) _⟩
  subst zst
  by_cases zsh : sh = 0
  case neg =>
    have Zsh := Lib.hid zsh
    have zsh' : (sh == 0) = false := by simpa using zsh
    clear zsh
    go_enter Tryd.func35, Tryd.ntmps35
    go_wp2_with (first | (go_at_call_of 52 wd; refine (within_any _ _ _ _ Twd.out _).mono ?_; rintro e w' ⟨rfl, rfl⟩))
    go_ret
    exact ⟨ret_bool (by simp [vIt, Twd.out, Zsh.out]), (Below.refl _ _).alloc (Nat.le_refl _) _⟩
  subst zsh
  cases tp : inB (-1000) 1000 p
  · have Tp := Lib.hid tp
    clear tp
    go_enter Tryd.func35, Tryd.ntmps35
    go_wp2_with (first | (go_at_call_of 52 p; refine (within_any _ _ _ _ Tp.out _).mono ?_; rintro e w' ⟨rfl, rfl⟩) | (go_at_call_of 52 wd; refine (within_any _ _ _ _ Twd.out _).mono ?_; rintro e w' ⟨rfl, rfl⟩))
    go_ret
    exact ⟨ret_bool (by simp [vIt, Twd.out, Tp.out]), (Below.refl _ _).alloc (Nat.le_refl _) _⟩
  have Tp := Lib.hid tp
  clear tp
  go_enter Tryd.func35, Tryd.ntmps35
  go_wp2_with (first | (go_at_call_of 52 p; refine (within_any _ _ _ _ Tp.out _).mono ?_; rintro e w' ⟨rfl, rfl⟩) | (go_at_call_of 52 wd; refine (within_any _ _ _ _ Twd.out _).mono ?_; rintro e w' ⟨rfl, rfl⟩))
  go_ret
  exact ⟨ret_bool (by simp [vIt, Twd.out, Tp.out]), (Below.refl _ _).alloc (Nat.le_refl _) _⟩

set_option maxHeartbeats 4000000 in
theorem implItem_any (x : It) (w : World) :
    Calls Tryd.prog 35 #[.agg #[.int .i64 x.k, .int .i64 x.w, .int .i64 x.st, .int .i64 x.sh, .int .i64 x.p, .bool x.f]] w fun e w' => e = .returned (.bool (vIt x)) ∧ Below w.heap.size w w' := by
  obtain ⟨k, wd, st, sh, p, f⟩ := x
  by_cases k1 : k = 1
  · subst k1; exact implItem_any_1 wd st sh p f w
  by_cases k2 : k = 2
  · subst k2; exact implItem_any_2 wd st sh p f w
  by_cases k3 : k = 3
  · subst k3; exact implItem_any_3 wd st sh p f w
  have k1' : (k == 1) = false := by simpa using k1
  have k2' : (k == 2) = false := by simpa using k2
  have k3' : (k == 3) = false := by simpa using k3
  have K : Hid (vIt ⟨k, wd, st, sh, p, f⟩ = false) := by show vIt _ = _; simp [vIt, k1', k2', k3']
  clear k1 k2 k3
  go_enter Tryd.func35, Tryd.ntmps35
  go_wp2
  go_ret
  exact ⟨ret_bool K.out.symm, (Below.refl _ _).alloc (Nat.le_refl _) _⟩
end Go.Proofs.YtmnmdecbehfegaaDoor
