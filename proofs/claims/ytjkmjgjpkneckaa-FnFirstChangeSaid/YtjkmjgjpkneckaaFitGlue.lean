/-
  Contracts of the functions on the length of a line: how it fits, for the program and for the reference; lengths are at most 10000 here.
-/
import Derived.Test.YtjkmjgjpkneckaaFitPlain
import Derived.Test.YtjkmjgjpkneckaaReader
namespace Go.Proofs.Ytjkmjgjpkneckaa
open Go.RowKit
set_option linter.unusedVariables false

/-- The cells of a parameter in memory, behind a call. -/
theorem box_kept {w w1 : World} {cs : Array Value} {t : TypeId} (h : Below (w.alloc (.cells cs t)).heap.size (w.alloc (.cells cs t)) w1) : BlkIs w1 w.heap.size t cs ∧ Below w.heap.size w w1 := by
  refine ⟨?_, below_step ((Below.refl _ _).alloc (Nat.le_refl _) _) h⟩
  have := h.block w.heap.size (by simp)
  rw [BlkIs, this]
  exact heap_alloc_new w _

def code0 (W sh wd : Int) : Int := if wd - W = 0 then 1 else if 0 < wd - W then 2 else if -(wd - W) ≤ sh then 3 else 4
theorem code_eq (g : G3) (wd : Int) : code g wd = code0 (min g.w 10000) (min g.sh 10000) wd := rfl

/-- How a length fits, and some badness. -/
def FitRes (w0 : World) (c : Int) (e : Ending) (w' : World) : Prop := ∃ z, e = .returned (.tuple #[.int .i64 c, .int .i64 z]) ∧ Below w0.heap.size w0 w'
def SomeInt (w0 : World) (e : Ending) (w' : World) : Prop := ∃ z, e = .returned (.int .i64 z) ∧ w0 = w'

theorem mul_range {a b p q : Int} (ha : 1 ≤ a) (hap : a ≤ p) (hb : 1 ≤ b) (hbq : b ≤ q) : 1 ≤ a * b ∧ a * b ≤ p * q := by
  constructor
  · have := Int.mul_le_mul ha hb (by omega) (by omega)
    omega
  · exact Int.mul_le_mul hap hbq (by omega) (by omega)

set_option maxHeartbeats 1000000 in
theorem badImpl_any (d h : Int) (hd : 0 ≤ d ∧ d ≤ 20000) (hh : 0 ≤ h ∧ h ≤ 10000) (w : World) : Calls Try.prog 76 #[.int .i64 d, .int .i64 h] w (SomeInt w) := by
  by_cases h0 : d = 0
  · subst h0
    go_enter Try.func76, Try.ntmps76
    go_wp2
    go_ret
    exact ⟨_, rfl, rfl⟩
  by_cases h1 : h = 0
  · subst h1
    go_enter Try.func76, Try.ntmps76
    go_wp2
    go_ret
    exact ⟨_, rfl, rfl⟩
  have hq := mul_range (a := h) (b := h) (p := 10000) (q := 10000) (by omega) (by omega) (by omega) (by omega)
  have hr := mul_range (a := h * h) (b := h) (p := 100000000) (q := 10000) (by omega) (by omega) (by omega) (by omega)
  obtain ⟨s, hs⟩ : ∃ s, s = h * h := ⟨_, rfl⟩
  rw [← hs] at hq hr
  obtain ⟨t, ht⟩ : ∃ t, t = s * h := ⟨_, rfl⟩
  rw [← ht] at hr
  have t0 : t ≠ 0 := by omega
  have hs' : h * h = s := hs.symm
  have ht' : s * h = t := ht.symm
  clear hs ht
  go_enter Try.func76, Try.ntmps76
  go_wp2
  all_goals (go_ret; exact ⟨_, rfl, rfl⟩)

set_option maxHeartbeats 1000000 in
theorem badSpec_any (d h : Int) (hd : 0 ≤ d ∧ d ≤ 20000) (hh : 0 ≤ h ∧ h ≤ 10000) (w : World) : Calls Try.prog 68 #[.int .i64 d, .int .i64 h] w (SomeInt w) := by
  by_cases h0 : d = 0
  · subst h0
    go_enter Try.func68, Try.ntmps68
    go_wp2
    go_ret
    exact ⟨_, rfl, rfl⟩
  by_cases h1 : h = 0
  · subst h1
    go_enter Try.func68, Try.ntmps68
    go_wp2
    go_ret
    exact ⟨_, rfl, rfl⟩
  by_cases h2 : 5 * h < d
  · go_enter Try.func68, Try.ntmps68
    go_wp2
    go_ret
    exact ⟨_, rfl, rfl⟩
  have hq := mul_range (a := h) (b := h) (p := 10000) (q := 10000) (by omega) (by omega) (by omega) (by omega)
  have hr := mul_range (a := h * h) (b := h) (p := 100000000) (q := 10000) (by omega) (by omega) (by omega) (by omega)
  obtain ⟨s, hs⟩ : ∃ s, s = h * h := ⟨_, rfl⟩
  rw [← hs] at hq hr
  obtain ⟨t, ht⟩ : ∃ t, t = s * h := ⟨_, rfl⟩
  rw [← ht] at hr
  have t0 : t ≠ 0 := by omega
  have hs' : h * h = s := hs.symm
  have ht' : s * h = t := ht.symm
  clear hs ht
  go_enter Try.func68, Try.ntmps68
  go_wp2
  all_goals (go_ret; exact ⟨_, rfl, rfl⟩)

set_option maxHeartbeats 1000000 in
theorem g2Impl_any (a b c a' b' c' : Int) (w : World) (h1 : 0 ≤ a ∧ a ≤ 100000) (h2 : 0 ≤ b ∧ b ≤ 100000) (h3 : 0 ≤ c ∧ c ≤ 100000) (h4 : 0 ≤ a' ∧ a' ≤ 100000) (h5 : 0 ≤ b' ∧ b' ≤ 100000) (h6 : 0 ≤ c' ∧ c' ≤ 100000) :
    Calls Try.prog 74 #[.agg #[.int .i64 a, .int .i64 b, .int .i64 c], .agg #[.int .i64 a', .int .i64 b', .int .i64 c']] w fun e w' =>
      e = .returned (.agg #[.int .i64 (a + a'), .int .i64 (b + b'), .int .i64 (c + c')]) ∧ Below w.heap.size w w' := by
  go_enter Try.func74, Try.ntmps74
  go_wp2
  refine bodyPost_ret (v := .agg #[.int .i64 (a + a'), .int .i64 (b + b'), .int .i64 (c + c')]) ?_ rfl ⟨rfl, ?_⟩
  · simp only [results, Try.results74]
    go_simp
  all_goals (repeat (first | with_reducible refine Below.setCell ?_ (by simp <;> omega) _ | with_reducible exact Below.refl _ _ | refine Below.alloc ?_ (by simp <;> omega) _))
set_option maxHeartbeats 1000000 in
theorem g2Spec_any (a b c a' b' c' : Int) (w : World) (h1 : 0 ≤ a ∧ a ≤ 100000) (h2 : 0 ≤ b ∧ b ≤ 100000) (h3 : 0 ≤ c ∧ c ≤ 100000) (h4 : 0 ≤ a' ∧ a' ≤ 100000) (h5 : 0 ≤ b' ∧ b' ≤ 100000) (h6 : 0 ≤ c' ∧ c' ≤ 100000) :
    Calls Try.prog 70 #[.agg #[.int .i64 a, .int .i64 b, .int .i64 c], .agg #[.int .i64 a', .int .i64 b', .int .i64 c']] w fun e w' =>
      e = .returned (.agg #[.int .i64 (a + a'), .int .i64 (b + b'), .int .i64 (c + c')]) ∧ Below w.heap.size w w' := by
  go_enter Try.func70, Try.ntmps70
  go_wp2
  refine bodyPost_ret (v := .agg #[.int .i64 (a + a'), .int .i64 (b + b'), .int .i64 (c + c')]) ?_ rfl ⟨rfl, ?_⟩
  · simp only [results, Try.results70]
    go_simp
  all_goals (repeat (first | with_reducible refine Below.setCell ?_ (by simp <;> omega) _ | with_reducible exact Below.refl _ _ | refine Below.alloc ?_ (by simp <;> omega) _))

set_option maxHeartbeats 1000000 in
theorem vGlue_any (a b c : Int) (w : World) (h1 : 0 ≤ a ∧ a ≤ 10000) (h2 : 0 ≤ b ∧ b ≤ 10000) (h3 : 0 ≤ c ∧ c ≤ 10000) :
    Calls Try.prog 75 #[.agg #[.int .i64 a, .int .i64 b, .int .i64 c]] w fun e w' => e = .returned (.bool true) ∧ Below w.heap.size w w' := by
  have R1 := Lib.hid (inB_true (lo := -10000) (hi := 10000) (a := a) (by omega) (by omega))
  have R2 := Lib.hid (inB_true (lo := 0) (hi := 10000) (a := b) (by omega) (by omega))
  have R3 := Lib.hid (inB_true (lo := 0) (hi := 10000) (a := c) (by omega) (by omega))
  clear h1 h2 h3
  go_enter Try.func75, Try.ntmps75
  go_wp2_with fail
  refine (within_any _ _ _ _ R1.out _).mono ?_
  rintro e w' ⟨rfl, rfl⟩
  go_wp2_with fail
  refine (within_any _ _ _ _ R2.out _).mono ?_
  rintro e w' ⟨rfl, rfl⟩
  go_wp2_with fail
  refine (within_any _ _ _ _ R3.out _).mono ?_
  rintro e w' ⟨rfl, rfl⟩
  go_wp2_with fail
  go_ret
  exact ⟨rfl, (Below.refl _ _).alloc (Nat.le_refl _) _⟩

set_option maxHeartbeats 2000000 in
theorem fitImpl_any (W st sh wd : Int) (w : World) (h1 : 0 ≤ W ∧ W ≤ 10000) (h2 : 0 ≤ st ∧ st ≤ 10000) (h3 : 0 ≤ sh ∧ sh ≤ 10000) (h4 : 1 ≤ wd ∧ wd ≤ 10000) :
    Calls Try.prog 72 #[.agg #[.int .i64 W, .int .i64 st, .int .i64 sh], .int .i64 wd] w (FitRes w (code0 W sh wd)) := by
  have VG := Lib.hid (vGlue_any W st sh (w.alloc (.cells #[.int .i64 W, .int .i64 st, .int .i64 sh] 56)) h1 h2 h3)
  have RW := Lib.hid (inB_true (lo := 0) (hi := 10000) (a := wd) (by omega) (by omega))
  have fin (w1 : World) (z : Int) (c : Int) (hb : Below w.heap.size w w1) (h : code0 W sh wd = c) : FitRes w (code0 W sh wd) (.returned (.tuple #[.int .i64 c, .int .i64 z])) w1 := by rw [h]; exact ⟨z, rfl, hb⟩
  have FIN := Lib.hid fin
  clear fin
  by_cases e0 : wd - W = 0
  · have C := Lib.hid (show code0 W sh wd = 1 from if_pos e0)
    go_enter Try.func72, Try.ntmps72
    go_wp2_with fail
    refine VG.out.mono ?_
    rintro e w1 ⟨rfl, hb⟩
    obtain ⟨hk, hb'⟩ := box_kept hb
    have B1 := Lib.hid hb'
    have c0 := hk.cell 0
    have c1 := hk.cell 1
    have c2 := hk.cell 2
    simp only [List.getElem?_toArray, List.getElem?_cons_zero, List.getElem?_cons_succ] at c0 c1 c2
    clear hb hb' hk
    go_wp2_with (go_at_call 50; refine (within_any _ _ _ _ RW.out _).mono ?_; rintro e w' ⟨rfl, rfl⟩)
    go_ret2
    exact FIN.out _ _ _ B1.out C.out
  by_cases e1 : 0 < wd - W
  · have C := Lib.hid (show code0 W sh wd = 2 by rw [code0, if_neg e0, if_pos e1])
    have BD := Lib.hid (badImpl_any (wd - W) st ⟨by omega, by omega⟩ h2)
    go_enter Try.func72, Try.ntmps72
    go_wp2_with fail
    refine VG.out.mono ?_
    rintro e w1 ⟨rfl, hb⟩
    obtain ⟨hk, hb'⟩ := box_kept hb
    have B1 := Lib.hid hb'
    have c0 := hk.cell 0
    have c1 := hk.cell 1
    have c2 := hk.cell 2
    simp only [List.getElem?_toArray, List.getElem?_cons_zero, List.getElem?_cons_succ] at c0 c1 c2
    clear hb hb' hk
    go_wp2_with (first | (go_at_call 50; refine (within_any _ _ _ _ RW.out _).mono ?_; rintro e w' ⟨rfl, rfl⟩) | (go_at_call 76; refine (BD.out _).mono ?_; rintro e w' ⟨z, rfl, rfl⟩))
    go_ret2
    exact FIN.out _ _ _ B1.out C.out
  by_cases e2 : -(wd - W) ≤ sh
  · have C := Lib.hid (show code0 W sh wd = 3 by rw [code0, if_neg e0, if_neg e1, if_pos e2])
    have BD := Lib.hid (badImpl_any (-(wd - W)) sh ⟨by omega, by omega⟩ h3)
    go_enter Try.func72, Try.ntmps72
    go_wp2_with fail
    refine VG.out.mono ?_
    rintro e w1 ⟨rfl, hb⟩
    obtain ⟨hk, hb'⟩ := box_kept hb
    have B1 := Lib.hid hb'
    have c0 := hk.cell 0
    have c1 := hk.cell 1
    have c2 := hk.cell 2
    simp only [List.getElem?_toArray, List.getElem?_cons_zero, List.getElem?_cons_succ] at c0 c1 c2
    clear hb hb' hk
    go_wp2_with (first | (go_at_call 50; refine (within_any _ _ _ _ RW.out _).mono ?_; rintro e w' ⟨rfl, rfl⟩) | (go_at_call 76; refine (BD.out _).mono ?_; rintro e w' ⟨z, rfl, rfl⟩))
    go_ret2
    exact FIN.out _ _ _ B1.out C.out
  · have C := Lib.hid (show code0 W sh wd = 4 by rw [code0, if_neg e0, if_neg e1, if_neg e2])
    go_enter Try.func72, Try.ntmps72
    go_wp2_with fail
    refine VG.out.mono ?_
    rintro e w1 ⟨rfl, hb⟩
    obtain ⟨hk, hb'⟩ := box_kept hb
    have B1 := Lib.hid hb'
    have c0 := hk.cell 0
    have c1 := hk.cell 1
    have c2 := hk.cell 2
    simp only [List.getElem?_toArray, List.getElem?_cons_zero, List.getElem?_cons_succ] at c0 c1 c2
    clear hb hb' hk
    go_wp2_with (go_at_call 50; refine (within_any _ _ _ _ RW.out _).mono ?_; rintro e w' ⟨rfl, rfl⟩)
    go_ret2
    exact FIN.out _ _ _ B1.out C.out

theorem clamp_any (a b c : Int) (w : World) :
    Calls Try.prog 64 #[.agg #[.int .i64 a, .int .i64 b, .int .i64 c]] w fun e w' =>
      e = .returned (.agg #[.int .i64 (min a 10000), .int .i64 (min b 10000), .int .i64 (min c 10000)]) ∧ Below w.heap.size w w' := by
  go_enter Try.func64, Try.ntmps64
  go_wp2
  all_goals (
    refine bodyPost_ret (v := .agg #[.int .i64 (min a 10000), .int .i64 (min b 10000), .int .i64 (min c 10000)]) ?_ rfl ⟨rfl, ?_⟩
    · simp only [results, Try.results64]
      go_simp
      first | omega | (constructor <;> omega) | (refine ⟨?_, ?_, ?_⟩ <;> omega)
    · repeat (first | with_reducible refine Below.setCell ?_ (by simp <;> omega) _ | with_reducible exact Below.refl _ _ | refine Below.alloc ?_ (by simp <;> omega) _))

set_option maxHeartbeats 2000000 in
theorem fitSpec_any (W st sh wd : Int) (w : World) (h1 : 0 ≤ W ∧ W ≤ 10000) (h2 : 0 ≤ st ∧ st ≤ 10000) (h3 : 0 ≤ sh ∧ sh ≤ 10000) (h4 : 1 ≤ wd ∧ wd ≤ 10000) :
    Calls Try.prog 63 #[.agg #[.int .i64 W, .int .i64 st, .int .i64 sh], .int .i64 wd] w (FitRes w (code0 W sh wd)) := by
  have fin (w1 : World) (z : Int) (c : Int) (hb : Below w.heap.size w w1) (h : code0 W sh wd = c) : FitRes w (code0 W sh wd) (.returned (.tuple #[.int .i64 c, .int .i64 z])) w1 := by rw [h]; exact ⟨z, rfl, hb⟩
  have FIN := Lib.hid fin
  clear fin
  by_cases e0 : wd - W = 0
  · have C := Lib.hid (show code0 W sh wd = 1 from if_pos e0)
    go_enter Try.func63, Try.ntmps63
    go_wp2
    go_ret2
    exact FIN.out _ _ _ ((Below.refl _ _).alloc (Nat.le_refl _) _) C.out
  by_cases e1 : 0 < wd - W
  · have C := Lib.hid (show code0 W sh wd = 2 by rw [code0, if_neg e0, if_pos e1])
    have BD := Lib.hid (badSpec_any (wd - W) st ⟨by omega, by omega⟩ h2)
    go_enter Try.func63, Try.ntmps63
    go_wp2_with (go_at_call 68; refine (BD.out _).mono ?_; rintro e w' ⟨z, rfl, rfl⟩)
    go_ret2
    exact FIN.out _ _ _ ((Below.refl _ _).alloc (Nat.le_refl _) _) C.out
  by_cases e2 : -(wd - W) ≤ sh
  · have C := Lib.hid (show code0 W sh wd = 3 by rw [code0, if_neg e0, if_neg e1, if_pos e2])
    have BD := Lib.hid (badSpec_any (-(wd - W)) sh ⟨by omega, by omega⟩ h3)
    go_enter Try.func63, Try.ntmps63
    go_wp2_with (go_at_call 68; refine (BD.out _).mono ?_; rintro e w' ⟨z, rfl, rfl⟩)
    go_ret2
    exact FIN.out _ _ _ ((Below.refl _ _).alloc (Nat.le_refl _) _) C.out
  · have C := Lib.hid (show code0 W sh wd = 4 by rw [code0, if_neg e0, if_neg e1, if_neg e2])
    go_enter Try.func63, Try.ntmps63
    go_wp2
    go_ret2
    exact FIN.out _ _ _ ((Below.refl _ _).alloc (Nat.le_refl _) _) C.out
end Go.Proofs.Ytjkmjgjpkneckaa
