/-
  The walk of FnCommonItems: common items are counted alike from both sides, and they are equal.
-/
import Derived.Test.YtjkmjgjpkneckaaDrawItems2
import Derived.StillTailTactics
import Derived.Deep.RegionHeld3
namespace Go.Proofs.Ytjkmjgjpkneckaa
open Go.RowKit
set_option linter.unusedVariables false

theorem com_valid {xs ys : List It} (h : vItems xs = true ∧ vItems ys = true) : comItems xs ys = cpre xs ys ∧ comItems ys xs = cpre xs ys ∧ comItems xs xs = xs.length := by
  refine ⟨by rw [comItems, if_pos h], by rw [comItems, if_pos ⟨h.2, h.1⟩, cpre_comm], by rw [comItems, if_pos ⟨h.1, h.1⟩, cpre_self]⟩

set_option maxHeartbeats 4000000 in
theorem FnCommonItems_walk (w : World) (a0 : Option Addr) (n0 c0 : Nat) (x0 : List Int) (h0 : InBytes w a0 n0 c0 x0) :
    Calls Try.prog 6 #[.slice a0 n0 c0] w fun e w' => e = .returned (.bool true) ∧ Below w.heap.size w w' := by
  have HD := Lib.hid (DrawCommonItems_any w a0 n0 c0 x0 h0)
  clear h0
  by_cases g0 : n0 ≤ 1048576
  case neg =>
    go_enter Try.func6, Try.ntmps6
    go_wp2
    go_ret
    exact ⟨rfl, Below.refl _ _⟩
  go_enter Try.func6, Try.ntmps6
  go_wp2_with fail
  refine HD.out.mono ?_
  rintro e w1 ⟨L, m, d, xs, L', m', d', ys, rfl, hm, hm', hmd, hmd', hx, hy, hB⟩
  have B1 := Lib.hid hB
  have X1 := Lib.hid hx
  have Y1 := Lib.hid hy
  clear hB hx hy HD
  have H1 := Lib.hid (implCommon_any L L' m m' d d' xs ys w1 X1.out Y1.out (by omega) (by omega))
  by_cases hv : vItems xs = true ∧ vItems ys = true
  case neg =>
    have HV : Hid (comItems xs ys = -1) := by show comItems xs ys = -1; rw [comItems, if_neg hv]
    clear hv
    rw [HV.out] at H1
    go_wp2_with fail
    refine H1.out.mono ?_
    rintro e w2 ⟨rfl, hb⟩
    have B2 := Lib.hid hb; clear hb
    have H2 := Lib.hid (specCommon_any L L' m m' d d' xs ys w2 (X1.out.below B2.out) (Y1.out.below B2.out) (by omega) (by omega))
    rw [HV.out] at H2
    go_wp2_with fail
    refine H2.out.mono ?_
    rintro e w3 ⟨rfl, hb⟩
    have B3 := Lib.hid hb; clear hb
    have H3 := Lib.hid (specCommon_any L L' m m' d d' xs ys w3 ((X1.out.below B2.out).below B3.out) ((Y1.out.below B2.out).below B3.out) (by omega) (by omega))
    rw [HV.out] at H3
    go_wp2_with fail
    refine H3.out.mono ?_
    rintro e w4 ⟨rfl, hb⟩
    have B4 := Lib.hid hb; clear hb
    go_wp2_with fail
    go_ret
    exact ⟨rfl, below_step (below_step (below_step B1.out B2.out) B3.out) B4.out⟩
  have HV := Lib.hid (com_valid hv)
  clear hv
  obtain ⟨K, hK⟩ : ∃ K, K = cpre xs ys := ⟨_, rfl⟩
  have hKm : K ≤ m := by rw [hK, ← X1.out.item_len]; exact cpre_le xs ys
  have hKm' : K ≤ m' := by rw [hK, ← Y1.out.item_len]; exact cpre_le' xs ys
  have HK := Lib.hid hK
  clear hK
  rw [HV.out.1, ← HK.out] at H1
  go_wp2_with fail
  refine H1.out.mono ?_
  rintro e w2 ⟨rfl, hb⟩
  have B2 := Lib.hid hb; clear hb
  have H2 := Lib.hid (specCommon_any L L' m m' d d' xs ys w2 (X1.out.below B2.out) (Y1.out.below B2.out) (by omega) (by omega))
  rw [HV.out.1, ← HK.out] at H2
  have hK0 : ¬ (K : Int) < 0 := by omega
  go_wp2_with fail
  refine H2.out.mono ?_
  rintro e w3 ⟨rfl, hb⟩
  have B3 := Lib.hid hb; clear hb
  have X3 := Lib.hid ((X1.out.below B2.out).below B3.out)
  have Y3 := Lib.hid ((Y1.out.below B2.out).below B3.out)
  have BB := Lib.hid (below_step (below_step B1.out B2.out) B3.out)
  clear H1 H2
  have C1 : Hid (∀ v : Ext w3, Calls Try.prog 22 #[.slice L' m' d', .slice L m d] v.val fun e w' => e = .returned (.int .i64 K) ∧ Below v.val.heap.size v.val w') := fun v => by
    have h := implCommon_any L' L m' m d' d ys xs v.val (Y3.out.below v.property) (X3.out.below v.property) (by omega) (by omega)
    rw [HV.out.2.1, ← HK.out] at h
    exact h
  have C2 : Hid (∀ v : Ext w3, Calls Try.prog 22 #[.slice L m d, .slice L m d] v.val fun e w' => e = .returned (.int .i64 m) ∧ Below v.val.heap.size v.val w') := fun v => by
    have h := implCommon_any L L m m d d xs xs v.val (X3.out.below v.property) (X3.out.below v.property) (by omega) (by omega)
    rw [HV.out.2.2, X3.out.item_len] at h
    exact h
  have C3 : Hid (∀ v : Ext w3, Calls Try.prog 25 #[.slice L K d, .slice L' K d'] v.val fun e w' => e = .returned (.bool true) ∧ Below v.val.heap.size v.val w') := fun v => by
    have hx := (X3.out.below v.property).take hKm
    have hy := (Y3.out.below v.property).take hKm'
    rw [items, flat_take It.cells 6 It.cells_length] at hx hy
    have h := equalItems_any L L' K K d d' (xs.take K) (ys.take K) v.val hx hy (by omega) (by omega)
    rw [HK.out, cpre_take, ← HK.out] at h
    refine h.mono fun e w' ⟨h1, h2⟩ => ⟨by simpa using h1, below_of_drew h2⟩
  have hKd : (K : Int) ≤ d := by omega
  have hKd' : (K : Int) ≤ d' := by omega
  have hK0' : (0 : Int) ≤ K := by omega
  have hKmi : (K : Int) ≤ (m : Int) := by omega
  have hKmi' : (K : Int) ≤ (m' : Int) := by omega
  go_wp2_with fail
  refine wp_region_ext (by kernel_rfl) (by kernel_rfl) ?_
  repeat (go_big_quiet_step ((first | (go_at_call_of 22 (Value.slice L' m' d'); exact ext_call (C1.out _)) | (go_at_call 22; exact ext_call (C2.out _)) | (go_at_call 25; exact ext_call (C3.out _)))))
  refine wpQuiet_nil ?_
  intro w4 hw4
  have B4 := Lib.hid (below_step BB.out (ext_below hw4))
  clear hw4
  go_wp2_with fail
  go_ret
  exact ⟨by simp, B4.out⟩
end Go.Proofs.Ytjkmjgjpkneckaa
