/-
  The walk of FnMoveOwn: a heading is not moved into itself.
-/
import Derived.Test.YtdgmienljhaipaaOutDraw
import Derived.Test.YtdgmienljhaipaaMove
namespace Go.Proofs.Ytdgmienljhaipaa
open Go.RowKit
set_option linter.unusedVariables false

theorem pFrom_spec {ls : List Int} {x : Int} : ∀ (k : Nat) (p : Int), k ≤ ls.length → pFrom ls x k = p → 0 ≤ p →
    ∃ (j : Nat) (y : Int), p = j ∧ j < k ∧ ls[j]? = some y ∧ y < x ∧ ∀ a z, j < a → a < k → ls[a]? = some z → x ≤ z
  | 0, p, _, h, h0 => by rw [pFrom] at h; omega
  | k + 1, p, hl, h, h0 => by
    have hk : ls[k]? = some ls[k] := List.getElem?_eq_getElem (by omega)
    by_cases hlt : ls[k] < x
    · rw [pFrom_lt hk hlt] at h
      exact ⟨k, ls[k], h.symm, by omega, hk, hlt, fun a z h1 h2 _ => by omega⟩
    · rw [pFrom_ge hk hlt] at h
      obtain ⟨j, y, h1, h2, h3, h4, h5⟩ := pFrom_spec k p (by omega) h h0
      refine ⟨j, y, h1, by omega, h3, h4, fun a z ha1 ha2 hz => ?_⟩
      rcases Nat.lt_or_ge a k with hak | hak
      · exact h5 a z ha1 hak hz
      · obtain rfl : a = k := by omega
        rw [hk] at hz
        injection hz with hz
        omega

theorem parent_own {xs : List Int} {i : Int} (h : 0 ≤ parentOf xs i) : ∃ (k p : Nat) (x y : Int), i = k ∧ parentOf xs i = p ∧ p < k ∧ k < xs.length ∧ vOutline xs = true ∧ xs[k]? = some x ∧ xs[p]? = some y ∧ k < oFrom xs y (p + 1) ∧ k < oFrom xs x (k + 1) := by
  unfold parentOf at h ⊢
  split at h
  · rename_i hc
    obtain ⟨hv, hr⟩ := hc
    have hr' := inB_iff.1 hr
    obtain ⟨k, rfl⟩ := Int.eq_ofNat_of_zero_le hr'.1
    have hk : xs[k]? = some xs[k] := List.getElem?_eq_getElem (by omega)
    rw [if_pos ⟨hv, hr⟩]
    rw [Int.toNat_natCast, List.getD_eq_getElem?_getD, hk] at h ⊢
    obtain ⟨j, y, h1, h2, h3, h4, h5⟩ := pFrom_spec k _ (by omega) rfl h
    refine ⟨k, j, xs[k], y, rfl, h1, h2, by omega, hv, hk, h3, ?_, by have := oFrom_ge (xs := xs) (x := xs[k]) (k := k + 1); omega⟩
    have hp := oFrom_past (xs := xs) (x := y) (k - j) (j + 1) (fun a z ha1 ha2 hz => by
      rcases Nat.lt_or_ge a k with hak | hak
      · have := h5 a z (by omega) hak hz
        have : y < xs[k] := h4
        omega
      · obtain rfl : a = k := by omega
        rw [hk] at hz
        injection hz with hz
        have : y < xs[a] := h4
        omega) (by omega)
    omega
  · omega

set_option maxHeartbeats 4000000 in
theorem FnMoveOwn_walk (w : World) (a0 : Option Addr) (n0 c0 : Nat) (x0 : List Int) (h0 : InBytes w a0 n0 c0 x0) :
    Calls Try.prog 6 #[.slice a0 n0 c0] w fun e w' => e = .returned (.bool true) ∧ Below w.heap.size w w' := by
  have HD := Lib.hid (DrawParentOf_any w a0 n0 c0 x0 h0)
  clear h0
  by_cases g0 : n0 ≤ 1048576
  case neg =>
    go_enter Try.func6, Try.ntmps6
    go_wp2
    go_ret
    exact ⟨rfl, Below.refl _ _⟩
  go_enter Try.func6, Try.ntmps6
  go_wp2_with fail
  refine HD.out.mono ?_
  rintro e w1 ⟨L, m, d, xs, i, rfl, hm, hmd, hx, hi0, hi1, hB⟩
  have B1 := Lib.hid hB
  have X1 := Lib.hid hx
  have XL := Lib.hid hx.len
  clear hB hx HD
  obtain ⟨P, hP⟩ : ∃ P, P = parentOf xs i := ⟨_, rfl⟩
  have HP := Lib.hid hP
  have C1 := Lib.hid (implParent_any L m d xs w1 X1.out i (by omega))
  rw [← hP] at C1
  clear hP
  go_wp2_with fail
  refine C1.out.mono ?_
  rintro e w2 ⟨rfl, hb⟩
  have B2 := Lib.hid (below_of_drew (B := w1.heap.size) hb); clear hb C1
  have C2 := Lib.hid (specParentOf_any L m d xs w2 (X1.out.below B2.out) i (by omega))
  rw [← HP.out] at C2
  go_wp2_with fail
  refine C2.out.mono ?_
  rintro e w3 ⟨rfl, hb⟩
  have B3 := Lib.hid (below_of_drew (B := w2.heap.size) hb); clear hb C2
  have X3 := Lib.hid ((X1.out.below B2.out).below B3.out)
  have HB := Lib.hid (below_step (below_step B1.out B2.out) B3.out)
  by_cases h0 : P < 0
  · have C4 := Lib.hid (specParentOf_any L m d xs w3 X3.out i (by omega))
    rw [← HP.out] at C4
    go_wp2_with fail
    refine C4.out.mono ?_
    rintro e w4 ⟨rfl, hb⟩
    have B4 := Lib.hid (below_of_drew (B := w3.heap.size) hb); clear hb
    go_wp2_with fail
    go_ret
    exact ⟨by first | rfl | simp, below_step HB.out B4.out⟩
  obtain ⟨k, p, x, y, hik, hpp, hpk, hkl, hv, hx, hy, hk1, hk2⟩ := parent_own (xs := xs) (i := i) (by rw [← HP.out]; omega)
  subst hik
  have hPp : P = p := by rw [HP.out, hpp]
  rw [XL.out] at hkl
  have D1 := Lib.hid (fun w' h => implMoveOwn_any L m d xs w' h p k y (by omega) hkl (by omega) hv hy (by omega) hk1)
  have D2 := Lib.hid (fun w' h => implMoveOwn_any L m d xs w' h k k x hkl hkl (by omega) hv hx (Nat.le_refl _) hk2)
  clear hpp hv hx hy hk1 hk2
  subst hPp
  go_wp2_with fail
  refine (D1.out _ X3.out).mono ?_
  rintro e w4 ⟨rfl, hb⟩
  have B4 := Lib.hid (below_of_drew (B := w3.heap.size) hb); clear hb
  go_wp2_with fail
  refine (D2.out _ (X3.out.below B4.out)).mono ?_
  rintro e w5 ⟨rfl, hb⟩
  have B5 := Lib.hid (below_of_drew (B := w4.heap.size) hb); clear hb
  go_wp2_with fail
  go_ret
  exact ⟨by first | rfl | simp, below_step (below_step HB.out B4.out) B5.out⟩
end Go.Proofs.Ytdgmienljhaipaa
