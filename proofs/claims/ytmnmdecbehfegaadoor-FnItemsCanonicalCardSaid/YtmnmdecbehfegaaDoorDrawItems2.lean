/-
  Contracts of the generators of two paragraphs and of the arguments of ReplaceItems, and of equalItems.
-/
import Derived.Test.YtmnmdecbehfegaaDoorDrawItems
namespace Go.Proofs.YtmnmdecbehfegaaDoor
open Go.RowKit
set_option linter.unusedVariables false

set_option maxHeartbeats 8000000 in
theorem equalItems_any (A B : Option Addr) (n m c d : Nat) (xs ys : List It) (w : World) (hx : Rd w 6 A n (items xs)) (hy : Rd w 6 B m (items ys)) (hn : n ≤ 1048576) (hm : m ≤ 1048576) :
    Calls Tryd.prog 29 #[.slice A n c, .slice B m d] w fun e w' => e = .returned (.bool (decide (xs = ys))) ∧ ∃ q, w' = w.drewN q := by
  have HLx := Lib.hid hx.item_len
  have HLy := Lib.hid hy.item_len
  by_cases hne : n = m
  case neg =>
    have hb : ((n : Int) != (m : Int)) = true := by simp; omega
    clear hx hy
    go_enter Tryd.func29, Tryd.ntmps29
    go_wp2
    go_ret
    refine ⟨ret_bool ?_, 0, rfl⟩
    have : xs ≠ ys := fun e => hne (by rw [← HLx.out, ← HLy.out, e])
    simp [this]
  subst hne
  go_enter Tryd.func29, Tryd.ntmps29
  go_wp2
  go_loopw [5] (fun i wr => ∃ k q : Nat, k ≤ n ∧ i = .int .i64 k ∧ (∀ j, j < k → xs[j]? = ys[j]?) ∧ wr = w.drewN q) (fun i _ => n - (intOf i).toNat)
  case atStart => exact ⟨0, 0, Nat.zero_le _, rfl, fun j h => absurd h (by omega), rfl⟩
  case round =>
    obtain ⟨k, q, hk, rfl, hpre, rfl⟩ := hrel
    have HP := Lib.hid hpre; clear hpre
    have hk0 : (0 : Int) ≤ (k : Int) := by omega
    by_cases hlt : k < n
    · have hlt' : (k : Int) < (n : Int) := by omega
      obtain ⟨b, o, x, rfl, ex, hc0, hc1, hc2, hc3, hc4, hc5⟩ := hx.item_at hlt
      obtain ⟨b', o', y, rfl, ey, hd0, hd1, hd2, hd3, hd4, hd5⟩ := hy.item_at hlt
      clear hx hy
      have EX := Lib.hid ex; clear ex
      have EY := Lib.hid ey; clear ey
      rcases it_cases x y with hxy | ⟨hxy, hc⟩
      · subst hxy
        go_wp2
        go_quiet (fail)
        go_wp2
        go_roundw
        case rel => exact ⟨k + 1, _, by omega, by go_num, upto_succ HP.out (by rw [EX.out, EY.out]), rfl⟩
        case measure => simp [intOf] <;> omega
      · have HB := Lib.hid hxy; clear hxy
        rcases hc with g0 | ⟨g0, g1⟩ | ⟨g0, g1, g2⟩ | ⟨g0, g1, g2, g3⟩ | ⟨g0, g1, g2, g3, g4⟩ | ⟨g0, g1, g2, g3, g4, g5⟩
        all_goals
          go_wp2
          go_quiet (fail)
          go_wp2
          go_ret
          refine ⟨ret_bool ?_, q + nq, by rw [World.drewN_drewN]⟩
          have : xs ≠ ys := fun e => by
            have h := EX.out
            rw [e, EY.out] at h
            injection h with h
            exact HB.out h.symm
          simp [this]
    · have hkn : k = n := by omega
      subst hkn
      clear hx hy
      go_wp2_with fail
      go_ret
      refine ⟨ret_bool ?_, q, rfl⟩
      simp [ext_upto HLx.out HLy.out HP.out]

end Go.Proofs.YtmnmdecbehfegaaDoor
