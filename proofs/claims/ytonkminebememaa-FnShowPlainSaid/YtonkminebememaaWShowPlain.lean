/-
  The walk of FnShowPlain: text from left to right is not changed.
-/
import Derived.Test.YtonkminebememaaShowLaws
namespace Go.Proofs.Ytonkminebememaa
open Go.RowKit
set_option linter.unusedVariables false


set_option maxHeartbeats 8000000 in
theorem FnShowPlain_walk (w : World) (a0 : Option Addr) (n0 c0 : Nat) (x0 : List Int) (h0 : InBytes w a0 n0 c0 x0) :
    Calls Try.prog 7 #[.slice a0 n0 c0] w fun e w' => e = .returned (.bool true) ∧ Below w.heap.size w w' := by
  have HD := Lib.hid (DrawShowText_any w a0 n0 c0 x0 h0)
  clear h0
  by_cases g0 : n0 ≤ 1048576
  case neg =>
    go_enter Try.func7, Try.ntmps7
    go_wp2
    go_ret
    exact ⟨rfl, Below.refl _ _⟩
  go_enter Try.func7, Try.ntmps7
  go_wp2_with fail
  refine HD.out.mono ?_
  rintro e w1 ⟨s, b, rfl, hs, hb0, hb1, hB⟩
  have B0 := Lib.hid hB
  clear hB HD
  have HNE := Lib.hid (@show_ne s b)
  have HSZ := Lib.hid (@showL_size s b)
  obtain ⟨S, hS⟩ : ∃ S, S = showL s b := ⟨_, rfl⟩
  have C2 := Lib.hid (fun w => implShow_any s b w (by omega))
  have C1 := Lib.hid (fun w => specShow_any s b w (by omega))
  rw [← hS] at C1 C2 HNE HSZ
  have HS := Lib.hid hS
  clear hS
  have hne : (S.toList != S.toList) = false := by simp
  go_wp2_with fail
  refine (C2.out _).mono ?_
  rintro e wa ⟨rfl, hb⟩
  have B1 := Lib.hid (below_step B0.out hb)
  clear hb
  go_wp2_with fail
  refine (C1.out _).mono ?_
  rintro e wb ⟨rfl, hb⟩
  have B2 := Lib.hid (below_step B1.out hb)
  clear hb
  by_cases hz : S = ⟨#[]⟩
  case pos =>
    subst hz
    go_wp2_with fail
    refine (C1.out _).mono ?_
    rintro e wc ⟨rfl, hb⟩
    have B3 := Lib.hid (below_step B2.out hb)
    clear hb
    go_wp2_with fail
    go_ret
    exact ⟨rfl, B3.out⟩
  have hz' : (S.toList == []) = false := str_no hz
  obtain ⟨hvt, hv0, hv1, _, hlen⟩ := HNE.out hz
  have hSs : S.size = s.size := by rw [HSZ.out, hlen]
  have HVT := Lib.hid hvt
  clear hz hlen hvt
  go_wp2_with fail
  go_loopw [6] (fun i wr => ∃ k : Nat, k ≤ s.size ∧ i = .int .i64 (k : Int) ∧ wr = wb ∧ ∀ j, j < k → clsAt s j ≠ 2) (fun i _ => s.size - (intOf i).toNat)
  case atStart => exact ⟨0, Nat.zero_le _, rfl, rfl, fun j h => absurd h (by omega)⟩
  case round =>
    obtain ⟨k, hk, rfl, rfl, hno⟩ := hrel
    have NO := Lib.hid hno
    clear hno
    by_cases hlt : k < s.size
    case neg =>
      obtain rfl : k = s.size := by omega
      have C3 := Lib.hid (implShow_any s 0 wr (by omega))
      rw [showL_plain HVT.out NO.out] at C3
      have hee : (s.toList == s.toList) = true := by simp
      go_wp2_with fail
      refine C3.out.mono ?_
      rintro e wc ⟨rfl, hb⟩
      have B3 := Lib.hid (below_step B2.out hb)
      clear hb
      go_wp2_with fail
      go_ret
      exact ⟨rfl, B3.out⟩
    have hlt' : (k : Int) < (s.size : Int) := by omega
    have hzn := zone_of s[k]
    have HC : Hid (clsAt s k = cls s[k]) := clsAt_eq hlt
    obtain ⟨hx0, hx1, hzn⟩ := hzn
    rcases hzn with ⟨a, hzn⟩ | ⟨a, a', hzn⟩ | ⟨a, a', hzn⟩ | ⟨a, a', hzn⟩ | ⟨a, a', hzn⟩ | ⟨a, a', hzn⟩ | ⟨a, hzn⟩
    case inr.inr.inr.inl =>
      clear hzn
      go_wp2_with fail
      go_ret
      exact ⟨ret_bool (by simp [hSs]), B2.out⟩
    all_goals
      have NO2 : Hid (∀ j, j < k + 1 → clsAt s j ≠ 2) := fun j hj => by
        rcases Nat.lt_or_ge j k with h | h
        · exact NO.out j h
        · obtain rfl : j = k := by omega
          rw [HC.out, hzn]; decide
      clear hzn
      go_wp2_with fail
      go_roundw
      case rel => exact ⟨k + 1, by omega, by go_num, by first | rfl | trivial, NO2.out⟩
      case measure => simp [intOf] <;> omega
end Go.Proofs.Ytonkminebememaa
