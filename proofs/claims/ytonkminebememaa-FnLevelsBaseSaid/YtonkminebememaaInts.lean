/-
  Contracts of the small functions on []int that the statements use: they copy a list, compare two lists, and count what two lists have in common.
-/
import Derived.Test.YtonkminebememaaProg
import Derived.Test.YtonkminebememaaBase
namespace Go.Proofs.Ytonkminebememaa
open Go.RowKit
set_option linter.unusedVariables false

set_option maxHeartbeats 400000 in
theorem equalInts_any (A B : Option Addr) (n m c d : Nat) (xs ys : List Int) (w : World) (hx : Rd w 1 A n (ints xs)) (hy : Rd w 1 B m (ints ys)) (hn : n ≤ 1048576) (hm : m ≤ 1048576) :
    Calls Try.prog 11 #[.slice A n c, .slice B m d] w fun e w' => e = .returned (.bool (decide (xs = ys))) ∧ ∃ q, w' = w.drewN q := by
  by_cases hne : n = m
  · subst hne
    go_enter Try.func11, Try.ntmps11
    go_wp2
    go_loopw [5] (fun i wr => ∃ k q : Nat, k ≤ n ∧ i = .int .i64 k ∧ (∀ j, j < k → xs[j]? = ys[j]?) ∧ wr = w.drewN q) (fun i _ => n - (intOf i).toNat)
    case atStart => exact ⟨0, 0, Nat.zero_le _, rfl, fun j h => absurd h (by omega), rfl⟩
    case round =>
      obtain ⟨k, q, hk, rfl, hpre, rfl⟩ := hrel
      have HP := Lib.hid hpre; clear hpre
      by_cases hlt : k < n
      · obtain ⟨b, o, x, rfl, ex, hcx⟩ := hx.int_at hlt
        obtain ⟨b', o', y, rfl, ey, hcy⟩ := hy.int_at hlt
        have HX := Lib.hid hx; clear hx
        have HY := Lib.hid hy; clear hy
        have EX := Lib.hid ex; clear ex
        have EY := Lib.hid ey; clear ey
        have hlt' : (k : Int) < (n : Int) := by omega
        have hk0 : (0 : Int) ≤ (k : Int) := by omega
        go_wp2
        go_quiet (fail)
        go_wp2
        · have hxy : (x != y) = true := by assumption
          go_ret
          refine ⟨ret_bool ?_, q + nq, by rw [World.drewN_drewN]⟩
          have : xs ≠ ys := fun e => by
            have := EX.out; rw [e, EY.out] at this
            simp at hxy; exact hxy (by injection this with h; exact h.symm)
          simp [this]
        · have hxy : (x != y) = false := by assumption
          have HXY : Hid (x = y) := by show x = y; simpa using hxy
          clear hxy
          go_roundw
          case rel => exact ⟨k + 1, _, by omega, by go_num, upto_succ HP.out (by rw [EX.out, EY.out, HXY.out]), rfl⟩
          case measure => simp [intOf] <;> omega
      · obtain rfl : k = n := by omega
        have HX := Lib.hid hx; clear hx
        have HY := Lib.hid hy; clear hy
        go_wp2
        go_ret
        refine ⟨ret_bool ?_, q, rfl⟩
        simp [ext_upto HX.out.len HY.out.len HP.out]
  · have hb : ((n : Int) != (m : Int)) = true := by simp; omega
    have HX := Lib.hid hx; clear hx
    have HY := Lib.hid hy; clear hy
    go_enter Try.func11, Try.ntmps11
    go_wp2
    go_ret
    refine ⟨ret_bool ?_, 0, rfl⟩
    have : xs ≠ ys := fun e => hne (by rw [← HX.out.len, ← HY.out.len, e])
    simp [this]



theorem infoInt : (Try.prog.info? 3).map (fun i => (i.zero, i.size, i.bytes)) = some (some (.int .i64 0), 1, 8) := by kernel_rfl

theorem elemInt : ElemT Try.prog 25 3 1 := ElemT.of Try.underlying25 infoInt rfl (by omega) (by omega)

end Go.Proofs.Ytonkminebememaa
