/-
  Contracts of inRange and within: is a number between two others?
-/
import Derived.Test.YtmnmdecbehfegaaDoorProg
import Derived.Test.YtmnmdecbehfegaaDoorBase
namespace Go.Proofs.YtmnmdecbehfegaaDoor
open Go.RowKit
set_option linter.unusedVariables false

theorem inRange_any (a lo hi : Int) (r : Bool) (hr : inB lo hi a = r) (w : World) :
    Calls Tryd.prog 54 #[.int .i64 a, .int .i64 lo, .int .i64 hi] w fun e w' => e = .returned (.bool r) ∧ w = w' := by
  subst hr
  by_cases h1 : lo ≤ a
  · by_cases h2 : a ≤ hi
    · have HR := Lib.hid (inB_true h1 h2)
      go_enter Tryd.func54, Tryd.ntmps54
      go_wp2
      go_ret
      exact ⟨ret_bool (by rw [HR.out]), rfl⟩
    · have HR := Lib.hid (inB_false (lo := lo) (hi := hi) (a := a) (fun h => h2 h.2))
      go_enter Tryd.func54, Tryd.ntmps54
      go_wp2
      go_ret
      exact ⟨ret_bool (by rw [HR.out]), rfl⟩
  · have HR := Lib.hid (inB_false (lo := lo) (hi := hi) (a := a) (fun h => h1 h.1))
    have hd : decide (lo ≤ a) = false := decide_eq_false h1
    go_enter Tryd.func54, Tryd.ntmps54
    go_wp2
    go_ret
    exact ⟨ret_bool (by rw [HR.out]), rfl⟩
theorem within_any (a lo hi : Int) (r : Bool) (hr : inB lo hi a = r) (w : World) :
    Calls Tryd.prog 52 #[.int .i64 a, .int .i64 lo, .int .i64 hi] w fun e w' => e = .returned (.bool r) ∧ w = w' := by
  subst hr
  by_cases h1 : lo ≤ a
  · by_cases h2 : a ≤ hi
    · have HR := Lib.hid (inB_true h1 h2)
      go_enter Tryd.func52, Tryd.ntmps52
      go_wp2
      go_ret
      exact ⟨ret_bool (by rw [HR.out]), rfl⟩
    · have HR := Lib.hid (inB_false (lo := lo) (hi := hi) (a := a) (fun h => h2 h.2))
      go_enter Tryd.func52, Tryd.ntmps52
      go_wp2
      go_ret
      exact ⟨ret_bool (by rw [HR.out]), rfl⟩
  · have HR := Lib.hid (inB_false (lo := lo) (hi := hi) (a := a) (fun h => h1 h.1))
    have hd : decide (lo ≤ a) = false := decide_eq_false h1
    go_enter Tryd.func52, Tryd.ntmps52
    go_wp2
    go_ret
    exact ⟨ret_bool (by rw [HR.out]), rfl⟩
end Go.Proofs.YtmnmdecbehfegaaDoor
