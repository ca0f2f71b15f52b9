/-
  The walk of FnExactShowText: the program and the reference show a text alike.
-/
import Derived.Test.YtonkminebememaaShow
namespace Go.Proofs.Ytonkminebememaa
open Go.RowKit
set_option linter.unusedVariables false

set_option maxHeartbeats 2000000 in
theorem FnExactShowText_walk (w : World) (s0 : ByteArray) (h0 : s0.size ≤ maxLen) (b0 : Int) (_ : (Lit.int .i64 b0).wf = true) :
    Calls Try.prog 5 #[.string s0, .int .i64 b0] w fun e w' => e = .returned (.bool true) ∧ Below w.heap.size w w' := by
  unfold maxLen at h0
  by_cases g0 : s0.size ≤ 1048576
  case neg =>
    have g1 : (1048576 : Int) < (s0.size : Int) := by omega
    go_enter Try.func5, Try.ntmps5
    go_wp2
    go_ret
    exact ⟨rfl, Below.refl _ _⟩
  have g1 : ¬ (1048576 : Int) < (s0.size : Int) := by omega
  have C1 := Lib.hid (specShow_any s0 b0 w g0)
  obtain ⟨S, hS⟩ : ∃ S, S = showL s0 b0 := ⟨_, rfl⟩
  have C2 := Lib.hid (fun w => implShow_any s0 b0 w g0)
  rw [← hS] at C1 C2
  clear hS
  have hne : (S.toList != S.toList) = false := by simp
  go_enter Try.func5, Try.ntmps5
  go_wp2_with fail
  refine C1.out.mono ?_
  rintro e w1 ⟨rfl, hb⟩
  have B1 := Lib.hid hb
  clear hb
  go_wp2_with fail
  refine (C2.out w1).mono ?_
  rintro e w2 ⟨rfl, hb⟩
  have B2 := Lib.hid (below_step B1.out hb)
  clear hb
  go_wp2_with fail
  go_ret
  exact ⟨rfl, B2.out⟩
end Go.Proofs.Ytonkminebememaa
