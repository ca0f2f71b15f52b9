/-
  Contract of the program's function that says how a line fits.
-/
import Derived.Test.YtjkmjgjpkneckaaFitLine
namespace Go.Proofs.Ytjkmjgjpkneckaa
open Go.RowKit
set_option linter.unusedVariables false

set_option maxHeartbeats 2000000 in
theorem fitLineImpl_any (A : Option Addr) (n c s t : Nat) (f wd : Int) (xs : List It) (w : World) (hx : Rd w 6 A n (items xs)) (hv : vItems xs = true) (hs : s ≤ t) (ht : t < n) (hnc : n ≤ c) (hf : f + 1 = (s : Int)) (hw : 1 ≤ wd ∧ wd ≤ 10000) :
    Calls Try.prog 67 #[.slice A n c, .int .i64 f, .int .i64 t, .int .i64 wd] w (FitRes w (cd xs wd s t)) := by
  have hb := line_bound hv (lst xs s t) t
  have HC := Lib.hid (lineImpl_any A n c s t f xs w hx hv hs ht hnc hf)
  have E : Hid (cd xs wd s t = code0 (min (line xs (lst xs s t) t).w 10000) (min (line xs (lst xs s t) t).sh 10000) wd) := rfl
  rw [E.out]
  clear hx hv hf E
  obtain ⟨⟨a, a', b⟩, hg⟩ : ∃ g, g = line xs (lst xs s t) t := ⟨_, rfl⟩
  rw [← hg] at hb HC ⊢
  simp only at hb ⊢
  clear hg
  have FC : Hid (∀ (w1 : World) (p q r : Int), p = min a 10000 → r = min b 10000 → 0 ≤ q ∧ q ≤ 10000 →
      Calls Try.prog 72 #[.agg #[.int .i64 p, .int .i64 q, .int .i64 r], .int .i64 wd] w1 (FitRes w1 (code0 (min a 10000) (min b 10000) wd))) := by
    intro w1 p q r h1 h2 h3
    rw [← h1, ← h2]
    exact fitImpl_any p q r wd w1 (by omega) h3 (by omega) hw
  go_enter Try.func67, Try.ntmps67
  go_wp2_with fail
  refine HC.out.mono ?_
  rintro e w1 ⟨rfl, hb1⟩
  have B1 := Lib.hid hb1
  clear hb1
  go_wp2_with fail
  all_goals (
    refine Calls.mono (FC.out _ _ _ _ ?_ ?_ ?_) ?_
    · omega
    · omega
    · omega
    rintro e w2 ⟨z, rfl, hb2⟩
    have B2 := Lib.hid (below_step (B1.out.alloc B1.out.size _) hb2)
    clear hb2
    go_wp2_with fail
    go_ret2
    exact ⟨z, rfl, B2.out⟩)

end Go.Proofs.Ytjkmjgjpkneckaa
