/-
  Contracts of the reference's generators of outlines alone.
-/
import Derived.Test.YtdgmienljhaipaaDoorOutDraw
namespace Go.Proofs.YtdgmienljhaipaaDoor
open Go.RowKit
set_option linter.unusedVariables false

/-- Levels in new memory. -/
def LevelsN (w : World) (e : Ending) (w' : World) : Prop :=
  ∃ L m d xs, e = .returned (.slice L m d) ∧ m ≤ 9 ∧ m ≤ d ∧ Rd w' 1 L m (ints xs) ∧ Below w.heap.size w w'
set_option maxHeartbeats 2000000 in
theorem DrawValidOutline_any (w : World) (a : Option Addr) (n c : Nat) (zs : List Int) (h : InBytes w a n c zs) :
    Calls Tryd.prog 8 #[.slice a n c] w (LevelsN w) := by
  have HN := Lib.hid (newReader_any w a n c zs h)
  clear h
  go_enter Tryd.func8, Tryd.ntmps8
  go_wp2_with fail
  refine HN.out.mono ?_
  rintro e w1 ⟨A, rn, rc, bs, rfl, hR, hB⟩
  have R1 := Lib.hid hR
  have B1 := Lib.hid hB
  clear hR hB HN
  go_wp2_with fail
  refine (anyOutline_any w1 _ _ A rn rc bs 0 R1.out (by omega)).mono ?_
  rintro e w2 ⟨L, m, d, xs, p2, rfl, hm, ho, hp2, hR, hG⟩
  have O2 := Lib.hid ho
  have B2 := Lib.hid (below_gr B1.out hG (Nat.le_refl _))
  obtain ⟨L', d', e', hd'⟩ := own_shape ho
  injection e' with e1 _ e2
  subst e1; subst e2
  clear hR ho hG
  go_wp2_with fail
  go_ret
  exact ⟨_, m, _, xs, rfl, hm, hd', Rd.own O2.out, B2.out⟩
set_option maxHeartbeats 2000000 in
theorem DrawNumberHeadings_any (w : World) (a : Option Addr) (n c : Nat) (zs : List Int) (h : InBytes w a n c zs) :
    Calls Tryd.prog 16 #[.slice a n c] w (LevelsN w) := by
  have HN := Lib.hid (newReader_any w a n c zs h)
  clear h
  go_enter Tryd.func16, Tryd.ntmps16
  go_wp2_with fail
  refine HN.out.mono ?_
  rintro e w1 ⟨A, rn, rc, bs, rfl, hR, hB⟩
  have R1 := Lib.hid hR
  have B1 := Lib.hid hB
  clear hR hB HN
  go_wp2_with fail
  refine (anyOutline_any w1 _ _ A rn rc bs 0 R1.out (by omega)).mono ?_
  rintro e w2 ⟨L, m, d, xs, p2, rfl, hm, ho, hp2, hR, hG⟩
  have O2 := Lib.hid ho
  have B2 := Lib.hid (below_gr B1.out hG (Nat.le_refl _))
  obtain ⟨L', d', e', hd'⟩ := own_shape ho
  injection e' with e1 _ e2
  subst e1; subst e2
  clear hR ho hG
  go_wp2_with fail
  go_ret
  exact ⟨_, m, _, xs, rfl, hm, hd', Rd.own O2.out, B2.out⟩
end Go.Proofs.YtdgmienljhaipaaDoor
