/-
  Contract of the reference's generator of the arguments of MoveHeading.
-/
import Derived.Test.YtdgmienljhaipaaOutDraw
namespace Go.Proofs.Ytdgmienljhaipaa
open Go.RowKit
set_option linter.unusedVariables false

/-- Levels and two indexes, the levels in new memory. -/
def LevelsII (w : World) (e : Ending) (w' : World) : Prop :=
  ∃ L m d xs i k, e = .returned (.tuple #[.slice L m d, .int .i64 i, .int .i64 k]) ∧ m ≤ 9 ∧ m ≤ d ∧ Rd w' 1 L m (ints xs) ∧ -1 ≤ i ∧ i ≤ 9 ∧ 0 ≤ k ∧ k ≤ 9 ∧ Below w.heap.size w w'

set_option maxHeartbeats 2000000 in
theorem DrawMoveHeading_any (w : World) (a : Option Addr) (n c : Nat) (zs : List Int) (h : InBytes w a n c zs) :
    Calls Try.prog 19 #[.slice a n c] w (LevelsII w) := by
  have HN := Lib.hid (newReader_any w a n c zs h)
  clear h
  go_enter Try.func19, Try.ntmps19
  go_wp2_with fail
  refine HN.out.mono ?_
  rintro e w1 ⟨A, rn, rc, bs, rfl, hR, hB⟩
  have R1 := Lib.hid hR
  have B1 := Lib.hid hB
  clear hR hB HN
  have hg1 : w.heap.size < w1.heap.size := R1.out.blk.lt
  go_wp2_with fail
  refine (anyOutline_any w1 _ _ A rn rc bs 0 R1.out (by omega)).mono ?_
  rintro e w2 ⟨L, m, d, xs, p2, rfl, hm, ho, hp2, hR, hG⟩
  have R2 := Lib.hid hR
  have O2 := Lib.hid ho
  have B2 := Lib.hid (below_gr B1.out hG (Nat.le_refl _))
  clear hR ho hG
  go_wp2_with fail
  refine (pick_gr w2 _ _ A rn rc bs p2 ((m : Int) + 1) R2.out (by omega) (by omega)).mono ?_
  rintro e w3 ⟨v, rfl, hv0, hv1, _, hR, hG⟩
  have hv := hv1 (by omega)
  have R3 := Lib.hid hR
  have O3 := Lib.hid (own_gr O2.out hG hg1)
  have B3 := Lib.hid (below_gr B2.out hG (Nat.le_refl _))
  clear hR hG hv1
  go_wp2_with fail
  refine (pick_gr w3 _ _ A rn rc bs (p2 + 1) 2 R3.out (by omega) (by omega)).mono ?_
  rintro e w4 ⟨u, rfl, hu0, hu1, _, hR, hG⟩
  have hu := hu1 (by omega)
  have R4 := Lib.hid hR
  have O4 := Lib.hid (own_gr O3.out hG hg1)
  have B4 := Lib.hid (below_gr B3.out hG (Nat.le_refl _))
  clear hR hG hu1
  go_wp2_with fail
  refine (pick_gr w4 _ _ A rn rc bs (p2 + 1 + 1) ((m : Int) + 1) R4.out (by omega) (by omega)).mono ?_
  rintro e w5 ⟨t, rfl, ht0, ht1, _, hR, hG⟩
  have ht := ht1 (by omega)
  have O5 := Lib.hid (own_gr O4.out hG hg1)
  have B5 := Lib.hid (below_gr B4.out hG (Nat.le_refl _))
  obtain ⟨L0, d0, e0, hmd⟩ := own_shape O5.out
  injection e0 with e1 e2 e3
  subst e1
  subst e3
  clear hR hG ht1
  go_wp2_with fail
  go_ret3
  exact ⟨L, m, d, xs, v - u, t, rfl, hm, hmd, Rd.own O5.out, by omega, by omega, by omega, by omega, B5.out⟩
end Go.Proofs.Ytdgmienljhaipaa
