/-
  The walk of FnExactOverlaps: the program and the reference find the same pair of texts.
-/
import Derived.Test.YtigcbnehcofbcaaOverlaps
import Derived.Test.YtigcbnehcofbcaaOpenPlaced
namespace Go.Proofs.Ytigcbnehcofbcaa
open Go.RowKit
set_option linter.unusedVariables false

set_option maxHeartbeats 1000000 in
theorem FnExactOverlaps_walk (w : World) (a0 : Option Addr) (n0 c0 : Nat) (x0 : List Pl) (h0 : InPlaceds w a0 n0 c0 x0) (pw : Int) (_ : (Lit.int .i64 pw).wf = true) (ph : Int) (_ : (Lit.int .i64 ph).wf = true) :
    Calls Try.prog 5 #[.slice a0 n0 c0, .int .i64 pw, .int .i64 ph] w fun e w' => e = .returned (.bool true) ∧ Below w.heap.size w w' := by
  obtain ⟨hr, hz, hc1, hc2⟩ := h0
  unfold maxLen at hc2
  have R0 := Lib.hid hr
  have HS := Lib.hid (szPlacedS_any a0 n0 c0 x0 w 1048576 hr (by omega) hz (by omega) (by omega))
  clear hr hz
  go_enter Try.func5, Try.ntmps5
  go_wp2_with fail
  refine HS.out.mono ?_
  rintro e w1 ⟨r, rfl, hr1, hr2, hb⟩
  have B1 := Lib.hid hb
  have HR := Lib.hid hr2
  clear hb hr2 HS
  by_cases hneg : r < 0
  · go_wp2_with fail
    go_ret
    exact ⟨rfl, B1.out⟩
  have g0 := (HR.out (by omega)).1
  have Z0 : Hid (∀ p ∈ x0, p.t.size ≤ 1048576) := fun p hp => (HR.out (by omega)).2 _ (List.mem_map.2 ⟨p, hp, rfl⟩)
  go_wp2_with fail
  refine (toPlacedS_any a0 n0 c0 x0 _ (R0.out.below B1.out) g0).mono ?_
  rintro e w2 ⟨Aa, da, rfl, ho, hb⟩
  have Oa := Lib.hid ho; clear ho
  have B2 := Lib.hid hb; clear hb
  go_wp2_with fail
  refine (specOverlaps_any Aa n0 da x0 _ pw ph (Rd.own Oa.out) g0 Z0.out).mono ?_
  rintro e w3 ⟨is, ks, bs, rfl, hs, hb⟩
  have Ss := Lib.hid hs; clear hs
  have B3 := Lib.hid hb; clear hb
  go_wp2_with fail
  refine (toPlacedS_any a0 n0 c0 x0 _ (((R0.out.below B1.out).below B2.out).below B3.out) g0).mono ?_
  rintro e w4 ⟨Ax, dx, rfl, ho, hb⟩
  have Ox := Lib.hid ho; clear ho
  have B4 := Lib.hid hb; clear hb
  go_wp2_with fail
  refine (implOverlaps_any Ax n0 dx x0 _ pw ph (Rd.own Ox.out) g0 Z0.out).mono ?_
  rintro e w5 ⟨ig, kg, bg, rfl, hs, hb⟩
  have Sg := Lib.hid hs; clear hs
  have B5 := Lib.hid hb; clear hb
  obtain ⟨rfl, rfl, rfl⟩ := OvSays.uniq Sg.out Ss.out
  go_wp2_with fail
  refine (toPlacedS_any a0 n0 c0 x0 _ (((((R0.out.below B1.out).below B2.out).below B3.out).below B4.out).below B5.out) g0).mono ?_
  rintro e w6 ⟨Au, du, rfl, ho, hb⟩
  have Ou := Lib.hid ho; clear ho
  have B6 := Lib.hid hb; clear hb
  go_wp2_with fail
  refine (eqPlacedS_any Ax Au n0 n0 dx du x0 x0 _ (Rd.own (own_below (own_below Ox.out B5.out) B6.out)) (Rd.own Ou.out) g0 g0).mono ?_
  rintro e w7 ⟨rfl, hb⟩
  have B7 := Lib.hid hb; clear hb
  go_wp2_with fail
  go_ret
  exact ⟨rfl, (below_step (below_step (below_step (below_step (below_step (below_step (below_step (Below.refl _ _) B1.out) B2.out) B3.out) B4.out) B5.out) B6.out) B7.out)⟩
end Go.Proofs.Ytigcbnehcofbcaa
