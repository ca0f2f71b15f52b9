/-
  The walk of FnExactKeptLines: the program's KeptLines and the reference's both count what two lists have in common.
-/
import Derived.Test.YtjkmjgjpkneckaaInts
namespace Go.Proofs.Ytjkmjgjpkneckaa
open Go.RowKit
set_option linter.unusedVariables false

set_option maxHeartbeats 1000000 in
theorem FnExactKeptLines_walk (w : World) (a0 : Option Addr) (n0 c0 : Nat) (x0 : List Int) (h0 : InNums .i64 w a0 n0 c0 x0) (a1 : Option Addr) (n1 c1 : Nat) (x1 : List Int) (h1 : InNums .i64 w a1 n1 c1 x1) :
    Calls Try.prog 3 #[.slice a0 n0 c0, .slice a1 n1 c1] w fun e w' => e = .returned (.bool true) ∧ Below w.heap.size w w' := by
  have R0 := Lib.hid h0.rd
  have R1 := Lib.hid h1.rd
  clear h0 h1
  by_cases g0 : n0 ≤ 1048576
  case neg =>
    go_enter Try.func3, Try.ntmps3
    go_wp2
    go_ret
    exact ⟨rfl, Below.refl _ _⟩
  by_cases g1 : n1 ≤ 1048576
  case neg =>
    go_enter Try.func3, Try.ntmps3
    go_wp2
    go_ret
    exact ⟨rfl, Below.refl _ _⟩
  go_enter Try.func3, Try.ntmps3
  go_wp2_with fail
  refine (toIntS_any a0 n0 c0 x0 _ R0.out g0).mono ?_
  rintro e w1 ⟨Aa, da, rfl, ho, hb⟩
  have Oa := Lib.hid ho; clear ho
  have B1 := Lib.hid hb; clear hb
  go_wp2_with fail
  refine (toIntS_any a1 n1 c1 x1 _ (R1.out.below B1.out) g1).mono ?_
  rintro e w2 ⟨Ab, db, rfl, ho, hb⟩
  have Ob := Lib.hid ho; clear ho
  have B2 := Lib.hid hb; clear hb
  go_wp2_with fail
  refine (keptSpec_any Aa Ab n0 n1 da db x0 x1 _ (Rd.own (own_below Oa.out B2.out)) (Rd.own Ob.out) g0 g1).mono ?_
  rintro e _ ⟨rfl, q3, rfl⟩
  go_wp2_with fail
  refine (toIntS_any a0 n0 c0 x0 _ (((R0.out.below B1.out).below B2.out).drewN q3) g0).mono ?_
  rintro e w4 ⟨Ax, dx, rfl, ho, hb⟩
  have Ox := Lib.hid ho; clear ho
  have B4 := Lib.hid hb; clear hb
  go_wp2_with fail
  refine (toIntS_any a1 n1 c1 x1 _ ((((R1.out.below B1.out).below B2.out).drewN q3).below B4.out) g1).mono ?_
  rintro e w5 ⟨Ay, dy, rfl, ho, hb⟩
  have Oy := Lib.hid ho; clear ho
  have B5 := Lib.hid hb; clear hb
  go_wp2_with fail
  refine (implKept_any Ax Ay n0 n1 dx dy x0 x1 _ (Rd.own (own_below Ox.out B5.out)) (Rd.own Oy.out) g0 g1).mono ?_
  rintro e _ ⟨rfl, q6, rfl⟩
  go_wp2_with fail
  refine (toIntS_any a0 n0 c0 x0 _ ((((((R0.out.below B1.out).below B2.out).drewN q3).below B4.out).below B5.out).drewN q6) g0).mono ?_
  rintro e w7 ⟨Au, du, rfl, ho, hb⟩
  have Ou := Lib.hid ho; clear ho
  have B7 := Lib.hid hb; clear hb
  go_wp2_with fail
  refine (eqIntS_any Ax Au n0 n0 dx du x0 x0 _ (Rd.own (own_below (own_drewN (own_below Ox.out B5.out) q6) B7.out)) (Rd.own Ou.out) g0 g0).mono ?_
  rintro e _ ⟨rfl, q8, rfl⟩
  go_wp2_with fail
  refine (toIntS_any a1 n1 c1 x1 _ ((((((((R1.out.below B1.out).below B2.out).drewN q3).below B4.out).below B5.out).drewN q6).below B7.out).drewN q8) g1).mono ?_
  rintro e w9 ⟨Av, dv, rfl, ho, hb⟩
  have Ov := Lib.hid ho; clear ho
  have B9 := Lib.hid hb; clear hb
  go_wp2_with fail
  refine (eqIntS_any Ay Av n1 n1 dy dv x1 x1 _ (Rd.own (own_below (own_drewN (own_below (own_drewN Oy.out q6) B7.out) q8) B9.out)) (Rd.own Ov.out) g1 g1).mono ?_
  rintro e _ ⟨rfl, q10, rfl⟩
  go_wp2_with fail
  go_ret
  exact ⟨rfl, (below_drewN' (below_step (below_drewN' (below_step (below_drewN' (below_step (below_step (below_drewN' (below_step (below_step (Below.refl _ _) B1.out) B2.out) q3) B4.out) B5.out) q6) B7.out) q8) B9.out) q10)⟩
end Go.Proofs.Ytjkmjgjpkneckaa
