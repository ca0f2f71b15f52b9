/-
  The walks of FnExactValidOutline and FnExactParentOf: the program and the reference come to the same plain function.
-/
import Derived.Test.YtdgmienljhaipaaOutline2
namespace Go.Proofs.Ytdgmienljhaipaa
open Go.RowKit
set_option linter.unusedVariables false

set_option maxHeartbeats 1000000 in
theorem FnExactValidOutline_walk (w : World) (a0 : Option Addr) (n0 c0 : Nat) (x0 : List Int) (h0 : InNums .i64 w a0 n0 c0 x0) :
    Calls Try.prog 3 #[.slice a0 n0 c0] w fun e w' => e = .returned (.bool true) ∧ Below w.heap.size w w' := by
  have R0 := Lib.hid h0.rd
  clear h0
  by_cases g0 : n0 ≤ 1048576
  case neg =>
    go_enter Try.func3, Try.ntmps3
    go_wp2
    go_ret
    exact ⟨rfl, Below.refl _ _⟩
  go_enter Try.func3, Try.ntmps3
  go_wp2_with fail
  refine (toIntS_any a0 n0 c0 x0 _ R0.out g0).mono ?_
  rintro e w1 ⟨Aa, da, rfl, ho, hb⟩
  have Oa := Lib.hid ho; clear ho
  have B1 := Lib.hid hb; clear hb
  go_wp2_with fail
  refine (specValidOutline_any Aa n0 da x0 _ (Rd.own Oa.out) g0).mono ?_
  rintro e w' ⟨rfl, rfl⟩
  go_wp2_with fail
  refine (toIntS_any a0 n0 c0 x0 _ (R0.out.below B1.out) g0).mono ?_
  rintro e w2 ⟨Ax, dx, rfl, ho, hb⟩
  have Ox := Lib.hid ho; clear ho
  have B2 := Lib.hid hb; clear hb
  go_wp2_with fail
  refine (implOutline_any Ax n0 dx x0 _ (Rd.own Ox.out) g0).mono ?_
  rintro e w' ⟨rfl, rfl⟩
  go_wp2_with fail
  refine (toIntS_any a0 n0 c0 x0 _ ((R0.out.below B1.out).below B2.out) g0).mono ?_
  rintro e w3 ⟨Au, du, rfl, ho, hb⟩
  have Ou := Lib.hid ho; clear ho
  have B3 := Lib.hid hb; clear hb
  go_wp2_with fail
  refine (eqIntS_any Ax Au n0 n0 dx du x0 x0 _ (Rd.own (own_below Ox.out B3.out)) (Rd.own Ou.out) g0 g0).mono ?_
  rintro e w4 ⟨rfl, hb⟩
  have B4 := Lib.hid (below_of_drew (B := w3.heap.size) hb); clear hb
  go_wp2_with fail
  go_ret
  exact ⟨rfl, (below_step (below_step (below_step (below_step (Below.refl _ _) B1.out) B2.out) B3.out) B4.out)⟩

set_option maxHeartbeats 1000000 in
theorem FnExactParentOf_walk (w : World) (a0 : Option Addr) (n0 c0 : Nat) (x0 : List Int) (h0 : InNums .i64 w a0 n0 c0 x0) (i0 : Int) (_ : (Lit.int .i64 i0).wf = true) :
    Calls Try.prog 4 #[.slice a0 n0 c0, .int .i64 i0] w fun e w' => e = .returned (.bool true) ∧ Below w.heap.size w w' := by
  have R0 := Lib.hid h0.rd
  clear h0
  by_cases g0 : n0 ≤ 1048576
  case neg =>
    go_enter Try.func4, Try.ntmps4
    go_wp2
    go_ret
    exact ⟨rfl, Below.refl _ _⟩
  go_enter Try.func4, Try.ntmps4
  go_wp2_with fail
  refine (toIntS_any a0 n0 c0 x0 _ R0.out g0).mono ?_
  rintro e w1 ⟨Aa, da, rfl, ho, hb⟩
  have Oa := Lib.hid ho; clear ho
  have B1 := Lib.hid hb; clear hb
  go_wp2_with fail
  refine (specParentOf_any Aa n0 da x0 _ (Rd.own Oa.out) i0 g0).mono ?_
  rintro e w2 ⟨rfl, hb⟩
  have B2 := Lib.hid (below_of_drew (B := w1.heap.size) hb); clear hb
  go_wp2_with fail
  refine (toIntS_any a0 n0 c0 x0 _ ((R0.out.below B1.out).below B2.out) g0).mono ?_
  rintro e w3 ⟨Ax, dx, rfl, ho, hb⟩
  have Ox := Lib.hid ho; clear ho
  have B3 := Lib.hid hb; clear hb
  go_wp2_with fail
  refine (implParent_any Ax n0 dx x0 _ (Rd.own Ox.out) i0 g0).mono ?_
  rintro e w4 ⟨rfl, hb⟩
  have B4 := Lib.hid (below_of_drew (B := w3.heap.size) hb); clear hb
  go_wp2_with fail
  refine (toIntS_any a0 n0 c0 x0 _ ((((R0.out.below B1.out).below B2.out).below B3.out).below B4.out) g0).mono ?_
  rintro e w5 ⟨Au, du, rfl, ho, hb⟩
  have Ou := Lib.hid ho; clear ho
  have B5 := Lib.hid hb; clear hb
  go_wp2_with fail
  refine (eqIntS_any Ax Au n0 n0 dx du x0 x0 _ (Rd.own (own_below (own_below Ox.out B4.out) B5.out)) (Rd.own Ou.out) g0 g0).mono ?_
  rintro e w6 ⟨rfl, hb⟩
  have B6 := Lib.hid (below_of_drew (B := w5.heap.size) hb); clear hb
  go_wp2_with fail
  go_ret
  exact ⟨rfl, (below_step (below_step (below_step (below_step (below_step (below_step (Below.refl _ _) B1.out) B2.out) B3.out) B4.out) B5.out) B6.out)⟩
end Go.Proofs.Ytdgmienljhaipaa
