/-
  The walk of FnExactFirstChange: the program and the reference find the same first changed line.
-/
import Derived.Test.YtjkmjgjpkneckaaFitChange
import Derived.Test.YtjkmjgjpkneckaaOpenItems
namespace Go.Proofs.Ytjkmjgjpkneckaa
open Go.RowKit
set_option linter.unusedVariables false

set_option maxHeartbeats 1000000 in
theorem FnExactFirstChange_walk (w : World) (a0 : Option Addr) (n0 c0 : Nat) (x0 : List It) (h0 : InItems w a0 n0 c0 x0) (a1 : Option Addr) (n1 c1 : Nat) (x1 : List It) (h1 : InItems w a1 n1 c1 x1) (wd : Int) (_ : (Lit.int .i64 wd).wf = true) :
    Calls Try.prog 10 #[.slice a0 n0 c0, .slice a1 n1 c1, .int .i64 wd] w fun e w' => e = .returned (.bool true) ∧ Below w.heap.size w w' := by
  obtain ⟨hr, _, hc1, hc2⟩ := h0
  obtain ⟨hr', _, hc3, hc4⟩ := h1
  unfold maxLen at hc2 hc4
  have R0 := Lib.hid hr
  have R1 := Lib.hid hr'
  clear hr hr'
  have HS := Lib.hid (szItemS_any a0 n0 c0 w 1048576 (by omega) (by omega) (by omega))
  by_cases g0 : (1048576 : Int) < n0
  · rw [if_pos g0] at HS
    go_enter Try.func10, Try.ntmps10
    go_wp2_with (go_at_call 19; refine HS.out.mono ?_; rintro e w' ⟨rfl, rfl⟩)
    go_ret
    exact ⟨rfl, Below.refl _ _⟩
  rw [if_neg g0] at HS
  have HT := Lib.hid (szItemS_any a1 n1 c1 w (1048576 - n0) (by omega) (by omega) (by omega))
  have hn0 : ¬ (1048576 : Int) - n0 < 0 := by omega
  by_cases g1 : (1048576 : Int) - n0 < n1
  · rw [if_pos g1] at HT
    go_enter Try.func10, Try.ntmps10
    go_wp2_with fail
    refine HS.out.mono ?_
    rintro e w' ⟨rfl, rfl⟩
    go_wp2_with (go_at_call 19; refine HT.out.mono ?_; rintro e w' ⟨rfl, rfl⟩)
    go_ret
    exact ⟨rfl, Below.refl _ _⟩
  rw [if_neg g1] at HT
  have hn1 : ¬ (1048576 : Int) - n0 - n1 < 0 := by omega
  have hm0 : n0 ≤ 1048576 := by omega
  have hm1 : n1 ≤ 1048576 := by omega
  go_enter Try.func10, Try.ntmps10
  go_wp2_with fail
  refine HS.out.mono ?_
  rintro e w' ⟨rfl, rfl⟩
  go_wp2_with fail
  refine HT.out.mono ?_
  rintro e w' ⟨rfl, rfl⟩
  go_wp2_with fail
  refine (toItemS_any a0 n0 c0 x0 _ R0.out hm0).mono ?_
  rintro e w1 ⟨Aa, da, rfl, ho, hb⟩
  have Oa := Lib.hid ho; clear ho
  have B1 := Lib.hid hb; clear hb
  go_wp2_with fail
  refine (toItemS_any a1 n1 c1 x1 _ (R1.out.below B1.out) hm1).mono ?_
  rintro e w2 ⟨Ab, db, rfl, ho, hb⟩
  have Ob := Lib.hid ho; clear ho
  have B2 := Lib.hid hb; clear hb
  go_wp2_with fail
  refine (changeSpec_any Aa Ab n0 n1 da db wd x0 x1 _ (Rd.own (own_below Oa.out B2.out)) (Rd.own Ob.out) hm0 hm1).mono ?_
  rintro e w3 ⟨rfl, hb⟩
  have B3 := Lib.hid hb; clear hb
  go_wp2_with fail
  refine (toItemS_any a0 n0 c0 x0 _ (((R0.out.below B1.out).below B2.out).below B3.out) hm0).mono ?_
  rintro e w4 ⟨Ax, dx, rfl, ho, hb⟩
  have Ox := Lib.hid ho; clear ho
  have B4 := Lib.hid hb; clear hb
  go_wp2_with fail
  refine (toItemS_any a1 n1 c1 x1 _ ((((R1.out.below B1.out).below B2.out).below B3.out).below B4.out) hm1).mono ?_
  rintro e w5 ⟨Ay, dy, rfl, ho, hb⟩
  have Oy := Lib.hid ho; clear ho
  have B5 := Lib.hid hb; clear hb
  have hdx := own_slice0 Ox.out
  have hdy := own_slice0 Oy.out
  go_wp2_with fail
  refine (changeImpl_any Ax Ay n0 n1 dx dy wd x0 x1 _ (Rd.own (own_below Ox.out B5.out)) (Rd.own Oy.out) hm0 hm1 hdx hdy).mono ?_
  rintro e w6 ⟨rfl, hb⟩
  have B6 := Lib.hid hb; clear hb
  go_wp2_with fail
  refine (toItemS_any a0 n0 c0 x0 _ ((((((R0.out.below B1.out).below B2.out).below B3.out).below B4.out).below B5.out).below B6.out) hm0).mono ?_
  rintro e w7 ⟨Au, du, rfl, ho, hb⟩
  have Ou := Lib.hid ho; clear ho
  have B7 := Lib.hid hb; clear hb
  go_wp2_with fail
  refine (eqItemS_any Ax Au n0 n0 dx du x0 x0 _ (Rd.own (own_below (own_below (own_below Ox.out B5.out) B6.out) B7.out)) (Rd.own Ou.out) hm0 hm0).mono ?_
  rintro e w8 ⟨rfl, hb⟩
  have B8 := Lib.hid hb; clear hb
  go_wp2_with fail
  refine (toItemS_any a1 n1 c1 x1 _ ((((((((R1.out.below B1.out).below B2.out).below B3.out).below B4.out).below B5.out).below B6.out).below B7.out).below B8.out) hm1).mono ?_
  rintro e w9 ⟨Av, dv, rfl, ho, hb⟩
  have Ov := Lib.hid ho; clear ho
  have B9 := Lib.hid hb; clear hb
  go_wp2_with fail
  refine (eqItemS_any Ay Av n1 n1 dy dv x1 x1 _ (Rd.own (own_below (own_below (own_below (own_below Oy.out B6.out) B7.out) B8.out) B9.out)) (Rd.own Ov.out) hm1 hm1).mono ?_
  rintro e w10 ⟨rfl, hb⟩
  have B10 := Lib.hid hb; clear hb
  go_wp2_with fail
  go_ret
  exact ⟨rfl, (below_step (below_step (below_step (below_step (below_step (below_step (below_step (below_step (below_step (below_step (Below.refl _ _) B1.out) B2.out) B3.out) B4.out) B5.out) B6.out) B7.out) B8.out) B9.out) B10.out)⟩
end Go.Proofs.Ytjkmjgjpkneckaa
