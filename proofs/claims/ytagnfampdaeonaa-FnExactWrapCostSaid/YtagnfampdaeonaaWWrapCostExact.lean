/-
  The walk of FnExactWrapCost: the program and the reference reckon the same sum of given lines.
-/
import Derived.Test.YtagnfampdaeonaaWrapCost
import Derived.Test.YtagnfampdaeonaaInts
namespace Go.Proofs.Ytagnfampdaeonaa
open Go.RowKit
set_option linter.unusedVariables false

set_option maxHeartbeats 2000000 in
theorem FnExactWrapCost_walk (w : World) (a0 : Option Addr) (n0 c0 : Nat) (x0 : List ByteArray) (h0 : InStrs w a0 n0 c0 x0) (wd : Int) (_ : (Lit.int .i64 wd).wf = true) (a2 : Option Addr) (n2 c2 : Nat) (x2 : List Int) (h2 : InNums .i64 w a2 n2 c2 x2) :
    Calls Try.prog 3 #[.slice a0 n0 c0, .int .i64 wd, .slice a2 n2 c2] w fun e w' => e = .returned (.bool true) ∧ Below w.heap.size w w' := by
  obtain ⟨hr, hz, hc1, hc2⟩ := h0
  have hr2 := h2.rd
  obtain ⟨_, _, hc3, hc4⟩ := h2
  unfold maxLen at hc2 hz hc4
  have R0 := Lib.hid hr
  have R2 := Lib.hid hr2
  have HS := Lib.hid (szStringS_any a0 n0 c0 x0 w 1048576 hr (by omega) (fun s hs => by have := hz s hs; omega) (by omega) (by omega))
  clear hr hz hr2
  by_cases g2 : n2 ≤ 1048576
  case neg =>
    have g2' : (1048576 : Int) < (n2 : Int) := by omega
    go_enter Try.func3, Try.ntmps3
    go_wp2_with fail
    go_ret
    exact ⟨rfl, Below.refl _ _⟩
  have g2' : ¬ (1048576 : Int) < (n2 : Int) := by omega
  go_enter Try.func3, Try.ntmps3
  go_wp2_with fail
  refine HS.out.mono ?_
  rintro e w1 ⟨r, rfl, hr2, hb⟩
  have HR := Lib.hid hr2
  clear hr2 HS
  have B1 := Lib.hid (below_of_drew (B := w.heap.size) hb); clear hb
  have z1 : w.heap.size ≤ w1.heap.size := B1.out.size
  have C1 := Lib.hid (below_step (Below.refl w.heap.size w) B1.out)
  by_cases hneg : r < 0
  · go_wp2_with fail
    go_ret
    exact ⟨rfl, B1.out⟩
  have g0 := (HR.out (by omega)).1
  have Z0 : Hid (∀ s ∈ x0, s.size ≤ 9223372036854775807) := fun s hs => by have := (HR.out (by omega)).2 s hs; omega
  go_wp2_with fail
  refine (toStringS_any a0 n0 c0 x0 _ (R0.out.below C1.out) g0).mono ?_
  rintro e w2 ⟨Aa, da, rfl, ho, hb⟩
  have Oa := Lib.hid ho; clear ho
  have B2 := Lib.hid hb; clear hb
  have z2 : w1.heap.size ≤ w2.heap.size := B2.out.size
  have C2 := Lib.hid (below_step C1.out B2.out)
  have la := own_le Oa.out
  go_wp2_with fail
  refine (toIntS_any a2 n2 c2 x2 _ (R2.out.below C2.out) g2).mono ?_
  rintro e w3 ⟨Ab, db, rfl, ho, hb⟩
  have Ob := Lib.hid ho; clear ho
  have B3 := Lib.hid hb; clear hb
  have z3 : w2.heap.size ≤ w3.heap.size := B3.out.size
  have C3 := Lib.hid (below_step C2.out B3.out)
  go_wp2_with fail
  refine (specCost_any Aa n0 da x0 wd Ab n2 db x2 _ (Rd.own (own_below Oa.out B3.out)) (Rd.own Ob.out) g0 g2 la Z0.out).mono ?_
  rintro e w4 ⟨rfl, hb⟩
  have B4 := Lib.hid (below_of_drew (B := w3.heap.size) hb); clear hb
  have z4 : w3.heap.size ≤ w4.heap.size := B4.out.size
  have C4 := Lib.hid (below_step C3.out B4.out)
  go_wp2_with fail
  refine (toStringS_any a0 n0 c0 x0 _ (R0.out.below C4.out) g0).mono ?_
  rintro e w5 ⟨Ax, dx, rfl, ho, hb⟩
  have Ox := Lib.hid ho; clear ho
  have B5 := Lib.hid hb; clear hb
  have z5 : w4.heap.size ≤ w5.heap.size := B5.out.size
  have C5 := Lib.hid (below_step C4.out B5.out)
  have lx := own_le Ox.out
  go_wp2_with fail
  refine (toIntS_any a2 n2 c2 x2 _ (R2.out.below C5.out) g2).mono ?_
  rintro e w6 ⟨Ay, dy, rfl, ho, hb⟩
  have Oy := Lib.hid ho; clear ho
  have B6 := Lib.hid hb; clear hb
  have z6 : w5.heap.size ≤ w6.heap.size := B6.out.size
  have C6 := Lib.hid (below_step C5.out B6.out)
  go_wp2_with fail
  refine (implCost_any Ax n0 dx x0 wd Ay n2 dy x2 _ (Rd.own (own_below Ox.out B6.out)) (Rd.own Oy.out) g0 g2 lx Z0.out).mono ?_
  rintro e w7 ⟨rfl, hb⟩
  have B7 := Lib.hid (below_of_drew (B := w6.heap.size) hb); clear hb
  have z7 : w6.heap.size ≤ w7.heap.size := B7.out.size
  have C7 := Lib.hid (below_step C6.out B7.out)
  go_wp2_with fail
  refine (toStringS_any a0 n0 c0 x0 _ (R0.out.below C7.out) g0).mono ?_
  rintro e w8 ⟨Au, du, rfl, ho, hb⟩
  have Ou := Lib.hid ho; clear ho
  have B8 := Lib.hid hb; clear hb
  have z8 : w7.heap.size ≤ w8.heap.size := B8.out.size
  have C8 := Lib.hid (below_step C7.out B8.out)
  go_wp2_with fail
  refine (eqStringS_any Ax Au n0 n0 dx du x0 x0 _ (Rd.own (own_below (own_below (own_below Ox.out B6.out) B7.out) B8.out)) (Rd.own Ou.out) g0 g0).mono ?_
  rintro e w9 ⟨rfl, hb⟩
  have B9 := Lib.hid (below_of_drew (B := w8.heap.size) hb); clear hb
  have z9 : w8.heap.size ≤ w9.heap.size := B9.out.size
  have C9 := Lib.hid (below_step C8.out B9.out)
  go_wp2_with fail
  refine (toIntS_any a2 n2 c2 x2 _ (R2.out.below C9.out) g2).mono ?_
  rintro e w10 ⟨Av, dv, rfl, ho, hb⟩
  have Ov := Lib.hid ho; clear ho
  have B10 := Lib.hid hb; clear hb
  have z10 : w9.heap.size ≤ w10.heap.size := B10.out.size
  have C10 := Lib.hid (below_step C9.out B10.out)
  go_wp2_with fail
  refine (eqIntS_any Ay Av n2 n2 dy dv x2 x2 _ (Rd.own (own_below (own_below (own_below (own_below Oy.out B7.out) B8.out) B9.out) B10.out)) (Rd.own Ov.out) g2 g2).mono ?_
  rintro e w11 ⟨rfl, hb⟩
  have B11 := Lib.hid (below_of_drew (B := w10.heap.size) hb); clear hb
  have z11 : w10.heap.size ≤ w11.heap.size := B11.out.size
  have C11 := Lib.hid (below_step C10.out B11.out)
  go_wp2_with fail
  go_ret
  exact ⟨rfl, C11.out⟩
end Go.Proofs.Ytagnfampdaeonaa
