/-
  The walk of FnExactTrimRows: the program and the reference trim alike, in memory of their own.
-/
import Derived.Test.YtigcbnehcofbcaaDoorTrim
import Derived.Test.YtigcbnehcofbcaaDoorMarkPre
namespace Go.Proofs.YtigcbnehcofbcaaDoor
open Go.RowKit
set_option linter.unusedVariables false

set_option maxHeartbeats 8000000 in
theorem FnExactTrimRows_walk (w : World) (a0 : Option Addr) (n0 c0 : Nat) (x0 : List ByteArray) (h0 : InStrs w a0 n0 c0 x0) :
    Calls Tryd.prog 4 #[.slice a0 n0 c0] w fun e w' => e = .returned (.bool true) ∧ Below w.heap.size w w' := by
  obtain ⟨hr, hz, hc1, hc2⟩ := h0
  unfold maxLen at hc2 hz
  have R0 := Lib.hid hr
  have HS := Lib.hid (szStringS_any a0 n0 c0 x0 w 1048576 hr (by omega) (fun s hs => by have := hz s hs; omega) (by omega) (by omega))
  clear hr hz
  obtain ⟨E, hE⟩ : ∃ E, E = trimT x0 := ⟨_, rfl⟩
  have hEl : E.length ≤ 60 := by rw [hE]; exact trimT_len x0
  have HEq := Lib.hid hE
  clear hE
  go_enter Tryd.func4, Tryd.ntmps4
  go_wp2_with fail
  refine HS.out.mono ?_
  rintro e w1 ⟨r, rfl, hr2, hb⟩
  have HR := Lib.hid hr2
  clear hr2 HS
  have B1 := Lib.hid (below_of_drew (B := w.heap.size) hb); clear hb
  have z1 : w.heap.size ≤ w1.heap.size := B1.out.size
  have C1 := Lib.hid (below_step (Below.refl w.heap.size w) B1.out)
  by_cases hneg : r < 0
  · go_wp2_with fail
    go_ret
    exact ⟨rfl, B1.out⟩
  have g0 := (HR.out (by omega)).1
  have Z0 : Hid (∀ s ∈ x0, s.size ≤ 9223372036854775807) := fun s hs => by have := (HR.out (by omega)).2 s hs; omega
  go_wp2_with fail
  refine (toStringS_any a0 n0 c0 x0 _ (R0.out.below C1.out) g0).mono ?_
  rintro e w2 ⟨Aa, da, rfl, ho, hb⟩
  have Oa := Lib.hid ho; clear ho
  have B2 := Lib.hid hb; clear hb
  have z2 : w1.heap.size ≤ w2.heap.size := B2.out.size
  have C2 := Lib.hid (below_step C1.out B2.out)
  go_wp2_with fail
  refine (specTrim_any Aa n0 da x0 _ (Rd.own Oa.out) g0 Z0.out).mono ?_
  rintro e w3 ⟨Aw, kw, dw, rfl, ho, hb⟩
  rw [← HEq.out] at ho
  have Ow := Lib.hid ho; clear ho
  have B3 := Lib.hid hb; clear hb
  have z3 : w2.heap.size ≤ w3.heap.size := B3.out.size
  have C3 := Lib.hid (below_step C2.out B3.out)
  have mw : kw ≤ 60 := by have h := (Rd.own Ow.out).slen; omega
  go_wp2_with fail
  refine (toStringS_any a0 n0 c0 x0 _ (R0.out.below C3.out) g0).mono ?_
  rintro e w4 ⟨Ax, dx, rfl, ho, hb⟩
  have Ox := Lib.hid ho; clear ho
  have B4 := Lib.hid hb; clear hb
  have z4 : w3.heap.size ≤ w4.heap.size := B4.out.size
  have C4 := Lib.hid (below_step C3.out B4.out)
  go_wp2_with fail
  refine (implTrim_any Ax n0 dx x0 _ (Rd.own Ox.out) g0 Z0.out).mono ?_
  rintro e w5 ⟨Ag, kg, dg, Ng, Cg, yg, rfl, ho, fg, hy, hb⟩
  rw [← HEq.out] at hy
  have Yg := Lib.hid hy; clear hy
  have Og := Lib.hid ho; clear ho
  have B5 := Lib.hid hb; clear hb
  have z5 : w4.heap.size ≤ w5.heap.size := B5.out.size
  have C5 := Lib.hid (below_step C4.out B5.out)
  have lg := (Rd.own Og.out).slen
  have mg : kg ≤ 60 := by have h := (pre_rd Og.out fg Yg.out).slen; omega
  go_wp2_with fail
  refine (eqStringS_any Ag Aw kg kw dg dw E E _ (pre_rd Og.out fg Yg.out) (Rd.own (own_below (own_below Ow.out B4.out) B5.out)) (by omega) (by omega)).mono ?_
  rintro e w6 ⟨rfl, hb⟩
  have B6 := Lib.hid (below_of_drew (B := w5.heap.size) hb); clear hb
  have z6 : w5.heap.size ≤ w6.heap.size := B6.out.size
  have C6 := Lib.hid (below_step C5.out B6.out)
  go_wp2_with fail
  refine (toStringS_any a0 n0 c0 x0 _ (R0.out.below C6.out) g0).mono ?_
  rintro e w7 ⟨Au, du, rfl, ho, hb⟩
  have Ou := Lib.hid ho; clear ho
  have B7 := Lib.hid hb; clear hb
  have z7 : w6.heap.size ≤ w7.heap.size := B7.out.size
  have C7 := Lib.hid (below_step C6.out B7.out)
  go_wp2_with fail
  refine (eqStringS_any Ax Au n0 n0 dx du x0 x0 _ (Rd.own (own_below (own_below (own_below Ox.out B5.out) B6.out) B7.out)) (Rd.own Ou.out) g0 g0).mono ?_
  rintro e w8 ⟨rfl, hb⟩
  have B8 := Lib.hid (below_of_drew (B := w7.heap.size) hb); clear hb
  have z8 : w7.heap.size ≤ w8.heap.size := B8.out.size
  have C8 := Lib.hid (below_step C7.out B8.out)
  have V9 := Lib.hid (own_below (own_below (own_below (own_below Ox.out B5.out) B6.out) B7.out) B8.out)
  go_wp2_with fail
  refine (markStringS_1 _ _ Ax n0 dx x0 V9.out (by omega)).mono ?_
  rintro e w9 ⟨rfl, ho, hg⟩
  have M9 := Lib.hid ho; clear ho
  have G9 := Lib.hid hg; clear hg
  have z9 : w8.heap.size ≤ w9.heap.size := G9.out.size
  have C9 := Lib.hid (Below.grown C8.out G9.out C8.out.size (fun k hk => by have e1 := (V9.out.lt k hk).1; omega))
  have hq0 : ¬ (1 + (n0 : Int)) < 0 := by omega
  go_wp2_with fail
  refine (eqStringS_any Ag Aw kg kw dg dw E E _ (pre_rd (own_apart (own_below (own_below (own_below Og.out B6.out) B7.out) B8.out) V9.out G9.out (fun k h1 h2 => by have e1 := (Ox.out.lt k h2).2; have e2 := (Og.out.lt k h1).1; omega)) fg Yg.out) (Rd.own (own_apart (own_below (own_below (own_below (own_below (own_below Ow.out B4.out) B5.out) B6.out) B7.out) B8.out) V9.out G9.out (fun k h1 h2 => by have e1 := (Ow.out.lt k h1).2; have e2 := (Ox.out.lt k h2).1; omega))) (by omega) (by omega)).mono ?_
  rintro e w10 ⟨rfl, hb⟩
  have B10 := Lib.hid (below_of_drew (B := w9.heap.size) hb); clear hb
  have z10 : w9.heap.size ≤ w10.heap.size := B10.out.size
  have C10 := Lib.hid (below_step C9.out B10.out)
  have V11 := Lib.hid (own_below (own_apart (own_below (own_below (own_below Og.out B6.out) B7.out) B8.out) V9.out G9.out (fun k h1 h2 => by have e1 := (Ox.out.lt k h2).2; have e2 := (Og.out.lt k h1).1; omega)) B10.out)
  go_wp2_with fail
  refine (markPre_1 _ _ Ag Ng Cg kg dg yg V11.out fg (by omega)).mono ?_
  rintro e w11 ⟨rfl, ho, hg⟩
  have M11 := Lib.hid ho; clear ho
  have G11 := Lib.hid hg; clear hg
  have z11 : w10.heap.size ≤ w11.heap.size := G11.out.size
  have C11 := Lib.hid (Below.grown C10.out G11.out C10.out.size (fun k hk => by have e1 := (V11.out.lt k hk).1; omega))
  have hq1 : ¬ (1 + (kg : Int)) < 0 := by omega
  have hq2 : ((1 + (kg : Int)) != (1 + (kg : Int))) = false := by simp
  go_wp2_with fail
  refine (heldStringS_1 _ Ag kg dg (pre_rd M11.out fg (pre_marks kg yg)) (by omega)).mono ?_
  rintro e w12 ⟨rfl, hb⟩
  have B12 := Lib.hid hb; clear hb
  have z12 : w11.heap.size ≤ w12.heap.size := B12.out.size
  have C12 := Lib.hid (below_step C11.out B12.out)
  go_wp2_with fail
  refine (toStringS_any a0 n0 c0 x0 _ (R0.out.below C12.out) g0).mono ?_
  rintro e w13 ⟨At, dt, rfl, ho, hb⟩
  have Ot := Lib.hid ho; clear ho
  have B13 := Lib.hid hb; clear hb
  have z13 : w12.heap.size ≤ w13.heap.size := B13.out.size
  have C13 := Lib.hid (below_step C12.out B13.out)
  go_wp2_with fail
  refine (implTrim_any At n0 dt x0 _ (Rd.own Ot.out) g0 Z0.out).mono ?_
  rintro e w14 ⟨Ah, kh, dh, Nh, Ch, yh, rfl, ho, fh, hy, hb⟩
  rw [← HEq.out] at hy
  have Yh := Lib.hid hy; clear hy
  have Oh := Lib.hid ho; clear ho
  have B14 := Lib.hid hb; clear hb
  have z14 : w13.heap.size ≤ w14.heap.size := B14.out.size
  have C14 := Lib.hid (below_step C13.out B14.out)
  have lh := (Rd.own Oh.out).slen
  have mh : kh ≤ 60 := by have h := (pre_rd Oh.out fh Yh.out).slen; omega
  go_wp2_with fail
  refine (eqStringS_any Ah Aw kh kw dh dw E E _ (pre_rd Oh.out fh Yh.out) (Rd.own (own_below (own_below (own_below (own_apart (own_below (own_apart (own_below (own_below (own_below (own_below (own_below Ow.out B4.out) B5.out) B6.out) B7.out) B8.out) V9.out G9.out (fun k h1 h2 => by have e1 := (Ow.out.lt k h1).2; have e2 := (Ox.out.lt k h2).1; omega)) B10.out) V11.out G11.out (fun k h1 h2 => by have e1 := (Ow.out.lt k h1).2; have e2 := (Og.out.lt k h2).1; omega)) B12.out) B13.out) B14.out)) (by omega) (by omega)).mono ?_
  rintro e w15 ⟨rfl, hb⟩
  have B15 := Lib.hid (below_of_drew (B := w14.heap.size) hb); clear hb
  have z15 : w14.heap.size ≤ w15.heap.size := B15.out.size
  have C15 := Lib.hid (below_step C14.out B15.out)
  go_wp2_with fail
  refine (heldStringS_1 _ Ag kg dg (pre_rd (own_below (own_below (own_below (own_below M11.out B12.out) B13.out) B14.out) B15.out) fg (pre_marks kg yg)) (by omega)).mono ?_
  rintro e w16 ⟨rfl, hb⟩
  have B16 := Lib.hid hb; clear hb
  have z16 : w15.heap.size ≤ w16.heap.size := B16.out.size
  have C16 := Lib.hid (below_step C15.out B16.out)
  go_wp2_with fail
  go_ret
  exact ⟨rfl, C16.out⟩
end Go.Proofs.YtigcbnehcofbcaaDoor
