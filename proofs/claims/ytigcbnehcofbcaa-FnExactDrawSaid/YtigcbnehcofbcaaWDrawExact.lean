/-
  The walk of FnExactDraw: the program and the reference draw the same rows, in memory of their own.
-/
import Derived.Test.YtigcbnehcofbcaaDrawRef
import Derived.Test.YtigcbnehcofbcaaMarkPl
import Derived.Test.YtigcbnehcofbcaaOpenPlaced
namespace Go.Proofs.Ytigcbnehcofbcaa
open Go.RowKit
set_option linter.unusedVariables false

set_option maxHeartbeats 8000000 in
theorem FnExactDraw_walk (w : World) (a0 : Option Addr) (n0 c0 : Nat) (x0 : List Pl) (h0 : InPlaceds w a0 n0 c0 x0) (pw : Int) (_ : (Lit.int .i64 pw).wf = true) (ph : Int) (_ : (Lit.int .i64 ph).wf = true) :
    Calls Try.prog 9 #[.slice a0 n0 c0, .int .i64 pw, .int .i64 ph] w fun e w' => e = .returned (.bool true) ∧ Below w.heap.size w w' := by
  obtain ⟨hr, hz, hc1, hc2⟩ := h0
  unfold maxLen at hc2
  have R0 := Lib.hid hr
  have HS := Lib.hid (szPlacedS_any a0 n0 c0 x0 w 1048576 hr (by omega) hz (by omega) (by omega))
  clear hr hz
  obtain ⟨E, hE⟩ : ∃ E, E = drawP x0 pw ph := ⟨_, rfl⟩
  have hEl : E.length ≤ 60 := by rw [hE]; exact drawP_bound.1
  have HEq := Lib.hid hE
  clear hE
  go_enter Try.func9, Try.ntmps9
  go_wp2_with fail
  refine HS.out.mono ?_
  rintro e w1 ⟨r, rfl, hr1, hr2, hb⟩
  have HR := Lib.hid hr2
  clear hr2 HS
  have B1 := Lib.hid hb; clear hb
  have z1 : w.heap.size ≤ w1.heap.size := B1.out.size
  have C1 := Lib.hid (below_step (Below.refl w.heap.size w) B1.out)
  by_cases hneg : r < 0
  · go_wp2_with fail
    go_ret
    exact ⟨rfl, B1.out⟩
  have g0 := (HR.out (by omega)).1
  have Z0 : Hid (∀ p ∈ x0, p.t.size ≤ 1048576) := fun p hp => (HR.out (by omega)).2 _ (List.mem_map.2 ⟨p, hp, rfl⟩)
  go_wp2_with fail
  refine (toPlacedS_any a0 n0 c0 x0 _ (R0.out.below C1.out) g0).mono ?_
  rintro e w2 ⟨Aa, da, rfl, ho, hb⟩
  have Oa := Lib.hid ho; clear ho
  have B2 := Lib.hid hb; clear hb
  have z2 : w1.heap.size ≤ w2.heap.size := B2.out.size
  have C2 := Lib.hid (below_step C1.out B2.out)
  go_wp2_with fail
  refine (specDraw_any Aa n0 da x0 pw ph _ (Rd.own Oa.out) g0 Z0.out).mono ?_
  rintro e w3 ⟨Aw, kw, dw, rfl, ho, hb⟩
  rw [← HEq.out] at ho
  have Ow := Lib.hid ho; clear ho
  have B3 := Lib.hid hb; clear hb
  have z3 : w2.heap.size ≤ w3.heap.size := B3.out.size
  have C3 := Lib.hid (below_step C2.out B3.out)
  have mw : kw ≤ 60 := by have h := (Rd.own Ow.out).slen; omega
  go_wp2_with fail
  refine (toPlacedS_any a0 n0 c0 x0 _ (R0.out.below C3.out) g0).mono ?_
  rintro e w4 ⟨Ax, dx, rfl, ho, hb⟩
  have Ox := Lib.hid ho; clear ho
  have B4 := Lib.hid hb; clear hb
  have z4 : w3.heap.size ≤ w4.heap.size := B4.out.size
  have C4 := Lib.hid (below_step C3.out B4.out)
  go_wp2_with fail
  refine (implDraw_any Ax n0 dx x0 pw ph _ (Rd.own Ox.out) g0 Z0.out).mono ?_
  rintro e w5 ⟨Ag, kg, dg, rfl, ho, hb⟩
  rw [← HEq.out] at ho
  have Og := Lib.hid ho; clear ho
  have B5 := Lib.hid hb; clear hb
  have z5 : w4.heap.size ≤ w5.heap.size := B5.out.size
  have C5 := Lib.hid (below_step C4.out B5.out)
  have mg : kg ≤ 60 := by have h := (Rd.own Og.out).slen; omega
  go_wp2_with fail
  refine (eqStringS_any Ag Aw kg kw dg dw E E _ (Rd.own Og.out) (Rd.own (own_below (own_below Ow.out B4.out) B5.out)) (by omega) (by omega)).mono ?_
  rintro e w6 ⟨rfl, hb⟩
  have B6 := Lib.hid (below_of_drew (B := w5.heap.size) hb); clear hb
  have z6 : w5.heap.size ≤ w6.heap.size := B6.out.size
  have C6 := Lib.hid (below_step C5.out B6.out)
  go_wp2_with fail
  refine (toPlacedS_any a0 n0 c0 x0 _ (R0.out.below C6.out) g0).mono ?_
  rintro e w7 ⟨Au, du, rfl, ho, hb⟩
  have Ou := Lib.hid ho; clear ho
  have B7 := Lib.hid hb; clear hb
  have z7 : w6.heap.size ≤ w7.heap.size := B7.out.size
  have C7 := Lib.hid (below_step C6.out B7.out)
  go_wp2_with fail
  refine (eqPlacedS_any Ax Au n0 n0 dx du x0 x0 _ (Rd.own (own_below (own_below (own_below Ox.out B5.out) B6.out) B7.out)) (Rd.own Ou.out) g0 g0).mono ?_
  rintro e w8 ⟨rfl, hb⟩
  have B8 := Lib.hid hb; clear hb
  have z8 : w7.heap.size ≤ w8.heap.size := B8.out.size
  have C8 := Lib.hid (below_step C7.out B8.out)
  have V9 := Lib.hid (own_below (own_below (own_below (own_below Ox.out B5.out) B6.out) B7.out) B8.out)
  go_wp2_with fail
  refine (markPlacedS_1 _ _ Ax n0 dx x0 V9.out g0).mono ?_
  rintro e w9 ⟨rfl, ho, hg⟩
  have M9 := Lib.hid ho; clear ho
  have G9 := Lib.hid hg; clear hg
  have z9 : w8.heap.size ≤ w9.heap.size := G9.out.size
  have C9 := Lib.hid (Below.grown C8.out G9.out C8.out.size (fun k hk => by have e1 := (V9.out.lt k hk).1; omega))
  have hq0 : ¬ (1 + 3 * (n0 : Int)) < 0 := by omega
  go_wp2_with fail
  refine (eqStringS_any Ag Aw kg kw dg dw E E _ (Rd.own (own_apart (own_below (own_below (own_below Og.out B6.out) B7.out) B8.out) V9.out G9.out (fun k h1 h2 => by have e1 := (Ox.out.lt k h2).2; have e2 := (Og.out.lt k h1).1; omega))) (Rd.own (own_apart (own_below (own_below (own_below (own_below (own_below Ow.out B4.out) B5.out) B6.out) B7.out) B8.out) V9.out G9.out (fun k h1 h2 => by have e1 := (Ow.out.lt k h1).2; have e2 := (Ox.out.lt k h2).1; omega))) (by omega) (by omega)).mono ?_
  rintro e w10 ⟨rfl, hb⟩
  have B10 := Lib.hid (below_of_drew (B := w9.heap.size) hb); clear hb
  have z10 : w9.heap.size ≤ w10.heap.size := B10.out.size
  have C10 := Lib.hid (below_step C9.out B10.out)
  have V11 := Lib.hid (own_below (own_apart (own_below (own_below (own_below Og.out B6.out) B7.out) B8.out) V9.out G9.out (fun k h1 h2 => by have e1 := (Ox.out.lt k h2).2; have e2 := (Og.out.lt k h1).1; omega)) B10.out)
  go_wp2_with fail
  refine (markStringS_1 _ _ Ag kg dg E V11.out (by omega)).mono ?_
  rintro e w11 ⟨rfl, ho, hg⟩
  have M11 := Lib.hid ho; clear ho
  have G11 := Lib.hid hg; clear hg
  have z11 : w10.heap.size ≤ w11.heap.size := G11.out.size
  have C11 := Lib.hid (Below.grown C10.out G11.out C10.out.size (fun k hk => by have e1 := (V11.out.lt k hk).1; omega))
  have hq1 : ¬ (1 + (kg : Int)) < 0 := by omega
  have hq2 : ((1 + (kg : Int)) != (1 + (kg : Int))) = false := by simp
  go_wp2_with fail
  refine (heldStringS_1 _ Ag kg dg (Rd.own M11.out) (by omega)).mono ?_
  rintro e w12 ⟨rfl, hb⟩
  have B12 := Lib.hid hb; clear hb
  have z12 : w11.heap.size ≤ w12.heap.size := B12.out.size
  have C12 := Lib.hid (below_step C11.out B12.out)
  go_wp2_with fail
  refine (toPlacedS_any a0 n0 c0 x0 _ (R0.out.below C12.out) g0).mono ?_
  rintro e w13 ⟨At, dt, rfl, ho, hb⟩
  have Ot := Lib.hid ho; clear ho
  have B13 := Lib.hid hb; clear hb
  have z13 : w12.heap.size ≤ w13.heap.size := B13.out.size
  have C13 := Lib.hid (below_step C12.out B13.out)
  go_wp2_with fail
  refine (implDraw_any At n0 dt x0 pw ph _ (Rd.own Ot.out) g0 Z0.out).mono ?_
  rintro e w14 ⟨Ah, kh, dh, rfl, ho, hb⟩
  rw [← HEq.out] at ho
  have Oh := Lib.hid ho; clear ho
  have B14 := Lib.hid hb; clear hb
  have z14 : w13.heap.size ≤ w14.heap.size := B14.out.size
  have C14 := Lib.hid (below_step C13.out B14.out)
  have mh : kh ≤ 60 := by have h := (Rd.own Oh.out).slen; omega
  go_wp2_with fail
  refine (eqStringS_any Ah Aw kh kw dh dw E E _ (Rd.own Oh.out) (Rd.own (own_below (own_below (own_below (own_apart (own_below (own_apart (own_below (own_below (own_below (own_below (own_below Ow.out B4.out) B5.out) B6.out) B7.out) B8.out) V9.out G9.out (fun k h1 h2 => by have e1 := (Ow.out.lt k h1).2; have e2 := (Ox.out.lt k h2).1; omega)) B10.out) V11.out G11.out (fun k h1 h2 => by have e1 := (Ow.out.lt k h1).2; have e2 := (Og.out.lt k h2).1; omega)) B12.out) B13.out) B14.out)) (by omega) (by omega)).mono ?_
  rintro e w15 ⟨rfl, hb⟩
  have B15 := Lib.hid (below_of_drew (B := w14.heap.size) hb); clear hb
  have z15 : w14.heap.size ≤ w15.heap.size := B15.out.size
  have C15 := Lib.hid (below_step C14.out B15.out)
  go_wp2_with fail
  refine (heldStringS_1 _ Ag kg dg (Rd.own (own_below (own_below (own_below (own_below M11.out B12.out) B13.out) B14.out) B15.out)) (by omega)).mono ?_
  rintro e w16 ⟨rfl, hb⟩
  have B16 := Lib.hid hb; clear hb
  have z16 : w15.heap.size ≤ w16.heap.size := B16.out.size
  have C16 := Lib.hid (below_step C15.out B16.out)
  go_wp2_with fail
  go_ret
  exact ⟨rfl, C16.out⟩
end Go.Proofs.Ytigcbnehcofbcaa
