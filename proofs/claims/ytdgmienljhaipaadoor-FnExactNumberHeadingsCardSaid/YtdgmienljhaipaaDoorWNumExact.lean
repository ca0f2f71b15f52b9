/-
  The walk of FnExactNumberHeadings: the program and the reference give the same numbers, in memory of their own.
-/
import Derived.Test.YtdgmienljhaipaaDoorNumImpl
import Derived.Test.YtdgmienljhaipaaDoorMarkStr
namespace Go.Proofs.YtdgmienljhaipaaDoor
open Go.RowKit
set_option linter.unusedVariables false

theorem numT_short (l : List Int) : (numT l).length ≤ 20 := by
  by_cases h : vOutline l = true
  · rw [numT_len h]
    exact vOutline_len h
  · rw [numT_no h]
    exact Nat.zero_le _
set_option maxHeartbeats 8000000 in
theorem FnExactNumberHeadings_walk (w : World) (a0 : Option Addr) (n0 c0 : Nat) (x0 : List Int) (h0 : InNums .i64 w a0 n0 c0 x0) :
    Calls Tryd.prog 6 #[.slice a0 n0 c0] w fun e w' => e = .returned (.bool true) ∧ Below w.heap.size w w' := by
  have R0 := Lib.hid h0.rd
  clear h0
  by_cases g0 : n0 ≤ 1048576
  case neg =>
    go_enter Tryd.func6, Tryd.ntmps6
    go_wp2
    go_ret
    exact ⟨rfl, Below.refl _ _⟩
  obtain ⟨E, hE⟩ : ∃ E, E = numT x0 := ⟨_, rfl⟩
  have hEl : E.length ≤ 20 := by rw [hE]; exact numT_short x0
  have HEq := Lib.hid hE
  clear hE
  go_enter Tryd.func6, Tryd.ntmps6
  go_wp2_with fail
  refine (toIntS_any a0 n0 c0 x0 _ R0.out g0).mono ?_
  rintro e w1 ⟨Aa, da, rfl, ho, hb⟩
  have Oa := Lib.hid ho; clear ho
  have B1 := Lib.hid hb; clear hb
  have z1 : w.heap.size ≤ w1.heap.size := B1.out.size
  have C1 := Lib.hid (below_step (Below.refl w.heap.size w) B1.out)
  go_wp2_with fail
  refine (specNum_any Aa n0 da x0 _ (Rd.own Oa.out) g0).mono ?_
  rintro e w2 ⟨Aw, kw, dw, rfl, ho, hb⟩
  rw [← HEq.out] at ho
  have Ow := Lib.hid ho; clear ho
  have B2 := Lib.hid hb; clear hb
  have z2 : w1.heap.size ≤ w2.heap.size := B2.out.size
  have C2 := Lib.hid (below_step C1.out B2.out)
  have mw : kw ≤ 20 := by have h := (Rd.own Ow.out).slen; omega
  go_wp2_with fail
  refine (toIntS_any a0 n0 c0 x0 _ (R0.out.below C2.out) g0).mono ?_
  rintro e w3 ⟨Ax, dx, rfl, ho, hb⟩
  have Ox := Lib.hid ho; clear ho
  have B3 := Lib.hid hb; clear hb
  have z3 : w2.heap.size ≤ w3.heap.size := B3.out.size
  have C3 := Lib.hid (below_step C2.out B3.out)
  go_wp2_with fail
  refine (implNum_any Ax n0 dx x0 _ (Rd.own Ox.out) g0).mono ?_
  rintro e w4 ⟨Ag, kg, dg, rfl, ho, hb⟩
  rw [← HEq.out] at ho
  have Og := Lib.hid ho; clear ho
  have B4 := Lib.hid hb; clear hb
  have z4 : w3.heap.size ≤ w4.heap.size := B4.out.size
  have C4 := Lib.hid (below_step C3.out B4.out)
  have mg : kg ≤ 20 := by have h := (Rd.own Og.out).slen; omega
  go_wp2_with fail
  refine (eqStringS_any Ag Aw kg kw dg dw E E _ (Rd.own Og.out) (Rd.own (own_below (own_below Ow.out B3.out) B4.out)) (by omega) (by omega)).mono ?_
  rintro e w5 ⟨rfl, hb⟩
  have B5 := Lib.hid (below_of_drew (B := w4.heap.size) hb); clear hb
  have z5 : w4.heap.size ≤ w5.heap.size := B5.out.size
  have C5 := Lib.hid (below_step C4.out B5.out)
  go_wp2_with fail
  refine (toIntS_any a0 n0 c0 x0 _ (R0.out.below C5.out) g0).mono ?_
  rintro e w6 ⟨Au, du, rfl, ho, hb⟩
  have Ou := Lib.hid ho; clear ho
  have B6 := Lib.hid hb; clear hb
  have z6 : w5.heap.size ≤ w6.heap.size := B6.out.size
  have C6 := Lib.hid (below_step C5.out B6.out)
  go_wp2_with fail
  refine (eqIntS_any Ax Au n0 n0 dx du x0 x0 _ (Rd.own (own_below (own_below (own_below Ox.out B4.out) B5.out) B6.out)) (Rd.own Ou.out) g0 g0).mono ?_
  rintro e w7 ⟨rfl, hb⟩
  have B7 := Lib.hid (below_of_drew (B := w6.heap.size) hb); clear hb
  have z7 : w6.heap.size ≤ w7.heap.size := B7.out.size
  have C7 := Lib.hid (below_step C6.out B7.out)
  have V8 := Lib.hid (own_below (own_below (own_below (own_below Ox.out B4.out) B5.out) B6.out) B7.out)
  go_wp2_with fail
  refine (markIntS_1 _ _ Ax n0 dx x0 V8.out (by omega)).mono ?_
  rintro e w8 ⟨rfl, ho, hg⟩
  have M8 := Lib.hid ho; clear ho
  have G8 := Lib.hid hg; clear hg
  have z8 : w7.heap.size ≤ w8.heap.size := G8.out.size
  have C8 := Lib.hid (Below.grown C7.out G8.out C7.out.size (fun k hk => by have e1 := (V8.out.lt k hk).1; omega))
  have hq0 : ¬ (1 + (n0 : Int)) < 0 := by omega
  go_wp2_with fail
  refine (eqStringS_any Ag Aw kg kw dg dw E E _ (Rd.own (own_apart (own_below (own_below (own_below Og.out B5.out) B6.out) B7.out) V8.out G8.out (fun k h1 h2 => by have e1 := (Ox.out.lt k h2).2; have e2 := (Og.out.lt k h1).1; omega))) (Rd.own (own_apart (own_below (own_below (own_below (own_below (own_below Ow.out B3.out) B4.out) B5.out) B6.out) B7.out) V8.out G8.out (fun k h1 h2 => by have e1 := (Ow.out.lt k h1).2; have e2 := (Ox.out.lt k h2).1; omega))) (by omega) (by omega)).mono ?_
  rintro e w9 ⟨rfl, hb⟩
  have B9 := Lib.hid (below_of_drew (B := w8.heap.size) hb); clear hb
  have z9 : w8.heap.size ≤ w9.heap.size := B9.out.size
  have C9 := Lib.hid (below_step C8.out B9.out)
  have V10 := Lib.hid (own_below (own_apart (own_below (own_below (own_below Og.out B5.out) B6.out) B7.out) V8.out G8.out (fun k h1 h2 => by have e1 := (Ox.out.lt k h2).2; have e2 := (Og.out.lt k h1).1; omega)) B9.out)
  go_wp2_with fail
  refine (markStringS_1 _ _ Ag kg dg E V10.out (by omega)).mono ?_
  rintro e w10 ⟨rfl, ho, hg⟩
  have M10 := Lib.hid ho; clear ho
  have G10 := Lib.hid hg; clear hg
  have z10 : w9.heap.size ≤ w10.heap.size := G10.out.size
  have C10 := Lib.hid (Below.grown C9.out G10.out C9.out.size (fun k hk => by have e1 := (V10.out.lt k hk).1; omega))
  have hq1 : ¬ (1 + (kg : Int)) < 0 := by omega
  have hq2 : ((1 + (kg : Int)) != (1 + (kg : Int))) = false := by simp
  go_wp2_with fail
  refine (heldStringS_1 _ Ag kg dg (Rd.own M10.out) (by omega)).mono ?_
  rintro e w11 ⟨rfl, hb⟩
  have B11 := Lib.hid hb; clear hb
  have z11 : w10.heap.size ≤ w11.heap.size := B11.out.size
  have C11 := Lib.hid (below_step C10.out B11.out)
  go_wp2_with fail
  refine (toIntS_any a0 n0 c0 x0 _ (R0.out.below C11.out) g0).mono ?_
  rintro e w12 ⟨At, dt, rfl, ho, hb⟩
  have Ot := Lib.hid ho; clear ho
  have B12 := Lib.hid hb; clear hb
  have z12 : w11.heap.size ≤ w12.heap.size := B12.out.size
  have C12 := Lib.hid (below_step C11.out B12.out)
  go_wp2_with fail
  refine (implNum_any At n0 dt x0 _ (Rd.own Ot.out) g0).mono ?_
  rintro e w13 ⟨Ah, kh, dh, rfl, ho, hb⟩
  rw [← HEq.out] at ho
  have Oh := Lib.hid ho; clear ho
  have B13 := Lib.hid hb; clear hb
  have z13 : w12.heap.size ≤ w13.heap.size := B13.out.size
  have C13 := Lib.hid (below_step C12.out B13.out)
  have mh : kh ≤ 20 := by have h := (Rd.own Oh.out).slen; omega
  go_wp2_with fail
  refine (eqStringS_any Ah Aw kh kw dh dw E E _ (Rd.own Oh.out) (Rd.own (own_below (own_below (own_below (own_apart (own_below (own_apart (own_below (own_below (own_below (own_below (own_below Ow.out B3.out) B4.out) B5.out) B6.out) B7.out) V8.out G8.out (fun k h1 h2 => by have e1 := (Ow.out.lt k h1).2; have e2 := (Ox.out.lt k h2).1; omega)) B9.out) V10.out G10.out (fun k h1 h2 => by have e1 := (Ow.out.lt k h1).2; have e2 := (Og.out.lt k h2).1; omega)) B11.out) B12.out) B13.out)) (by omega) (by omega)).mono ?_
  rintro e w14 ⟨rfl, hb⟩
  have B14 := Lib.hid (below_of_drew (B := w13.heap.size) hb); clear hb
  have z14 : w13.heap.size ≤ w14.heap.size := B14.out.size
  have C14 := Lib.hid (below_step C13.out B14.out)
  go_wp2_with fail
  refine (heldStringS_1 _ Ag kg dg (Rd.own (own_below (own_below (own_below (own_below M10.out B11.out) B12.out) B13.out) B14.out)) (by omega)).mono ?_
  rintro e w15 ⟨rfl, hb⟩
  have B15 := Lib.hid hb; clear hb
  have z15 : w14.heap.size ≤ w15.heap.size := B15.out.size
  have C15 := Lib.hid (below_step C14.out B15.out)
  go_wp2_with fail
  go_ret
  exact ⟨rfl, C15.out⟩
end Go.Proofs.YtdgmienljhaipaaDoor
