/-
  The walk of FnExactReplaceItems: the program and the reference give the same list, in memory of their own.
-/
import Derived.Test.YtjkmjgjpkneckaaReplaceSpec
import Derived.Test.YtjkmjgjpkneckaaMarkItems
import Derived.Test.YtjkmjgjpkneckaaMarks
import Derived.Test.YtjkmjgjpkneckaaOpenItems
namespace Go.Proofs.Ytjkmjgjpkneckaa
open Go.RowKit
set_option linter.unusedVariables false

theorem own_le {w : World} {base : Nat} {E : TypeId} {size : Nat} {L : Option Addr} {n c : Nat} {xs : List Value} (h : w.ownsRow base E size (.slice L n c) n xs) : n ≤ c := by
  rcases h.2 with ⟨hv, h1⟩ | ⟨g', cap, cur, hv, hg, hh, hn', hc, hz, hx⟩
  · omega
  · injection hv with h1 h2 h3
    omega

theorem rI_short (xs ys : List It) (f t : Int) : (rI xs ys f t).1.length ≤ 60 := by
  unfold rI
  split
  · rename_i hr
    simp only [rOk, Bool.and_eq_true] at hr
    have h6 := hr.2
    simp only [vItems, Bool.and_eq_true, inB_iff] at h6
    show (repl xs ys f t).length ≤ 60
    omega
  · simp

theorem specReplace_ret {zs : List It} {b : Bool} (A B : Option Addr) (n m c d : Nat) (xs ys : List It) (f t : Int) (w : World) (hx : Rd w 6 A n (items xs)) (hy : Rd w 6 B m (items ys)) (hn : n ≤ 1048576) (hm : m ≤ 1048576) (hnc : n ≤ c) (hmd : m ≤ d) (hz : rI xs ys f t = (zs, b)) :
    Calls Try.prog 28 #[.slice A n c, .int .i64 f, .int .i64 t, .slice B m d] w fun e w' => ∃ A k c, e = .returned (.tuple #[.slice A k c, .bool b]) ∧ w'.ownsRow w.heap.size 58 6 (.slice A k c) k (items zs) ∧ Below w.heap.size w w' :=
  (specReplace_any A B n m c d xs ys f t w hx hy hn hm hnc hmd).mono fun e w' h => by unfold ReplRes at h; rw [hz] at h; exact h
theorem implReplace_ret {zs : List It} {b : Bool} (A B : Option Addr) (n m c d : Nat) (xs ys : List It) (f t : Int) (w : World) (hx : Rd w 6 A n (items xs)) (hy : Rd w 6 B m (items ys)) (hn : n ≤ 1048576) (hm : m ≤ 1048576) (hnc : n ≤ c) (hmd : m ≤ d) (hz : rI xs ys f t = (zs, b)) :
    Calls Try.prog 27 #[.slice A n c, .int .i64 f, .int .i64 t, .slice B m d] w fun e w' => ∃ A k c, e = .returned (.tuple #[.slice A k c, .bool b]) ∧ w'.ownsRow w.heap.size 58 6 (.slice A k c) k (items zs) ∧ Below w.heap.size w w' :=
  (implReplace_any A B n m c d xs ys f t w hx hy hn hm hnc hmd).mono fun e w' h => by unfold ReplRes at h; rw [hz] at h; exact h

set_option maxHeartbeats 8000000 in
theorem FnExactReplaceItems_walk (w : World) (a0 : Option Addr) (n0 c0 : Nat) (x0 : List It) (h0 : InItems w a0 n0 c0 x0) (f : Int) (_ : (Lit.int .i64 f).wf = true) (t : Int) (_ : (Lit.int .i64 t).wf = true) (a1 : Option Addr) (n1 c1 : Nat) (x1 : List It) (h1 : InItems w a1 n1 c1 x1) :
    Calls Try.prog 9 #[.slice a0 n0 c0, .int .i64 f, .int .i64 t, .slice a1 n1 c1] w fun e w' => e = .returned (.bool true) ∧ Below w.heap.size w w' := by
  obtain ⟨hr, _, hc1, hc2⟩ := h0
  obtain ⟨hr', _, hc3, hc4⟩ := h1
  unfold maxLen at hc2 hc4
  have R0 := Lib.hid hr
  have R1 := Lib.hid hr'
  clear hr hr'
  have HS := Lib.hid (szItemS_any a0 n0 c0 w 1048576 (by omega) (by omega) (by omega))
  by_cases g0 : (1048576 : Int) < n0
  · rw [if_pos g0] at HS
    go_enter Try.func9, Try.ntmps9
    go_wp2_with (go_at_call 19; refine HS.out.mono ?_; rintro e w' ⟨rfl, rfl⟩)
    go_ret
    exact ⟨rfl, Below.refl _ _⟩
  rw [if_neg g0] at HS
  have HT := Lib.hid (szItemS_any a1 n1 c1 w (1048576 - n0) (by omega) (by omega) (by omega))
  have hn0 : ¬ (1048576 : Int) - n0 < 0 := by omega
  by_cases g1 : (1048576 : Int) - n0 < n1
  · rw [if_pos g1] at HT
    go_enter Try.func9, Try.ntmps9
    go_wp2_with fail
    refine HS.out.mono ?_
    rintro e w' ⟨rfl, rfl⟩
    go_wp2_with (go_at_call 19; refine HT.out.mono ?_; rintro e w' ⟨rfl, rfl⟩)
    go_ret
    exact ⟨rfl, Below.refl _ _⟩
  rw [if_neg g1] at HT
  have hn1 : ¬ (1048576 : Int) - n0 - n1 < 0 := by omega
  have hm0 : n0 ≤ 1048576 := by omega
  have hm1 : n1 ≤ 1048576 := by omega
  obtain ⟨zs, b, hz⟩ : ∃ zs b, rI x0 x1 f t = (zs, b) := ⟨_, _, rfl⟩
  have hzl : zs.length ≤ 60 := by have h := rI_short x0 x1 f t; rw [hz] at h; exact h
  have HZ := Lib.hid hz
  clear hz
  have hbb : (b != b) = false := by simp
  go_enter Try.func9, Try.ntmps9
  go_wp2_with fail
  refine HS.out.mono ?_
  rintro e w' ⟨rfl, rfl⟩
  go_wp2_with fail
  refine HT.out.mono ?_
  rintro e w' ⟨rfl, rfl⟩
  go_wp2_with fail
  refine (toItemS_any a0 n0 c0 x0 _ R0.out hm0).mono ?_
  rintro e w1 ⟨Aa, da, rfl, ho, hb⟩
  have Oa := Lib.hid ho; clear ho
  have B1 := Lib.hid hb; clear hb
  have z1 : w.heap.size ≤ w1.heap.size := B1.out.size
  have C1 := Lib.hid (below_step (Below.refl w.heap.size w) B1.out)
  have la := own_le Oa.out
  go_wp2_with fail
  refine (toItemS_any a1 n1 c1 x1 _ (R1.out.below C1.out) hm1).mono ?_
  rintro e w2 ⟨Ab, db, rfl, ho, hb⟩
  have Ob := Lib.hid ho; clear ho
  have B2 := Lib.hid hb; clear hb
  have z2 : w1.heap.size ≤ w2.heap.size := B2.out.size
  have C2 := Lib.hid (below_step C1.out B2.out)
  have lb := own_le Ob.out
  go_wp2_with fail
  refine (specReplace_ret Aa Ab n0 n1 da db x0 x1 f t _ (Rd.own (own_below Oa.out B2.out)) (Rd.own Ob.out) hm0 hm1 la lb HZ.out).mono ?_
  rintro e w3 ⟨Aw, kw, dw, rfl, ho, hb⟩
  have Ow := Lib.hid ho; clear ho
  have B3 := Lib.hid hb; clear hb
  have z3 : w2.heap.size ≤ w3.heap.size := B3.out.size
  have C3 := Lib.hid (below_step C2.out B3.out)
  have mw : kw ≤ 60 := by have h := (Rd.own Ow.out).item_len; omega
  go_wp2_with fail
  refine (toItemS_any a0 n0 c0 x0 _ (R0.out.below C3.out) hm0).mono ?_
  rintro e w4 ⟨Ax, dx, rfl, ho, hb⟩
  have Ox := Lib.hid ho; clear ho
  have B4 := Lib.hid hb; clear hb
  have z4 : w3.heap.size ≤ w4.heap.size := B4.out.size
  have C4 := Lib.hid (below_step C3.out B4.out)
  have lx := own_le Ox.out
  go_wp2_with fail
  refine (toItemS_any a1 n1 c1 x1 _ (R1.out.below C4.out) hm1).mono ?_
  rintro e w5 ⟨Ay, dy, rfl, ho, hb⟩
  have Oy := Lib.hid ho; clear ho
  have B5 := Lib.hid hb; clear hb
  have z5 : w4.heap.size ≤ w5.heap.size := B5.out.size
  have C5 := Lib.hid (below_step C4.out B5.out)
  have ly := own_le Oy.out
  go_wp2_with fail
  refine (implReplace_ret Ax Ay n0 n1 dx dy x0 x1 f t _ (Rd.own (own_below Ox.out B5.out)) (Rd.own Oy.out) hm0 hm1 lx ly HZ.out).mono ?_
  rintro e w6 ⟨Ag, kg, dg, rfl, ho, hb⟩
  have Og := Lib.hid ho; clear ho
  have B6 := Lib.hid hb; clear hb
  have z6 : w5.heap.size ≤ w6.heap.size := B6.out.size
  have C6 := Lib.hid (below_step C5.out B6.out)
  have mg : kg ≤ 60 := by have h := (Rd.own Og.out).item_len; omega
  go_wp2_with fail
  refine (eqItemS_any Ag Aw kg kw dg dw zs zs _ (Rd.own Og.out) (Rd.own (own_below (own_below (own_below Ow.out B4.out) B5.out) B6.out)) (by omega) (by omega)).mono ?_
  rintro e w7 ⟨rfl, hb⟩
  have B7 := Lib.hid hb; clear hb
  have z7 : w6.heap.size ≤ w7.heap.size := B7.out.size
  have C7 := Lib.hid (below_step C6.out B7.out)
  go_wp2_with fail
  refine (toItemS_any a0 n0 c0 x0 _ (R0.out.below C7.out) hm0).mono ?_
  rintro e w8 ⟨Au, du, rfl, ho, hb⟩
  have Ou := Lib.hid ho; clear ho
  have B8 := Lib.hid hb; clear hb
  have z8 : w7.heap.size ≤ w8.heap.size := B8.out.size
  have C8 := Lib.hid (below_step C7.out B8.out)
  have lu := own_le Ou.out
  go_wp2_with fail
  refine (eqItemS_any Ax Au n0 n0 dx du x0 x0 _ (Rd.own (own_below (own_below (own_below (own_below Ox.out B5.out) B6.out) B7.out) B8.out)) (Rd.own Ou.out) (by omega) (by omega)).mono ?_
  rintro e w9 ⟨rfl, hb⟩
  have B9 := Lib.hid hb; clear hb
  have z9 : w8.heap.size ≤ w9.heap.size := B9.out.size
  have C9 := Lib.hid (below_step C8.out B9.out)
  go_wp2_with fail
  refine (toItemS_any a1 n1 c1 x1 _ (R1.out.below C9.out) hm1).mono ?_
  rintro e w10 ⟨Av, dv, rfl, ho, hb⟩
  have Ov := Lib.hid ho; clear ho
  have B10 := Lib.hid hb; clear hb
  have z10 : w9.heap.size ≤ w10.heap.size := B10.out.size
  have C10 := Lib.hid (below_step C9.out B10.out)
  have lv := own_le Ov.out
  go_wp2_with fail
  refine (eqItemS_any Ay Av n1 n1 dy dv x1 x1 _ (Rd.own (own_below (own_below (own_below (own_below (own_below Oy.out B6.out) B7.out) B8.out) B9.out) B10.out)) (Rd.own Ov.out) (by omega) (by omega)).mono ?_
  rintro e w11 ⟨rfl, hb⟩
  have B11 := Lib.hid hb; clear hb
  have z11 : w10.heap.size ≤ w11.heap.size := B11.out.size
  have C11 := Lib.hid (below_step C10.out B11.out)
  have V12 := Lib.hid (own_below (own_below (own_below (own_below (own_below (own_below (own_below Ox.out B5.out) B6.out) B7.out) B8.out) B9.out) B10.out) B11.out)
  go_wp2_with fail
  refine (markItemS_any _ _ Ax n0 dx 1 x0 V12.out (by omega) (by omega) (by omega)).mono ?_
  rintro e w12 ⟨rfl, ho, hg⟩
  have M12 := Lib.hid ho; clear ho
  have G12 := Lib.hid hg; clear hg
  have z12 : w11.heap.size ≤ w12.heap.size := G12.out.size
  have C12 := Lib.hid (Below.grown C11.out G12.out C11.out.size (fun k hk => by have e1 := (V12.out.lt k hk).1; omega))
  have V13 := Lib.hid (own_apart (own_below (own_below (own_below (own_below (own_below (own_below Oy.out B6.out) B7.out) B8.out) B9.out) B10.out) B11.out) V12.out G12.out (fun k h1 h2 => by have e1 := (Ox.out.lt k h2).2; have e2 := (Oy.out.lt k h1).1; omega))
  go_wp2_with fail
  refine (markItemS_any _ _ Ay n1 dy (1 + 6 * (n0 : Int)) x1 V13.out (by omega) (by omega) (by omega)).mono ?_
  rintro e w13 ⟨rfl, ho, hg⟩
  have M13 := Lib.hid ho; clear ho
  have G13 := Lib.hid hg; clear hg
  have z13 : w12.heap.size ≤ w13.heap.size := G13.out.size
  have C13 := Lib.hid (Below.grown C12.out G13.out C12.out.size (fun k hk => by have e1 := (V13.out.lt k hk).1; omega))
  have hq0 : ¬ (1 + 6 * (n0 : Int) + 6 * (n1 : Int)) < 0 := by omega
  go_wp2_with fail
  refine (eqItemS_any Ag Aw kg kw dg dw zs zs _ (Rd.own (own_apart (own_apart (own_below (own_below (own_below (own_below (own_below Og.out B7.out) B8.out) B9.out) B10.out) B11.out) V12.out G12.out (fun k h1 h2 => by have e1 := (Ox.out.lt k h2).2; have e2 := (Og.out.lt k h1).1; omega)) V13.out G13.out (fun k h1 h2 => by have e1 := (Oy.out.lt k h2).2; have e2 := (Og.out.lt k h1).1; omega))) (Rd.own (own_apart (own_apart (own_below (own_below (own_below (own_below (own_below (own_below (own_below (own_below Ow.out B4.out) B5.out) B6.out) B7.out) B8.out) B9.out) B10.out) B11.out) V12.out G12.out (fun k h1 h2 => by have e1 := (Ow.out.lt k h1).2; have e2 := (Ox.out.lt k h2).1; omega)) V13.out G13.out (fun k h1 h2 => by have e1 := (Ow.out.lt k h1).2; have e2 := (Oy.out.lt k h2).1; omega))) (by omega) (by omega)).mono ?_
  rintro e w14 ⟨rfl, hb⟩
  have B14 := Lib.hid hb; clear hb
  have z14 : w13.heap.size ≤ w14.heap.size := B14.out.size
  have C14 := Lib.hid (below_step C13.out B14.out)
  have V15 := Lib.hid (own_below (own_apart (own_apart (own_below (own_below (own_below (own_below (own_below Og.out B7.out) B8.out) B9.out) B10.out) B11.out) V12.out G12.out (fun k h1 h2 => by have e1 := (Ox.out.lt k h2).2; have e2 := (Og.out.lt k h1).1; omega)) V13.out G13.out (fun k h1 h2 => by have e1 := (Oy.out.lt k h2).2; have e2 := (Og.out.lt k h1).1; omega)) B14.out)
  go_wp2_with fail
  refine (markItemS_any _ _ Ag kg dg 1 zs V15.out (by omega) (by omega) (by omega)).mono ?_
  rintro e w15 ⟨rfl, ho, hg⟩
  have M15 := Lib.hid ho; clear ho
  have G15 := Lib.hid hg; clear hg
  have z15 : w14.heap.size ≤ w15.heap.size := G15.out.size
  have C15 := Lib.hid (Below.grown C14.out G15.out C14.out.size (fun k hk => by have e1 := (V15.out.lt k hk).1; omega))
  have hq1 : ¬ (1 + 6 * (kg : Int)) < 0 := by omega
  have hq2 : ((1 + 6 * (kg : Int)) != (1 + 6 * (kg : Int))) = false := by simp
  go_wp2_with fail
  refine (heldItemS_any _ Ag kg dg 1 (Rd.own M15.out) (by omega) (by omega) (by omega)).mono ?_
  rintro e w16 ⟨rfl, hb⟩
  have B16 := Lib.hid hb; clear hb
  have z16 : w15.heap.size ≤ w16.heap.size := B16.out.size
  have C16 := Lib.hid (below_step C15.out B16.out)
  go_wp2_with fail
  refine (toItemS_any a0 n0 c0 x0 _ (R0.out.below C16.out) hm0).mono ?_
  rintro e w17 ⟨Ap, dp, rfl, ho, hb⟩
  have Op := Lib.hid ho; clear ho
  have B17 := Lib.hid hb; clear hb
  have z17 : w16.heap.size ≤ w17.heap.size := B17.out.size
  have C17 := Lib.hid (below_step C16.out B17.out)
  have lp := own_le Op.out
  go_wp2_with fail
  refine (toItemS_any a1 n1 c1 x1 _ (R1.out.below C17.out) hm1).mono ?_
  rintro e w18 ⟨Aq, dq, rfl, ho, hb⟩
  have Oq := Lib.hid ho; clear ho
  have B18 := Lib.hid hb; clear hb
  have z18 : w17.heap.size ≤ w18.heap.size := B18.out.size
  have C18 := Lib.hid (below_step C17.out B18.out)
  have lq := own_le Oq.out
  go_wp2_with fail
  refine (implReplace_ret Ap Aq n0 n1 dp dq x0 x1 f t _ (Rd.own (own_below Op.out B18.out)) (Rd.own Oq.out) hm0 hm1 lp lq HZ.out).mono ?_
  rintro e w19 ⟨Ah, kh, dh, rfl, ho, hb⟩
  have Oh := Lib.hid ho; clear ho
  have B19 := Lib.hid hb; clear hb
  have z19 : w18.heap.size ≤ w19.heap.size := B19.out.size
  have C19 := Lib.hid (below_step C18.out B19.out)
  have mh : kh ≤ 60 := by have h := (Rd.own Oh.out).item_len; omega
  go_wp2_with fail
  refine (eqItemS_any Ah Aw kh kw dh dw zs zs _ (Rd.own Oh.out) (Rd.own (own_below (own_below (own_below (own_below (own_apart (own_below (own_apart (own_apart (own_below (own_below (own_below (own_below (own_below (own_below (own_below (own_below Ow.out B4.out) B5.out) B6.out) B7.out) B8.out) B9.out) B10.out) B11.out) V12.out G12.out (fun k h1 h2 => by have e1 := (Ow.out.lt k h1).2; have e2 := (Ox.out.lt k h2).1; omega)) V13.out G13.out (fun k h1 h2 => by have e1 := (Ow.out.lt k h1).2; have e2 := (Oy.out.lt k h2).1; omega)) B14.out) V15.out G15.out (fun k h1 h2 => by have e1 := (Ow.out.lt k h1).2; have e2 := (Og.out.lt k h2).1; omega)) B16.out) B17.out) B18.out) B19.out)) (by omega) (by omega)).mono ?_
  rintro e w20 ⟨rfl, hb⟩
  have B20 := Lib.hid hb; clear hb
  have z20 : w19.heap.size ≤ w20.heap.size := B20.out.size
  have C20 := Lib.hid (below_step C19.out B20.out)
  go_wp2_with fail
  refine (heldItemS_any _ Ag kg dg 1 (Rd.own (own_below (own_below (own_below (own_below (own_below M15.out B16.out) B17.out) B18.out) B19.out) B20.out)) (by omega) (by omega) (by omega)).mono ?_
  rintro e w21 ⟨rfl, hb⟩
  have B21 := Lib.hid hb; clear hb
  have z21 : w20.heap.size ≤ w21.heap.size := B21.out.size
  have C21 := Lib.hid (below_step C20.out B21.out)
  go_wp2_with fail
  go_ret
  exact ⟨rfl, C21.out⟩
end Go.Proofs.Ytjkmjgjpkneckaa
