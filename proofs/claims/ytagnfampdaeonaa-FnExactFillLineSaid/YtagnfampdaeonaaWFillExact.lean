/-
  The walk of FnExactFillLine: the program and the reference fill a line alike.
-/
import Derived.Test.YtagnfampdaeonaaFillImpl
import Derived.Test.YtagnfampdaeonaaMarkStr
namespace Go.Proofs.Ytagnfampdaeonaa
open Go.RowKit
set_option linter.unusedVariables false

set_option maxHeartbeats 4000000 in
theorem FnExactFillLine_walk (w : World) (a0 : Option Addr) (n0 c0 : Nat) (x0 : List ByteArray) (h0 : InStrs w a0 n0 c0 x0) (wd : Int) (_ : (Lit.int .i64 wd).wf = true) :
    Calls Try.prog 10 #[.slice a0 n0 c0, .int .i64 wd] w fun e w' => e = .returned (.bool true) ∧ Below w.heap.size w w' := by
  obtain ⟨hr, hz, hc1, hc2⟩ := h0
  unfold maxLen at hc2 hz
  have R0 := Lib.hid hr
  have HS := Lib.hid (szStringS_any a0 n0 c0 x0 w 1048576 hr (by omega) (fun s hs => by have := hz s hs; omega) (by omega) (by omega))
  clear hr hz
  have hne : ((fillL x0 wd).toList != (fillL x0 wd).toList) = false := by simp
  obtain ⟨F, hF⟩ : ∃ F, F = fillL x0 wd := ⟨_, rfl⟩
  have HFq := Lib.hid hF
  rw [← hF] at hne
  clear hF
  go_enter Try.func10, Try.ntmps10
  go_wp2_with fail
  refine HS.out.mono ?_
  rintro e w1 ⟨r, rfl, hr2, hb⟩
  have HR := Lib.hid hr2
  clear hr2 HS
  have B1 := Lib.hid (below_of_drew (B := w.heap.size) hb); clear hb
  have z1 : w.heap.size ≤ w1.heap.size := B1.out.size
  have C1 := Lib.hid (below_step (Below.refl w.heap.size w) B1.out)
  by_cases hneg : r < 0
  · go_wp2_with fail
    go_ret
    exact ⟨rfl, B1.out⟩
  have g0 := (HR.out (by omega)).1
  have Z0 : Hid (∀ s ∈ x0, s.size ≤ 9223372036854775807) := fun s hs => by have := (HR.out (by omega)).2 s hs; omega
  go_wp2_with fail
  refine (toStringS_any a0 n0 c0 x0 _ (R0.out.below C1.out) g0).mono ?_
  rintro e w2 ⟨Aa, da, rfl, ho, hb⟩
  have Oa := Lib.hid ho; clear ho
  have B2 := Lib.hid hb; clear hb
  have z2 : w1.heap.size ≤ w2.heap.size := B2.out.size
  have C2 := Lib.hid (below_step C1.out B2.out)
  have CS := Lib.hid (specFill_any Aa n0 da x0 wd _ (Rd.own Oa.out) g0 Z0.out)
  rw [← HFq.out] at CS
  go_wp2_with fail
  refine CS.out.mono ?_
  rintro e w3 ⟨rfl, hb⟩
  have B3 := Lib.hid (below_of_drew (B := w2.heap.size) hb); clear hb
  have z3 : w2.heap.size ≤ w3.heap.size := B3.out.size
  have C3 := Lib.hid (below_step C2.out B3.out)
  go_wp2_with fail
  refine (toStringS_any a0 n0 c0 x0 _ (R0.out.below C3.out) g0).mono ?_
  rintro e w4 ⟨Ax, dx, rfl, ho, hb⟩
  have Ox := Lib.hid ho; clear ho
  have B4 := Lib.hid hb; clear hb
  have z4 : w3.heap.size ≤ w4.heap.size := B4.out.size
  have C4 := Lib.hid (below_step C3.out B4.out)
  have CI := Lib.hid (implFill_any Ax n0 dx x0 wd _ (Rd.own Ox.out) g0 Z0.out)
  rw [← HFq.out] at CI
  go_wp2_with fail
  refine CI.out.mono ?_
  rintro e w5 ⟨rfl, hb⟩
  have B5 := Lib.hid hb; clear hb
  have z5 : w4.heap.size ≤ w5.heap.size := B5.out.size
  have C5 := Lib.hid (below_step C4.out B5.out)
  go_wp2_with fail
  refine (toStringS_any a0 n0 c0 x0 _ (R0.out.below C5.out) g0).mono ?_
  rintro e w6 ⟨Au, du, rfl, ho, hb⟩
  have Ou := Lib.hid ho; clear ho
  have B6 := Lib.hid hb; clear hb
  have z6 : w5.heap.size ≤ w6.heap.size := B6.out.size
  have C6 := Lib.hid (below_step C5.out B6.out)
  go_wp2_with fail
  refine (eqStringS_any Ax Au n0 n0 dx du x0 x0 _ (Rd.own (own_below (own_below Ox.out B5.out) B6.out)) (Rd.own Ou.out) g0 g0).mono ?_
  rintro e w7 ⟨rfl, hb⟩
  have B7 := Lib.hid (below_of_drew (B := w6.heap.size) hb); clear hb
  have z7 : w6.heap.size ≤ w7.heap.size := B7.out.size
  have C7 := Lib.hid (below_step C6.out B7.out)
  go_wp2_with fail
  go_ret
  exact ⟨rfl, C7.out⟩
end Go.Proofs.Ytagnfampdaeonaa
