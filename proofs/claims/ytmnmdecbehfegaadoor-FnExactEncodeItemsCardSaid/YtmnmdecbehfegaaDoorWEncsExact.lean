/-
  The walk of FnExactEncodeItems: the program and the reference write a paragraph alike.
-/
import Derived.Test.YtmnmdecbehfegaaDoorTxtEncs
import Derived.Test.YtmnmdecbehfegaaDoorItems4
import Derived.Test.YtmnmdecbehfegaaDoorOpenItems
namespace Go.Proofs.YtmnmdecbehfegaaDoor
open Go.RowKit
set_option linter.unusedVariables false

set_option maxHeartbeats 1000000 in
theorem FnExactEncodeItems_walk (w : World) (a0 : Option Addr) (n0 c0 : Nat) (x0 : List It) (h0 : InItems w a0 n0 c0 x0) (ht : TB w) :
    Calls Tryd.prog 4 #[.slice a0 n0 c0] w fun e w' => e = .returned (.bool true) ∧ Below w.heap.size w w' := by
  obtain ⟨hr, _, hc1, hc2⟩ := h0
  unfold maxLen at hc2
  have R0 := Lib.hid hr
  have T := Lib.hid ht
  clear hr ht
  have HS := Lib.hid (szItemS_any a0 n0 c0 w 1048576 (by omega) (by omega) (by omega))
  by_cases g0 : (1048576 : Int) < n0
  · rw [if_pos g0] at HS
    go_enter Tryd.func4, Tryd.ntmps4
    go_wp2_with (go_at_call 14; refine HS.out.mono ?_; rintro e w' ⟨rfl, rfl⟩)
    go_ret
    exact ⟨rfl, Below.refl _ _⟩
  rw [if_neg g0] at HS
  have hn0 : ¬ (1048576 : Int) - n0 < 0 := by omega
  have hm0 : n0 ≤ 1048576 := by omega
  obtain ⟨E, hE⟩ : ∃ E, E = eitsB x0 := ⟨_, rfl⟩
  have CS := Lib.hid (fun A d w1 h => encsSpec_any A n0 d x0 w1 h hm0)
  have CI := Lib.hid (fun A d w1 h ht => encsImpl_any A n0 d x0 w1 h hm0 ht)
  rw [← hE] at CS CI
  clear hE
  have he : (E.toList == E.toList) = true := by simp
  go_enter Tryd.func4, Tryd.ntmps4
  go_wp2_with fail
  refine HS.out.mono ?_
  rintro e w' ⟨rfl, rfl⟩
  go_wp2_with fail
  refine (toItemS_any a0 n0 c0 x0 _ R0.out hm0).mono ?_
  rintro e w1 ⟨Aa, da, rfl, ho, hb⟩
  have Oa := Lib.hid ho; clear ho
  have B1 := Lib.hid hb; clear hb
  go_wp2_with fail
  refine (CS.out Aa da _ (Rd.own Oa.out)).mono ?_
  rintro e w2 ⟨rfl, hb⟩
  have B2 := Lib.hid (below_step B1.out hb); clear hb
  go_wp2_with fail
  refine (toItemS_any a0 n0 c0 x0 _ (R0.out.below B2.out) hm0).mono ?_
  rintro e w3 ⟨Ax, dx, rfl, ho, hb⟩
  have Ox := Lib.hid ho; clear ho
  have B3 := Lib.hid (below_step B2.out hb); clear hb
  go_wp2_with fail
  refine (CI.out Ax dx _ (Rd.own Ox.out) (T.out.below B3.out)).mono ?_
  rintro e w4 ⟨rfl, hb⟩
  have O4 := Lib.hid (own_below Ox.out hb)
  have B4 := Lib.hid (below_step B3.out hb); clear hb
  go_wp2_with fail
  refine (toItemS_any a0 n0 c0 x0 _ (R0.out.below B4.out) hm0).mono ?_
  rintro e w5 ⟨Au, du, rfl, ho, hb⟩
  have Ou := Lib.hid ho; clear ho
  have O5 := Lib.hid (own_below O4.out hb)
  have B5 := Lib.hid (below_step B4.out hb); clear hb
  go_wp2_with fail
  refine (eqItemS_any Ax Au n0 n0 dx du x0 x0 _ (Rd.own O5.out) (Rd.own Ou.out) hm0 hm0).mono ?_
  rintro e w6 ⟨rfl, hb⟩
  have B6 := Lib.hid (below_step B5.out hb); clear hb
  go_wp2_with fail
  go_ret
  exact ⟨by simp, B6.out⟩
end Go.Proofs.YtmnmdecbehfegaaDoor
