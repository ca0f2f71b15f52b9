/-
  The walk of FnExactDecodeItems: the program and the reference read a paragraph alike, the program into memory of its own.
-/
import Derived.Test.YtmnmdecbehfegaaDoorTxtDIi
import Derived.Test.YtmnmdecbehfegaaDoorTxtLaid2
import Derived.Test.YtmnmdecbehfegaaDoorItems3
import Derived.Test.YtmnmdecbehfegaaDoorMarkItems
import Derived.Test.YtmnmdecbehfegaaDoorMarks
namespace Go.Proofs.YtmnmdecbehfegaaDoor
open Go.RowKit
set_option linter.unusedVariables false

set_option maxHeartbeats 8000000 in
theorem FnExactDecodeItems_walk (w : World) (s : ByteArray) (hsz : s.size ≤ maxLen) (ht : TB w) (ha : AT w) (hm : ML w) :
    Calls Tryd.prog 8 #[.string s] w fun e w' => e = .returned (.bool true) ∧ Below w.heap.size w w' := by
  unfold maxLen at hsz
  by_cases h0 : (1048576 : Int) < s.size
  · clear ht ha hm
    go_enter Tryd.func8, Tryd.ntmps8
    go_wp2_with fail
    go_ret
    exact ⟨rfl, Below.refl _ _⟩
  have S0 := Lib.hid (fun w1 => specDecs_any s w1 (by omega))
  have I0 := Lib.hid (fun w1 (hb : Below w.heap.size w w1) => implDecs_any s w1 (by omega) (ht.below hb) (ha.below hb) (hm.below hb))
  obtain ⟨r, hr⟩ : ∃ r, r = decIs s.data.toList := ⟨_, rfl⟩
  rw [← hr] at S0 I0
  clear hr ht ha hm
  obtain ⟨zs, t⟩ := r
  unfold ReadsIs at S0 I0
  simp only at S0 I0
  have hbb : (t != t) = false := by simp
  go_enter Tryd.func8, Tryd.ntmps8
  go_wp2_with fail
  refine (S0.out _).mono ?_
  rintro e w1 ⟨Aw, kw, dw, rfl, ho, mw, hb⟩
  have Ow := Lib.hid ho; clear ho
  have C1 := Lib.hid hb; clear hb
  have z1 : w.heap.size ≤ w1.heap.size := C1.out.size
  go_wp2_with fail
  refine (I0.out _ C1.out).mono ?_
  rintro e w2 ⟨Ag, kg, dg, rfl, ho, mg, hb⟩
  have Og := Lib.hid ho; clear ho
  have B2 := Lib.hid hb; clear hb
  have z2 : w1.heap.size ≤ w2.heap.size := B2.out.size
  have C2 := Lib.hid (below_step C1.out B2.out)
  go_wp2_with fail
  refine (eqItemS_any Ag Aw kg kw dg dw zs zs _ (Rd.own Og.out) (Rd.own (own_below Ow.out B2.out)) (by omega) (by omega)).mono ?_
  rintro e w3 ⟨rfl, hb⟩
  have B3 := Lib.hid hb; clear hb
  have z3 : w2.heap.size ≤ w3.heap.size := B3.out.size
  have C3 := Lib.hid (below_step C2.out B3.out)
  have V3 := Lib.hid (own_below Og.out B3.out)
  go_wp2_with fail
  refine (markItemS_any _ _ Ag kg dg 1 zs V3.out (by omega) (by omega) (by omega)).mono ?_
  rintro e w4 ⟨rfl, ho, hg⟩
  have M4 := Lib.hid ho; clear ho
  have G4 := Lib.hid hg; clear hg
  have z4 : w3.heap.size ≤ w4.heap.size := G4.out.size
  have C4 := Lib.hid (Below.grown C3.out G4.out C3.out.size (fun k hk => by have e1 := (V3.out.lt k hk).1; omega))
  have W4 := Lib.hid (own_apart (own_below (own_below Ow.out B2.out) B3.out) V3.out G4.out (fun k h1 h2 => by have e1 := (Ow.out.lt k h1).2; have e2 := (Og.out.lt k h2).1; omega))
  have hq1 : ¬ (1 + 6 * (kg : Int)) < 0 := by omega
  have hq2 : ((1 + 6 * (kg : Int)) != (1 + 6 * (kg : Int))) = false := by simp
  go_wp2_with fail
  refine (heldItemS_any _ Ag kg dg 1 (Rd.own M4.out) (by omega) (by omega) (by omega)).mono ?_
  rintro e w5 ⟨rfl, hb⟩
  have B5 := Lib.hid hb; clear hb
  have z5 : w4.heap.size ≤ w5.heap.size := B5.out.size
  have C5 := Lib.hid (below_step C4.out B5.out)
  go_wp2_with fail
  refine (I0.out _ C5.out).mono ?_
  rintro e w6 ⟨Ah, kh, dh, rfl, ho, mh, hb⟩
  have Oh := Lib.hid ho; clear ho
  have B6 := Lib.hid hb; clear hb
  have z6 : w5.heap.size ≤ w6.heap.size := B6.out.size
  have C6 := Lib.hid (below_step C5.out B6.out)
  go_wp2_with fail
  refine (eqItemS_any Ah Aw kh kw dh dw zs zs _ (Rd.own Oh.out) (Rd.own (own_below (own_below W4.out B5.out) B6.out)) (by omega) (by omega)).mono ?_
  rintro e w7 ⟨rfl, hb⟩
  have B7 := Lib.hid hb; clear hb
  have z7 : w6.heap.size ≤ w7.heap.size := B7.out.size
  have C7 := Lib.hid (below_step C6.out B7.out)
  go_wp2_with fail
  refine (heldItemS_any _ Ag kg dg 1 (Rd.own (own_below (own_below (own_below M4.out B5.out) B6.out) B7.out)) (by omega) (by omega) (by omega)).mono ?_
  rintro e w8 ⟨rfl, hb⟩
  have B8 := Lib.hid hb; clear hb
  have C8 := Lib.hid (below_step C7.out B8.out)
  go_wp2_with fail
  go_ret
  exact ⟨rfl, C8.out⟩
end Go.Proofs.YtmnmdecbehfegaaDoor
