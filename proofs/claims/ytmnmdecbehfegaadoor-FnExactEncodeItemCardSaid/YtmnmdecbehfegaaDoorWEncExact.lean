/-
  The walk of FnExactEncodeItem: the program and the reference write an item alike.
-/
import Derived.Test.YtmnmdecbehfegaaDoorTxtEnc
import Derived.Test.YtmnmdecbehfegaaDoorItems4
import Derived.Test.YtmnmdecbehfegaaDoorOpenItems
namespace Go.Proofs.YtmnmdecbehfegaaDoor
open Go.RowKit
set_option linter.unusedVariables false

set_option maxHeartbeats 1000000 in
theorem FnExactEncodeItem_walk (w : World) (x : It) (_ : x.wf) (ht : TB w) :
    Calls Tryd.prog 3 #[.agg #[.int .i64 x.k, .int .i64 x.w, .int .i64 x.st, .int .i64 x.sh, .int .i64 x.p, .bool x.f]] w fun e w' => e = .returned (.bool true) ∧ Below w.heap.size w w' := by
  have T0 := Lib.hid (fun w1 => toItem_any x w1)
  have S0 := Lib.hid (fun w1 => encSpec_any x w1)
  have I0 := Lib.hid (fun w1 (hb : Below w.heap.size w w1) => encImpl_any x w1 (ht.below hb))
  obtain ⟨E, hE⟩ : ∃ E, E = etxtB x := ⟨_, rfl⟩
  rw [← hE] at S0 I0
  clear hE ht
  have he : (E.toList == E.toList) = true := by simp
  obtain ⟨k, wd, st, sh, p, f⟩ := x
  go_enter Tryd.func3, Tryd.ntmps3
  go_wp2_with fail
  refine (T0.out _).mono ?_
  rintro e w1 ⟨rfl, hb⟩
  obtain ⟨hk, hb'⟩ := box_at hb
  have HK := Lib.hid hk
  have B1 := Lib.hid hb'
  clear hb hb' hk
  go_wp2_with fail
  refine (S0.out _).mono ?_
  rintro e w2 ⟨rfl, hb⟩
  have B2 := Lib.hid (below_step B1.out hb)
  have hk2 : BlkIs w2 w.heap.size 25 #[.int .i64 k, .int .i64 wd, .int .i64 st, .int .i64 sh, .int .i64 p, .bool f] := by
    have := hb.block w.heap.size HK.out.lt
    rw [BlkIs, this]; exact HK.out
  have c0 := hk2.cell 0
  have c1 := hk2.cell 1
  have c2 := hk2.cell 2
  have c3 := hk2.cell 3
  have c4 := hk2.cell 4
  have c5 := hk2.cell 5
  simp only [List.getElem?_toArray, List.getElem?_cons_zero, List.getElem?_cons_succ] at c0 c1 c2 c3 c4 c5
  clear hb hk2
  go_wp2_with fail
  refine (T0.out _).mono ?_
  rintro e w3 ⟨rfl, hb⟩
  have B3 := Lib.hid (below_step B2.out hb)
  clear hb c0 c1 c2 c3 c4 c5
  go_wp2_with fail
  refine (I0.out w3 B3.out).mono ?_
  rintro e w4 ⟨rfl, hb⟩
  have B4 := Lib.hid (below_step B3.out hb)
  clear hb
  go_wp2_with fail
  go_ret
  exact ⟨rfl, B4.out⟩
end Go.Proofs.YtmnmdecbehfegaaDoor
