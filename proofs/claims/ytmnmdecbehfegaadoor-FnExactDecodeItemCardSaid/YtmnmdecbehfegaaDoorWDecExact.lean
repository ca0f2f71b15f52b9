/-
  The walk of FnExactDecodeItem: the program and the reference read an item alike.
-/
import Derived.Test.YtmnmdecbehfegaaDoorTxtDecS
import Derived.Test.YtmnmdecbehfegaaDoorTxtLaid2
import Derived.Test.YtmnmdecbehfegaaDoorItems3
namespace Go.Proofs.YtmnmdecbehfegaaDoor
open Go.RowKit
set_option linter.unusedVariables false

set_option maxHeartbeats 4000000 in
theorem FnExactDecodeItem_walk (w : World) (s : ByteArray) (hsz : s.size ≤ maxLen) (ht : TB w) (ha : AT w) (hm : ML w) :
    Calls Tryd.prog 6 #[.string s] w fun e w' => e = .returned (.bool true) ∧ Below w.heap.size w w' := by
  unfold maxLen at hsz
  by_cases h0 : (1048576 : Int) < s.size
  · clear ht ha hm
    go_enter Tryd.func6, Tryd.ntmps6
    go_wp2_with fail
    go_ret
    exact ⟨rfl, Below.refl _ _⟩
  have S0 := Lib.hid (fun w1 => decSpec_any s w1 (by omega))
  have I0 := Lib.hid (fun w1 (hb : Below w.heap.size w w1) => decImpl_any s w1 (by omega) (ht.below hb) (ha.below hb) (hm.below hb))
  obtain ⟨r, hr⟩ : ∃ r, r = decI s.data.toList := ⟨_, rfl⟩
  rw [← hr] at S0 I0
  clear hr ht ha hm
  obtain ⟨⟨k, a, b, c, p, f⟩, t⟩ := r
  unfold ReadIs at S0 I0
  simp only at S0 I0
  have EQ := fun w1 => eqItem_any ⟨k, a, b, c, p, f⟩ ⟨k, a, b, c, p, f⟩ w1
  simp only [decide_true] at EQ
  have EQ := Lib.hid EQ
  have hbb : (t != t) = false := by simp
  go_enter Tryd.func6, Tryd.ntmps6
  go_wp2_with fail
  refine (S0.out _).mono ?_
  rintro e w1 ⟨rfl, hb1⟩
  have B1 := Lib.hid hb1
  have BX := Lib.hid (B1.out.alloc B1.out.size (.cells #[.int .i64 k, .int .i64 a, .int .i64 b, .int .i64 c, .int .i64 p, .bool f] 29))
  clear hb1
  go_wp2_with fail
  refine (I0.out _ BX.out).mono ?_
  rintro e w2 ⟨rfl, hb2⟩
  have hx2 : BlkIs w2 w1.heap.size 29 #[.int .i64 k, .int .i64 a, .int .i64 b, .int .i64 c, .int .i64 p, .bool f] := (box_at hb2).1
  have B2 := Lib.hid (below_step BX.out hb2)
  have u0 := hx2.cell 0
  have u1 := hx2.cell 1
  have u2 := hx2.cell 2
  have u3 := hx2.cell 3
  have u4 := hx2.cell 4
  have u5 := hx2.cell 5
  simp only [List.getElem?_toArray, List.getElem?_cons_zero, List.getElem?_cons_succ] at u0 u1 u2 u3 u4 u5
  have l2 : w1.heap.size < w2.heap.size := hx2.lt
  clear hb2 hx2
  have B3 := Lib.hid (B2.out.alloc B2.out.size (.cells #[.int .i64 k, .int .i64 a, .int .i64 b, .int .i64 c, .int .i64 p, .bool f] 29))
  go_wp2_with fail
  refine (EQ.out _).mono ?_
  rintro e w4 ⟨rfl, hb4⟩
  have B4 := Lib.hid (below_step B3.out hb4)
  clear hb4
  go_wp2_with fail
  go_ret
  exact ⟨rfl, B4.out⟩
end Go.Proofs.YtmnmdecbehfegaaDoor
