/-
  The walk of FnItemCanonical: what was read gives its text when written.
-/
import Derived.Test.YtmnmdecbehfegaaDoorTxtDraw2
import Derived.Test.YtmnmdecbehfegaaDoorTxtDecS
import Derived.Test.YtmnmdecbehfegaaDoorTxtLaid2
namespace Go.Proofs.YtmnmdecbehfegaaDoor
open Go.RowKit
set_option linter.unusedVariables false

set_option maxHeartbeats 4000000 in
theorem FnItemCanonical_walk (w : World) (a0 : Option Addr) (n0 c0 : Nat) (x0 : List Int) (h0 : InBytes w a0 n0 c0 x0) (ht : TB w) (ha : AT w) (hm : ML w) :
    Calls Tryd.prog 7 #[.slice a0 n0 c0] w fun e w' => e = .returned (.bool true) ∧ Below w.heap.size w w' := by
  have HD := Lib.hid (drawDec_any w a0 n0 c0 x0 h0)
  have HT := Lib.hid (fun w1 (hb : Below w.heap.size w w1) => ht.below hb)
  have HA := Lib.hid (fun w1 (hb : Below w.heap.size w w1) => ha.below hb)
  have HM := Lib.hid (fun w1 (hb : Below w.heap.size w w1) => hm.below hb)
  clear h0 ht ha hm
  by_cases g0 : n0 ≤ 1048576
  case neg =>
    go_enter Tryd.func7, Tryd.ntmps7
    go_wp2
    go_ret
    exact ⟨rfl, Below.refl _ _⟩
  go_enter Tryd.func7, Tryd.ntmps7
  go_wp2_with fail
  refine HD.out.mono ?_
  rintro e w1 ⟨s, rfl, hs, hb⟩
  have B1 := Lib.hid hb
  clear hb HD
  have S0 := Lib.hid (fun w2 => decSpec_any s w2 (by omega))
  have I0 := Lib.hid (fun w2 (hb : Below w.heap.size w w2) => decImpl_any s w2 (by omega) (HT.out _ hb) (HA.out _ hb) (HM.out _ hb))
  have TR := Lib.hid (fun (x : It) (h : decI s.data.toList = (x, true)) => decI_true h)
  obtain ⟨r, hr⟩ : ∃ r, r = decI s.data.toList := ⟨_, rfl⟩
  rw [← hr] at S0 I0 TR
  clear hr
  obtain ⟨⟨k, a, b, c, p, f⟩, t⟩ := r
  unfold ReadIs at S0 I0
  simp only at S0 I0
  have HEN : Hid (t = true → etxtB ⟨k, a, b, c, p, f⟩ = s) := fun h => by
    subst h
    obtain ⟨hv, e⟩ := TR.out _ rfl
    rw [etxtB_ok hv]
    exact ba_ext e
  have EN := Lib.hid (fun w2 h => encImpl_any ⟨k, a, b, c, p, f⟩ w2 h)
  simp only at EN
  clear TR
  go_wp2_with fail
  refine (I0.out _ B1.out).mono ?_
  rintro e w2 ⟨rfl, hb⟩
  have B2 := Lib.hid ((below_step B1.out hb).alloc (below_step B1.out hb).size (.cells #[.int .i64 k, .int .i64 a, .int .i64 b, .int .i64 c, .int .i64 p, .bool f] 29))
  have X2 := Lib.hid (new_blk w2 #[.int .i64 k, .int .i64 a, .int .i64 b, .int .i64 c, .int .i64 p, .bool f] 29)
  clear hb
  go_wp2_with fail
  refine (S0.out _).mono ?_
  rintro e w3 ⟨rfl, hb⟩
  have hx3 := X2.out.belowE hb
  have B3 := Lib.hid ((below_step B2.out hb).alloc (below_step B2.out hb).size (.cells #[.int .i64 k, .int .i64 a, .int .i64 b, .int .i64 c, .int .i64 p, .bool f] 29))
  have u0 := hx3.cell 0
  have u1 := hx3.cell 1
  have u2 := hx3.cell 2
  have u3 := hx3.cell 3
  have u4 := hx3.cell 4
  have u5 := hx3.cell 5
  simp only [List.getElem?_toArray, List.getElem?_cons_zero, List.getElem?_cons_succ] at u0 u1 u2 u3 u4 u5
  have l3 : w2.heap.size < w3.heap.size := hx3.lt
  clear hb hx3
  cases t
  · go_wp2_with fail
    go_ret
    exact ⟨by simp, B3.out⟩
  rw [HEN.out rfl] at EN
  have g3 : (s.toList == s.toList) = true := by simp
  go_wp2_with fail
  refine (EN.out _ (HT.out _ B3.out)).mono ?_
  rintro e w4 ⟨rfl, hb⟩
  have B4 := Lib.hid (below_step B3.out hb)
  clear hb
  go_wp2_with fail
  go_ret
  exact ⟨by simp, B4.out⟩
end Go.Proofs.YtmnmdecbehfegaaDoor
