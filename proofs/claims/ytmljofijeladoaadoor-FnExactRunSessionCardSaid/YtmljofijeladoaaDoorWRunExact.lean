/-
  The walk of FnExactRunSession: the program and the reference print the same.
-/
import Derived.Test.YtmljofijeladoaaDoorSesRunI
import Derived.Test.YtmljofijeladoaaDoorMarkStr
import Derived.Test.YtmljofijeladoaaDoorTxtLaid2
namespace Go.Proofs.YtmljofijeladoaaDoor
open Go.RowKit
set_option linter.unusedVariables false

set_option maxHeartbeats 4000000 in
theorem FnExactRunSession_walk (w : World) (a0 : Option Addr) (n0 c0 : Nat) (x0 : List ByteArray) (h0 : InStrs w a0 n0 c0 x0) (ht : TB w) (ha : AT w) (hm : ML w) :
    Calls Tryd.prog 4 #[.slice a0 n0 c0] w fun e w' => e = .returned (.bool true) ∧ Below w.heap.size w w' := by
  obtain ⟨hr, hz, hc1, hc2⟩ := h0
  unfold maxLen at hc2 hz
  have R0 := Lib.hid hr
  have HS := Lib.hid (szStringS_any a0 n0 c0 x0 w 1048576 hr (by omega) (fun s hs => by have := hz s hs; omega) (by omega) (by omega))
  have TT := Lib.hid (fun w1 (hb : Below w.heap.size w w1) => ht.below hb)
  have AA := Lib.hid (fun w1 (hb : Below w.heap.size w w1) => ha.below hb)
  have MM := Lib.hid (fun w1 (hb : Below w.heap.size w w1) => hm.below hb)
  clear hr hz ht ha hm
  obtain ⟨E, hE⟩ : ∃ E, E = baL (sess x0) := ⟨_, rfl⟩
  have SR := Lib.hid (fun A c w1 hx (hn : n0 ≤ 1048576) (hz : ∀ t ∈ x0, t.size ≤ 1048576) => specRun_any A n0 c x0 w1 hx hn (fun t h => by have := hz t h; omega))
  have IR := Lib.hid (fun A c w1 hx (hn : n0 ≤ 1048576) (hz : ∀ t ∈ x0, t.size ≤ 1048576) h1 h2 h3 => implRun_any A n0 c x0 w1 hx hn hz h1 h2 h3)
  rw [← hE] at SR IR
  clear hE
  have cm : (E.toList != E.toList) = false := by simp
  have cm2 : (E.toList == E.toList) = true := by simp
  go_enter Tryd.func4, Tryd.ntmps4
  go_wp2_with fail
  refine HS.out.mono ?_
  rintro e w1 ⟨r, rfl, hr2, hb⟩
  have HR := Lib.hid hr2
  clear hr2 HS
  have B1 := Lib.hid (below_of_drew (B := w.heap.size) hb); clear hb
  by_cases hneg : r < 0
  · go_wp2_with fail
    go_ret
    exact ⟨rfl, B1.out⟩
  have g0 := (HR.out (by omega)).1
  have Z0 := Lib.hid (HR.out (by omega)).2
  go_wp2_with fail
  refine (toStringS_any a0 n0 c0 x0 _ (R0.out.below B1.out) g0).mono ?_
  rintro e w2 ⟨Aa, da, rfl, ho, hb⟩
  have Oa := Lib.hid ho
  have B2 := Lib.hid (below_step B1.out hb); clear ho hb
  go_wp2_with fail
  refine (SR.out Aa da _ (Rd.own Oa.out) g0 Z0.out).mono ?_
  rintro e w3 ⟨rfl, hb⟩
  have B3 := Lib.hid (below_step B2.out hb); clear hb
  go_wp2_with fail
  refine (toStringS_any a0 n0 c0 x0 _ (R0.out.below B3.out) g0).mono ?_
  rintro e w4 ⟨Ax, dx, rfl, ho, hb⟩
  have Ox := Lib.hid ho
  have B4 := Lib.hid (below_step B3.out hb); clear ho hb
  go_wp2_with fail
  refine (IR.out Ax dx _ (Rd.own Ox.out) g0 Z0.out (TT.out _ B4.out) (AA.out _ B4.out) (MM.out _ B4.out)).mono ?_
  rintro e w5 ⟨rfl, hb⟩
  have O5 := Lib.hid (own_below Ox.out hb)
  have B5 := Lib.hid (below_step B4.out hb); clear hb
  go_wp2_with fail
  refine (toStringS_any a0 n0 c0 x0 _ (R0.out.below B5.out) g0).mono ?_
  rintro e w6 ⟨Au, du, rfl, ho, hb⟩
  have Ou := Lib.hid ho
  have O6 := Lib.hid (own_below O5.out hb)
  have B6 := Lib.hid (below_step B5.out hb); clear ho hb
  go_wp2_with fail
  refine (eqStringS_any Ax Au n0 n0 dx du x0 x0 _ (Rd.own O6.out) (Rd.own Ou.out) g0 g0).mono ?_
  rintro e w7 ⟨rfl, hb⟩
  have B7 := Lib.hid (below_step B6.out (below_of_drew (B := w6.heap.size) hb)); clear hb
  go_wp2_with fail
  go_ret
  exact ⟨by simp, B7.out⟩
end Go.Proofs.YtmljofijeladoaaDoor
