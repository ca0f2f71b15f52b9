/-
  The walk of FnItemRoundTrip: an item that was written is read again.
-/
import Derived.Test.YtmnmdecbehfegaaDoorTxtDraw2
import Derived.Test.YtmnmdecbehfegaaDoorTxtDecS
import Derived.Test.YtmnmdecbehfegaaDoorTxtLaid2
namespace Go.Proofs.YtmnmdecbehfegaaDoor
open Go.RowKit
set_option linter.unusedVariables false

set_option maxHeartbeats 4000000 in
theorem FnItemRoundTrip_walk (w : World) (a0 : Option Addr) (n0 c0 : Nat) (x0 : List Int) (h0 : InBytes w a0 n0 c0 x0) (ht : TB w) (ha : AT w) (hm : ML w) :
    Calls Tryd.prog 5 #[.slice a0 n0 c0] w fun e w' => e = .returned (.bool true) ∧ Below w.heap.size w w' := by
  have HD := Lib.hid (drawEnc_any w a0 n0 c0 x0 h0)
  have HT := Lib.hid (fun w1 (hb : Below w.heap.size w w1) => ht.below hb)
  have HA := Lib.hid (fun w1 (hb : Below w.heap.size w w1) => ha.below hb)
  have HM := Lib.hid (fun w1 (hb : Below w.heap.size w w1) => hm.below hb)
  clear h0 ht ha hm
  by_cases g0 : n0 ≤ 1048576
  case neg =>
    go_enter Tryd.func5, Tryd.ntmps5
    go_wp2
    go_ret
    exact ⟨rfl, Below.refl _ _⟩
  go_enter Tryd.func5, Tryd.ntmps5
  go_wp2_with fail
  refine HD.out.mono ?_
  rintro e w1 ⟨⟨k, a, b, c, p, f⟩, rfl, hb⟩
  have B1 := Lib.hid (hb.alloc hb.size (.cells #[.int .i64 k, .int .i64 a, .int .i64 b, .int .i64 c, .int .i64 p, .bool f] 29))
  have X1 := Lib.hid (new_blk w1 #[.int .i64 k, .int .i64 a, .int .i64 b, .int .i64 c, .int .i64 p, .bool f] 29)
  clear hb HD
  have IM := Lib.hid (fun w2 h => encImpl_any ⟨k, a, b, c, p, f⟩ w2 h)
  have SC := Lib.hid (fun w2 => encSpec_any ⟨k, a, b, c, p, f⟩ w2)
  simp only at IM SC
  have hz := etxtB_size ⟨k, a, b, c, p, f⟩
  cases hv : vIt ⟨k, a, b, c, p, f⟩
  · have E0 : etxtB ⟨k, a, b, c, p, f⟩ = ⟨#[]⟩ := etxtB_no hv
    rw [E0] at IM SC
    clear E0 hv hz
    go_wp2_with fail
    refine (IM.out _ (HT.out _ B1.out)).mono ?_
    rintro e w2 ⟨rfl, hb⟩
    have hx2 := X1.out.belowE hb
    have X2 := Lib.hid hx2
    have B2 := Lib.hid (below_step B1.out hb)
    have u0 := hx2.cell 0
    have u1 := hx2.cell 1
    have u2 := hx2.cell 2
    have u3 := hx2.cell 3
    have u4 := hx2.cell 4
    have u5 := hx2.cell 5
    simp only [List.getElem?_toArray, List.getElem?_cons_zero, List.getElem?_cons_succ] at u0 u1 u2 u3 u4 u5
    clear hb hx2
    go_wp2_with fail
    refine (SC.out _).mono ?_
    rintro e w3 ⟨rfl, hb⟩
    have hx3 := X2.out.belowE hb
    have B3 := Lib.hid (below_step B2.out hb)
    clear u0 u1 u2 u3 u4 u5
    have u0 := hx3.cell 0
    have u1 := hx3.cell 1
    have u2 := hx3.cell 2
    have u3 := hx3.cell 3
    have u4 := hx3.cell 4
    have u5 := hx3.cell 5
    simp only [List.getElem?_toArray, List.getElem?_cons_zero, List.getElem?_cons_succ] at u0 u1 u2 u3 u4 u5
    clear hb hx3
    go_wp2_with fail
    refine (SC.out _).mono ?_
    rintro e w4 ⟨rfl, hb⟩
    have B4 := Lib.hid (below_step B3.out hb)
    clear hb
    go_wp2_with fail
    go_ret
    exact ⟨rfl, B4.out⟩
  have hne : ¬ etxtB ⟨k, a, b, c, p, f⟩ = baL [] := by
    intro e
    have h1 := (etxtB_ok hv).symm.trans e
    have h2 := decI_some hv
    rw [show itxt ⟨k, a, b, c, p, f⟩ = [] from baL_inj h1] at h2
    rw [show decI [] = (⟨0, 0, 0, 0, 0, false⟩, false) from decI_empty (s := baL []) rfl] at h2
    injection h2 with _ h2
    cases h2
  have DI := Lib.hid (fun w2 (hb : Below w.heap.size w w2) => decImpl_any (etxtB ⟨k, a, b, c, p, f⟩) w2 (by omega) (HT.out _ hb) (HA.out _ hb) (HM.out _ hb))
  have HDE : decI (etxtB ⟨k, a, b, c, p, f⟩).data.toList = (⟨k, a, b, c, p, f⟩, true) := by rw [etxtB_ok hv]; exact decI_some hv
  rw [HDE] at DI
  unfold ReadIs at DI
  simp only at DI
  have g1 := str_otherL hne
  have g2 : ((etxtB ⟨k, a, b, c, p, f⟩).toList == (⟨#[]⟩ : ByteArray).toList) = false := str_parts hne
  have g3 : ((etxtB ⟨k, a, b, c, p, f⟩).toList == (etxtB ⟨k, a, b, c, p, f⟩).toList) = true := by simp
  clear hne HDE hv hz
  obtain ⟨E, hE⟩ : ∃ E, E = etxtB ⟨k, a, b, c, p, f⟩ := ⟨_, rfl⟩
  rw [← hE] at IM SC DI g1 g2 g3
  clear hE
  go_wp2_with fail
  refine (IM.out _ (HT.out _ B1.out)).mono ?_
  rintro e w2 ⟨rfl, hb⟩
  have hx2 := X1.out.belowE hb
  have X2 := Lib.hid hx2
  have B2 := Lib.hid (below_step B1.out hb)
  have u0 := hx2.cell 0
  have u1 := hx2.cell 1
  have u2 := hx2.cell 2
  have u3 := hx2.cell 3
  have u4 := hx2.cell 4
  have u5 := hx2.cell 5
  simp only [List.getElem?_toArray, List.getElem?_cons_zero, List.getElem?_cons_succ] at u0 u1 u2 u3 u4 u5
  clear hb hx2
  go_wp2_with fail
  refine (SC.out _).mono ?_
  rintro e w3 ⟨rfl, hb⟩
  have X3 := Lib.hid (X2.out.belowE hb)
  have B3 := Lib.hid (below_step B2.out hb)
  clear hb
  go_wp2_with fail
  refine (DI.out _ B3.out).mono ?_
  rintro e w4 ⟨rfl, hb⟩
  have hx4 := X3.out.belowE hb
  have B4 := Lib.hid (below_step B3.out hb)
  clear u0 u1 u2 u3 u4 u5
  have u0 := hx4.cell 0
  have u1 := hx4.cell 1
  have u2 := hx4.cell 2
  have u3 := hx4.cell 3
  have u4 := hx4.cell 4
  have u5 := hx4.cell 5
  simp only [List.getElem?_toArray, List.getElem?_cons_zero, List.getElem?_cons_succ] at u0 u1 u2 u3 u4 u5
  have l4 : w1.heap.size < w4.heap.size := hx4.lt
  clear hb hx4
  go_wp2_with fail
  go_ret
  exact ⟨by simp, B4.out.alloc B4.out.size _⟩
end Go.Proofs.YtmnmdecbehfegaaDoor
