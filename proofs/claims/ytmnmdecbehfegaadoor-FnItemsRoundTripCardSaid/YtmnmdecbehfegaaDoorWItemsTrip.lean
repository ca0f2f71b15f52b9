/-
  The walk of FnItemsRoundTrip: a paragraph that was written is read again.
-/
import Derived.Test.YtmnmdecbehfegaaDoorTxtDrawI
import Derived.Test.YtmnmdecbehfegaaDoorTxtDIi
import Derived.Test.YtmnmdecbehfegaaDoorTxtLaid2
namespace Go.Proofs.YtmnmdecbehfegaaDoor
open Go.RowKit
set_option linter.unusedVariables false

set_option maxHeartbeats 4000000 in
theorem FnItemsRoundTrip_walk (w : World) (a0 : Option Addr) (n0 c0 : Nat) (x0 : List Int) (h0 : InBytes w a0 n0 c0 x0) (ht : TB w) (ha : AT w) (hm : ML w) :
    Calls Tryd.prog 9 #[.slice a0 n0 c0] w fun e w' => e = .returned (.bool true) ∧ Below w.heap.size w w' := by
  have HD := Lib.hid (drawEncs_any w a0 n0 c0 x0 h0)
  have HT := Lib.hid (fun w1 (hb : Below w.heap.size w w1) => ht.below hb)
  have HA := Lib.hid (fun w1 (hb : Below w.heap.size w w1) => ha.below hb)
  have HM := Lib.hid (fun w1 (hb : Below w.heap.size w w1) => hm.below hb)
  clear h0 ht ha hm
  by_cases g0 : n0 ≤ 1048576
  case neg =>
    go_enter Tryd.func9, Tryd.ntmps9
    go_wp2
    go_ret
    exact ⟨rfl, Below.refl _ _⟩
  go_enter Tryd.func9, Tryd.ntmps9
  go_wp2_with fail
  refine HD.out.mono ?_
  rintro e w1 ⟨L, m, d, xs, rfl, hml, ho, hb⟩
  have B1 := Lib.hid hb
  have O1 := Lib.hid ho
  clear hb ho HD
  have IM := Lib.hid (fun w2 h ht => encsImpl_any L m d xs w2 h (by omega) ht)
  have SC := Lib.hid (fun w2 h => encsSpec_any L m d xs w2 h (by omega))
  have hz := eitsB_size xs
  cases hv : vItems xs
  · have E0 : eitsB xs = ⟨#[]⟩ := eitsB_no hv
    rw [E0] at IM SC
    clear E0 hv hz
    go_wp2_with fail
    refine (IM.out _ (Rd.own O1.out) (HT.out _ B1.out)).mono ?_
    rintro e w2 ⟨rfl, hb⟩
    have O2 := Lib.hid (own_below O1.out hb)
    have B2 := Lib.hid (below_step B1.out hb)
    clear hb
    go_wp2_with fail
    refine (SC.out _ (Rd.own O2.out)).mono ?_
    rintro e w3 ⟨rfl, hb⟩
    have O3 := Lib.hid (own_below O2.out hb)
    have B3 := Lib.hid (below_step B2.out hb)
    clear hb
    go_wp2_with fail
    refine (SC.out _ (Rd.own O3.out)).mono ?_
    rintro e w4 ⟨rfl, hb⟩
    have B4 := Lib.hid (below_step B3.out hb)
    clear hb
    go_wp2_with fail
    go_ret
    exact ⟨rfl, B4.out⟩
  have hne : ¬ eitsB xs = baL [] := by
    intro e
    have h1 := baL_inj ((eitsB_ok hv).symm.trans e)
    have h3 := (vItems_each hv).2.2
    cases xs with
    | nil => simp at h3
    | cons y t =>
      rw [jI_cons] at h1
      by_cases hn : t = []
      · rw [if_pos hn] at h1; exact itxt_ne y h1
      · rw [if_neg hn] at h1; simp at h1
  have DI := Lib.hid (fun w2 (hb : Below w.heap.size w w2) => implDecs_any (eitsB xs) w2 (by omega) (HT.out _ hb) (HA.out _ hb) (HM.out _ hb))
  have HDE : decIs (eitsB xs).data.toList = (xs, true) := by rw [eitsB_ok hv]; exact decIs_some hv
  rw [HDE] at DI
  unfold ReadsIs at DI
  simp only at DI
  have g1 := str_otherL hne
  have g2 : ((eitsB xs).toList == (⟨#[]⟩ : ByteArray).toList) = false := str_parts hne
  have g3 : ((eitsB xs).toList == (eitsB xs).toList) = true := by simp
  clear hne HDE hv hz
  obtain ⟨E, hE⟩ : ∃ E, E = eitsB xs := ⟨_, rfl⟩
  rw [← hE] at IM SC DI g1 g2 g3
  clear hE
  go_wp2_with fail
  refine (IM.out _ (Rd.own O1.out) (HT.out _ B1.out)).mono ?_
  rintro e w2 ⟨rfl, hb⟩
  have O2 := Lib.hid (own_below O1.out hb)
  have B2 := Lib.hid (below_step B1.out hb)
  clear hb
  go_wp2_with fail
  refine (SC.out _ (Rd.own O2.out)).mono ?_
  rintro e w3 ⟨rfl, hb⟩
  have O3 := Lib.hid (own_below O2.out hb)
  have B3 := Lib.hid (below_step B2.out hb)
  clear hb
  go_wp2_with fail
  refine (DI.out _ B3.out).mono ?_
  rintro e w4 ⟨Ag, kg, dg, rfl, ho, mg, hb⟩
  have Og := Lib.hid ho
  have O4 := Lib.hid (own_below O3.out hb)
  have B4 := Lib.hid (below_step B3.out hb)
  clear hb ho
  go_wp2_with fail
  refine (equalSame_any Ag L kg m dg d xs _ (Rd.own Og.out) (Rd.own O4.out) (by omega) (by omega)).mono ?_
  rintro e w5 ⟨rfl, hb⟩
  have B5 := Lib.hid (below_step B4.out hb)
  clear hb
  go_wp2_with fail
  go_ret
  exact ⟨rfl, B5.out⟩
end Go.Proofs.YtmnmdecbehfegaaDoor
