/-
  The walk of FnItemsCanonical: what was read gives its text when written, and is a paragraph.
-/
import Derived.Test.YtmnmdecbehfegaaDoorTxtDrawI
import Derived.Test.YtmnmdecbehfegaaDoorTxtDIi
import Derived.Test.YtmnmdecbehfegaaDoorTxtLaid2
namespace Go.Proofs.YtmnmdecbehfegaaDoor
open Go.RowKit
set_option linter.unusedVariables false

set_option maxHeartbeats 4000000 in
theorem FnItemsCanonical_walk (w : World) (a0 : Option Addr) (n0 c0 : Nat) (x0 : List Int) (h0 : InBytes w a0 n0 c0 x0) (ht : TB w) (ha : AT w) (hm : ML w) :
    Calls Tryd.prog 10 #[.slice a0 n0 c0] w fun e w' => e = .returned (.bool true) ∧ Below w.heap.size w w' := by
  have HD := Lib.hid (drawDecs_any w a0 n0 c0 x0 h0)
  have HT := Lib.hid (fun w1 (hb : Below w.heap.size w w1) => ht.below hb)
  have HA := Lib.hid (fun w1 (hb : Below w.heap.size w w1) => ha.below hb)
  have HM := Lib.hid (fun w1 (hb : Below w.heap.size w w1) => hm.below hb)
  clear h0 ht ha hm
  by_cases g0 : n0 ≤ 1048576
  case neg =>
    go_enter Tryd.func10, Tryd.ntmps10
    go_wp2
    go_ret
    exact ⟨rfl, Below.refl _ _⟩
  go_enter Tryd.func10, Tryd.ntmps10
  go_wp2_with fail
  refine HD.out.mono ?_
  rintro e w1 ⟨s, rfl, hs, hb⟩
  have B1 := Lib.hid hb
  clear hb HD
  have S0 := Lib.hid (fun w2 => specDecs_any s w2 (by omega))
  have I0 := Lib.hid (fun w2 (hb : Below w.heap.size w w2) => implDecs_any s w2 (by omega) (HT.out _ hb) (HA.out _ hb) (HM.out _ hb))
  have TR := Lib.hid (fun (l : List It) (h : decIs s.data.toList = (l, true)) => decIs_true h)
  obtain ⟨r, hr⟩ : ∃ r, r = decIs s.data.toList := ⟨_, rfl⟩
  rw [← hr] at S0 I0 TR
  clear hr
  obtain ⟨zs, t⟩ := r
  unfold ReadsIs at S0 I0
  simp only at S0 I0
  have HEN : Hid (t = true → vItems zs = true ∧ eitsB zs = s) := fun h => by
    subst h
    obtain ⟨hv, e⟩ := TR.out _ rfl
    refine ⟨hv, ?_⟩
    rw [eitsB_ok hv]
    exact ba_ext e
  clear TR
  go_wp2_with fail
  refine (I0.out _ B1.out).mono ?_
  rintro e w2 ⟨Ag, kg, dg, rfl, ho, mg, hb⟩
  have Og := Lib.hid ho
  have B2 := Lib.hid (below_step B1.out hb)
  clear ho hb
  go_wp2_with fail
  refine (S0.out _).mono ?_
  rintro e w3 ⟨Aw, kw, dw, rfl, ho, mw, hb⟩
  have Ow := Lib.hid ho
  have O3 := Lib.hid (own_below Og.out hb)
  have B3 := Lib.hid (below_step B2.out hb)
  clear ho hb
  have hbb : (t != t) = false := by simp
  have hbe : (t == t) = true := by simp
  go_wp2_with fail
  refine (equalSame_any Ag Aw kg kw dg dw zs _ (Rd.own O3.out) (Rd.own Ow.out) (by omega) (by omega)).mono ?_
  rintro e w4 ⟨rfl, hb⟩
  have O4 := Lib.hid (own_below O3.out hb)
  have W4 := Lib.hid (own_below Ow.out hb)
  have B4 := Lib.hid (below_step B3.out hb)
  clear hb
  cases t
  · go_wp2_with fail
    refine (equalSame_any Ag Aw kg kw dg dw zs _ (Rd.own O4.out) (Rd.own W4.out) (by omega) (by omega)).mono ?_
    rintro e w5 ⟨rfl, hb⟩
    have B5 := Lib.hid (below_step B4.out hb)
    clear hb
    go_wp2_with fail
    go_ret
    exact ⟨rfl, B5.out⟩
  obtain ⟨hv, hes⟩ := HEN.out rfl
  have EN := Lib.hid (fun w2 h ht => encsImpl_any Ag kg dg zs w2 h (by omega) ht)
  rw [hes] at EN
  have VI := Lib.hid (fun w2 h => implItems_any Ag kg dg zs w2 h (by omega))
  rw [hv] at VI
  clear hv hes HEN
  have g3 : (s.toList == s.toList) = true := by simp
  go_wp2_with fail
  refine (EN.out _ (Rd.own O4.out) (HT.out _ B4.out)).mono ?_
  rintro e w5 ⟨rfl, hb⟩
  have O5 := Lib.hid (own_below O4.out hb)
  have B5 := Lib.hid (below_step B4.out hb)
  clear hb
  go_wp2_with fail
  refine (VI.out _ (Rd.own O5.out)).mono ?_
  rintro e w6 ⟨rfl, hb⟩
  have B6 := Lib.hid (below_step B5.out hb)
  clear hb
  go_wp2_with fail
  go_ret
  exact ⟨rfl, B6.out⟩
end Go.Proofs.YtmnmdecbehfegaaDoor
