/-
  The walk of FnChangeCommon: the lines before the first change end at items that both paragraphs have in common.
-/
import Derived.Test.YtjkmjgjpkneckaaFitChange
import Derived.StillTailTactics
import Derived.Deep.RegionHeld3
namespace Go.Proofs.Ytjkmjgjpkneckaa
open Go.RowKit
set_option linter.unusedVariables false

set_option maxHeartbeats 4000000 in
theorem FnChangeCommon_walk (w : World) (a0 : Option Addr) (n0 c0 : Nat) (x0 : List Int) (h0 : InBytes w a0 n0 c0 x0) :
    Calls Try.prog 11 #[.slice a0 n0 c0] w fun e w' => e = .returned (.bool true) ∧ Below w.heap.size w w' := by
  have HD := Lib.hid (DrawFirstChange_any w a0 n0 c0 x0 h0)
  clear h0
  by_cases g0 : n0 ≤ 1048576
  case neg =>
    go_enter Try.func11, Try.ntmps11
    go_wp2
    go_ret
    exact ⟨rfl, Below.refl _ _⟩
  go_enter Try.func11, Try.ntmps11
  go_wp2_with fail
  refine HD.out.mono ?_
  rintro e w1 ⟨L, m, d, xs, L', m', d', ys, wd, rfl, hm, hm', hmd, hmd', hx, hy, hB⟩
  have B1 := Lib.hid hB
  have X1 := Lib.hid hx
  have Y1 := Lib.hid hy
  clear hB hx hy HD
  have H1 := Lib.hid (changeImpl_any L L' m m' d d' wd xs ys w1 X1.out Y1.out (by omega) (by omega) hmd hmd')
  obtain ⟨F, hF⟩ : ∃ F, F = fch xs ys wd := ⟨_, rfl⟩
  rw [← hF] at H1
  have HF := Lib.hid hF
  clear hF
  go_wp2_with fail
  refine H1.out.mono ?_
  rintro e w2 ⟨rfl, hb⟩
  have B2 := Lib.hid hb; clear hb
  have H2 := Lib.hid (changeSpec_any L L' m m' d d' wd xs ys w2 (X1.out.below B2.out) (Y1.out.below B2.out) (by omega) (by omega))
  rw [← HF.out] at H2
  clear H1
  by_cases hneg : F < 1
  · go_wp2_with fail
    refine H2.out.mono ?_
    rintro e w3 ⟨rfl, hb⟩
    have B3 := Lib.hid hb; clear hb
    have H3 := Lib.hid (changeSpec_any L L' m m' d d' wd xs ys w3 ((X1.out.below B2.out).below B3.out) ((Y1.out.below B2.out).below B3.out) (by omega) (by omega))
    rw [← HF.out] at H3
    go_wp2_with fail
    refine H3.out.mono ?_
    rintro e w4 ⟨rfl, hb⟩
    have B4 := Lib.hid hb; clear hb
    go_wp2_with fail
    go_ret
    exact ⟨by simp, below_step (below_step (below_step B1.out B2.out) B3.out) B4.out⟩
  have hval := fch_valid (xs := xs) (ys := ys) (wd := wd) (by rw [← HF.out]; omega)
  have hok := fch_ok hval
  have hle := dwn_le (FF xs wd) (cpre xs ys : Nat) (cpre (FF xs wd) (FF ys wd))
  have hcl := cpre_le (FF xs wd) (FF ys wd)
  have hlast := dwn_last (FF xs wd) (cpre xs ys : Nat) (cpre (FF xs wd) (FF ys wd)) hcl
  have hF2 := HF.out
  rw [hok] at hF2
  obtain ⟨R, hR⟩ : ∃ R, R = dwn (FF xs wd) (cpre xs ys : Nat) (cpre (FF xs wd) (FF ys wd)) := ⟨_, rfl⟩
  rw [← hR] at hF2 hle hlast
  clear hR hok
  subst hF2
  obtain ⟨z, hz, hzc⟩ := hlast (by omega)
  have hFF := Lib.hid (fun w3 hr => firstFitImpl_any L m d wd xs w3 hr hval.1 hmd hval.2.2)
  have HC := Lib.hid (fun w4 hr hr' => implCommon_any L L' m m' d d' xs ys w4 hr hr' (by omega) (by omega))
  rw [comItems, if_pos ⟨hval.1, hval.2.1⟩] at HC
  obtain ⟨l, hl⟩ : ∃ l, l = FF xs wd := ⟨_, rfl⟩
  have hl60 : l.length ≤ 60 := by rw [hl]; have := FF_length xs wd; have := (vItems_parts hval.1).2.1; omega
  rw [← hl] at hFF hz hcl hle
  have HZ := Lib.hid hz
  have hRl : R ≤ l.length := by omega
  obtain ⟨C, hC⟩ : ∃ C : Nat, C = cpre xs ys := ⟨_, rfl⟩
  rw [← hC] at HC hzc
  obtain ⟨p, rfl⟩ : ∃ p, R = p + 1 := ⟨R - 1, by omega⟩
  clear hval hl hz hcl hle hlast hC HF
  go_wp2_with fail
  refine H2.out.mono ?_
  rintro e w3 ⟨rfl, hb⟩
  have B3 := Lib.hid (below_step B2.out hb); clear hb
  go_wp2_with fail
  refine (hFF.out w3 (X1.out.below B3.out)).mono ?_
  rintro e w4 ⟨v, rfl, ho, hb⟩
  have O4 := Lib.hid ho
  have B4 := Lib.hid (below_step B3.out hb)
  clear ho hb
  obtain ⟨A, e4, hs, hmd4⟩ := own_shape O4.out
  subst hs
  have RL := Rd.own O4.out
  obtain ⟨b, o, z', rfl, ez, hcz⟩ := RL.int_at (k := p) (by omega)
  have EZ := Lib.hid ez
  clear ez RL
  have hzz : z' = z := by
    have h1 := HZ.out
    rw [show p + 1 - 1 = p from rfl, EZ.out] at h1
    injection h1
  subst hzz
  have CQ : Hid (∀ v : Ext w4, Calls Try.prog 22 #[.slice L m d, .slice L' m' d'] v.val fun e w' => e = .returned (.int .i64 (C : Nat)) ∧ Below v.val.heap.size v.val w') := fun v =>
    HC.out v.val ((X1.out.below B4.out).below v.property) ((Y1.out.below B4.out).below v.property)
  have BB := Lib.hid (below_step B1.out B4.out)
  clear HC hFF H2 HZ
  have hp0 : p ≤ 60 := by omega
  have hd1 : decide ((p : Int) + 1 ≤ (l.length : Int)) = true := decide_eq_true (by omega)
  have hd2 : decide (p + 1 ≤ l.length) = true := decide_eq_true (by omega)
  have hpl : p < l.length := by omega
  have hcx := ext_cell hcz
  have hzd : decide (z' < (C : Int)) = true := decide_eq_true hzc
  go_wp2_with fail
  refine wp_region_ext (by kernel_rfl) (by kernel_rfl) ?_
  repeat (go_big_quiet_step ((go_at_call 22; exact ext_call (CQ.out _))))
  refine wpQuiet_nil ?_
  intro w5 hw5
  have B5 := Lib.hid (below_step BB.out (ext_below hw5))
  clear hw5
  go_wp2_with fail
  go_ret
  exact ⟨by simp, B5.out⟩
end Go.Proofs.Ytjkmjgjpkneckaa
