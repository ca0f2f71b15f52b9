/-
  The walk of FnFirstChange: the lines before the first change are equal, and a paragraph does not differ from itself.
-/
import Derived.Test.YtjkmjgjpkneckaaFitChange
import Derived.StillTailTactics
import Derived.Deep.RegionHeld3
namespace Go.Proofs.Ytjkmjgjpkneckaa
open Go.RowKit
set_option linter.unusedVariables false

set_option maxHeartbeats 4000000 in
theorem FnFirstChange_walk (w : World) (a0 : Option Addr) (n0 c0 : Nat) (x0 : List Int) (h0 : InBytes w a0 n0 c0 x0) :
    Calls Try.prog 12 #[.slice a0 n0 c0] w fun e w' => e = .returned (.bool true) ∧ Below w.heap.size w w' := by
  have HD := Lib.hid (DrawFirstChange_any w a0 n0 c0 x0 h0)
  clear h0
  by_cases g0 : n0 ≤ 1048576
  case neg =>
    go_enter Try.func12, Try.ntmps12
    go_wp2
    go_ret
    exact ⟨rfl, Below.refl _ _⟩
  go_enter Try.func12, Try.ntmps12
  go_wp2_with fail
  refine HD.out.mono ?_
  rintro e w1 ⟨L, m, d, xs, L', m', d', ys, wd, rfl, hm, hm', hmd, hmd', hx, hy, hB⟩
  have B1 := Lib.hid hB
  have X1 := Lib.hid hx
  have Y1 := Lib.hid hy
  clear hB hx hy HD
  have H1 := Lib.hid (changeImpl_any L L' m m' d d' wd xs ys w1 X1.out Y1.out (by omega) (by omega) hmd hmd')
  obtain ⟨F, hF⟩ : ∃ F, F = fch xs ys wd := ⟨_, rfl⟩
  rw [← hF] at H1
  have HF := Lib.hid hF
  clear hF
  go_wp2_with fail
  refine H1.out.mono ?_
  rintro e w2 ⟨rfl, hb⟩
  have B2 := Lib.hid hb; clear hb
  have H2 := Lib.hid (changeSpec_any L L' m m' d d' wd xs ys w2 (X1.out.below B2.out) (Y1.out.below B2.out) (by omega) (by omega))
  rw [← HF.out] at H2
  clear H1
  by_cases hneg : F < 0
  · go_wp2_with fail
    refine H2.out.mono ?_
    rintro e w3 ⟨rfl, hb⟩
    have B3 := Lib.hid hb; clear hb
    have H3 := Lib.hid (changeSpec_any L L' m m' d d' wd xs ys w3 ((X1.out.below B2.out).below B3.out) ((Y1.out.below B2.out).below B3.out) (by omega) (by omega))
    rw [← HF.out] at H3
    go_wp2_with fail
    refine H3.out.mono ?_
    rintro e w4 ⟨rfl, hb⟩
    have B4 := Lib.hid hb; clear hb
    go_wp2_with fail
    go_ret
    exact ⟨by simp, below_step (below_step (below_step B1.out B2.out) B3.out) B4.out⟩
  have hval := fch_valid (xs := xs) (ys := ys) (wd := wd) (by rw [← HF.out]; omega)
  have hok := fch_ok hval
  have hle := dwn_le (FF xs wd) (cpre xs ys : Nat) (cpre (FF xs wd) (FF ys wd))
  have hF2 := HF.out
  rw [hok] at hF2
  obtain ⟨R, hR⟩ : ∃ R, R = dwn (FF xs wd) (cpre xs ys : Nat) (cpre (FF xs wd) (FF ys wd)) := ⟨_, rfl⟩
  rw [← hR] at hF2 hle
  clear hR hok
  subst hF2
  have hFX := Lib.hid (fun w3 hr => firstFitImpl_any L m d wd xs w3 hr hval.1 hmd hval.2.2)
  have hFY := Lib.hid (fun w3 hr => firstFitImpl_any L' m' d' wd ys w3 hr hval.2.1 hmd' hval.2.2)
  have HC := Lib.hid (fun w4 hr => changeImpl_any L L m m d d wd xs xs w4 hr hr (by omega) (by omega) hmd hmd)
  rw [fch_self hval.1 hval.2.2] at HC
  obtain ⟨l, hl⟩ : ∃ l, l = FF xs wd := ⟨_, rfl⟩
  obtain ⟨l', hl'⟩ : ∃ l', l' = FF ys wd := ⟨_, rfl⟩
  have hl60 : l.length ≤ 60 := by rw [hl]; have := FF_length xs wd; have := (vItems_parts hval.1).2.1; omega
  have hl60' : l'.length ≤ 60 := by rw [hl']; have := FF_length ys wd; have := (vItems_parts hval.2.1).2.1; omega
  rw [← hl] at hFX HC
  rw [← hl'] at hFY
  rw [← hl, ← hl'] at hle
  have hRl : R ≤ l.length := Nat.le_trans hle (cpre_le l l')
  have hRl' : R ≤ l'.length := Nat.le_trans hle (by rw [cpre_comm]; exact cpre_le l' l)
  have EQ : Hid (l.take R = l'.take R) := by
    show _ = _
    have h := congrArg (List.take R) (cpre_take l l')
    rwa [List.take_take, List.take_take, Nat.min_eq_left hle] at h
  clear hval hl hl' hle HF
  go_wp2_with fail
  refine H2.out.mono ?_
  rintro e w3 ⟨rfl, hb⟩
  have B3 := Lib.hid (below_step B2.out hb); clear hb
  go_wp2_with fail
  refine (hFX.out w3 (X1.out.below B3.out)).mono ?_
  rintro e w4 ⟨v, rfl, ho, hb⟩
  have O4 := Lib.hid ho
  have B4 := Lib.hid (below_step B3.out hb)
  clear ho hb
  obtain ⟨A, e4, hs, hmd4⟩ := own_shape O4.out
  subst hs
  have hRe := own_slice0 O4.out
  go_wp2_with fail
  refine (hFY.out w4 (Y1.out.below B4.out)).mono ?_
  rintro e w5 ⟨v, rfl, ho, hb⟩
  have O5 := Lib.hid ho
  have O5a := Lib.hid (own_below O4.out hb)
  have B5 := Lib.hid (below_step B4.out hb)
  clear ho hb
  obtain ⟨A', e5, hs, hmd5⟩ := own_shape O5.out
  subst hs
  have hRe' := own_slice0 O5.out
  have CQ : Hid (∀ v : Ext w5, Calls Try.prog 32 #[.slice L m d, .slice L m d, .int .i64 wd] v.val fun e w' => e = .returned (.int .i64 (l.length : Nat)) ∧ Below v.val.heap.size v.val w') := fun v =>
    HC.out v.val ((X1.out.below B5.out).below v.property)
  have CE : Hid (∀ v : Ext w5, Calls Try.prog 18 #[.slice A R e4, .slice A' R e5] v.val fun e w' => e = .returned (.bool true) ∧ Below v.val.heap.size v.val w') := fun v => by
    have hx := ((Rd.own O5a.out).below v.property).take hRl
    have hy := ((Rd.own O5.out).below v.property).take hRl'
    rw [Nat.mul_one, ints, ← List.map_take] at hx hy
    have h := equalInts_any A A' R R e4 e5 (l.take R) (l'.take R) v.val hx hy (by omega) (by omega)
    rw [EQ.out] at h
    refine h.mono fun e w' ⟨h1, h2⟩ => ⟨by simpa using h1, below_of_drew h2⟩
  have BB := Lib.hid (below_step B1.out B5.out)
  have hd1 : decide ((R : Int) ≤ (l.length : Int)) = true := decide_eq_true (by omega)
  have hd2 : decide (R ≤ l.length) = true := decide_eq_true (by omega)
  have hd3 : decide ((R : Int) ≤ (l'.length : Int)) = true := decide_eq_true (by omega)
  have hd4 : decide (R ≤ l'.length) = true := decide_eq_true (by omega)
  have hRi : (R : Int) ≤ (l.length : Int) := by omega
  have hRi' : (R : Int) ≤ (l'.length : Int) := by omega
  have hRc : (R : Int) ≤ (e4 : Int) := by omega
  have hRc' : (R : Int) ≤ (e5 : Int) := by omega
  have hR0 : (0 : Int) ≤ (R : Int) := by omega
  clear HC hFX hFY H2
  go_wp2_with fail
  refine wp_region_ext (by kernel_rfl) (by kernel_rfl) ?_
  repeat (go_big_quiet_step ((first | (go_at_call 32; exact ext_call (CQ.out _)) | (go_at_call 18; exact ext_call (CE.out _)))))
  refine wpQuiet_nil ?_
  intro w6 hw6
  have B6 := Lib.hid (below_step BB.out (ext_below hw6))
  clear hw6
  go_wp2_with fail
  go_ret
  exact ⟨by simp, B6.out⟩
end Go.Proofs.Ytjkmjgjpkneckaa
