/-
  The walk of FnValidPlaced: parts of valid texts are valid, also in a larger picture.
-/
import Derived.Test.YtigcbnehcofbcaaDrawPlaced2
namespace Go.Proofs.Ytigcbnehcofbcaa
open Go.RowKit
set_option linter.unusedVariables false

theorem vPlaced_take {l : List Pl} {pw ph : Int} (h : vPlaced l pw ph = true) (k : Nat) : vPlaced (l.take k) pw ph = true := by
  simp only [vPlaced, Bool.and_eq_true, decide_eq_true_eq, List.all_eq_true] at h ⊢
  obtain ⟨⟨⟨h1, h2⟩, h3⟩, h4⟩ := h
  exact ⟨⟨⟨h1, h2⟩, by rw [List.length_take]; omega⟩, fun x hx => h4 x (List.mem_of_mem_take hx)⟩

theorem vPlaced_larger {l : List Pl} {pw ph pw' ph' : Int} (h : vPlaced l pw ph = true) (h1 : pw ≤ pw') (h2 : ph ≤ ph') (h3 : pw' ≤ 60) (h4 : ph' ≤ 60) : vPlaced l pw' ph' = true := by
  simp only [vPlaced, Bool.and_eq_true, decide_eq_true_eq, List.all_eq_true, inB_iff, vPl] at h ⊢
  obtain ⟨⟨⟨g1, g2⟩, g3⟩, g4⟩ := h
  refine ⟨⟨⟨⟨by omega, h3⟩, by omega, h4⟩, g3⟩, fun x hx => ?_⟩
  obtain ⟨⟨⟨e1, e2⟩, e3⟩, e4⟩ := g4 x hx
  exact ⟨⟨⟨e1, e2⟩, by omega, by omega⟩, by omega, by omega⟩

theorem flat_take {α : Type} (f : α → List Value) (s : Nat) (hs : ∀ x, (f x).length = s) : ∀ (l : List α) (k : Nat), (l.flatMap f).take (k * s) = (l.take k).flatMap f
  | l, 0 => by simp
  | [], k + 1 => by simp
  | x :: l, k + 1 => by
    have ih := flat_take f s hs l k
    rw [List.flatMap_cons, List.take_append, hs, List.take_of_length_le (by rw [hs, Nat.add_mul]; omega), show (k + 1) * s - s = k * s from by rw [Nat.add_mul]; omega, ih, List.take_succ_cons, List.flatMap_cons]

set_option maxHeartbeats 4000000 in
theorem FnValidPlaced_walk (w : World) (a0 : Option Addr) (n0 c0 : Nat) (x0 : List Int) (h0 : InBytes w a0 n0 c0 x0) (a1 : Option Addr) (n1 c1 : Nat) (x1 : List Int) (h1 : InBytes w a1 n1 c1 x1) :
    Calls Try.prog 4 #[.slice a0 n0 c0, .slice a1 n1 c1] w fun e w' => e = .returned (.bool true) ∧ Below w.heap.size w w' := by
  have HD := Lib.hid (DrawValidPlaced_any w a0 n0 c0 x0 h0)
  clear h0 h1
  by_cases g0 : n0 ≤ 1048576
  case neg =>
    have g0' : decide ((1048576 : Int) < n0) = true := by simp; omega
    go_enter Try.func4, Try.ntmps4
    go_wp2
    go_ret
    exact ⟨rfl, Below.refl _ _⟩
  by_cases g1 : n1 ≤ 1048576
  case neg =>
    go_enter Try.func4, Try.ntmps4
    go_wp2
    go_ret
    exact ⟨rfl, Below.refl _ _⟩
  go_enter Try.func4, Try.ntmps4
  go_wp2_with fail
  refine HD.out.mono ?_
  rintro e w1 ⟨L, m, d, xs, pw, ph, rfl, hm, hmd, hx, hxs, hw0, hw1, hh0, hh1, hB⟩
  have X1 := Lib.hid hx
  have XS : Hid (∀ p ∈ xs, p.t.size ≤ 1048576) := fun p hp => by have := hxs p hp; omega
  have B1 := Lib.hid hB
  clear hx hxs hB HD
  have HI := Lib.hid (implValidPlaced_any L m d xs w1 pw ph X1.out (by omega) XS.out)
  cases hv : vPlaced xs pw ph
  · have HV := Lib.hid hv
    rw [hv] at HI
    clear hv
    go_wp2_with fail
    refine HI.out.mono ?_
    rintro e w2 ⟨rfl, hb⟩
    have B2 := Lib.hid hb
    clear hb HI
    have HS := Lib.hid (specValidPlaced_any L m d xs w2 pw ph (X1.out.below B2.out) (by omega) XS.out)
    rw [HV.out] at HS
    go_wp2_with fail
    refine HS.out.mono ?_
    rintro e w3 ⟨rfl, hb⟩
    have B3 := Lib.hid hb
    clear hb HS
    have HS := Lib.hid (specValidPlaced_any L m d xs w3 pw ph ((X1.out.below B2.out).below B3.out) (by omega) XS.out)
    rw [HV.out] at HS
    go_wp2_with fail
    refine HS.out.mono ?_
    rintro e w4 ⟨rfl, hb⟩
    have B4 := Lib.hid hb
    clear hb HS
    go_wp2_with fail
    go_ret
    exact ⟨rfl, below_step (below_step (below_step B1.out B2.out) B3.out) B4.out⟩
  have HV := Lib.hid hv
  rw [hv] at HI
  have hwp : 1 ≤ pw ∧ pw ≤ 60 ∧ ph ≤ 60 := by
    simp only [vPlaced, Bool.and_eq_true, inB_iff] at hv
    omega
  clear hv
  obtain ⟨hwp1, hwp2, hwp3⟩ := hwp
  go_wp2_with fail
  refine HI.out.mono ?_
  rintro e w2 ⟨rfl, hb⟩
  have B2 := Lib.hid hb
  clear hb HI
  have HS := Lib.hid (specValidPlaced_any L m d xs w2 pw ph (X1.out.below B2.out) (by omega) XS.out)
  rw [HV.out] at HS
  have hmod1 : 0 ≤ (n1 : Int) % ((m : Int) + 1) := Int.emod_nonneg _ (by omega)
  have hmod2 : (n1 : Int) % ((m : Int) + 1) < (m : Int) + 1 := Int.emod_lt_of_pos _ (by omega)
  go_wp2_with fail
  refine HS.out.mono ?_
  rintro e w3 ⟨rfl, hb⟩
  have B3 := Lib.hid hb
  clear hb HS
  go_wp2_with fail
  have X3 := Lib.hid ((X1.out.below B2.out).below B3.out)
  have hkm : n1 % (m + 1) ≤ m := Nat.le_of_lt_succ (Nat.mod_lt _ (by omega))
  have hx4 := X3.out.take hkm
  rw [placeds, flat_take Pl.cells 3 Pl.cells_length] at hx4
  have HJ := Lib.hid (implValidPlaced_any L (n1 % (m + 1)) d (xs.take (n1 % (m + 1))) w3 pw ph hx4 (by omega) (fun p hp => XS.out p (List.mem_of_mem_take hp)))
  rw [vPlaced_take HV.out] at HJ
  clear hx4
  refine HJ.out.mono ?_
  rintro e w4 ⟨rfl, hb⟩
  have B4 := Lib.hid hb
  clear hb HJ
  by_cases k1 : (60 : Int) ≤ pw
  case pos =>
    have HI := Lib.hid (implValidPlaced_any L m d xs w4 60 (ph + 1) (X3.out.below B4.out) (by omega) XS.out)
    rw [vPlaced_larger HV.out (by omega) (by omega) (by omega) (by omega)] at HI
    go_wp2_with fail
    refine HI.out.mono ?_
    rintro e w5 ⟨rfl, hb⟩
    have B5 := Lib.hid hb
    clear hb
    go_wp2_with fail
    go_ret
    exact ⟨rfl, below_step (below_step (below_step (below_step B1.out B2.out) B3.out) B4.out) B5.out⟩
  case neg =>
    have HI := Lib.hid (implValidPlaced_any L m d xs w4 (pw + 1) (ph + 1) (X3.out.below B4.out) (by omega) XS.out)
    rw [vPlaced_larger HV.out (by omega) (by omega) (by omega) (by omega)] at HI
    go_wp2_with fail
    refine HI.out.mono ?_
    rintro e w5 ⟨rfl, hb⟩
    have B5 := Lib.hid hb
    clear hb
    go_wp2_with fail
    go_ret
    exact ⟨rfl, below_step (below_step (below_step (below_step B1.out B2.out) B3.out) B4.out) B5.out⟩
end Go.Proofs.Ytigcbnehcofbcaa
