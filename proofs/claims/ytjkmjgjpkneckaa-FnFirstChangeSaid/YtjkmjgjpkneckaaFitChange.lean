/-
  Contracts of FirstChange, the program's word and the reference's, and of the reference's generator of its arguments.
-/
import Derived.Test.YtjkmjgjpkneckaaFitSpec3
import Derived.Test.YtjkmjgjpkneckaaDrawItems2
namespace Go.Proofs.Ytjkmjgjpkneckaa
open Go.RowKit
set_option linter.unusedVariables false

theorem InBytes.below {w w' : World} {a : Option Addr} {n c : Nat} {xs : List Int} (h : InBytes w a n c xs) (hb : Below w.heap.size w w') : InBytes w' a n c xs := ⟨h.1.below hb, h.2⟩

theorem fch_no {xs ys : List It} {wd : Int} (h : ¬ (vItems xs = true ∧ vItems ys = true ∧ inB 1 10000 wd = true)) : fch xs ys wd = -1 := if_neg h

def ChangeIs (w : World) (r : Int) (e : Ending) (w' : World) : Prop := e = .returned (.int .i64 r) ∧ Below w.heap.size w w'

def DwnRel (W : World) (l : List Int) (C : Int) (R : Nat) (i : Value) (wr : World) : Prop :=
  ∃ k : Nat, k ≤ l.length ∧ i = .int .i64 k ∧ dwn l C k = R ∧ wr = W

theorem cpre_nat_le (xs ys : List Int) : cpre xs ys ≤ xs.length := cpre_le xs ys

set_option maxHeartbeats 4000000 in
theorem changeImpl_any (A B : Option Addr) (n m c d : Nat) (wd : Int) (xs ys : List It) (w : World) (hx : Rd w 6 A n (items xs)) (hy : Rd w 6 B m (items ys)) (hn : n ≤ 1048576) (hm : m ≤ 1048576) (hnc : n ≤ c) (hmd : m ≤ d) :
    Calls Try.prog 32 #[.slice A n c, .slice B m d, .int .i64 wd] w (ChangeIs w (fch xs ys wd)) := by
  have X := Lib.hid hx
  have Y := Lib.hid hy
  have HC := Lib.hid (implCommon_any A B n m c d xs ys w hx hy hn hm)
  clear hx hy
  by_cases hv : vItems xs = true ∧ vItems ys = true
  case neg =>
    have FN := Lib.hid (fch_no (wd := wd) (fun h => hv ⟨h.1, h.2.1⟩))
    rw [comItems, if_neg hv] at HC
    clear hv
    go_enter Try.func32, Try.ntmps32
    go_wp2_with (go_at_call 22; refine HC.out.mono ?_; rintro e w1 ⟨rfl, hb⟩; have B1 := Lib.hid hb; clear hb)
    go_ret
    exact ⟨ret_int FN.out.symm, B1.out⟩
  rw [comItems, if_pos hv] at HC
  cases hw : inB 1 10000 wd
  · have FN := Lib.hid (fch_no (wd := wd) (xs := xs) (ys := ys) (fun h => by rw [hw] at h; cases h.2.2))
    have RW := Lib.hid hw
    clear hw hv
    have hK0 : ¬ ((cpre xs ys : Nat) : Int) < 0 := by omega
    go_enter Try.func32, Try.ntmps32
    go_wp2_with (first | (go_at_call 22; refine HC.out.mono ?_; rintro e w1 ⟨rfl, hb⟩; have B1 := Lib.hid hb; clear hb) | (go_at_call 50; refine (within_any _ _ _ _ RW.out _).mono ?_; rintro e w' ⟨rfl, rfl⟩))
    go_ret
    exact ⟨ret_int FN.out.symm, B1.out⟩
  have H : Hid (vItems xs = true ∧ vItems ys = true ∧ inB 1 10000 wd = true) := ⟨hv.1, hv.2, hw⟩
  have FC0 := Lib.hid (fch_ok H.out)
  have RW := Lib.hid hw
  clear hw hv
  obtain ⟨l, hl⟩ : ∃ l, l = FF xs wd := ⟨_, rfl⟩
  obtain ⟨l', hl'⟩ : ∃ l', l' = FF ys wd := ⟨_, rfl⟩
  have hl60 : l.length ≤ 60 := by rw [hl]; have := FF_length xs wd; have := (vItems_parts H.out.1).2.1; omega
  have hl60' : l'.length ≤ 60 := by rw [hl']; have := FF_length ys wd; have := (vItems_parts H.out.2.1).2.1; omega
  have FX := Lib.hid (fun w1 hb => firstFitImpl_any A n c wd xs w1 (X.out.below hb) H.out.1 hnc H.out.2.2)
  have FY := Lib.hid (fun w1 hb => firstFitImpl_any B m d wd ys w1 (Y.out.below hb) H.out.2.1 hmd H.out.2.2)
  rw [← hl] at FX
  rw [← hl'] at FY
  obtain ⟨C, hC⟩ : ∃ C : Nat, C = cpre xs ys := ⟨_, rfl⟩
  obtain ⟨D, hD⟩ : ∃ D : Nat, D = cpre l l' := ⟨_, rfl⟩
  have HD := Lib.hid hD
  obtain ⟨R, hRR⟩ : ∃ R, R = dwn l (C : Int) D := ⟨_, rfl⟩
  have FC : Hid (fch xs ys wd = (R : Int)) := by show _ = _; rw [FC0.out, ← hl, ← hl', ← hC, ← hD, ← hRR]
  rw [← hC] at HC
  have RE := Lib.hid hRR
  clear hl hl' hC hD hRR FC0
  have hK0 : ¬ ((C : Nat) : Int) < 0 := by omega
  go_enter Try.func32, Try.ntmps32
  go_wp2_with fail
  refine HC.out.mono ?_
  rintro e w1 ⟨rfl, hb⟩
  have B1 := Lib.hid hb
  clear hb
  go_wp2_with fail
  refine (within_any _ _ _ _ RW.out _).mono ?_
  rintro e w' ⟨rfl, rfl⟩
  go_wp2_with fail
  refine (FX.out w1 B1.out).mono ?_
  rintro e w2 ⟨v2, rfl, ho, hb⟩
  have O2 := Lib.hid ho
  have B2 := Lib.hid (below_step B1.out hb)
  clear ho hb
  obtain ⟨L, e2, hs, hmd2⟩ := own_shape O2.out
  subst hs
  go_wp2_with fail
  refine (FY.out w2 B2.out).mono ?_
  rintro e w3 ⟨v3, rfl, ho, hb⟩
  have O3 := Lib.hid ho
  have O3a := Lib.hid (own_below O2.out hb)
  have B3 := Lib.hid (below_step B2.out hb)
  clear ho hb
  obtain ⟨L', e3, hs, hmd3⟩ := own_shape O3.out
  subst hs
  go_wp2_with fail
  refine (keptImpl_any L L' _ _ e2 e3 l l' w3 (Rd.own O3a.out) (Rd.own O3.out) (by omega) (by omega)).mono ?_
  rintro e w5 ⟨rfl, hq⟩
  have hb5 := below_of_drew (B := w3.heap.size) hq
  have OF := Lib.hid (own_below O3a.out hb5)
  have BF := Lib.hid (below_step B3.out hb5)
  clear hq hb5
  go_wp2_with fail
  go_loopw [9] (DwnRel w5 l C R) (fun i _ => (intOf i).toNat)
  case atStart => exact ⟨_, cpre_le _ _, rfl, by rw [RE.out, HD.out], rfl⟩
  case round =>
    obtain ⟨k, hk, rfl, hR, rfl⟩ := hrel
    have RR := Lib.hid hR
    clear hR
    cases k with
    | zero =>
      have R0 : Hid (R = 0) := RR.out.symm
      go_wp2
      go_ret
      exact ⟨ret_int (by rw [FC.out, R0.out]), BF.out⟩
    | succ j =>
      obtain ⟨b, o, z, rfl, ez, hcz⟩ := (Rd.own OF.out).int_at (k := j) (by omega)
      have EZ := Lib.hid ez
      clear ez
      have hsub : ((j + 1 : Nat) : Int) - 1 = j := by omega
      by_cases hz : C ≤ z
      · have SK : Hid (dwn l C j = R) := by show _ = _; rw [← RR.out, dwn_step EZ.out hz]
        go_wp2
        go_roundw
        case rel => exact ⟨j, by omega, by first | rfl | go_num, SK.out, rfl⟩
        case measure => simp [intOf] <;> omega
      · have SK : Hid (R = j + 1) := by show _ = _; rw [← RR.out, dwn_stop EZ.out hz]
        go_wp2
        go_ret
        exact ⟨ret_int (by rw [FC.out, SK.out]; omega), BF.out⟩

set_option maxHeartbeats 4000000 in
theorem changeSpec_any (A B : Option Addr) (n m c d : Nat) (wd : Int) (xs ys : List It) (w : World) (hx : Rd w 6 A n (items xs)) (hy : Rd w 6 B m (items ys)) (hn : n ≤ 1048576) (hm : m ≤ 1048576) :
    Calls Try.prog 31 #[.slice A n c, .slice B m d, .int .i64 wd] w (ChangeIs w (fch xs ys wd)) := by
  have X := Lib.hid hx
  have Y := Lib.hid hy
  have VX := Lib.hid (specItems_any A n c xs w hx hn)
  have VY := Lib.hid (fun w1 hb => specItems_any B m d ys w1 (hy.below hb) hm)
  have VW := Lib.hid (validWidth_any wd)
  clear hx hy
  cases hv : vItems xs
  · have FN := Lib.hid (fch_no (wd := wd) (xs := xs) (ys := ys) (fun h => by rw [hv] at h; cases h.1))
    rw [hv] at VX
    clear hv
    go_enter Try.func31, Try.ntmps31
    go_wp2_with (go_at_call 39; refine VX.out.mono ?_; rintro e w1 ⟨rfl, hb⟩; have B1 := Lib.hid hb; clear hb)
    go_ret
    exact ⟨ret_int FN.out.symm, B1.out⟩
  rw [hv] at VX
  cases hv' : vItems ys
  · have FN := Lib.hid (fch_no (wd := wd) (xs := xs) (ys := ys) (fun h => by rw [hv'] at h; cases h.2.1))
    rw [hv'] at VY
    clear hv hv'
    go_enter Try.func31, Try.ntmps31
    go_wp2_with fail
    refine VX.out.mono ?_
    rintro e w1 ⟨rfl, hb⟩
    have B1 := Lib.hid hb
    clear hb
    go_wp2_with (go_at_call 39; refine (VY.out _ B1.out).mono ?_; rintro e w2 ⟨rfl, hb⟩; have B2 := Lib.hid (below_step B1.out hb); clear hb)
    go_ret
    exact ⟨ret_int FN.out.symm, B2.out⟩
  rw [hv'] at VY
  cases hw : inB 1 10000 wd
  · have FN := Lib.hid (fch_no (wd := wd) (xs := xs) (ys := ys) (fun h => by rw [hw] at h; cases h.2.2))
    rw [hw] at VW
    clear hv hv' hw
    go_enter Try.func31, Try.ntmps31
    go_wp2_with fail
    refine VX.out.mono ?_
    rintro e w1 ⟨rfl, hb⟩
    have B1 := Lib.hid hb
    clear hb
    go_wp2_with fail
    refine (VY.out _ B1.out).mono ?_
    rintro e w2 ⟨rfl, hb⟩
    have B2 := Lib.hid (below_step B1.out hb)
    clear hb
    go_wp2_with (go_at_call 48; refine (VW.out _).mono ?_; rintro e w' ⟨rfl, rfl⟩)
    go_ret
    exact ⟨ret_int FN.out.symm, B2.out⟩
  rw [hw] at VW
  have H : Hid (vItems xs = true ∧ vItems ys = true ∧ inB 1 10000 wd = true) := ⟨hv, hv', hw⟩
  have FC0 := Lib.hid (fch_ok H.out)
  clear hw hv hv'
  obtain ⟨l, hl⟩ : ∃ l, l = FF xs wd := ⟨_, rfl⟩
  obtain ⟨l', hl'⟩ : ∃ l', l' = FF ys wd := ⟨_, rfl⟩
  have hl60 : l.length ≤ 60 := by rw [hl]; have := FF_length xs wd; have := (vItems_parts H.out.1).2.1; omega
  have hl60' : l'.length ≤ 60 := by rw [hl']; have := FF_length ys wd; have := (vItems_parts H.out.2.1).2.1; omega
  have FX := Lib.hid (fun w1 hb => firstFitSpec_any A n c wd xs w1 (X.out.below hb) H.out.1 H.out.2.2)
  have FY := Lib.hid (fun w1 hb => firstFitSpec_any B m d wd ys w1 (Y.out.below hb) H.out.2.1 H.out.2.2)
  rw [← hl] at FX
  rw [← hl'] at FY
  obtain ⟨C, hC⟩ : ∃ C : Nat, C = cpre xs ys := ⟨_, rfl⟩
  obtain ⟨D, hD⟩ : ∃ D : Nat, D = cpre l l' := ⟨_, rfl⟩
  have HD := Lib.hid hD
  have HCC := Lib.hid hC
  obtain ⟨R, hRR⟩ : ∃ R, R = dwn l (C : Int) D := ⟨_, rfl⟩
  have FC : Hid (fch xs ys wd = (R : Int)) := by show _ = _; rw [FC0.out, ← hl, ← hl', ← hC, ← hD, ← hRR]
  have RE := Lib.hid hRR
  clear hl hl' hC hD hRR FC0
  go_enter Try.func31, Try.ntmps31
  go_wp2_with fail
  refine VX.out.mono ?_
  rintro e w1 ⟨rfl, hb⟩
  have B1 := Lib.hid hb
  clear hb
  go_wp2_with fail
  refine (VY.out _ B1.out).mono ?_
  rintro e w2 ⟨rfl, hb⟩
  have B2 := Lib.hid (below_step B1.out hb)
  clear hb
  go_wp2_with fail
  refine (VW.out _).mono ?_
  rintro e w' ⟨rfl, rfl⟩
  go_wp2_with fail
  refine (FX.out w2 B2.out).mono ?_
  rintro e w3 ⟨v2, rfl, ho, hb⟩
  have O2 := Lib.hid ho
  have B3 := Lib.hid (below_step B2.out hb)
  clear ho hb
  obtain ⟨L, e2, hs, hmd2⟩ := own_shape O2.out
  subst hs
  go_wp2_with fail
  refine (FY.out w3 B3.out).mono ?_
  rintro e w4 ⟨v3, rfl, ho, hb⟩
  have O3 := Lib.hid ho
  have O3a := Lib.hid (own_below O2.out hb)
  have B4 := Lib.hid (below_step B3.out hb)
  clear ho hb
  obtain ⟨L', e3, hs, hmd3⟩ := own_shape O3.out
  subst hs
  go_wp2_with fail
  refine (keptSpec_any L L' _ _ e2 e3 l l' w4 (Rd.own O3a.out) (Rd.own O3.out) (by omega) (by omega)).mono ?_
  rintro e w6 ⟨rfl, hq⟩
  have hb6 := below_of_drew (B := w4.heap.size) hq
  have O6 := Lib.hid (own_below O3a.out hb6)
  have B6 := Lib.hid (below_step B4.out hb6)
  clear hq hb6
  go_wp2_with fail
  refine (cpItemSpec_any A B n m c d xs ys w6 (X.out.below B6.out) (Y.out.below B6.out) hn hm).mono ?_
  rintro e w5 ⟨rfl, hq⟩
  have hb5 := below_of_drew (B := w6.heap.size) hq
  have OF := Lib.hid (own_below O6.out hb5)
  have BF := Lib.hid (below_step B6.out hb5)
  clear hq hb5
  rw [← HCC.out]
  go_wp2_with fail
  go_loopw [8] (DwnRel w5 l C R) (fun i _ => (intOf i).toNat)
  case atStart => exact ⟨_, cpre_le _ _, rfl, by rw [RE.out, HD.out], rfl⟩
  case round =>
    obtain ⟨k, hk, rfl, hR, rfl⟩ := hrel
    have RR := Lib.hid hR
    clear hR
    cases k with
    | zero =>
      have R0 : Hid (R = 0) := RR.out.symm
      go_wp2
      go_ret
      exact ⟨ret_int (by rw [FC.out, R0.out]), BF.out⟩
    | succ j =>
      obtain ⟨b, o, z, rfl, ez, hcz⟩ := (Rd.own OF.out).int_at (k := j) (by omega)
      have EZ := Lib.hid ez
      clear ez
      have hsub : ((j + 1 : Nat) : Int) - 1 = j := by omega
      by_cases hz : C ≤ z
      · have SK : Hid (dwn l C j = R) := by show _ = _; rw [← RR.out, dwn_step EZ.out hz]
        go_wp2
        go_roundw
        case rel => exact ⟨j, by omega, by first | rfl | go_num, SK.out, rfl⟩
        case measure => simp [intOf] <;> omega
      · have SK : Hid (R = j + 1) := by show _ = _; rw [← RR.out, dwn_stop EZ.out hz]
        go_wp2
        go_ret
        exact ⟨ret_int (by rw [FC.out, SK.out]; omega), BF.out⟩


def SomeW (w : World) (B g : Nat) (A : Option Addr) (n c : Nat) (bs : List Int) (e : Ending) (w' : World) : Prop := ∃ v : Int, e = .returned (.int .i64 v) ∧ w.grownBy w' (some g)

set_option maxHeartbeats 1000000 in
theorem someWidth_any (w : World) (B g : Nat) (A : Option Addr) (n c : Nat) (bs : List Int) (hr : RdrAt w B g A n c bs 0) :
    Calls Try.prog 51 #[.pointer (some ⟨g, 0, none⟩)] w (SomeW w B g A n c bs) := by
  have HR := Lib.hid hr
  clear hr
  go_enter Try.func51, Try.ntmps51
  go_wp2_with fail
  refine (pick_gr _ _ _ A n c bs 0 14 HR.out (by omega) (by omega)).mono ?_
  rintro e w1 ⟨v, rfl, hv0, _, _, hR, hG⟩
  have R1 := Lib.hid hR
  have G1 := Lib.hid hG
  clear hR hG
  by_cases hv : v = 0
  · subst hv
    go_wp2_with fail
    refine (one_lit _ B g A n c bs _ [0, 10001, 10000, 1] _ 4 4 rfl R1.out (by omega) rfl (by omega) (by omega) _).mono ?_
    rintro e w2 ⟨u, rfl, _, _, hG2⟩
    have G2 := Lib.hid (gr_trans G1.out hG2)
    clear hG2
    go_wp2_with fail
    go_ret
    exact ⟨u, rfl, G2.out⟩
  · have hv' : (v == 0) = false := by simpa using hv
    go_wp2_with fail
    refine (one_lit _ B g A n c bs _ [12, 15, 20, 25, 30, 40, 18] _ 7 7 rfl R1.out (by omega) rfl (by omega) (by omega) _).mono ?_
    rintro e w2 ⟨u, rfl, _, _, hG2⟩
    have G2 := Lib.hid (gr_trans G1.out hG2)
    clear hG2
    go_wp2_with fail
    go_ret
    exact ⟨u, rfl, G2.out⟩

def TwoItsW (w : World) (e : Ending) (w' : World) : Prop :=
  ∃ L m d xs L' m' d' ys wd, e = .returned (.tuple #[.slice L m d, .slice L' m' d', .int .i64 wd]) ∧ m ≤ 23 ∧ m' ≤ 23 ∧ m ≤ d ∧ m' ≤ d' ∧ Rd w' 6 L m (items xs) ∧ Rd w' 6 L' m' (items ys) ∧ Below w.heap.size w w'

set_option maxHeartbeats 1000000 in
theorem DrawFirstChange_any (w : World) (a : Option Addr) (n c : Nat) (zs : List Int) (h : InBytes w a n c zs) :
    Calls Try.prog 33 #[.slice a n c] w (TwoItsW w) := by
  have HI := Lib.hid h
  clear h
  go_enter Try.func33, Try.ntmps33
  go_wp2_with fail
  refine (DrawCommonItems_any w a n c zs HI.out).mono ?_
  rintro e w1 ⟨L, m, d, xs, L', m', d', ys, rfl, hm, hm', hmd, hmd', hx, hy, hb⟩
  have B1 := Lib.hid hb
  have X1 := Lib.hid hx
  have Y1 := Lib.hid hy
  clear hb hx hy
  go_wp2_with fail
  refine (newReader_any w1 a n c zs (HI.out.below B1.out)).mono ?_
  rintro e w2 ⟨A, rn, rc, bs, rfl, hR, hb⟩
  have R2 := Lib.hid hR
  have B2 := Lib.hid hb
  clear hR hb
  go_wp2_with fail
  refine (someWidth_any w2 _ _ A rn rc bs R2.out).mono ?_
  rintro e w3 ⟨v, rfl, hG⟩
  have B3 := Lib.hid (below_gr B2.out hG (Nat.le_refl _))
  clear hG
  go_wp2_with fail
  go_ret3
  exact ⟨L, m, d, xs, L', m', d', ys, v, rfl, hm, hm', hmd, hmd', X1.out.below B3.out, Y1.out.below B3.out, below_step B1.out B3.out⟩
end Go.Proofs.Ytjkmjgjpkneckaa
