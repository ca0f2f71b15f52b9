/-
  The walks of FnLevelsOf and FnLevelsDigits: capital letters have the level 1, small letters and digits an even one.
-/
import Derived.Test.YtonkminebememaaLevelsSpec
import Derived.Test.YtonkminebememaaDrawLevels
namespace Go.Proofs.Ytonkminebememaa
open Go.RowKit
set_option linter.unusedVariables false

theorem levels_cell {s : ByteArray} {b : Int} {V : List Int} {A : Option Addr} {n : Nat} {w : World} {k : Nat} (hV : V = levels s b) (h : Rd w 1 A n (ints V)) (hk : k < n) (hn : n = s.size) :
    ∃ g o, A = some ⟨g, o, none⟩ ∧ w.cell? ⟨g, o + k, none⟩ = some (.int .i64 (levAt s b k)) := by
  obtain ⟨g, o, x, e, ex, hc⟩ := h.int_at hk
  rw [hV, levels_get (by omega)] at ex
  injection ex with ex
  exact ⟨g, o, e, by rw [hc, ex]⟩

set_option maxHeartbeats 8000000 in
theorem FnLevelsOf_walk (w : World) (a0 : Option Addr) (n0 c0 : Nat) (x0 : List Int) (h0 : InBytes w a0 n0 c0 x0) :
    Calls Try.prog 4 #[.slice a0 n0 c0] w fun e w' => e = .returned (.bool true) ∧ Below w.heap.size w w' := by
  have HD := Lib.hid (DrawLevelsOf_any w a0 n0 c0 x0 h0)
  clear h0
  by_cases g0 : n0 ≤ 1048576
  case neg =>
    go_enter Try.func4, Try.ntmps4
    go_wp2
    go_ret
    exact ⟨rfl, Below.refl _ _⟩
  go_enter Try.func4, Try.ntmps4
  go_wp2_with fail
  refine HD.out.mono ?_
  rintro e w1 ⟨s, b, rfl, hs, hb0, hb1, hB⟩
  have B0 := Lib.hid hB
  clear hB HD
  have HN := Lib.hid (@lvls_ne s b)
  obtain ⟨V, hV⟩ : ∃ V, V = lvls s b := ⟨_, rfl⟩
  rw [← hV] at HN
  have HV := Lib.hid hV
  clear hV
  go_wp2_with fail
  refine (implLevels_any s b _ (by omega)).mono ?_
  rintro e u1 ⟨Ag, kg, dg, rfl, hk, ho, hb⟩
  rw [← HV.out] at hk ho
  have Kg := Lib.hid hk; clear hk
  have Og := Lib.hid ho; clear ho
  have B1 := Lib.hid hb; clear hb
  have C1 := Lib.hid (below_step (Below.refl w1.heap.size w1) B1.out)
  have hkg : kg ≤ 14 := by
    rcases Nat.decEq kg 0 with h | h
    · have h2 := HN.out (by rw [← Kg.out]; exact h)
      rw [Kg.out, h2.2.2.2.2]; exact hs
    · omega
  go_wp2_with fail
  refine (specLevels_any s b _ (by omega)).mono ?_
  rintro e u2 ⟨As, ks, ds, rfl, hk, ho, hb⟩
  rw [← HV.out] at hk ho
  rw [← Kg.out] at hk
  subst hk
  have Os := Lib.hid ho; clear ho
  have B2 := Lib.hid hb; clear hb
  have C2 := Lib.hid (below_step C1.out B2.out)
  have G2 := Lib.hid (own_below Og.out B2.out)
  go_wp2_with fail
  refine (equalInts_any Ag As ks ks dg ds V V _ (Rd.own G2.out) (Rd.own Os.out) (by omega) (by omega)).mono ?_
  rintro e u3 ⟨rfl, hb⟩
  have B3 := Lib.hid (below_of_drew (B := u2.heap.size) hb); clear hb
  have C3 := Lib.hid (below_step C2.out B3.out)
  have G3 := Lib.hid (own_below G2.out B3.out)
  by_cases hk : ks = 0
  case pos =>
    have hk' : ((ks : Int) == 0) = true := by simp [hk]
    clear hk
    go_wp2_with fail
    refine (specLevels_any s b _ (by omega)).mono ?_
    rintro e u4 ⟨At, kt, dt, rfl, hk, ho, hb⟩
    rw [← HV.out] at hk ho
    rw [← Kg.out] at hk
    subst hk
    have Ot := Lib.hid ho; clear ho
    have B4 := Lib.hid hb; clear hb
    have C4 := Lib.hid (below_step C3.out B4.out)
    have G4 := Lib.hid (own_below G3.out B4.out)
    go_wp2_with fail
    refine (equalInts_any Ag At kt kt dg dt V V _ (Rd.own G4.out) (Rd.own Ot.out) (by omega) (by omega)).mono ?_
    rintro e u5 ⟨rfl, hb⟩
    have C5 := Lib.hid (below_step C4.out (below_of_drew (B := u4.heap.size) hb)); clear hb
    go_wp2_with fail
    go_ret
    exact ⟨ret_bool (by simp), below_step B0.out C5.out⟩
  have hk' : ((ks : Int) == 0) = false := by simp; omega
  obtain ⟨hvt, hv0, hv1, hVl, hVs⟩ := HN.out (by rw [← Kg.out]; exact hk)
  rw [← Kg.out] at hVs
  have HL : Hid (V = levels s b) := HV.out.trans (HV.out.symm.trans hVl)
  subst hVs
  clear hVl hvt
  go_wp2_with fail
  go_loopw [6] (fun i wr => ∃ k q : Nat, k ≤ s.size ∧ i = .int .i64 (k : Int) ∧ wr = u3.drewN q) (fun i _ => s.size - (intOf i).toNat)
  case atStart => exact ⟨0, 0, Nat.zero_le _, rfl, rfl⟩
  case round =>
    obtain ⟨k, q, hk, rfl, rfl⟩ := hrel
    have hk0 : (0 : Int) ≤ (k : Int) := by omega
    by_cases hlt : k < s.size
    case neg =>
      obtain rfl : k = s.size := by omega
      go_wp2_with fail
      go_ret
      exact ⟨ret_bool (by simp), below_step B0.out (below_drewN' C3.out q)⟩
    have hlt' : (k : Int) < (s.size : Int) := by omega
    obtain ⟨g, o, rfl, hc⟩ := levels_cell HL.out (Rd.own G3.out) hlt rfl
    have hbd := levAt_bd (s := s) hv0 hv1 k
    have hz := zone_of s[k]
    have HC : Hid (clsAt s k = cls s[k]) := clsAt_eq hlt
    obtain ⟨v, hv⟩ : ∃ v, v = levAt s b k := ⟨_, rfl⟩
    rw [← hv] at hc hbd
    have HW := Lib.hid hv
    clear hv
    obtain ⟨hvl, hvh⟩ := hbd
    obtain ⟨hx0, hx1, hz⟩ := hz
    rcases hz with ⟨a, hz⟩ | ⟨a, a', hz⟩ | ⟨a, a', hz⟩ | ⟨a, a', hz⟩ | ⟨a, a', hz⟩ | ⟨a, a', hz⟩ | ⟨a, hz⟩
    case inr.inr.inr.inl =>
      have e : v = 1 := by rw [HW.out]; exact levAt_upper (by rw [HC.out]; exact hz)
      subst e
      go_wp2_with fail
      go_roundw
      case rel => exact ⟨k + 1, _, by omega, by go_num, rfl⟩
      case measure => simp [intOf] <;> omega
    case inr.inr.inr.inr.inr.inl =>
      have e : v = 2 * b := by rw [HW.out]; exact levAt_lower (by rw [HC.out]; exact hz)
      have e2 : v = 0 ∨ v = 2 := by omega
      clear e
      rcases e2 with rfl | rfl
      all_goals
        go_wp2_with fail
        go_roundw
        case rel => exact ⟨k + 1, _, by omega, by go_num, rfl⟩
        case measure => simp [intOf] <;> omega
    all_goals
      go_wp2_with fail
      go_roundw
      case rel => exact ⟨k + 1, _, by omega, by go_num, rfl⟩
      case measure => simp [intOf] <;> omega

set_option maxHeartbeats 8000000 in
theorem FnLevelsDigits_walk (w : World) (a0 : Option Addr) (n0 c0 : Nat) (x0 : List Int) (h0 : InBytes w a0 n0 c0 x0) :
    Calls Try.prog 3 #[.slice a0 n0 c0] w fun e w' => e = .returned (.bool true) ∧ Below w.heap.size w w' := by
  have HD := Lib.hid (DrawLevelsOf_any w a0 n0 c0 x0 h0)
  clear h0
  by_cases g0 : n0 ≤ 1048576
  case neg =>
    go_enter Try.func3, Try.ntmps3
    go_wp2
    go_ret
    exact ⟨rfl, Below.refl _ _⟩
  go_enter Try.func3, Try.ntmps3
  go_wp2_with fail
  refine HD.out.mono ?_
  rintro e w1 ⟨s, b, rfl, hs, hb0, hb1, hB⟩
  have B0 := Lib.hid hB
  clear hB HD
  have HN := Lib.hid (@lvls_ne s b)
  obtain ⟨V, hV⟩ : ∃ V, V = lvls s b := ⟨_, rfl⟩
  rw [← hV] at HN
  have HV := Lib.hid hV
  clear hV
  go_wp2_with fail
  refine (implLevels_any s b _ (by omega)).mono ?_
  rintro e u1 ⟨Ag, kg, dg, rfl, hk, ho, hb⟩
  rw [← HV.out] at hk ho
  have Kg := Lib.hid hk; clear hk
  have Og := Lib.hid ho; clear ho
  have B1 := Lib.hid hb; clear hb
  have C1 := Lib.hid (below_step (Below.refl w1.heap.size w1) B1.out)
  have hkg : kg ≤ 14 := by
    rcases Nat.decEq kg 0 with h | h
    · have h2 := HN.out (by rw [← Kg.out]; exact h)
      rw [Kg.out, h2.2.2.2.2]; exact hs
    · omega
  go_wp2_with fail
  refine (specLevels_any s b _ (by omega)).mono ?_
  rintro e u2 ⟨As, ks, ds, rfl, hk, ho, hb⟩
  rw [← HV.out] at hk ho
  rw [← Kg.out] at hk
  subst hk
  have Os := Lib.hid ho; clear ho
  have B2 := Lib.hid hb; clear hb
  have C2 := Lib.hid (below_step C1.out B2.out)
  have G2 := Lib.hid (own_below Og.out B2.out)
  go_wp2_with fail
  refine (equalInts_any Ag As ks ks dg ds V V _ (Rd.own G2.out) (Rd.own Os.out) (by omega) (by omega)).mono ?_
  rintro e u3 ⟨rfl, hb⟩
  have B3 := Lib.hid (below_of_drew (B := u2.heap.size) hb); clear hb
  have C3 := Lib.hid (below_step C2.out B3.out)
  have G3 := Lib.hid (own_below G2.out B3.out)
  by_cases hk : ks = s.size
  case neg =>
    have hk' : ((ks : Int) != (s.size : Int)) = true := by simp; omega
    clear hk
    go_wp2_with fail
    refine (specLevels_any s b _ (by omega)).mono ?_
    rintro e u4 ⟨At, kt, dt, rfl, hk, ho, hb⟩
    rw [← HV.out] at hk ho
    rw [← Kg.out] at hk
    subst hk
    have Ot := Lib.hid ho; clear ho
    have B4 := Lib.hid hb; clear hb
    have C4 := Lib.hid (below_step C3.out B4.out)
    have G4 := Lib.hid (own_below G3.out B4.out)
    go_wp2_with fail
    refine (equalInts_any Ag At kt kt dg dt V V _ (Rd.own G4.out) (Rd.own Ot.out) (by omega) (by omega)).mono ?_
    rintro e u5 ⟨rfl, hb⟩
    have C5 := Lib.hid (below_step C4.out (below_of_drew (B := u4.heap.size) hb)); clear hb
    go_wp2_with fail
    go_ret
    exact ⟨ret_bool (by simp), below_step B0.out C5.out⟩
  have hk' : ((s.size : Int) != (s.size : Int)) = false := by simp
  subst hk
  go_wp2_with fail
  go_loopw [6] (fun i wr => ∃ k q : Nat, k ≤ s.size ∧ i = .int .i64 (k : Int) ∧ wr = u3.drewN q) (fun i _ => s.size - (intOf i).toNat)
  case atStart => exact ⟨0, 0, Nat.zero_le _, rfl, rfl⟩
  case round =>
    obtain ⟨k, q, hk, rfl, rfl⟩ := hrel
    have hk0 : (0 : Int) ≤ (k : Int) := by omega
    by_cases hlt : k < s.size
    case neg =>
      obtain rfl : k = s.size := by omega
      go_wp2_with fail
      go_ret
      exact ⟨rfl, below_step B0.out (below_drewN' C3.out q)⟩
    have hlt' : (k : Int) < (s.size : Int) := by omega
    obtain ⟨hvt, hv0, hv1, hVl, hVs⟩ := HN.out (by rw [← Kg.out]; omega)
    have HL : Hid (V = levels s b) := HV.out.trans (HV.out.symm.trans hVl)
    clear hVl hVs hvt
    obtain ⟨g, o, rfl, hc⟩ := levels_cell HL.out (Rd.own G3.out) hlt rfl
    have hz := zone_of s[k]
    have HC : Hid (clsAt s k = cls s[k]) := clsAt_eq hlt
    obtain ⟨v, hv⟩ : ∃ v, v = levAt s b k := ⟨_, rfl⟩
    rw [← hv] at hc
    have HW := Lib.hid hv
    clear hv
    obtain ⟨hx0, hx1, hz⟩ := hz
    rcases hz with ⟨a, hz⟩ | ⟨a, a', hz⟩ | ⟨a, a', hz⟩ | ⟨a, a', hz⟩ | ⟨a, a', hz⟩ | ⟨a, a', hz⟩ | ⟨a, hz⟩
    case inr.inl =>
      have HC3 : Hid (clsAt s k = 3) := HC.out.trans hz
      have e2 : v = 0 ∨ v = 2 := by
        rw [HW.out, levAt_digit HC3.out]
        split
        · exact .inr rfl
        · exact .inl rfl
      clear hz
      by_cases hk0 : k = 0
      case pos =>
        subst hk0
        rw [Nat.add_zero] at hc
        have hd0 : decide ((0 : Int) < ((0 : Nat) : Int)) = false := rfl
        clear HC HC3
        rcases e2 with rfl | rfl
        all_goals
          go_wp2_with fail
          go_quiet (fail)
          go_wp2_with fail
          go_roundw
          case rel => exact ⟨0 + 1, _, by omega, by go_num, rfl⟩
          case measure => simp [intOf] <;> omega
      have hkp : (0 : Int) < (k : Int) := by omega
      have hkn : 0 < k := by omega
      obtain ⟨m, hm⟩ : ∃ m, m = k - 1 := ⟨_, rfl⟩
      have hkm : (k : Int) - 1 = (m : Int) := by omega
      have hlt1 : m < s.size := by omega
      have hm1 : (m : Int) < (s.size : Int) := by omega
      have HM : Hid (m + 1 = k) := by show m + 1 = k; omega
      clear hm
      obtain ⟨g', o', e, hc'⟩ := levels_cell HL.out (Rd.own G3.out) hlt1 rfl
      injection e with e
      injection e with e1 e2'
      subst e1; subst e2'
      have hz := zone_of s[m]
      have HC' : Hid (clsAt s m = cls s[m]) := clsAt_eq hlt1
      obtain ⟨v', hv'⟩ : ∃ v, v = levAt s b m := ⟨_, rfl⟩
      rw [← hv'] at hc'
      have HW' := Lib.hid hv'
      clear hv'
      obtain ⟨hy0, hy1, hz⟩ := hz
      rcases hz with ⟨c, hz⟩ | ⟨c, c', hz⟩ | ⟨c, c', hz⟩ | ⟨c, c', hz⟩ | ⟨c, c', hz⟩ | ⟨c, c', hz⟩ | ⟨c, hz⟩
      case inr.inl =>
        have e : v' = v := by
          have h := levAt_digits (s := s) (base := b) (k := m) (HC'.out.trans hz) (by rw [HM.out]; exact HC3.out)
          rw [HM.out] at h
          rw [HW'.out, HW.out, h]
        subst e
        clear hz
        rcases e2 with rfl | rfl
        all_goals
          go_wp2_with fail
          go_quiet (fail)
          go_wp2_with fail
          go_roundw
          case rel => exact ⟨k + 1, _, by omega, by go_num, rfl⟩
          case measure => simp [intOf] <;> omega
      case inl =>
        clear hz
        have hdd : decide (48 ≤ s[m].toNat) = false := by simp; omega
        have hdd2 : decide ((48 : Int) ≤ (s[m].toNat : Int)) = false := by simp; omega
        rcases e2 with rfl | rfl
        all_goals
          go_wp2_with fail
          go_quiet (fail)
          go_wp2_with fail
          go_roundw
          case rel => exact ⟨k + 1, _, by omega, by go_num, rfl⟩
          case measure => simp [intOf] <;> omega
      all_goals
        clear hz
        have h48 : (48 : Int) ≤ (s[m].toNat : Int) := by omega
        have hdd : decide (s[m].toNat ≤ 57) = false := by simp; omega
        have hdd2 : decide ((s[m].toNat : Int) ≤ (57 : Int)) = false := by simp; omega
        rcases e2 with rfl | rfl
        all_goals
          go_wp2_with fail
          go_quiet (fail)
          go_wp2_with fail
          go_roundw
          case rel => exact ⟨k + 1, _, by omega, by go_num, rfl⟩
          case measure => simp [intOf] <;> omega
    case inl =>
      clear hz
      have hdd : decide (48 ≤ s[k].toNat) = false := by simp; omega
      have hdd2 : decide ((48 : Int) ≤ (s[k].toNat : Int)) = false := by simp; omega
      go_wp2_with fail
      go_quiet (fail)
      go_wp2_with fail
      go_roundw
      case rel => exact ⟨k + 1, _, by omega, by go_num, rfl⟩
      case measure => simp [intOf] <;> omega
    all_goals
      clear hz
      have h48 : (48 : Int) ≤ (s[k].toNat : Int) := by omega
      have hdd : decide (s[k].toNat ≤ 57) = false := by simp; omega
      have hdd2 : decide ((s[k].toNat : Int) ≤ (57 : Int)) = false := by simp; omega
      go_wp2_with fail
      go_quiet (fail)
      go_wp2_with fail
      go_roundw
      case rel => exact ⟨k + 1, _, by omega, by go_num, rfl⟩
      case measure => simp [intOf] <;> omega
end Go.Proofs.Ytonkminebememaa
