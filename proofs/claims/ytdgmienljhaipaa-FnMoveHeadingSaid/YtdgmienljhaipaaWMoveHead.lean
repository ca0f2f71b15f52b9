/-
  The walk of FnMoveHeading: the program and the reference move alike, each level stands as often as before, and the result is an outline.
-/
import Derived.Test.YtdgmienljhaipaaMoveHead
import Derived.Test.YtdgmienljhaipaaMoveImpl
import Derived.Test.YtdgmienljhaipaaDrawMove
namespace Go.Proofs.Ytdgmienljhaipaa
open Go.RowKit
set_option linter.unusedVariables false

theorem mvR_cases (xs : List Int) (i k : Int) : (mvR xs i k = ([], false)) ∨ (∃ zs, mvR xs i k = (zs, true) ∧ vOutline zs = true ∧ zs.length = xs.length ∧ ∀ x : Int, zs.count x = xs.count x) := by
  unfold mvR
  split
  · rename_i h
    obtain ⟨h1, h2, h3, h4, h5⟩ := h
    right
    rw [inB_iff] at h2 h3
    refine ⟨_, rfl, h5, mvL_length (by omega) (by omega) h4, fun x => mvL_count (by omega) x⟩
  · exact .inl rfl
def CntRel (xs zs : List Int) (m : Nat) (x : Int) (u3 : World) (a b i : Value) (wr : World) : Prop :=
  ∃ j q : Nat, j ≤ m ∧ i = .int .i64 (j : Int) ∧ a = .int .i64 (((xs.take j).count x : Nat) : Int) ∧ b = .int .i64 (((zs.take j).count x : Nat) : Int) ∧ wr = u3.drewN q
theorem count_step {xs : List Int} {k : Nat} {y x : Int} (h : xs[k]? = some y) : (xs.take (k + 1)).count x = (xs.take k).count x + (if y = x then 1 else 0) := by
  rw [List.take_add_one, h, List.count_append]
  simp [List.count_cons]
theorem count_le (xs : List Int) (x : Int) (k : Nat) : (xs.take k).count x ≤ k := Nat.le_trans List.count_le_length (by rw [List.length_take]; omega)

set_option maxHeartbeats 8000000 in
theorem FnMoveHeading_walk (w : World) (a0 : Option Addr) (n0 c0 : Nat) (x0 : List Int) (h0 : InBytes w a0 n0 c0 x0) :
    Calls Try.prog 7 #[.slice a0 n0 c0] w fun e w' => e = .returned (.bool true) ∧ Below w.heap.size w w' := by
  have HD := Lib.hid (DrawMoveHeading_any w a0 n0 c0 x0 h0)
  clear h0
  by_cases g0 : n0 ≤ 1048576
  case neg =>
    go_enter Try.func7, Try.ntmps7
    go_wp2
    go_ret
    exact ⟨rfl, Below.refl _ _⟩
  go_enter Try.func7, Try.ntmps7
  go_wp2_with fail
  refine HD.out.mono ?_
  rintro e w1 ⟨L, m, d, xs, i, k, rfl, hm, hmd, hx, hi0, hi1, hk0, hk1, hB⟩
  have B0 := Lib.hid hB
  have X0 := Lib.hid hx
  have XL := Lib.hid hx.len
  clear hB hx HD
  have HM := Lib.hid (mvR_cases xs i k)
  obtain ⟨zs, bb, hz⟩ : ∃ zs bb, mvR xs i k = (zs, bb) := ⟨_, _, rfl⟩
  rw [hz] at HM
  have HZ := Lib.hid hz
  clear hz
  have hzl : zs.length ≤ 9 := by
    rcases HM.out with h | ⟨ys, h, _, h2, _⟩
    · injection h with h _
      rw [h]; simp
    · injection h with h _
      rw [h, h2, XL.out]; omega
  have hbb : (bb != bb) = false := by simp
  go_wp2_with fail
  refine (implMove_any L m d xs i k _ X0.out (by omega) hmd).mono ?_
  rintro e u1 ⟨Ag, kg, dg, rfl, ho, hb⟩
  rw [HZ.out] at ho ⊢
  have Og := Lib.hid ho; clear ho
  have B1 := Lib.hid hb; clear hb
  have C1 := Lib.hid (below_step (Below.refl w1.heap.size w1) B1.out)
  have Kg := Lib.hid (Rd.own Og.out).len
  go_wp2_with fail
  refine (specMove_any L m d xs i k _ (X0.out.below C1.out) (by omega) hmd).mono ?_
  rintro e u2 ⟨As, ks, ds, rfl, ho, hb⟩
  rw [HZ.out] at ho ⊢
  have Os := Lib.hid ho; clear ho
  have B2 := Lib.hid hb; clear hb
  have C2 := Lib.hid (below_step C1.out B2.out)
  have G2 := Lib.hid (own_below Og.out B2.out)
  have Ks := Lib.hid (Rd.own Os.out).len
  have hkg : kg ≤ 9 := by rw [← Kg.out]; exact hzl
  have hks : ks ≤ 9 := by rw [← Ks.out]; exact hzl
  go_wp2_with fail
  refine (equalInts_any Ag As kg ks dg ds zs zs _ (Rd.own G2.out) (Rd.own Os.out) (by omega) (by omega)).mono ?_
  rintro e u3 ⟨rfl, hb⟩
  have B3 := Lib.hid (below_of_drew (B := u2.heap.size) hb); clear hb
  have C3 := Lib.hid (below_step C2.out B3.out)
  have G3 := Lib.hid (own_below G2.out B3.out)
  have O3 := Lib.hid (own_below Os.out B3.out)
  cases bb
  · go_wp2_with fail
    refine (equalInts_any Ag As kg ks dg ds zs zs _ (Rd.own G3.out) (Rd.own O3.out) (by omega) (by omega)).mono ?_
    rintro e u4 ⟨rfl, hb⟩
    have C4 := Lib.hid (below_step C3.out (below_of_drew (B := u3.heap.size) hb)); clear hb
    go_wp2_with fail
    go_ret
    exact ⟨ret_bool (by simp), below_step B0.out C4.out⟩
  have HM2 : Hid (vOutline zs = true ∧ zs.length = xs.length ∧ ∀ x : Int, zs.count x = xs.count x) := by
    rcases HM.out with h | ⟨ys, h, h1, h2, h3⟩
    · injection h with _ h
      cases h
    · injection h with h _
      subst h
      exact ⟨h1, h2, h3⟩
  have hkm : kg = m := by rw [← Kg.out, HM2.out.2.1, XL.out]
  subst hkm
  have X3 := Lib.hid (X0.out.below C3.out)
  have CV := Lib.hid (implOutline_any Ag kg dg zs)
  go_wp2_with fail
  go_loopw [10] (fun i wr => ∃ (x : Int) (q : Nat), 1 ≤ x ∧ x ≤ 5 ∧ i = .int .i64 x ∧ wr = u3.drewN q) (fun i _ => 5 - (intOf i).toNat)
  case atStart => exact ⟨1, 0, by omega, by omega, rfl, rfl⟩
  case round =>
    obtain ⟨x, q, hx1, hx5, rfl, rfl⟩ := hrel
    by_cases hx4 : x ≤ 4
    case neg =>
      have hm' : ((kg : Int) == (kg : Int)) = true := by simp
      have CW := Lib.hid (CV.out (u3.drewN q) ((Rd.own G3.out).drewN q) (by omega))
      rw [HM2.out.1] at CW
      go_wp2_with fail
      refine CW.out.mono ?_
      rintro e w' ⟨rfl, rfl⟩
      go_wp2_with fail
      go_ret
      exact ⟨rfl, below_step B0.out (below_drewN' C3.out q)⟩
    go_wp2_with fail
    go_loopw [11, 12, 13] (CntRel xs zs kg x u3) (fun _ _ i _ => kg - (intOf i).toNat)
    case atStart => exact ⟨0, q, Nat.zero_le _, rfl, by simp, by simp, rfl⟩
    case round =>
      obtain ⟨j, q2, hj, rfl, rfl, rfl, rfl⟩ := hrel
      have hj0 : (0 : Int) ≤ (j : Int) := by omega
      by_cases hlt : j < kg
      case neg =>
        obtain rfl : kg = j := by omega
        have e1 : (xs.take kg).count x = xs.count x := by rw [List.take_of_length_le (by rw [XL.out]; exact Nat.le_refl _)]
        have e2 : (zs.take kg).count x = xs.count x := by rw [List.take_of_length_le (by rw [Kg.out]; exact Nat.le_refl _), HM2.out.2.2 x]
        rw [e1, e2]
        have hnn : (((xs.count x : Nat) : Int) != ((xs.count x : Nat) : Int)) = false := by simp
        clear e1 e2
        go_wp2_with fail
        go_roundw
        case rel => exact ⟨x + 1, q2, by omega, by omega, by go_num, rfl⟩
        case measure => simp [intOf] <;> omega
      have hlt' : (j : Int) < (kg : Int) := by omega
      obtain ⟨b1, o1, y1, eL, ey1, hc1⟩ := X3.out.int_at hlt
      obtain ⟨b2, o2, y2, eA, ey2, hc2⟩ := (Rd.own G3.out).int_at hlt
      subst eL
      subst eA
      have S1 := Lib.hid (count_step (x := x) ey1)
      have S2 := Lib.hid (count_step (x := x) ey2)
      have hb1 := count_le xs x j
      have hb2 := count_le zs x j
      obtain ⟨a, ha⟩ : ∃ a, a = (xs.take j).count x := ⟨_, rfl⟩
      obtain ⟨b, hb⟩ : ∃ b, b = (zs.take j).count x := ⟨_, rfl⟩
      rw [← ha] at S1 hb1 ⊢
      rw [← hb] at S2 hb2 ⊢
      clear ha hb ey1 ey2
      by_cases h1 : y1 = x
      case pos =>
        subst h1
        by_cases h2 : y2 = y1
        case pos =>
          subst h2
          rw [if_pos rfl] at S1
          rw [if_pos rfl] at S2
          go_wp2_with fail
          go_roundw
          case rel => exact ⟨j + 1, _, by omega, by go_num, by rw [S1.out]; go_num, by rw [S2.out]; go_num, rfl⟩
          case measure => simp [intOf] <;> omega
        have h2' : (y2 == y1) = false := by simpa using h2
        rw [if_pos rfl] at S1
        rw [if_neg h2] at S2
        go_wp2_with fail
        go_roundw
        case rel => exact ⟨j + 1, _, by omega, by go_num, by rw [S1.out]; go_num, by rw [S2.out]; rfl, rfl⟩
        case measure => simp [intOf] <;> omega
      have h1' : (y1 == x) = false := by simpa using h1
      by_cases h2 : y2 = x
      case pos =>
        subst h2
        rw [if_neg h1] at S1
        rw [if_pos rfl] at S2
        go_wp2_with fail
        go_roundw
        case rel => exact ⟨j + 1, _, by omega, by go_num, by rw [S1.out]; rfl, by rw [S2.out]; go_num, rfl⟩
        case measure => simp [intOf] <;> omega
      have h2' : (y2 == x) = false := by simpa using h2
      rw [if_neg h1] at S1
      rw [if_neg h2] at S2
      go_wp2_with fail
      go_roundw
      case rel => exact ⟨j + 1, _, by omega, by go_num, by rw [S1.out]; rfl, by rw [S2.out]; rfl, rfl⟩
      case measure => simp [intOf] <;> omega
end Go.Proofs.Ytdgmienljhaipaa
