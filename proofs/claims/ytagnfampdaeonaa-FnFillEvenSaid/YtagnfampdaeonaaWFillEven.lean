/-
  The walk of FnFillEven: the numbers of spaces between the words of a filled line differ by at most one.
-/
import Derived.Test.YtagnfampdaeonaaFillImpl
import Derived.Test.YtagnfampdaeonaaDrawFill
namespace Go.Proofs.Ytagnfampdaeonaa
open Go.RowKit
set_option linter.unusedVariables false

theorem str_noF {s : ByteArray} (h : ¬ s = ⟨#[]⟩) : (s.toList == []) = false := by
  rw [beq_eq_false_iff_ne, ByteArray.toList_eq]
  intro e
  apply h
  obtain ⟨⟨a⟩⟩ := s
  simp at e
  rw [e]
theorem fill_ne {l : List ByteArray} {wd : Int} {S : ByteArray} (hS : S = fillL l wd) (h : ¬ S = ⟨#[]⟩) : vWrap l wd = true ∧ 0 < l.length ∧ lineLen (sizes l) ≤ wd ∧ S = fillW l wd := by
  by_cases hc : vWrap l wd = true ∧ 0 < l.length ∧ lineLen (sizes l) ≤ wd
  · exact ⟨hc.1, hc.2.1, hc.2.2, by rw [hS]; exact fillL_yes hc.1 hc.2.1 hc.2.2⟩
  · exact absurd (by rw [hS]; exact fillL_no hc) h
theorem vWrap_all {l : List ByteArray} {wd : Int} (h : vWrap l wd = true) : ∀ s ∈ l, vWord s = true := by
  intro s hs
  have h1 := (vWrap_parts.1 h).1
  simp only [vWords, Bool.and_eq_true] at h1
  exact List.all_eq_true.1 h1.1 s hs
theorem even_fill {l : List ByteArray} {wd : Int} {S : ByteArray} (hS : S = fillL l wd) (h : ¬ S = ⟨#[]⟩) (h2 : 2 ≤ l.length) : ∃ lo hi : Int, evRun (wd, 0, 0) S = (lo, hi, 0) ∧ 1 ≤ lo ∧ hi - lo ≤ 1 := by
  obtain ⟨hv, _, hW, e⟩ := fill_ne hS h
  obtain ⟨_, hsz, hw0, hw1⟩ := vWrap_words hv
  have hll : (l.length : Int) ≤ lineLen (sizes l) := by
    have h1 : ∀ L : List Nat, (∀ x ∈ L, 1 ≤ x) → L.length ≤ L.sum := by
      intro L
      induction L with
      | nil => intro _; simp
      | cons x L ih =>
        intro hx
        have := ih (fun y hy => hx y (by simp [hy]))
        have := hx x (by simp)
        simp
        omega
    have h3 := h1 (sizes l) (fun x hx => by obtain ⟨s, hs, rfl⟩ := List.mem_map.1 hx; exact (hsz s hs).1)
    unfold lineLen
    rw [sizes_length] at h3 ⊢
    omega
  have hq : (((wd - lineLen (sizes l)).toNat / (l.length - 1) : Nat) : Int) + 2 ≤ wd := by
    have h4 : (wd - lineLen (sizes l)).toNat / (l.length - 1) ≤ (wd - lineLen (sizes l)).toNat := Nat.div_le_self _ _
    omega
  obtain ⟨lo, hi, h5, h6, _⟩ := evRun_fill (R := (wd - lineLen (sizes l)).toNat) (vWrap_all hv) h2 hq (k := l.length - 1) (by omega)
  have h7 := h6 (by omega)
  refine ⟨lo, hi, by rw [e]; exact h5, ?_, by omega⟩
  have h8 : 0 ≤ (((wd - lineLen (sizes l)).toNat / (l.length - 1) : Nat) : Int) := Int.natCast_nonneg _
  omega
/-- What the statement has reckoned of the first k characters. -/
def evTo (S : ByteArray) (W : Int) (k : Nat) : Int × Int × Int := (S.data.toList.take k).foldl evStep (W, 0, 0)
theorem evTo_all (S : ByteArray) (W : Int) : evTo S W S.size = evRun (W, 0, 0) S := by
  unfold evTo evRun
  rw [List.take_of_length_le (by simp)]
theorem evTo_next {S : ByteArray} {W : Int} {k : Nat} (h : k < S.size) : evTo S W (k + 1) = evStep (evTo S W k) S[k] := by
  have h2 : k < S.data.toList.length := by simpa using h
  have h3 : S.data.toList[k]? = some S[k] := by rw [List.getElem?_eq_getElem h2]; rfl
  unfold evTo
  rw [List.take_add_one, h3, List.foldl_append]
  rfl
def EvRel (S : ByteArray) (W : Int) (u : World) (lo hi run i : Value) (wr : World) : Prop :=
  ∃ k : Nat, k ≤ S.size ∧ ∃ a b r : Int, lo = .int .i64 a ∧ hi = .int .i64 b ∧ run = .int .i64 r ∧ i = .int .i64 (k : Int) ∧ evTo S W k = (a, b, r) ∧ -100000 ≤ a ∧ a ≤ 100000 ∧ 0 ≤ b ∧ b ≤ 100000 ∧ 0 ≤ r ∧ r ≤ (k : Int) ∧ wr = u

set_option maxHeartbeats 8000000 in
theorem FnFillEven_walk (w : World) (a0 : Option Addr) (n0 c0 : Nat) (x0 : List Int) (h0 : InBytes w a0 n0 c0 x0) :
    Calls Try.prog 11 #[.slice a0 n0 c0] w fun e w' => e = .returned (.bool true) ∧ Below w.heap.size w w' := by
  have HD := Lib.hid (DrawFillLine_any w a0 n0 c0 x0 h0)
  clear h0
  by_cases g0 : n0 ≤ 1048576
  case neg =>
    go_enter Try.func11, Try.ntmps11
    go_wp2
    go_ret
    exact ⟨rfl, Below.refl _ _⟩
  go_enter Try.func11, Try.ntmps11
  go_wp2_with fail
  refine HD.out.mono ?_
  rintro e w1 ⟨L, m, d, xs, wd, rfl, hm, hmd, hx, hxs, hw0, hw1, hB⟩
  have B0 := Lib.hid hB
  have X0 := Lib.hid hx
  have XL := Lib.hid hx.slen
  have Z0 : Hid (∀ s ∈ xs, s.size ≤ 9223372036854775807) := fun s hs => by have := hxs s hs; omega
  clear hB hx hxs HD
  obtain ⟨S, hS⟩ : ∃ S, S = fillL xs wd := ⟨_, rfl⟩
  have HS := Lib.hid hS
  have CI := Lib.hid (fun w (h : Rd w 1 L m (strs' xs)) => implFill_any L m d xs wd w h (by omega) Z0.out)
  have CS := Lib.hid (fun w (h : Rd w 1 L m (strs' xs)) => specFill_any L m d xs wd w h (by omega) Z0.out)
  rw [← hS] at CI CS
  clear hS
  have hne : (S.toList != S.toList) = false := by simp
  have hee : (S.toList == S.toList) = true := by simp
  go_wp2_with fail
  refine (CI.out _ X0.out).mono ?_
  rintro e wa ⟨rfl, hb⟩
  have B1 := Lib.hid hb
  have X1 := Lib.hid (X0.out.below B1.out)
  clear hb
  go_wp2_with fail
  refine (CS.out _ X1.out).mono ?_
  rintro e wb ⟨rfl, q1, rfl⟩
  have X2 := Lib.hid (X1.out.drewN q1)
  have hsame : Calls Try.prog 33 #[.slice L m d, .int .i64 wd] (wa.drewN q1) fun e w' => e = .returned (.string S) ∧ ∃ q, w' = (wa.drewN q1).drewN q := CS.out _ X2.out
  have HSM := Lib.hid hsame
  clear hsame
  by_cases hm2 : m < 2
  case pos =>
    have hm2' : (m : Int) < 2 := by omega
    go_wp2_with fail
    refine HSM.out.mono ?_
    rintro e wc ⟨rfl, q2, rfl⟩
    go_wp2_with fail
    go_ret
    exact ⟨ret_bool (by simp), below_step B0.out (below_drewN' B1.out (q1 + q2))⟩
  have hm2' : ¬ (m : Int) < 2 := by omega
  by_cases hz : S = ⟨#[]⟩
  case pos =>
    have hz' : (S.toList == []) = true := by rw [hz, ByteArray.toList_eq]; rfl
    clear hz
    go_wp2_with fail
    refine HSM.out.mono ?_
    rintro e wc ⟨rfl, q2, rfl⟩
    go_wp2_with fail
    go_ret
    exact ⟨ret_bool (by simp), below_step B0.out (below_drewN' B1.out (q1 + q2))⟩
  have hz' : (S.toList == []) = false := str_noF hz
  obtain ⟨lo, hi, hev, hlo1, hhi⟩ := even_fill HS.out hz (by rw [XL.out]; omega)
  have HEV := Lib.hid hev
  have hSs : S.size ≤ 100 := by
    obtain ⟨_, _, h3, h4⟩ := fill_ne HS.out hz
    have h5 := fillW_size (W := wd) (by rw [XL.out]; omega) h3
    rw [← h4] at h5
    omega
  clear hz hev
  go_wp2_with fail
  go_loopw [6, 7, 8, 9] (EvRel S wd (wa.drewN q1)) (fun _ _ _ i _ => S.size - (intOf i).toNat)
  case atStart => exact ⟨0, Nat.zero_le _, wd, 0, 0, rfl, rfl, rfl, rfl, by simp [evTo], by omega, by omega, by omega, by omega, by omega, by omega, rfl⟩
  case round =>
    obtain ⟨k, hk, a, b, r, rfl, rfl, rfl, rfl, hst, hb0, hb1, hb2, hb3, hr0, hr1, rfl⟩ := hrel
    have ST := Lib.hid hst
    clear hst
    by_cases hlt : k < S.size
    case neg =>
      obtain rfl : k = S.size := by omega
      have h3 : (a, b, r) = (lo, hi, 0) := by rw [← HEV.out, ← ST.out, evTo_all]
      injection h3 with h3 h4
      injection h4 with h4 h5
      subst h3; subst h4; subst h5
      have ha1 : (1 : Int) ≤ a := by omega
      have hab : b - a ≤ 1 := by omega
      go_wp2_with fail
      go_ret
      exact ⟨ret_bool (by first | (simp; done) | (simp; omega)), below_step B0.out (below_drewN' B1.out q1)⟩
    have hlt' : (k : Int) < (S.size : Int) := by omega
    have HT := Lib.hid (evTo_next (W := wd) hlt)
    rw [ST.out] at HT
    by_cases hc : S[k] = 32
    case pos =>
      have hcv : (S[k].toNat : Int) = 32 := by rw [hc]; rfl
      have HN : Hid (evTo S wd (k + 1) = (a, b, r + 1)) := by show evTo S wd (k + 1) = _; rw [HT.out]; simp [evStep, hc]
      clear hc
      go_wp2_with fail
      go_roundw
      case rel => exact ⟨k + 1, by omega, a, b, r + 1, rfl, rfl, rfl, by go_num, HN.out, by omega, by omega, by omega, by omega, by omega, by omega, rfl⟩
      case measure => simp [intOf] <;> omega
    have hcv : ((S[k].toNat : Int) == 32) = false := by
      simp only [beq_eq_false_iff_ne]
      intro h
      exact hc (by apply UInt8.toNat.inj; show S[k].toNat = 32; omega)
    by_cases hrp : 0 < r
    case pos =>
      have HN : Hid (evTo S wd (k + 1) = (min a r, max b r, 0)) := by show evTo S wd (k + 1) = _; rw [HT.out]; simp [evStep, hc, hrp]
      clear hc
      obtain ⟨mn, hmn⟩ : ∃ mn, mn = min a r := ⟨_, rfl⟩
      obtain ⟨mx, hmx⟩ : ∃ mx, mx = max b r := ⟨_, rfl⟩
      rw [← hmn, ← hmx] at HN
      go_wp2_with fail
      go_roundw
      case rel => exact ⟨k + 1, by omega, mn, mx, 0, by rw [hmn], by rw [hmx], rfl, by go_num, HN.out, by omega, by omega, by omega, by omega, by omega, by omega, rfl⟩
      case measure => simp [intOf] <;> omega
    have HN : Hid (evTo S wd (k + 1) = (a, b, 0)) := by show evTo S wd (k + 1) = _; rw [HT.out]; simp [evStep, hc, hrp]
    clear hc
    go_wp2_with fail
    go_roundw
    case rel => exact ⟨k + 1, by omega, a, b, 0, rfl, rfl, rfl, by go_num, HN.out, by omega, by omega, by omega, by omega, by omega, by omega, rfl⟩
    case measure => simp [intOf] <;> omega
end Go.Proofs.Ytagnfampdaeonaa
