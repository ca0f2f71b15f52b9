/-
  The walk of FnFillLine: a filled line has the width, begins with the first word and ends with the last.
-/
import Derived.Test.YtagnfampdaeonaaFillImpl
import Derived.Test.YtagnfampdaeonaaDrawFill
namespace Go.Proofs.Ytagnfampdaeonaa
open Go.RowKit
set_option linter.unusedVariables false

theorem str_noF {s : ByteArray} (h : ¬ s = ⟨#[]⟩) : (s.toList == []) = false := by
  rw [beq_eq_false_iff_ne, ByteArray.toList_eq]
  intro e
  apply h
  obtain ⟨⟨a⟩⟩ := s
  simp at e
  rw [e]
theorem fill_ne {l : List ByteArray} {wd : Int} {S : ByteArray} (hS : S = fillL l wd) (h : ¬ S = ⟨#[]⟩) : vWrap l wd = true ∧ 0 < l.length ∧ lineLen (sizes l) ≤ wd ∧ S = fillW l wd := by
  by_cases hc : vWrap l wd = true ∧ 0 < l.length ∧ lineLen (sizes l) ≤ wd
  · exact ⟨hc.1, hc.2.1, hc.2.2, by rw [hS]; exact fillL_yes hc.1 hc.2.1 hc.2.2⟩
  · exact absurd (by rw [hS]; exact fillL_no hc) h
theorem ext_head (a t : ByteArray) : (a ++ t).extract 0 a.size = a := by
  apply ByteArray.ext
  rw [ByteArray.data_extract, ByteArray.data_append]
  apply Array.toList_inj.1
  rw [Array.toList_extract, List.extract_eq_take_drop, Array.toList_append]
  have h : a.size = a.data.toList.length := by simp
  rw [h]
  simp
theorem ext_tail (t b : ByteArray) : (t ++ b).extract ((t ++ b).size - b.size) (t ++ b).size = b := by
  have h1 : (t ++ b).size - b.size = t.size := by rw [sz_app]; omega
  rw [h1]
  apply ByteArray.ext
  rw [ByteArray.data_extract, ByteArray.data_append]
  apply Array.toList_inj.1
  rw [Array.toList_extract, List.extract_eq_take_drop, Array.toList_append]
  have h : t.size = t.data.toList.length := by simp
  have h2 : (t ++ b).size = t.data.toList.length + b.data.toList.length := by rw [sz_app]; simp
  rw [h2, h]
  simp
  exact List.take_of_length_le (by simp)
theorem fill_parts {l : List ByteArray} {wd : Int} {S s0 se : ByteArray} (hS : S = fillL l wd) (h : ¬ S = ⟨#[]⟩) (h0 : l[0]? = some s0) (he : l[l.length - 1]? = some se) :
    s0.size ≤ S.size ∧ S.extract 0 s0.size = s0 ∧ se.size ≤ S.size ∧ S.extract (S.size - se.size) S.size = se ∧ (l.length = 1 → S = s0) ∧ (2 ≤ l.length → (S.size : Int) = wd) := by
  obtain ⟨hv, hl, hW, e⟩ := fill_ne hS h
  obtain ⟨t, ht⟩ := fillUp_head l (wd - lineLen (sizes l)).toNat (l.length - 1)
  obtain ⟨t2, ht2⟩ := fillUp_tail l (wd - lineLen (sizes l)).toNat (l.length - 1)
  rw [wAt_get h0] at ht
  rw [wAt_get he] at ht2
  have e1 : S = s0 ++ t := e.trans ht
  have e2 : S = t2 ++ se := e.trans ht2
  refine ⟨by rw [e1, sz_app]; omega, by rw [e1]; exact ext_head s0 t, by rw [e2, sz_app]; omega, by rw [e2]; exact ext_tail t2 se, fun h1 => ?_, fun h2 => by rw [e]; exact fillW_size h2 hW⟩
  rw [e]
  unfold fillW
  rw [h1]
  exact wAt_get h0

set_option maxHeartbeats 8000000 in
theorem FnFillLine_walk (w : World) (a0 : Option Addr) (n0 c0 : Nat) (x0 : List Int) (h0 : InBytes w a0 n0 c0 x0) :
    Calls Try.prog 12 #[.slice a0 n0 c0] w fun e w' => e = .returned (.bool true) ∧ Below w.heap.size w w' := by
  have HD := Lib.hid (DrawFillLine_any w a0 n0 c0 x0 h0)
  clear h0
  by_cases g0 : n0 ≤ 1048576
  case neg =>
    go_enter Try.func12, Try.ntmps12
    go_wp2
    go_ret
    exact ⟨rfl, Below.refl _ _⟩
  go_enter Try.func12, Try.ntmps12
  go_wp2_with fail
  refine HD.out.mono ?_
  rintro e w1 ⟨L, m, d, xs, wd, rfl, hm, hmd, hx, hxs, hw0, hw1, hB⟩
  have B0 := Lib.hid hB
  have X0 := Lib.hid hx
  have XL := Lib.hid hx.slen
  have Z0 : Hid (∀ s ∈ xs, s.size ≤ 9223372036854775807) := fun s hs => by have := hxs s hs; omega
  clear hB hx hxs HD
  obtain ⟨S, hS⟩ : ∃ S, S = fillL xs wd := ⟨_, rfl⟩
  have HS := Lib.hid hS
  have CI := Lib.hid (fun w (h : Rd w 1 L m (strs' xs)) => implFill_any L m d xs wd w h (by omega) Z0.out)
  have CS := Lib.hid (fun w (h : Rd w 1 L m (strs' xs)) => specFill_any L m d xs wd w h (by omega) Z0.out)
  rw [← hS] at CI CS
  clear hS
  have hne : (S.toList != S.toList) = false := by simp
  have hee : (S.toList == S.toList) = true := by simp
  go_wp2_with fail
  refine (CI.out _ X0.out).mono ?_
  rintro e wa ⟨rfl, hb⟩
  have B1 := Lib.hid hb
  have X1 := Lib.hid (X0.out.below B1.out)
  clear hb
  go_wp2_with fail
  refine (CS.out _ X1.out).mono ?_
  rintro e wb ⟨rfl, q1, rfl⟩
  have X2 := Lib.hid (X1.out.drewN q1)
  have hsame : Calls Try.prog 33 #[.slice L m d, .int .i64 wd] (wa.drewN q1) fun e w' => e = .returned (.string S) ∧ ∃ q, w' = (wa.drewN q1).drewN q := CS.out _ X2.out
  have HSM := Lib.hid hsame
  clear hsame
  by_cases hz : S = ⟨#[]⟩
  case pos =>
    have hz' : (S.toList == []) = true := by rw [hz, ByteArray.toList_eq]; rfl
    clear hz
    go_wp2_with fail
    refine HSM.out.mono ?_
    rintro e wc ⟨rfl, q2, rfl⟩
    go_wp2_with fail
    go_ret
    exact ⟨ret_bool (by simp), below_step B0.out (below_drewN' B1.out (q1 + q2))⟩
  have hz' : (S.toList == []) = false := str_noF hz
  have hl0 := (fill_ne HS.out hz).2.1
  have hm0 : 0 < m := by rw [← XL.out]; exact hl0
  obtain ⟨b, o, s0, rfl, e0, hc0⟩ := X1.out.str_at (k := 0) hm0
  obtain ⟨mm, hmm⟩ : ∃ mm, mm = m - 1 := ⟨_, rfl⟩
  obtain ⟨b', o', se, e1, ee, hce⟩ := X1.out.str_at (k := mm) (by omega)
  injection e1 with e1
  injection e1 with e1 e2
  subst e1; subst e2
  rw [Nat.add_zero] at hc0
  have hparts := fill_parts HS.out hz e0 (by rw [XL.out, ← hmm]; exact ee)
  rw [XL.out] at hparts
  obtain ⟨p1, p2, p3, p4, p5, p6⟩ := hparts
  have hSb : S.size ≤ 9223372036854775807 := by
    by_cases h : m = 1
    · rw [p5 h]; exact Z0.out s0 (List.mem_of_getElem? e0)
    · have := p6 (by omega)
      omega
  have h0e : ((S.extract 0 s0.size).toList == s0.toList) = true := by rw [p2]; simp
  have hee2 : ((S.extract (S.size - se.size) S.size).toList == se.toList) = true := by rw [p4]; simp
  obtain ⟨dn, hdn⟩ : ∃ dn, dn = S.size - se.size := ⟨_, rfl⟩
  rw [← hdn] at hee2
  have hdi : (S.size : Int) - (se.size : Int) = (dn : Int) := by omega
  have hmi : (m : Int) - 1 = (mm : Int) := by omega
  have hm0' : (0 : Int) < (m : Int) := by omega
  have hmmi : (mm : Int) < (m : Int) := by omega
  have hdS : (dn : Int) ≤ (S.size : Int) := by omega
  have hp1 : (s0.size : Int) ≤ (S.size : Int) := by omega
  have hp3 : (se.size : Int) ≤ (S.size : Int) := by omega
  have hwd : wrap64 (dn : Int) = (dn : Int) := by unfold wrap64; omega
  clear hz hl0 e0 ee p2 p4 hdn hmm hSb
  by_cases hm1 : m = 1
  case pos =>
    have hS0 := p5 hm1
    have hss : (S.toList == s0.toList) = true := by rw [hS0]; simp
    obtain rfl : mm = 0 := by omega
    clear p5 p6 hS0 hmi hmmi hm0'
    subst hm1
    rw [Nat.add_zero] at hce
    have hse : se = s0 := by rw [hc0] at hce; injection hce with hce; injection hce with hce; exact hce.symm
    subst hse
    clear hce
    go_wp2_with fail
    go_region
    all_goals
      go_wp2_with fail
      go_ret
      exact ⟨ret_bool (by simp), below_step B0.out (below_drewN' B1.out _)⟩
  have hm1' : ((m : Int) == 1) = false := by simp; omega
  have hm2' : (1 : Int) < (m : Int) := by omega
  have hm2 : 1 < m := by omega
  have hSw := p6 (by omega)
  subst hSw
  clear p5 p6 hm1
  go_wp2_with fail
  go_region
  all_goals
    go_wp2_with fail
    go_ret
    exact ⟨ret_bool (by simp), below_step B0.out (below_drewN' B1.out _)⟩
end Go.Proofs.Ytagnfampdaeonaa
