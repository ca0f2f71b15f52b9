/-
  The walk of FnNumberHeadings: all numbers are different, and have one period less than their level.
-/
import Derived.Test.YtdgmienljhaipaaDoorNumImpl
import Derived.Test.YtdgmienljhaipaaDoorNumLaws
import Derived.Test.YtdgmienljhaipaaDoorDrawNum
namespace Go.Proofs.YtdgmienljhaipaaDoor
open Go.RowKit
set_option linter.unusedVariables false

theorem num_valid {l : List Int} (h : (numT l).length ≠ 0) : vOutline l = true := by
  cases hv : vOutline l
  · exact absurd (by rw [numT_no (show ¬ vOutline l = true by rw [hv]; simp)]; rfl) h
  · rfl
theorem num_len20 (l : List Int) : (numT l).length ≤ 20 := by
  by_cases h : vOutline l = true
  · rw [numT_len h]
    exact vOutline_len h
  · rw [numT_no h]
    exact Nat.zero_le _
def NmIn (s : ByteArray) (u : World) (p k : Value) (wr : World) : Prop :=
  ∃ m q : Nat, m ≤ s.size ∧ p = .int .i64 (dots (s.data.toList.take m) : Nat) ∧ k = .int .i64 (m : Int) ∧ wr = u.drewN q
theorem byte_atN {s : ByteArray} {k : Nat} (h : k < s.size) : s.data.toList.take (k + 1) = s.data.toList.take k ++ [s[k]] := by
  have h2 : k < s.data.toList.length := h
  rw [List.take_add_one, List.getElem?_eq_getElem h2]
  rfl
theorem dots_yes {s : ByteArray} {k : Nat} (h : k < s.size) (hc : s[k] = 46) : dots (s.data.toList.take (k + 1)) = dots (s.data.toList.take k) + 1 := by
  rw [byte_atN h, dots_app, hc]
  rfl
theorem dots_no {s : ByteArray} {k : Nat} (h : k < s.size) (hc : s[k] ≠ 46) : dots (s.data.toList.take (k + 1)) = dots (s.data.toList.take k) := by
  rw [byte_atN h, dots_app]
  have : dots [s[k]] = 0 := by simp [dots, isDot, hc]
  omega
theorem dots_le (l : List UInt8) (k : Nat) : dots (l.take k) ≤ k := Nat.le_trans (List.length_filter_le _ _) (by rw [List.length_take]; omega)
theorem text_neN {s t : ByteArray} (h : s ≠ t) : (s.toList == t.toList) = false := by
  rw [beq_eq_false_iff_ne, ByteArray.toList_eq, ByteArray.toList_eq]
  intro e
  apply h
  apply ByteArray.ext
  exact Array.toList_inj.1 e
set_option maxRecDepth 8000 in
set_option maxHeartbeats 8000000 in
theorem FnNumberHeadings_walk (w : World) (a0 : Option Addr) (n0 c0 : Nat) (x0 : List Int) (h0 : InBytes w a0 n0 c0 x0) :
    Calls Tryd.prog 5 #[.slice a0 n0 c0] w fun e w' => e = .returned (.bool true) ∧ Below w.heap.size w w' := by
  have HD := Lib.hid (DrawNumberHeadings_any w a0 n0 c0 x0 h0)
  clear h0
  by_cases g0 : n0 ≤ 1048576
  case neg =>
    go_enter Tryd.func5, Tryd.ntmps5
    go_wp2
    go_ret
    exact ⟨rfl, Below.refl _ _⟩
  go_enter Tryd.func5, Tryd.ntmps5
  go_wp2_with fail
  refine HD.out.mono ?_
  rintro e w1 ⟨L, m, d, xs, rfl, hm, hmd, hx, hB⟩
  have B0 := Lib.hid hB
  have X0 := Lib.hid hx
  have XL := Lib.hid hx.len
  clear hB hx HD
  have hV20 : (numT xs).length ≤ 20 := num_len20 xs
  obtain ⟨V, hV⟩ : ∃ V, V = numT xs := ⟨_, rfl⟩
  have CI := Lib.hid (fun w (h : Rd w 1 L m (ints xs)) => implNum_any L m d xs w h (by omega))
  have CS := Lib.hid (fun w (h : Rd w 1 L m (ints xs)) => specNum_any L m d xs w h (by omega))
  unfold NmRes at CI CS
  rw [← hV] at CI CS hV20
  have HVE := Lib.hid hV
  clear hV
  go_wp2_with fail
  refine (CI.out _ X0.out).mono ?_
  rintro e wa ⟨Ag, kg, dg, rfl, ho, hb⟩
  have Og := Lib.hid ho
  have B1 := Lib.hid hb
  have Kg := Lib.hid (Rd.own ho).slen
  clear ho hb
  go_wp2_with fail
  have hkl : V.length = kg := Kg.out
  refine (CS.out _ (X0.out.below B1.out)).mono ?_
  rintro e wc ⟨As, ks, ds, rfl, ho, hb⟩
  have hks : ks = kg := by have h := (Rd.own ho).slen; rw [← h, Kg.out]
  subst hks
  have Os := Lib.hid ho
  have Og3 := Lib.hid (own_below Og.out hb)
  have B3 := Lib.hid (below_step B1.out hb)
  clear ho hb
  go_wp2_with fail
  refine (equalTexts_any Ag As ks ks dg ds V V _ (Rd.own Og3.out) (Rd.own Os.out) (by omega) (by omega)).mono ?_
  rintro e wd2 ⟨rfl, hb⟩
  have B4 := Lib.hid (below_step B3.out (below_of_drew (B := wc.heap.size) hb))
  have Og4 := Lib.hid (own_below Og3.out (below_of_drew (B := wc.heap.size) hb))
  clear hb
  by_cases hk0 : ks = 0
  case pos =>
    have hk' : ((ks : Int) == 0) = true := by simp [hk0]
    clear hk0
    go_wp2_with fail
    refine (CS.out _ (X0.out.below B4.out)).mono ?_
    rintro e we ⟨At, kt, dt, rfl, ho, hb⟩
    have hkt : kt = ks := by have h := (Rd.own ho).slen; rw [← h, Kg.out]
    subst hkt
    have Ot := Lib.hid ho
    have Og5 := Lib.hid (own_below Og4.out hb)
    have B5 := Lib.hid (below_step B4.out hb)
    clear ho hb
    go_wp2_with fail
    refine (equalTexts_any Ag At kt kt dg dt V V _ (Rd.own Og5.out) (Rd.own Ot.out) (by omega) (by omega)).mono ?_
    rintro e wf ⟨rfl, hb⟩
    have B6 := Lib.hid (below_step B5.out (below_of_drew (B := we.heap.size) hb))
    clear hb
    go_wp2_with fail
    go_ret
    exact ⟨ret_bool (by simp), below_step B0.out B6.out⟩
  have hk' : ((ks : Int) == 0) = false := by simp; omega
  have hvo : vOutline xs = true := num_valid (by rw [← HVE.out]; omega)
  have hkm : ks = m := by rw [← hkl, HVE.out, numT_len hvo, XL.out]
  subst hkm
  have HVO := Lib.hid hvo
  have X4 := Lib.hid (X0.out.below B4.out)
  clear hvo
  go_wp2_with fail
  go_loopw [5] (fun i wr => ∃ k q : Nat, k ≤ ks ∧ i = .int .i64 (k : Int) ∧ wr = wd2.drewN q) (fun i _ => ks - (intOf i).toNat)
  case atStart => exact ⟨0, 0, Nat.zero_le _, rfl, rfl⟩
  case round =>
    obtain ⟨i, q, hi, rfl, rfl⟩ := hrel
    by_cases hlt : i < ks
    case neg =>
      have hi' : ¬ (i : Int) < (ks : Int) := by omega
      obtain ⟨b1, o1, s, eA, es, hcs⟩ := (Rd.own Og4.out).str_at (k := 0) (by omega)
      have hfst := num_first HVO.out (by rw [XL.out]; omega)
      rw [← HVE.out, es] at hfst
      injection hfst with hfst
      subst hfst
      have hcs' : wd2.cell? ⟨b1, o1, none⟩ = some (.string ⟨#[49]⟩) := hcs
      have hee : ((⟨#[49]⟩ : ByteArray).toList == (⟨#[49]⟩ : ByteArray).toList) = true := by simp
      have hee2 : ((⟨#[49]⟩ : ByteArray).toList == [49]) = true := by rw [ByteArray.toList_eq]; rfl
      have hkk : ((ks : Int) == (ks : Int)) = true := by simp
      have hkp : (0 : Int) < (ks : Int) := by omega
      subst eA
      clear es hcs hlt hk0
      go_wp2_with fail
      go_ret
      exact ⟨ret_bool (by first | (simp; done) | exact hee2), below_step B0.out (below_drewN' B4.out _)⟩
    obtain ⟨b1, o1, s, eA, es, hcs⟩ := (Rd.own Og4.out).str_at (k := i) hlt
    obtain ⟨b2, o2, v, eL, ev, hcv2⟩ := X4.out.int_at hlt
    have hnd := num_dots HVO.out ev (by rw [← HVE.out]; exact es)
    obtain ⟨hnd1, hs12⟩ := hnd
    have hvb := vOutline_at HVO.out ev
    have hv1 := hvb.1
    have hv4 := hvb.2.1
    have hcs' : wd2.cell? ⟨b1, o1 + i, none⟩ = some (.string s) := hcs
    have hcv' : wd2.cell? ⟨b2, o2 + i, none⟩ = some (.int .i64 v) := hcv2
    have hi' : (i : Int) < (ks : Int) := by omega
    have hi0 : (0 : Int) ≤ (i : Int) := by omega
    have HS := Lib.hid es
    have OG := Lib.hid (Rd.own Og4.out)
    subst eA; subst eL
    clear es ev hcs hcv2 hvb hlt hk0
    go_wp2_with fail
    go_loopw [6, 7] (NmIn s wd2) (fun _ k _ => s.size - (intOf k).toNat)
    case atStart => exact ⟨0, q, Nat.zero_le _, rfl, rfl, rfl⟩
    case round =>
      obtain ⟨k, q2, hk, rfl, rfl, rfl⟩ := hrel
      have hdl := dots_le s.data.toList k
      by_cases hlt : k < s.size
      case neg =>
        have hks : ¬ (k : Int) < (s.size : Int) := by omega
        have hdn : ((dots (s.data.toList.take k) : Nat) : Int) = v - 1 := by
          rw [List.take_of_length_le (show s.data.toList.length ≤ k from by show s.size ≤ k; omega)]
          exact hnd1
        obtain ⟨dd, hdd⟩ : ∃ dd, dd = dots (s.data.toList.take k) := ⟨_, rfl⟩
        rw [← hdd] at hdn
        rw [← hdd]
        have hne : (((dd : Nat) : Int) != v - 1) = false := by rw [hdn]; simp
        clear hdd hlt hdl hnd1
        go_wp2_with fail
        go_loopw [8] (fun k wr => ∃ j q : Nat, j ≤ i ∧ k = .int .i64 (j : Int) ∧ wr = wd2.drewN q) (fun k _ => i - (intOf k).toNat)
        case atStart => exact ⟨0, q2, Nat.zero_le _, rfl, rfl⟩
        case round =>
          obtain ⟨j, q3, hj, rfl, rfl⟩ := hrel
          by_cases hji : j < i
          case neg =>
            have hji' : ¬ (j : Int) < (i : Int) := by omega
            go_wp2_with fail
            go_roundw
            case rel => exact ⟨i + 1, q3, by omega, by go_num, rfl⟩
            case measure => simp [intOf] <;> omega
          obtain ⟨b5, o5, t, eT, et, hct⟩ := OG.out.str_at (k := j) (by omega)
          injection eT with eT
          injection eT with e1 e2
          subst e1; subst e2
          have hdf := num_diff HVO.out hji (by rw [← HVE.out]; exact et) (by rw [← HVE.out]; exact HS.out)
          have htn := text_neN hdf
          have hj1 : (j : Int) < (i : Int) := by omega
          have hj2 : (0 : Int) ≤ (j : Int) := by omega
          have hj3 : (j : Int) < (ks : Int) := by omega
          clear et hdf hji
          go_wp2_with fail
          go_big_quiet (fail)
          go_wp2_with fail
          go_roundw
          case rel => exact ⟨j + 1, _, by omega, by go_num, rfl⟩
          case measure => simp [intOf] <;> omega
      have hk' : (k : Int) < (s.size : Int) := by omega
      have hk00 : (0 : Int) ≤ (k : Int) := by omega
      by_cases hc : s[k] = 46
      case pos =>
        have hcv : (s[k].toNat : Int) = 46 := by rw [hc]; rfl
        have HN := Lib.hid (dots_yes hlt hc)
        clear hc
        go_wp2_with fail
        go_roundw
        case rel => exact ⟨k + 1, q2, by omega, by rw [HN.out]; go_num, by go_num, rfl⟩
        case measure => simp [intOf] <;> omega
      have hcv : ((s[k].toNat : Int) == 46) = false := by
        simp only [beq_eq_false_iff_ne]
        intro h
        exact hc (by apply UInt8.toNat.inj; show s[k].toNat = 46; omega)
      have HN := Lib.hid (dots_no hlt hc)
      clear hc
      go_wp2_with fail
      go_roundw
      case rel => exact ⟨k + 1, q2, by omega, by rw [HN.out], by go_num, rfl⟩
      case measure => simp [intOf] <;> omega
end Go.Proofs.YtdgmienljhaipaaDoor
