/-
  The walk of FnTrimRows: trimming is idempotent.
-/
import Derived.Test.YtigcbnehcofbcaaDoorTrim
import Derived.Test.YtigcbnehcofbcaaDoorTrimLaws
import Derived.Test.YtigcbnehcofbcaaDoorDrawTrim
namespace Go.Proofs.YtigcbnehcofbcaaDoor
open Go.RowKit
set_option linter.unusedVariables false

set_option maxRecDepth 8000 in
set_option maxHeartbeats 8000000 in
theorem FnTrimRows_walk (w : World) (a0 : Option Addr) (n0 c0 : Nat) (x0 : List Int) (h0 : InBytes w a0 n0 c0 x0) :
    Calls Tryd.prog 3 #[.slice a0 n0 c0] w fun e w' => e = .returned (.bool true) ∧ Below w.heap.size w w' := by
  have HD := Lib.hid (DrawTrimRows_any w a0 n0 c0 x0 h0)
  clear h0
  by_cases g0 : n0 ≤ 1048576
  case neg =>
    go_enter Tryd.func3, Tryd.ntmps3
    go_wp2
    go_ret
    exact ⟨rfl, Below.refl _ _⟩
  go_enter Tryd.func3, Tryd.ntmps3
  go_wp2_with fail
  refine HD.out.mono ?_
  rintro e w1 ⟨L, m, d, xs, rfl, hm, hmd, hx, hxs, hB⟩
  have B0 := Lib.hid hB
  have X0 := Lib.hid hx
  have XL := Lib.hid hx.slen
  have XS := Lib.hid hxs
  have Z0 : Hid (∀ s ∈ xs, s.size ≤ 9223372036854775807) := fun s hs => by have := hxs s hs; omega
  clear hB hx hxs HD
  have HP1 := Lib.hid (@trimT_row xs)
  have HP2 := Lib.hid (@trimT_last xs)
  have HP3 := Lib.hid (trimT_idem xs)
  have hV60 : (trimT xs).length ≤ 60 := trimT_len xs
  obtain ⟨V, hV⟩ : ∃ V, V = trimT xs := ⟨_, rfl⟩
  have CI := Lib.hid (fun w (h : Rd w 1 L m (strs' xs)) => implTrim_any L m d xs w h (by omega) Z0.out)
  have CS := Lib.hid (fun w (h : Rd w 1 L m (strs' xs)) => specTrim_any L m d xs w h (by omega) Z0.out)
  unfold TrRes at CI
  unfold SpTr at CS
  rw [← hV] at HP1 HP2 HP3 CI CS hV60
  clear hV
  go_wp2_with fail
  refine (CI.out _ X0.out).mono ?_
  rintro e wa ⟨Ag, kg, cg, Ng, Cg, ys, rfl, ho, hfN, hys, hb⟩
  have Og := Lib.hid ho
  have B1 := Lib.hid hb
  have HY := Lib.hid hys
  have hkl : V.length = kg := by have h := (pre_rd ho hfN hys).slen; exact h
  clear ho hb hys
  go_wp2_with fail
  refine (CS.out _ (X0.out.below B1.out)).mono ?_
  rintro e wc ⟨As, ks, ds, rfl, ho, hb⟩
  have hks : ks = kg := by have h := (Rd.own ho).slen; omega
  subst hks
  have Os := Lib.hid ho
  have Og3 := Lib.hid (own_below Og.out hb)
  have B3 := Lib.hid (below_step B1.out hb)
  clear ho hb
  go_wp2_with fail
  refine (equalTexts_any Ag As ks ks cg ds V V _ (pre_rd Og3.out hfN HY.out) (Rd.own Os.out) (by omega) (by omega)).mono ?_
  rintro e wd2 ⟨rfl, hb⟩
  have B4 := Lib.hid (below_step B3.out (below_of_drew (B := wc.heap.size) hb))
  have Og4 := Lib.hid (own_below Og3.out (below_of_drew (B := wc.heap.size) hb))
  clear hb
  by_cases hk0 : ks = 0
  case pos =>
    have hk' : ((ks : Int) == 0) = true := by simp [hk0]
    clear hk0
    go_wp2_with fail
    refine (CS.out _ (X0.out.below B4.out)).mono ?_
    rintro e we ⟨At, kt, dt, rfl, ho, hb⟩
    have hkt : kt = ks := by have h := (Rd.own ho).slen; omega
    subst hkt
    have Ot := Lib.hid ho
    have Og5 := Lib.hid (own_below Og4.out hb)
    have B5 := Lib.hid (below_step B4.out hb)
    clear ho hb
    go_wp2_with fail
    refine (equalTexts_any Ag At kt kt cg dt V V _ (pre_rd Og5.out hfN HY.out) (Rd.own Ot.out) (by omega) (by omega)).mono ?_
    rintro e wf ⟨rfl, hb⟩
    have B6 := Lib.hid (below_step B5.out (below_of_drew (B := we.heap.size) hb))
    clear hb
    go_wp2_with fail
    go_ret
    exact ⟨ret_bool (by simp), below_step B0.out B6.out⟩
  have hk' : ((ks : Int) == 0) = false := by simp; omega
  have PG : Hid (∀ q, Rd (wd2.drewN q) 1 Ag ks (strs' V)) := fun q => (pre_rd Og4.out hfN HY.out).drewN q
  have X4 := Lib.hid (X0.out.below B4.out)
  go_wp2_with fail
  go_loopw [5] (fun i wr => ∃ k q : Nat, k ≤ ks ∧ i = .int .i64 (k : Int) ∧ wr = wd2.drewN q) (fun i _ => ks - (intOf i).toNat)
  case atStart => exact ⟨0, 0, Nat.zero_le _, rfl, rfl⟩
  case round =>
    obtain ⟨k, q, hk, rfl, rfl⟩ := hrel
    by_cases hlt : k < ks
    case neg =>
      obtain rfl : k = ks := by omega
      obtain ⟨k1, hk1⟩ : ∃ k1, k = k1 + 1 := ⟨k - 1, by omega⟩
      obtain ⟨b1, o1, s, eA, es, hcs⟩ := (PG.out 0).str_at (k := k1) (by omega)
      have hsne := HP2.out (by omega) (s := s) (by rw [hkl, hk1]; exact es)
      have he : s.toList.isEmpty = false := by have h := toList_neF hsne; simpa using h
      have hk1i : (k : Int) - 1 = (k1 : Int) := by omega
      have hk1l : (k1 : Int) < (k : Int) := by omega
      have hk10 : (0 : Int) ≤ (k1 : Int) := by omega
      have ZV : Hid (∀ s ∈ V, s.size ≤ 9223372036854775807) := fun s hs => by
        obtain ⟨j, hj⟩ := List.mem_iff_getElem?.1 hs
        obtain ⟨t, _, h1, _, h2, _⟩ := HP1.out (by omega) hj
        omega
      have CV := Lib.hid (fun w (h : Rd w 1 Ag k (strs' V)) => implTrim_any Ag k cg V w h (by omega) ZV.out)
      unfold TrRes at CV
      rw [HP3.out (by omega)] at CV
      have hcs' : wd2.cell? ⟨b1, o1 + k1, none⟩ = some (.string s) := hcs
      have PGA := Lib.hid (PG.out q)
      have HA := Lib.hid eA
      subst eA
      clear hsne es hcs hlt hk1
      go_wp2_with fail
      refine (CV.out _ PGA.out).mono ?_
      rintro e we ⟨Ah, kh, ch, Nh, Ch, zs, rfl, ho, hhN, hzs, hb⟩
      have hkh : kh = k := by have h := (pre_rd ho hhN hzs).slen; omega
      subst hkh
      have Oh := Lib.hid ho
      have HZ := Lib.hid hzs
      have B5 := Lib.hid hb
      clear ho hzs hb
      go_wp2_with fail
      refine (equalTexts_any Ah _ kh kh ch cg V V _ (pre_rd Oh.out hhN HZ.out) (PGA.out.below B5.out) (by omega) (by omega)).mono ?_
      rintro e wf ⟨rfl, hb⟩
      have B6 := Lib.hid (below_of_drew (B := we.heap.size) hb)
      clear hb
      go_wp2_with fail
      go_ret
      exact ⟨ret_bool (by simp), below_step B0.out (below_step (below_step (below_drewN' B4.out q) B5.out) B6.out)⟩
    obtain ⟨b1, o1, s, eA, es, hcs⟩ := (PG.out 0).str_at (k := k) hlt
    obtain ⟨t, et, hst, hext, ht60, hlast⟩ := HP1.out (by omega) es
    have hkm : k < m := by rw [← XL.out]; exact (List.getElem?_eq_some_iff.1 et).1
    obtain ⟨b2, o2, t', eL, et', hct⟩ := X4.out.str_at (k := k) hkm
    rw [et] at et'
    injection et' with et'
    subst et'
    have hcs' : wd2.cell? ⟨b1, o1 + k, none⟩ = some (.string s) := hcs
    have hkk' : (k : Int) < (ks : Int) := by omega
    have hkm' : (k : Int) < (m : Int) := by omega
    have hk00 : (0 : Int) ≤ (k : Int) := by omega
    have hA1 : decide ((m : Int) ≤ (k : Int)) = false := decide_eq_false (by omega)
    have hA2 : decide ((t.size : Int) < (s.size : Int)) = false := decide_eq_false (by omega)
    have hA3 : decide (m ≤ k) = false := decide_eq_false (by omega)
    have hA4 : decide (t.size < s.size) = false := decide_eq_false (by omega)
    have hs0 : (0 : Int) ≤ (s.size : Int) := by omega
    have hst' : (s.size : Int) ≤ (t.size : Int) := by omega
    have hee : ((t.extract 0 s.size).toList == s.toList) = true := by rw [hext]; simp
    have hcase : decide (0 < s.size) = false ∨ ∃ n : Nat, ∃ h : n < s.size, 0 < s.size ∧ (0 : Int) < (s.size : Int) ∧ (s.size : Int) - 1 = (n : Int) ∧ (n : Int) < (s.size : Int) ∧ (0 : Int) ≤ (n : Int) ∧ ((s[n].toNat : Int) == 32) = false := by
      by_cases h : s.size = 0
      · exact .inl (decide_eq_false (by omega))
      · refine .inr ⟨s.size - 1, by omega, by omega, by omega, by omega, by omega, by omega, ?_⟩
        simp only [beq_eq_false_iff_ne]
        intro h2
        exact hlast (s.size - 1) (by omega) (by apply UInt8.toNat.inj; show (s[s.size - 1]'(by omega)).toNat = 32; omega)
    have HE := Lib.hid (And.intro eA eL)
    subst eA; subst eL
    clear hlast hext es et hcs hlt
    rcases hcase with hz | ⟨n, hn, hz0, hz1, hz2, hz3, hz4, hz5⟩
    all_goals
      go_wp2_with fail
      go_big_quiet (fail)
      go_wp2_with fail
      go_roundw
      case rel => exact ⟨k + 1, _, by omega, by go_num, rfl⟩
      case measure => simp [intOf] <;> omega
end Go.Proofs.YtigcbnehcofbcaaDoor
