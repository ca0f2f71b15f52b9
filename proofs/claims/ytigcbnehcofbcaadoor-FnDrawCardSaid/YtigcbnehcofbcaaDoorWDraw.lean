/-
  The walk of FnDraw: a drawing has all rows; without texts all are spaces.
-/
import Derived.Test.YtigcbnehcofbcaaDoorTrim
import Derived.Test.YtigcbnehcofbcaaDoorBlank
import Derived.Test.YtigcbnehcofbcaaDoorDrawRef
import Derived.Test.YtigcbnehcofbcaaDoorDrawPlaced2
namespace Go.Proofs.YtigcbnehcofbcaaDoor
open Go.RowKit
set_option linter.unusedVariables false

set_option maxRecDepth 8000 in
set_option maxHeartbeats 8000000 in
theorem FnDraw_walk (w : World) (a0 : Option Addr) (n0 c0 : Nat) (x0 : List Int) (h0 : InBytes w a0 n0 c0 x0) :
    Calls Tryd.prog 5 #[.slice a0 n0 c0] w fun e w' => e = .returned (.bool true) ∧ Below w.heap.size w w' := by
  have HD := Lib.hid (DrawDraw_any w a0 n0 c0 x0 h0)
  clear h0
  by_cases g0 : n0 ≤ 1048576
  case neg =>
    go_enter Tryd.func5, Tryd.ntmps5
    go_wp2
    go_ret
    exact ⟨rfl, Below.refl _ _⟩
  go_enter Tryd.func5, Tryd.ntmps5
  go_wp2_with fail
  refine HD.out.mono ?_
  rintro e w1 ⟨L, m, d, xs, pw, ph, rfl, hm, hmd, hx, hxs, hw0, hw1, hh0, hh1, hB⟩
  have B0 := Lib.hid hB
  have X0 := Lib.hid hx
  have XL := Lib.hid hx.placed_len
  have Z0 : Hid (∀ p ∈ xs, p.t.size ≤ 1048576) := fun s hs => by have := hxs s hs; omega
  clear hB hx hxs HD
  have HP := Lib.hid (@draw_width xs pw ph)
  have HN := Lib.hid (@draw_nil xs pw ph)
  have hV60 : (drawP xs pw ph).length ≤ 60 := drawP_bound.1
  have hz60 : ∀ s ∈ drawP ([] : List Pl) pw ph, s.size ≤ 60 := drawP_bound.2
  have hl60 : (drawP ([] : List Pl) pw ph).length ≤ 60 := drawP_bound.1
  obtain ⟨V, hV⟩ : ∃ V, V = drawP xs pw ph := ⟨_, rfl⟩
  obtain ⟨V0, hV0⟩ : ∃ V0, V0 = drawP ([] : List Pl) pw ph := ⟨_, rfl⟩
  have CI := Lib.hid (fun w (h : Rd w 3 L m (placeds xs)) => implDraw_any L m d xs pw ph w h (by omega) Z0.out)
  have CS := Lib.hid (fun w (h : Rd w 3 L m (placeds xs)) => specDraw_any L m d xs pw ph w h (by omega) Z0.out)
  have CN := Lib.hid (fun (A : Option Addr) w => implDraw_any A 0 0 [] pw ph w ⟨rfl, fun h => absurd h (by omega)⟩ (by omega) (fun p hp => by cases hp))
  unfold DrRes at CI CS CN
  rw [← hV] at HP HN CI CS hV60
  rw [← hV0] at CN HN hz60 hl60
  have HZ := Lib.hid hz60
  clear hV hV0 hz60
  go_wp2_with fail
  refine (CI.out _ X0.out).mono ?_
  rintro e wa ⟨Ag, kg, dg, rfl, ho, hb⟩
  have Og := Lib.hid ho
  have B1 := Lib.hid hb
  have Kg := Lib.hid (Rd.own ho).slen
  clear ho hb
  go_wp2_with fail
  have hkl : V.length = kg := Kg.out
  refine (CS.out _ (X0.out.below B1.out)).mono ?_
  rintro e wc ⟨As, ks, ds, rfl, ho, hb⟩
  have hks : ks = kg := by have h := (Rd.own ho).slen; rw [← h, Kg.out]
  subst hks
  have Os := Lib.hid ho
  have Og3 := Lib.hid (own_below Og.out hb)
  have B3 := Lib.hid (below_step B1.out hb)
  clear ho hb
  go_wp2_with fail
  refine (equalTexts_any Ag As ks ks dg ds V V _ (Rd.own Og3.out) (Rd.own Os.out) (by omega) (by omega)).mono ?_
  rintro e wd2 ⟨rfl, hb⟩
  have B4 := Lib.hid (below_step B3.out (below_of_drew (B := wc.heap.size) hb))
  have Og4 := Lib.hid (own_below Og3.out (below_of_drew (B := wc.heap.size) hb))
  clear hb
  by_cases hk0 : ks = 0
  case pos =>
    have hk' : ((ks : Int) == 0) = true := by simp [hk0]
    clear hk0
    go_wp2_with fail
    refine (CS.out _ (X0.out.below B4.out)).mono ?_
    rintro e we ⟨At, kt, dt, rfl, ho, hb⟩
    have hkt : kt = ks := by have h := (Rd.own ho).slen; rw [← h, Kg.out]
    subst hkt
    have Ot := Lib.hid ho
    have Og5 := Lib.hid (own_below Og4.out hb)
    have B5 := Lib.hid (below_step B4.out hb)
    clear ho hb
    go_wp2_with fail
    refine (equalTexts_any Ag At kt kt dg dt V V _ (Rd.own Og5.out) (Rd.own Ot.out) (by omega) (by omega)).mono ?_
    rintro e wf ⟨rfl, hb⟩
    have B6 := Lib.hid (below_step B5.out (below_of_drew (B := we.heap.size) hb))
    clear hb
    go_wp2_with fail
    go_ret
    exact ⟨ret_bool (by simp), below_step B0.out B6.out⟩
  have hk' : ((ks : Int) == 0) = false := by simp; omega
  have hpp := HP.out (by omega)
  have hkh : (ks : Int) = ph := by have := hpp.1; omega
  have HWD := Lib.hid hpp.2
  have HT0 := Lib.hid (HN.out (by omega))
  subst hkh
  clear hpp
  go_wp2_with fail
  go_loopw [7] (fun i wr => ∃ k q : Nat, k ≤ ks ∧ i = .int .i64 (k : Int) ∧ wr = wd2.drewN q) (fun i _ => ks - (intOf i).toNat)
  case atStart => exact ⟨0, 0, Nat.zero_le _, rfl, rfl⟩
  case round =>
    obtain ⟨k, q, hk, rfl, rfl⟩ := hrel
    by_cases hlt : k < ks
    case neg =>
      obtain rfl : k = ks := by omega
      have hkk : ((k : Int) == (k : Int)) = true := by simp
      have B5 := Lib.hid (below_drewN' B4.out q)
      clear hlt
      go_wp2_with fail
      refine (CN.out _ _).mono ?_
      rintro e we ⟨Ah, kh, dh, rfl, ho, hb⟩
      have Oh := Lib.hid ho
      have Kh := Lib.hid (Rd.own ho).slen
      have hkh60 : kh ≤ 60 := by have := Kh.out; omega
      have B6 := Lib.hid (below_step (B5.out.alloc B5.out.size (.cells #[] 45)) hb)
      clear ho hb
      have CT := Lib.hid (implTrim_any Ah kh dh V0 we (Rd.own Oh.out) (by omega) (fun s hs => by have := HZ.out s hs; omega))
      unfold TrRes at CT
      go_wp2_with fail
      refine CT.out.mono ?_
      rintro e wf ⟨Ai, ki, ci, Ni, Ci, zs, rfl, ho, hiN, hzs, hb⟩
      have hki : ki = 0 := by
        have h := (pre_rd ho hiN hzs).slen
        have := HT0.out
        omega
      subst hki
      have B7 := Lib.hid (below_step B6.out hb)
      clear ho hzs hb
      go_wp2_with fail
      go_ret
      exact ⟨ret_bool (by simp), below_step B0.out B7.out⟩
    obtain ⟨b1, o1, s, eA, es, hcs⟩ := (Rd.own Og4.out).str_at (k := k) hlt
    have hsw := HWD.out k s es
    have hcs' : wd2.cell? ⟨b1, o1 + k, none⟩ = some (.string s) := hcs
    have hkk' : (k : Int) < (ks : Int) := by omega
    have hk00 : (0 : Int) ≤ (k : Int) := by omega
    have hne : ((s.size : Int) != pw) = false := by rw [hsw]; simp
    subst eA
    clear es hcs hlt
    go_wp2_with fail
    go_roundw
    case rel => exact ⟨k + 1, q, by omega, by go_num, rfl⟩
    case measure => simp [intOf] <;> omega
end Go.Proofs.YtigcbnehcofbcaaDoor
