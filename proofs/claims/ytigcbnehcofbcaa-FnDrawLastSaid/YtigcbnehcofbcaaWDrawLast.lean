/-
  The walk of FnDrawLast: the last text is in its row, at its place.
-/
import Derived.Test.YtigcbnehcofbcaaDrawRef
import Derived.Test.YtigcbnehcofbcaaDrawPlaced2
namespace Go.Proofs.Ytigcbnehcofbcaa
open Go.RowKit
set_option linter.unusedVariables false

theorem putS_mid {s t : ByteArray} {x : Nat} (h : x + t.size ≤ s.size) : (putS s x t).extract x (x + t.size) = t := by
  apply ByteArray.ext
  rw [ByteArray.data_extract]
  apply Array.toList_inj.1
  rw [Array.toList_extract, List.extract_eq_take_drop, putS_list]
  have h1 : s.data.toList.length = s.size := rfl
  have h2 : t.data.toList.length = t.size := rfl
  have h3 : (s.data.toList.take x).length = x := by rw [List.length_take]; omega
  rw [List.drop_append_of_le_length (by omega), List.drop_of_length_le (by omega), List.nil_append, show x + t.size - x = t.size from by omega, List.take_append_of_le_length (by omega), List.take_of_length_le (by omega)]
/-- The row of the last text. -/
theorem draw_last {l : List Pl} {pw ph : Int} (h : drawP l pw ph ≠ []) {k : Nat} {p : Pl} (hp : l[k]? = some p) (hk : k + 1 = l.length) : ∃ (x y : Nat) (row : ByteArray), p.x = (x : Int) ∧ p.y = (y : Int) ∧ (drawP l pw ph)[y]? = some row ∧ x + p.t.size ≤ row.size ∧ row.extract x (x + p.t.size) = p.t ∧ row.size ≤ 60 := by
  have hv : vPlaced l pw ph = true := by
    cases hv : vPlaced l pw ph
    · exact absurd (drawP_no (by rw [hv]; simp)) h
    · rfl
  have hvp := vPlaced_parts hv
  have hpp := vPl_parts (hvp.2.2.2.2.2 p (List.mem_of_getElem? hp))
  obtain ⟨_, h1, h2, h3, h4, h5⟩ := hpp
  obtain ⟨x, hx⟩ := Int.eq_ofNat_of_zero_le h2
  obtain ⟨y, hy⟩ := Int.eq_ofNat_of_zero_le h4
  have hs := rowP_size (l := l.take k) (w := pw) (h := ph) (fun p hp => hvp.2.2.2.2.2 p (List.mem_of_mem_take hp)) (by omega) y
  have hrow : rowP l pw.toNat y = putS (rowP (l.take k) pw.toNat y) x p.t := by
    have h6 := rowP_next (W := pw.toNat) (y := y) hp
    rw [hk, List.take_length] at h6
    rw [h6, onRow, if_pos hy, hx, Int.toNat_natCast]
  have hfit : x + p.t.size ≤ (rowP (l.take k) pw.toNat y).size := by omega
  have hsz := putS_size hfit
  refine ⟨x, y, rowP l pw.toNat y, hx, hy, drawP_get hv (by omega), by rw [hrow, hsz]; exact hfit, by rw [hrow]; exact putS_mid hfit, by rw [hrow, hsz]; omega⟩

set_option maxHeartbeats 8000000 in
theorem FnDrawLast_walk (w : World) (a0 : Option Addr) (n0 c0 : Nat) (x0 : List Int) (h0 : InBytes w a0 n0 c0 x0) :
    Calls Try.prog 7 #[.slice a0 n0 c0] w fun e w' => e = .returned (.bool true) ∧ Below w.heap.size w w' := by
  have HD := Lib.hid (DrawDraw_any w a0 n0 c0 x0 h0)
  clear h0
  by_cases g0 : n0 ≤ 1048576
  case neg =>
    go_enter Try.func7, Try.ntmps7
    go_wp2
    go_ret
    exact ⟨rfl, Below.refl _ _⟩
  go_enter Try.func7, Try.ntmps7
  go_wp2_with fail
  refine HD.out.mono ?_
  rintro e w1 ⟨L, m, d, xs, pw, ph, rfl, hm, hmd, hx, hxs, hw0, hw1, hh0, hh1, hB⟩
  have B0 := Lib.hid hB
  have X0 := Lib.hid hx
  have XL := Lib.hid hx.placed_len
  have Z0 : Hid (∀ p ∈ xs, p.t.size ≤ 1048576) := fun s hs => by have := hxs s hs; omega
  clear hB hx hxs HD
  have HP := Lib.hid (@draw_last xs pw ph)
  have hV60 : (drawP xs pw ph).length ≤ 60 := drawP_bound.1
  obtain ⟨V, hV⟩ : ∃ V, V = drawP xs pw ph := ⟨_, rfl⟩
  have CI := Lib.hid (fun w (h : Rd w 3 L m (placeds xs)) => implDraw_any L m d xs pw ph w h (by omega) Z0.out)
  have CS := Lib.hid (fun w (h : Rd w 3 L m (placeds xs)) => specDraw_any L m d xs pw ph w h (by omega) Z0.out)
  unfold DrRes at CI CS
  rw [← hV] at HP CI CS hV60
  clear hV
  go_wp2_with fail
  refine (CI.out _ X0.out).mono ?_
  rintro e wa ⟨Ag, kg, dg, rfl, ho, hb⟩
  have Og := Lib.hid ho
  have B1 := Lib.hid hb
  have Kg := Lib.hid (Rd.own ho).slen
  clear ho hb
  go_wp2_with fail
  have hkl : V.length = kg := Kg.out
  refine (CS.out _ (X0.out.below B1.out)).mono ?_
  rintro e wc ⟨As, ks, ds, rfl, ho, hb⟩
  have hks : ks = kg := by have h := (Rd.own ho).slen; rw [← h, Kg.out]
  subst hks
  have Os := Lib.hid ho
  have Og3 := Lib.hid (own_below Og.out hb)
  have B3 := Lib.hid (below_step B1.out hb)
  clear ho hb
  go_wp2_with fail
  refine (equalTexts_any Ag As ks ks dg ds V V _ (Rd.own Og3.out) (Rd.own Os.out) (by omega) (by omega)).mono ?_
  rintro e wd2 ⟨rfl, hb⟩
  have B4 := Lib.hid (below_step B3.out (below_of_drew (B := wc.heap.size) hb))
  have Og4 := Lib.hid (own_below Og3.out (below_of_drew (B := wc.heap.size) hb))
  clear hb
  by_cases hk0 : ks = 0 ∨ m = 0
  case pos =>
    have hk' : ((ks : Int) == 0) = true ∨ (((ks : Int) == 0) = false ∧ ((m : Int) == 0) = true) := by
      by_cases h : ks = 0
      · exact .inl (by simp [h])
      · exact .inr ⟨by simp; omega, by simp; omega⟩
    clear hk0
    rcases hk' with hk' | ⟨hk', hk''⟩
    all_goals
      go_wp2_with fail
      refine (CS.out _ (X0.out.below B4.out)).mono ?_
      rintro e we ⟨At, kt, dt, rfl, ho, hb⟩
      have hkt : kt = ks := by have h := (Rd.own ho).slen; rw [← h, Kg.out]
      subst hkt
      have Ot := Lib.hid ho
      have Og5 := Lib.hid (own_below Og4.out hb)
      have B5 := Lib.hid (below_step B4.out hb)
      clear ho hb
      go_wp2_with fail
      refine (equalTexts_any Ag At kt kt dg dt V V _ (Rd.own Og5.out) (Rd.own Ot.out) (by omega) (by omega)).mono ?_
      rintro e wf ⟨rfl, hb⟩
      have B6 := Lib.hid (below_step B5.out (below_of_drew (B := we.heap.size) hb))
      clear hb
      go_wp2_with fail
      go_ret
      exact ⟨ret_bool (by simp), below_step B0.out B6.out⟩
  have hk' : ((ks : Int) == 0) = false := by simp; omega
  have hk'' : ((m : Int) == 0) = false := by simp; omega
  obtain ⟨m1, hm1⟩ : ∃ m1, m = m1 + 1 := ⟨m - 1, by omega⟩
  obtain ⟨b, o, p, rfl, ep, hc0, hc1, hc2⟩ := (X0.out.below B4.out).placed_at (k := m1) (by omega)
  have hlast := HP.out (fun e => hk0 (.inl (by rw [← Kg.out, e]; rfl))) ep (by rw [XL.out]; omega)
  obtain ⟨x, y, row, hpx, hpy, hrow, hfit, hext, hrs⟩ := hlast
  obtain ⟨px, py, t⟩ := p
  replace hpx : px = (x : Int) := hpx
  replace hpy : py = (y : Int) := hpy
  subst hpx; subst hpy
  replace hfit : x + t.size ≤ row.size := hfit
  replace hext : row.extract x (x + t.size) = t := hext
  replace hc0 : wd2.cell? ⟨b, o + m1 * 3, none⟩ = some (.int .i64 (x : Int)) := hc0
  replace hc1 : wd2.cell? ⟨b, o + m1 * 3 + 1, none⟩ = some (.int .i64 (y : Int)) := hc1
  replace hc2 : wd2.cell? ⟨b, o + m1 * 3 + 2, none⟩ = some (.string t) := hc2
  have hyk : y < ks := by rw [← Kg.out]; exact (List.getElem?_eq_some_iff.1 hrow).1
  obtain ⟨WA, hWA⟩ : ∃ WA, WA = wd2.alloc (.cells #[.int .i64 (x : Int), .int .i64 (y : Int), .string t] 36) := ⟨_, rfl⟩
  have P0 : WA.cell? ⟨wd2.heap.size, 0, none⟩ = some (.int .i64 (x : Int)) := by rw [hWA]; exact cell_of_row _ _ 0 _ _ (0, 0) (heap_alloc_new wd2 _)
  have P1 : WA.cell? ⟨wd2.heap.size, 1, none⟩ = some (.int .i64 (y : Int)) := by rw [hWA]; exact cell_of_row _ _ 1 _ _ (0, 0) (heap_alloc_new wd2 _)
  have P2 : WA.cell? ⟨wd2.heap.size, 2, none⟩ = some (.string t) := by rw [hWA]; exact cell_of_row _ _ 2 _ _ (0, 0) (heap_alloc_new wd2 _)
  have BA : Hid (Below w1.heap.size w1 WA) := by rw [hWA]; exact B4.out.alloc B4.out.size _
  have OA : Hid (WA.ownsRow w1.heap.size 9 1 (.slice Ag ks dg) ks (strs' V)) := by rw [hWA]; exact Og4.out.alloc _
  obtain ⟨b1, o1, row2, eA, erow, hcl⟩ := (Rd.own OA.out).str_at (k := y) hyk
  rw [hrow] at erow
  injection erow with erow
  subst erow
  subst eA
  have hm1i : (m : Int) - 1 = (m1 : Int) := by omega
  have hm1m : (m1 : Int) < (m : Int) := by omega
  have hm10 : (0 : Int) ≤ (m1 : Int) := by omega
  have hyk' : (y : Int) < (ks : Int) := by omega
  have hy0 : (0 : Int) ≤ (y : Int) := by omega
  have hA : decide ((ks : Int) ≤ (y : Int)) = false := decide_eq_false (by omega)
  have hwk : IntKind.i64.wrap ((x : Int) + (t.size : Int)) = (x : Int) + (t.size : Int) := IntWalk.i64_in _ (by omega)
  have hB : decide ((row.size : Int) < IntKind.i64.wrap ((x : Int) + (t.size : Int))) = false := decide_eq_false (by rw [hwk]; omega)
  clear hwk
  have hx0 : (0 : Int) ≤ (x : Int) := by omega
  have hxx : (x : Int) ≤ (x : Int) + (t.size : Int) := by omega
  have hxr : (x : Int) + (t.size : Int) ≤ (row.size : Int) := by omega
  have htn : ((x : Int) + (t.size : Int)).toNat = x + t.size := by rw [← Int.natCast_add, Int.toNat_natCast]
  have hee : ((row.extract x (x + t.size)).toList == t.toList) = true := by rw [hext]; simp
  clear hext hrow ep hm1 hk0 hkl
  go_wp2_with fail
  rw [← hWA]
  clear hWA
  go_quiet (fail)
  go_wp2_with fail
  go_quiet (fail)
  go_wp2_with fail
  go_ret
  exact ⟨ret_bool (by simp), below_step B0.out (below_drewN' (below_drewN' BA.out _) _)⟩
end Go.Proofs.Ytigcbnehcofbcaa
