/-
  Contracts of the reference's generators of placed texts: somePlaced, and those that hand it on.
-/
import Derived.Test.YtigcbnehcofbcaaDoorDrawPlaced
namespace Go.Proofs.YtigcbnehcofbcaaDoor
open Go.RowKit
set_option linter.unusedVariables false

/-- At most 4 placed texts, each of at most 9 letters, in new memory; a size of a picture. -/
def SomePl (w : World) (e : Ending) (w' : World) : Prop :=
  ∃ L m d xs pw ph, e = .returned (.tuple #[.slice L m d, .int .i64 pw, .int .i64 ph]) ∧ m ≤ 4 ∧ m ≤ d ∧ Rd w' 3 L m (placeds xs) ∧ (∀ x ∈ xs, x.t.size ≤ 9) ∧ 0 ≤ pw ∧ pw ≤ 61 ∧ 1 ≤ ph ∧ ph ≤ 4 ∧ Below w.heap.size w w'

set_option maxHeartbeats 8000000 in
theorem somePlaced_any (w : World) (a : Option Addr) (n c : Nat) (zs : List Int) (h : InBytes w a n c zs) :
    Calls Tryd.prog 27 #[.slice a n c] w (SomePl w) := by
  have HN := Lib.hid (newReader_any w a n c zs h)
  clear h
  go_enter Tryd.func27, Tryd.ntmps27
  go_wp2_with fail
  refine HN.out.mono ?_
  rintro e w1 ⟨A, rn, rc, bs, rfl, hR1, hB1⟩
  have R1 := Lib.hid hR1
  have B1 := Lib.hid hB1
  clear hR1 hB1 HN
  go_wp2_with fail
  refine (pick_gr _ _ _ A rn rc bs 0 8 R1.out (by omega) (by omega)).mono ?_
  rintro e w2 ⟨v, rfl, hv0, hv1, _, hR2, hG2⟩
  have hk1 := hv1 (by omega)
  obtain ⟨k1, rfl⟩ := Int.eq_ofNat_of_zero_le hv0
  have R2 := Lib.hid hR2
  have B2 := Lib.hid (below_gr B1.out hG2 (Nat.le_refl _))
  clear hR2 hG2 hv1
  go_wp2_with fail
  refine (pick_gr _ _ _ A rn rc bs _ 4 R2.out (by omega) (by omega)).mono ?_
  rintro e w3 ⟨v, rfl, hv0, hv1, _, hR3, hG3⟩
  have hk2 := hv1 (by omega)
  obtain ⟨k2, rfl⟩ := Int.eq_ofNat_of_zero_le hv0
  have R3 := Lib.hid hR3
  have B3 := Lib.hid (below_gr B2.out hG3 (Nat.le_refl _))
  have hg3 : w.heap.size < w3.heap.size := hR3.blk.lt
  clear hR3 hG3 hv1
  go_wp2_with fail
  refine (randomPlaced_any w3 _ _ A rn rc bs _ _ _ R3.out (by omega) (by omega) (by omega) (by omega) (by omega)).mono ?_
  rintro e w4 ⟨L, m, d, xs, p4, rfl, hm, ho, hxs, hp4, hR4, hG4⟩
  have R4 := Lib.hid hR4
  have O4 := Lib.hid ho
  have XS := Lib.hid hxs
  have B4 := Lib.hid (below_gr B3.out hG4 (Nat.le_refl _))
  have hw4 : w3.heap.size ≤ w4.heap.size := hG4.size
  have hBw : w1.heap.size ≤ w3.heap.size := R3.out.size
  clear hR4 ho hxs hG4
  obtain ⟨L0, d0, e0, hmd⟩ := own_shape O4.out
  injection e0 with e1 e2 e3
  subst e1
  subst e3
  by_cases hm0 : m = 0
  · subst hm0
    go_wp2_with fail
    refine (pick_gr _ _ _ A rn rc bs _ 16 R4.out (by omega) (by omega)).mono ?_
    rintro e wt ⟨vt, rfl, hvt, _, _, hRt, hGt⟩
    have Rt := Lib.hid hRt
    have Ot := Lib.hid (own_gr O4.out hGt hg3)
    have Bt := Lib.hid (below_gr B4.out hGt (Nat.le_refl _))
    clear hRt hGt
    by_cases zt : vt = 0
    · subst zt
      go_wp2_with fail
      refine (one_lit _ _ _ A rn rc bs _ [0, 61] _ 2 2 rfl Rt.out (by omega) rfl (by omega) (by omega) _).mono ?_
      rintro e wu ⟨u, rfl, hu, hRu, hGu⟩
      have Ou := Lib.hid (own_gr Ot.out hGu hg3)
      have Bu := Lib.hid (below_gr Bt.out hGu (Nat.le_refl _))
      have hu' : 0 ≤ u ∧ u ≤ 61 := by simp at hu; omega
      clear hRu hGu hu
      go_wp2_with fail
      go_ret3
      exact ⟨_, 0, _, xs, u, 1 + (k2 : Int), rfl, by omega, by omega, Rd.own Ou.out, XS.out, hu'.1, hu'.2, by omega, by omega, Bu.out⟩
    · have zt' : (vt == 0) = false := by simpa using zt
      go_wp2_with fail
      go_ret3
      exact ⟨_, 0, _, xs, 1 + (k1 : Int), 1 + (k2 : Int), rfl, by omega, by omega, Rd.own Ot.out, XS.out, by omega, by omega, by omega, by omega, Bt.out⟩
  have hmpos : (0 : Int) < (m : Int) := by omega
  have hlx : xs.length = m := by
    have := O4.out.1
    rw [placeds, flat_length Pl.cells 3 Pl.cells_length] at this
    omega
  obtain ⟨p0, rest, rfl⟩ : ∃ p0 rest, xs = p0 :: rest := by
    match xs, hlx with
    | [], h => simp at h; omega
    | p0 :: rest, _ => exact ⟨p0, rest, rfl⟩
  clear hlx
  rcases O4.out.2 with ⟨_, h0⟩ | ⟨gg, cap, cur, hL, hgg, _⟩
  · omega
  injection hL with hL1 _ hL3
  subst hL1
  subst hL3
  go_wp2_with fail
  refine (pick_gr _ _ _ A rn rc bs _ 14 R4.out (by omega) (by omega)).mono ?_
  rintro e w5 ⟨v5, rfl, hv5, _, _, hR5, hG5⟩
  have R5 := Lib.hid hR5
  have O5 := Lib.hid (own_gr O4.out hG5 hg3)
  have B5 := Lib.hid (below_gr B4.out hG5 (Nat.le_refl _))
  clear hR5 hG5
  by_cases s0 : v5 = 0
  · subst s0
    go_wp2_with fail
    refine (one_lit _ _ _ A rn rc bs _ [-1, 1 + (k1 : Int)] _ 2 2 rfl R5.out (by omega) rfl (by omega) (by omega) _).mono ?_
    rintro e w6 ⟨u6, rfl, _, hR6, hG6⟩
    have R6 := Lib.hid hR6
    have O6 := Lib.hid (own_gr O5.out hG6 hg3)
    have B6 := Lib.hid (below_gr B5.out hG6 (Nat.le_refl _))
    clear hR6 hG6
    have hc := O6.out.cellAt 0 (by omega)
    have hf := O6.out.frozenAt 0
    have hcv : ∃ z, (placeds (p0 :: rest))[0]? = some z := ⟨_, rfl⟩
    obtain ⟨z, hz⟩ := hcv
    rw [hz] at hc
    have ST := Lib.hid (O6.out.stored 0 (.int .i64 u6))
    have Os : Hid ((w6.setCell ⟨gg, 0, none⟩ (.int .i64 u6)).ownsRow w3.heap.size 45 3 (.slice (some ⟨gg, 0, none⟩) m d) m (placeds ({ p0 with x := u6 } :: rest))) := ST.out.1
    have Rs := Lib.hid (R6.out.grown ST.out.2 (fun k hk => by injection hk with hk; omega))
    have Bs := Lib.hid (B6.out.grown ST.out.2 B6.out.size (fun k hk => by injection hk with hk; omega))
    have XSs : Hid (∀ x ∈ { p0 with x := u6 } :: rest, x.t.size ≤ 9) := by
      intro x hx
      rw [List.mem_cons] at hx
      rcases hx with rfl | hx
      · exact XS.out p0 List.mem_cons_self
      · exact XS.out x (List.mem_cons_of_mem _ hx)
    clear hz
    go_wp2_with fail
    refine (pick_gr _ _ _ A rn rc bs _ 16 Rs.out (by omega) (by omega)).mono ?_
    rintro e wt ⟨vt, rfl, hvt, _, _, hRt, hGt⟩
    have Rt := Lib.hid hRt
    have Ot := Lib.hid (own_gr Os.out hGt hg3)
    have Bt := Lib.hid (below_gr Bs.out hGt (Nat.le_refl _))
    clear hRt hGt
    by_cases zt : vt = 0
    · subst zt
      go_wp2_with fail
      refine (one_lit _ _ _ A rn rc bs _ [0, 61] _ 2 2 rfl Rt.out (by omega) rfl (by omega) (by omega) _).mono ?_
      rintro e wu ⟨u, rfl, hu, hRu, hGu⟩
      have Ou := Lib.hid (own_gr Ot.out hGu hg3)
      have Bu := Lib.hid (below_gr Bt.out hGu (Nat.le_refl _))
      have hu' : 0 ≤ u ∧ u ≤ 61 := by simp at hu; omega
      clear hRu hGu hu
      go_wp2_with fail
      go_ret3
      exact ⟨_, m, _, _, u, 1 + (k2 : Int), rfl, by omega, by omega, Rd.own Ou.out, XSs.out, hu'.1, hu'.2, by omega, by omega, Bu.out⟩
    · have zt' : (vt == 0) = false := by simpa using zt
      go_wp2_with fail
      go_ret3
      exact ⟨_, m, _, _, 1 + (k1 : Int), 1 + (k2 : Int), rfl, by omega, by omega, Rd.own Ot.out, XSs.out, by omega, by omega, by omega, by omega, Bt.out⟩
  have s0' : (v5 == 0) = false := by simpa using s0
  by_cases s1 : v5 = 1
  · subst s1
    go_wp2_with fail
    refine (of_lit _ _ _ A rn rc bs _ [⟨#[]⟩, ⟨#[97, 98, 99, 100, 101, 102, 103, 104, 105]⟩] _ 2 2 rfl R5.out (by omega) rfl (by omega) (by omega) _).mono ?_
    rintro e w6 ⟨u6, rfl, hu6, hR6, hG6⟩
    have hu9 : u6.size ≤ 9 := by
      simp only [List.mem_cons, List.not_mem_nil, or_false] at hu6
      rcases hu6 with rfl | rfl <;> decide
    have R6 := Lib.hid hR6
    have O6 := Lib.hid (own_gr O5.out hG6 hg3)
    have B6 := Lib.hid (below_gr B5.out hG6 (Nat.le_refl _))
    clear hR6 hG6 hu6
    have hc := O6.out.cellAt 2 (by omega)
    have hf := O6.out.frozenAt 2
    have hcv : ∃ z, (placeds (p0 :: rest))[2]? = some z := ⟨_, rfl⟩
    obtain ⟨z, hz⟩ := hcv
    rw [hz] at hc
    have ST := Lib.hid (O6.out.stored 2 (.string u6))
    have Os : Hid ((w6.setCell ⟨gg, 2, none⟩ (.string u6)).ownsRow w3.heap.size 45 3 (.slice (some ⟨gg, 0, none⟩) m d) m (placeds ({ p0 with t := u6 } :: rest))) := ST.out.1
    have Rs := Lib.hid (R6.out.grown ST.out.2 (fun k hk => by injection hk with hk; omega))
    have Bs := Lib.hid (B6.out.grown ST.out.2 B6.out.size (fun k hk => by injection hk with hk; omega))
    have XSs : Hid (∀ x ∈ { p0 with t := u6 } :: rest, x.t.size ≤ 9) := by
      intro x hx
      rw [List.mem_cons] at hx
      rcases hx with rfl | hx
      · exact hu9
      · exact XS.out x (List.mem_cons_of_mem _ hx)
    clear hz
    go_wp2_with fail
    refine (pick_gr _ _ _ A rn rc bs _ 16 Rs.out (by omega) (by omega)).mono ?_
    rintro e wt ⟨vt, rfl, hvt, _, _, hRt, hGt⟩
    have Rt := Lib.hid hRt
    have Ot := Lib.hid (own_gr Os.out hGt hg3)
    have Bt := Lib.hid (below_gr Bs.out hGt (Nat.le_refl _))
    clear hRt hGt
    by_cases zt : vt = 0
    · subst zt
      go_wp2_with fail
      refine (one_lit _ _ _ A rn rc bs _ [0, 61] _ 2 2 rfl Rt.out (by omega) rfl (by omega) (by omega) _).mono ?_
      rintro e wu ⟨u, rfl, hu, hRu, hGu⟩
      have Ou := Lib.hid (own_gr Ot.out hGu hg3)
      have Bu := Lib.hid (below_gr Bt.out hGu (Nat.le_refl _))
      have hu' : 0 ≤ u ∧ u ≤ 61 := by simp at hu; omega
      clear hRu hGu hu
      go_wp2_with fail
      go_ret3
      exact ⟨_, m, _, _, u, 1 + (k2 : Int), rfl, by omega, by omega, Rd.own Ou.out, XSs.out, hu'.1, hu'.2, by omega, by omega, Bu.out⟩
    · have zt' : (vt == 0) = false := by simpa using zt
      go_wp2_with fail
      go_ret3
      exact ⟨_, m, _, _, 1 + (k1 : Int), 1 + (k2 : Int), rfl, by omega, by omega, Rd.own Ot.out, XSs.out, by omega, by omega, by omega, by omega, Bt.out⟩
  have s1' : (v5 == 1) = false := by simpa using s1
  by_cases s2 : v5 = 2
  · subst s2
    have hc := O5.out.cellAt 1 (by omega)
    have hf := O5.out.frozenAt 1
    have hcv : ∃ z, (placeds (p0 :: rest))[1]? = some z := ⟨_, rfl⟩
    obtain ⟨z, hz⟩ := hcv
    rw [hz] at hc
    have ST := Lib.hid (O5.out.stored 1 (.int .i64 (1 + (k2 : Int))))
    have Os : Hid ((w5.setCell ⟨gg, 1, none⟩ (.int .i64 (1 + (k2 : Int)))).ownsRow w3.heap.size 45 3 (.slice (some ⟨gg, 0, none⟩) m d) m (placeds ({ p0 with y := 1 + (k2 : Int) } :: rest))) := ST.out.1
    have Rs := Lib.hid (R5.out.grown ST.out.2 (fun k hk => by injection hk with hk; omega))
    have Bs := Lib.hid (B5.out.grown ST.out.2 B5.out.size (fun k hk => by injection hk with hk; omega))
    have XSs : Hid (∀ x ∈ { p0 with y := 1 + (k2 : Int) } :: rest, x.t.size ≤ 9) := by
      intro x hx
      rw [List.mem_cons] at hx
      rcases hx with rfl | hx
      · exact XS.out p0 List.mem_cons_self
      · exact XS.out x (List.mem_cons_of_mem _ hx)
    clear hz
    go_wp2_with fail
    refine (pick_gr _ _ _ A rn rc bs _ 16 Rs.out (by omega) (by omega)).mono ?_
    rintro e wt ⟨vt, rfl, hvt, _, _, hRt, hGt⟩
    have Rt := Lib.hid hRt
    have Ot := Lib.hid (own_gr Os.out hGt hg3)
    have Bt := Lib.hid (below_gr Bs.out hGt (Nat.le_refl _))
    clear hRt hGt
    by_cases zt : vt = 0
    · subst zt
      go_wp2_with fail
      refine (one_lit _ _ _ A rn rc bs _ [0, 61] _ 2 2 rfl Rt.out (by omega) rfl (by omega) (by omega) _).mono ?_
      rintro e wu ⟨u, rfl, hu, hRu, hGu⟩
      have Ou := Lib.hid (own_gr Ot.out hGu hg3)
      have Bu := Lib.hid (below_gr Bt.out hGu (Nat.le_refl _))
      have hu' : 0 ≤ u ∧ u ≤ 61 := by simp at hu; omega
      clear hRu hGu hu
      go_wp2_with fail
      go_ret3
      exact ⟨_, m, _, _, u, 1 + (k2 : Int), rfl, by omega, by omega, Rd.own Ou.out, XSs.out, hu'.1, hu'.2, by omega, by omega, Bu.out⟩
    · have zt' : (vt == 0) = false := by simpa using zt
      go_wp2_with fail
      go_ret3
      exact ⟨_, m, _, _, 1 + (k1 : Int), 1 + (k2 : Int), rfl, by omega, by omega, Rd.own Ot.out, XSs.out, by omega, by omega, by omega, by omega, Bt.out⟩
  have s2' : (v5 == 2) = false := by simpa using s2
  clear s0 s1 s2
  go_wp2_with fail
  refine (pick_gr _ _ _ A rn rc bs _ 16 R5.out (by omega) (by omega)).mono ?_
  rintro e wt ⟨vt, rfl, hvt, _, _, hRt, hGt⟩
  have Rt := Lib.hid hRt
  have Ot := Lib.hid (own_gr O5.out hGt hg3)
  have Bt := Lib.hid (below_gr B5.out hGt (Nat.le_refl _))
  clear hRt hGt
  by_cases zt : vt = 0
  · subst zt
    go_wp2_with fail
    refine (one_lit _ _ _ A rn rc bs _ [0, 61] _ 2 2 rfl Rt.out (by omega) rfl (by omega) (by omega) _).mono ?_
    rintro e wu ⟨u, rfl, hu, hRu, hGu⟩
    have Ou := Lib.hid (own_gr Ot.out hGu hg3)
    have Bu := Lib.hid (below_gr Bt.out hGu (Nat.le_refl _))
    have hu' : 0 ≤ u ∧ u ≤ 61 := by simp at hu; omega
    clear hRu hGu hu
    go_wp2_with fail
    go_ret3
    exact ⟨_, m, _, _, u, 1 + (k2 : Int), rfl, by omega, by omega, Rd.own Ou.out, XS.out, hu'.1, hu'.2, by omega, by omega, Bu.out⟩
  · have zt' : (vt == 0) = false := by simpa using zt
    go_wp2_with fail
    go_ret3
    exact ⟨_, m, _, _, 1 + (k1 : Int), 1 + (k2 : Int), rfl, by omega, by omega, Rd.own Ot.out, XS.out, by omega, by omega, by omega, by omega, Bt.out⟩

theorem DrawDraw_any (w : World) (a : Option Addr) (n c : Nat) (zs : List Int) (h : InBytes w a n c zs) :
    Calls Tryd.prog 16 #[.slice a n c] w (SomePl w) := by
  have HN := Lib.hid (somePlaced_any w a n c zs h)
  clear h
  go_enter Tryd.func16, Tryd.ntmps16
  go_wp2_with fail
  refine HN.out.mono ?_
  rintro e w1 ⟨L, m, d, xs, pw, ph, rfl, h1, h2, h3, h4, h5, h6, h7, h8, h9⟩
  have H : Hid (m ≤ 4 ∧ m ≤ d ∧ Rd w1 3 L m (placeds xs) ∧ (∀ x ∈ xs, x.t.size ≤ 9) ∧ 0 ≤ pw ∧ pw ≤ 61 ∧ 1 ≤ ph ∧ ph ≤ 4 ∧ Below w.heap.size w w1) := ⟨h1, h2, h3, h4, h5, h6, h7, h8, h9⟩
  clear h1 h2 h3 h4 h5 h6 h7 h8 h9
  go_wp2_with fail
  go_ret3
  exact ⟨L, m, d, xs, pw, ph, rfl, H.out⟩
end Go.Proofs.YtigcbnehcofbcaaDoor
