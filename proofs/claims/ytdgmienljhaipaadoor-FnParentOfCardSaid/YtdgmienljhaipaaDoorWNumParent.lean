/-
  The walk of FnParentOf: the number of a heading begins with that of its parent.
-/
import Derived.Test.YtdgmienljhaipaaDoorNumImpl
import Derived.Test.YtdgmienljhaipaaDoorNumPar
import Derived.Test.YtdgmienljhaipaaDoorOutDraw
namespace Go.Proofs.YtdgmienljhaipaaDoor
open Go.RowKit
set_option linter.unusedVariables false

theorem parentOf_at {xs : List Int} {i : Int} (h : ¬ parentOf xs i < 0) : vOutline xs = true ∧ ∃ (i' p : Nat) (x : Int), i = (i' : Int) ∧ xs[i']? = some x ∧ parentOf xs i = (p : Int) ∧ pFrom xs x i' = (p : Int) := by
  unfold parentOf at h
  by_cases hc : vOutline xs = true ∧ inB 0 ((xs.length : Int) - 1) i = true
  · rw [if_pos hc] at h
    have hb := inB_iff.1 hc.2
    obtain ⟨i', rfl⟩ := Int.eq_ofNat_of_zero_le hb.1
    have hi : i' < xs.length := by omega
    have hg : xs[i']? = some xs[i'] := List.getElem?_eq_getElem hi
    have e : xs.getD (Int.toNat (i' : Int)) 0 = xs[i'] := by
      rw [Int.toNat_natCast, List.getD_eq_getElem?_getD, hg]
      rfl
    rw [e, Int.toNat_natCast] at h
    obtain ⟨p, hp⟩ := Int.eq_ofNat_of_zero_le (show 0 ≤ pFrom xs xs[i'] i' by omega)
    refine ⟨hc.1, i', p, xs[i'], rfl, hg, ?_, hp⟩
    unfold parentOf
    rw [if_pos hc, e, Int.toNat_natCast]
    exact hp
  · rw [if_neg hc] at h
    omega
set_option maxRecDepth 8000 in
set_option maxHeartbeats 8000000 in
theorem FnParentOf_walk (w : World) (a0 : Option Addr) (n0 c0 : Nat) (x0 : List Int) (h0 : InBytes w a0 n0 c0 x0) :
    Calls Tryd.prog 4 #[.slice a0 n0 c0] w fun e w' => e = .returned (.bool true) ∧ Below w.heap.size w w' := by
  have HD := Lib.hid (DrawParentOf_any w a0 n0 c0 x0 h0)
  clear h0
  by_cases g0 : n0 ≤ 1048576
  case neg =>
    go_enter Tryd.func4, Tryd.ntmps4
    go_wp2
    go_ret
    exact ⟨rfl, Below.refl _ _⟩
  go_enter Tryd.func4, Tryd.ntmps4
  go_wp2_with fail
  refine HD.out.mono ?_
  rintro e w1 ⟨L, m, d, xs, i, rfl, hm, hmd, hx, hi0, hi1, hB⟩
  have B0 := Lib.hid hB
  have X0 := Lib.hid hx
  have XL := Lib.hid hx.len
  clear hB hx HD
  have CP := Lib.hid (fun w (h : Rd w 1 L m (ints xs)) => implParent_any L m d xs w h i (by omega))
  have CQ := Lib.hid (fun w (h : Rd w 1 L m (ints xs)) => specParentOf_any L m d xs w h i (by omega))
  have HPA := Lib.hid (@parentOf_at xs i)
  obtain ⟨pr, hpr⟩ : ∃ pr, pr = parentOf xs i := ⟨_, rfl⟩
  rw [← hpr] at CP CQ HPA
  clear hpr
  have hpne : (pr != pr) = false := by simp
  have hpe : (pr == pr) = true := by simp
  by_cases hp0 : pr < 0
  case pos =>
    go_wp2_with fail
    refine (CP.out _ X0.out).mono ?_
    rintro e w2 ⟨rfl, q2, rfl⟩
    go_wp2_with fail
    refine (CQ.out _ (X0.out.drewN _)).mono ?_
    rintro e w3 ⟨rfl, q3, rfl⟩
    go_wp2_with fail
    refine (CQ.out _ (X0.out.drewN (q2 + q3))).mono ?_
    rintro e w4 ⟨rfl, q4, rfl⟩
    go_wp2_with fail
    go_ret
    exact ⟨ret_bool (by simp), below_drewN' B0.out _⟩
  obtain ⟨hv, i', p, x, rfl, hxi, hpp, hpf⟩ := HPA.out hp0
  obtain ⟨y, s, t, hy, hpi, hyx, hs, ht, hst, hext, hdot, ht12⟩ := num_parent hv hxi hpf
  have hV := numT_len hv
  have CN := Lib.hid (fun w (h : Rd w 1 L m (ints xs)) => implNum_any L m d xs w h (by omega))
  unfold NmRes at CN
  obtain ⟨V, hVe⟩ : ∃ V, V = numT xs := ⟨_, rfl⟩
  rw [← hVe] at CN hs ht hV
  rw [XL.out] at hV
  have hxb := vOutline_at hv hxi
  have hxb1 := hxb.1
  have hxb4 := hxb.2.1
  have him : i' < m := by rw [← XL.out]; exact (List.getElem?_eq_some_iff.1 hxi).1
  have HS := Lib.hid (And.intro hs (And.intro ht (And.intro hy hxi)))
  subst hpp
  clear hVe hpf hs ht hy hxi hv
  go_wp2_with fail
  refine (CP.out _ X0.out).mono ?_
  rintro e w2 ⟨rfl, q2, rfl⟩
  go_wp2_with fail
  refine (CQ.out _ (X0.out.drewN _)).mono ?_
  rintro e w3 ⟨rfl, q3, rfl⟩
  have X3 := Lib.hid (X0.out.drewN (q2 + q3))
  have B3 := Lib.hid (below_drewN' B0.out (q2 + q3))
  go_wp2_with fail
  refine (CN.out _ X3.out).mono ?_
  rintro e w4 ⟨Ag, kg, dg, rfl, ho, hb⟩
  have Og := Lib.hid ho
  have B4 := Lib.hid (below_step B3.out hb)
  have X4 := Lib.hid (X3.out.below hb)
  have hkg : kg = m := by have h := (Rd.own ho).slen; omega
  subst hkg
  clear ho hb
  obtain ⟨b1, o1, s', eA, es, hcs⟩ := (Rd.own Og.out).str_at (k := p) (by omega)
  rw [HS.out.1] at es
  injection es with es
  subst es
  obtain ⟨b1', o1', t', eA2, et, hct⟩ := (Rd.own Og.out).str_at (k := i') (by omega)
  rw [HS.out.2.1] at et
  injection et with et
  subst et
  rw [eA] at eA2
  injection eA2 with eA2
  injection eA2 with e1 e2
  subst e1; subst e2
  obtain ⟨b2, o2, y', eL, ey, hcy⟩ := X4.out.int_at (k := p) (by omega)
  rw [HS.out.2.2.1] at ey
  injection ey with ey
  subst ey
  obtain ⟨b2', o2', x', eL2, ex, hcx⟩ := X4.out.int_at (k := i') (by omega)
  rw [HS.out.2.2.2] at ex
  injection ex with ex
  subst ex
  rw [eL] at eL2
  injection eL2 with eL2
  injection eL2 with e1 e2
  subst e1; subst e2
  subst eA; subst eL
  have h1 : ¬ (kg : Int) ≤ (i' : Int) := by omega
  have h2 : ¬ (i' : Int) ≤ (p : Int) := by omega
  have h3 : (p : Int) < (kg : Int) := by omega
  have h4 : (i' : Int) < (kg : Int) := by omega
  have h5 : (0 : Int) ≤ (p : Int) := by omega
  have h6 : (0 : Int) ≤ (i' : Int) := by omega
  have h7 : (y == x - 1) = true := by rw [hyx]; simp
  have h8 : (s.size : Int) + 1 < (t.size : Int) := by omega
  have h9 : (0 : Int) ≤ (s.size : Int) := by omega
  have h10 : (s.size : Int) ≤ (t.size : Int) := by omega
  have h11 : (s.size : Int) < (t.size : Int) := by omega
  have h12 : ((t.extract 0 s.size).toList == s.toList) = true := by rw [hext]; simp
  have hlt : s.size < t.size := by omega
  have h13 : (t[s.size].toNat : Int) = 46 := by
    have h := hdot
    rw [List.getElem?_eq_getElem (show s.size < t.data.toList.length from hlt)] at h
    injection h with h
    have h14 : t[s.size] = 46 := h
    rw [h14]; rfl
  clear hext hdot hyx hxb
  go_wp2_with fail
  trace_state
  go_big_quiet (fail)
  go_wp2_with fail
  go_ret
  exact ⟨ret_bool (by simp), below_drewN' B4.out _⟩
end Go.Proofs.YtdgmienljhaipaaDoor
