/-
  The walk of FnOutlinePrefix: beginnings of outlines are valid, and have the same numbers.
-/
import Derived.Test.YtdgmienljhaipaaDoorNumImpl
import Derived.Test.YtdgmienljhaipaaDoorNumLaws
import Derived.Test.YtdgmienljhaipaaDoorDrawNum
import Derived.Deep.RegionHeld3
namespace Go.Proofs.YtdgmienljhaipaaDoor
open Go.RowKit
set_option linter.unusedVariables false

theorem rd_pre {w : World} {A : Option Addr} {n k : Nat} {xs : List Int} (h : Rd w 1 A n (ints xs)) (hk : k ≤ n) : Rd w 1 A k (ints (xs.take k)) := by
  have hl := h.len
  refine ⟨by simp [ints]; omega, fun hn => ?_⟩
  obtain ⟨b, o, eA, hc⟩ := h.2 (by omega)
  refine ⟨b, o, eA, fun j hj => ?_⟩
  rw [hc j (by omega)]
  unfold ints
  rw [List.getElem?_map, List.getElem?_map, List.getElem?_take, if_pos (by omega)]
theorem rd_preS {w : World} {A : Option Addr} {n k : Nat} {xs : List ByteArray} (h : Rd w 1 A n (strs' xs)) (hk : k ≤ n) : Rd w 1 A k (strs' (xs.take k)) := by
  have hl := h.slen
  refine ⟨by rw [strs_length, List.length_take]; omega, fun hn => ?_⟩
  obtain ⟨b, o, eA, hc⟩ := h.2 (by omega)
  refine ⟨b, o, eA, fun j hj => ?_⟩
  rw [hc j (by omega)]
  unfold strs'
  rw [List.getElem?_map, List.getElem?_map, List.getElem?_take, if_pos (by omega)]
set_option maxRecDepth 8000 in
set_option maxHeartbeats 8000000 in
theorem FnOutlinePrefix_walk (w : World) (a0 : Option Addr) (n0 c0 : Nat) (x0 : List Int) (h0 : InBytes w a0 n0 c0 x0) (a1 : Option Addr) (n1 c1 : Nat) (x1 : List Int) (h1 : InBytes w a1 n1 c1 x1) :
    Calls Tryd.prog 3 #[.slice a0 n0 c0, .slice a1 n1 c1] w fun e w' => e = .returned (.bool true) ∧ Below w.heap.size w w' := by
  have HD := Lib.hid (DrawValidOutline_any w a0 n0 c0 x0 h0)
  clear h0 h1
  by_cases g0 : n0 ≤ 1048576
  case neg =>
    go_enter Tryd.func3, Tryd.ntmps3
    go_wp2
    go_ret
    exact ⟨rfl, Below.refl _ _⟩
  by_cases g1 : n1 ≤ 1048576
  case neg =>
    go_enter Tryd.func3, Tryd.ntmps3
    go_wp2
    go_ret
    exact ⟨rfl, Below.refl _ _⟩
  go_enter Tryd.func3, Tryd.ntmps3
  go_wp2_with fail
  refine HD.out.mono ?_
  rintro e w1 ⟨L, m, d, xs, rfl, hm, hmd, hx, hB⟩
  have B0 := Lib.hid hB
  have X0 := Lib.hid hx
  have XL := Lib.hid hx.len
  clear hB hx HD
  have CV := Lib.hid (fun w (h : Rd w 1 L m (ints xs)) => implOutline_any L m d xs w h (by omega))
  have CW := Lib.hid (fun w (h : Rd w 1 L m (ints xs)) => specValidOutline_any L m d xs w h (by omega))
  cases hv : vOutline xs
  · rw [hv] at CV CW
    clear hv
    go_wp2_with fail
    refine (CV.out _ X0.out).mono ?_
    rintro e w' ⟨rfl, rfl⟩
    go_wp2_with fail
    refine (CW.out _ X0.out).mono ?_
    rintro e w' ⟨rfl, rfl⟩
    go_wp2_with fail
    refine (CW.out _ X0.out).mono ?_
    rintro e w' ⟨rfl, rfl⟩
    go_wp2_with fail
    go_ret
    exact ⟨ret_bool (by simp), B0.out⟩
  have HV := Lib.hid hv
  rw [hv] at CV CW
  clear hv
  obtain ⟨K, hK⟩ : ∃ K, K = n1 % (m + 1) := ⟨_, rfl⟩
  have hKm : K ≤ m := by have := Nat.mod_lt n1 (show 0 < m + 1 by omega); omega
  have hKe : (n1 : Int) % ((m : Int) + 1) = (K : Int) := by rw [hK]; push_cast; rfl
  have hKt : (n1 : Int).tmod ((m : Int) + 1) = (K : Int) := by rw [Int.tmod_eq_emod_of_nonneg (by omega)]; exact hKe
  clear hK
  have CA := Lib.hid (fun w (h : Rd w 1 L m (ints xs)) => implNum_any L m d xs w h (by omega))
  unfold NmRes at CA
  have hV20 : (numT xs).length = m := by rw [numT_len HV.out, XL.out]
  obtain ⟨V, hVe⟩ : ∃ V, V = numT xs := ⟨_, rfl⟩
  have HVE := Lib.hid hVe
  rw [← hVe] at CA hV20
  clear hVe
  go_wp2_with fail
  refine (CV.out _ X0.out).mono ?_
  rintro e w' ⟨rfl, rfl⟩
  go_wp2_with fail
  refine (CW.out _ X0.out).mono ?_
  rintro e w' ⟨rfl, rfl⟩
  go_wp2_with fail
  refine (CA.out _ X0.out).mono ?_
  rintro e wa ⟨Ag, kg, dg, rfl, ho, hb⟩
  have Og := Lib.hid ho
  have B1 := Lib.hid hb
  have hkg : kg = m := by have h := (Rd.own ho).slen; omega
  subst hkg
  have hgd := own_le ho
  clear ho hb
  have hK0 : (0 : Int) ≤ (K : Int) := by omega
  have hKd : (K : Int) ≤ (d : Int) := by omega
  have hKg : (K : Int) ≤ (dg : Int) := by omega
  have hkk : ((kg : Int) == (kg : Int)) = true := by simp
  have PK : Hid (∀ q, Rd (wa.drewN q) 1 L K (ints (xs.take K))) := fun q => rd_pre ((X0.out.below B1.out).drewN q) hKm
  have CP := Lib.hid (fun q => implOutline_any L K d (xs.take K) (wa.drewN q) (PK.out q) (by omega))
  rw [vOutline_take HV.out K] at CP
  have CN := Lib.hid (fun q => implNum_any L K d (xs.take K) (wa.drewN q) (PK.out q) (by omega))
  unfold NmRes at CN
  rw [numT_take HV.out K, ← HVE.out] at CN
  go_wp2_with fail
  have PG : Hid (Rd wa 1 Ag K (strs' (V.take K))) := rd_preS (Rd.own Og.out) hKm
  have hVK : (V.take K).length = K := by rw [List.length_take]; omega
  have hVm : V.length = kg := hV20
  go_region_held3 (fun _ => True) (trivial) (first
    | (go_at_call 9; refine (CP.out 1).mono ?_; rintro e w' ⟨rfl, rfl⟩)
    | (go_at_call 11; refine (CN.out 1).mono ?_; rintro e w5 ⟨Ah, kh, dh, rfl, ho5, hb5⟩)
    | (go_at_call 12; refine (equalTexts_any Ah Ag kh K dh dg (V.take K) (V.take K) w5 (Rd.own ho5) ((PG.out.drewN 1).below hb5) (by have h := (Rd.own ho5).slen; omega) (by omega)).mono ?_; rintro e w6 ⟨rfl, hb6⟩))
  have B5 := Lib.hid (below_step (below_drewN' (below_step B0.out B1.out) 1) hb5)
  have B6 := Lib.hid (below_step B5.out (below_of_drew (B := w5.heap.size) hb6))
  clear hb5 hb6
  go_wp2_with fail
  go_ret
  exact ⟨ret_bool (by simp), B6.out⟩
end Go.Proofs.YtdgmienljhaipaaDoor
