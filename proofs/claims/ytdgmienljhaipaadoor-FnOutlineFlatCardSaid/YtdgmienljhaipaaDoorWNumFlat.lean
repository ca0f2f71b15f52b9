/-
  The walk of FnOutlineFlat: the numbers of headings of one level are the numbers from 1 on.
-/
import Derived.Test.YtdgmienljhaipaaDoorNumImpl
import Derived.Test.YtdgmienljhaipaaDoorNumLaws
import Derived.Test.YtdgmienljhaipaaDoorDrawNum
namespace Go.Proofs.YtdgmienljhaipaaDoor
open Go.RowKit
set_option linter.unusedVariables false

theorem num_valid {l : List Int} (h : (numT l).length ≠ 0) : vOutline l = true := by
  cases hv : vOutline l
  · exact absurd (by rw [numT_no (show ¬ vOutline l = true by rw [hv]; simp)]; rfl) h
  · rfl
theorem num_len20 (l : List Int) : (numT l).length ≤ 20 := by
  by_cases h : vOutline l = true
  · rw [numT_len h]
    exact vOutline_len h
  · rw [numT_no h]
    exact Nat.zero_le _
def FlRelN (u : World) (n : Nat) (v i : Value) (wr : World) : Prop :=
  ∃ k m : Nat, k ≤ n ∧ m = k ∧ i = .int .i64 (k : Int) ∧ wr.ownsRow u.heap.size 3 1 v m (ints (List.replicate k (1 : Int))) ∧ Below u.heap.size u wr
theorem flat_next (k : Nat) : ints (List.replicate (k + 1) (1 : Int)) = ints (List.replicate k (1 : Int)) ++ [.int .i64 1] := by
  rw [List.replicate_succ']
  unfold ints
  rw [List.map_append]
  rfl
set_option maxHeartbeats 1000000 in
theorem formatNumber_any (n : Nat) (w : World) (h1 : 1 ≤ n) (h2 : n < 100) : Calls Tryd.prog 24 #[.int .i64 (n : Int), .int .i64 1] w fun e w' => e = .returned (.string (decB n)) ∧ w' = w := by
  have HB := Lib.hid (inB_iff.2 (⟨by omega, by omega⟩ : (1 : Int) ≤ (n : Int) ∧ (n : Int) ≤ 3999))
  have HI := Lib.hid (itoa_any n h2 w)
  go_enter Tryd.func24, Tryd.ntmps24
  go_wp2_with fail
  refine (within_any _ _ _ _ HB.out _).mono ?_
  rintro e w' ⟨rfl, rfl⟩
  go_wp2_with fail
  refine HI.out.mono ?_
  rintro e w' ⟨rfl, rfl⟩
  go_wp2_with fail
  go_ret
  exact ⟨rfl, rfl⟩
set_option maxRecDepth 8000 in
set_option maxHeartbeats 8000000 in
theorem FnOutlineFlat_walk (w : World) (a0 : Option Addr) (n0 c0 : Nat) (x0 : List Int) (h0 : InBytes w a0 n0 c0 x0) :
    Calls Tryd.prog 7 #[.slice a0 n0 c0] w fun e w' => e = .returned (.bool true) ∧ Below w.heap.size w w' := by
  have HD := Lib.hid (DrawNumberHeadings_any w a0 n0 c0 x0 h0)
  clear h0
  by_cases g0 : n0 ≤ 1048576
  case neg =>
    go_enter Tryd.func7, Tryd.ntmps7
    go_wp2
    go_ret
    exact ⟨rfl, Below.refl _ _⟩
  go_enter Tryd.func7, Tryd.ntmps7
  go_wp2_with fail
  refine HD.out.mono ?_
  rintro e w1 ⟨L, m, d, xs, rfl, hm, hmd, hx, hB⟩
  have B0 := Lib.hid hB
  have X0 := Lib.hid hx
  have XL := Lib.hid hx.len
  clear hB hx HD
  have hV20 : (numT xs).length ≤ 20 := num_len20 xs
  obtain ⟨V, hV⟩ : ∃ V, V = numT xs := ⟨_, rfl⟩
  have CI := Lib.hid (fun w (h : Rd w 1 L m (ints xs)) => implNum_any L m d xs w h (by omega))
  have CS := Lib.hid (fun w (h : Rd w 1 L m (ints xs)) => specNum_any L m d xs w h (by omega))
  unfold NmRes at CI CS
  rw [← hV] at CI CS hV20
  have HVE := Lib.hid hV
  clear hV
  go_wp2_with fail
  refine (CI.out _ X0.out).mono ?_
  rintro e wa ⟨Ag, kg, dg, rfl, ho, hb⟩
  have Og := Lib.hid ho
  have B1 := Lib.hid hb
  have Kg := Lib.hid (Rd.own ho).slen
  clear ho hb
  go_wp2_with fail
  have hkl : V.length = kg := Kg.out
  refine (CS.out _ (X0.out.below B1.out)).mono ?_
  rintro e wc ⟨As, ks, ds, rfl, ho, hb⟩
  have hks : ks = kg := by have h := (Rd.own ho).slen; rw [← h, Kg.out]
  subst hks
  have Os := Lib.hid ho
  have Og3 := Lib.hid (own_below Og.out hb)
  have B3 := Lib.hid (below_step B1.out hb)
  clear ho hb
  go_wp2_with fail
  refine (equalTexts_any Ag As ks ks dg ds V V _ (Rd.own Og3.out) (Rd.own Os.out) (by omega) (by omega)).mono ?_
  rintro e wd2 ⟨rfl, hb⟩
  have B4 := Lib.hid (below_step B3.out (below_of_drew (B := wc.heap.size) hb))
  have Og4 := Lib.hid (own_below Og3.out (below_of_drew (B := wc.heap.size) hb))
  clear hb
  by_cases hk0 : ks = 0
  case pos =>
    have hk' : ((ks : Int) == 0) = true := by simp [hk0]
    clear hk0
    go_wp2_with fail
    refine (CS.out _ (X0.out.below B4.out)).mono ?_
    rintro e we ⟨At, kt, dt, rfl, ho, hb⟩
    have hkt : kt = ks := by have h := (Rd.own ho).slen; rw [← h, Kg.out]
    subst hkt
    have Ot := Lib.hid ho
    have Og5 := Lib.hid (own_below Og4.out hb)
    have B5 := Lib.hid (below_step B4.out hb)
    clear ho hb
    go_wp2_with fail
    refine (equalTexts_any Ag At kt kt dg dt V V _ (Rd.own Og5.out) (Rd.own Ot.out) (by omega) (by omega)).mono ?_
    rintro e wf ⟨rfl, hb⟩
    have B6 := Lib.hid (below_step B5.out (below_of_drew (B := we.heap.size) hb))
    clear hb
    go_wp2_with fail
    go_ret
    exact ⟨ret_bool (by simp), below_step B0.out B6.out⟩
  have hk' : ((ks : Int) == 0) = false := by simp; omega
  have hvo : vOutline xs = true := num_valid (by rw [← HVE.out]; omega)
  have hkm : ks = m := by rw [← hkl, HVE.out, numT_len hvo, XL.out]
  subst hkm
  have HVO := Lib.hid hvo
  have X4 := Lib.hid (X0.out.below B4.out)
  clear hvo
  have CF := Lib.hid (fun (A : Option Addr) (d : Nat) w (h : Rd w 1 A ks (ints (List.replicate ks (1 : Int)))) => implNum_any A ks d (List.replicate ks 1) w h (by omega))
  unfold NmRes at CF
  have hfl : (numT (List.replicate ks (1 : Int))).length = ks := by rw [numT_len (vOutline_flat (by omega))]; simp
  have BS : Hid (Below wd2.heap.size wd2 (wd2.alloc (.cells #[] 3))) := (Below.refl _ _).alloc (Nat.le_refl _) _
  go_wp2_with fail
  go_loopw [5, 6] (FlRelN wd2 ks) (fun _ i _ => ks - (intOf i).toNat)
  case atStart => exact ⟨0, 0, Nat.zero_le _, rfl, rfl, ⟨by simp [ints], .inr ⟨wd2.heap.size, 0, #[], rfl, Nat.le_refl _, heap_alloc_new wd2 _, Nat.le_refl _, by unfold maxLen; omega, rfl, rfl⟩⟩, BS.out⟩
  case round =>
    obtain ⟨i, r, hi, hr, rfl, hown, hbel⟩ := hrel
    subst hr
    obtain ⟨L5, d5, e5, hd5⟩ := own_shape hown
    subst e5
    have OW := Lib.hid hown
    have BW := Lib.hid hbel
    clear hown hbel
    by_cases hlt : r < ks
    case pos =>
      have hi' : (r : Int) < (ks : Int) := by omega
      have hsz : wd2.heap.size ≤ wr.heap.size := BW.out.size
      go_wp2_with (at_builtin; refine app_lit elemInt rfl _ _ rfl OW.out _ _ [.int .i64 1] rfl rfl rfl (by simp [Value.oneCell']) (by omega) hsz ?_; intro v2 w2 ho hg; have O4 := Lib.hid ho; have B4' := Lib.hid (below_app (BW.out.alloc hsz _) hg OW.out (Nat.le_refl _)); clear ho hg)
      go_roundw
      case rel => exact ⟨r + 1, r + 1, by omega, rfl, by go_num, by rw [flat_next]; exact O4.out, B4'.out⟩
      case measure => simp [intOf] <;> omega
    obtain rfl : r = ks := by omega
    have CF2 := Lib.hid (CF.out L5 d5 wr (Rd.own OW.out))
    clear hlt
    go_wp2_with fail
    refine CF2.out.mono ?_
    rintro e we ⟨Ah, kh, dh, rfl, ho, hb⟩
    have Oh := Lib.hid ho
    have hkh : kh = r := by have h := (Rd.own ho).slen; omega
    subst hkh
    have B5 := Lib.hid (B4.out.trans ((BW.out.trans (hb.mono BW.out.size)).mono B4.out.size))
    clear ho hb
    go_wp2_with fail
    go_loopw [8] (fun i wr => ∃ k q : Nat, k ≤ kh ∧ i = .int .i64 (k : Int) ∧ wr = we.drewN q) (fun i _ => kh - (intOf i).toNat)
    case atStart => exact ⟨0, 0, Nat.zero_le _, rfl, rfl⟩
    case round =>
      obtain ⟨k, q, hk, rfl, rfl⟩ := hrel
      by_cases hlt : k < kh
      case neg =>
        have hk2 : ¬ (k : Int) < (kh : Int) := by omega
        have hkk : ((kh : Int) == (kh : Int)) = true := by simp
        go_wp2_with fail
        go_ret
        exact ⟨ret_bool (by simp), below_step B0.out (below_drewN' B5.out _)⟩
      obtain ⟨b1, o1, s, eA, es, hcs⟩ := (Rd.own Oh.out).str_at (k := k) hlt
      rw [num_flat (by omega) hlt] at es
      injection es with es
      have hcs' : we.cell? ⟨b1, o1 + k, none⟩ = some (.string s) := hcs
      have CN := Lib.hid (fun n => (formatNumber_any (k + 1) (we.drewN (q + n)) (by omega) (by omega)).mono fun _ _ h => (⟨h.1, n, h.2⟩ : _ ∧ ∃ m, _ = we.drewN (q + m)))
      rw [es] at CN
      rw [show ((k + 1 : Nat) : Int) = (k : Int) + 1 from by omega] at CN
      have hss : (s.toList == s.toList) = true := by simp
      have hk2 : (k : Int) < (kh : Int) := by omega
      have hk3 : (0 : Int) ≤ (k : Int) := by omega
      have hwk : IntKind.i64.wrap ((k : Int) + 1) = (k : Int) + 1 := IntWalk.i64_in _ (by omega)
      subst eA
      clear es hcs hlt
      go_wp2_with fail
      go_quiet (first | (go_at_call 24; exact CN.out _))
      go_wp2_with fail
      go_roundw
      case rel => exact ⟨k + 1, _, by omega, by go_num, rfl⟩
      case measure => simp [intOf] <;> omega
end Go.Proofs.YtdgmienljhaipaaDoor
