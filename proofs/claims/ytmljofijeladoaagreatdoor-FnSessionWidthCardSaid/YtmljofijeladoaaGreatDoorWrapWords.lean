/-
  Contract of the program's WrapWords: the ends with the least sum of squares.
-/
import Derived.Test.YtmljofijeladoaaGreatDoorTab
namespace Go.Proofs.YtmljofijeladoaaGreatDoor
open Go.RowKit
set_option linter.unusedVariables false

set_option maxHeartbeats 4000000 in
set_option maxRecDepth 100000 in
theorem implWords_any (A : Option Addr) (n c : Nat) (l : List ByteArray) (wd : Int) (w : World) (hx : Rd w 1 A n (strs' l)) (hn : n ≤ 1048576) (hnc : n ≤ c) (hz : ∀ s ∈ l, s.size ≤ 9223372036854775807) :
    Calls Tryz.prog 26 #[.slice A n c, .int .i64 wd] w fun e w' => ∃ B k d, e = .returned (.slice B k d) ∧ w'.ownsRow w.heap.size 3 1 (.slice B k d) k (ints (wEnds l wd)) ∧ Below w.heap.size w w' := by
  have HX := Lib.hid hx
  have HLn : Hid (n = (sizes l).length) := by show n = _; rw [sizes_length, hx.slen]
  have C1 := Lib.hid (implWrap_any A n c l wd w hx hn hz)
  clear hz
  cases hv : vWrap l wd
  · have HV := Lib.hid (wEnds_bad hv)
    rw [hv] at C1
    clear hv hx
    go_enter Tryz.func26, Tryz.ntmps26
    go_wp2_with (go_at_call 41; refine C1.out.mono ?_; rintro e w' ⟨rfl, rfl⟩)
    go_ret
    exact ⟨none, 0, 0, rfl, by rw [HV.out]; exact World.ownsRow_nil _ _ _ _, Below.refl _ _⟩
  have HV := Lib.hid hv
  have HW := Lib.hid (vWrap_words hv)
  rw [hv] at C1
  clear hv
  have hw0 := HW.out.2.2.1
  have hw1 := HW.out.2.2.2
  have hn40 : n ≤ 40 := by have := HW.out.1; rw [← hx.slen]; exact this
  by_cases h0 : n = 0
  · have HE : Hid (wEnds l wd = []) := by show wEnds l wd = []; rw [wEnds_good HV.out, wends, wchainI_end (by rw [← HLn.out]; omega)]; rfl
    have h0' : ((n : Int) == 0) = true := by simp [h0]
    clear h0 hx
    go_enter Tryz.func26, Tryz.ntmps26
    go_wp2_with (go_at_call 41; refine C1.out.mono ?_; rintro e w' ⟨rfl, rfl⟩)
    go_ret
    exact ⟨none, 0, 0, rfl, by rw [HE.out]; exact World.ownsRow_nil _ _ _ _, Below.refl _ _⟩
  have h0' : ((n : Int) == 0) = false := by simp; omega
  clear hx
  have hmk : ∀ W, (Instr.makeSlice 31 (.int .i64 ((n : Int) + 1)) (.int .i64 ((n : Int) + 1))).run Tryz.prog W = .ok (.slice (some ⟨W.heap.size, 0, none⟩) (n + 1) (n + 1)) (W.alloc (.cells (madeCells #[.int .i64 0] (n + 1)) 3)) := by
    have h := run_make_row' (P := Tryz.prog) 31 3 (.int .i64 0) 8 Tryz.underlying31 infoInt rfl .i64 .i64 (n + 1) (by omega) (by omega)
    rw [show ((n + 1 : Nat) : Int) = (n : Int) + 1 from by omega] at h
    exact h
  go_enter Tryz.func26, Tryz.ntmps26
  go_wp2_with (go_at_call 41; refine C1.out.mono ?_; rintro e w' ⟨rfl, rfl⟩)
  go_region
  · go_wp2_with fail
    go_loopw [8] (OuterRel w w.heap.size (w.heap.size + 1) n (sizes l) wd) (fun i _ => (intOf i + 1).toNat)
    case atStart => exact outer_start (tab_two w n (by omega)).drew
    case round =>
      obtain ⟨v, hv1, hv2, rfl, hT⟩ := hrel
      clear C1 hmk
      obtain ⟨wo, ewo⟩ : ∃ wo : World, wo = wr := ⟨_, rfl⟩
      subst ewo
      by_cases hv0 : 0 ≤ v
      · obtain ⟨i, rfl⟩ := Int.eq_ofNat_of_zero_le hv0
        obtain ⟨k, hk⟩ : ∃ k, i + 1 + k = n := ⟨n - i - 1, by omega⟩
        rw [show n - ((i : Int) + 1).toNat = k from by omega] at hT
        have T0 := Lib.hid hT
        clear hT
        go_wp2_with fail
        go_loopw [9] (InnerRel w w.heap.size (w.heap.size + 1) n (sizes l) wd k i) (fun j _ => n + 1 - (intOf j).toNat)
        case atStart =>
          rw [show ((i : Int) + 1) = ((i + 1 : Nat) : Int) from by omega]
          exact inner_start HLn.out hk T0.out
        case round =>
          obtain ⟨J, ⟨s1, s2⟩, hJ1, hJ2, rfl, hok, hsc, hT⟩ := hrel
          have HO := Lib.hid hok
          have HS := Lib.hid hsc
          have T1 := Lib.hid hT
          clear hok hsc hT T0
          have hb1 : 0 ≤ s1 := HO.out.1
          have hb2 : s1 ≤ 3600 * (k : Int) + 3600 := HO.out.2.1
          by_cases hJn : J ≤ n
          case neg =>
            have HE := Lib.hid (HS.out.trans (wscanJ_end (st := (s1, s2)) (by rw [← HLn.out]; omega)))
            have hJn' : ¬ (J : Int) ≤ (n : Int) := by omega
            clear hJn
            go_wp2_with fail
            go_roundw
            case rel => exact outer_next HLn.out hk HE.out T1.out
            case measure => simp [intOf] <;> omega
          have hJn' : (J : Int) ≤ (n : Int) := by omega
          obtain ⟨b, o, eA, _⟩ := HX.out.2 (by omega)
          subst eA
          have hsl := (HX.out.below T1.out.bel).slice (Nat.le_of_lt hJ1) hJn
          have hb : ∀ s ∈ (l.drop i).take (J - i), s.size ≤ 20 := fun s hs => (HW.out.2.1 s (List.mem_of_mem_drop (List.mem_of_mem_take hs))).2
          have hC := implLen_any (some ⟨b, o + i, none⟩) (J - i) (c - i) _ _ hsl (by omega) (by omega) hb
          have hbd := lineLen_bd (l := (l.drop i).take (J - i)) (by rw [hsl.slen]; omega) hb (by rw [hsl.slen]; omega)
          rw [sizes_seg] at hC hbd
          obtain ⟨ll, hll⟩ : ∃ ll, ll = lineLen (seg (sizes l) i J) := ⟨_, rfl⟩
          have HR : Hid (wrest (sizes l) wd i J = wd - ll) := by show _ = _; rw [hll]; rfl
          rw [← hll] at hC hbd
          obtain ⟨hl0, hl1⟩ := hbd
          have C3 := Lib.hid hC
          clear hC hsl hb hll
          have hcf : (i : Int) ≤ c := by omega
          have hjc : (J : Int) ≤ c := by omega
          have hfj' : (i : Int) ≤ (J : Int) := by omega
          have hf0 : (0 : Int) ≤ (i : Int) := by omega
          have hnf : ¬ c = i := by omega
          go_wp2_with fail
          refine C3.out.mono ?_
          rintro e w' ⟨rfl, rfl⟩
          clear C3
          by_cases hr : wd - ll < 0
          · have HE := Lib.hid (HS.out.trans (wscanJ_stop (st := (s1, s2)) (by rw [HR.out]; exact hr)))
            go_wp2_with fail
            go_roundw
            case rel => exact outer_next HLn.out hk HE.out T1.out
            case measure => simp [intOf] <;> omega
          have hsq := sq_le (x := wd - ll) (W := 60) (by omega) (by omega) (by omega)
          obtain ⟨hsq0, hsq1⟩ := hsq
          obtain ⟨cj, hcj⟩ : ∃ cj, cj = (wtab (sizes l) wd k J).1 := ⟨_, rfl⟩
          have hcb := wtab_ok (sizes l) wd (by omega) k J
          have hcj0 : 0 ≤ cj := by rw [hcj]; exact hcb.1
          have hcj1 : cj ≤ 3600 * (k : Int) := by rw [hcj]; exact hcb.2.1
          have HCJ := Lib.hid hcj
          have d1 := T1.out.cell1 (j := J) hJn
          rw [if_neg (show ¬ J = i from by omega), ← HCJ.out] at d1
          have d2 := T1.out.cell1 (j := i) (by omega)
          rw [if_pos rfl] at d2
          have d3 := T1.out.cell2 (j := i) (by omega)
          rw [if_pos rfl] at d3
          have e1 := T1.out.r1.frozenAt i
          have e2 := T1.out.r2.frozenAt i
          clear hcj hcb
          have hi0 : (i : Int) < (n : Int) + 1 := by omega
          have hJ0 : (J : Int) < (n : Int) + 1 := by omega
          by_cases hJl : J = n
          · have hdum : True := trivial
            have HC : Hid (wcst (sizes l) wd (fun x => (wtab (sizes l) wd k x).1) i J = 0) := by
              show _ = _; rw [wcst, if_pos (by rw [← HLn.out]; exact hJl)]
            have hJe : ((J : Int) == (n : Int)) = true := by simp; omega
            clear hJl
            by_cases hz : s2 = 0
            · have hz' : ((s2 : Int) == 0) = true := by simp [hz]
              have HU : Hid (wupd (sizes l) wd (fun x => (wtab (sizes l) wd k x).1) i (s1, s2) J = (0, J)) := by show _ = _; rw [wupd, if_pos (.inl hz), HC.out]
              have TS := Lib.hid ((T1.out.set1 (i := i) (by omega) 0).set2 (i := i) (by omega) (J : Int))
              go_wp2_with fail
              go_roundw
              case rel => exact inner_step (st := (s1, s2)) HLn.out hJ1 hJn (by omega) (by rw [HR.out]; omega) HO.out HS.out HU.out (TS.out.congr (fun j _ => by show (if j = i then _ else if j = i then _ else _) = _; split <;> rfl) (fun j _ => by show (if j = i then _ else if j = i then _ else _) = _; split <;> rfl))
              case measure => simp [intOf] <;> omega
            have hz' : ((s2 : Int) == 0) = false := by simp; omega
            by_cases hlt : 0 < s1
            · have HU : Hid (wupd (sizes l) wd (fun x => (wtab (sizes l) wd k x).1) i (s1, s2) J = (0, J)) := by show _ = _; rw [wupd, if_pos (.inr (by rw [HC.out]; exact hlt)), HC.out]
              have TS := Lib.hid ((T1.out.set1 (i := i) (by omega) 0).set2 (i := i) (by omega) (J : Int))
              go_wp2_with fail
              go_roundw
              case rel => exact inner_step (st := (s1, s2)) HLn.out hJ1 hJn (by omega) (by rw [HR.out]; omega) HO.out HS.out HU.out (TS.out.congr (fun j _ => by show (if j = i then _ else if j = i then _ else _) = _; split <;> rfl) (fun j _ => by show (if j = i then _ else if j = i then _ else _) = _; split <;> rfl))
              case measure => simp [intOf] <;> omega
            · have HU : Hid (wupd (sizes l) wd (fun x => (wtab (sizes l) wd k x).1) i (s1, s2) J = (s1, s2)) := by show _ = _; rw [wupd, if_neg (by rw [HC.out]; intro h; rcases h with h | h; exact hz h; exact hlt h)]
              go_wp2_with fail
              go_roundw
              case rel => exact inner_step (st := (s1, s2)) HLn.out hJ1 hJn (by omega) (by rw [HR.out]; omega) HO.out HS.out HU.out T1.out
              case measure => simp [intOf] <;> omega
          have HC : Hid (wcst (sizes l) wd (fun x => (wtab (sizes l) wd k x).1) i J = ((wd - ll) * (wd - ll) + cj)) := by
            show _ = _; rw [wcst, if_neg (by rw [← HLn.out]; exact hJl), HR.out]; show _ + (wtab (sizes l) wd k J).1 = _; rw [← HCJ.out]
          have hJe : ((J : Int) == (n : Int)) = false := by simp; omega
          clear hJl
          by_cases hz : s2 = 0
          · have hz' : ((s2 : Int) == 0) = true := by simp [hz]
            have HU : Hid (wupd (sizes l) wd (fun x => (wtab (sizes l) wd k x).1) i (s1, s2) J = (((wd - ll) * (wd - ll) + cj), J)) := by show _ = _; rw [wupd, if_pos (.inl hz), HC.out]
            have TS := Lib.hid ((T1.out.set1 (i := i) (by omega) ((wd - ll) * (wd - ll) + cj)).set2 (i := i) (by omega) (J : Int))
            go_wp2_with fail
            go_roundw
            case rel => exact inner_step (st := (s1, s2)) HLn.out hJ1 hJn (by omega) (by rw [HR.out]; omega) HO.out HS.out HU.out (TS.out.congr (fun j _ => by show (if j = i then _ else if j = i then _ else _) = _; split <;> rfl) (fun j _ => by show (if j = i then _ else if j = i then _ else _) = _; split <;> rfl))
            case measure => simp [intOf] <;> omega
          have hz' : ((s2 : Int) == 0) = false := by simp; omega
          by_cases hlt : ((wd - ll) * (wd - ll) + cj) < s1
          · have HU : Hid (wupd (sizes l) wd (fun x => (wtab (sizes l) wd k x).1) i (s1, s2) J = (((wd - ll) * (wd - ll) + cj), J)) := by show _ = _; rw [wupd, if_pos (.inr (by rw [HC.out]; exact hlt)), HC.out]
            have TS := Lib.hid ((T1.out.set1 (i := i) (by omega) ((wd - ll) * (wd - ll) + cj)).set2 (i := i) (by omega) (J : Int))
            go_wp2_with fail
            go_roundw
            case rel => exact inner_step (st := (s1, s2)) HLn.out hJ1 hJn (by omega) (by rw [HR.out]; omega) HO.out HS.out HU.out (TS.out.congr (fun j _ => by show (if j = i then _ else if j = i then _ else _) = _; split <;> rfl) (fun j _ => by show (if j = i then _ else if j = i then _ else _) = _; split <;> rfl))
            case measure => simp [intOf] <;> omega
          · have HU : Hid (wupd (sizes l) wd (fun x => (wtab (sizes l) wd k x).1) i (s1, s2) J = (s1, s2)) := by show _ = _; rw [wupd, if_neg (by rw [HC.out]; intro h; rcases h with h | h; exact hz h; exact hlt h)]
            go_wp2_with fail
            go_roundw
            case rel => exact inner_step (st := (s1, s2)) HLn.out hJ1 hJn (by omega) (by rw [HR.out]; omega) HO.out HS.out HU.out T1.out
            case measure => simp [intOf] <;> omega
      · obtain rfl : v = -1 := by omega
        rw [show n - ((-1 : Int) + 1).toNat = n from by omega] at hT
        have T0 := Lib.hid hT
        have hL : ∀ x ∈ sizes l, (x : Int) ≤ wd := fun x hx => by obtain ⟨s, hs, rfl⟩ := List.mem_map.1 hx; have := (HW.out.2.1 s hs).2; omega
        have HLs := Lib.hid hL
        have hg := hT.g1lt
        have hg' := hT.g2lt
        clear hT hL
        obtain ⟨B1, hB1⟩ : ∃ B1, B1 = wo.heap.size := ⟨_, rfl⟩
        have hgB1 : w.heap.size < B1 := by omega
        have hgB2 : (w.heap.size + 1) < B1 := by omega
        have hBw : w.heap.size ≤ B1 := by omega
        have hBo : B1 ≤ wo.heap.size := by omega
        clear hg hg' hB1
        go_wp2_with fail
        go_loopw [12, 13] (ReadRel w B1 w.heap.size (w.heap.size + 1) n (sizes l) wd) (fun _ i _ => n - (intOf i).toNat)
        case atStart =>
          refine ⟨0, 0, [], rfl, Nat.zero_le _, Nat.le_refl _, World.ownsRow_nil _ _ _ _, ?_, T0.out, hBo⟩
          rw [wends, HLn.out]; rfl
        case round =>
          obtain ⟨kk, m, xs, rfl, hkn, hmk, hown, hxs, hT, hBr⟩ := hrel
          have XS := Lib.hid hxs
          have T1 := Lib.hid hT
          have HO := Lib.hid hown
          clear hxs hT hown T0 hBo
          by_cases hlt : kk < n
          · have hnx := wnext_ok (L := sizes l) (W := wd) (by omega) HLs.out (i := kk) (by rw [← HLn.out]; exact hlt)
            obtain ⟨nx, hnxe⟩ : ∃ nx, nx = wnext (sizes l) wd kk := ⟨_, rfl⟩
            rw [← hnxe, ← HLn.out] at hnx
            obtain ⟨hnx1, hnx2⟩ := hnx
            have d2 := T1.out.cell2 (j := kk) (by omega)
            have e3 : (wtab (sizes l) wd n kk).2 = nx := by rw [hnxe, wnext, ← HLn.out]
            rw [e3] at d2
            have HN := Lib.hid hnxe
            have hkn0 : (kk : Int) < (n : Int) + 1 := by omega
            clear hnxe e3
            go_wp2_with (first
              | (at_builtin
                 refine app_lit elemInt rfl (.tmp 92) (.tmp 97) rfl HO.out _ _ [.int .i64 (nx : Int)] rfl rfl rfl (by simp [Value.oneCell']) (by omega) hBr ?_
                 intro v' w' ho hg
                 have T2 := Lib.hid (T1.out.grown hg (fun k hk => by have := (HO.out.lt k hk).1; omega))
                 have hBr2 : B1 ≤ w'.heap.size := by have := hg.size; simp at this; omega
                 have HO2 := Lib.hid ho
                 have d4 := T2.out.cell2 (j := kk) (by omega)
                 rw [show (wtab (sizes l) wd n kk).2 = nx from by rw [HN.out, wnext, ← HLn.out]] at d4
                 clear ho hg))
            go_roundw
            case rel => rw [HN.out]; exact read_next HLn.out (by omega) HLs.out hlt hmk (by rw [← HN.out]; exact HO2.out) XS.out T2.out hBr2
            case measure => simp [intOf] <;> omega
          · obtain rfl : kk = n := by omega
            obtain ⟨L6, d6, e6, hmd6⟩ := own_shape HO.out
            subst e6
            go_wp2_with fail
            go_ret
            refine ⟨_, m, d6, rfl, ?_, T1.out.bel⟩
            have hx := XS.out
            rw [wchainI_end (Nat.le_refl _), List.map_nil, List.append_nil] at hx
            rw [wEnds_good HV.out, hx]
            exact own_base HO.out hBw
  · go_wp2_with fail
    go_loopw [8] (OuterRel w (w.heap.size + 1) w.heap.size n (sizes l) wd) (fun i _ => (intOf i + 1).toNat)
    case atStart => exact outer_start (tab_two' w n (by omega)).drew
    case round =>
      obtain ⟨v, hv1, hv2, rfl, hT⟩ := hrel
      clear C1 hmk
      obtain ⟨wo, ewo⟩ : ∃ wo : World, wo = wr := ⟨_, rfl⟩
      subst ewo
      by_cases hv0 : 0 ≤ v
      · obtain ⟨i, rfl⟩ := Int.eq_ofNat_of_zero_le hv0
        obtain ⟨k, hk⟩ : ∃ k, i + 1 + k = n := ⟨n - i - 1, by omega⟩
        rw [show n - ((i : Int) + 1).toNat = k from by omega] at hT
        have T0 := Lib.hid hT
        clear hT
        go_wp2_with fail
        go_loopw [9] (InnerRel w (w.heap.size + 1) w.heap.size n (sizes l) wd k i) (fun j _ => n + 1 - (intOf j).toNat)
        case atStart =>
          rw [show ((i : Int) + 1) = ((i + 1 : Nat) : Int) from by omega]
          exact inner_start HLn.out hk T0.out
        case round =>
          obtain ⟨J, ⟨s1, s2⟩, hJ1, hJ2, rfl, hok, hsc, hT⟩ := hrel
          have HO := Lib.hid hok
          have HS := Lib.hid hsc
          have T1 := Lib.hid hT
          clear hok hsc hT T0
          have hb1 : 0 ≤ s1 := HO.out.1
          have hb2 : s1 ≤ 3600 * (k : Int) + 3600 := HO.out.2.1
          by_cases hJn : J ≤ n
          case neg =>
            have HE := Lib.hid (HS.out.trans (wscanJ_end (st := (s1, s2)) (by rw [← HLn.out]; omega)))
            have hJn' : ¬ (J : Int) ≤ (n : Int) := by omega
            clear hJn
            go_wp2_with fail
            go_roundw
            case rel => exact outer_next HLn.out hk HE.out T1.out
            case measure => simp [intOf] <;> omega
          have hJn' : (J : Int) ≤ (n : Int) := by omega
          obtain ⟨b, o, eA, _⟩ := HX.out.2 (by omega)
          subst eA
          have hsl := (HX.out.below T1.out.bel).slice (Nat.le_of_lt hJ1) hJn
          have hb : ∀ s ∈ (l.drop i).take (J - i), s.size ≤ 20 := fun s hs => (HW.out.2.1 s (List.mem_of_mem_drop (List.mem_of_mem_take hs))).2
          have hC := implLen_any (some ⟨b, o + i, none⟩) (J - i) (c - i) _ _ hsl (by omega) (by omega) hb
          have hbd := lineLen_bd (l := (l.drop i).take (J - i)) (by rw [hsl.slen]; omega) hb (by rw [hsl.slen]; omega)
          rw [sizes_seg] at hC hbd
          obtain ⟨ll, hll⟩ : ∃ ll, ll = lineLen (seg (sizes l) i J) := ⟨_, rfl⟩
          have HR : Hid (wrest (sizes l) wd i J = wd - ll) := by show _ = _; rw [hll]; rfl
          rw [← hll] at hC hbd
          obtain ⟨hl0, hl1⟩ := hbd
          have C3 := Lib.hid hC
          clear hC hsl hb hll
          have hcf : (i : Int) ≤ c := by omega
          have hjc : (J : Int) ≤ c := by omega
          have hfj' : (i : Int) ≤ (J : Int) := by omega
          have hf0 : (0 : Int) ≤ (i : Int) := by omega
          have hnf : ¬ c = i := by omega
          go_wp2_with fail
          refine C3.out.mono ?_
          rintro e w' ⟨rfl, rfl⟩
          clear C3
          by_cases hr : wd - ll < 0
          · have HE := Lib.hid (HS.out.trans (wscanJ_stop (st := (s1, s2)) (by rw [HR.out]; exact hr)))
            go_wp2_with fail
            go_roundw
            case rel => exact outer_next HLn.out hk HE.out T1.out
            case measure => simp [intOf] <;> omega
          have hsq := sq_le (x := wd - ll) (W := 60) (by omega) (by omega) (by omega)
          obtain ⟨hsq0, hsq1⟩ := hsq
          obtain ⟨cj, hcj⟩ : ∃ cj, cj = (wtab (sizes l) wd k J).1 := ⟨_, rfl⟩
          have hcb := wtab_ok (sizes l) wd (by omega) k J
          have hcj0 : 0 ≤ cj := by rw [hcj]; exact hcb.1
          have hcj1 : cj ≤ 3600 * (k : Int) := by rw [hcj]; exact hcb.2.1
          have HCJ := Lib.hid hcj
          have d1 := T1.out.cell1 (j := J) hJn
          rw [if_neg (show ¬ J = i from by omega), ← HCJ.out] at d1
          have d2 := T1.out.cell1 (j := i) (by omega)
          rw [if_pos rfl] at d2
          have d3 := T1.out.cell2 (j := i) (by omega)
          rw [if_pos rfl] at d3
          have e1 := T1.out.r1.frozenAt i
          have e2 := T1.out.r2.frozenAt i
          clear hcj hcb
          have hi0 : (i : Int) < (n : Int) + 1 := by omega
          have hJ0 : (J : Int) < (n : Int) + 1 := by omega
          by_cases hJl : J = n
          · have hdum : True := trivial
            have HC : Hid (wcst (sizes l) wd (fun x => (wtab (sizes l) wd k x).1) i J = 0) := by
              show _ = _; rw [wcst, if_pos (by rw [← HLn.out]; exact hJl)]
            have hJe : ((J : Int) == (n : Int)) = true := by simp; omega
            clear hJl
            by_cases hz : s2 = 0
            · have hz' : ((s2 : Int) == 0) = true := by simp [hz]
              have HU : Hid (wupd (sizes l) wd (fun x => (wtab (sizes l) wd k x).1) i (s1, s2) J = (0, J)) := by show _ = _; rw [wupd, if_pos (.inl hz), HC.out]
              have TS := Lib.hid ((T1.out.set1 (i := i) (by omega) 0).set2 (i := i) (by omega) (J : Int))
              go_wp2_with fail
              go_roundw
              case rel => exact inner_step (st := (s1, s2)) HLn.out hJ1 hJn (by omega) (by rw [HR.out]; omega) HO.out HS.out HU.out (TS.out.congr (fun j _ => by show (if j = i then _ else if j = i then _ else _) = _; split <;> rfl) (fun j _ => by show (if j = i then _ else if j = i then _ else _) = _; split <;> rfl))
              case measure => simp [intOf] <;> omega
            have hz' : ((s2 : Int) == 0) = false := by simp; omega
            by_cases hlt : 0 < s1
            · have HU : Hid (wupd (sizes l) wd (fun x => (wtab (sizes l) wd k x).1) i (s1, s2) J = (0, J)) := by show _ = _; rw [wupd, if_pos (.inr (by rw [HC.out]; exact hlt)), HC.out]
              have TS := Lib.hid ((T1.out.set1 (i := i) (by omega) 0).set2 (i := i) (by omega) (J : Int))
              go_wp2_with fail
              go_roundw
              case rel => exact inner_step (st := (s1, s2)) HLn.out hJ1 hJn (by omega) (by rw [HR.out]; omega) HO.out HS.out HU.out (TS.out.congr (fun j _ => by show (if j = i then _ else if j = i then _ else _) = _; split <;> rfl) (fun j _ => by show (if j = i then _ else if j = i then _ else _) = _; split <;> rfl))
              case measure => simp [intOf] <;> omega
            · have HU : Hid (wupd (sizes l) wd (fun x => (wtab (sizes l) wd k x).1) i (s1, s2) J = (s1, s2)) := by show _ = _; rw [wupd, if_neg (by rw [HC.out]; intro h; rcases h with h | h; exact hz h; exact hlt h)]
              go_wp2_with fail
              go_roundw
              case rel => exact inner_step (st := (s1, s2)) HLn.out hJ1 hJn (by omega) (by rw [HR.out]; omega) HO.out HS.out HU.out T1.out
              case measure => simp [intOf] <;> omega
          have HC : Hid (wcst (sizes l) wd (fun x => (wtab (sizes l) wd k x).1) i J = ((wd - ll) * (wd - ll) + cj)) := by
            show _ = _; rw [wcst, if_neg (by rw [← HLn.out]; exact hJl), HR.out]; show _ + (wtab (sizes l) wd k J).1 = _; rw [← HCJ.out]
          have hJe : ((J : Int) == (n : Int)) = false := by simp; omega
          clear hJl
          by_cases hz : s2 = 0
          · have hz' : ((s2 : Int) == 0) = true := by simp [hz]
            have HU : Hid (wupd (sizes l) wd (fun x => (wtab (sizes l) wd k x).1) i (s1, s2) J = (((wd - ll) * (wd - ll) + cj), J)) := by show _ = _; rw [wupd, if_pos (.inl hz), HC.out]
            have TS := Lib.hid ((T1.out.set1 (i := i) (by omega) ((wd - ll) * (wd - ll) + cj)).set2 (i := i) (by omega) (J : Int))
            go_wp2_with fail
            go_roundw
            case rel => exact inner_step (st := (s1, s2)) HLn.out hJ1 hJn (by omega) (by rw [HR.out]; omega) HO.out HS.out HU.out (TS.out.congr (fun j _ => by show (if j = i then _ else if j = i then _ else _) = _; split <;> rfl) (fun j _ => by show (if j = i then _ else if j = i then _ else _) = _; split <;> rfl))
            case measure => simp [intOf] <;> omega
          have hz' : ((s2 : Int) == 0) = false := by simp; omega
          by_cases hlt : ((wd - ll) * (wd - ll) + cj) < s1
          · have HU : Hid (wupd (sizes l) wd (fun x => (wtab (sizes l) wd k x).1) i (s1, s2) J = (((wd - ll) * (wd - ll) + cj), J)) := by show _ = _; rw [wupd, if_pos (.inr (by rw [HC.out]; exact hlt)), HC.out]
            have TS := Lib.hid ((T1.out.set1 (i := i) (by omega) ((wd - ll) * (wd - ll) + cj)).set2 (i := i) (by omega) (J : Int))
            go_wp2_with fail
            go_roundw
            case rel => exact inner_step (st := (s1, s2)) HLn.out hJ1 hJn (by omega) (by rw [HR.out]; omega) HO.out HS.out HU.out (TS.out.congr (fun j _ => by show (if j = i then _ else if j = i then _ else _) = _; split <;> rfl) (fun j _ => by show (if j = i then _ else if j = i then _ else _) = _; split <;> rfl))
            case measure => simp [intOf] <;> omega
          · have HU : Hid (wupd (sizes l) wd (fun x => (wtab (sizes l) wd k x).1) i (s1, s2) J = (s1, s2)) := by show _ = _; rw [wupd, if_neg (by rw [HC.out]; intro h; rcases h with h | h; exact hz h; exact hlt h)]
            go_wp2_with fail
            go_roundw
            case rel => exact inner_step (st := (s1, s2)) HLn.out hJ1 hJn (by omega) (by rw [HR.out]; omega) HO.out HS.out HU.out T1.out
            case measure => simp [intOf] <;> omega
      · obtain rfl : v = -1 := by omega
        rw [show n - ((-1 : Int) + 1).toNat = n from by omega] at hT
        have T0 := Lib.hid hT
        have hL : ∀ x ∈ sizes l, (x : Int) ≤ wd := fun x hx => by obtain ⟨s, hs, rfl⟩ := List.mem_map.1 hx; have := (HW.out.2.1 s hs).2; omega
        have HLs := Lib.hid hL
        have hg := hT.g1lt
        have hg' := hT.g2lt
        clear hT hL
        obtain ⟨B1, hB1⟩ : ∃ B1, B1 = wo.heap.size := ⟨_, rfl⟩
        have hgB1 : (w.heap.size + 1) < B1 := by omega
        have hgB2 : w.heap.size < B1 := by omega
        have hBw : w.heap.size ≤ B1 := by omega
        have hBo : B1 ≤ wo.heap.size := by omega
        clear hg hg' hB1
        go_wp2_with fail
        go_loopw [12, 13] (ReadRel w B1 (w.heap.size + 1) w.heap.size n (sizes l) wd) (fun _ i _ => n - (intOf i).toNat)
        case atStart =>
          refine ⟨0, 0, [], rfl, Nat.zero_le _, Nat.le_refl _, World.ownsRow_nil _ _ _ _, ?_, T0.out, hBo⟩
          rw [wends, HLn.out]; rfl
        case round =>
          obtain ⟨kk, m, xs, rfl, hkn, hmk, hown, hxs, hT, hBr⟩ := hrel
          have XS := Lib.hid hxs
          have T1 := Lib.hid hT
          have HO := Lib.hid hown
          clear hxs hT hown T0 hBo
          by_cases hlt : kk < n
          · have hnx := wnext_ok (L := sizes l) (W := wd) (by omega) HLs.out (i := kk) (by rw [← HLn.out]; exact hlt)
            obtain ⟨nx, hnxe⟩ : ∃ nx, nx = wnext (sizes l) wd kk := ⟨_, rfl⟩
            rw [← hnxe, ← HLn.out] at hnx
            obtain ⟨hnx1, hnx2⟩ := hnx
            have d2 := T1.out.cell2 (j := kk) (by omega)
            have e3 : (wtab (sizes l) wd n kk).2 = nx := by rw [hnxe, wnext, ← HLn.out]
            rw [e3] at d2
            have HN := Lib.hid hnxe
            have hkn0 : (kk : Int) < (n : Int) + 1 := by omega
            clear hnxe e3
            go_wp2_with (first
              | (at_builtin
                 refine app_lit elemInt rfl (.tmp 92) (.tmp 97) rfl HO.out _ _ [.int .i64 (nx : Int)] rfl rfl rfl (by simp [Value.oneCell']) (by omega) hBr ?_
                 intro v' w' ho hg
                 have T2 := Lib.hid (T1.out.grown hg (fun k hk => by have := (HO.out.lt k hk).1; omega))
                 have hBr2 : B1 ≤ w'.heap.size := by have := hg.size; simp at this; omega
                 have HO2 := Lib.hid ho
                 have d4 := T2.out.cell2 (j := kk) (by omega)
                 rw [show (wtab (sizes l) wd n kk).2 = nx from by rw [HN.out, wnext, ← HLn.out]] at d4
                 clear ho hg))
            go_roundw
            case rel => rw [HN.out]; exact read_next HLn.out (by omega) HLs.out hlt hmk (by rw [← HN.out]; exact HO2.out) XS.out T2.out hBr2
            case measure => simp [intOf] <;> omega
          · obtain rfl : kk = n := by omega
            obtain ⟨L6, d6, e6, hmd6⟩ := own_shape HO.out
            subst e6
            go_wp2_with fail
            go_ret
            refine ⟨_, m, d6, rfl, ?_, T1.out.bel⟩
            have hx := XS.out
            rw [wchainI_end (Nat.le_refl _), List.map_nil, List.append_nil] at hx
            rw [wEnds_good HV.out, hx]
            exact own_base HO.out hBw
end Go.Proofs.YtmljofijeladoaaGreatDoor
