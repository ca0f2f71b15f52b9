/-
  Contract of the program's function that says where a line ends.
-/
import Derived.Test.YtjkmjgjpkneckaaFitLine2
namespace Go.Proofs.Ytjkmjgjpkneckaa
open Go.RowKit
set_option linter.unusedVariables false

/-- What the program has chosen stands for the break. -/
def Chosen (xs : List It) (wd : Int) (s k : Nat) (bv fv : Int) : Prop :=
  nof xs (k - s) s = true ∧ -1 ≤ bv ∧ bv < 1000 ∧ -1 ≤ fv ∧ fv < 1000 ∧ bst xs wd s k = (if bv < 0 then fv else bv) ∧ (fv < 0 → bv < 0)

theorem Chosen.skip {xs : List It} {wd : Int} {s k : Nat} {bv fv : Int} (h : Chosen xs wd s k bv fv) (hs : s ≤ k) {x : It} (hx : xs[k]? = some x) (hb : isB xs k = false) : Chosen xs wd s (k + 1) bv fv := by
  obtain ⟨h1, h2, h3, h4, h5, h6, h7⟩ := h
  have hf : frc x = false := by
    cases hf : frc x
    · rfl
    · rw [isB_frc hx hf] at hb; cases hb
  refine ⟨nof_more hs h1 hx hf, h2, h3, h4, h5, ?_, h7⟩
  rw [bst_skip hs (by rw [okl, hb, Bool.false_and]), h6]

theorem Chosen.took {xs : List It} {wd : Int} {s k : Nat} {bv fv bv' fv' : Int} (h : Chosen xs wd s k bv fv) (hs : s ≤ k) (hk : k < 1000) (hb : isB xs k = true)
    (h8 : fv' = if fv < 0 then (k : Int) else fv) (h9 : bv' = if cd xs wd s k = 4 then bv else (k : Int)) :
    -1 ≤ bv' ∧ bv' < 1000 ∧ -1 ≤ fv' ∧ fv' < 1000 ∧ bst xs wd s (k + 1) = (if bv' < 0 then fv' else bv') ∧ (fv' < 0 → bv' < 0) := by
  obtain ⟨h1, h2, h3, h4, h5, h6, h7⟩ := h
  have ho : okl xs s k = true := by rw [okl, hb, h1]; rfl
  by_cases hc : cd xs wd s k = 4
  · rw [if_pos hc] at h9
    subst h9
    by_cases hf : fv < 0
    · rw [if_pos hf] at h8
      have hbv := h7 hf
      rw [if_pos hbv] at h6
      have e := bst_take (wd := wd) hs ho (.inl (by omega))
      rw [e, if_pos hbv]
      omega
    · rw [if_neg hf] at h8
      subst h8
      have hn : ¬ bst xs wd s k < 0 := by
        rw [h6]; split <;> omega
      rw [bst_keep hs hn hc, h6]
      refine ⟨h2, h3, h4, h5, rfl, h7⟩
  · rw [if_neg hc] at h9
    have e := bst_take (wd := wd) hs ho (.inr hc)
    rw [e, h9]
    have hk0 : ¬ ((k : Int) < 0) := by omega
    rw [if_neg hk0]
    refine ⟨by omega, by omega, ?_, ?_, rfl, ?_⟩
    · rw [h8]; split <;> omega
    · rw [h8]; split <;> omega
    · intro h; rw [h8] at h; split at h <;> omega

theorem Chosen.more {xs : List It} {wd : Int} {s k : Nat} {bv fv bv' fv' : Int} (h : Chosen xs wd s k bv fv) (hs : s ≤ k) (hk : k < 1000) {x : It} (hx : xs[k]? = some x) (hb : isB xs k = true) (hf : frc x = false)
    (h8 : fv' = if fv < 0 then (k : Int) else fv) (h9 : bv' = if cd xs wd s k = 4 then bv else (k : Int)) : Chosen xs wd s (k + 1) bv' fv' :=
  ⟨nof_more hs h.1 hx hf, h.took hs hk hb h8 h9⟩

theorem Chosen.last {xs : List It} {wd : Int} {s k : Nat} {bv fv bv' fv' : Int} (h : Chosen xs wd s k bv fv) (hs : s ≤ k) (hk : k < 1000) {x : It} (hx : xs[k]? = some x) (hb : isB xs k = true) (hf : frc x = true)
    (h8 : fv' = if fv < 0 then (k : Int) else fv) (h9 : bv' = if cd xs wd s k = 4 then bv else (k : Int)) : bst xs wd s xs.length = if bv' < 0 then fv' else bv' := by
  have hl : k < xs.length := (List.getElem?_eq_some_iff.1 hx).1
  have e := bst_behind (wd := wd) hs hx hf (xs.length - (k + 1))
  have e2 : k + 1 + (xs.length - (k + 1)) = xs.length := by omega
  rw [e2] at e
  rw [e]
  exact (h.took hs hk hb h8 h9).2.2.2.2.1

def BrkRel (w : World) (xs : List It) (wd : Int) (s n : Nat) (bi fi ti : Value) (wr : World) : Prop :=
  ∃ (bv fv : Int) (k : Nat), bi = .int .i64 bv ∧ fi = .int .i64 fv ∧ ti = .int .i64 k ∧ s ≤ k ∧ k ≤ n ∧ Chosen xs wd s k bv fv ∧ Below w.heap.size w wr

set_option maxHeartbeats 8000000 in
theorem fitBreakImpl_any (A : Option Addr) (n c s : Nat) (f wd : Int) (xs : List It) (w : World) (hx : Rd w 6 A n (items xs)) (hv : vItems xs = true) (hs : s < n) (hnc : n ≤ c) (hf : f + 1 = (s : Int)) (hw : 1 ≤ wd ∧ wd ≤ 10000) :
    Calls Try.prog 52 #[.slice A n c, .int .i64 f, .int .i64 wd] w fun e w' => e = .returned (.int .i64 (bst xs wd s n)) ∧ Below w.heap.size w w' := by
  have hl := hx.item_len
  have hp := vItems_parts hv
  have hn : n ≤ 60 := by omega
  have HL := Lib.hid hl
  have X := Lib.hid hx
  have V := Lib.hid hv
  have hf1 : -1 ≤ f := by omega
  have hf2 : f < 1000 := by omega
  have F := Lib.hid hf
  have HBK := Lib.hid (fun (w1 : World) (k : Nat) (hb : Below w.heap.size w w1) (hk : k < n) => brkImpl_any A n c k xs w1 (X.out.below hb) hk (by omega))
  have HFL := Lib.hid (fun (w1 : World) (k : Nat) (hb : Below w.heap.size w w1) (hk : k < n) (hsk : s ≤ k) => fitLineImpl_any A n c s k f wd xs w1 (X.out.below hb) hv hsk hk hnc hf hw)
  clear hx hv hf hl hp
  go_enter Try.func52, Try.ntmps52
  go_wp2_with fail
  go_loopw [7, 8, 9] (BrkRel w xs wd s n) (fun _ _ i _ => n - (intOf i).toNat)
  case atStart =>
    refine ⟨-1, -1, s, rfl, rfl, by rw [F.out], Nat.le_refl _, by omega, ⟨nof_end (Nat.le_refl _), by omega, by omega, by omega, by omega, ?_, fun h => h⟩, Below.refl _ _⟩
    rw [bst_start]; rfl
  case round =>
    obtain ⟨bv, fv, k, rfl, rfl, rfl, hsk, hkn, hch, hb⟩ := hrel
    have CH := Lib.hid hch
    have HB := Lib.hid hb
    obtain ⟨hc1, hc2, hc3, hc4, hc5, hc6, hc7⟩ := hch
    have C6 := Lib.hid hc6
    have C7 := Lib.hid hc7
    clear hb hc1 hc6 hc7
    by_cases hlt : k < n
    · obtain ⟨b, o, x, rfl, ex, hx0, hx1, hx2, hx3, hx4, hx5⟩ := (X.out.below HB.out).item_at hlt
      have EX := Lib.hid ex
      clear ex
      cases hbk : isB xs k
      · have BK := Lib.hid (HBK.out wr k HB.out hlt)
        rw [hbk] at BK
        have HBF := Lib.hid hbk
        clear hbk
        go_wp2_with (go_at_call 66; refine BK.out.mono ?_; rintro e w' ⟨rfl, rfl⟩)
        go_roundw
        case rel => exact ⟨bv, fv, k + 1, rfl, rfl, by go_num, by omega, by omega, CH.out.skip hsk EX.out HBF.out, HB.out⟩
        case measure => simp [intOf] <;> omega
      have BK := Lib.hid (HBK.out wr k HB.out hlt)
      rw [hbk] at BK
      have HBT := Lib.hid hbk
      clear hbk
      have FL := Lib.hid (HFL.out wr k HB.out hlt hsk)
      obtain ⟨cv, hcv⟩ : ∃ cv, cv = cd xs wd s k := ⟨_, rfl⟩
      rw [← hcv] at FL
      have CV := Lib.hid hcv.symm
      clear hcv
      have FC (wq : World) := isForced_any x wq
      have FCH := Lib.hid FC
      clear FC
      by_cases hfv : fv < 0
      · have HFV : Hid (((k : Int)) = if fv < 0 then (k : Int) else fv) := (if_pos hfv).symm
        by_cases hc4' : cv = 4
        · have HCV : Hid (bv = if cd xs wd s k = 4 then bv else (k : Int)) := (if_pos (CV.out.trans hc4')).symm
          subst hc4'
          cases hfr : frc x
          · have HFR := Lib.hid hfr
            rw [hfr] at FCH
            clear hfr
            go_wp2_with (first | (go_at_call 66; refine BK.out.mono ?_; rintro e w' ⟨rfl, rfl⟩) | (go_at_call 67; refine FL.out.mono ?_; rintro e w1 ⟨z, rfl, hb1⟩; have B1 := Lib.hid hb1; have hx0' := cell_below hb1 hx0; have hx1' := cell_below hb1 hx1; have hx2' := cell_below hb1 hx2; have hx3' := cell_below hb1 hx3; have hx4' := cell_below hb1 hx4; have hx5' := cell_below hb1 hx5; clear hb1) | (go_at_call 58; refine (FCH.out _).mono ?_; rintro e w2 ⟨rfl, hb2⟩; have B2 := Lib.hid hb2; clear hb2))
            go_roundw
            case rel => exact ⟨bv, k, k + 1, rfl, rfl, by go_num, by omega, by omega, CH.out.more hsk (by omega) EX.out HBT.out HFR.out HFV.out HCV.out, below_step (below_step HB.out B1.out) B2.out⟩
            case measure => simp [intOf] <;> omega
          · have LS := Lib.hid (CH.out.last hsk (by omega) EX.out HBT.out hfr HFV.out HCV.out)
            rw [HL.out] at LS
            rw [hfr] at FCH
            clear hfr
            by_cases hbv : bv < 0
            · have LS' := Lib.hid (LS.out.trans (if_pos hbv))
              go_wp2_with (first | (go_at_call 66; refine BK.out.mono ?_; rintro e w' ⟨rfl, rfl⟩) | (go_at_call 67; refine FL.out.mono ?_; rintro e w1 ⟨z, rfl, hb1⟩; have B1 := Lib.hid hb1; have hx0' := cell_below hb1 hx0; have hx1' := cell_below hb1 hx1; have hx2' := cell_below hb1 hx2; have hx3' := cell_below hb1 hx3; have hx4' := cell_below hb1 hx4; have hx5' := cell_below hb1 hx5; clear hb1) | (go_at_call 58; refine (FCH.out _).mono ?_; rintro e w2 ⟨rfl, hb2⟩; have B2 := Lib.hid hb2; clear hb2))
              go_ret
              exact ⟨ret_int (by rw [LS'.out]), below_step (below_step HB.out B1.out) B2.out⟩
            · have LS' := Lib.hid (LS.out.trans (if_neg hbv))
              go_wp2_with (first | (go_at_call 66; refine BK.out.mono ?_; rintro e w' ⟨rfl, rfl⟩) | (go_at_call 67; refine FL.out.mono ?_; rintro e w1 ⟨z, rfl, hb1⟩; have B1 := Lib.hid hb1; have hx0' := cell_below hb1 hx0; have hx1' := cell_below hb1 hx1; have hx2' := cell_below hb1 hx2; have hx3' := cell_below hb1 hx3; have hx4' := cell_below hb1 hx4; have hx5' := cell_below hb1 hx5; clear hb1) | (go_at_call 58; refine (FCH.out _).mono ?_; rintro e w2 ⟨rfl, hb2⟩; have B2 := Lib.hid hb2; clear hb2))
              go_ret
              exact ⟨ret_int (by rw [LS'.out]), below_step (below_step HB.out B1.out) B2.out⟩
        · have HCV : Hid ((k : Int) = if cd xs wd s k = 4 then bv else (k : Int)) := (if_neg (fun h => hc4' (CV.out.symm.trans h))).symm
          have hcd : (cv == 4) = false := by simpa using hc4'
          cases hfr : frc x
          · have HFR := Lib.hid hfr
            rw [hfr] at FCH
            clear hfr
            go_wp2_with (first | (go_at_call 66; refine BK.out.mono ?_; rintro e w' ⟨rfl, rfl⟩) | (go_at_call 67; refine FL.out.mono ?_; rintro e w1 ⟨z, rfl, hb1⟩; have B1 := Lib.hid hb1; have hx0' := cell_below hb1 hx0; have hx1' := cell_below hb1 hx1; have hx2' := cell_below hb1 hx2; have hx3' := cell_below hb1 hx3; have hx4' := cell_below hb1 hx4; have hx5' := cell_below hb1 hx5; clear hb1) | (go_at_call 58; refine (FCH.out _).mono ?_; rintro e w2 ⟨rfl, hb2⟩; have B2 := Lib.hid hb2; clear hb2))
            go_roundw
            case rel => exact ⟨k, k, k + 1, rfl, rfl, by go_num, by omega, by omega, CH.out.more hsk (by omega) EX.out HBT.out HFR.out HFV.out HCV.out, below_step (below_step HB.out B1.out) B2.out⟩
            case measure => simp [intOf] <;> omega
          · have LS := Lib.hid (CH.out.last hsk (by omega) EX.out HBT.out hfr HFV.out HCV.out)
            rw [HL.out] at LS
            rw [hfr] at FCH
            clear hfr
            have LS' := Lib.hid (LS.out.trans (if_neg (show ¬ ((k : Int) < 0) by omega)))
            go_wp2_with (first | (go_at_call 66; refine BK.out.mono ?_; rintro e w' ⟨rfl, rfl⟩) | (go_at_call 67; refine FL.out.mono ?_; rintro e w1 ⟨z, rfl, hb1⟩; have B1 := Lib.hid hb1; have hx0' := cell_below hb1 hx0; have hx1' := cell_below hb1 hx1; have hx2' := cell_below hb1 hx2; have hx3' := cell_below hb1 hx3; have hx4' := cell_below hb1 hx4; have hx5' := cell_below hb1 hx5; clear hb1) | (go_at_call 58; refine (FCH.out _).mono ?_; rintro e w2 ⟨rfl, hb2⟩; have B2 := Lib.hid hb2; clear hb2))
            go_ret
            exact ⟨ret_int (by rw [LS'.out]), below_step (below_step HB.out B1.out) B2.out⟩
      · have HFV : Hid (fv = if fv < 0 then (k : Int) else fv) := (if_neg hfv).symm
        by_cases hc4' : cv = 4
        · have HCV : Hid (bv = if cd xs wd s k = 4 then bv else (k : Int)) := (if_pos (CV.out.trans hc4')).symm
          subst hc4'
          cases hfr : frc x
          · have HFR := Lib.hid hfr
            rw [hfr] at FCH
            clear hfr
            go_wp2_with (first | (go_at_call 66; refine BK.out.mono ?_; rintro e w' ⟨rfl, rfl⟩) | (go_at_call 67; refine FL.out.mono ?_; rintro e w1 ⟨z, rfl, hb1⟩; have B1 := Lib.hid hb1; have hx0' := cell_below hb1 hx0; have hx1' := cell_below hb1 hx1; have hx2' := cell_below hb1 hx2; have hx3' := cell_below hb1 hx3; have hx4' := cell_below hb1 hx4; have hx5' := cell_below hb1 hx5; clear hb1) | (go_at_call 58; refine (FCH.out _).mono ?_; rintro e w2 ⟨rfl, hb2⟩; have B2 := Lib.hid hb2; clear hb2))
            go_roundw
            case rel => exact ⟨bv, fv, k + 1, rfl, rfl, by go_num, by omega, by omega, CH.out.more hsk (by omega) EX.out HBT.out HFR.out HFV.out HCV.out, below_step (below_step HB.out B1.out) B2.out⟩
            case measure => simp [intOf] <;> omega
          · have LS := Lib.hid (CH.out.last hsk (by omega) EX.out HBT.out hfr HFV.out HCV.out)
            rw [HL.out] at LS
            rw [hfr] at FCH
            clear hfr
            by_cases hbv : bv < 0
            · have LS' := Lib.hid (LS.out.trans (if_pos hbv))
              go_wp2_with (first | (go_at_call 66; refine BK.out.mono ?_; rintro e w' ⟨rfl, rfl⟩) | (go_at_call 67; refine FL.out.mono ?_; rintro e w1 ⟨z, rfl, hb1⟩; have B1 := Lib.hid hb1; have hx0' := cell_below hb1 hx0; have hx1' := cell_below hb1 hx1; have hx2' := cell_below hb1 hx2; have hx3' := cell_below hb1 hx3; have hx4' := cell_below hb1 hx4; have hx5' := cell_below hb1 hx5; clear hb1) | (go_at_call 58; refine (FCH.out _).mono ?_; rintro e w2 ⟨rfl, hb2⟩; have B2 := Lib.hid hb2; clear hb2))
              go_ret
              exact ⟨ret_int (by rw [LS'.out]), below_step (below_step HB.out B1.out) B2.out⟩
            · have LS' := Lib.hid (LS.out.trans (if_neg hbv))
              go_wp2_with (first | (go_at_call 66; refine BK.out.mono ?_; rintro e w' ⟨rfl, rfl⟩) | (go_at_call 67; refine FL.out.mono ?_; rintro e w1 ⟨z, rfl, hb1⟩; have B1 := Lib.hid hb1; have hx0' := cell_below hb1 hx0; have hx1' := cell_below hb1 hx1; have hx2' := cell_below hb1 hx2; have hx3' := cell_below hb1 hx3; have hx4' := cell_below hb1 hx4; have hx5' := cell_below hb1 hx5; clear hb1) | (go_at_call 58; refine (FCH.out _).mono ?_; rintro e w2 ⟨rfl, hb2⟩; have B2 := Lib.hid hb2; clear hb2))
              go_ret
              exact ⟨ret_int (by rw [LS'.out]), below_step (below_step HB.out B1.out) B2.out⟩
        · have HCV : Hid ((k : Int) = if cd xs wd s k = 4 then bv else (k : Int)) := (if_neg (fun h => hc4' (CV.out.symm.trans h))).symm
          have hcd : (cv == 4) = false := by simpa using hc4'
          cases hfr : frc x
          · have HFR := Lib.hid hfr
            rw [hfr] at FCH
            clear hfr
            go_wp2_with (first | (go_at_call 66; refine BK.out.mono ?_; rintro e w' ⟨rfl, rfl⟩) | (go_at_call 67; refine FL.out.mono ?_; rintro e w1 ⟨z, rfl, hb1⟩; have B1 := Lib.hid hb1; have hx0' := cell_below hb1 hx0; have hx1' := cell_below hb1 hx1; have hx2' := cell_below hb1 hx2; have hx3' := cell_below hb1 hx3; have hx4' := cell_below hb1 hx4; have hx5' := cell_below hb1 hx5; clear hb1) | (go_at_call 58; refine (FCH.out _).mono ?_; rintro e w2 ⟨rfl, hb2⟩; have B2 := Lib.hid hb2; clear hb2))
            go_roundw
            case rel => exact ⟨k, fv, k + 1, rfl, rfl, by go_num, by omega, by omega, CH.out.more hsk (by omega) EX.out HBT.out HFR.out HFV.out HCV.out, below_step (below_step HB.out B1.out) B2.out⟩
            case measure => simp [intOf] <;> omega
          · have LS := Lib.hid (CH.out.last hsk (by omega) EX.out HBT.out hfr HFV.out HCV.out)
            rw [HL.out] at LS
            rw [hfr] at FCH
            clear hfr
            have LS' := Lib.hid (LS.out.trans (if_neg (show ¬ ((k : Int) < 0) by omega)))
            go_wp2_with (first | (go_at_call 66; refine BK.out.mono ?_; rintro e w' ⟨rfl, rfl⟩) | (go_at_call 67; refine FL.out.mono ?_; rintro e w1 ⟨z, rfl, hb1⟩; have B1 := Lib.hid hb1; have hx0' := cell_below hb1 hx0; have hx1' := cell_below hb1 hx1; have hx2' := cell_below hb1 hx2; have hx3' := cell_below hb1 hx3; have hx4' := cell_below hb1 hx4; have hx5' := cell_below hb1 hx5; clear hb1) | (go_at_call 58; refine (FCH.out _).mono ?_; rintro e w2 ⟨rfl, hb2⟩; have B2 := Lib.hid hb2; clear hb2))
            go_ret
            exact ⟨ret_int (by rw [LS'.out]), below_step (below_step HB.out B1.out) B2.out⟩
    · obtain rfl : k = n := by omega
      by_cases hbv : bv < 0
      · have C6' := Lib.hid (C6.out.trans (if_pos hbv))
        go_wp2_with fail
        go_ret
        exact ⟨ret_int (by rw [C6'.out]), HB.out⟩
      · have C6' := Lib.hid (C6.out.trans (if_neg hbv))
        go_wp2_with fail
        go_ret
        exact ⟨ret_int (by rw [C6'.out]), HB.out⟩
end Go.Proofs.Ytjkmjgjpkneckaa
