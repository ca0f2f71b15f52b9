/-
  Contract of the reference's FirstFit.
-/
import Derived.Test.YtjkmjgjpkneckaaFitSpec2
import Derived.Test.YtjkmjgjpkneckaaFitFirst
namespace Go.Proofs.Ytjkmjgjpkneckaa
open Go.RowKit
set_option linter.unusedVariables false

theorem validWidth_any (wd : Int) (w : World) : Calls Try.prog 48 #[.int .i64 wd] w fun e w' => e = .returned (.bool (inB 1 10000 wd)) ∧ w = w' := by
  go_enter Try.func48, Try.ntmps48
  go_wp2_with (go_at_call 55; refine (inRange_any _ _ _ _ rfl _).mono ?_; rintro e w' ⟨rfl, rfl⟩)
  go_ret
  exact ⟨rfl, rfl⟩

def InRel (w : World) (xs : List It) (wd : Int) (s n : Nat) (bi ti : Value) (wr : World) : Prop :=
  ∃ (bv : Int) (k : Nat), bi = .int .i64 bv ∧ ti = .int .i64 k ∧ s ≤ k ∧ k ≤ n ∧ bst xs wd s k = bv ∧ Below w.heap.size w wr

set_option maxHeartbeats 8000000 in
theorem firstFitSpec_any (A : Option Addr) (n c : Nat) (wd : Int) (xs : List It) (w : World) (hx : Rd w 6 A n (items xs)) (hv : vItems xs = true) (hw : inB 1 10000 wd = true) :
    Calls Try.prog 49 #[.slice A n c, .int .i64 wd] w (MadeFF w (FF xs wd)) := by
  have hl := hx.item_len
  have hp := vItems_parts hv
  have hn : n ≤ 60 := by omega
  have hn0 : 1 ≤ n := by omega
  have hw' := inB_iff.1 hw
  have HW := Lib.hid hw'
  have VW := Lib.hid (validWidth_any wd)
  rw [hw] at VW
  have HL := Lib.hid hl
  have V := Lib.hid hv
  have BA0 := Lib.hid ((Below.refl w.heap.size w).alloc (Nat.le_refl _) (.cells #[] 3))
  have ON : Hid ((w.alloc (.cells #[] 3)).ownsRow w.heap.size 3 1 (.slice (some ⟨w.heap.size, 0, none⟩) 0 0) 0 (ints [])) :=
    ⟨by simp [ints], .inr ⟨w.heap.size, 0, #[], rfl, Nat.le_refl _, heap_alloc_new w _, Nat.le_refl _, by unfold maxLen; omega, rfl, rfl⟩⟩
  have VI := Lib.hid (specItems_any A n c xs (w.alloc (.cells #[] 3)) (hx.below BA0.out) (by omega))
  rw [hv] at VI
  have HBK := Lib.hid (fun (w1 : World) (k : Nat) (hb : Below w.heap.size w w1) (hk : k < n) => brkSpec_any A n c k xs w1 (hx.below hb) hk (by omega))
  have HVL := Lib.hid (fun (w1 : World) (s k : Nat) (f : Int) (hb : Below w.heap.size w w1) (hs : s ≤ k) (hk : k < n) (hf : f + 1 = (s : Int)) (h1 : isB xs k = true) (h0 : s = 0 ∨ isB xs (s - 1) = true) => validLine_any A n c s k f xs w1 (hx.below hb) hv hs hk hf h1 h0)
  have HLG := Lib.hid (fun (w1 : World) (s k : Nat) (f : Int) (hb : Below w.heap.size w w1) (hs : s ≤ k) (hk : k < n) (hf : f + 1 = (s : Int)) => lineSpec_any A n c s k f xs w1 (hx.below hb) hv hs hk hf)
  clear hl hp hv hx hw
  go_enter Try.func49, Try.ntmps49
  go_wp2_with fail
  refine VI.out.mono ?_
  rintro e w1 ⟨rfl, hb⟩
  have B1 := Lib.hid (below_step BA0.out hb)
  have O1 := Lib.hid (own_below ON.out hb)
  clear hb
  go_wp2_with (go_at_call 48; refine (VW.out _).mono ?_; rintro e w' ⟨rfl, rfl⟩)
  go_loopw [5, 6] (FFRel w xs wd) (fun _ i _ => n - (intOf i + 1).toNat)
  case atStart => exact ⟨[], 0, 0, -1, rfl, by omega, Left.start xs wd, rfl, O1.out, B1.out⟩
  case round =>
    obtain ⟨out, s, m, f, rfl, hf, hleft, hm, hown, hb⟩ := hrel
    have hsn : s ≤ n := by
      obtain ⟨k, _, _, h, _⟩ := hleft
      rw [HL.out] at h; exact h
    have SB : Hid (s = 0 ∨ isB xs (s - 1) = true) := by
      obtain ⟨k, _, _, _, h⟩ := hleft
      exact h
    have hm60 : m ≤ n := by have := hleft.short; rw [HL.out, hm] at this; exact this
    have F := Lib.hid hf
    have LF := Lib.hid hleft
    have OW := Lib.hid hown
    have HB := Lib.hid hb
    have HM := Lib.hid hm
    have hf1 : -1 ≤ f := by omega
    have hf2 : f < 1000 := by omega
    clear hf hleft hown hb hm
    by_cases hlt : s < n
    · have hfn : f < (n : Int) - 1 := by have := F.out; omega
      have hends := bst_ends (wd := wd) V.out (s := s) (by rw [HL.out]; exact hlt)
      rw [HL.out] at hends
      obtain ⟨t, ht⟩ := Int.eq_ofNat_of_zero_le (show 0 ≤ bst xs wd s n by omega)
      rw [ht] at hends
      have HT : Hid (bst xs wd s n = t) := ht
      clear ht
      have hst : s ≤ t := by omega
      have htn : t < n := by omega
      clear hends
      go_wp2_with fail
      go_loopw [7, 8] (InRel wr xs wd s n) (fun _ i _ => n - (intOf i).toNat)
      case atStart => exact ⟨-1, s, rfl, by rw [F.out], Nat.le_refl _, hsn, bst_start xs wd s, Below.refl _ _⟩
      case round =>
        obtain ⟨bv, k, rfl, rfl, hsk, hkn, hbs, hbi⟩ := hrel
        have hrg := bst_range xs wd s k
        rw [hbs] at hrg
        have hbv1 : -1 ≤ bv := by omega
        have hbv2 : bv < 1000 := by omega
        clear hrg
        have BS := Lib.hid hbs
        have BI := Lib.hid hbi
        have BA := Lib.hid (below_step HB.out hbi)
        clear hbs hbi
        by_cases hlk : k < n
        · have BK := Lib.hid (HBK.out _ k BA.out hlk)
          cases hbk : isB xs k
          · rw [hbk] at BK
            have SK : Hid (bst xs wd s (k + 1) = bv) := by show _ = _; rw [bst_skip hsk (by rw [okl, hbk, Bool.false_and]), BS.out]
            clear hbk
            go_wp2_with (go_at_call 61; refine BK.out.mono ?_; rintro e w' ⟨rfl, rfl⟩)
            go_roundw
            case rel => exact ⟨bv, k + 1, rfl, by go_num, by omega, by omega, SK.out, BI.out⟩
            case measure => simp [intOf] <;> omega
          · rw [hbk] at BK
            have VL := Lib.hid (HVL.out _ s k f BA.out hsk hlk F.out hbk SB.out)
            cases hnf : nof xs (k - s) s
            · rw [hnf] at VL
              have SK : Hid (bst xs wd s (k + 1) = bv) := by show _ = _; rw [bst_skip hsk (by rw [okl, hnf, Bool.and_false]), BS.out]
              clear hbk hnf
              go_wp2_with (first | (go_at_call 61; refine BK.out.mono ?_; rintro e w' ⟨rfl, rfl⟩) | (go_at_call 62; refine VL.out.mono ?_; rintro e w2 ⟨rfl, hb2⟩; have B2 := Lib.hid hb2; clear hb2))
              go_roundw
              case rel => exact ⟨bv, k + 1, rfl, by go_num, by omega, by omega, SK.out, below_step BI.out B2.out⟩
              case measure => simp [intOf] <;> omega
            · rw [hnf] at VL
              have OK : Hid (okl xs s k = true) := by show _ = _; rw [okl, hbk, hnf]; rfl
              have hbd := line_bound V.out (lst xs s k) k
              have EL := line_lstF (xs := xs) hsk (by rw [HL.out]; omega) hnf
              have LG := Lib.hid (fun w1 hb => HLG.out w1 s k f hb hsk hlk F.out)
              rw [EL] at LG
              have E : Hid (cd xs wd s k = code0 (min (line xs (lst xs s k) k).w 10000) (min (line xs (lst xs s k) k).sh 10000) wd) := rfl
              clear hbk hnf EL
              obtain ⟨⟨a, a', b⟩, hg⟩ : ∃ g, g = line xs (lst xs s k) k := ⟨_, rfl⟩
              rw [← hg] at hbd LG E
              simp only at hbd LG E
              clear hg
              have FT := Lib.hid (fun w1 => fitSpec_any (min a 10000) (min a' 10000) (min b 10000) wd w1 (by omega) (by omega) (by omega) HW.out)
              obtain ⟨cv, hcv⟩ : ∃ cv, cv = code0 (min a 10000) (min b 10000) wd := ⟨_, rfl⟩
              rw [← hcv] at FT E
              clear hcv
              have CL := Lib.hid (fun w1 => clamp_any a a' b w1)
              obtain ⟨p1, hp1⟩ : ∃ p1, p1 = min a 10000 := ⟨_, rfl⟩
              obtain ⟨p2, hp2⟩ : ∃ p2, p2 = min a' 10000 := ⟨_, rfl⟩
              obtain ⟨p3, hp3⟩ : ∃ p3, p3 = min b 10000 := ⟨_, rfl⟩
              rw [← hp1, ← hp2, ← hp3] at FT CL
              clear hp1 hp2 hp3
              by_cases hneg : bv < 0
              · have SK : Hid (bst xs wd s (k + 1) = k) := bst_take hsk OK.out (.inl (by rw [BS.out]; exact hneg))
                go_wp2_with (first | (go_at_call 61; refine BK.out.mono ?_; rintro e w' ⟨rfl, rfl⟩) | (go_at_call 62; refine VL.out.mono ?_; rintro e w2 ⟨rfl, hb2⟩; have B2 := Lib.hid (below_step BI.out hb2); have A2 := Lib.hid (below_step BA.out hb2); clear hb2) | (go_at_call 65; refine (LG.out _ A2.out).mono ?_; rintro e w3 ⟨rfl, hb3⟩; have B3 := Lib.hid (below_step B2.out hb3); clear hb3) | (go_at_call 64; refine (CL.out _).mono ?_; rintro e w4 ⟨rfl, hb4⟩; have B4 := Lib.hid (below_step B3.out hb4); clear hb4) | (go_at_call 63; refine (FT.out _).mono ?_; rintro e w5 ⟨z, rfl, hb5⟩; have B5 := Lib.hid (below_step B4.out hb5); clear hb5))
                go_roundw
                case rel => exact ⟨k, k + 1, rfl, by go_num, by omega, by omega, SK.out, B5.out⟩
                case measure => simp [intOf] <;> omega
              · by_cases h4 : cv = 4
                · have SK : Hid (bst xs wd s (k + 1) = bv) := (bst_keep hsk (by rw [BS.out]; exact hneg) (E.out.trans h4)).trans BS.out
                  subst h4
                  go_wp2_with (first | (go_at_call 61; refine BK.out.mono ?_; rintro e w' ⟨rfl, rfl⟩) | (go_at_call 62; refine VL.out.mono ?_; rintro e w2 ⟨rfl, hb2⟩; have B2 := Lib.hid (below_step BI.out hb2); have A2 := Lib.hid (below_step BA.out hb2); clear hb2) | (go_at_call 65; refine (LG.out _ A2.out).mono ?_; rintro e w3 ⟨rfl, hb3⟩; have B3 := Lib.hid (below_step B2.out hb3); clear hb3) | (go_at_call 64; refine (CL.out _).mono ?_; rintro e w4 ⟨rfl, hb4⟩; have B4 := Lib.hid (below_step B3.out hb4); clear hb4) | (go_at_call 63; refine (FT.out _).mono ?_; rintro e w5 ⟨z, rfl, hb5⟩; have B5 := Lib.hid (below_step B4.out hb5); clear hb5))
                  go_roundw
                  case rel => exact ⟨bv, k + 1, rfl, by go_num, by omega, by omega, SK.out, B5.out⟩
                  case measure => simp [intOf] <;> omega
                · have SK : Hid (bst xs wd s (k + 1) = k) := bst_take hsk OK.out (.inr (fun h => h4 (E.out.symm.trans h)))
                  have h4' : (cv == 4) = false := by simpa using h4
                  have h4b : (cv != 4) = true := by simpa using h4
                  go_wp2_with (first | (go_at_call 61; refine BK.out.mono ?_; rintro e w' ⟨rfl, rfl⟩) | (go_at_call 62; refine VL.out.mono ?_; rintro e w2 ⟨rfl, hb2⟩; have B2 := Lib.hid (below_step BI.out hb2); have A2 := Lib.hid (below_step BA.out hb2); clear hb2) | (go_at_call 65; refine (LG.out _ A2.out).mono ?_; rintro e w3 ⟨rfl, hb3⟩; have B3 := Lib.hid (below_step B2.out hb3); clear hb3) | (go_at_call 64; refine (CL.out _).mono ?_; rintro e w4 ⟨rfl, hb4⟩; have B4 := Lib.hid (below_step B3.out hb4); clear hb4) | (go_at_call 63; refine (FT.out _).mono ?_; rintro e w5 ⟨z, rfl, hb5⟩; have B5 := Lib.hid (below_step B4.out hb5); clear hb5))
                  go_roundw
                  case rel => exact ⟨k, k + 1, rfl, by go_num, by omega, by omega, SK.out, B5.out⟩
                  case measure => simp [intOf] <;> omega
        · obtain rfl : k = n := by omega
          have HT2 : Hid (bv = t) := BS.out.symm.trans HT.out
          have hbt := HT2.out
          subst hbt
          have B2 := BA
          have O2 := Lib.hid (own_below OW.out BI.out)
          obtain ⟨L, d, hs, hmd⟩ := own_shape O2.out
          subst hs
          have hsz := B2.out.size
          go_wp2_with (at_builtin; refine app_lit elemInt rfl _ _ rfl O2.out _ _ [.int .i64 t] rfl rfl rfl (by simp [Value.oneCell']) (by omega) hsz ?_; intro v3 w3 ho3 hg3)
          have O3 := Lib.hid (own_ints ho3)
          have B3 := Lib.hid (below_app (B2.out.alloc hsz _) hg3 O2.out (Nat.le_refl _))
          clear ho3 hg3
          go_wp2_with fail
          go_roundw
          case rel => exact ⟨out ++ [(t : Int)], t + 1, m + 1, (t : Int), rfl, by omega, LF.out.step V.out (by rw [HL.out]; exact hlt) (by rw [HL.out]; exact HT.out), by simp [HM.out], O3.out, B3.out⟩
          case measure => have := F.out; simp [intOf] <;> omega
    · have hfn : ¬ f < (n : Int) - 1 := by have := F.out; omega
      have hd := LF.out.done (by rw [HL.out]; omega)
      obtain ⟨L, d, hs, hmd⟩ := own_shape OW.out
      subst hs
      have OF := Lib.hid OW.out
      have HE := Lib.hid hd
      clear hd
      go_wp2_with fail
      go_ret
      refine ⟨_, rfl, ?_, HB.out⟩
      rw [← HE.out, HM.out]
      exact OF.out
end Go.Proofs.Ytjkmjgjpkneckaa
