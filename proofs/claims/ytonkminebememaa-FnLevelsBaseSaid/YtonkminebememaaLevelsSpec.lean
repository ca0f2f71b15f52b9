/-
  Contracts of levelsOf and LevelsOf of the reference.
-/
import Derived.Test.YtonkminebememaaLevels
namespace Go.Proofs.Ytonkminebememaa
open Go.RowKit
set_option linter.unusedVariables false

theorem cls_call {s : ByteArray} {k : Nat} {c : Int} (hk : k < s.size) (hc : (clsAt s k : Int) = c) (w : World) : Calls Try.prog 35 #[.int .u8 (s[k].toNat : Int)] w fun e w' => e = .returned (.int .i64 c) ∧ w = w' := by
  have h := classOf_z _ _ (zone_of s[k]) w
  rwa [← clsAt_eq hk, hc] at h
def S1Rel (s : ByteArray) (base : Int) (w : World) (v i : Value) (wr : World) : Prop :=
  ∃ (k : Nat) (xs : List Int), k ≤ s.size ∧ i = .int .i64 (k : Int) ∧ xs.length = k ∧ wr.ownsRow w.heap.size 3 1 v k (ints xs) ∧ Below w.heap.size w wr ∧ ∀ j, j < k → xs[j]? = some (lev0 s base j)
def S2Rel (s : ByteArray) (base : Int) (w : World) (L : Option Addr) (d : Nat) (last i : Value) (wr : World) : Prop :=
  ∃ (k : Nat) (la : Int) (xs : List Int), k ≤ s.size ∧ i = .int .i64 (k : Int) ∧ last = .int .i64 la ∧ OwnN w L s.size d xs wr ∧ Pass2 s base k la xs
theorem snoc_get {s : ByteArray} {base : Int} {k : Nat} {xs : List Int} (hl : xs.length = k) (h : ∀ j, j < k → xs[j]? = some (lev0 s base j)) : ∀ j, j < k + 1 → (xs ++ [lev0 s base k])[j]? = some (lev0 s base j) := by
  intro j hj
  rcases Nat.lt_or_ge j k with h1 | h1
  · rw [List.getElem?_append_left (by omega)]; exact h j h1
  · obtain rfl : j = k := by omega
    rw [List.getElem?_append_right (by omega), hl, Nat.sub_self]; rfl
theorem pass2_start {s : ByteArray} {base : Int} {xs : List Int} (h : ∀ j, j < s.size → xs[j]? = some (lev0 s base j)) : Pass2 s base 0 base xs := by
  refine ⟨fun j hj => absurd hj (by omega), fun j _ hj => h j hj, ?_⟩
  by_cases hb : base = 1
  · exact .inl hb
  · right
    simp [upAt, hb]
theorem OwnN.set2 {w wr : World} {g n d : Nat} {xs : List Int} {k : Nat} {u v : Int} {W : World} (h : OwnN w (some ⟨g, 0, none⟩) n d ((xs.set k u).set k v) W) : OwnN w (some ⟨g, 0, none⟩) n d (xs.set k v) W := by
  rwa [List.set_set] at h

set_option maxHeartbeats 16000000 in
set_option maxRecDepth 20000 in
theorem specLevels0_any (s : ByteArray) (base : Int) (w : World) (hs60 : s.size ≤ 60) (hb0 : 0 ≤ base) (hb1 : base ≤ 1) (hE : lvls s base = levels s base) :
    Calls Try.prog 27 #[.string s, .int .i64 base] w (LevRes s base w) := by
  have HE := Lib.hid hE
  clear hE
  go_enter Try.func27, Try.ntmps27
  go_wp2_with fail
  go_loopw [5, 6] (S1Rel s base w) (fun _ i _ => s.size - (intOf i).toNat)
  case atStart =>
    refine ⟨0, [], Nat.zero_le _, rfl, rfl, ?_, (Below.refl _ _).alloc (Nat.le_refl _) _, fun j h => absurd h (by omega)⟩
    exact ⟨by simp [ints], .inr ⟨w.heap.size, 0, #[], rfl, Nat.le_refl _, heap_alloc_new w _, Nat.le_refl _, by unfold maxLen; omega, rfl, rfl⟩⟩
  case round =>
    obtain ⟨k, xs, hk, rfl, hxl, hown, hbel, hxs⟩ := hrel
    obtain ⟨L, d, hv, hnd⟩ := own_shape hown
    subst hv
    have O1 := Lib.hid hown
    have B1 := Lib.hid hbel
    have XS := Lib.hid hxs
    have XL := Lib.hid hxl
    clear hown hbel hxs hxl
    by_cases hlt : k < s.size
    case pos =>
      have hlt' : (k : Int) < (s.size : Int) := by omega
      have HC := Lib.hid (fun w => cls_call (c := (clsAt s k : Int)) hlt rfl w)
      have HV := Lib.hid (fun w => levelOf_any (clsAt s k) base (clsAt_le s k) hb0 hb1 w)
      have hl0 : lev0k (clsAt s k) base = lev0 s base k := rfl
      rw [hl0] at HV
      clear hl0
      have hsz := B1.out.size
      go_wp2_with (first
        | (at_builtin
           refine app_lit elemInt rfl _ _ rfl O1.out _ _ [.int .i64 (lev0 s base k)] rfl rfl rfl (by simp [Value.oneCell']) (by omega) hsz ?_
           intro v2 w2 ho2 hg2
           have O2 := Lib.hid ho2
           have B2 := Lib.hid (below_app (B1.out.alloc hsz _) hg2 O1.out (Nat.le_refl _))
           clear ho2 hg2)
        | (go_at_call 35; refine (HC.out _).mono ?_; rintro e w' ⟨rfl, rfl⟩)
        | (go_at_call 34; refine (HV.out _).mono ?_; rintro e w' ⟨rfl, rfl⟩))
      go_roundw
      case rel => exact ⟨k + 1, xs ++ [lev0 s base k], by omega, by go_num, by simp [XL.out], by simpa [ints] using O2.out, B2.out, snoc_get XL.out XS.out⟩
      case measure => simp [intOf] <;> omega
    case neg =>
      obtain rfl : k = s.size := by omega
      have O2 : Hid (OwnN w L s.size d xs wr) := ⟨XL.out, O1.out, B1.out⟩
      have P2 := Lib.hid (pass2_start XS.out)
      go_wp2_with fail
      go_loopw [7, 8] (S2Rel s base w L d) (fun _ i _ => s.size - (intOf i).toNat)
      case atStart => exact ⟨0, base, xs, Nat.zero_le _, rfl, rfl, O2.out, P2.out⟩
      case round =>
        clear O1 B1 XS XL O2 P2 xs
        obtain ⟨k, la, xs, hk, rfl, rfl, hown, hps⟩ := hrel
        by_cases hlt : k < s.size
        case pos =>
          have hlt' : (k : Int) < (s.size : Int) := by omega
          have hk0 : (0 : Int) ≤ (k : Int) := by omega
          obtain ⟨g, hL, hg, _⟩ := own_headI hown.2.1 (by omega)
          subst hL
          have hf := hown.2.1.frozenAt k
          have hcz := hown.at hlt (hps.2.1 k (Nat.le_refl _) hlt)
          have ON := Lib.hid hown
          have PS := Lib.hid hps
          clear hown hps
          have hc4 : clsAt s k = 0 ∨ clsAt s k = 1 ∨ clsAt s k = 2 ∨ clsAt s k = 3 := by have := clsAt_le s k; omega
          rcases hc4 with hc | hc | hc | hc
          case inl =>
            have HC := Lib.hid (fun w => cls_call (c := 0) hlt (by rw [hc]; rfl) w)
            have HS := Lib.hid (PS.out.other hc)
            clear hc
            go_wp2_with (go_at_call 35; refine (HC.out _).mono ?_; rintro e w' ⟨rfl, rfl⟩)
            go_roundw
            case rel => exact ⟨k + 1, _, _, by omega, by go_num, rfl, ON.out, HS.out⟩
            case measure => simp [intOf] <;> omega
          case inr.inl =>
            have HC := Lib.hid (fun w => cls_call (c := 1) hlt (by rw [hc]; rfl) w)
            have HS := Lib.hid (PS.out.letter hb0 hb1 hlt (.inl hc))
            clear hc
            go_wp2_with (go_at_call 35; refine (HC.out _).mono ?_; rintro e w' ⟨rfl, rfl⟩)
            go_roundw
            case rel => exact ⟨k + 1, _, _, by omega, by go_num, rfl, ON.out, HS.out⟩
            case measure => simp [intOf] <;> omega
          case inr.inr.inl =>
            have HC := Lib.hid (fun w => cls_call (c := 2) hlt (by rw [hc]; rfl) w)
            have HS := Lib.hid (PS.out.letter hb0 hb1 hlt (.inr hc))
            clear hc
            go_wp2_with (go_at_call 35; refine (HC.out _).mono ?_; rintro e w' ⟨rfl, rfl⟩)
            go_roundw
            case rel => exact ⟨k + 1, _, _, by omega, by go_num, rfl, ON.out, HS.out⟩
            case measure => simp [intOf] <;> omega
          case inr.inr.inr =>
            have HC := Lib.hid (fun w => cls_call (c := 3) hlt (by rw [hc]; rfl) w)
            have HS := Lib.hid (PS.out.digit hb0 hb1 ON.out.1 hlt hc)
            clear hc
            by_cases h1 : la = 1
            case pos =>
              subst h1
              have HS2 := Lib.hid HS.out
              rw [if_pos rfl] at HS2
              have OS := Lib.hid (ON.out.set hg k 2)
              clear HS
              go_wp2_with (go_at_call 35; refine (HC.out _).mono ?_; rintro e w' ⟨rfl, rfl⟩)
              go_roundw
              case rel => exact ⟨k + 1, _, _, by omega, by go_num, rfl, OS.out, HS2.out⟩
              case measure => simp [intOf] <;> omega
            have HS2 := Lib.hid HS.out
            rw [if_neg h1] at HS2
            have h1' : (la == 1) = false := by simpa using h1
            clear HS h1
            go_wp2_with (go_at_call 35; refine (HC.out _).mono ?_; rintro e w' ⟨rfl, rfl⟩)
            go_roundw
            case rel => exact ⟨k + 1, _, _, by omega, by go_num, rfl, ON.out, HS2.out⟩
            case measure => simp [intOf] <;> omega
        case neg =>
          obtain rfl : k = s.size := by omega
          have O3 := Lib.hid hown
          have D3 := Lib.hid hps.done
          clear hown hps
          go_wp2_with fail
          go_loopw [9] (L3Rel s base w L d) (fun i _ => s.size - (intOf i).toNat)
          case atStart => exact ⟨0, xs, Nat.zero_le _, rfl, O3.out, D3.out, .inl rfl⟩
          case round =>
            clear O3 D3 xs
            obtain ⟨k, xs, hk, rfl, hown, hdn, hpv⟩ := hrel
            by_cases hlt : k < s.size
            case neg =>
              obtain rfl : k = s.size := by omega
              have O4 := Lib.hid hown
              have D4 := Lib.hid hdn
              clear hown hdn
              go_wp2_with fail
              go_ret
              exact LevRes.of HE.out O4.out D4.out
            have hlt' : (k : Int) < (s.size : Int) := by omega
            obtain ⟨g, hL, hg, hnd⟩ := own_headI hown.2.1 (by omega)
            subst hL
            have O2 := Lib.hid hown
            have D2 := Lib.hid hdn
            have PV := Lib.hid hpv
            clear hown hdn hpv
            obtain ⟨u, hu⟩ : ∃ u, u = wr := ⟨_, rfl⟩
            subst hu
            go_wp2_with fail
            go_loopw [10] (L4Rel s k u) (fun i _ => s.size - (intOf i).toNat)
            case atStart => exact ⟨k, Nat.le_refl _, by omega, rfl, fun j h1 h2 => absurd h1 (by omega), rfl⟩
            case round =>
              obtain ⟨t, hkt, ht, rfl, hnn, rfl⟩ := hrel
              have NN := Lib.hid hnn
              clear hnn
              by_cases htl : t < s.size
              case neg =>
                have HTS : Hid (t = s.size) := by show t = s.size; omega
                have htk : ¬ t = k := by omega
                have htk' : ((t : Int) == (k : Int)) = false := by simp; omega
                have hkt2 : k < t := by omega
                have hck : clsAt s k = 0 := NN.out k (Nat.le_refl _) (by omega)
                have HBF : Hid (0 < k → levAt s base (k - 1) = bef s base k) := fun h => by
                  rcases PV.out with h1 | h1 | h1 | h1
                  · omega
                  · have h2 := bef_prev base h1
                    rw [show k - 1 + 1 = k from by omega] at h2
                    exact h2.symm
                  · omega
                  · exact absurd hck h1
                clear hck
                by_cases hk0 : k = 0
                case pos =>
                  subst hk0
                  obtain ⟨B, hB⟩ : ∃ B, B = bef s base 0 := ⟨_, rfl⟩
                  have hBb : base = B := by rw [hB]; rfl
                  have hBd := bef_bd (s := s) hb0 hb1 0
                  rw [← hB] at hBd
                  obtain ⟨hB0, hB1⟩ := hBd
                  obtain ⟨A, hA⟩ : ∃ A, A = aft s base t := ⟨_, rfl⟩
                  have hAd := aft_bd (s := s) hb0 hb1 t
                  rw [← hA] at hAd
                  obtain ⟨hA0, hA1⟩ := hAd
                  have hAb : base = A := by rw [hA, HTS.out, aft_end]
                  have HNX := Lib.hid (fun f (h1 : 0 ≤ f) (h2 : f < t) => levAt_neu base h1 h2 ht NN.out)
                  rw [← hB, ← hA] at HNX
                  clear hB hA
                  go_wp2_with fail
                  subst hBb
                  subst hAb
                  go_loopw [13] (L5Rel s base w (some ⟨g, 0, none⟩) d 0 t) (fun i _ => t - (intOf i).toNat)
                  case atStart => exact ⟨0, xs, Nat.le_refl _, hkt, rfl, O2.out, D2.out⟩
                  case round =>
                    obtain ⟨f, ys, hf1, hf2, rfl, hown, hdn⟩ := hrel
                    by_cases hft : f < t
                    case pos =>
                      have hft' : (f : Int) < (t : Int) := by omega
                      have hfs : (f : Int) < (s.size : Int) := by omega
                      have hf0 : (0 : Int) ≤ (f : Int) := by omega
                      have hfz := hown.2.1.frozenAt f
                      have hlen := hown.1
                      obtain ⟨yv, hyv⟩ : ∃ y, ys[f]? = some y := ⟨ys[f]'(by omega), List.getElem?_eq_getElem _⟩
                      have hcz := hown.at (by omega) hyv
                      have ON := Lib.hid hown
                      have DS := Lib.hid (hdn.set hlen (HNX.out f hf1 hft).symm)
                      clear hown hdn hlen hyv
                      have hv_base : base = 0 ∨ base = 1 := by omega
                      rcases hv_base with hv | hv
                      · subst hv
                        have hnv : neuL 0 0 0 = 0 := by decide
                        rw [hnv] at DS
                        have OS := Lib.hid (ON.out.set hg f 0)
                        go_wp2_with fail
                        go_roundw
                        case rel => exact ⟨f + 1, _, by omega, by omega, by go_num, OS.out, DS.out⟩
                        case measure => simp [intOf] <;> omega
                      · subst hv
                        have hnv : neuL 1 1 1 = 1 := by decide
                        rw [hnv] at DS
                        have OS := Lib.hid (ON.out.set hg f 1)
                        go_wp2_with fail
                        go_roundw
                        case rel => exact ⟨f + 1, _, by omega, by omega, by go_num, OS.out, DS.out⟩
                        case measure => simp [intOf] <;> omega
                    case neg =>
                      obtain rfl : f = t := by omega
                      have OE := Lib.hid hown
                      have DE := Lib.hid hdn
                      clear hown hdn
                      go_wp2_with fail
                      go_roundw
                      case rel => exact ⟨f, ys, ht, rfl, OE.out, DE.out, .inr (.inr (.inl HTS.out))⟩
                      case measure => simp [intOf] <;> omega
                have hkp : (0 : Int) < (k : Int) := by omega
                have hkp' : 0 < k := by omega
                have hk10 : (0 : Int) ≤ (k : Int) - 1 := by omega
                have hk11 : (k : Int) - 1 < (s.size : Int) := by omega
                have hkt1 : ((k : Int) - 1).toNat = k - 1 := by omega
                obtain ⟨B, hB⟩ : ∃ B, B = bef s base k := ⟨_, rfl⟩
                have hcB := O2.out.at (k := k - 1) (v := B) (by omega) (by rw [D2.out (k - 1) (by omega) (.inl (by omega)), hB, HBF.out hkp'])
                have hBd := bef_bd (s := s) hb0 hb1 k
                rw [← hB] at hBd
                obtain ⟨hB0, hB1⟩ := hBd
                obtain ⟨A, hA⟩ : ∃ A, A = aft s base t := ⟨_, rfl⟩
                have hAd := aft_bd (s := s) hb0 hb1 t
                rw [← hA] at hAd
                obtain ⟨hA0, hA1⟩ := hAd
                have hAb : base = A := by rw [hA, HTS.out, aft_end]
                have HNX := Lib.hid (fun f (h1 : k ≤ f) (h2 : f < t) => levAt_neu base h1 h2 ht NN.out)
                rw [← hB, ← hA] at HNX
                clear hB hA
                go_wp2_with fail
                subst hAb
                go_loopw [13] (L5Rel s base w (some ⟨g, 0, none⟩) d k t) (fun i _ => t - (intOf i).toNat)
                case atStart => exact ⟨k, xs, Nat.le_refl _, hkt, rfl, O2.out, D2.out⟩
                case round =>
                  obtain ⟨f, ys, hf1, hf2, rfl, hown, hdn⟩ := hrel
                  by_cases hft : f < t
                  case pos =>
                    have hft' : (f : Int) < (t : Int) := by omega
                    have hfs : (f : Int) < (s.size : Int) := by omega
                    have hf0 : (0 : Int) ≤ (f : Int) := by omega
                    have hfz := hown.2.1.frozenAt f
                    have hlen := hown.1
                    obtain ⟨yv, hyv⟩ : ∃ y, ys[f]? = some y := ⟨ys[f]'(by omega), List.getElem?_eq_getElem _⟩
                    have hcz := hown.at (by omega) hyv
                    have ON := Lib.hid hown
                    have DS := Lib.hid (hdn.set hlen (HNX.out f hf1 hft).symm)
                    clear hown hdn hlen hyv
                    have hv_B : B = 0 ∨ B = 1 ∨ B = 2 := by omega
                    rcases hv_B with hv | hv | hv
                    · subst hv
                      have hv_base : base = 0 ∨ base = 1 := by omega
                      rcases hv_base with hv | hv
                      · subst hv
                        have hnv : neuL 0 0 0 = 0 := by decide
                        rw [hnv] at DS
                        have OS := Lib.hid (ON.out.set hg f 0)
                        go_wp2_with fail
                        go_roundw
                        case rel => exact ⟨f + 1, _, by omega, by omega, by go_num, OS.out, DS.out⟩
                        case measure => simp [intOf] <;> omega
                      · subst hv
                        have hnv : neuL 0 1 1 = 1 := by decide
                        rw [hnv] at DS
                        have OS := Lib.hid (ON.out.set hg f 1)
                        go_wp2_with fail
                        go_roundw
                        case rel => exact ⟨f + 1, _, by omega, by omega, by go_num, OS.out, DS.out⟩
                        case measure => simp [intOf] <;> omega
                    · subst hv
                      have hv_base : base = 0 ∨ base = 1 := by omega
                      rcases hv_base with hv | hv
                      · subst hv
                        have hnv : neuL 1 0 0 = 0 := by decide
                        rw [hnv] at DS
                        have OS := Lib.hid (ON.out.set hg f 0)
                        go_wp2_with fail
                        go_roundw
                        case rel => exact ⟨f + 1, _, by omega, by omega, by go_num, OS.out, DS.out⟩
                        case measure => simp [intOf] <;> omega
                      · subst hv
                        have hnv : neuL 1 1 1 = 1 := by decide
                        rw [hnv] at DS
                        have OS := Lib.hid (ON.out.set hg f 1)
                        go_wp2_with fail
                        go_roundw
                        case rel => exact ⟨f + 1, _, by omega, by omega, by go_num, OS.out, DS.out⟩
                        case measure => simp [intOf] <;> omega
                    · subst hv
                      have hv_base : base = 0 ∨ base = 1 := by omega
                      rcases hv_base with hv | hv
                      · subst hv
                        have hnv : neuL 2 0 0 = 0 := by decide
                        rw [hnv] at DS
                        have OS := Lib.hid (ON.out.set hg f 0)
                        go_wp2_with fail
                        go_roundw
                        case rel => exact ⟨f + 1, _, by omega, by omega, by go_num, OS.out, DS.out⟩
                        case measure => simp [intOf] <;> omega
                      · subst hv
                        have hnv : neuL 2 1 1 = 1 := by decide
                        rw [hnv] at DS
                        have OS := Lib.hid (ON.out.set hg f 1)
                        go_wp2_with fail
                        go_roundw
                        case rel => exact ⟨f + 1, _, by omega, by omega, by go_num, OS.out, DS.out⟩
                        case measure => simp [intOf] <;> omega
                  case neg =>
                    obtain rfl : f = t := by omega
                    have OE := Lib.hid hown
                    have DE := Lib.hid hdn
                    clear hown hdn
                    go_wp2_with fail
                    go_roundw
                    case rel => exact ⟨f, ys, ht, rfl, OE.out, DE.out, .inr (.inr (.inl HTS.out))⟩
                    case measure => simp [intOf] <;> omega
              have htl' : (t : Int) < (s.size : Int) := by omega
              by_cases hct : clsAt s t = 0
              case pos =>
                have HT1 := Lib.hid (fun w => cls_call (c := 0) htl (by rw [hct]; rfl) w)
                have NN2 : Hid (∀ j, k ≤ j → j < t + 1 → clsAt s j = 0) := fun j h1 h2 => by
                  rcases Nat.lt_or_ge j t with h | h
                  · exact NN.out j h1 h
                  · obtain rfl : j = t := by omega
                    exact hct
                clear hct
                go_wp2_with (go_at_call 35; refine (HT1.out _).mono ?_; rintro e w' ⟨rfl, rfl⟩)
                go_roundw
                case rel => exact ⟨t + 1, by omega, by omega, by go_num, NN2.out, rfl⟩
                case measure => simp [intOf] <;> omega
              have HT0 := Lib.hid hct
              obtain ⟨cc, hcc⟩ : ∃ cc : Int, (clsAt s t : Int) = cc := ⟨_, rfl⟩
              have hcc0 : (cc == 0) = false := by simp; omega
              have HT1 := Lib.hid (fun w => cls_call htl hcc w)
              clear hct hcc
              by_cases htk : t = k
              case pos =>
                have DS := Lib.hid (D2.out.skip (by rw [← htk]; exact HT0.out))
                have HCk : Hid (clsAt s k ≠ 0) := by show clsAt s k ≠ 0; rw [← htk]; exact HT0.out
                subst htk
                go_wp2_with (go_at_call 35; refine (HT1.out _).mono ?_; rintro e w' ⟨rfl, rfl⟩)
                go_roundw
                case rel => exact ⟨t + 1, xs, by omega, by go_num, O2.out, DS.out, .inr (.inl HCk.out)⟩
                case measure => simp [intOf] <;> omega
              have htk' : ((t : Int) == (k : Int)) = false := by simp; omega
              have hkt2 : k < t := by omega
              have hck : clsAt s k = 0 := NN.out k (Nat.le_refl _) (by omega)
              have HBF : Hid (0 < k → levAt s base (k - 1) = bef s base k) := fun h => by
                rcases PV.out with h1 | h1 | h1 | h1
                · omega
                · have h2 := bef_prev base h1
                  rw [show k - 1 + 1 = k from by omega] at h2
                  exact h2.symm
                · omega
                · exact absurd hck h1
              clear hck
              by_cases hk0 : k = 0
              case pos =>
                subst hk0
                obtain ⟨B, hB⟩ : ∃ B, B = bef s base 0 := ⟨_, rfl⟩
                have hBb : base = B := by rw [hB]; rfl
                have hBd := bef_bd (s := s) hb0 hb1 0
                rw [← hB] at hBd
                obtain ⟨hB0, hB1⟩ := hBd
                obtain ⟨A, hA⟩ : ∃ A, A = aft s base t := ⟨_, rfl⟩
                have hAd := aft_bd (s := s) hb0 hb1 t
                rw [← hA] at hAd
                obtain ⟨hA0, hA1⟩ := hAd
                have hcA := O2.out.at (k := t) (v := A) htl (by rw [D2.out t htl (.inr HT0.out), hA, aft_next base htl HT0.out])
                have HNX := Lib.hid (fun f (h1 : 0 ≤ f) (h2 : f < t) => levAt_neu base h1 h2 ht NN.out)
                rw [← hB, ← hA] at HNX
                clear hB hA
                go_wp2_with (go_at_call 35; refine (HT1.out _).mono ?_; rintro e w' ⟨rfl, rfl⟩)
                subst hBb
                go_loopw [13] (L5Rel s base w (some ⟨g, 0, none⟩) d 0 t) (fun i _ => t - (intOf i).toNat)
                case atStart => exact ⟨0, xs, Nat.le_refl _, hkt, rfl, O2.out, D2.out⟩
                case round =>
                  obtain ⟨f, ys, hf1, hf2, rfl, hown, hdn⟩ := hrel
                  by_cases hft : f < t
                  case pos =>
                    have hft' : (f : Int) < (t : Int) := by omega
                    have hfs : (f : Int) < (s.size : Int) := by omega
                    have hf0 : (0 : Int) ≤ (f : Int) := by omega
                    have hfz := hown.2.1.frozenAt f
                    have hlen := hown.1
                    obtain ⟨yv, hyv⟩ : ∃ y, ys[f]? = some y := ⟨ys[f]'(by omega), List.getElem?_eq_getElem _⟩
                    have hcz := hown.at (by omega) hyv
                    have ON := Lib.hid hown
                    have DS := Lib.hid (hdn.set hlen (HNX.out f hf1 hft).symm)
                    clear hown hdn hlen hyv
                    have hv_A : A = 0 ∨ A = 1 ∨ A = 2 := by omega
                    rcases hv_A with hv | hv | hv
                    · subst hv
                      have hv_base : base = 0 ∨ base = 1 := by omega
                      rcases hv_base with hv | hv
                      · subst hv
                        have hnv : neuL 0 0 0 = 0 := by decide
                        rw [hnv] at DS
                        have OS := Lib.hid (ON.out.set hg f 0)
                        go_wp2_with fail
                        go_roundw
                        case rel => exact ⟨f + 1, _, by omega, by omega, by go_num, OS.out, DS.out⟩
                        case measure => simp [intOf] <;> omega
                      · subst hv
                        have hnv : neuL 1 0 1 = 1 := by decide
                        rw [hnv] at DS
                        have OS := Lib.hid (ON.out.set hg f 1)
                        go_wp2_with fail
                        go_roundw
                        case rel => exact ⟨f + 1, _, by omega, by omega, by go_num, OS.out, DS.out⟩
                        case measure => simp [intOf] <;> omega
                    · subst hv
                      have hv_base : base = 0 ∨ base = 1 := by omega
                      rcases hv_base with hv | hv
                      · subst hv
                        have hnv : neuL 0 1 0 = 0 := by decide
                        rw [hnv] at DS
                        have OS := Lib.hid (ON.out.set hg f 0)
                        go_wp2_with fail
                        go_roundw
                        case rel => exact ⟨f + 1, _, by omega, by omega, by go_num, OS.out, DS.out⟩
                        case measure => simp [intOf] <;> omega
                      · subst hv
                        have hnv : neuL 1 1 1 = 1 := by decide
                        rw [hnv] at DS
                        have OS := Lib.hid (ON.out.set hg f 1)
                        go_wp2_with fail
                        go_roundw
                        case rel => exact ⟨f + 1, _, by omega, by omega, by go_num, OS.out, DS.out⟩
                        case measure => simp [intOf] <;> omega
                    · subst hv
                      have hv_base : base = 0 ∨ base = 1 := by omega
                      rcases hv_base with hv | hv
                      · subst hv
                        have hnv : neuL 0 2 0 = 0 := by decide
                        rw [hnv] at DS
                        have OS := Lib.hid (ON.out.set hg f 0)
                        go_wp2_with fail
                        go_roundw
                        case rel => exact ⟨f + 1, _, by omega, by omega, by go_num, OS.out, DS.out⟩
                        case measure => simp [intOf] <;> omega
                      · subst hv
                        have hnv : neuL 1 2 1 = 1 := by decide
                        rw [hnv] at DS
                        have OS := Lib.hid (ON.out.set hg f 1)
                        go_wp2_with fail
                        go_roundw
                        case rel => exact ⟨f + 1, _, by omega, by omega, by go_num, OS.out, DS.out⟩
                        case measure => simp [intOf] <;> omega
                  case neg =>
                    obtain rfl : f = t := by omega
                    have OE := Lib.hid hown
                    have DE := Lib.hid hdn
                    clear hown hdn
                    go_wp2_with fail
                    go_roundw
                    case rel => exact ⟨f, ys, ht, rfl, OE.out, DE.out, .inr (.inr (.inr HT0.out))⟩
                    case measure => simp [intOf] <;> omega
              have hkp : (0 : Int) < (k : Int) := by omega
              have hkp' : 0 < k := by omega
              have hk10 : (0 : Int) ≤ (k : Int) - 1 := by omega
              have hk11 : (k : Int) - 1 < (s.size : Int) := by omega
              have hkt1 : ((k : Int) - 1).toNat = k - 1 := by omega
              obtain ⟨B, hB⟩ : ∃ B, B = bef s base k := ⟨_, rfl⟩
              have hcB := O2.out.at (k := k - 1) (v := B) (by omega) (by rw [D2.out (k - 1) (by omega) (.inl (by omega)), hB, HBF.out hkp'])
              have hBd := bef_bd (s := s) hb0 hb1 k
              rw [← hB] at hBd
              obtain ⟨hB0, hB1⟩ := hBd
              obtain ⟨A, hA⟩ : ∃ A, A = aft s base t := ⟨_, rfl⟩
              have hAd := aft_bd (s := s) hb0 hb1 t
              rw [← hA] at hAd
              obtain ⟨hA0, hA1⟩ := hAd
              have hcA := O2.out.at (k := t) (v := A) htl (by rw [D2.out t htl (.inr HT0.out), hA, aft_next base htl HT0.out])
              have HNX := Lib.hid (fun f (h1 : k ≤ f) (h2 : f < t) => levAt_neu base h1 h2 ht NN.out)
              rw [← hB, ← hA] at HNX
              clear hB hA
              go_wp2_with (go_at_call 35; refine (HT1.out _).mono ?_; rintro e w' ⟨rfl, rfl⟩)
              go_loopw [13] (L5Rel s base w (some ⟨g, 0, none⟩) d k t) (fun i _ => t - (intOf i).toNat)
              case atStart => exact ⟨k, xs, Nat.le_refl _, hkt, rfl, O2.out, D2.out⟩
              case round =>
                obtain ⟨f, ys, hf1, hf2, rfl, hown, hdn⟩ := hrel
                by_cases hft : f < t
                case pos =>
                  have hft' : (f : Int) < (t : Int) := by omega
                  have hfs : (f : Int) < (s.size : Int) := by omega
                  have hf0 : (0 : Int) ≤ (f : Int) := by omega
                  have hfz := hown.2.1.frozenAt f
                  have hlen := hown.1
                  obtain ⟨yv, hyv⟩ : ∃ y, ys[f]? = some y := ⟨ys[f]'(by omega), List.getElem?_eq_getElem _⟩
                  have hcz := hown.at (by omega) hyv
                  have ON := Lib.hid hown
                  have DS := Lib.hid (hdn.set hlen (HNX.out f hf1 hft).symm)
                  clear hown hdn hlen hyv
                  have hv_B : B = 0 ∨ B = 1 ∨ B = 2 := by omega
                  rcases hv_B with hv | hv | hv
                  · subst hv
                    have hv_A : A = 0 ∨ A = 1 ∨ A = 2 := by omega
                    rcases hv_A with hv | hv | hv
                    · subst hv
                      have hv_base : base = 0 ∨ base = 1 := by omega
                      rcases hv_base with hv | hv
                      · subst hv
                        have hnv : neuL 0 0 0 = 0 := by decide
                        rw [hnv] at DS
                        have OS := Lib.hid (ON.out.set hg f 0)
                        go_wp2_with fail
                        go_roundw
                        case rel => exact ⟨f + 1, _, by omega, by omega, by go_num, OS.out, DS.out⟩
                        case measure => simp [intOf] <;> omega
                      · subst hv
                        have hnv : neuL 0 0 1 = 2 := by decide
                        rw [hnv] at DS
                        have OS := Lib.hid (((ON.out.set hg f 1).set hg f 0).set hg f 2)
                        go_wp2_with fail
                        go_roundw
                        case rel => exact ⟨f + 1, _, by omega, by omega, by go_num, by have h := OS.out; simp only [List.set_set] at h; exact h, DS.out⟩
                        case measure => simp [intOf] <;> omega
                    · subst hv
                      have hv_base : base = 0 ∨ base = 1 := by omega
                      rcases hv_base with hv | hv
                      · subst hv
                        have hnv : neuL 0 1 0 = 0 := by decide
                        rw [hnv] at DS
                        have OS := Lib.hid (ON.out.set hg f 0)
                        go_wp2_with fail
                        go_roundw
                        case rel => exact ⟨f + 1, _, by omega, by omega, by go_num, OS.out, DS.out⟩
                        case measure => simp [intOf] <;> omega
                      · subst hv
                        have hnv : neuL 0 1 1 = 1 := by decide
                        rw [hnv] at DS
                        have OS := Lib.hid (ON.out.set hg f 1)
                        go_wp2_with fail
                        go_roundw
                        case rel => exact ⟨f + 1, _, by omega, by omega, by go_num, OS.out, DS.out⟩
                        case measure => simp [intOf] <;> omega
                    · subst hv
                      have hv_base : base = 0 ∨ base = 1 := by omega
                      rcases hv_base with hv | hv
                      · subst hv
                        have hnv : neuL 0 2 0 = 0 := by decide
                        rw [hnv] at DS
                        have OS := Lib.hid (ON.out.set hg f 0)
                        go_wp2_with fail
                        go_roundw
                        case rel => exact ⟨f + 1, _, by omega, by omega, by go_num, OS.out, DS.out⟩
                        case measure => simp [intOf] <;> omega
                      · subst hv
                        have hnv : neuL 0 2 1 = 2 := by decide
                        rw [hnv] at DS
                        have OS := Lib.hid (((ON.out.set hg f 1).set hg f 0).set hg f 2)
                        go_wp2_with fail
                        go_roundw
                        case rel => exact ⟨f + 1, _, by omega, by omega, by go_num, by have h := OS.out; simp only [List.set_set] at h; exact h, DS.out⟩
                        case measure => simp [intOf] <;> omega
                  · subst hv
                    have hv_A : A = 0 ∨ A = 1 ∨ A = 2 := by omega
                    rcases hv_A with hv | hv | hv
                    · subst hv
                      have hv_base : base = 0 ∨ base = 1 := by omega
                      rcases hv_base with hv | hv
                      · subst hv
                        have hnv : neuL 1 0 0 = 0 := by decide
                        rw [hnv] at DS
                        have OS := Lib.hid (ON.out.set hg f 0)
                        go_wp2_with fail
                        go_roundw
                        case rel => exact ⟨f + 1, _, by omega, by omega, by go_num, OS.out, DS.out⟩
                        case measure => simp [intOf] <;> omega
                      · subst hv
                        have hnv : neuL 1 0 1 = 1 := by decide
                        rw [hnv] at DS
                        have OS := Lib.hid (ON.out.set hg f 1)
                        go_wp2_with fail
                        go_roundw
                        case rel => exact ⟨f + 1, _, by omega, by omega, by go_num, OS.out, DS.out⟩
                        case measure => simp [intOf] <;> omega
                    · subst hv
                      have hv_base : base = 0 ∨ base = 1 := by omega
                      rcases hv_base with hv | hv
                      · subst hv
                        have hnv : neuL 1 1 0 = 1 := by decide
                        rw [hnv] at DS
                        have OS := Lib.hid ((ON.out.set hg f 0).set hg f 1)
                        go_wp2_with fail
                        go_roundw
                        case rel => exact ⟨f + 1, _, by omega, by omega, by go_num, by have h := OS.out; simp only [List.set_set] at h; exact h, DS.out⟩
                        case measure => simp [intOf] <;> omega
                      · subst hv
                        have hnv : neuL 1 1 1 = 1 := by decide
                        rw [hnv] at DS
                        have OS := Lib.hid (ON.out.set hg f 1)
                        go_wp2_with fail
                        go_roundw
                        case rel => exact ⟨f + 1, _, by omega, by omega, by go_num, OS.out, DS.out⟩
                        case measure => simp [intOf] <;> omega
                    · subst hv
                      have hv_base : base = 0 ∨ base = 1 := by omega
                      rcases hv_base with hv | hv
                      · subst hv
                        have hnv : neuL 1 2 0 = 0 := by decide
                        rw [hnv] at DS
                        have OS := Lib.hid (ON.out.set hg f 0)
                        go_wp2_with fail
                        go_roundw
                        case rel => exact ⟨f + 1, _, by omega, by omega, by go_num, OS.out, DS.out⟩
                        case measure => simp [intOf] <;> omega
                      · subst hv
                        have hnv : neuL 1 2 1 = 1 := by decide
                        rw [hnv] at DS
                        have OS := Lib.hid (ON.out.set hg f 1)
                        go_wp2_with fail
                        go_roundw
                        case rel => exact ⟨f + 1, _, by omega, by omega, by go_num, OS.out, DS.out⟩
                        case measure => simp [intOf] <;> omega
                  · subst hv
                    have hv_A : A = 0 ∨ A = 1 ∨ A = 2 := by omega
                    rcases hv_A with hv | hv | hv
                    · subst hv
                      have hv_base : base = 0 ∨ base = 1 := by omega
                      rcases hv_base with hv | hv
                      · subst hv
                        have hnv : neuL 2 0 0 = 0 := by decide
                        rw [hnv] at DS
                        have OS := Lib.hid (ON.out.set hg f 0)
                        go_wp2_with fail
                        go_roundw
                        case rel => exact ⟨f + 1, _, by omega, by omega, by go_num, OS.out, DS.out⟩
                        case measure => simp [intOf] <;> omega
                      · subst hv
                        have hnv : neuL 2 0 1 = 2 := by decide
                        rw [hnv] at DS
                        have OS := Lib.hid (((ON.out.set hg f 1).set hg f 0).set hg f 2)
                        go_wp2_with fail
                        go_roundw
                        case rel => exact ⟨f + 1, _, by omega, by omega, by go_num, by have h := OS.out; simp only [List.set_set] at h; exact h, DS.out⟩
                        case measure => simp [intOf] <;> omega
                    · subst hv
                      have hv_base : base = 0 ∨ base = 1 := by omega
                      rcases hv_base with hv | hv
                      · subst hv
                        have hnv : neuL 2 1 0 = 0 := by decide
                        rw [hnv] at DS
                        have OS := Lib.hid (ON.out.set hg f 0)
                        go_wp2_with fail
                        go_roundw
                        case rel => exact ⟨f + 1, _, by omega, by omega, by go_num, OS.out, DS.out⟩
                        case measure => simp [intOf] <;> omega
                      · subst hv
                        have hnv : neuL 2 1 1 = 1 := by decide
                        rw [hnv] at DS
                        have OS := Lib.hid (ON.out.set hg f 1)
                        go_wp2_with fail
                        go_roundw
                        case rel => exact ⟨f + 1, _, by omega, by omega, by go_num, OS.out, DS.out⟩
                        case measure => simp [intOf] <;> omega
                    · subst hv
                      have hv_base : base = 0 ∨ base = 1 := by omega
                      rcases hv_base with hv | hv
                      · subst hv
                        have hnv : neuL 2 2 0 = 0 := by decide
                        rw [hnv] at DS
                        have OS := Lib.hid (ON.out.set hg f 0)
                        go_wp2_with fail
                        go_roundw
                        case rel => exact ⟨f + 1, _, by omega, by omega, by go_num, OS.out, DS.out⟩
                        case measure => simp [intOf] <;> omega
                      · subst hv
                        have hnv : neuL 2 2 1 = 2 := by decide
                        rw [hnv] at DS
                        have OS := Lib.hid (((ON.out.set hg f 1).set hg f 0).set hg f 2)
                        go_wp2_with fail
                        go_roundw
                        case rel => exact ⟨f + 1, _, by omega, by omega, by go_num, by have h := OS.out; simp only [List.set_set] at h; exact h, DS.out⟩
                        case measure => simp [intOf] <;> omega
                case neg =>
                  obtain rfl : f = t := by omega
                  have OE := Lib.hid hown
                  have DE := Lib.hid hdn
                  clear hown hdn
                  go_wp2_with fail
                  go_roundw
                  case rel => exact ⟨f, ys, ht, rfl, OE.out, DE.out, .inr (.inr (.inr HT0.out))⟩
                  case measure => simp [intOf] <;> omega
set_option maxHeartbeats 4000000 in
theorem specLevels_any (s : ByteArray) (base : Int) (w : World) (hs : s.size ≤ 1048576) :
    Calls Try.prog 12 #[.string s, .int .i64 base] w (LevRes s base w) := by
  have HT := Lib.hid (specText_any s w (by omega))
  cases hv : vText s
  · rw [hv] at HT
    have HE := Lib.hid (lvls_text (base := base) hv)
    clear hv
    go_enter Try.func12, Try.ntmps12
    go_wp2_with (go_at_call 25; refine HT.out.mono ?_; rintro e w' ⟨rfl, rfl⟩)
    go_ret
    exact LevRes.no HE.out
  rw [hv] at HT
  have hs60 := vText_size hv
  cases hbb : inB 0 1 base
  · have HE := Lib.hid (lvls_base (s := s) hbb)
    have HB := Lib.hid hbb
    clear hbb hv
    go_enter Try.func12, Try.ntmps12
    go_wp2_with (first | (go_at_call 25; refine HT.out.mono ?_; rintro e w' ⟨rfl, rfl⟩) | (go_at_call 26; refine (inRange_any _ _ _ _ HB.out _).mono ?_; rintro e w' ⟨rfl, rfl⟩))
    go_ret
    exact LevRes.no HE.out
  have HB := Lib.hid hbb
  have hb01 := inB_iff.1 hbb
  have HS := Lib.hid (specLevels0_any s base w hs60 hb01.1 hb01.2 (lvls_ok hv hbb))
  clear hbb hv hb01
  go_enter Try.func12, Try.ntmps12
  go_wp2_with (first | (go_at_call 25; refine HT.out.mono ?_; rintro e w' ⟨rfl, rfl⟩) | (go_at_call 26; refine (inRange_any _ _ _ _ HB.out _).mono ?_; rintro e w' ⟨rfl, rfl⟩) | (go_at_call 27; refine HS.out.mono ?_; rintro e w1 ⟨A, k, c, rfl, hk, ho, hb⟩; have R := Lib.hid (And.intro hk (And.intro ho hb)); clear hk ho hb))
  go_ret
  exact ⟨A, k, c, rfl, R.out.1, R.out.2.1, R.out.2.2⟩
end Go.Proofs.Ytonkminebememaa
