/-
  Contracts of the small functions of levels of characters, and of LevelsOf, the program's and the reference's.
-/
import Derived.Test.YtonkminebememaaLevPlain
import Derived.Test.YtonkminebememaaInts
import Derived.Test.YtonkminebememaaRange
namespace Go.Proofs.Ytonkminebememaa
open Go.RowKit
set_option linter.unusedVariables false

theorem own_headI {w : World} {base : Nat} {E : TypeId} {size : Nat} {L : Option Addr} {n c : Nat} {xs : List Value} (h : w.ownsRow base E size (.slice L n c) n xs) (hn : 0 < n) :
    ∃ g, L = some ⟨g, 0, none⟩ ∧ base ≤ g ∧ n ≤ c := by
  rcases h.2 with ⟨_, h1⟩ | ⟨g', cap, cur, hv, hg, hh, hn', hc, hz, hx⟩
  · omega
  · injection hv with h1 h2 h3
    subst h1; subst h3
    exact ⟨g', rfl, hg, hn'⟩

/-- A character's number and its class, zone by zone. -/
def Zone (x : Int) (k : Nat) : Prop :=
  0 ≤ x ∧ x ≤ 255 ∧ ((x < 48 ∧ k = 0) ∨ (48 ≤ x ∧ x ≤ 57 ∧ k = 3) ∨ (57 < x ∧ x < 65 ∧ k = 0) ∨ (65 ≤ x ∧ x ≤ 90 ∧ k = 2) ∨ (90 < x ∧ x < 97 ∧ k = 0) ∨ (97 ≤ x ∧ x ≤ 122 ∧ k = 1) ∨ (122 < x ∧ k = 0))
theorem zone_of (c : UInt8) : Zone (c.toNat : Int) (cls c) := by
  have h : c.toNat < 256 := UInt8.toNat_lt c
  unfold Zone cls
  refine ⟨by omega, by omega, ?_⟩
  split
  · omega
  · split
    · omega
    · split <;> omega

set_option maxHeartbeats 1000000 in
theorem isLower_z (x : Int) (k : Nat) (hz : Zone x k) (w : World) :
    Calls Try.prog 22 #[.int .u8 x] w fun e w' => e = .returned (.bool (decide (k = 1))) ∧ w = w' := by
  obtain ⟨h0, h1, hz⟩ := hz
  rcases hz with ⟨a, rfl⟩ | ⟨a, b, rfl⟩ | ⟨a, b, rfl⟩ | ⟨a, b, rfl⟩ | ⟨a, b, rfl⟩ | ⟨a, b, rfl⟩ | ⟨a, rfl⟩
  all_goals
    go_enter Try.func22, Try.ntmps22
    go_wp2
    go_ret
    exact ⟨ret_bool (by first | rfl | (simp; done) | (simp; omega)), rfl⟩
set_option maxHeartbeats 1000000 in
theorem isNeutral_z (x : Int) (k : Nat) (hz : Zone x k) (w : World) :
    Calls Try.prog 23 #[.int .u8 x] w fun e w' => e = .returned (.bool (decide (k = 0))) ∧ w = w' := by
  have HL := Lib.hid (fun w => isLower_z x k hz w)
  obtain ⟨h0, h1, hz⟩ := hz
  rcases hz with ⟨a, rfl⟩ | ⟨a, b, rfl⟩ | ⟨a, b, rfl⟩ | ⟨a, b, rfl⟩ | ⟨a, b, rfl⟩ | ⟨a, b, rfl⟩ | ⟨a, rfl⟩
  all_goals
    go_enter Try.func23, Try.ntmps23
    go_wp2_with (go_at_call 22; refine (HL.out _).mono ?_; rintro e w' ⟨rfl, rfl⟩)
    go_ret
    exact ⟨ret_bool (by first | rfl | (simp; done) | (simp; omega)), rfl⟩
set_option maxHeartbeats 1000000 in
theorem classOf_z (x : Int) (k : Nat) (hz : Zone x k) (w : World) :
    Calls Try.prog 35 #[.int .u8 x] w fun e w' => e = .returned (.int .i64 (k : Int)) ∧ w = w' := by
  obtain ⟨h0, h1, hz⟩ := hz
  rcases hz with ⟨a, rfl⟩ | ⟨a, b, rfl⟩ | ⟨a, b, rfl⟩ | ⟨a, b, rfl⟩ | ⟨a, b, rfl⟩ | ⟨a, b, rfl⟩ | ⟨a, rfl⟩
  all_goals
    go_enter Try.func35, Try.ntmps35
    go_wp2
    go_ret
    exact ⟨rfl, rfl⟩
def lev0k (k : Nat) (base : Int) : Int := if k = 2 then 1 else if k = 1 ∨ k = 3 then 2 * base else base
set_option maxHeartbeats 1000000 in
theorem levelOf_any (k : Nat) (base : Int) (hk : k ≤ 3) (h0 : 0 ≤ base) (h1 : base ≤ 1) (w : World) :
    Calls Try.prog 34 #[.int .i64 (k : Int), .int .i64 base] w fun e w' => e = .returned (.int .i64 (lev0k k base)) ∧ w = w' := by
  have hc : k = 0 ∨ k = 1 ∨ k = 2 ∨ k = 3 := by omega
  rcases hc with rfl | rfl | rfl | rfl
  all_goals
    go_enter Try.func34, Try.ntmps34
    go_wp2
    go_ret
    exact ⟨rfl, rfl⟩
set_option maxHeartbeats 2000000 in
theorem neutralLevel_any (b a base : Int) (hb0 : 0 ≤ b) (hb1 : b ≤ 2) (ha0 : 0 ≤ a) (ha1 : a ≤ 2) (h0 : 0 ≤ base) (h1 : base ≤ 1) (w : World) :
    Calls Try.prog 24 #[.int .i64 b, .int .i64 a, .int .i64 base] w fun e w' => e = .returned (.int .i64 (neuL b a base)) ∧ w = w' := by
  have hb : b = 0 ∨ b = 1 ∨ b = 2 := by omega
  have ha : a = 0 ∨ a = 1 ∨ a = 2 := by omega
  have hc : base = 0 ∨ base = 1 := by omega
  clear hb0 hb1 ha0 ha1 h0 h1
  rcases hb with rfl | rfl | rfl <;> rcases ha with rfl | rfl | rfl <;> rcases hc with rfl | rfl
  all_goals
    go_enter Try.func24, Try.ntmps24
    go_wp2
    go_ret
    exact ⟨rfl, rfl⟩

/-- The levels of a text, in new memory. -/
def LevRes (s : ByteArray) (base : Int) (w : World) (e : Ending) (w' : World) : Prop :=
  ∃ A k c, e = .returned (.slice A k c) ∧ k = (lvls s base).length ∧ w'.ownsRow w.heap.size 3 1 (.slice A k c) k (ints (lvls s base)) ∧ Below w.heap.size w w'
theorem LevRes.no {s : ByteArray} {base : Int} {w : World} (h : lvls s base = []) : LevRes s base w (.returned (.slice none 0 0)) w :=
  ⟨none, 0, 0, rfl, by rw [h]; rfl, by rw [h]; exact World.ownsRow_nil _ _ _ _, Below.refl _ _⟩

/-- A row of the call's own, of as many numbers as the text has characters. -/
def OwnN (w : World) (L : Option Addr) (n d : Nat) (xs : List Int) (wr : World) : Prop :=
  xs.length = n ∧ wr.ownsRow w.heap.size 3 1 (.slice L n d) n (ints xs) ∧ Below w.heap.size w wr
theorem ints_set (xs : List Int) (k : Nat) (v : Int) : (ints xs).set k (.int .i64 v) = ints (xs.set k v) := by simp [ints, List.map_set]
theorem OwnN.set {w wr : World} {g n d : Nat} {xs : List Int} (h : OwnN w (some ⟨g, 0, none⟩) n d xs wr) (hg : w.heap.size ≤ g) (k : Nat) (v : Int) : OwnN w (some ⟨g, 0, none⟩) n d (xs.set k v) (wr.setCell ⟨g, k, none⟩ (.int .i64 v)) := by
  obtain ⟨h1, h2, h3⟩ := h
  have h4 := (h2.stored k (.int .i64 v)).1
  rw [ints_set] at h4
  exact ⟨by simpa using h1, h4, h3.setCell (p := ⟨g, k, none⟩) hg _⟩
theorem OwnN.at {w wr : World} {g n d : Nat} {xs : List Int} (h : OwnN w (some ⟨g, 0, none⟩) n d xs wr) {k : Nat} {v : Int} (hk : k < n) (hv : xs[k]? = some v) : wr.cell? ⟨g, k, none⟩ = some (.int .i64 v) := by
  rw [h.2.1.cellAt k (by omega), ints, List.getElem?_map, hv]; rfl

def L1Rel (s : ByteArray) (base : Int) (w : World) (i up : Value) (wr : World) : Prop :=
  ∃ (k : Nat) (xs : List Int), k ≤ s.size ∧ i = .int .i64 (k : Int) ∧ up = .bool (upAt s k) ∧ OwnN w (some ⟨w.heap.size, 0, none⟩) s.size s.size xs wr ∧ Pass1 s base k xs
def L3Rel (s : ByteArray) (base : Int) (w : World) (L : Option Addr) (d : Nat) (i : Value) (wr : World) : Prop :=
  ∃ (k : Nat) (xs : List Int), k ≤ s.size ∧ i = .int .i64 (k : Int) ∧ OwnN w L s.size d xs wr ∧ Done s base k xs ∧ (k = 0 ∨ clsAt s (k - 1) ≠ 0 ∨ k = s.size ∨ clsAt s k ≠ 0)
def L4Rel (s : ByteArray) (k : Nat) (u : World) (i : Value) (wr : World) : Prop :=
  ∃ t : Nat, k ≤ t ∧ t ≤ s.size ∧ i = .int .i64 (t : Int) ∧ (∀ j, k ≤ j → j < t → clsAt s j = 0) ∧ wr = u
def L5Rel (s : ByteArray) (base : Int) (w : World) (L : Option Addr) (d k t : Nat) (i : Value) (wr : World) : Prop :=
  ∃ (f : Nat) (xs : List Int), k ≤ f ∧ f ≤ t ∧ i = .int .i64 (f : Int) ∧ OwnN w L s.size d xs wr ∧ Done s base f xs

theorem upAt_next {s : ByteArray} {k : Nat} (h : clsAt s k = 1) : upAt s (k + 1) = false := by simp [upAt, h]
theorem upAt_next2 {s : ByteArray} {k : Nat} (h : clsAt s k = 2) : upAt s (k + 1) = true := by simp [upAt, h]
theorem upAt_next3 {s : ByteArray} {k : Nat} (h : clsAt s k ≠ 1) (h' : clsAt s k ≠ 2) : upAt s (k + 1) = upAt s k := by simp [upAt, h, h']
theorem strL_1 {s : ByteArray} {base : Int} {k : Nat} (h : clsAt s k = 1) : 2 * base = strL s base k := by simp [strL, h]
theorem strL_2 {s : ByteArray} {base : Int} {k : Nat} (h : clsAt s k = 2) : 1 = strL s base k := by simp [strL, h]
theorem strL_3 {s : ByteArray} {base : Int} {k : Nat} (h : clsAt s k = 3) (hb : base = 1 ∨ upAt s k = true) : 2 = strL s base k := by simp [strL, h, hb]
theorem strL_3' {s : ByteArray} {base : Int} {k : Nat} (h : clsAt s k = 3) (hb : ¬ base = 1) (hu : upAt s k = false) : strL s base k = 0 := by simp [strL, h, hb, hu]

-- WALKS
theorem neu_no {s : ByteArray} {k : Nat} (hk : k < s.size) (hc : clsAt s k ≠ 0) (w : World) : Calls Try.prog 23 #[.int .u8 (s[k].toNat : Int)] w fun e w' => e = .returned (.bool false) ∧ w = w' := by
  have h := isNeutral_z _ _ (zone_of s[k]) w
  rwa [decide_eq_false (by rw [← clsAt_eq hk]; exact hc)] at h
theorem neu_yes {s : ByteArray} {k : Nat} (hk : k < s.size) (hc : clsAt s k = 0) (w : World) : Calls Try.prog 23 #[.int .u8 (s[k].toNat : Int)] w fun e w' => e = .returned (.bool true) ∧ w = w' := by
  have h := isNeutral_z _ _ (zone_of s[k]) w
  rwa [decide_eq_true (by rw [← clsAt_eq hk]; exact hc)] at h
theorem LevRes.of {s : ByteArray} {base : Int} {w wr : World} {L : Option Addr} {d : Nat} {xs : List Int} (he : lvls s base = levels s base) (h : OwnN w L s.size d xs wr) (hd : Done s base s.size xs) : LevRes s base w (.returned (.slice L s.size d)) wr := by
  have hx := hd.all h.1
  subst hx
  exact ⟨L, s.size, d, rfl, by rw [he, levels_length], by rw [he]; exact h.2.1, h.2.2⟩
/-- The last loop's end: all characters up to t have their levels. -/
theorem L3.next {s : ByteArray} {base : Int} {k t : Nat} (hk : clsAt s k = 0) (hkt : k ≤ t) (ht : t = s.size ∨ clsAt s t ≠ 0) (hks : k < s.size) : k < t := by
  rcases Nat.lt_or_ge k t with h | h
  · exact h
  · obtain rfl : k = t := by omega
    rcases ht with ht | ht
    · omega
    · exact absurd hk ht

set_option maxHeartbeats 16000000 in
set_option maxRecDepth 20000 in
theorem implLevels_any (s : ByteArray) (base : Int) (w : World) (hs : s.size ≤ 1048576) :
    Calls Try.prog 10 #[.string s, .int .i64 base] w (LevRes s base w) := by
  have HT := Lib.hid (implText_any s w (by omega))
  cases hv : vText s
  · rw [hv] at HT
    have HE := Lib.hid (lvls_text (base := base) hv)
    clear hv
    go_enter Try.func10, Try.ntmps10
    go_wp2_with (go_at_call 20; refine HT.out.mono ?_; rintro e w' ⟨rfl, rfl⟩)
    go_ret
    exact LevRes.no HE.out
  rw [hv] at HT
  have hs60 := vText_size hv
  cases hbb : inB 0 1 base
  · have HE := Lib.hid (lvls_base (s := s) hbb)
    have HB := Lib.hid hbb
    clear hbb hv
    go_enter Try.func10, Try.ntmps10
    go_wp2_with (first | (go_at_call 20; refine HT.out.mono ?_; rintro e w' ⟨rfl, rfl⟩) | (go_at_call 21; refine (within_any _ _ _ _ HB.out _).mono ?_; rintro e w' ⟨rfl, rfl⟩))
    go_ret
    exact LevRes.no HE.out
  have HE := Lib.hid (lvls_ok hv hbb)
  have HB := Lib.hid hbb
  have hb01 := inB_iff.1 hbb
  obtain ⟨hb0, hb1⟩ := hb01
  clear hbb hv
  have hmk := run_make_row' (P := Try.prog) 25 3 (.int .i64 0) 8 Try.underlying25 infoInt rfl .i64 .i64 s.size (by omega) (by omega)
  go_enter Try.func10, Try.ntmps10
  go_wp2_with (first | (go_at_call 20; refine HT.out.mono ?_; rintro e w' ⟨rfl, rfl⟩) | (go_at_call 21; refine (within_any _ _ _ _ HB.out _).mono ?_; rintro e w' ⟨rfl, rfl⟩))
  go_loopw [26, 6] (L1Rel s base w) (fun i _ _ => s.size - (intOf i).toNat)
  case atStart =>
    refine ⟨0, List.replicate s.size 0, Nat.zero_le _, rfl, rfl, ⟨by simp, ?_, (Below.refl _ _).alloc (Nat.le_refl _) _⟩, fun j h => absurd h (by omega), fun j h1 h2 => by simp [h2]⟩
    have h := World.ownsRow_lit (base := w.heap.size) (e := 3) (size := 1) w (madeCells #[.int .i64 0] s.size) s.size (Nat.le_refl _) (by unfold maxLen; omega) (by rw [size_madeCells]; omega)
    rw [toList_madeCells_one] at h
    simpa [ints] using h
  case round =>
    obtain ⟨k, xs, hk, rfl, rfl, hown, hps⟩ := hrel
    clear hmk HT
    by_cases hlt : k < s.size
    case pos =>
      have hlt' : (k : Int) < (s.size : Int) := by omega
      have hz := zone_of s[k]
      have HC : Hid (clsAt s k = cls s[k]) := clsAt_eq hlt
      have HZ := Lib.hid hz
      have hf := hown.2.1.frozenAt k
      have hcz := hown.at hlt (hps.2 k (Nat.le_refl _) hlt)
      have ON := Lib.hid hown
      have PS := Lib.hid hps
      clear hown hps
      obtain ⟨hx0, hx1, hz⟩ := hz
      rcases hz with ⟨a, hz⟩ | ⟨a, a', hz⟩ | ⟨a, a', hz⟩ | ⟨a, a', hz⟩ | ⟨a, a', hz⟩ | ⟨a, a', hz⟩ | ⟨a, hz⟩
      case inl =>
        have hc : clsAt s k = 0 := HC.out.trans hz
        have HS := Lib.hid (PS.out.keep hlt (fun h => absurd hc h))
        have HU := Lib.hid (upAt_next3 (s := s) (k := k) (by omega) (by omega))
        rw [hz] at HZ
        clear hz hc
        go_wp2_with (go_at_call 22; refine (isLower_z _ _ HZ.out _).mono ?_; rintro e w' ⟨rfl, rfl⟩)
        go_roundw
        case rel => exact ⟨k + 1, _, by omega, by go_num, by rw [HU.out], ON.out, HS.out⟩
        case measure => simp [intOf] <;> omega
      case inr.inl =>
        have hc : clsAt s k = 3 := HC.out.trans hz
        have HU := Lib.hid (upAt_next3 (s := s) (k := k) (by omega) (by omega))
        by_cases hb : base = 1
        case pos =>
          subst hb
          have HS := Lib.hid (PS.out.set ON.out.1 hlt (strL_3 hc (.inl rfl)))
          have OS := Lib.hid (ON.out.set (Nat.le_refl _) k 2)
          rw [hz] at HZ
          clear hz hc
          go_wp2_with (go_at_call 22; refine (isLower_z _ _ HZ.out _).mono ?_; rintro e w' ⟨rfl, rfl⟩)
          go_roundw
          case rel => exact ⟨k + 1, _, by omega, by go_num, by rw [HU.out], OS.out, HS.out⟩
          case measure => simp [intOf] <;> omega
        have hb' : (base == 1) = false := by simpa using hb
        obtain ⟨u, hu⟩ : ∃ u, u = upAt s k := ⟨_, rfl⟩
        rw [← hu] at HU ⊢
        cases u
        case true =>
          have HS := Lib.hid (PS.out.set ON.out.1 hlt (strL_3 (base := base) hc (.inr hu.symm)))
          have OS := Lib.hid (ON.out.set (Nat.le_refl _) k 2)
          clear hu hb
          rw [hz] at HZ
          clear hz hc
          go_wp2_with (go_at_call 22; refine (isLower_z _ _ HZ.out _).mono ?_; rintro e w' ⟨rfl, rfl⟩)
          go_roundw
          case rel => exact ⟨k + 1, _, by omega, by go_num, by rw [HU.out], OS.out, HS.out⟩
          case measure => simp [intOf] <;> omega
        case false =>
          have HS := Lib.hid (PS.out.keep hlt (fun _ => strL_3' hc hb hu.symm))
          clear hu hb
          rw [hz] at HZ
          clear hz hc
          go_wp2_with (go_at_call 22; refine (isLower_z _ _ HZ.out _).mono ?_; rintro e w' ⟨rfl, rfl⟩)
          go_roundw
          case rel => exact ⟨k + 1, _, by omega, by go_num, by rw [HU.out], ON.out, HS.out⟩
          case measure => simp [intOf] <;> omega
      case inr.inr.inl =>
        have hc : clsAt s k = 0 := HC.out.trans hz
        have HS := Lib.hid (PS.out.keep hlt (fun h => absurd hc h))
        have HU := Lib.hid (upAt_next3 (s := s) (k := k) (by omega) (by omega))
        rw [hz] at HZ
        clear hz hc
        go_wp2_with (go_at_call 22; refine (isLower_z _ _ HZ.out _).mono ?_; rintro e w' ⟨rfl, rfl⟩)
        go_roundw
        case rel => exact ⟨k + 1, _, by omega, by go_num, by rw [HU.out], ON.out, HS.out⟩
        case measure => simp [intOf] <;> omega
      case inr.inr.inr.inl =>
        have hc : clsAt s k = 2 := HC.out.trans hz
        have HS := Lib.hid (PS.out.set ON.out.1 hlt (strL_2 (base := base) hc))
        have OS := Lib.hid (ON.out.set (Nat.le_refl _) k 1)
        have HU := Lib.hid (upAt_next2 (s := s) (k := k) hc)
        rw [hz] at HZ
        clear hz hc
        go_wp2_with (go_at_call 22; refine (isLower_z _ _ HZ.out _).mono ?_; rintro e w' ⟨rfl, rfl⟩)
        go_roundw
        case rel => exact ⟨k + 1, _, by omega, by go_num, by rw [HU.out], OS.out, HS.out⟩
        case measure => simp [intOf] <;> omega
      case inr.inr.inr.inr.inl =>
        have hc : clsAt s k = 0 := HC.out.trans hz
        have HS := Lib.hid (PS.out.keep hlt (fun h => absurd hc h))
        have HU := Lib.hid (upAt_next3 (s := s) (k := k) (by omega) (by omega))
        rw [hz] at HZ
        clear hz hc
        go_wp2_with (go_at_call 22; refine (isLower_z _ _ HZ.out _).mono ?_; rintro e w' ⟨rfl, rfl⟩)
        go_roundw
        case rel => exact ⟨k + 1, _, by omega, by go_num, by rw [HU.out], ON.out, HS.out⟩
        case measure => simp [intOf] <;> omega
      case inr.inr.inr.inr.inr.inl =>
        have hc : clsAt s k = 1 := HC.out.trans hz
        have HS := Lib.hid (PS.out.set ON.out.1 hlt (strL_1 (base := base) hc))
        have OS := Lib.hid (ON.out.set (Nat.le_refl _) k (2 * base))
        have HU := Lib.hid (upAt_next (s := s) (k := k) hc)
        rw [hz] at HZ
        clear hz hc
        go_wp2_with (go_at_call 22; refine (isLower_z _ _ HZ.out _).mono ?_; rintro e w' ⟨rfl, rfl⟩)
        go_roundw
        case rel => exact ⟨k + 1, _, by omega, by go_num, by rw [HU.out], OS.out, HS.out⟩
        case measure => simp [intOf] <;> omega
      case inr.inr.inr.inr.inr.inr =>
        have hc : clsAt s k = 0 := HC.out.trans hz
        have HS := Lib.hid (PS.out.keep hlt (fun h => absurd hc h))
        have HU := Lib.hid (upAt_next3 (s := s) (k := k) (by omega) (by omega))
        rw [hz] at HZ
        clear hz hc
        go_wp2_with (go_at_call 22; refine (isLower_z _ _ HZ.out _).mono ?_; rintro e w' ⟨rfl, rfl⟩)
        go_roundw
        case rel => exact ⟨k + 1, _, by omega, by go_num, by rw [HU.out], ON.out, HS.out⟩
        case measure => simp [intOf] <;> omega
    case neg =>
      obtain rfl : k = s.size := by omega
      have O1 := Lib.hid hown
      have D1 := Lib.hid hps.done
      clear hown hps
      go_wp2_with fail
      go_loopw [9] (L3Rel s base w (some ⟨w.heap.size, 0, none⟩) s.size) (fun i _ => s.size - (intOf i).toNat)
      case atStart => exact ⟨0, xs, Nat.zero_le _, rfl, O1.out, D1.out, .inl rfl⟩
      case round =>
        clear O1 D1 xs
        obtain ⟨k, xs, hk, rfl, hown, hdn, hpv⟩ := hrel
        have O2 := Lib.hid hown
        have D2 := Lib.hid hdn
        have PV := Lib.hid hpv
        clear hown hdn hpv
        by_cases hlt : k < s.size
        case neg =>
          obtain rfl : k = s.size := by omega
          go_wp2_with fail
          go_ret
          exact LevRes.of HE.out O2.out D2.out
        have hlt' : (k : Int) < (s.size : Int) := by omega
        by_cases hc : clsAt s k = 0
        case neg =>
          have HN := Lib.hid (neu_no hlt hc)
          have DS := Lib.hid (D2.out.skip hc)
          have HCk := Lib.hid hc
          clear hc
          go_wp2_with (go_at_call 23; refine (HN.out _).mono ?_; rintro e w' ⟨rfl, rfl⟩)
          go_roundw
          case rel => exact ⟨k + 1, xs, by omega, by go_num, O2.out, DS.out, .inr (.inl HCk.out)⟩
          case measure => simp [intOf] <;> omega
        have HN := Lib.hid (neu_yes hlt hc)
        have HCk := Lib.hid hc
        have HBF : Hid (0 < k → levAt s base (k - 1) = bef s base k) := fun h => by
          rcases PV.out with h1 | h1 | h1 | h1
          · omega
          · have h2 := bef_prev base h1
            rw [show k - 1 + 1 = k from by omega] at h2
            exact h2.symm
          · omega
          · exact absurd hc h1
        clear hc
        obtain ⟨u, hu⟩ : ∃ u, u = wr := ⟨_, rfl⟩
        subst hu
        go_wp2_with (go_at_call 23; refine (HN.out _).mono ?_; rintro e w' ⟨rfl, rfl⟩)
        clear HN
        go_loopw [10] (L4Rel s k u) (fun i _ => s.size - (intOf i).toNat)
        case atStart => exact ⟨k, Nat.le_refl _, by omega, rfl, fun j h1 h2 => absurd h1 (by omega), rfl⟩
        case round =>
          obtain ⟨t, hkt, ht, rfl, hnn, rfl⟩ := hrel
          have NN := Lib.hid hnn
          clear hnn
          by_cases htl : t < s.size
          case neg =>
            have HTS : Hid (t = s.size) := by show t = s.size; omega
            by_cases hk0 : k = 0
            case pos =>
              subst hk0
              obtain ⟨B, hB⟩ : ∃ B, B = bef s base 0 := ⟨_, rfl⟩
              have hBb : base = B := by rw [hB]; rfl
              have hBd := bef_bd (s := s) hb0 hb1 0
              rw [← hB] at hBd
              obtain ⟨hB0, hB1⟩ := hBd
              obtain ⟨A, hA⟩ : ∃ A, A = aft s base t := ⟨_, rfl⟩
              have hAd := aft_bd (s := s) hb0 hb1 t
              rw [← hA] at hAd
              obtain ⟨hA0, hA1⟩ := hAd
              have hAb : base = A := by rw [hA, HTS.out, aft_end]
              have HNX := Lib.hid (fun f (h1 : 0 ≤ f) (h2 : f < t) => levAt_neu base h1 h2 ht NN.out)
              rw [← hB, ← hA] at HNX
              have HKT := Lib.hid (L3.next (base := base) (t := t) HCk.out hkt (.inl HTS.out) hlt)
              clear hB hA
              go_wp2_with fail
              subst hBb
              subst hAb
              go_loopw [9] (L5Rel s base w (some ⟨w.heap.size, 0, none⟩) s.size 0 t) (fun i _ => t - (intOf i).toNat)
              case atStart => exact ⟨0, xs, Nat.le_refl _, hkt, rfl, O2.out, D2.out⟩
              case round =>
                obtain ⟨f, ys, hf1, hf2, rfl, hown, hdn⟩ := hrel
                by_cases hft : f < t
                case pos =>
                  have hft' : (f : Int) < (t : Int) := by omega
                  have hfs : (f : Int) < (s.size : Int) := by omega
                  have hf0 : (0 : Int) ≤ (f : Int) := by omega
                  have hfz := hown.2.1.frozenAt f
                  have hlen := hown.1
                  obtain ⟨yv, hyv⟩ : ∃ y, ys[f]? = some y := ⟨ys[f]'(by omega), List.getElem?_eq_getElem _⟩
                  have hcz := hown.at (by omega) hyv
                  have OS := Lib.hid (hown.set (Nat.le_refl _) f (neuL base base base))
                  have DS := Lib.hid (hdn.set hlen (HNX.out f hf1 hft).symm)
                  clear hown hdn hlen hyv
                  go_wp2_with (go_at_call 24; refine (neutralLevel_any _ _ _ hB0 hB1 hA0 hA1 hb0 hb1 _).mono ?_; rintro e w' ⟨rfl, rfl⟩)
                  go_roundw
                  case rel => exact ⟨f + 1, _, by omega, by omega, by go_num, OS.out, DS.out⟩
                  case measure => simp [intOf] <;> omega
                case neg =>
                  obtain rfl : f = t := by omega
                  have OE := Lib.hid hown
                  have DE := Lib.hid hdn
                  have hkf := HKT.out
                  clear hown hdn
                  go_wp2_with fail
                  go_roundw
                  case rel => exact ⟨f, ys, ht, rfl, OE.out, DE.out, .inr (.inr (.inl HTS.out))⟩
                  case measure => simp [intOf] <;> omega
            have hkp : (0 : Int) < (k : Int) := by omega
            have hkp' : 0 < k := by omega
            have hk10 : (0 : Int) ≤ (k : Int) - 1 := by omega
            have hk11 : (k : Int) - 1 < (s.size : Int) := by omega
            have hkt1 : ((k : Int) - 1).toNat = k - 1 := by omega
            obtain ⟨B, hB⟩ : ∃ B, B = bef s base k := ⟨_, rfl⟩
            have hcB := O2.out.at (k := k - 1) (v := B) (by omega) (by rw [D2.out (k - 1) (by omega) (.inl (by omega)), hB, HBF.out hkp'])
            have hBd := bef_bd (s := s) hb0 hb1 k
            rw [← hB] at hBd
            obtain ⟨hB0, hB1⟩ := hBd
            obtain ⟨A, hA⟩ : ∃ A, A = aft s base t := ⟨_, rfl⟩
            have hAd := aft_bd (s := s) hb0 hb1 t
            rw [← hA] at hAd
            obtain ⟨hA0, hA1⟩ := hAd
            have hAb : base = A := by rw [hA, HTS.out, aft_end]
            have HNX := Lib.hid (fun f (h1 : k ≤ f) (h2 : f < t) => levAt_neu base h1 h2 ht NN.out)
            rw [← hB, ← hA] at HNX
            have HKT := Lib.hid (L3.next (base := base) (t := t) HCk.out hkt (.inl HTS.out) hlt)
            clear hB hA
            go_wp2_with fail
            subst hAb
            go_loopw [9] (L5Rel s base w (some ⟨w.heap.size, 0, none⟩) s.size k t) (fun i _ => t - (intOf i).toNat)
            case atStart => exact ⟨k, xs, Nat.le_refl _, hkt, rfl, O2.out, D2.out⟩
            case round =>
              obtain ⟨f, ys, hf1, hf2, rfl, hown, hdn⟩ := hrel
              by_cases hft : f < t
              case pos =>
                have hft' : (f : Int) < (t : Int) := by omega
                have hfs : (f : Int) < (s.size : Int) := by omega
                have hf0 : (0 : Int) ≤ (f : Int) := by omega
                have hfz := hown.2.1.frozenAt f
                have hlen := hown.1
                obtain ⟨yv, hyv⟩ : ∃ y, ys[f]? = some y := ⟨ys[f]'(by omega), List.getElem?_eq_getElem _⟩
                have hcz := hown.at (by omega) hyv
                have OS := Lib.hid (hown.set (Nat.le_refl _) f (neuL B base base))
                have DS := Lib.hid (hdn.set hlen (HNX.out f hf1 hft).symm)
                clear hown hdn hlen hyv
                go_wp2_with (go_at_call 24; refine (neutralLevel_any _ _ _ hB0 hB1 hA0 hA1 hb0 hb1 _).mono ?_; rintro e w' ⟨rfl, rfl⟩)
                go_roundw
                case rel => exact ⟨f + 1, _, by omega, by omega, by go_num, OS.out, DS.out⟩
                case measure => simp [intOf] <;> omega
              case neg =>
                obtain rfl : f = t := by omega
                have OE := Lib.hid hown
                have DE := Lib.hid hdn
                have hkf := HKT.out
                clear hown hdn
                go_wp2_with fail
                go_roundw
                case rel => exact ⟨f, ys, ht, rfl, OE.out, DE.out, .inr (.inr (.inl HTS.out))⟩
                case measure => simp [intOf] <;> omega
          have htl' : (t : Int) < (s.size : Int) := by omega
          by_cases hct : clsAt s t = 0
          case pos =>
            have HT1 := Lib.hid (neu_yes htl hct)
            have NN2 : Hid (∀ j, k ≤ j → j < t + 1 → clsAt s j = 0) := fun j h1 h2 => by
              rcases Nat.lt_or_ge j t with h | h
              · exact NN.out j h1 h
              · obtain rfl : j = t := by omega
                exact hct
            clear hct
            go_wp2_with (go_at_call 23; refine (HT1.out _).mono ?_; rintro e w' ⟨rfl, rfl⟩)
            go_roundw
            case rel => exact ⟨t + 1, by omega, by omega, by go_num, NN2.out, rfl⟩
            case measure => simp [intOf] <;> omega
          have HT0 := Lib.hid hct
          have HT1 := Lib.hid (neu_no htl hct)
          clear hct
          by_cases hk0 : k = 0
          case pos =>
            subst hk0
            obtain ⟨B, hB⟩ : ∃ B, B = bef s base 0 := ⟨_, rfl⟩
            have hBb : base = B := by rw [hB]; rfl
            have hBd := bef_bd (s := s) hb0 hb1 0
            rw [← hB] at hBd
            obtain ⟨hB0, hB1⟩ := hBd
            obtain ⟨A, hA⟩ : ∃ A, A = aft s base t := ⟨_, rfl⟩
            have hAd := aft_bd (s := s) hb0 hb1 t
            rw [← hA] at hAd
            obtain ⟨hA0, hA1⟩ := hAd
            have hcA := O2.out.at (k := t) (v := A) htl (by rw [D2.out t htl (.inr HT0.out), hA, aft_next base htl HT0.out])
            have HNX := Lib.hid (fun f (h1 : 0 ≤ f) (h2 : f < t) => levAt_neu base h1 h2 ht NN.out)
            rw [← hB, ← hA] at HNX
            have HKT := Lib.hid (L3.next (base := base) (t := t) HCk.out hkt (.inr HT0.out) hlt)
            clear hB hA
            go_wp2_with (go_at_call 23; refine (HT1.out _).mono ?_; rintro e w' ⟨rfl, rfl⟩)
            subst hBb
            go_loopw [9] (L5Rel s base w (some ⟨w.heap.size, 0, none⟩) s.size 0 t) (fun i _ => t - (intOf i).toNat)
            case atStart => exact ⟨0, xs, Nat.le_refl _, hkt, rfl, O2.out, D2.out⟩
            case round =>
              obtain ⟨f, ys, hf1, hf2, rfl, hown, hdn⟩ := hrel
              by_cases hft : f < t
              case pos =>
                have hft' : (f : Int) < (t : Int) := by omega
                have hfs : (f : Int) < (s.size : Int) := by omega
                have hf0 : (0 : Int) ≤ (f : Int) := by omega
                have hfz := hown.2.1.frozenAt f
                have hlen := hown.1
                obtain ⟨yv, hyv⟩ : ∃ y, ys[f]? = some y := ⟨ys[f]'(by omega), List.getElem?_eq_getElem _⟩
                have hcz := hown.at (by omega) hyv
                have OS := Lib.hid (hown.set (Nat.le_refl _) f (neuL base A base))
                have DS := Lib.hid (hdn.set hlen (HNX.out f hf1 hft).symm)
                clear hown hdn hlen hyv
                go_wp2_with (go_at_call 24; refine (neutralLevel_any _ _ _ hB0 hB1 hA0 hA1 hb0 hb1 _).mono ?_; rintro e w' ⟨rfl, rfl⟩)
                go_roundw
                case rel => exact ⟨f + 1, _, by omega, by omega, by go_num, OS.out, DS.out⟩
                case measure => simp [intOf] <;> omega
              case neg =>
                obtain rfl : f = t := by omega
                have OE := Lib.hid hown
                have DE := Lib.hid hdn
                have hkf := HKT.out
                clear hown hdn
                go_wp2_with fail
                go_roundw
                case rel => exact ⟨f, ys, ht, rfl, OE.out, DE.out, .inr (.inr (.inr HT0.out))⟩
                case measure => simp [intOf] <;> omega
          have hkp : (0 : Int) < (k : Int) := by omega
          have hkp' : 0 < k := by omega
          have hk10 : (0 : Int) ≤ (k : Int) - 1 := by omega
          have hk11 : (k : Int) - 1 < (s.size : Int) := by omega
          have hkt1 : ((k : Int) - 1).toNat = k - 1 := by omega
          obtain ⟨B, hB⟩ : ∃ B, B = bef s base k := ⟨_, rfl⟩
          have hcB := O2.out.at (k := k - 1) (v := B) (by omega) (by rw [D2.out (k - 1) (by omega) (.inl (by omega)), hB, HBF.out hkp'])
          have hBd := bef_bd (s := s) hb0 hb1 k
          rw [← hB] at hBd
          obtain ⟨hB0, hB1⟩ := hBd
          obtain ⟨A, hA⟩ : ∃ A, A = aft s base t := ⟨_, rfl⟩
          have hAd := aft_bd (s := s) hb0 hb1 t
          rw [← hA] at hAd
          obtain ⟨hA0, hA1⟩ := hAd
          have hcA := O2.out.at (k := t) (v := A) htl (by rw [D2.out t htl (.inr HT0.out), hA, aft_next base htl HT0.out])
          have HNX := Lib.hid (fun f (h1 : k ≤ f) (h2 : f < t) => levAt_neu base h1 h2 ht NN.out)
          rw [← hB, ← hA] at HNX
          have HKT := Lib.hid (L3.next (base := base) (t := t) HCk.out hkt (.inr HT0.out) hlt)
          clear hB hA
          go_wp2_with (go_at_call 23; refine (HT1.out _).mono ?_; rintro e w' ⟨rfl, rfl⟩)
          go_loopw [9] (L5Rel s base w (some ⟨w.heap.size, 0, none⟩) s.size k t) (fun i _ => t - (intOf i).toNat)
          case atStart => exact ⟨k, xs, Nat.le_refl _, hkt, rfl, O2.out, D2.out⟩
          case round =>
            obtain ⟨f, ys, hf1, hf2, rfl, hown, hdn⟩ := hrel
            by_cases hft : f < t
            case pos =>
              have hft' : (f : Int) < (t : Int) := by omega
              have hfs : (f : Int) < (s.size : Int) := by omega
              have hf0 : (0 : Int) ≤ (f : Int) := by omega
              have hfz := hown.2.1.frozenAt f
              have hlen := hown.1
              obtain ⟨yv, hyv⟩ : ∃ y, ys[f]? = some y := ⟨ys[f]'(by omega), List.getElem?_eq_getElem _⟩
              have hcz := hown.at (by omega) hyv
              have OS := Lib.hid (hown.set (Nat.le_refl _) f (neuL B A base))
              have DS := Lib.hid (hdn.set hlen (HNX.out f hf1 hft).symm)
              clear hown hdn hlen hyv
              go_wp2_with (go_at_call 24; refine (neutralLevel_any _ _ _ hB0 hB1 hA0 hA1 hb0 hb1 _).mono ?_; rintro e w' ⟨rfl, rfl⟩)
              go_roundw
              case rel => exact ⟨f + 1, _, by omega, by omega, by go_num, OS.out, DS.out⟩
              case measure => simp [intOf] <;> omega
            case neg =>
              obtain rfl : f = t := by omega
              have OE := Lib.hid hown
              have DE := Lib.hid hdn
              have hkf := HKT.out
              clear hown hdn
              go_wp2_with fail
              go_roundw
              case rel => exact ⟨f, ys, ht, rfl, OE.out, DE.out, .inr (.inr (.inr HT0.out))⟩
              case measure => simp [intOf] <;> omega
end Go.Proofs.Ytonkminebememaa
