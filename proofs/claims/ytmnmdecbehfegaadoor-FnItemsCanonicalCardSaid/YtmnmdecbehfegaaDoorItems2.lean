/-
  Contracts on paragraphs: when a list of items is one, the program's word and the reference's.
-/
import Derived.Test.YtmnmdecbehfegaaDoorItems
namespace Go.Proofs.YtmnmdecbehfegaaDoor
open Go.RowKit
set_option linter.unusedVariables false

/-- A forced break. -/
def frc (x : It) : Bool := x.k == 3 && x.p == -1000
def vItems (l : List It) : Bool := inB 1 60 (l.length : Int) && l.all vIt && (match l.getLast? with | some x => frc x | none => false)

theorem items_bad {l : List It} {k : Nat} {x : It} (hx : l[k]? = some x) (h : vIt x = false) : vItems l = false := by
  have : l.all vIt = false := by
    rw [List.all_eq_false]
    exact ⟨x, List.mem_of_getElem? hx, by simp [h]⟩
  rw [vItems, this, Bool.and_false]; rfl
theorem items_step {l : List It} {k : Nat} {x : It} (hx : l[k]? = some x) (h : (l.take k).all vIt = true) (hv : vIt x = true) : (l.take (k + 1)).all vIt = true := by
  rw [List.take_add_one, hx, List.all_append, h]
  simp [hv]
theorem items_end {l : List It} {n : Nat} (hl : l.length = n) (h : (l.take n).all vIt = true) {x : It} (hx : l[n - 1]? = some x) : vItems l = (inB 1 60 (n : Int) && frc x) := by
  rw [← hl, List.take_length] at h
  have h2 : l.getLast? = some x := by rw [List.getLast?_eq_getElem?, hl]; exact hx
  rw [vItems, h, h2, hl, Bool.and_true]
theorem items_short {l : List It} {n : Nat} (hl : l.length = n) (h : inB 1 60 (n : Int) = false) : vItems l = false := by
  rw [vItems, hl, h]; rfl

def ItsRel (W : World) (l : List It) (n : Nat) (i : Value) (wr : World) : Prop :=
  ∃ k : Nat, k ≤ n ∧ i = .int .i64 k ∧ (l.take k).all vIt = true ∧ Below W.heap.size W wr

theorem isForced_any (x : It) (w : World) :
    Calls Tryd.prog 53 #[.agg #[.int .i64 x.k, .int .i64 x.w, .int .i64 x.st, .int .i64 x.sh, .int .i64 x.p, .bool x.f]] w fun e w' => e = .returned (.bool (frc x)) ∧ Below w.heap.size w w' := by
  obtain ⟨k, wd, st, sh, p, f⟩ := x
  by_cases h1 : k = 3
  case neg =>
    have h1' : (k == 3) = false := by simpa using h1
    have H := Lib.hid h1'
    clear h1
    go_enter Tryd.func53, Tryd.ntmps53
    go_wp2
    go_ret
    exact ⟨ret_bool (by simp [frc, H.out]), (Below.refl _ _).alloc (Nat.le_refl _) _⟩
  subst h1
  by_cases h2 : p = -1000
  case neg =>
    have h2' : (p == -1000) = false := by simpa using h2
    have H := Lib.hid h2'
    clear h2
    go_enter Tryd.func53, Tryd.ntmps53
    go_wp2
    go_ret
    exact ⟨ret_bool (by simp [frc, H.out]), (Below.refl _ _).alloc (Nat.le_refl _) _⟩
  subst h2
  go_enter Tryd.func53, Tryd.ntmps53
  go_wp2
  go_ret
  exact ⟨ret_bool (by simp [frc]), (Below.refl _ _).alloc (Nat.le_refl _) _⟩

set_option maxHeartbeats 4000000 in
theorem specItems_any (A : Option Addr) (n c : Nat) (l : List It) (w : World) (hx : Rd w 6 A n (items l)) (hn : n ≤ 1048576) :
    Calls Tryd.prog 37 #[.slice A n c] w fun e w' => e = .returned (.bool (vItems l)) ∧ Below w.heap.size w w' := by
  have HL := Lib.hid hx.item_len
  go_enter Tryd.func37, Tryd.ntmps37
  go_wp2_with fail
  go_loopw [3] (ItsRel w l n) (fun i _ => n - (intOf i).toNat)
  case atStart => exact ⟨0, Nat.zero_le _, rfl, rfl, Below.refl _ _⟩
  case round =>
    obtain ⟨k, hk, rfl, hv, hb⟩ := hrel
    have HV := Lib.hid hv
    have HB := Lib.hid hb
    clear hv hb
    by_cases hlt : k < n
    · obtain ⟨b, o, x, rfl, ex, hc0, hc1, hc2, hc3, hc4, hc5⟩ := (hx.below HB.out).item_at hlt
      have EX := Lib.hid ex
      clear ex hx
      have HC := Lib.hid (specItem_any x wr)
      cases hi : vIt x
      · have HI := Lib.hid hi
        rw [hi] at HC
        clear hi
        go_wp2_with (go_at_call 32; refine HC.out.mono ?_; rintro e w1 ⟨rfl, hb⟩; have B1 := Lib.hid hb; clear hb)
        go_ret
        exact ⟨ret_bool (items_bad EX.out HI.out).symm, below_step HB.out B1.out⟩
      · have HI := Lib.hid hi
        rw [hi] at HC
        clear hi
        go_wp2_with (go_at_call 32; refine HC.out.mono ?_; rintro e w1 ⟨rfl, hb⟩; have B1 := Lib.hid hb; clear hb)
        go_roundw
        case rel => exact ⟨k + 1, by omega, by go_num, items_step EX.out HV.out HI.out, below_step HB.out B1.out⟩
        case measure => simp [intOf] <;> omega
    · have hkn : k = n := by omega
      subst hkn
      cases hr : inB 1 60 (k : Int)
      · have HR := Lib.hid hr
        clear hr hx
        go_wp2_with (go_at_call 54; refine (inRange_any _ _ _ _ HR.out _).mono ?_; rintro e w' ⟨rfl, rfl⟩)
        go_ret
        exact ⟨ret_bool (items_short HL.out HR.out).symm, HB.out⟩
      have HR := Lib.hid hr
      have hr' := inB_iff.1 hr
      clear hr
      obtain ⟨b, o, x, rfl, ex, hc0, hc1, hc2, hc3, hc4, hc5⟩ := (hx.below HB.out).item_at (k := k - 1) (by omega)
      have HE := Lib.hid (items_end HL.out HV.out ex)
      clear ex hx
      by_cases h1 : x.k = 3
      case neg =>
        have h1' : (x.k == 3) = false := by simpa using h1
        have H := Lib.hid h1'
        clear h1
        go_wp2_with (go_at_call 54; refine (inRange_any _ _ _ _ HR.out _).mono ?_; rintro e w' ⟨rfl, rfl⟩)
        go_ret
        exact ⟨ret_bool (by rw [HE.out, frc, H.out]; simp), HB.out⟩
      have h1' : (x.k == 3) = true := by simpa using h1
      have H1 := Lib.hid h1'
      clear h1
      by_cases h2 : x.p = -1000
      case neg =>
        have h2' : (x.p == -1000) = false := by simpa using h2
        have H := Lib.hid h2'
        clear h2
        go_wp2_with (go_at_call 54; refine (inRange_any _ _ _ _ HR.out _).mono ?_; rintro e w' ⟨rfl, rfl⟩)
        go_ret
        exact ⟨ret_bool (by rw [HE.out, frc, H.out]; simp), HB.out⟩
      have h2' : (x.p == -1000) = true := by simpa using h2
      have H2 := Lib.hid h2'
      clear h2
      go_wp2_with (go_at_call 54; refine (inRange_any _ _ _ _ HR.out _).mono ?_; rintro e w' ⟨rfl, rfl⟩)
      go_ret
      exact ⟨ret_bool (by rw [HE.out, frc, H1.out, H2.out, HR.out]; simp), HB.out⟩

set_option maxHeartbeats 4000000 in
theorem implItems_any (A : Option Addr) (n c : Nat) (l : List It) (w : World) (hx : Rd w 6 A n (items l)) (hn : n ≤ 1048576) :
    Calls Tryd.prog 31 #[.slice A n c] w fun e w' => e = .returned (.bool (vItems l)) ∧ Below w.heap.size w w' := by
  have HL := Lib.hid hx.item_len
  cases hr : inB 1 60 (n : Int)
  · have HR := Lib.hid hr
    clear hr hx
    go_enter Tryd.func31, Tryd.ntmps31
    go_wp2_with (go_at_call 52; refine (within_any _ _ _ _ HR.out _).mono ?_; rintro e w' ⟨rfl, rfl⟩)
    go_ret
    exact ⟨ret_bool (items_short HL.out HR.out).symm, Below.refl _ _⟩
  have HR := Lib.hid hr
  have hr' := inB_iff.1 hr
  clear hr
  go_enter Tryd.func31, Tryd.ntmps31
  go_wp2_with (go_at_call 52; refine (within_any _ _ _ _ HR.out _).mono ?_; rintro e w' ⟨rfl, rfl⟩)
  go_loopw [11] (ItsRel w l n) (fun i _ => n - (intOf i).toNat)
  case atStart => exact ⟨0, Nat.zero_le _, rfl, rfl, Below.refl _ _⟩
  case round =>
    obtain ⟨k, hk, rfl, hv, hb⟩ := hrel
    have HV := Lib.hid hv
    have HB := Lib.hid hb
    clear hv hb
    by_cases hlt : k < n
    · obtain ⟨b, o, x, rfl, ex, hc0, hc1, hc2, hc3, hc4, hc5⟩ := (hx.below HB.out).item_at hlt
      have EX := Lib.hid ex
      have hsz := HB.out.size
      clear ex hx
      have HC := Lib.hid (implItem_any x)
      cases hi : vIt x
      · have HI := Lib.hid hi
        rw [hi] at HC
        clear hi
        go_wp2_with (go_at_call 35; refine (HC.out _).mono ?_; rintro e w1 ⟨rfl, hb⟩; have B1 := Lib.hid hb; clear hb)
        go_ret
        exact ⟨ret_bool (items_bad EX.out HI.out).symm, below_step (HB.out.alloc hsz _) B1.out⟩
      · have HI := Lib.hid hi
        rw [hi] at HC
        clear hi
        go_wp2_with (go_at_call 35; refine (HC.out _).mono ?_; rintro e w1 ⟨rfl, hb⟩; have B1 := Lib.hid hb; clear hb)
        go_roundw
        case rel => exact ⟨k + 1, by omega, by go_num, items_step EX.out HV.out HI.out, below_step (HB.out.alloc hsz _) B1.out⟩
        case measure => simp [intOf] <;> omega
    · have hkn : k = n := by omega
      subst hkn
      obtain ⟨b, o, x, rfl, ex, hc0, hc1, hc2, hc3, hc4, hc5⟩ := (hx.below HB.out).item_at (k := k - 1) (by omega)
      have HE := Lib.hid (items_end HL.out HV.out ex)
      clear ex hx
      go_wp2_with (go_at_call 53; refine (isForced_any x _).mono ?_; rintro e w1 ⟨rfl, hb⟩; have B1 := Lib.hid hb; clear hb)
      go_ret
      exact ⟨ret_bool (by rw [HE.out, HR.out, Bool.true_and]), below_step HB.out B1.out⟩
end Go.Proofs.YtmnmdecbehfegaaDoor
