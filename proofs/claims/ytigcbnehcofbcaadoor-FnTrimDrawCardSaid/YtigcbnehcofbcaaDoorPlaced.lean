/-
  Contracts on placed texts: ValidPlaced, the program's and the reference's.
-/
import Derived.Test.YtigcbnehcofbcaaDoorText
import Derived.Test.YtigcbnehcofbcaaDoorRange
namespace Go.Proofs.YtigcbnehcofbcaaDoor
open Go.RowKit
set_option linter.unusedVariables false

structure Pl where
  x : Int
  y : Int
  t : ByteArray
  deriving DecidableEq

def Pl.cells (p : Pl) : List Value := [.int .i64 p.x, .int .i64 p.y, .string p.t]
def placeds (l : List Pl) : List Value := l.flatMap Pl.cells
theorem Pl.cells_length (p : Pl) : p.cells.length = 3 := rfl

theorem Rd.placed_at {w : World} {A : Option Addr} {n : Nat} {l : List Pl} (h : Rd w 3 A n (placeds l)) {k : Nat} (hk : k < n) :
    ∃ b o p, A = some ⟨b, o, none⟩ ∧ l[k]? = some p ∧ w.cell? ⟨b, o + k * 3, none⟩ = some (.int .i64 p.x) ∧ w.cell? ⟨b, o + k * 3 + 1, none⟩ = some (.int .i64 p.y) ∧ w.cell? ⟨b, o + k * 3 + 2, none⟩ = some (.string p.t) := by
  obtain ⟨b, o, p, e, hp, hc⟩ := Rd.elem_at Pl.cells_length (by omega) h hk
  exact ⟨b, o, p, e, hp, hc 0 (by omega), hc 1 (by omega), hc 2 (by omega)⟩
theorem Rd.placed_len {w : World} {A : Option Addr} {n : Nat} {l : List Pl} (h : Rd w 3 A n (placeds l)) : l.length = n := Rd.elem_len Pl.cells_length (by omega) h

/-- A text at a place, valid in a picture. -/
def vPl (w h : Int) (p : Pl) : Bool := vText p.t && decide (0 < p.t.size) && inB 0 (w - p.t.size) p.x && inB 0 (h - 1) p.y
def vPlaced (l : List Pl) (w h : Int) : Bool := inB 1 60 w && inB 1 60 h && decide (l.length ≤ 60) && l.all (vPl w h)

def PlRel (W : World) (l : List Pl) (pw ph : Int) (i : Value) (wr : World) : Prop :=
  ∃ k : Nat, k ≤ l.length ∧ i = .int .i64 k ∧ (l.take k).all (vPl pw ph) = true ∧ Below W.heap.size W wr

theorem size_nil {s : ByteArray} (h : s.size = 0) : s.toList = [] := by
  apply List.eq_nil_of_length_eq_zero
  rw [ByteArray.toList_eq]; simpa using h
theorem size_cons {s : ByteArray} (h : ¬ s.size = 0) : ¬ s.toList = [] := fun e => h (by rw [ByteArray.toList_eq] at e; have := congrArg List.length e; simpa using this)
theorem vText_empty {s : ByteArray} (h : s.size = 0) : vText s = true := by
  have : s.data.toList = [] := List.eq_nil_of_length_eq_zero (by simpa using h)
  simp [vText, this, h]
theorem vText_le {s : ByteArray} (h : vText s = true) : s.size ≤ 60 := by
  simp [vText] at h; exact h.2
theorem placed_bad {l : List Pl} {pw ph : Int} {k : Nat} {p : Pl} (hp : l[k]? = some p) (h : vPl pw ph p = false) : vPlaced l pw ph = false := by
  have : l.all (vPl pw ph) = false := by
    rw [List.all_eq_false]
    exact ⟨p, List.mem_of_getElem? hp, by simp [h]⟩
  rw [vPlaced, this, Bool.and_false]
theorem placed_step {l : List Pl} {pw ph : Int} {k : Nat} {p : Pl} (hp : l[k]? = some p) (h : (l.take k).all (vPl pw ph) = true) (hv : vPl pw ph p = true) : (l.take (k + 1)).all (vPl pw ph) = true := by
  rw [List.take_add_one, hp, List.all_append, h]
  simp [hv]
theorem placed_end {l : List Pl} {pw ph : Int} (h : (l.take l.length).all (vPl pw ph) = true) : vPlaced l pw ph = (inB 1 60 pw && inB 1 60 ph && decide (l.length ≤ 60)) := by
  rw [List.take_length] at h
  rw [vPlaced, h, Bool.and_true]

set_option maxHeartbeats 4000000 in
theorem implValidPlaced_any (A : Option Addr) (n c : Nat) (l : List Pl) (w : World) (pw ph : Int) (hx : Rd w 3 A n (placeds l)) (hn : n ≤ 1048576) (hz : ∀ p ∈ l, p.t.size ≤ 1048576) :
    Calls Tryd.prog 28 #[.slice A n c, .int .i64 pw, .int .i64 ph] w fun e w' => e = .returned (.bool (vPlaced l pw ph)) ∧ Below w.heap.size w w' := by
  have HL := Lib.hid hx.placed_len
  have HZ := Lib.hid hz
  clear hz
  cases h1 : inB 1 60 pw
  · have W1 := Lib.hid h1
    clear h1 hx
    go_enter Tryd.func28, Tryd.ntmps28
    go_wp2_with (go_at_call 38; refine (within_any _ _ _ _ W1.out _).mono ?_; rintro e w' ⟨rfl, rfl⟩)
    go_ret
    exact ⟨ret_bool (by simp [vPlaced, W1.out]), Below.refl _ _⟩
  have W1 := Lib.hid h1
  have W1' := inB_iff.1 h1
  clear h1
  cases h2 : inB 1 60 ph
  · have W2 := Lib.hid h2
    clear h2 hx
    go_enter Tryd.func28, Tryd.ntmps28
    go_wp2_with fail
    refine (within_any _ _ _ _ W1.out _).mono ?_
    rintro e w' ⟨rfl, rfl⟩
    go_wp2_with (go_at_call 38; refine (within_any _ _ _ _ W2.out _).mono ?_; rintro e w' ⟨rfl, rfl⟩)
    go_ret
    exact ⟨ret_bool (by simp [vPlaced, W2.out]), Below.refl _ _⟩
  have W2 := Lib.hid h2
  have W2' := inB_iff.1 h2
  clear h2
  by_cases h3 : n ≤ 60
  case neg =>
    clear hx
    go_enter Tryd.func28, Tryd.ntmps28
    go_wp2_with fail
    refine (within_any _ _ _ _ W1.out _).mono ?_
    rintro e w' ⟨rfl, rfl⟩
    go_wp2_with (go_at_call 38; refine (within_any _ _ _ _ W2.out _).mono ?_; rintro e w' ⟨rfl, rfl⟩)
    go_ret
    exact ⟨ret_bool (by rw [vPlaced, decide_eq_false (by have := HL.out; omega)]; simp), Below.refl _ _⟩
  go_enter Tryd.func28, Tryd.ntmps28
  go_wp2_with fail
  refine (within_any _ _ _ _ W1.out _).mono ?_
  rintro e w' ⟨rfl, rfl⟩
  go_wp2_with (go_at_call 38; refine (within_any _ _ _ _ W2.out _).mono ?_; rintro e w' ⟨rfl, rfl⟩)
  go_loopw [24] (PlRel w l pw ph) (fun i _ => n - (intOf i).toNat)
  case atStart => exact ⟨0, Nat.zero_le _, rfl, rfl, Below.refl _ _⟩
  case round =>
    obtain ⟨k, hk, rfl, hv, hb⟩ := hrel
    have HV := Lib.hid hv
    have HB := Lib.hid hb
    clear hv hb
    by_cases hlt : k < n
    · obtain ⟨b, o, p, rfl, ep, hc0, hc1, hc2⟩ := (hx.below HB.out).placed_at hlt
      have EP := Lib.hid ep
      have hsz := HZ.out p (List.mem_of_getElem? ep)
      clear ep hx
      cases t1 : vText p.t
      · have T1 := Lib.hid t1
        clear t1
        by_cases t0 : p.t.size = 0
        · have t0' : p.t.toList = [] := size_nil t0
          have T0 := Lib.hid t0
          clear t0
          exact absurd T1.out (by rw [vText_empty T0.out]; simp)
        have t0' : ¬ p.t.toList = [] := size_cons t0
        have t0b : p.t.toList.isEmpty = false := by simpa using t0'
        go_wp2_with (first | (go_at_call 22; refine (implText_any _ _ (by omega)).mono ?_; rw [T1.out]; rintro e w' ⟨rfl, rfl⟩) | (go_at_call_of 38 p.x; refine (within_any _ _ _ _ T2.out _).mono ?_; rintro e w' ⟨rfl, rfl⟩) | (go_at_call_of 38 p.y; refine (within_any _ _ _ _ T3.out _).mono ?_; rintro e w' ⟨rfl, rfl⟩))
        go_ret
        exact ⟨ret_bool (placed_bad EP.out (by simp [vPl, T1.out])).symm, HB.out.alloc HB.out.size _⟩
      have T1 := Lib.hid t1
      have t60 := vText_le t1
      clear t1
      by_cases t0 : p.t.size = 0
      · have t0' : p.t.toList = [] := size_nil t0
        have t0b : p.t.toList.isEmpty = true := by simpa using t0'
        have t0i : ((p.t.size : Int) == 0) = true := by simp [t0]
        have T0 := Lib.hid t0
        clear t0
        go_wp2_with (first | (go_at_call 22; refine (implText_any _ _ (by omega)).mono ?_; rw [T1.out]; rintro e w' ⟨rfl, rfl⟩) | (go_at_call_of 38 p.x; refine (within_any _ _ _ _ T2.out _).mono ?_; rintro e w' ⟨rfl, rfl⟩) | (go_at_call_of 38 p.y; refine (within_any _ _ _ _ T3.out _).mono ?_; rintro e w' ⟨rfl, rfl⟩))
        go_ret
        exact ⟨ret_bool (placed_bad EP.out (by simp [vPl, T0.out])).symm, HB.out.alloc HB.out.size _⟩
      have t0' : ¬ p.t.toList = [] := size_cons t0
      have t0b : p.t.toList.isEmpty = false := by simpa using t0'
      have t0i : ((p.t.size : Int) == 0) = false := by rw [beq_eq_false_iff_ne]; omega
      have T0 : Hid (0 < p.t.size) := by show 0 < p.t.size; omega
      cases t2 : inB 0 (pw - p.t.size) p.x
      · have T2 := Lib.hid t2
        clear t2
        go_wp2_with (first | (go_at_call 22; refine (implText_any _ _ (by omega)).mono ?_; rw [T1.out]; rintro e w' ⟨rfl, rfl⟩) | (go_at_call_of 38 p.x; refine (within_any _ _ _ _ T2.out _).mono ?_; rintro e w' ⟨rfl, rfl⟩) | (go_at_call_of 38 p.y; refine (within_any _ _ _ _ T3.out _).mono ?_; rintro e w' ⟨rfl, rfl⟩))
        go_ret
        exact ⟨ret_bool (placed_bad EP.out (by simp [vPl, T2.out])).symm, HB.out.alloc HB.out.size _⟩
      have T2 := Lib.hid t2
      clear t2
      cases t3 : inB 0 (ph - 1) p.y
      · have T3 := Lib.hid t3
        clear t3
        go_wp2_with (first | (go_at_call 22; refine (implText_any _ _ (by omega)).mono ?_; rw [T1.out]; rintro e w' ⟨rfl, rfl⟩) | (go_at_call_of 38 p.x; refine (within_any _ _ _ _ T2.out _).mono ?_; rintro e w' ⟨rfl, rfl⟩) | (go_at_call_of 38 p.y; refine (within_any _ _ _ _ T3.out _).mono ?_; rintro e w' ⟨rfl, rfl⟩))
        go_ret
        exact ⟨ret_bool (placed_bad EP.out (by simp [vPl, T3.out])).symm, HB.out.alloc HB.out.size _⟩
      have T3 := Lib.hid t3
      clear t3
      have HT := Lib.hid (placed_step EP.out HV.out (by rw [vPl, T1.out, T2.out, T3.out]; simp; exact T0.out))
      go_wp2_with (first | (go_at_call 22; refine (implText_any _ _ (by omega)).mono ?_; rw [T1.out]; rintro e w' ⟨rfl, rfl⟩) | (go_at_call_of 38 p.x; refine (within_any _ _ _ _ T2.out _).mono ?_; rintro e w' ⟨rfl, rfl⟩) | (go_at_call_of 38 p.y; refine (within_any _ _ _ _ T3.out _).mono ?_; rintro e w' ⟨rfl, rfl⟩))
      go_roundw
      case rel => exact ⟨k + 1, by have := HL.out; omega, by go_num, HT.out, HB.out.alloc HB.out.size _⟩
      case measure => simp [intOf] <;> omega
    · have hkn : k = n := by have h := HL.out; omega
      subst hkn
      clear hx
      have HE := Lib.hid (placed_end (by rw [HL.out]; exact HV.out))
      go_wp2_with fail
      go_ret
      exact ⟨ret_bool (by rw [HE.out, W1.out, W2.out, HL.out]; simp; omega), HB.out⟩


set_option maxHeartbeats 4000000 in
theorem specPlaced_in (A : Option Addr) (n c : Nat) (l : List Pl) (w : World) (pw ph : Int) (hx : Rd w 3 A n (placeds l)) (hn : n ≤ 1048576) (hz : ∀ p ∈ l, p.t.size ≤ 1048576) (h1 : inB 1 60 pw = true) (h2 : inB 1 60 ph = true) :
    Calls Tryd.prog 30 #[.slice A n c, .int .i64 pw, .int .i64 ph] w fun e w' => e = .returned (.bool (vPlaced l pw ph)) ∧ Below w.heap.size w w' := by
  have HL := Lib.hid hx.placed_len
  have HZ := Lib.hid hz
  have W1 := Lib.hid h1
  have W1' := inB_iff.1 h1
  have W2 := Lib.hid h2
  have W2' := inB_iff.1 h2
  clear hz h1 h2
  go_enter Tryd.func30, Tryd.ntmps30
  go_wp2_with fail
  go_loopw [7] (PlRel w l pw ph) (fun i _ => n - (intOf i).toNat)
  case atStart => exact ⟨0, Nat.zero_le _, rfl, rfl, Below.refl _ _⟩
  case round =>
    obtain ⟨k, hk, rfl, hv, hb⟩ := hrel
    have HV := Lib.hid hv
    have HB := Lib.hid hb
    clear hv hb
    by_cases hlt : k < n
    · obtain ⟨b, o, p, rfl, ep, hc0, hc1, hc2⟩ := (hx.below HB.out).placed_at hlt
      have EP := Lib.hid ep
      have hsz := HZ.out p (List.mem_of_getElem? ep)
      clear ep hx
      cases t1 : vText p.t
      · have T1 := Lib.hid t1
        clear t1
        by_cases t0 : p.t.size = 0
        · have t0' : p.t.toList = [] := size_nil t0
          have T0 := Lib.hid t0
          clear t0
          exact absurd T1.out (by rw [vText_empty T0.out]; simp)
        have t0' : ¬ p.t.toList = [] := size_cons t0
        have t0b : p.t.toList.isEmpty = false := by simpa using t0'
        go_wp2_with (first | (go_at_call 25; refine (specText_any _ _ (by omega)).mono ?_; rw [T1.out]; rintro e w' ⟨rfl, rfl⟩) | (go_at_call_of 41 p.x; refine (inRange_any _ _ _ _ T2.out _).mono ?_; rintro e w' ⟨rfl, rfl⟩) | (go_at_call_of 41 p.y; refine (inRange_any _ _ _ _ T3.out _).mono ?_; rintro e w' ⟨rfl, rfl⟩))
        go_ret
        exact ⟨ret_bool (placed_bad EP.out (by simp [vPl, T1.out])).symm, HB.out.alloc HB.out.size _⟩
      have T1 := Lib.hid t1
      have t60 := vText_le t1
      clear t1
      by_cases t0 : p.t.size = 0
      · have t0' : p.t.toList = [] := size_nil t0
        have t0b : p.t.toList.isEmpty = true := by simpa using t0'
        have t0i : ((p.t.size : Int) == 0) = true := by simp [t0]
        have T0 := Lib.hid t0
        clear t0
        go_wp2_with (first | (go_at_call 25; refine (specText_any _ _ (by omega)).mono ?_; rw [T1.out]; rintro e w' ⟨rfl, rfl⟩) | (go_at_call_of 41 p.x; refine (inRange_any _ _ _ _ T2.out _).mono ?_; rintro e w' ⟨rfl, rfl⟩) | (go_at_call_of 41 p.y; refine (inRange_any _ _ _ _ T3.out _).mono ?_; rintro e w' ⟨rfl, rfl⟩))
        go_ret
        exact ⟨ret_bool (placed_bad EP.out (by simp [vPl, T0.out])).symm, HB.out.alloc HB.out.size _⟩
      have t0' : ¬ p.t.toList = [] := size_cons t0
      have t0b : p.t.toList.isEmpty = false := by simpa using t0'
      have t0i : ((p.t.size : Int) == 0) = false := by rw [beq_eq_false_iff_ne]; omega
      have T0 : Hid (0 < p.t.size) := by show 0 < p.t.size; omega
      cases t2 : inB 0 (pw - p.t.size) p.x
      · have T2 := Lib.hid t2
        clear t2
        go_wp2_with (first | (go_at_call 25; refine (specText_any _ _ (by omega)).mono ?_; rw [T1.out]; rintro e w' ⟨rfl, rfl⟩) | (go_at_call_of 41 p.x; refine (inRange_any _ _ _ _ T2.out _).mono ?_; rintro e w' ⟨rfl, rfl⟩) | (go_at_call_of 41 p.y; refine (inRange_any _ _ _ _ T3.out _).mono ?_; rintro e w' ⟨rfl, rfl⟩))
        go_ret
        exact ⟨ret_bool (placed_bad EP.out (by simp [vPl, T2.out])).symm, HB.out.alloc HB.out.size _⟩
      have T2 := Lib.hid t2
      clear t2
      cases t3 : inB 0 (ph - 1) p.y
      · have T3 := Lib.hid t3
        clear t3
        go_wp2_with (first | (go_at_call 25; refine (specText_any _ _ (by omega)).mono ?_; rw [T1.out]; rintro e w' ⟨rfl, rfl⟩) | (go_at_call_of 41 p.x; refine (inRange_any _ _ _ _ T2.out _).mono ?_; rintro e w' ⟨rfl, rfl⟩) | (go_at_call_of 41 p.y; refine (inRange_any _ _ _ _ T3.out _).mono ?_; rintro e w' ⟨rfl, rfl⟩))
        go_ret
        exact ⟨ret_bool (placed_bad EP.out (by simp [vPl, T3.out])).symm, HB.out.alloc HB.out.size _⟩
      have T3 := Lib.hid t3
      clear t3
      have HT := Lib.hid (placed_step EP.out HV.out (by rw [vPl, T1.out, T2.out, T3.out]; simp; exact T0.out))
      go_wp2_with (first | (go_at_call 25; refine (specText_any _ _ (by omega)).mono ?_; rw [T1.out]; rintro e w' ⟨rfl, rfl⟩) | (go_at_call_of 41 p.x; refine (inRange_any _ _ _ _ T2.out _).mono ?_; rintro e w' ⟨rfl, rfl⟩) | (go_at_call_of 41 p.y; refine (inRange_any _ _ _ _ T3.out _).mono ?_; rintro e w' ⟨rfl, rfl⟩))
      go_roundw
      case rel => exact ⟨k + 1, by have := HL.out; omega, by go_num, HT.out, HB.out.alloc HB.out.size _⟩
      case measure => simp [intOf] <;> omega
    · have hkn : k = n := by have h := HL.out; omega
      subst hkn
      clear hx
      have HE := Lib.hid (placed_end (by rw [HL.out]; exact HV.out))
      go_wp2_with fail
      refine (inRange_any _ _ _ _ W1.out _).mono ?_
      rintro e w' ⟨rfl, rfl⟩
      go_wp2_with (go_at_call 41; refine (inRange_any _ _ _ _ W2.out _).mono ?_; rintro e w' ⟨rfl, rfl⟩)
      go_ret
      refine ⟨ret_bool ?_, HB.out⟩
      rw [HE.out, W1.out, W2.out, HL.out, Bool.eq_iff_iff]
      simp
      omega

theorem inRange_bool (a lo hi : Int) (w : World) : Calls Tryd.prog 41 #[.int .i64 a, .int .i64 lo, .int .i64 hi] w fun e w' => ∃ r, e = .returned (.bool r) ∧ w = w' :=
  (inRange_any a lo hi _ rfl w).mono fun _ _ ⟨h1, h2⟩ => ⟨_, h1, h2⟩

def PlRel0 (W : World) (n : Nat) (i : Value) (wr : World) : Prop := ∃ k : Nat, k ≤ n ∧ i = .int .i64 k ∧ Below W.heap.size W wr

set_option maxHeartbeats 4000000 in
theorem specPlaced_out (A : Option Addr) (n c : Nat) (l : List Pl) (w : World) (pw ph : Int) (hx : Rd w 3 A n (placeds l)) (hn : n ≤ 1048576) (hz : ∀ p ∈ l, p.t.size ≤ 1048576) (h1 : (inB 1 60 pw && inB 1 60 ph) = false) :
    Calls Tryd.prog 30 #[.slice A n c, .int .i64 pw, .int .i64 ph] w fun e w' => e = .returned (.bool (vPlaced l pw ph)) ∧ Below w.heap.size w w' := by
  have HF : Hid (vPlaced l pw ph = false) := by show vPlaced l pw ph = false; rw [vPlaced, h1]; rfl
  have HZ := Lib.hid hz
  have W1 := Lib.hid h1
  clear hz h1
  go_enter Tryd.func30, Tryd.ntmps30
  go_wp2_with fail
  go_loopw [7] (PlRel0 w n) (fun i _ => n - (intOf i).toNat)
  case atStart => exact ⟨0, Nat.zero_le _, rfl, Below.refl _ _⟩
  case round =>
    obtain ⟨k, hk, rfl, hb⟩ := hrel
    have HB := Lib.hid hb
    clear hb
    by_cases hlt : k < n
    · obtain ⟨b, o, p, rfl, ep, hc0, hc1, hc2⟩ := (hx.below HB.out).placed_at hlt
      have hsz := HZ.out p (List.mem_of_getElem? ep)
      clear ep hx
      cases t1 : vText p.t
      · have T1 := Lib.hid t1
        clear t1
        go_wp2_with (go_at_call 25; refine (specText_any _ _ (by omega)).mono ?_; rw [T1.out]; rintro e w' ⟨rfl, rfl⟩)
        go_ret
        exact ⟨ret_bool HF.out.symm, HB.out.alloc HB.out.size _⟩
      have T1 := Lib.hid t1
      clear t1
      by_cases t0 : p.t.size = 0
      · have t0i : ((p.t.size : Int) == 0) = true := by simp [t0]
        clear t0
        go_wp2_with (go_at_call 25; refine (specText_any _ _ (by omega)).mono ?_; rw [T1.out]; rintro e w' ⟨rfl, rfl⟩)
        go_ret
        exact ⟨ret_bool HF.out.symm, HB.out.alloc HB.out.size _⟩
      have t0i : ((p.t.size : Int) == 0) = false := by rw [beq_eq_false_iff_ne]; omega
      clear t0
      go_wp2_with (first | (go_at_call 25; refine (specText_any _ _ (by omega)).mono ?_; rw [T1.out]; rintro e w' ⟨rfl, rfl⟩) | (go_at_call 41; refine (inRange_bool _ _ _ _).mono ?_; rintro e w' ⟨r, rfl, rfl⟩; cases r))
      all_goals first
        | (go_ret; exact ⟨ret_bool HF.out.symm, HB.out.alloc HB.out.size _⟩)
        | (go_roundw
           case rel => exact ⟨k + 1, by omega, by go_num, HB.out.alloc HB.out.size _⟩
           case measure => simp [intOf] <;> omega)
    · clear hx
      have hlt' : ¬ k < n := hlt
      cases h2 : inB 1 60 pw
      · have W2 := Lib.hid h2
        clear h2
        go_wp2_with (go_at_call 41; refine (inRange_any _ _ _ _ W2.out _).mono ?_; rintro e w' ⟨rfl, rfl⟩)
        go_ret
        exact ⟨ret_bool HF.out.symm, HB.out⟩
      have W2 := Lib.hid h2
      have W3 : Hid (inB 1 60 ph = false) := by have := W1.out; rw [h2] at this; exact this
      clear h2
      go_wp2_with fail
      refine (inRange_any _ _ _ _ W2.out _).mono ?_
      rintro e w' ⟨rfl, rfl⟩
      go_wp2_with (go_at_call 41; refine (inRange_any _ _ _ _ W3.out _).mono ?_; rintro e w' ⟨rfl, rfl⟩)
      go_ret
      exact ⟨ret_bool HF.out.symm, HB.out⟩

theorem specPlaced_any (A : Option Addr) (n c : Nat) (l : List Pl) (w : World) (pw ph : Int) (hx : Rd w 3 A n (placeds l)) (hn : n ≤ 1048576) (hz : ∀ p ∈ l, p.t.size ≤ 1048576) :
    Calls Tryd.prog 30 #[.slice A n c, .int .i64 pw, .int .i64 ph] w fun e w' => e = .returned (.bool (vPlaced l pw ph)) ∧ Below w.heap.size w w' := by
  cases h1 : (inB 1 60 pw && inB 1 60 ph)
  · exact specPlaced_out A n c l w pw ph hx hn hz h1
  · rw [Bool.and_eq_true] at h1
    exact specPlaced_in A n c l w pw ph hx hn hz h1.1 h1.2

end Go.Proofs.YtigcbnehcofbcaaDoor
