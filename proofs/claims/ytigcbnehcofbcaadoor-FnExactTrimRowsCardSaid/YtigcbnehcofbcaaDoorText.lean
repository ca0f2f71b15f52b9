/-
  Contracts of validText, the program's and the reference's: has a text at most 60 printable characters?
-/
import Derived.Test.YtigcbnehcofbcaaDoorProg
import Derived.Test.YtigcbnehcofbcaaDoorBase
namespace Go.Proofs.YtigcbnehcofbcaaDoor
open Go.RowKit
set_option linter.unusedVariables false

def pr (c : UInt8) : Bool := decide (32 ≤ c.toNat) && decide (c.toNat ≤ 126)
def vText (s : ByteArray) : Bool := s.data.toList.all pr && decide (s.size ≤ 60)

theorem take_all_succ {s : ByteArray} {k : Nat} (hk : k < s.size) (h : (s.data.toList.take k).all pr = true) (hc : pr s[k] = true) : (s.data.toList.take (k + 1)).all pr = true := by
  rw [List.take_succ_eq_append_getElem (by simpa using hk), List.all_append, h]
  simp
  exact hc
theorem vText_bad {s : ByteArray} {k : Nat} (hk : k < s.size) (hc : pr s[k] = false) : vText s = false := by
  have : s.data.toList.all pr = false := by
    rw [List.all_eq_false]
    refine ⟨s[k], ?_, by simp [hc]⟩
    show s.data[k] ∈ s.data.toList
    exact Array.getElem_mem_toList _
  rw [vText, this]; rfl
theorem vText_end {s : ByteArray} (h : (s.data.toList.take s.size).all pr = true) : vText s = decide (s.size ≤ 60) := by
  have e : s.data.toList.take s.size = s.data.toList := List.take_of_length_le (by simp)
  rw [e] at h
  rw [vText, h, Bool.true_and]

def TextRel (s : ByteArray) (i : Value) : Prop := ∃ k : Nat, k ≤ s.size ∧ i = .int .i64 k ∧ (s.data.toList.take k).all pr = true

set_option maxHeartbeats 1000000 in
theorem specText_any (s : ByteArray) (w : World) (hs : s.size ≤ 9223372036854775807) :
    Calls Tryd.prog 25 #[.string s] w fun e w' => e = .returned (.bool (vText s)) ∧ w = w' := by
  go_enter Tryd.func25, Tryd.ntmps25
  go_wp2_with fail
  go_loop [3] (TextRel s) (fun i => s.size - (intOf i).toNat)
  case atStart => exact ⟨0, Nat.zero_le _, rfl, rfl⟩
  case round =>
    obtain ⟨k, hk, rfl, hp⟩ := hrel
    have HP := Lib.hid hp
    clear hp
    by_cases hlt : k < s.size
    · by_cases h1 : 32 ≤ s[k].toNat
      · by_cases h2 : s[k].toNat ≤ 126
        · have HC : Hid (pr s[k] = true) := by show pr s[k] = true; simp [pr, h1, h2]
          have h1' : (32 : Int) ≤ (s[k].toNat : Int) := by omega
          have h2' : (s[k].toNat : Int) ≤ 126 := by omega
          have HT := Lib.hid (take_all_succ hlt HP.out HC.out)
          go_wp2_with fail
          go_round
          case rel => exact ⟨k + 1, by omega, by go_num, HT.out⟩
          case measure => simp [intOf] <;> omega
        · have HC := Lib.hid (vText_bad hlt (by simp [pr]; omega))
          have h1' : (32 : Int) ≤ (s[k].toNat : Int) := by omega
          have h2' : (126 : Int) < (s[k].toNat : Int) := by omega
          go_wp2_with fail
          go_ret
          exact ⟨ret_bool HC.out.symm, rfl⟩
      · have HC := Lib.hid (vText_bad hlt (by simp [pr]; omega))
        have h1' : (s[k].toNat : Int) < 32 := by omega
        go_wp2_with fail
        go_ret
        exact ⟨ret_bool HC.out.symm, rfl⟩
    · obtain rfl : k = s.size := by omega
      have HE := Lib.hid (vText_end HP.out)
      go_wp2_with fail
      go_ret
      refine ⟨ret_bool ?_, rfl⟩
      rw [HE.out, Bool.eq_iff_iff]
      simp
      omega

set_option maxHeartbeats 1000000 in
theorem implText_any (s : ByteArray) (w : World) (hs : s.size ≤ 9223372036854775807) :
    Calls Tryd.prog 22 #[.string s] w fun e w' => e = .returned (.bool (vText s)) ∧ w = w' := by
  go_enter Tryd.func22, Tryd.ntmps22
  go_wp2_with fail
  go_loop [6] (TextRel s) (fun i => s.size - (intOf i).toNat)
  case atStart => exact ⟨0, Nat.zero_le _, rfl, rfl⟩
  case round =>
    obtain ⟨k, hk, rfl, hp⟩ := hrel
    have HP := Lib.hid hp
    clear hp
    by_cases hlt : k < s.size
    · by_cases h1 : 32 ≤ s[k].toNat
      · by_cases h2 : s[k].toNat ≤ 126
        · have HC : Hid (pr s[k] = true) := by show pr s[k] = true; simp [pr, h1, h2]
          have h1' : (32 : Int) ≤ (s[k].toNat : Int) := by omega
          have h2' : (s[k].toNat : Int) ≤ 126 := by omega
          have HT := Lib.hid (take_all_succ hlt HP.out HC.out)
          go_wp2_with fail
          go_round
          case rel => exact ⟨k + 1, by omega, by go_num, HT.out⟩
          case measure => simp [intOf] <;> omega
        · have HC := Lib.hid (vText_bad hlt (by simp [pr]; omega))
          have h1' : (32 : Int) ≤ (s[k].toNat : Int) := by omega
          have h2' : (126 : Int) < (s[k].toNat : Int) := by omega
          go_wp2_with fail
          go_ret
          exact ⟨ret_bool HC.out.symm, rfl⟩
      · have HC := Lib.hid (vText_bad hlt (by simp [pr]; omega))
        have h1' : (s[k].toNat : Int) < 32 := by omega
        go_wp2_with fail
        go_ret
        exact ⟨ret_bool HC.out.symm, rfl⟩
    · obtain rfl : k = s.size := by omega
      have HE := Lib.hid (vText_end HP.out)
      go_wp2_with fail
      go_ret
      refine ⟨ret_bool ?_, rfl⟩
      rw [HE.out, Bool.eq_iff_iff]
      simp
      omega
end Go.Proofs.YtigcbnehcofbcaaDoor
