/-
  Contracts of validWord, validWrap and lineLength and of the reference's isWord, validWords and joined.
-/
import Derived.Test.YtmljofijeladoaaDoorRange
import Derived.Test.YtmljofijeladoaaDoorStrs
import Derived.Test.YtmljofijeladoaaDoorWrapPlain
namespace Go.Proofs.YtmljofijeladoaaDoor
open Go.RowKit
set_option linter.unusedVariables false

def lw (c : UInt8) : Bool := inB 97 122 (c.toNat : Int)
def vWord (s : ByteArray) : Bool := s.data.toList.all lw && inB 1 20 (s.size : Int)

theorem lw_succ {s : ByteArray} {k : Nat} (hk : k < s.size) (h : (s.data.toList.take k).all lw = true) (hc : lw s[k] = true) : (s.data.toList.take (k + 1)).all lw = true := by
  rw [List.take_succ_eq_append_getElem (by simpa using hk), List.all_append, h]
  simp
  exact hc
theorem vWord_bad {s : ByteArray} {k : Nat} (hk : k < s.size) (hc : lw s[k] = false) : vWord s = false := by
  have : s.data.toList.all lw = false := by
    rw [List.all_eq_false]
    refine ⟨s[k], ?_, by simp [hc]⟩
    show s.data[k] ∈ s.data.toList
    exact Array.getElem_mem_toList _
  rw [vWord, this]; rfl
theorem vWord_end {s : ByteArray} (h : (s.data.toList.take s.size).all lw = true) : vWord s = inB 1 20 (s.size : Int) := by
  have e : s.data.toList.take s.size = s.data.toList := List.take_of_length_le (by simp)
  rw [e] at h
  rw [vWord, h, Bool.true_and]
theorem vWord_size {s : ByteArray} (h : vWord s = true) : 1 ≤ s.size ∧ s.size ≤ 20 := by
  rw [vWord, Bool.and_eq_true, inB_iff] at h
  omega

def LowRel (s : ByteArray) (i : Value) : Prop := ∃ k : Nat, k ≤ s.size ∧ i = .int .i64 k ∧ (s.data.toList.take k).all lw = true

set_option maxHeartbeats 1000000 in
theorem specWord_any (s : ByteArray) (w : World) (hs : s.size ≤ 9223372036854775807) :
    Calls Tryd.prog 35 #[.string s] w fun e w' => e = .returned (.bool (vWord s)) ∧ w = w' := by
  obtain ⟨r, hr⟩ : ∃ r, inB 1 20 (s.size : Int) = r := ⟨_, rfl⟩
  have HR := Lib.hid hr
  clear hr
  go_enter Tryd.func35, Tryd.ntmps35
  go_wp2_with fail
  go_loop [3] (LowRel s) (fun i => s.size - (intOf i).toNat)
  case atStart => exact ⟨0, Nat.zero_le _, rfl, rfl⟩
  case round =>
    obtain ⟨k, hk, rfl, hp⟩ := hrel
    have HP := Lib.hid hp
    clear hp
    by_cases hlt : k < s.size
    · by_cases h1 : 97 ≤ s[k].toNat
      · by_cases h2 : s[k].toNat ≤ 122
        · have HC : Hid (lw s[k] = true) := by show lw s[k] = true; exact inB_true (by omega) (by omega)
          have h1' : (97 : Int) ≤ (s[k].toNat : Int) := by omega
          have h2' : (s[k].toNat : Int) ≤ 122 := by omega
          have HT := Lib.hid (lw_succ hlt HP.out HC.out)
          go_wp2_with fail
          go_round
          case rel => exact ⟨k + 1, by omega, by go_num, HT.out⟩
          case measure => simp [intOf] <;> omega
        · have HC := Lib.hid (vWord_bad hlt (inB_false (by omega)))
          have h1' : (97 : Int) ≤ (s[k].toNat : Int) := by omega
          have h2' : (122 : Int) < (s[k].toNat : Int) := by omega
          go_wp2_with fail
          go_ret
          exact ⟨ret_bool HC.out.symm, rfl⟩
      · have HC := Lib.hid (vWord_bad hlt (inB_false (by omega)))
        have h1' : (s[k].toNat : Int) < 97 := by omega
        go_wp2_with fail
        go_ret
        exact ⟨ret_bool HC.out.symm, rfl⟩
    · obtain rfl : k = s.size := by omega
      have HE := Lib.hid (vWord_end HP.out)
      go_wp2_with (go_at_call 20; refine (inRange_any _ _ _ _ HR.out _).mono ?_; rintro e w' ⟨rfl, rfl⟩)
      go_ret
      exact ⟨ret_bool (by rw [HE.out, HR.out]), rfl⟩

theorem isLower_any (a : Int) (r : Bool) (hr : inB 97 122 a = r) (w : World) :
    Calls Tryd.prog 68 #[.int .u8 a] w fun e w' => e = .returned (.bool r) ∧ w = w' := by
  subst hr
  by_cases h1 : 97 ≤ a
  · by_cases h2 : a ≤ 122
    · have HR := Lib.hid (inB_true h1 h2)
      go_enter Tryd.func68, Tryd.ntmps68
      go_wp2
      go_ret
      exact ⟨ret_bool (by rw [HR.out]), rfl⟩
    · have HR := Lib.hid (inB_false (lo := 97) (hi := 122) (a := a) (fun h => h2 h.2))
      go_enter Tryd.func68, Tryd.ntmps68
      go_wp2
      go_ret
      exact ⟨ret_bool (by rw [HR.out]), rfl⟩
  · have HR := Lib.hid (inB_false (lo := 97) (hi := 122) (a := a) (fun h => h1 h.1))
    have hd : decide (97 ≤ a) = false := decide_eq_false h1
    go_enter Tryd.func68, Tryd.ntmps68
    go_wp2
    go_ret
    exact ⟨ret_bool (by rw [HR.out]), rfl⟩

set_option maxHeartbeats 1000000 in
theorem implWord_any (s : ByteArray) (w : World) (hs : s.size ≤ 9223372036854775807) :
    Calls Tryd.prog 55 #[.string s] w fun e w' => e = .returned (.bool (vWord s)) ∧ w = w' := by
  obtain ⟨r, hr⟩ : ∃ r, inB 1 20 (s.size : Int) = r := ⟨_, rfl⟩
  have HR := Lib.hid hr
  clear hr
  go_enter Tryd.func55, Tryd.ntmps55
  go_wp2_with fail
  go_loop [6] (LowRel s) (fun i => s.size - (intOf i).toNat)
  case atStart => exact ⟨0, Nat.zero_le _, rfl, rfl⟩
  case round =>
    obtain ⟨k, hk, rfl, hp⟩ := hrel
    have HP := Lib.hid hp
    clear hp
    by_cases hlt : k < s.size
    · by_cases h1 : lw s[k] = true
      · have HT := Lib.hid (lw_succ hlt HP.out h1)
        have HC := Lib.hid h1
        clear h1
        go_wp2_with (go_at_call 68; refine (isLower_any _ true HC.out _).mono ?_; rintro e w' ⟨rfl, rfl⟩)
        go_round
        case rel => exact ⟨k + 1, by omega, by go_num, HT.out⟩
        case measure => simp [intOf] <;> omega
      · have h1' : lw s[k] = false := by simpa using h1
        have HB := Lib.hid (vWord_bad hlt h1')
        have HC := Lib.hid h1'
        clear h1 h1'
        go_wp2_with (go_at_call 68; refine (isLower_any _ false HC.out _).mono ?_; rintro e w' ⟨rfl, rfl⟩)
        go_ret
        exact ⟨ret_bool HB.out.symm, rfl⟩
    · obtain rfl : k = s.size := by omega
      have HE := Lib.hid (vWord_end HP.out)
      go_wp2_with (go_at_call 56; refine (within_any _ _ _ _ HR.out _).mono ?_; rintro e w' ⟨rfl, rfl⟩)
      go_ret
      exact ⟨ret_bool (by rw [HE.out, HR.out]), rfl⟩

/-! ### Lists of words -/
def vWords (l : List ByteArray) : Bool := l.all vWord && decide (l.length ≤ 40)
def vWrap (l : List ByteArray) (wd : Int) : Bool := vWords l && inB 20 60 wd
theorem words_bad {l : List ByteArray} {k : Nat} {x : ByteArray} (hx : l[k]? = some x) (h : vWord x = false) : vWords l = false := by
  have : l.all vWord = false := by
    rw [List.all_eq_false]
    exact ⟨x, List.mem_of_getElem? hx, by simp [h]⟩
  rw [vWords, this]; rfl
theorem words_step {l : List ByteArray} {k : Nat} {x : ByteArray} (hx : l[k]? = some x) (h : (l.take k).all vWord = true) (hv : vWord x = true) : (l.take (k + 1)).all vWord = true := by
  rw [List.take_add_one, hx, List.all_append, h]
  simp [hv]
theorem words_end {l : List ByteArray} {n : Nat} (hl : l.length = n) (h : (l.take n).all vWord = true) : vWords l = decide (n ≤ 40) := by
  rw [← hl, List.take_length] at h
  rw [vWords, h, hl, Bool.true_and]

def WdRel (l : List ByteArray) (n : Nat) (i : Value) : Prop := ∃ k : Nat, k ≤ n ∧ i = .int .i64 k ∧ (l.take k).all vWord = true

set_option maxHeartbeats 1000000 in
theorem specWords_any (A : Option Addr) (n c : Nat) (l : List ByteArray) (w : World) (hx : Rd w 1 A n (strs' l)) (hn : n ≤ 1048576) (hz : ∀ s ∈ l, s.size ≤ 9223372036854775807) :
    Calls Tryd.prog 19 #[.slice A n c] w fun e w' => e = .returned (.bool (vWords l)) ∧ w = w' := by
  have HL := Lib.hid hx.slen
  have HZ := Lib.hid hz
  clear hz
  go_enter Tryd.func19, Tryd.ntmps19
  go_wp2_with fail
  go_loop [3] (WdRel l n) (fun i => n - (intOf i).toNat)
  case atStart => exact ⟨0, Nat.zero_le _, rfl, rfl⟩
  case round =>
    obtain ⟨k, hk, rfl, hp⟩ := hrel
    have HP := Lib.hid hp
    clear hp
    by_cases hlt : k < n
    · obtain ⟨b, o, s, rfl, ex, hc0⟩ := hx.str_at hlt
      have hsz := HZ.out s (List.mem_of_getElem? ex)
      have EX := Lib.hid ex
      clear hx ex
      have HC := Lib.hid (specWord_any s w hsz)
      cases hv : vWord s
      · have HB := Lib.hid (words_bad EX.out hv)
        rw [hv] at HC
        clear hv
        go_wp2_with (go_at_call 35; refine HC.out.mono ?_; rintro e w' ⟨rfl, rfl⟩)
        go_ret
        exact ⟨ret_bool HB.out.symm, rfl⟩
      · have HT := Lib.hid (words_step EX.out HP.out hv)
        rw [hv] at HC
        clear hv
        go_wp2_with (go_at_call 35; refine HC.out.mono ?_; rintro e w' ⟨rfl, rfl⟩)
        go_round
        case rel => exact ⟨k + 1, by omega, by go_num, HT.out⟩
        case measure => simp [intOf] <;> omega
    · obtain rfl : k = n := by omega
      have HE := Lib.hid (words_end HL.out HP.out)
      clear hx
      go_wp2_with fail
      go_ret
      refine ⟨ret_bool ?_, rfl⟩
      rw [HE.out, Bool.eq_iff_iff]
      simp
      omega

set_option maxHeartbeats 1000000 in
theorem implWrap_any (A : Option Addr) (n c : Nat) (l : List ByteArray) (wd : Int) (w : World) (hx : Rd w 1 A n (strs' l)) (hn : n ≤ 1048576) (hz : ∀ s ∈ l, s.size ≤ 9223372036854775807) :
    Calls Tryd.prog 31 #[.slice A n c, .int .i64 wd] w fun e w' => e = .returned (.bool (vWrap l wd)) ∧ w = w' := by
  have HL := Lib.hid hx.slen
  have HZ := Lib.hid hz
  clear hz
  obtain ⟨r, hr⟩ : ∃ r, inB 20 60 wd = r := ⟨_, rfl⟩
  have HR := Lib.hid hr
  clear hr
  go_enter Tryd.func31, Tryd.ntmps31
  go_wp2_with fail
  go_loop [9] (WdRel l n) (fun i => n - (intOf i).toNat)
  case atStart => exact ⟨0, Nat.zero_le _, rfl, rfl⟩
  case round =>
    obtain ⟨k, hk, rfl, hp⟩ := hrel
    have HP := Lib.hid hp
    clear hp
    by_cases hlt : k < n
    · obtain ⟨b, o, s, rfl, ex, hc0⟩ := hx.str_at hlt
      have hsz := HZ.out s (List.mem_of_getElem? ex)
      have EX := Lib.hid ex
      clear hx ex
      have HC := Lib.hid (implWord_any s w hsz)
      cases hv : vWord s
      · have HB := Lib.hid (words_bad EX.out hv)
        rw [hv] at HC
        clear hv
        go_wp2_with (go_at_call 55; refine HC.out.mono ?_; rintro e w' ⟨rfl, rfl⟩)
        go_ret
        exact ⟨ret_bool (by rw [vWrap, HB.out]; rfl), rfl⟩
      · have HT := Lib.hid (words_step EX.out HP.out hv)
        rw [hv] at HC
        clear hv
        go_wp2_with (go_at_call 55; refine HC.out.mono ?_; rintro e w' ⟨rfl, rfl⟩)
        go_round
        case rel => exact ⟨k + 1, by omega, by go_num, HT.out⟩
        case measure => simp [intOf] <;> omega
    · obtain rfl : k = n := by omega
      have HE := Lib.hid (words_end HL.out HP.out)
      clear hx
      by_cases h40 : k ≤ 40
      · have h40' : (k : Int) ≤ 40 := by omega
        go_wp2_with (go_at_call 56; refine (within_any _ _ _ _ HR.out _).mono ?_; rintro e w' ⟨rfl, rfl⟩)
        go_ret
        exact ⟨ret_bool (by rw [vWrap, HE.out, HR.out]; simp [h40]), rfl⟩
      · have h40' : decide ((k : Int) ≤ 40) = false := decide_eq_false (by omega)
        have h40'' : decide (k ≤ 40) = false := decide_eq_false (by omega)
        go_wp2_with fail
        go_ret
        exact ⟨ret_bool (by rw [vWrap, HE.out]; simp [h40]), rfl⟩

/-! ### The length of a line -/
def sizes (l : List ByteArray) : List Nat := l.map ByteArray.size
theorem sizes_at {l : List ByteArray} {k : Nat} {s : ByteArray} (h : l[k]? = some s) : (sizes l)[k]? = some s.size := by rw [sizes, List.getElem?_map, h]; rfl
theorem sum_step {L : List Nat} {k x : Nat} (h : L[k]? = some x) : (L.take (k + 1)).sum = (L.take k).sum + x := by
  rw [List.take_add_one, h]; simp
theorem sum_bound {L : List Nat} {B : Nat} (h : ∀ x ∈ L, x ≤ B) : ∀ k, (L.take k).sum ≤ k * B := by
  intro k
  induction k with
  | zero => simp
  | succ k ih =>
    rcases hk : L[k]? with _ | x
    · rw [List.take_add_one, hk]; simp; rw [Nat.add_mul]; omega
    · rw [sum_step hk, Nat.add_mul]
      have := h x (List.mem_of_getElem? hk)
      omega
theorem sizes_length (l : List ByteArray) : (sizes l).length = l.length := by simp [sizes]

def LenRel (L : List Nat) (n : Nat) (i s : Value) : Prop := ∃ k : Nat, k ≤ n ∧ i = .int .i64 k ∧ s = .int .i64 ((n : Int) - 1 + ((L.take k).sum : Nat))

set_option maxHeartbeats 1000000 in
theorem implLen_any (A : Option Addr) (n c : Nat) (l : List ByteArray) (w : World) (hx : Rd w 1 A n (strs' l)) (hn1 : 1 ≤ n) (hn : n ≤ 40) (hz : ∀ s ∈ l, s.size ≤ 20) :
    Calls Tryd.prog 32 #[.slice A n c] w fun e w' => e = .returned (.int .i64 (lineLen (sizes l))) ∧ w = w' := by
  have HL := Lib.hid hx.slen
  have hB : ∀ x ∈ sizes l, x ≤ 20 := by intro x hx; obtain ⟨s, hs, rfl⟩ := List.mem_map.1 hx; exact hz s hs
  have HS := Lib.hid (sum_bound hB)
  clear hz hB
  go_enter Tryd.func32, Tryd.ntmps32
  go_wp2_with fail
  go_loop [11, 3] (LenRel (sizes l) n) (fun i _ => n - (intOf i).toNat)
  case atStart => exact ⟨0, Nat.zero_le _, rfl, by simp⟩
  case round =>
    obtain ⟨k, hk, rfl, rfl⟩ := hrel
    obtain ⟨S, hS⟩ : ∃ S, S = ((sizes l).take k).sum := ⟨_, rfl⟩
    have hSb : S ≤ k * 20 := by rw [hS]; exact HS.out k
    rw [← hS]
    have HSE := Lib.hid hS
    clear hS
    by_cases hlt : k < n
    · obtain ⟨b, o, s, rfl, ex, hc0⟩ := hx.str_at hlt
      have hst := sum_step (sizes_at ex)
      rw [← HSE.out] at hst
      have hb2 := HS.out (k + 1)
      rw [hst] at hb2
      have HST := Lib.hid hst
      clear hx ex hst
      have hss : s.size ≤ 1000 := by omega
      go_wp2_with fail
      go_round
      case rel => exact ⟨k + 1, by omega, by go_num, by rw [HST.out]; congr 1; omega⟩
      case measure => simp [intOf] <;> omega
    · obtain rfl : k = n := by omega
      clear hx
      go_wp2_with fail
      go_ret
      refine ⟨ret_int ?_, rfl⟩
      rw [HSE.out, lineLen, List.take_of_length_le (by rw [sizes_length, HL.out]; exact Nat.le_refl _), sizes_length, HL.out]
      omega

set_option maxHeartbeats 1000000 in
theorem specLen_any (A : Option Addr) (n c : Nat) (l : List ByteArray) (w : World) (hx : Rd w 1 A n (strs' l)) (hn1 : 1 ≤ n) (hn : n ≤ 40) (hz : ∀ s ∈ l, s.size ≤ 20) :
    Calls Tryd.prog 22 #[.slice A n c] w fun e w' => e = .returned (.int .i64 (lineLen (sizes l))) ∧ w = w' := by
  have HL := Lib.hid hx.slen
  have hB : ∀ x ∈ sizes l, x ≤ 20 := by intro x hx; obtain ⟨s, hs, rfl⟩ := List.mem_map.1 hx; exact hz s hs
  have HS := Lib.hid (sum_bound hB)
  clear hz hB
  have hn0 : (0 : Int) ≤ (n : Int) - 1 := by omega
  have hn0' : (1 : Int) ≤ (n : Int) := by omega
  have hmax : max ((n : Int) - 1) 0 = (n : Int) - 1 := by omega
  go_enter Tryd.func22, Tryd.ntmps22
  go_wp2_with fail
  go_loop [4, 3] (LenRel (sizes l) n) (fun i _ => n - (intOf i).toNat)
  case atStart => exact ⟨0, Nat.zero_le _, rfl, by simp⟩
  case round =>
    obtain ⟨k, hk, rfl, rfl⟩ := hrel
    obtain ⟨S, hS⟩ : ∃ S, S = ((sizes l).take k).sum := ⟨_, rfl⟩
    have hSb : S ≤ k * 20 := by rw [hS]; exact HS.out k
    rw [← hS]
    have HSE := Lib.hid hS
    clear hS
    by_cases hlt : k < n
    · obtain ⟨b, o, s, rfl, ex, hc0⟩ := hx.str_at hlt
      have hst := sum_step (sizes_at ex)
      rw [← HSE.out] at hst
      have hb2 := HS.out (k + 1)
      rw [hst] at hb2
      have HST := Lib.hid hst
      clear hx ex hst
      have hss : s.size ≤ 1000 := by omega
      go_wp2_with fail
      go_round
      case rel => exact ⟨k + 1, by omega, by go_num, by rw [HST.out]; congr 1; omega⟩
      case measure => simp [intOf] <;> omega
    · obtain rfl : k = n := by omega
      clear hx
      go_wp2_with fail
      go_ret
      refine ⟨ret_int ?_, rfl⟩
      rw [HSE.out, lineLen, List.take_of_length_le (by rw [sizes_length, HL.out]; exact Nat.le_refl _), sizes_length, HL.out]
      omega
end Go.Proofs.YtmljofijeladoaaDoor
