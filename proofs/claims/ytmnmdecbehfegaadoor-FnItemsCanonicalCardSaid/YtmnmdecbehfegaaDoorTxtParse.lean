/-
  Contracts of the reference's functions that read an item: cutting a text, reading a number, the item.
-/
import Derived.Test.YtmnmdecbehfegaaDoorTxtEnc
import Derived.Test.YtmnmdecbehfegaaDoorStrs
namespace Go.Proofs.YtmnmdecbehfegaaDoor
open Go.RowKit
set_option linter.unusedVariables false

def MadeS (w : World) (l : List ByteArray) (e : Ending) (w' : World) : Prop := ∃ v, e = .returned v ∧ w'.ownsRow w.heap.size 9 1 v l.length (strs' l) ∧ Below w.heap.size w w'
theorem own_strs {w : World} {b : Nat} {E : TypeId} {v : Value} {m : Nat} {out : List ByteArray} {z : ByteArray} (h : w.ownsRow b E 1 v (m + 1) (strs' out ++ [.string z])) : w.ownsRow b E 1 v (m + 1) (strs' (out ++ [z])) := by
  simpa [strs'] using h

def SpR (w : World) (s : ByteArray) (b : UInt8) (N : Nat) (vo vf vi : Value) (wr : World) : Prop :=
  ∃ (out : List ByteArray) (m f i : Nat), vf = .int .i64 f ∧ vi = .int .i64 i ∧ CutInv s b N out f i ∧ out.length = m ∧ wr.ownsRow w.heap.size 9 1 vo m (strs' out) ∧ Below w.heap.size w wr

set_option maxHeartbeats 4000000 in
theorem split_any (s : ByteArray) (b : UInt8) (N : Nat) (w : World) (hs : s.size ≤ 4294967280) (hN : N ≤ 1000) :
    Calls Tryd.prog 49 #[.string s, .int .u8 (b.toNat : Int), .int .i64 (N : Int)] w (MadeS w (cutB b N s)) := by
  have BA0 := Lib.hid ((Below.refl w.heap.size w).alloc (Nat.le_refl _) (.cells #[] 9))
  have ON : Hid ((w.alloc (.cells #[] 9)).ownsRow w.heap.size 9 1 (.slice (some ⟨w.heap.size, 0, none⟩) 0 0) 0 (strs' [])) :=
    ⟨by simp [strs'], .inr ⟨w.heap.size, 0, #[], rfl, Nat.le_refl _, heap_alloc_new w _, Nat.le_refl _, by unfold maxLen; omega, rfl, rfl⟩⟩
  go_enter Tryd.func49, Tryd.ntmps49
  go_wp2_with fail
  go_loopw [7, 8, 9] (SpR w s b N) (fun _ _ i _ => s.size - (intOf i).toNat)
  case atStart => exact ⟨[], 0, 0, 0, rfl, rfl, CutInv.start s b N, rfl, ON.out, BA0.out⟩
  case round =>
    obtain ⟨out, m, f, i, rfl, rfl, hci, hm, hown, hb⟩ := hrel
    have CI := Lib.hid hci
    have HM := Lib.hid hm
    have OW := Lib.hid hown
    have HB := Lib.hid hb
    have hfi := hci.fi
    have hil := hci.il
    have hle := hci.le
    rw [hm] at hle
    clear hci hm hown hb
    obtain ⟨L, d, hsh, hmd⟩ := own_shape OW.out
    subst hsh
    have hsz := HB.out.size
    by_cases hlt : i < s.size
    · by_cases hmN : m < N
      · by_cases hbb : s[i] = b
        · have NX := Lib.hid (CI.out.hit hlt hbb (by rw [HM.out]; exact hmN))
          have hcmp : ((s[i].toNat : Int) == (b.toNat : Int)) = true := by rw [hbb]; simp
          clear hbb
          go_wp2_with (at_builtin; refine app_lit elemStr rfl _ _ rfl OW.out _ _ [.string (s.extract f i)] rfl rfl rfl (by simp [Value.oneCell']) (by omega) hsz ?_; intro v3 w3 ho3 hg3)
          have O3 := Lib.hid (own_strs ho3)
          have B3 := Lib.hid (below_app (HB.out.alloc hsz _) hg3 OW.out (Nat.le_refl _))
          clear ho3 hg3
          go_wp2_with fail
          go_roundw
          case rel => exact ⟨out ++ [s.extract f i], m + 1, i + 1, i + 1, by go_num, by go_num, NX.out, by simp [HM.out], O3.out, B3.out⟩
          case measure => simp [intOf] <;> omega
        · have NX := Lib.hid (CI.out.miss hlt hbb (by rw [HM.out]; exact hmN))
          have hcmp : ((s[i].toNat : Int) == (b.toNat : Int)) = false := by
            rw [beq_eq_false_iff_ne]
            intro h
            exact hbb (UInt8.toNat_inj.1 (by omega))
          clear hbb
          go_wp2_with fail
          go_roundw
          case rel => exact ⟨out, m, f, i + 1, rfl, by go_num, NX.out, HM.out, OW.out, HB.out⟩
          case measure => simp [intOf] <;> omega
      · have hmN' : m = N := by omega
        have DN := Lib.hid (CI.out.done (.inr (by rw [HM.out]; omega)))
        go_wp2_with (at_builtin; refine app_lit elemStr rfl _ _ rfl OW.out _ _ [.string (s.extract f s.size)] rfl rfl rfl (by simp [Value.oneCell']) (by omega) hsz ?_; intro v3 w3 ho3 hg3)
        have O3 := Lib.hid (own_strs ho3)
        have B3 := Lib.hid (below_app (HB.out.alloc hsz _) hg3 OW.out (Nat.le_refl _))
        clear ho3 hg3
        go_wp2_with fail
        go_ret
        refine ⟨_, rfl, ?_, B3.out⟩
        rw [DN.out, List.length_append, HM.out]
        exact O3.out
    · have DN := Lib.hid (CI.out.done (.inl (by omega)))
      go_wp2_with (at_builtin; refine app_lit elemStr rfl _ _ rfl OW.out _ _ [.string (s.extract f s.size)] rfl rfl rfl (by simp [Value.oneCell']) (by omega) hsz ?_; intro v3 w3 ho3 hg3)
      have O3 := Lib.hid (own_strs ho3)
      have B3 := Lib.hid (below_app (HB.out.alloc hsz _) hg3 OW.out (Nat.le_refl _))
      clear ho3 hg3
      go_wp2_with fail
      go_ret
      refine ⟨_, rfl, ?_, B3.out⟩
      rw [DN.out, List.length_append, HM.out]
      exact O3.out

def PiR (w : World) (t : ByteArray) (vn vi : Value) (wr : World) : Prop :=
  ∃ k : Nat, k ≤ t.size ∧ k ≤ 9 ∧ vn = .int .i64 (psum (t.data.toList.take k)) ∧ vi = .int .i64 k ∧ wr = w
theorem psum_end {t : ByteArray} {k : Nat} (h : k = t.size ∨ k = 9) (h9 : k ≤ 9) : psum (t.data.toList.take k) = psum (t.data.toList.take 9) := by
  rcases h with rfl | rfl
  · rw [List.take_of_length_le (show t.data.toList.length ≤ t.size from Nat.le_refl _), List.take_of_length_le (show t.data.toList.length ≤ 9 from h9)]
  · rfl
set_option maxHeartbeats 4000000 in
theorem parseInt_pos (s : ByteArray) (w : World) (hs : s.size ≤ 4294967280) (h : unsign s.data.toList = s.data.toList ∧ signOf s.data.toList = 1) (hm : s.size = 0 ∨ ∃ h : 0 < s.size, s[0] ≠ 45) :
    Calls Tryd.prog 64 #[.string s] w fun e w' => e = .returned (.int .i64 (pIntL s.data.toList)) ∧ w = w' := by
  have FIN : Hid (pIntL s.data.toList = psum (s.data.toList.take 9)) := by show _ = _; rw [pIntL, h.1, h.2, Int.one_mul]
  clear h
  rcases hm with hm | ⟨h0, hm⟩
  · have hn0 : ¬ 0 < s.size := by omega
    go_enter Tryd.func64, Tryd.ntmps64
    go_wp2_with fail
    go_loopw [4, 5] (PiR w s) (fun _ i _ => 9 - (intOf i).toNat)
    case atStart => exact ⟨0, Nat.zero_le _, Nat.zero_le _, by simp [psum], rfl, rfl⟩
    case round =>
      obtain ⟨k, hk, hk9, rfl, rfl, rfl⟩ := hrel
      have hbd := psum_bound (l := (s).data.toList) hk9
      obtain ⟨P, hP⟩ : ∃ P, P = psum ((s).data.toList.take k) := ⟨_, rfl⟩
      have HP := Lib.hid hP
      rw [← hP] at hbd ⊢
      clear hP
      by_cases hlt : k < (s).size
      · exfalso; omega
      · have EN := Lib.hid (psum_end (t := s) (.inl (by omega)) hk9)
        go_wp2_with fail
        go_ret
        exact ⟨ret_int (by rw [FIN.out, ← EN.out, ← HP.out]), rfl⟩
  · have hcm : ((s[0].toNat : Int) == 45) = false := by
      rw [beq_eq_false_iff_ne]
      intro h
      exact hm (UInt8.toNat_inj.1 (by show s[0].toNat = 45; omega))
    clear hm
    go_enter Tryd.func64, Tryd.ntmps64
    go_wp2_with fail
    go_loopw [4, 5] (PiR w s) (fun _ i _ => 9 - (intOf i).toNat)
    case atStart => exact ⟨0, Nat.zero_le _, Nat.zero_le _, by simp [psum], rfl, rfl⟩
    case round =>
      obtain ⟨k, hk, hk9, rfl, rfl, rfl⟩ := hrel
      have hbd := psum_bound (l := (s).data.toList) hk9
      obtain ⟨P, hP⟩ : ∃ P, P = psum ((s).data.toList.take k) := ⟨_, rfl⟩
      have HP := Lib.hid hP
      rw [← hP] at hbd ⊢
      clear hP
      by_cases hlt : k < (s).size
      · by_cases h9 : k < 9
        · have NX := Lib.hid (psum_next (at_toList (s) hlt))
          have hb1 := ((s)[k]).toNat_lt
          go_wp2_with fail
          go_roundw
          case rel => exact ⟨k + 1, by omega, by omega, by rw [NX.out, ← HP.out], by go_num, rfl⟩
          case measure => simp [intOf] <;> omega
        · have EN := Lib.hid (psum_end (t := s) (.inr (by omega)) hk9)
          go_wp2_with fail
          go_ret
          exact ⟨ret_int (by rw [FIN.out, ← EN.out, ← HP.out]), rfl⟩
      · have EN := Lib.hid (psum_end (t := s) (.inl (by omega)) hk9)
        go_wp2_with fail
        go_ret
        exact ⟨ret_int (by rw [FIN.out, ← EN.out, ← HP.out]), rfl⟩

set_option maxHeartbeats 4000000 in
theorem parseInt_neg (s : ByteArray) (w : World) (hs : s.size ≤ 4294967280) (h0 : 0 < s.size) (hm : s[0] = 45) (h : unsign s.data.toList = (s.extract 1 s.size).data.toList ∧ signOf s.data.toList = -1) :
    Calls Tryd.prog 64 #[.string s] w fun e w' => e = .returned (.int .i64 (pIntL s.data.toList)) ∧ w = w' := by
  have FIN : Hid (pIntL s.data.toList = -1 * psum ((s.extract 1 s.size).data.toList.take 9)) := by show _ = _; rw [pIntL, h.1, h.2]
  have hcm : ((s[0].toNat : Int) == 45) = true := by rw [hm]; rfl
  have hz : (s.extract 1 s.size).size = s.size - 1 := by rw [ByteArray.size_extract]; omega
  clear h hm
  obtain ⟨t, ht⟩ : ∃ t, t = s.extract 1 s.size := ⟨_, rfl⟩
  go_enter Tryd.func64, Tryd.ntmps64
  go_wp2_with fail
  rw [← ht] at FIN hz ⊢
  clear ht
  go_loopw [4, 5] (PiR w t) (fun _ i _ => 9 - (intOf i).toNat)
  case atStart => exact ⟨0, Nat.zero_le _, Nat.zero_le _, by simp [psum], rfl, rfl⟩
  case round =>
    obtain ⟨k, hk, hk9, rfl, rfl, rfl⟩ := hrel
    have hbd := psum_bound (l := (t).data.toList) hk9
    obtain ⟨P, hP⟩ : ∃ P, P = psum ((t).data.toList.take k) := ⟨_, rfl⟩
    have HP := Lib.hid hP
    rw [← hP] at hbd ⊢
    clear hP
    by_cases hlt : k < (t).size
    · by_cases h9 : k < 9
      · have NX := Lib.hid (psum_next (at_toList (t) hlt))
        have hb1 := ((t)[k]).toNat_lt
        go_wp2_with fail
        go_roundw
        case rel => exact ⟨k + 1, by omega, by omega, by rw [NX.out, ← HP.out], by go_num, rfl⟩
        case measure => simp [intOf] <;> omega
      · have EN := Lib.hid (psum_end (t := t) (.inr (by omega)) hk9)
        go_wp2_with fail
        go_ret
        exact ⟨ret_int (by rw [FIN.out, ← EN.out, ← HP.out]; try omega), rfl⟩
    · have EN := Lib.hid (psum_end (t := t) (.inl (by omega)) hk9)
      go_wp2_with fail
      go_ret
      exact ⟨ret_int (by rw [FIN.out, ← EN.out, ← HP.out]; try omega), rfl⟩

theorem parseInt_any (s : ByteArray) (w : World) (hs : s.size ≤ 4294967280) :
    Calls Tryd.prog 64 #[.string s] w fun e w' => e = .returned (.int .i64 (pIntL s.data.toList)) ∧ w = w' := by
  by_cases h0 : 0 < s.size
  · have hc : s.data.toList = s[0] :: s.data.toList.drop 1 := by
      have := List.drop_eq_getElem_cons (l := s.data.toList) (i := 0) h0
      rwa [List.drop_zero] at this
    by_cases h1 : s[0] = 45
    · refine parseInt_neg s w hs h0 h1 ⟨?_, ?_⟩
      · rw [ext_toList, List.take_of_length_le (by rw [List.length_drop]; exact Nat.le_refl _)]
        rw [hc, unsign, if_pos h1]; rfl
      · rw [hc, signOf, if_pos h1]
    · refine parseInt_pos s w hs ⟨?_, ?_⟩ (.inr ⟨h0, h1⟩)
      · rw [hc, unsign, if_neg h1]
      · rw [hc, signOf, if_neg h1]
  · have he : s.data.toList = [] := List.eq_nil_of_length_eq_zero (by show s.size = 0; omega)
    refine parseInt_pos s w hs ⟨?_, ?_⟩ (.inl (by omega))
    · rw [he]; rfl
    · rw [he]; rfl


theorem word_any (A : Option Addr) (n c i : Nat) (l : List ByteArray) (w : World) (hx : Rd w 1 A n (strs' l)) (hn : n ≤ 1048576) (hi : i ≤ 1000) :
    Calls Tryd.prog 65 #[.slice A n c, .int .i64 (i : Int)] w fun e w' => e = .returned (.string (wordB l i)) ∧ w = w' := by
  have hl := hx.slen
  by_cases hlt : i < n
  · obtain ⟨b, o, t, rfl, et, hc⟩ := hx.str_at hlt
    have E : Hid (wordB l i = t) := by show _ = _; rw [wordB, et]; rfl
    clear hx et
    go_enter Tryd.func65, Tryd.ntmps65
    go_wp2
    go_ret
    exact ⟨congrArg (fun z => Ending.returned (.string z)) E.out.symm, rfl⟩
  · have E : Hid (wordB l i = ⟨#[]⟩) := by show _ = _; rw [wordB, List.getElem?_eq_none (by omega)]; rfl
    clear hx
    go_enter Tryd.func65, Tryd.ntmps65
    go_wp2
    go_ret
    exact ⟨congrArg (fun z => Ending.returned (.string z)) E.out.symm, rfl⟩
end Go.Proofs.YtmnmdecbehfegaaDoor
