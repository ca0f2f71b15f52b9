/-
  The plain law of trimming: spaces at the ends of rows, and empty rows at the end, are left out.
-/
import Derived.Test.YtigcbnehcofbcaaDoorText
import Derived.Test.YtigcbnehcofbcaaDoorStrs
namespace Go.Proofs.YtigcbnehcofbcaaDoor
open Go.RowKit
set_option linter.unusedVariables false

/-- How much of the first n characters is left. -/
def trimN (l : List UInt8) : Nat → Nat
  | 0 => 0
  | n + 1 => if l[n]? = some 32 then trimN l n else n + 1
theorem trimN_le (l : List UInt8) : ∀ n, trimN l n ≤ n
  | 0 => Nat.le_refl _
  | n + 1 => by
    rw [trimN]
    split
    · exact Nat.le_succ_of_le (trimN_le l n)
    · exact Nat.le_refl _
theorem trimN_stop (l : List UInt8) : ∀ n, 0 < trimN l n → l[trimN l n - 1]? ≠ some 32
  | 0, h => absurd h (by rw [trimN]; omega)
  | n + 1, h => by
    rw [trimN] at h ⊢
    split
    · rename_i hc
      rw [if_pos hc] at h
      exact trimN_stop l n h
    · rename_i hc
      exact hc
theorem trimN_spaces (l : List UInt8) : ∀ n j, trimN l n ≤ j → j < n → l[j]? = some 32
  | 0, j, _, h => by omega
  | n + 1, j, h1, h2 => by
    rw [trimN] at h1
    split at h1
    · rename_i hc
      rcases Nat.lt_or_ge j n with h3 | h3
      · exact trimN_spaces l n j h1 h3
      · obtain rfl : j = n := by omega
        exact hc
    · omega
theorem trimN_cut (l : List UInt8) (m : Nat) : ∀ n, n ≤ m → trimN (l.take m) n = trimN l n
  | 0, _ => rfl
  | n + 1, h => by
    show (if (l.take m)[n]? = some 32 then trimN (l.take m) n else n + 1) = (if l[n]? = some 32 then trimN l n else n + 1)
    rw [List.getElem?_take, if_pos (show n < m by omega), trimN_cut l m n (by omega)]
def trimS (s : ByteArray) : ByteArray := s.extract 0 (trimN s.data.toList s.size)
theorem ext0_list (s : ByteArray) (n : Nat) : (s.extract 0 n).data.toList = s.data.toList.take n := by
  rw [ByteArray.data_extract, Array.toList_extract, List.extract_eq_take_drop]
  simp
theorem ext0_size {s : ByteArray} {n : Nat} (h : n ≤ s.size) : (s.extract 0 n).size = n := by
  have h1 : (s.extract 0 n).size = (s.extract 0 n).data.toList.length := rfl
  have h2 : s.data.toList.length = s.size := rfl
  rw [h1, ext0_list, List.length_take]
  omega
theorem ext0_ext0 {s : ByteArray} {n m : Nat} (h : m ≤ n) : (s.extract 0 n).extract 0 m = s.extract 0 m := by
  apply ByteArray.ext
  apply Array.toList_inj.1
  rw [ext0_list, ext0_list, ext0_list, List.take_take]
  congr 1
  omega
theorem ext0_all (s : ByteArray) : s.extract 0 s.size = s := by
  apply ByteArray.ext
  apply Array.toList_inj.1
  rw [ext0_list]
  exact List.take_of_length_le (Nat.le_refl _)
theorem byte_at {s : ByteArray} {k : Nat} (h : k < s.size) : s.data.toList[k]? = some s[k] := by
  have h2 : k < s.data.toList.length := h
  rw [List.getElem?_eq_getElem h2]
  rfl
theorem trimS_step {T : ByteArray} {n : Nat} (hn : T.size = n + 1) (hc : T[n]'(by omega) = 32) : trimS (T.extract 0 n) = trimS T := by
  unfold trimS
  have h1 := byte_at (s := T) (k := n) (by omega)
  rw [hc] at h1
  rw [ext0_size (by omega), ext0_list, trimN_cut _ _ _ (Nat.le_refl _), hn, trimN, if_pos h1, ext0_ext0 (trimN_le _ _)]
theorem trimS_stop {T : ByteArray} (h : ∀ n, (hn : T.size = n + 1) → T[n]'(by omega) ≠ 32) : trimS T = T := by
  unfold trimS
  have h2 : trimN T.data.toList T.size = T.size := by
    cases hs : T.size with
    | zero => rfl
    | succ n =>
      have h1 := byte_at (s := T) (k := n) (by omega)
      rw [trimN, if_neg]
      rw [h1]
      intro e
      injection e with e
      exact h n hs e
  rw [h2]
  exact ext0_all T
theorem trimS_size (s : ByteArray) : (trimS s).size = trimN s.data.toList s.size := ext0_size (trimN_le _ _)
/-- How many rows are left of the first n. -/
def filN (l : List ByteArray) : Nat → Nat
  | 0 => 0
  | n + 1 => if l[n]? = some ⟨#[]⟩ then filN l n else n + 1
theorem filN_le (l : List ByteArray) : ∀ n, filN l n ≤ n
  | 0 => Nat.le_refl _
  | n + 1 => by
    rw [filN]
    split
    · exact Nat.le_succ_of_le (filN_le l n)
    · exact Nat.le_refl _
theorem filN_stop (l : List ByteArray) : ∀ n, 0 < filN l n → l[filN l n - 1]? ≠ some ⟨#[]⟩
  | 0, h => absurd h (by rw [filN]; omega)
  | n + 1, h => by
    rw [filN] at h ⊢
    split
    · rename_i hc
      rw [if_pos hc] at h
      exact filN_stop l n h
    · rename_i hc
      exact hc
theorem filN_empty (l : List ByteArray) : ∀ n j, filN l n ≤ j → j < n → l[j]? = some ⟨#[]⟩
  | 0, j, _, h => by omega
  | n + 1, j, h1, h2 => by
    rw [filN] at h1
    split at h1
    · rename_i hc
      rcases Nat.lt_or_ge j n with h3 | h3
      · exact filN_empty l n j h1 h3
      · obtain rfl : j = n := by omega
        exact hc
    · omega
theorem filN_cut (l : List ByteArray) (m : Nat) : ∀ n, n ≤ m → filN (l.take m) n = filN l n
  | 0, _ => rfl
  | n + 1, h => by
    show (if (l.take m)[n]? = some ⟨#[]⟩ then filN (l.take m) n else n + 1) = (if l[n]? = some ⟨#[]⟩ then filN l n else n + 1)
    rw [List.getElem?_take, if_pos (show n < m by omega), filN_cut l m n (by omega)]
def dropT (l : List ByteArray) : List ByteArray := l.take (filN l l.length)
def vRows (l : List ByteArray) : Bool := decide (l.length ≤ 60) && l.all vText
/-- What TrimRows gives. -/
def trimT (l : List ByteArray) : List ByteArray := if vRows l = true then dropT (l.map trimS) else []
theorem rows_bad {l : List ByteArray} {k : Nat} {s : ByteArray} (hs : l[k]? = some s) (h : vText s = false) : ¬ vRows l = true := by
  intro hv
  simp only [vRows, Bool.and_eq_true, List.all_eq_true] at hv
  rw [hv.2 s (List.mem_of_getElem? hs)] at h
  cases h
theorem rows_step {l : List ByteArray} {k : Nat} {s : ByteArray} (hs : l[k]? = some s) (h : (l.take k).all vText = true) (hv : vText s = true) : (l.take (k + 1)).all vText = true := by
  rw [List.take_add_one, hs, List.all_append, h]
  simp [hv]
theorem rows_good {l : List ByteArray} (h60 : l.length ≤ 60) (h : (l.take l.length).all vText = true) : vRows l = true := by
  rw [List.take_length] at h
  simp [vRows, h60]
  simpa using h
theorem trimT_len (l : List ByteArray) : (trimT l).length ≤ 60 := by
  unfold trimT
  split
  · rename_i hv
    simp only [vRows, Bool.and_eq_true, decide_eq_true_eq] at hv
    unfold dropT
    rw [List.length_take, List.length_map]
    omega
  · simp
theorem map_next {l : List ByteArray} {k : Nat} {s : ByteArray} (h : l[k]? = some s) : (l.map trimS).take (k + 1) = (l.map trimS).take k ++ [trimS s] := by
  rw [List.take_add_one, List.getElem?_map, h]
  rfl
/-- A beginning of a row of the call's own. -/
theorem pre_rd {w : World} {base : Nat} {E : TypeId} {A : Option Addr} {N C f : Nat} {ys xs : List ByteArray} (h : w.ownsRow base E 1 (.slice A N C) N (strs' ys)) (hf : f ≤ N) (e : ys.take f = xs) : Rd w 1 A f (strs' xs) := by
  have hr := Rd.own h
  have hl := hr.slen
  refine ⟨by rw [← e, strs_length, List.length_take]; omega, fun hn => ?_⟩
  obtain ⟨b, o, eA, hc⟩ := hr.2 (by omega)
  refine ⟨b, o, eA, fun j hj => ?_⟩
  rw [hc j (by omega), ← e]
  unfold strs'
  rw [List.getElem?_map, List.getElem?_map, List.getElem?_take, if_pos (by omega)]
theorem own_take {w : World} {base : Nat} {E : TypeId} {L : Option Addr} {n c m : Nat} {xs : List Value} (h : w.ownsRow base E 1 (.slice L n c) n xs) (hm : m ≤ n) (hm0 : L ≠ none) : w.ownsRow base E 1 (.slice L m c) m (xs.take m) := by
  have hl := h.1
  refine ⟨by rw [List.length_take]; omega, ?_⟩
  rcases h.2 with ⟨hv, _⟩ | ⟨g', cap, cur, hv, hg, hh, hn', hc, hz, hx⟩
  · injection hv with h1
    exact absurd h1 hm0
  · injection hv with h1 _ h3
    refine .inr ⟨g', cap, cur, by rw [h1, h3], hg, hh, by omega, hc, hz, ?_⟩
    rw [← hx, List.take_take, Nat.mul_one, Nat.mul_one]
    congr 1
    omega
end Go.Proofs.YtigcbnehcofbcaaDoor
