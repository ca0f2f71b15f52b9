/-
  Laws of shown texts: text from left to right is not changed; and the generator of the arguments.
-/
import Derived.Test.YtonkminebememaaShow
import Derived.Test.YtonkminebememaaDrawLevels
namespace Go.Proofs.Ytonkminebememaa
open Go.RowKit
set_option linter.unusedVariables false

theorem str_no {s : ByteArray} (h : ¬ s = ⟨#[]⟩) : (s.toList == []) = false := by
  rw [beq_eq_false_iff_ne, ByteArray.toList_eq]
  intro e
  apply h
  obtain ⟨⟨a⟩⟩ := s
  simp at e
  rw [e]

theorem upAt_no {s : ByteArray} (h : ∀ k, k < s.size → clsAt s k ≠ 2) : ∀ k, k ≤ s.size → upAt s k = false
  | 0, _ => rfl
  | k + 1, hk => by
    rw [upAt, if_neg (h k (by omega)), upAt_no h k (by omega)]
    split <;> rfl
theorem strL_no {s : ByteArray} (h : ∀ k, k < s.size → clsAt s k ≠ 2) {k : Nat} (hk : k < s.size) : strL s 0 k = 0 := by
  unfold strL
  rw [if_neg (h k hk), if_neg (show ¬ ((0 : Int) = 1 ∨ upAt s k = true) by rw [upAt_no h k (by omega)]; simp)]
  split <;> rfl
theorem bef_no {s : ByteArray} (h : ∀ k, k < s.size → clsAt s k ≠ 2) : ∀ k, k ≤ s.size → bef s 0 k = 0
  | 0, _ => rfl
  | k + 1, hk => by
    rw [bef, bef_no h k (by omega), strL_no h (by omega)]
    split <;> rfl
theorem aft_no' {s : ByteArray} (h : ∀ k, k < s.size → clsAt s k ≠ 2) : ∀ m, m ≤ s.size → aft' s 0 m = 0
  | 0, _ => rfl
  | m + 1, hm => by
    rw [aft', aft_no' h m (by omega), strL_no h (by omega)]
    split <;> rfl
theorem levAt_no {s : ByteArray} (h : ∀ k, k < s.size → clsAt s k ≠ 2) {k : Nat} (hk : k < s.size) : levAt s 0 k = 0 := by
  unfold levAt aft
  rw [bef_no h k (by omega), aft_no' h _ (by omega), strL_no h hk]
  split <;> rfl
theorem chars_range (s : ByteArray) : (⟨(chars s (List.range s.size)).toArray⟩ : ByteArray) = s := by
  have h : chars s (List.range s.size) = s.data.toList := by
    refine ext_upto (n := s.size) (by simp [chars]) (by simp) (fun j hj => ?_)
    rw [chars_get (x := j) (by simp [hj]), chAt_eq hj]
    have h2 : j < s.data.toList.length := by simpa using hj
    rw [List.getElem?_eq_getElem h2]
    rfl
  rw [h]
theorem showL_plain {s : ByteArray} (hv : vText s = true) (h : ∀ k, k < s.size → clsAt s k ≠ 2) : showL s 0 = s := by
  have e : lvls s 0 = levels s 0 := lvls_ok hv (by decide)
  have ht : topL (levels s 0) = 0 := by
    have := topL_le (ls := levels s 0) (B := 0) (fun l hl => by
      unfold levels at hl
      obtain ⟨k, hk, rfl⟩ := List.mem_map.1 hl
      rw [levAt_no h (by simpa using hk)]
      exact Int.le_refl _)
    omega
  unfold showL
  rw [e, ordUp_zero _ ht, levels_length]
  exact chars_range s
theorem showL_size {s : ByteArray} {base : Int} : (showL s base).size = (lvls s base).length := by
  show (chars s (ordL (lvls s base))).toArray.size = _
  simp [chars, ordL_length]
theorem show_ne {s : ByteArray} {base : Int} (h : ¬ showL s base = ⟨#[]⟩) : vText s = true ∧ 0 ≤ base ∧ base ≤ 1 ∧ lvls s base = levels s base ∧ (lvls s base).length = s.size := by
  refine lvls_ne (fun h0 => h ?_)
  exact showL_no (List.eq_nil_of_length_eq_zero h0)
theorem show_get {s : ByteArray} {base : Int} {k x : Nat} (h : (ordL (lvls s base))[k]? = some x) (hx : x < s.size) (hk : k < (showL s base).size) : (showL s base)[k] = s[x] := by
  have h1 := chars_get (s := s) h
  rw [chAt_eq hx] at h1
  obtain ⟨h2, h3⟩ := List.getElem?_eq_some_iff.1 h1
  rw [← h3]
  rfl

set_option maxHeartbeats 1000000 in
theorem DrawShowText_any (w : World) (a : Option Addr) (n c : Nat) (zs : List Int) (h : InBytes w a n c zs) :
    Calls Try.prog 15 #[.slice a n c] w (TextBase w) := by
  have HD := Lib.hid (DrawLevelsOf_any w a n c zs h)
  clear h
  go_enter Try.func15, Try.ntmps15
  go_wp2_with fail
  refine HD.out.mono ?_
  rintro e w1 ⟨s, b, rfl, hs, hb0, hb1, hB⟩
  have B1 := Lib.hid hB
  clear hB HD
  go_wp2_with fail
  go_ret2
  exact ⟨s, b, rfl, hs, hb0, hb1, B1.out⟩
end Go.Proofs.Ytonkminebememaa
