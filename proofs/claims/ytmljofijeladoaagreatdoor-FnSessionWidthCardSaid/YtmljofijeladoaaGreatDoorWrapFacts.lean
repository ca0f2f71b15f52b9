/-
  Contracts of joinWords and last, and what the ends of WrapWords are good for.
-/
import Derived.Test.YtmljofijeladoaaGreatDoorTab
import Derived.Laws.Concat
namespace Go.Proofs.YtmljofijeladoaaGreatDoor
open Go.RowKit
set_option linter.unusedVariables false

theorem ends_cost {l : List ByteArray} {wd : Int} (h : vWrap l wd = true) : wCost l wd (wEnds l wd) = ((wT (sizes l) wd 0).1, true) ∧ 0 ≤ (wT (sizes l) wd 0).1 := by
  have hw := vWrap_words h
  have hL : ∀ x ∈ sizes l, (x : Int) ≤ wd := fun x hx => by obtain ⟨s, hs, rfl⟩ := List.mem_map.1 hx; have := (hw.2.1 s hs).2; omega
  refine ⟨wCost_some h ?_, wT_pos _ _ (by omega) 0⟩
  rw [wEnds_good h]
  exact wcost_ends (by omega) hL

theorem ends_facts {l : List ByteArray} {wd : Int} (h : wEnds l wd ≠ []) :
    vWrap l wd = true ∧ 0 < l.length ∧ wCost l wd (wEnds l wd) = ((wT (sizes l) wd 0).1, true) ∧ 0 ≤ (wT (sizes l) wd 0).1 ∧ (wEnds l wd).getLast? = some (l.length : Int) := by
  have hv : vWrap l wd = true := by
    cases hv : vWrap l wd
    · exact absurd (wEnds_bad hv) h
    · rfl
  have hw := vWrap_words hv
  have hL : ∀ x ∈ sizes l, (x : Int) ≤ wd := fun x hx => by obtain ⟨s, hs, rfl⟩ := List.mem_map.1 hx; have := (hw.2.1 s hs).2; omega
  have hl : 0 < l.length := by
    rcases Nat.eq_zero_or_pos l.length with h0 | h0
    · exfalso
      apply h
      rw [wEnds_good hv, wends, wchainI_end (by rw [sizes_length]; omega)]
      rfl
    · exact h0
  refine ⟨hv, hl, (ends_cost hv).1, (ends_cost hv).2, ?_⟩
  rw [wEnds_good hv, List.getLast?_map, wends_last (by omega) hL (by rw [sizes_length]; exact hl), sizes_length]
  rfl


/-! ### Words with single spaces -/
theorem ret_str {a b : ByteArray} (h : a = b) : Ending.returned (.string a) = .returned (.string b) := by rw [h]
def jstep (st : Nat × ByteArray) (s : ByteArray) : Nat × ByteArray := (st.1 + 1, (if 0 < st.1 then st.2 ++ ⟨#[32]⟩ else st.2) ++ s)
def jfold (xs : List ByteArray) : Nat × ByteArray := xs.foldl jstep (0, ⟨#[]⟩)
/-- Words with single spaces between them. -/
def jw (xs : List ByteArray) : ByteArray := (jfold xs).2
theorem jfold_snoc (xs : List ByteArray) (s : ByteArray) : jfold (xs ++ [s]) = jstep (jfold xs) s := by simp [jfold, List.foldl_append]
theorem jfold_gen (xs : List ByteArray) : ∀ st : Nat × ByteArray, (xs.foldl jstep st).1 = st.1 + xs.length ∧ ((xs.foldl jstep st).2.size : Int) = st.2.size + ((sizes xs).sum : Nat) + (if 0 < st.1 ∨ xs = [] then (xs.length : Int) else (xs.length : Int) - 1) := by
  induction xs with
  | nil => intro st; simp [sizes]
  | cons x xs ih =>
    intro st
    have h := ih (jstep st x)
    have h32 : (⟨#[32]⟩ : ByteArray).size = 1 := rfl
    have e1 : (jstep st x).1 = st.1 + 1 := rfl
    have e2 : (jstep st x).2.size = (if 0 < st.1 then st.2.size + 1 else st.2.size) + x.size := by
      show ((if 0 < st.1 then st.2 ++ ⟨#[32]⟩ else st.2) ++ x).size = _
      rw [ByteArray.size_append]
      split
      · rw [ByteArray.size_append, h32]
      · rfl
    rw [e1, e2, if_pos (show 0 < st.1 + 1 ∨ xs = [] from .inl (by omega))] at h
    rw [List.foldl_cons]
    refine ⟨by rw [h.1, List.length_cons]; omega, ?_⟩
    rw [h.2]
    have es : (sizes (x :: xs)).sum = x.size + (sizes xs).sum := by simp [sizes]
    rw [es]
    by_cases h0 : 0 < st.1
    · rw [if_pos h0, if_pos (.inl h0)]
      simp only [List.length_cons]
      omega
    · rw [if_neg h0, if_neg (by simp [h0])]
      simp only [List.length_cons]
      omega
theorem jfold_sizes (xs : List ByteArray) : (jfold xs).1 = xs.length ∧ (0 < xs.length → ((jfold xs).2.size : Int) = lineLen (sizes xs)) := by
  have h := jfold_gen xs (0, ⟨#[]⟩)
  refine ⟨by rw [jfold, h.1]; simp, fun h0 => ?_⟩
  rw [jfold, h.2, lineLen, sizes_length]
  have hx : ¬ xs = [] := fun e => by rw [e] at h0; simp at h0
  have e0 : (⟨#[]⟩ : ByteArray).size = 0 := rfl
  rw [if_neg (by simp [hx])]
  show ((0 : Nat) : Int) + _ + _ = _
  omega
theorem jw_size {xs : List ByteArray} (h : 0 < xs.length) : ((jw xs).size : Int) = lineLen (sizes xs) := (jfold_sizes xs).2 h
theorem jw_bound {xs : List ByteArray} {n : Nat} (hl : xs.length ≤ n) (hs : ∀ s ∈ xs, s.size ≤ 30) (hn : n ≤ 60) : (jw xs).size ≤ 2000 := by
  rcases Nat.eq_zero_or_pos xs.length with h0 | h0
  · have hx : xs = [] := List.eq_nil_of_length_eq_zero h0
    subst hx
    show 0 ≤ 2000
    omega
  · have h1 := jw_size h0
    have hb := sum_bound (L := sizes xs) (B := 30) (fun x hx => by obtain ⟨s, hs', rfl⟩ := List.mem_map.1 hx; exact hs s hs') (sizes xs).length
    rw [List.take_length] at hb
    have hln := sizes_length xs
    unfold lineLen at h1
    omega
theorem jw_next {xs : List ByteArray} {k : Nat} {s : ByteArray} (hs : xs[k]? = some s) : jw (xs.take (k + 1)) = (if 0 < k then jw (xs.take k) ++ ⟨#[32]⟩ else jw (xs.take k)) ++ s := by
  have hk := (List.getElem?_eq_some_iff.1 hs).1
  have e : xs.take (k + 1) = xs.take k ++ [s] := by rw [List.take_add_one, hs]; rfl
  rw [jw, e, jfold_snoc, jstep, (jfold_sizes (xs.take k)).1]
  have hl : (xs.take k).length = k := by simp; omega
  rw [hl]
  rfl

end Go.Proofs.YtmljofijeladoaaGreatDoor
