/-
  The plain law of filled texts: a line with single spaces is its words joined; the lines of a text out of the ends of its lines.
-/
import Derived.Test.YtmljofijeladoaaDoorFillPlain
import Derived.Test.YtmljofijeladoaaDoorWrapFacts
import Derived.Test.YtmljofijeladoaaDoorTab
namespace Go.Proofs.YtmljofijeladoaaDoor
open Go.RowKit
set_option linter.unusedVariables false

theorem gapN_zero (G k : Nat) : gapN 0 G k = 1 := by unfold gapN; simp
theorem fillUp_zero {ws : List ByteArray} : ∀ {k : Nat}, k < ws.length → fillUp ws 0 k = jw (ws.take (k + 1))
  | 0, h => by
    have h0 : ws[0]? = some ws[0] := List.getElem?_eq_getElem h
    rw [fillUp, wAt_get h0, jw_next h0, if_neg (by omega)]
    apply ByteArray.ext
    rw [ByteArray.data_append]
    simp [jw, jfold]
  | k + 1, h => by
    have hs : ws[k + 1]? = some ws[k + 1] := List.getElem?_eq_getElem h
    rw [fillUp, wAt_get hs, gapN_zero, fillUp_zero (k := k) (by omega), jw_next hs, if_pos (by omega)]
    rfl
/-- A line with single spaces is its words, joined. -/
theorem fillW_line {l : List ByteArray} (h : 0 < l.length) : fillW l (lineLen (sizes l)) = jw l := by
  unfold fillW
  rw [Int.sub_self, show (0 : Int).toNat = 0 from rfl, fillUp_zero (by omega), show l.length - 1 + 1 = l.length from by omega, List.take_length]
/-- The words between two indexes. -/
def wseg (l : List ByteArray) (i j : Nat) : List ByteArray := (l.drop i).take (j - i)
/-- The lines out of the ends: all but the one that ends the text are filled. -/
def ftL (l : List ByteArray) (W : Int) : Nat → List Nat → List ByteArray
  | _, [] => []
  | i, e :: es => (if e < l.length then fillW (wseg l i e) W else jw (wseg l i e)) :: ftL l W e es
theorem ftL_length (l : List ByteArray) (W : Int) : ∀ (es : List Nat) (i : Nat), (ftL l W i es).length = es.length
  | [], _ => rfl
  | e :: es, i => by rw [ftL, List.length_cons, List.length_cons, ftL_length l W es e]
/-- The ends of lines that fit, up to the end of the text. -/
def okE (L : List Nat) (W : Int) : Nat → List Nat → Prop
  | i, [] => i = L.length
  | i, e :: es => i < e ∧ e ≤ L.length ∧ 0 ≤ wrest L W i e ∧ okE L W e es
theorem okE_of_cost {L : List Nat} {W : Int} : ∀ (es : List Nat) (i : Nat) (s : Int), wcost L W i (es.map fun x : Nat => (x : Int)) = some s → okE L W i es
  | [], i, s, h => by
    rw [List.map_nil, wcost] at h
    split at h
    · rename_i h1; exact h1
    · cases h
  | e :: es, i, s, h => by
    rw [List.map_cons] at h
    by_cases h1 : (e : Int) ≤ (i : Int)
    · rw [cost_low h1] at h; cases h
    by_cases h2 : (L.length : Int) < (e : Int)
    · rw [cost_high h2] at h; cases h
    by_cases h3 : wrest L W i e < 0
    · rw [cost_short h3] at h; cases h
    rw [cost_next (by omega) (by omega) h3] at h
    obtain ⟨t, ht, _⟩ := Option.map_eq_some_iff.1 h
    exact ⟨by omega, by omega, by omega, okE_of_cost es e t ht⟩
theorem okE_wends {l : List ByteArray} {W : Int} (h : vWrap l W = true) : okE (sizes l) W 0 (wends (sizes l) W) := by
  obtain ⟨_, hsz, hw0, hw1⟩ := vWrap_words h
  exact okE_of_cost _ _ _ (wcost_ends (by omega) (fun x hx => by
    obtain ⟨s, hs, rfl⟩ := List.mem_map.1 hx
    have := (hsz s hs).2
    omega))
/-- Only the last end is the text's end. -/
theorem okE_last {L : List Nat} {W : Int} : ∀ {es : List Nat} {i e : Nat}, okE L W i (e :: es) → (es = [] ↔ e = L.length)
  | [], i, e, h => ⟨fun _ => h.2.2.2, fun _ => rfl⟩
  | f :: es, i, e, h => ⟨fun h1 => (by cases h1), fun h1 => (by have := h.2.2.2.1; have := h.2.2.2.2.1; omega)⟩
/-- What FillText gives. -/
def fillT (l : List ByteArray) (W : Int) : List ByteArray := if vWrap l W = true then ftL l W 0 (wends (sizes l) W) else []
theorem wseg_length {l : List ByteArray} {i j : Nat} (hj : j ≤ l.length) : (wseg l i j).length = j - i := by
  unfold wseg
  rw [List.length_take, List.length_drop]
  omega
theorem wseg_sizes (l : List ByteArray) (i j : Nat) : sizes (wseg l i j) = seg (sizes l) i j := sizes_seg l i j
theorem wseg_wrap {l : List ByteArray} {W : Int} (h : vWrap l W = true) (i j : Nat) : vWrap (wseg l i j) W = true := by
  unfold vWrap at h ⊢
  rw [Bool.and_eq_true] at h ⊢
  refine ⟨?_, h.2⟩
  have h1 := h.1
  unfold vWords at h1 ⊢
  rw [Bool.and_eq_true] at h1 ⊢
  refine ⟨List.all_eq_true.2 (fun s hs => List.all_eq_true.1 h1.1 s (List.mem_of_mem_drop (List.mem_of_mem_take hs))), ?_⟩
  have h2 := of_decide_eq_true h1.2
  refine decide_eq_true ?_
  unfold wseg
  rw [List.length_take, List.length_drop]
  omega
/-- A line that fits is filled. -/
theorem fillL_seg {l : List ByteArray} {W : Int} {i e : Nat} (h : vWrap l W = true) (h1 : i < e) (h2 : e ≤ l.length) (h3 : 0 ≤ wrest (sizes l) W i e) : fillL (wseg l i e) W = fillW (wseg l i e) W := by
  have h4 : lineLen (sizes (wseg l i e)) ≤ W := by
    rw [wseg_sizes]
    unfold wrest at h3
    omega
  unfold fillL
  rw [if_pos ⟨wseg_wrap h i e, by rw [wseg_length h2]; omega, h4⟩]
end Go.Proofs.YtmljofijeladoaaDoor
