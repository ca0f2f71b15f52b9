/-
  The plain law of filled lines: their bytes, their width, and the runs of spaces in them.
-/
import Derived.Test.YtmljofijeladoaaDoorWrapCost
namespace Go.Proofs.YtmljofijeladoaaDoor
open Go.RowKit
set_option linter.unusedVariables false

/-- Some spaces. -/
def spB (n : Nat) : ByteArray := ⟨(List.replicate n 32).toArray⟩
theorem spB_size (n : Nat) : (spB n).size = n := by simp [spB, ByteArray.size]
def wAt (ws : List ByteArray) (k : Nat) : ByteArray := (ws[k]?).getD ⟨#[]⟩
theorem wAt_get {ws : List ByteArray} {k : Nat} {s : ByteArray} (h : ws[k]? = some s) : wAt ws k = s := by simp [wAt, h]
/-- The spaces before word k + 1, if R are missing. -/
def gapN (R G k : Nat) : Nat := 1 + (R * (k + 1) / G - R * k / G)
def fillUp (ws : List ByteArray) (R : Nat) : Nat → ByteArray
  | 0 => wAt ws 0
  | k + 1 => (fillUp ws R k ++ spB (gapN R (ws.length - 1) k)) ++ wAt ws (k + 1)
def fillW (ws : List ByteArray) (W : Int) : ByteArray := fillUp ws (W - lineLen (sizes ws)).toNat (ws.length - 1)
/-- What FillLine gives. -/
def fillL (ws : List ByteArray) (W : Int) : ByteArray := if vWrap ws W = true ∧ 0 < ws.length ∧ lineLen (sizes ws) ≤ W then fillW ws W else ⟨#[]⟩

theorem sz_app (a b : ByteArray) : (a ++ b).size = a.size + b.size := ByteArray.size_append
theorem gap_mono (R G k : Nat) : R * k / G ≤ R * (k + 1) / G := Nat.div_le_div_right (Nat.mul_le_mul_left R (Nat.le_succ k))
theorem gap_range (R G k : Nat) (hG : 0 < G) : R / G + 1 ≤ gapN R G k ∧ gapN R G k ≤ R / G + 2 := by
  have hm := gap_mono R G k
  have e : R * (k + 1) = R * k + R := by rw [Nat.mul_add, Nat.mul_one]
  have h1 := Nat.div_add_mod (R * k) G
  have h2 := Nat.div_add_mod R G
  have h3 := Nat.mod_lt (R * k) hG
  have h4 := Nat.mod_lt R hG
  have hlo : R * k / G + R / G ≤ R * (k + 1) / G := by
    rw [e, Nat.le_div_iff_mul_le hG, Nat.add_mul, Nat.mul_comm _ G, Nat.mul_comm (R / G) G]
    omega
  have hhi : R * (k + 1) / G < R * k / G + R / G + 2 := by
    rw [e, Nat.div_lt_iff_lt_mul hG, Nat.add_mul, Nat.add_mul, Nat.mul_comm _ G, Nat.mul_comm (R / G) G]
    omega
  unfold gapN
  omega
theorem gap_le (R G k : Nat) (hG : 0 < G) (hk : k < G) : R * (k + 1) / G ≤ R := by
  rw [Nat.div_le_iff_le_mul_add_pred hG]
  have : R * (k + 1) ≤ R * G := Nat.mul_le_mul_left R hk
  rw [Nat.mul_comm G R]
  omega
theorem wAt_sum {ws : List ByteArray} {k : Nat} (h : k < ws.length) : ((sizes ws).take (k + 1)).sum = ((sizes ws).take k).sum + (wAt ws k).size := by
  have hk : ws[k]? = some ws[k] := List.getElem?_eq_getElem h
  rw [sum_step (sizes_at hk), wAt_get hk]
theorem fillUp_size {ws : List ByteArray} {R : Nat} : ∀ {k : Nat}, k < ws.length → (fillUp ws R k).size = ((sizes ws).take (k + 1)).sum + k + R * k / (ws.length - 1)
  | 0, h => by
    rw [fillUp, wAt_sum h]
    simp
  | k + 1, h => by
    have hm := gap_mono R (ws.length - 1) k
    rw [fillUp, sz_app, sz_app, spB_size, fillUp_size (k := k) (by omega), wAt_sum h, gapN]
    omega
theorem fillW_size {ws : List ByteArray} {W : Int} (h : 2 ≤ ws.length) (hW : lineLen (sizes ws) ≤ W) : ((fillW ws W).size : Int) = W := by
  unfold fillW
  rw [fillUp_size (by omega), Nat.mul_div_cancel _ (by omega), show ws.length - 1 + 1 = ws.length from by omega, List.take_of_length_le (by rw [sizes_length]; exact Nat.le_refl _)]
  unfold lineLen at hW ⊢
  rw [sizes_length] at hW ⊢
  omega
theorem fillUp_head (ws : List ByteArray) (R : Nat) : ∀ k : Nat, ∃ t : ByteArray, fillUp ws R k = wAt ws 0 ++ t
  | 0 => ⟨⟨#[]⟩, by rw [fillUp]; apply ByteArray.ext; simp⟩
  | k + 1 => by
    obtain ⟨t, ht⟩ := fillUp_head ws R k
    exact ⟨(t ++ spB (gapN R (ws.length - 1) k)) ++ wAt ws (k + 1), by rw [fillUp, ht]; simp only [ByteArray.append_assoc]⟩
theorem fillUp_tail (ws : List ByteArray) (R : Nat) : ∀ k : Nat, ∃ t : ByteArray, fillUp ws R k = t ++ wAt ws k
  | 0 => ⟨⟨#[]⟩, by rw [fillUp]; apply ByteArray.ext; simp⟩
  | k + 1 => ⟨_, rfl⟩

/-! ### Runs of spaces -/

/-- One character more: the smallest and the largest run so far, and the run that is open. -/
def evStep (st : Int × Int × Int) (c : UInt8) : Int × Int × Int :=
  if c = 32 then (st.1, st.2.1, st.2.2 + 1) else if 0 < st.2.2 then (min st.1 st.2.2, max st.2.1 st.2.2, 0) else (st.1, st.2.1, 0)
def evRun (st : Int × Int × Int) (s : ByteArray) : Int × Int × Int := s.data.toList.foldl evStep st
theorem evRun_app (st : Int × Int × Int) (a b : ByteArray) : evRun st (a ++ b) = evRun (evRun st a) b := by
  simp [evRun, ByteArray.data_append, List.foldl_append]
theorem evRun_spaces : ∀ (n : Nat) (lo hi r : Int), evRun (lo, hi, r) (spB n) = (lo, hi, r + n)
  | 0, lo, hi, r => by simp [evRun, spB]
  | n + 1, lo, hi, r => by
    have h := evRun_spaces n lo hi (r + 1)
    unfold evRun spB at h ⊢
    rw [List.replicate_succ]
    show List.foldl evStep (evStep (lo, hi, r) 32) _ = _
    rw [show evStep (lo, hi, r) 32 = (lo, hi, r + 1) from rfl]
    rw [h]
    congr 2
    omega
theorem evRun_letters : ∀ (l : List UInt8) (lo hi : Int), l.all lw = true → l.foldl evStep (lo, hi, 0) = (lo, hi, 0)
  | [], _, _, _ => rfl
  | c :: l, lo, hi, h => by
    simp only [List.all_cons, Bool.and_eq_true] at h
    have hc : c ≠ 32 := by
      rintro rfl
      exact absurd h.1 (by decide)
    rw [List.foldl_cons, evStep, if_neg hc, if_neg (show ¬ (0 : Int) < 0 by omega)]
    exact evRun_letters l lo hi h.2
theorem evRun_word {s : ByteArray} (h : vWord s = true) (lo hi r : Int) : evRun (lo, hi, r) s = if 0 < r then (min lo r, max hi r, 0) else (lo, hi, 0) := by
  have hs := vWord_size h
  simp only [vWord, Bool.and_eq_true] at h
  unfold evRun
  obtain ⟨⟨l⟩⟩ := s
  cases l with
  | nil => simp [ByteArray.size] at hs
  | cons c l =>
    have hl := h.1
    simp only [List.all_cons, Bool.and_eq_true] at hl
    have hc : c ≠ 32 := by
      rintro rfl
      exact absurd hl.1 (by decide)
    show List.foldl evStep (evStep (lo, hi, r) c) l = _
    rw [evStep, if_neg hc]
    split
    · exact evRun_letters l _ _ hl.2
    · exact evRun_letters l _ _ hl.2
theorem evRun_fill {ws : List ByteArray} {R : Nat} {W : Int} (hw : ∀ s ∈ ws, vWord s = true) (hG : 2 ≤ ws.length) (hW : ((R / (ws.length - 1) : Nat) : Int) + 2 ≤ W) : ∀ {k : Nat}, k < ws.length →
    ∃ lo hi : Int, evRun (W, 0, 0) (fillUp ws R k) = (lo, hi, 0) ∧ (0 < k → ((R / (ws.length - 1) : Nat) : Int) + 1 ≤ lo ∧ hi ≤ ((R / (ws.length - 1) : Nat) : Int) + 2 ∧ 0 ≤ hi) ∧ (k = 0 → lo = W ∧ hi = 0)
  | 0, h => by
    have hv := hw _ (List.getElem_mem h)
    refine ⟨W, 0, ?_, by omega, fun _ => ⟨rfl, rfl⟩⟩
    rw [fillUp, wAt_get (List.getElem?_eq_getElem h), evRun_word hv, if_neg (show ¬ (0 : Int) < 0 by omega)]
  | k + 1, h => by
    obtain ⟨lo, hi, h1, h2, h3⟩ := evRun_fill hw hG hW (k := k) (by omega)
    have hv := hw _ (List.getElem_mem h)
    have hr := gap_range R (ws.length - 1) k (by omega)
    have hgp : 0 < gapN R (ws.length - 1) k := by unfold gapN; exact Nat.lt_of_lt_of_le Nat.zero_lt_one (Nat.le_add_right _ _)
    have hrun : evRun (W, 0, 0) (fillUp ws R (k + 1)) = (min lo (gapN R (ws.length - 1) k), max hi (gapN R (ws.length - 1) k), 0) := by
      rw [fillUp, wAt_get (List.getElem?_eq_getElem h), evRun_app, evRun_app, h1, evRun_spaces, Int.zero_add, evRun_word hv, if_pos (show (0 : Int) < ((gapN R (ws.length - 1) k : Nat) : Int) from Int.natCast_pos.2 hgp)]
    refine ⟨min lo (gapN R (ws.length - 1) k), max hi (gapN R (ws.length - 1) k), hrun, fun _ => ?_, by omega⟩
    obtain ⟨q, hq⟩ : ∃ q, q = R / (ws.length - 1) := ⟨_, rfl⟩
    rw [← hq] at hr h2 hW ⊢
    rcases Nat.eq_zero_or_pos k with hk | hk
    · obtain ⟨rfl, rfl⟩ := h3 hk
      omega
    · have := h2 hk
      omega
end Go.Proofs.YtmljofijeladoaaDoor
