/-
  The plain law of a session that sets words and a width and fills.
-/
import Derived.Test.YtmljofijeladoaaDoorSesRunI
namespace Go.Proofs.YtmljofijeladoaaDoor
open Go.RowKit
set_option linter.unusedVariables false

def wl : List Int := [19, 20, 21, 25, 30, 60]
def tl : List ByteArray := [⟨#[49, 57]⟩, ⟨#[50, 48]⟩, ⟨#[50, 49]⟩, ⟨#[50, 53]⟩, ⟨#[51, 48]⟩, ⟨#[54, 48]⟩]
theorem itoa_lit : Lib.itoa 20 = [50, 48] ∧ Lib.itoa 21 = [50, 49] ∧ Lib.itoa 25 = [50, 53] ∧ Lib.itoa 30 = [51, 48] ∧ Lib.itoa 60 = [54, 48] := by
  refine ⟨?_, ?_, ?_, ?_, ?_⟩ <;> simp [Lib.itoa, Lib.decDigits]
theorem widx_of {wd : Int} (h : wd = 20 ∨ wd = 21 ∨ wd = 25 ∨ wd = 30 ∨ wd = 60) : ∃ idx, idx < 6 ∧ (∀ k x, wl[k]? = some x → (wd = x ↔ k = idx)) ∧ tl[idx]? = some (itoaB wd) := by
  obtain ⟨i1, i2, i3, i4, i5⟩ := itoa_lit
  have key : ∀ (idx : Nat) (wd : Int), wl[idx]? = some wd → ∀ k x, wl[k]? = some x → (wd = x ↔ k = idx) := by
    intro idx wd h0 k x h1
    unfold wl at h0 h1
    rcases idx with _ | _ | _ | _ | _ | _ | idx <;> rcases k with _ | _ | _ | _ | _ | _ | k <;> simp at h0 h1 <;> omega
  have txt : ∀ (t : ByteArray) (n : Int), Lib.itoa n = t.data.toList → some t = some (itoaB n) := fun t n h => by
    rw [show itoaB n = t from ba_ext (by rw [itoaB_list, h])]
  rcases h with rfl | rfl | rfl | rfl | rfl
  · exact ⟨1, by omega, key 1 20 rfl, txt ⟨#[50, 48]⟩ 20 i1⟩
  · exact ⟨2, by omega, key 2 21 rfl, txt ⟨#[50, 49]⟩ 21 i2⟩
  · exact ⟨3, by omega, key 3 25 rfl, txt ⟨#[50, 53]⟩ 25 i3⟩
  · exact ⟨4, by omega, key 4 30 rfl, txt ⟨#[51, 48]⟩ 30 i4⟩
  · exact ⟨5, by omega, key 5 60 rfl, txt ⟨#[54, 48]⟩ 60 i5⟩
def outS (idx k : Nat) (R : ByteArray) : ByteArray := if idx < k then R else ⟨#[]⟩
theorem outS_hit {idx k : Nat} {R : ByteArray} (h : k = idx) : outS idx (k + 1) R = R := by rw [outS, if_pos (by omega)]
theorem outS_miss {idx k : Nat} {R : ByteArray} (h : ¬ k = idx) : outS idx (k + 1) R = outS idx k R := by
  unfold outS
  by_cases h2 : idx < k
  · rw [if_pos h2, if_pos (by omega)]
  · rw [if_neg h2, if_neg (by omega)]
theorem vWord_nosp {s : ByteArray} (h : vWord s = true) : (32 : UInt8) ∉ s.data.toList := by
  intro hm
  rw [vWord, Bool.and_eq_true] at h
  have := List.all_eq_true.1 h.1 32 hm
  revert this
  decide
theorem jw_words {l : List ByteArray} (h0 : l ≠ []) (h : ∀ s ∈ l, vWord s = true) : allB 32 (jw l) = l := by
  cases l with
  | nil => exact absurd rfl h0
  | cons x r =>
    have hno : ∀ q ∈ x.data.toList :: r.map (·.data.toList), (32 : UInt8) ∉ q := by
      intro q hq
      rw [← List.map_cons (f := fun s : ByteArray => s.data.toList)] at hq
      obtain ⟨s, hs, rfl⟩ := List.mem_map.1 hq
      exact vWord_nosp (h s hs)
    have e : (jw (x :: r)).data.toList = x.data.toList ++ Lib.joinTail [32] (r.map (·.data.toList)) := by
      rw [jw_join, List.map_cons]; exact Lib.join_cons _ _ _
    have hc := count_join 32 (r.map (·.data.toList)) x.data.toList hno
    rw [allB, cutB, e, hc, cutG_join 32 _ _ _ hno (Nat.le_refl _)]
    rw [List.map_cons, baL_of, List.map_map]
    congr 1
    conv => rhs; rw [← List.map_id r]
    apply List.map_congr_left
    intro t _
    exact baL_of t
def pW : ByteArray := ⟨#[119, 111, 114, 100, 115, 32]⟩
def pN : ByteArray := ⟨#[119, 105, 100, 116, 104, 32]⟩
theorem pre_W (t : ByteArray) : isW (pW ++ t) = true ∧ aft (pW ++ t) = t := by
  constructor
  · unfold isW Lib.hasPrefix
    rw [app_toList]
    show List.isPrefixOf cWords (cWords ++ t.data.toList) = true
    rw [List.isPrefixOf_iff_prefix]; exact List.prefix_append _ _
  · apply ba_ext
    show ((pW ++ t).data.toList.drop 6) = _
    rw [app_toList]; rfl
theorem pre_N (t : ByteArray) : isW (pN ++ t) = false ∧ isN (pN ++ t) = true ∧ aft (pN ++ t) = t := by
  refine ⟨?_, ?_, ?_⟩
  · unfold isW Lib.hasPrefix
    rw [app_toList]
    show List.isPrefixOf cWords ([119, 105, 100, 116, 104, 32] ++ t.data.toList) = false
    simp [cWords, List.isPrefixOf]
  · unfold isN Lib.hasPrefix
    rw [app_toList]
    show List.isPrefixOf cWidth (cWidth ++ t.data.toList) = true
    rw [List.isPrefixOf_iff_prefix]; exact List.prefix_append _ _
  · apply ba_ext
    show ((pN ++ t).data.toList.drop 6) = _
    rw [app_toList]; rfl
theorem sess_set {l : List ByteArray} {wd : Int} (h0 : l ≠ []) (h : vWrap l wd = true) (hw : 20 ≤ wd ∧ wd ≤ 60) :
    sess [pW ++ jw l, pN ++ itoaB wd, baL tFill] = [111, 107, 10, 111, 107, 10] ++ nlL (fillT l wd) := by
  have hv : vWords l = true := by unfold vWrap at h; exact (Bool.and_eq_true _ _ ▸ h).1
  have hv' : ∀ s ∈ l, vWord s = true := by
    unfold vWords at hv
    rw [Bool.and_eq_true] at hv
    exact fun s hs => List.all_eq_true.1 hv.1 s hs
  obtain ⟨a1, a2⟩ := pre_W (jw l)
  obtain ⟨b1, b2, b3⟩ := pre_N (itoaB wd)
  obtain ⟨c1, c2⟩ := wOk_of (t := itoaB wd) hw.1 hw.2 rfl
  show srun st0 [pW ++ jw l, pN ++ itoaB wd, baL tFill] = _
  rw [srun, step_words a1, a2, jw_words h0 hv', if_pos hv, srun, step_width b1 b2, b3, if_pos c1, c2, srun, step_fill, srun]
  simp only [List.append_nil, baL_list]
  rfl
end Go.Proofs.YtmljofijeladoaaDoor
