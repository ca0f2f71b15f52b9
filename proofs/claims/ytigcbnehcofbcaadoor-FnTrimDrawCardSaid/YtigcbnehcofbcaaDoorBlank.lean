/-
  The plain law of drawings that are trimmed: nothing is left exactly if there are only spaces.
-/
import Derived.Test.YtigcbnehcofbcaaDoorTrimLaws
import Derived.Test.YtigcbnehcofbcaaDoorRowPlain
namespace Go.Proofs.YtigcbnehcofbcaaDoor
open Go.RowKit
set_option linter.unusedVariables false

def spL (l : List UInt8) : Bool := l.all fun c => decide (c = 32)
def spc (s : ByteArray) : Bool := spL s.data.toList
theorem spc_get {s : ByteArray} : spc s = true ↔ ∀ j, j < s.size → s.data.toList[j]? = some 32 := by
  unfold spc spL
  rw [List.all_eq_true]
  constructor
  · intro h j hj
    have h1 := byte_at hj
    have h2 := of_decide_eq_true (h s[j] (List.mem_of_getElem? h1))
    rw [h1, h2]
  · intro h c hc
    obtain ⟨j, hj⟩ := List.mem_iff_getElem?.1 hc
    have hlt := (List.getElem?_eq_some_iff.1 hj).1
    have h1 := h j hlt
    rw [hj] at h1
    injection h1 with h1
    exact decide_eq_true h1
theorem trimS_blank {s : ByteArray} : trimS s = ⟨#[]⟩ ↔ spc s = true := by
  rw [spc_get]
  have hsz := trimS_size s
  constructor
  · intro h j hj
    refine trimN_spaces s.data.toList s.size j ?_ hj
    rw [h] at hsz
    have h0 : (⟨#[]⟩ : ByteArray).size = 0 := rfl
    omega
  · intro h
    have h0 : trimN s.data.toList s.size = 0 := by
      rcases Nat.eq_zero_or_pos (trimN s.data.toList s.size) with h1 | h1
      · exact h1
      · have h2 := trimN_stop s.data.toList s.size h1
        have h3 := trimN_le s.data.toList s.size
        exact absurd (h _ (by omega)) h2
    apply ByteArray.ext
    apply Array.toList_inj.1
    exact List.eq_nil_of_length_eq_zero (by show (trimS s).size = 0; omega)
theorem trimT_blank {V : List ByteArray} (hv : vRows V = true) : (trimT V).length = 0 ↔ V.all spc = true := by
  rw [trimT, if_pos hv, dropT_len, List.length_map, List.all_eq_true]
  constructor
  · intro h s hs
    obtain ⟨j, hj⟩ := List.mem_iff_getElem?.1 hs
    have hlt := (List.getElem?_eq_some_iff.1 hj).1
    have h1 := filN_empty (V.map trimS) V.length j (by omega) hlt
    rw [List.getElem?_map, hj] at h1
    injection h1 with h1
    exact trimS_blank.1 h1
  · intro h
    rcases Nat.eq_zero_or_pos (filN (V.map trimS) V.length) with h1 | h1
    · exact h1
    · have h2 := filN_stop (V.map trimS) V.length h1
      have h3 := filN_le (V.map trimS) V.length
      have hlt : filN (V.map trimS) V.length - 1 < V.length := by omega
      refine absurd ?_ h2
      rw [List.getElem?_map, List.getElem?_eq_getElem hlt]
      exact congrArg some (trimS_blank.2 (h _ (List.getElem_mem hlt)))
/-! ### Drawings are rows of printable characters -/
theorem pr32 : pr 32 = true := by decide
theorem onRow_text {y : Nat} {s : ByteArray} {p : Pl} (hs : s.data.toList.all pr = true) (hp : vText p.t = true) : (onRow y s p).data.toList.all pr = true := by
  unfold onRow
  split
  · simp only [vText, Bool.and_eq_true] at hp
    rw [putS_list, List.all_append, List.all_append, hp.1, Bool.true_and, Bool.and_eq_true]
    rw [List.all_eq_true] at hs
    exact ⟨List.all_eq_true.2 (fun c hc => hs c (List.mem_of_mem_take hc)), List.all_eq_true.2 (fun c hc => hs c (List.mem_of_mem_drop hc))⟩
  · exact hs
theorem fold_text {y : Nat} : ∀ (l : List Pl) (s : ByteArray), (∀ p ∈ l, vText p.t = true) → s.data.toList.all pr = true → (l.foldl (onRow y) s).data.toList.all pr = true
  | [], s, _, hs => hs
  | p :: l, s, hl, hs => by
    rw [List.foldl_cons]
    exact fold_text l _ (fun q hq => hl q (by simp [hq])) (onRow_text hs (hl p (by simp)))
theorem rowP_text {l : List Pl} {w h : Int} (hv : vPlaced l w h = true) (y : Nat) : vText (rowP l w.toNat y) = true := by
  have hp := vPlaced_parts hv
  have hs := rowP_size hp.2.2.2.2.2 (by omega) y
  simp only [vText, Bool.and_eq_true, decide_eq_true_eq]
  refine ⟨fold_text l _ (fun p hpl => (vPl_parts (hp.2.2.2.2.2 p hpl)).1) ?_, by omega⟩
  rw [List.all_eq_true]
  intro c hc
  have h2 : c ∈ List.replicate w.toNat 32 := hc
  rw [List.mem_replicate] at h2
  rw [h2.2]
  exact pr32
theorem drawP_rows {l : List Pl} {w h : Int} : vRows (drawP l w h) = true := by
  simp only [vRows, Bool.and_eq_true, decide_eq_true_eq, List.all_eq_true]
  refine ⟨drawP_bound.1, fun s hs => ?_⟩
  by_cases hv : vPlaced l w h = true
  · rw [drawP_good hv, List.mem_map] at hs
    obtain ⟨y, _, rfl⟩ := hs
    exact rowP_text hv y
  · rw [drawP_no hv] at hs
    cases hs
theorem drawP_valid {l : List Pl} {w h : Int} (h0 : (drawP l w h).length ≠ 0) : vPlaced l w h = true := by
  cases hv : vPlaced l w h
  · exact absurd (by rw [drawP_no (show ¬ vPlaced l w h = true by rw [hv]; simp)]; rfl) h0
  · rfl
theorem vPlaced_nil {l : List Pl} {w h : Int} (hv : vPlaced l w h = true) : vPlaced [] w h = true := by
  simp only [vPlaced, Bool.and_eq_true] at hv ⊢
  exact ⟨⟨hv.1.1, by simp⟩, by simp⟩
/-- Without texts nothing is left. -/
theorem draw_nil {l : List Pl} {w h : Int} (h0 : (drawP l w h).length ≠ 0) : (trimT (drawP [] w h)).length = 0 := by
  have hv := vPlaced_nil (drawP_valid h0)
  rw [trimT_blank drawP_rows, List.all_eq_true]
  intro s hs
  rw [drawP_good hv, List.mem_map] at hs
  obtain ⟨y, _, rfl⟩ := hs
  rw [spc_get]
  intro j hj
  show (List.replicate w.toNat (32 : UInt8))[j]? = some 32
  have hj2 : j < w.toNat := by
    have h1 : (rowP [] w.toNat y).size = w.toNat := spB_size _
    omega
  rw [List.getElem?_replicate, if_pos hj2]
/-- All rows of a drawing have the width. -/
theorem draw_width {l : List Pl} {w h : Int} (h0 : (drawP l w h).length ≠ 0) : ((drawP l w h).length : Int) = h ∧ ∀ (k : Nat) (s : ByteArray), (drawP l w h)[k]? = some s → (s.size : Int) = w := by
  have hv := drawP_valid h0
  have hp := vPlaced_parts hv
  refine ⟨by rw [drawP_length hv]; omega, fun k s hs => ?_⟩
  have h1 := List.mem_of_getElem? hs
  rw [drawP_good hv, List.mem_map] at h1
  obtain ⟨y, _, rfl⟩ := h1
  exact rowP_size hp.2.2.2.2.2 (by omega) y
end Go.Proofs.YtigcbnehcofbcaaDoor
