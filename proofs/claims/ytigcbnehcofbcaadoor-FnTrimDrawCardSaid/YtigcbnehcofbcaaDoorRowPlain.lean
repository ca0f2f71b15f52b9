/-
  The plain law of drawing: texts put into rows of spaces.
-/
import Derived.Test.YtigcbnehcofbcaaDoorPlaced
namespace Go.Proofs.YtigcbnehcofbcaaDoor
open Go.RowKit
set_option linter.unusedVariables false

/-- Some spaces. -/
def spB (n : Nat) : ByteArray := ⟨(List.replicate n 32).toArray⟩
theorem spB_size (n : Nat) : (spB n).size = n := by simp [spB, ByteArray.size]
theorem spB_next (n : Nat) : spB n ++ ⟨#[32]⟩ = spB (n + 1) := by
  apply ByteArray.ext
  rw [ByteArray.data_append]
  apply Array.toList_inj.1
  rw [Array.toList_append]
  show List.replicate n 32 ++ [32] = List.replicate (n + 1) 32
  rw [List.replicate_succ']
/-- A text put into a line. -/
def putS (s : ByteArray) (x : Nat) (t : ByteArray) : ByteArray := s.extract 0 x ++ t ++ s.extract (x + t.size) s.size
theorem putS_list {s t : ByteArray} {x : Nat} : (putS s x t).data.toList = s.data.toList.take x ++ (t.data.toList ++ s.data.toList.drop (x + t.size)) := by
  unfold putS
  rw [ByteArray.data_append, ByteArray.data_append, ByteArray.data_extract, ByteArray.data_extract, Array.toList_append, Array.toList_append, Array.toList_extract, Array.toList_extract, List.extract_eq_take_drop, List.extract_eq_take_drop, List.append_assoc]
  congr 1
  congr 1
  rw [List.take_of_length_le]
  rw [List.length_drop]
  exact Nat.le_refl _
theorem putS_size {s t : ByteArray} {x : Nat} (h : x + t.size ≤ s.size) : (putS s x t).size = s.size := by
  have h1 : (putS s x t).size = (putS s x t).data.toList.length := rfl
  have h2 : s.data.toList.length = s.size := rfl
  have h3 : t.data.toList.length = t.size := rfl
  rw [h1, putS_list, List.length_append, List.length_append, List.length_take, List.length_drop]
  omega
/-- One text more, in row y. -/
def onRow (y : Nat) (s : ByteArray) (p : Pl) : ByteArray := if p.y = (y : Int) then putS s p.x.toNat p.t else s
/-- Row y of the picture. -/
def rowP (l : List Pl) (W y : Nat) : ByteArray := l.foldl (onRow y) (spB W)
def drawP (l : List Pl) (w h : Int) : List ByteArray := if vPlaced l w h = true then (List.range h.toNat).map (rowP l w.toNat) else []
theorem rowP_next {l : List Pl} {W y k : Nat} {p : Pl} (hp : l[k]? = some p) : rowP (l.take (k + 1)) W y = onRow y (rowP (l.take k) W y) p := by
  unfold rowP
  rw [List.take_add_one, hp, List.foldl_append]
  rfl
theorem vPl_parts {w h : Int} {p : Pl} (hv : vPl w h p = true) : vText p.t = true ∧ 0 < p.t.size ∧ 0 ≤ p.x ∧ p.x + p.t.size ≤ w ∧ 0 ≤ p.y ∧ p.y < h := by
  simp only [vPl, Bool.and_eq_true, decide_eq_true_eq] at hv
  obtain ⟨⟨⟨h1, h2⟩, h3⟩, h4⟩ := hv
  have h5 := inB_iff.1 h3
  have h6 := inB_iff.1 h4
  exact ⟨h1, h2, h5.1, by omega, h6.1, by omega⟩
theorem vPlaced_parts {l : List Pl} {w h : Int} (hv : vPlaced l w h = true) : 1 ≤ w ∧ w ≤ 60 ∧ 1 ≤ h ∧ h ≤ 60 ∧ l.length ≤ 60 ∧ ∀ p ∈ l, vPl w h p = true := by
  simp only [vPlaced, Bool.and_eq_true, decide_eq_true_eq] at hv
  obtain ⟨⟨⟨h1, h2⟩, h3⟩, h4⟩ := hv
  have h5 := inB_iff.1 h1
  have h6 := inB_iff.1 h2
  exact ⟨h5.1, h5.2, h6.1, h6.2, h3, fun p hp => List.all_eq_true.1 h4 p hp⟩
theorem onRow_size {w h : Int} {p : Pl} {y : Nat} {s : ByteArray} (hv : vPl w h p = true) (hs : (s.size : Int) = w) : (onRow y s p).size = s.size := by
  unfold onRow
  split
  · have := vPl_parts hv
    exact putS_size (by omega)
  · rfl
theorem fold_size {w h : Int} {y : Nat} : ∀ (l : List Pl) (s : ByteArray), (∀ p ∈ l, vPl w h p = true) → (s.size : Int) = w → ((l.foldl (onRow y) s).size : Int) = w
  | [], s, _, hs => hs
  | p :: l, s, hl, hs => by
    rw [List.foldl_cons]
    exact fold_size l _ (fun q hq => hl q (by simp [hq])) (by rw [onRow_size (hl p (by simp)) hs]; exact hs)
theorem rowP_size {l : List Pl} {w h : Int} (hl : ∀ p ∈ l, vPl w h p = true) (hw : 0 ≤ w) (y : Nat) : ((rowP l w.toNat y).size : Int) = w :=
  fold_size l _ hl (by rw [spB_size]; omega)
theorem drawP_good {l : List Pl} {w h : Int} (hv : vPlaced l w h = true) : drawP l w h = (List.range h.toNat).map (rowP l w.toNat) := if_pos hv
theorem drawP_no {l : List Pl} {w h : Int} (hv : ¬ vPlaced l w h = true) : drawP l w h = [] := if_neg hv
theorem drawP_get {l : List Pl} {w h : Int} (hv : vPlaced l w h = true) {y : Nat} (hy : y < h.toNat) : (drawP l w h)[y]? = some (rowP l w.toNat y) := by
  rw [drawP_good hv, List.getElem?_map, List.getElem?_range hy]
  rfl
theorem drawP_length {l : List Pl} {w h : Int} (hv : vPlaced l w h = true) : (drawP l w h).length = h.toNat := by
  rw [drawP_good hv, List.length_map, List.length_range]
theorem drawP_bound {l : List Pl} {w h : Int} : (drawP l w h).length ≤ 60 ∧ ∀ s ∈ drawP l w h, s.size ≤ 60 := by
  by_cases hv : vPlaced l w h = true
  · have hp := vPlaced_parts hv
    refine ⟨by rw [drawP_length hv]; omega, fun s hs => ?_⟩
    rw [drawP_good hv, List.mem_map] at hs
    obtain ⟨y, _, rfl⟩ := hs
    have := rowP_size hp.2.2.2.2.2 (by omega) y
    omega
  · rw [drawP_no hv]
    exact ⟨Nat.zero_le _, fun s hs => by simp at hs⟩
end Go.Proofs.YtigcbnehcofbcaaDoor
