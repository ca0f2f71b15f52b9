/-
  How an argument of a statement is read: a slice of integers, of strings, a string or a number that came in, in the words of the walks; no function of the program occurs here.
-/
import Derived.Test.YtmnmdecbehfegaaDoorBase
import Derived.ProofKit
import Derived.OpenShut
import Derived.ShutString
import Derived.ChangeOld
import Derived.SliceStrings
import Derived.Deep.Slices
namespace Go.Proofs.YtmnmdecbehfegaaDoor
open Go.ChangeShapes Go.WideShapes Go.ChangeAt Go.RowKit

section
variable {H : Type} {enc : TypeId × Value → H} {P : Program} {W : World}

theorem rd_of_cells {x : Addr} {n : Nat} {xs : List Value} (hn : xs.length = n * 1) (hc : ∀ i, i < n → W.cell? (x.add i) = xs[i]?) : Rd W 1 (some x) n xs := by
  refine ⟨hn, fun h0 => ?_⟩
  obtain ⟨b, o, spot⟩ := x
  have h1 := hc 0 h0
  rw [List.getElem?_eq_getElem (by omega)] at h1
  have hs : spot = none := by simpa [Addr.add] using World.cell?_spot h1
  subst hs
  refine ⟨b, o, rfl, fun j hj => ?_⟩
  rw [← add_plain]
  exact hc j (by omega)

theorem in_nums {T E : TypeId} {k : IntKind} (hT : P.underlying T = some (.slice E)) (hE : P.underlying E = some (.int k)) (hC : P.cellsOf E = 1)
    {a : Option Addr} {n c : Nat} {d : DataW H} {p : List MemPlace} (h : DataW.Trod enc P W 0 (fun _ => true) true T (.slice a n c) d p) : ∃ xs : List Int, InNums k W a n c xs := by
  obtain ⟨fuel, hf⟩ := h
  rcases open_ints hT hE hC hf with ⟨hcs, _⟩ | ⟨x, l, c', zs, hcs, _, hl, hm, hz, _, hcell, hwz⟩
  · simp [Value.cells] at hcs
    obtain ⟨rfl, rfl, rfl⟩ := hcs
    exact ⟨[], Rd.nil _ _ _, (fun z hz => (by cases hz)), Nat.le_refl _, Nat.zero_le _⟩
  · simp [Value.cells] at hcs
    obtain ⟨rfl, rfl, rfl⟩ := hcs
    have hz' : zs.length = c := by simpa using hz
    refine ⟨zs.take n, rd_of_cells (by simp; omega) (fun i hi => ?_), fun z hz => hwz z (List.mem_of_mem_take hz), hl, hm⟩
    rw [hcell i (by omega)]
    simp [List.getD, List.getElem?_take, hi, show i < zs.length by omega]

theorem in_bytes {T E : TypeId} (hT : P.underlying T = some (.slice E)) (hE : P.underlying E = some (.int .u8)) (hC : P.cellsOf E = 1)
    {a : Option Addr} {n c : Nat} {d : DataW H} {p : List MemPlace} (h : DataW.Trod enc P W 0 (fun _ => true) true T (.slice a n c) d p) : ∃ xs : List Int, InBytes W a n c xs := by
  obtain ⟨xs, h1, h2, h3⟩ := in_nums hT hE hC h
  exact ⟨xs, h1, fun z hz => bounds_u8 (h2 z hz), h3⟩

theorem in_strs {T E : TypeId} (hT : P.underlying T = some (.slice E)) (hE : P.underlying E = some .string) (hC : P.cellsOf E = 1)
    {a : Option Addr} {n c : Nat} {d : DataW H} {p : List MemPlace} (h : DataW.Trod enc P W 0 (fun _ => true) true T (.slice a n c) d p) : ∃ xs : List ByteArray, InStrs W a n c xs := by
  obtain ⟨fuel, hf⟩ := h
  rcases open_strings hT hE hC hf with ⟨hcs, _⟩ | ⟨x, l, c', zs, hcs, _, hl, hm, hz, _, hcell, hwz⟩
  · simp [Value.cells] at hcs
    obtain ⟨rfl, rfl, rfl⟩ := hcs
    exact ⟨[], Rd.nil _ _ _, (fun z hz => (by cases hz)), Nat.le_refl _, Nat.zero_le _⟩
  · simp [Value.cells] at hcs
    obtain ⟨rfl, rfl, rfl⟩ := hcs
    have hz' : zs.length = c := by simpa using hz
    refine ⟨zs.take n, rd_of_cells (by simp [strs']; omega) (fun i hi => ?_), fun z hz => hwz z (List.mem_of_mem_take hz), hl, hm⟩
    rw [hcell i (by omega)]
    simp [strs', List.getD, List.getElem?_take, hi, show i < zs.length by omega]
end
end Go.Proofs.YtmnmdecbehfegaaDoor
