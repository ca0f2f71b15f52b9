/-
  How a slice of placed texts that came in is read.
-/
import Derived.Test.YtigcbnehcofbcaaOpen
import Derived.Test.YtigcbnehcofbcaaPlaced
namespace Go.Proofs.Ytigcbnehcofbcaa
open Go.ChangeShapes Go.WideShapes Go.ChangeAt Go.RowKit Go.Deep
set_option linter.unusedVariables false

section
variable {H : Type} {enc : TypeId × Value → H} {P : Program} {W : World}

theorem exists_list {α : Type} {R : Nat → α → Prop} : ∀ n : Nat, (∀ i, i < n → ∃ x, R i x) → ∃ xs : List α, xs.length = n ∧ ∀ i x, xs[i]? = some x → R i x
  | 0, _ => ⟨[], rfl, fun i x h => by simp at h⟩
  | n + 1, h => by
    obtain ⟨xs, hl, hx⟩ := exists_list n (fun i hi => h i (by omega))
    obtain ⟨y, hy⟩ := h n (by omega)
    refine ⟨xs ++ [y], by simp [hl], fun i x hi => ?_⟩
    rcases Nat.lt_or_ge i n with h1 | h1
    · rw [List.getElem?_append_left (by omega)] at hi
      exact hx i x hi
    · have : i = n := by
        have := (List.getElem?_eq_some_iff.1 hi).1
        simp at this
        omega
      subst this
      rw [List.getElem?_append_right (by omega), hl, Nat.sub_self] at hi
      simp at hi
      subst hi
      exact hy

theorem rd_of_elems {α : Type} {f : α → List Value} {s : Nat} (hs : ∀ x, (f x).length = s) (h0 : 0 < s) {x : Addr} {n : Nat} {xs : List α} (hl : xs.length = n)
    (hc : ∀ i y, xs[i]? = some y → ∀ j, j < s → W.cell? ((x.add (i * s)).add j) = (f y)[j]?) : Rd W s (some x) n (xs.flatMap f) := by
  refine ⟨by rw [flat_length f s hs, hl], fun hn => ?_⟩
  have hcell : ∀ j, j < n * s → W.cell? (x.add j) = (xs.flatMap f)[j]? := by
    intro j hj
    have hq : j / s < n := (Nat.div_lt_iff_lt_mul h0).2 hj
    have hr : j % s < s := Nat.mod_lt _ h0
    have hdm : j / s * s + j % s = j := by rw [Nat.mul_comm]; exact Nat.div_add_mod j s
    have hy : xs[j / s]? = some xs[j / s] := List.getElem?_eq_getElem (by omega)
    have h1 := hc _ _ hy (j % s) hr
    have h2 := flat_get f s hs xs (j / s) (j % s) _ hy hr
    rw [hdm] at h2
    rw [h2, ← h1, Go.Deep.add_add, hdm]
  obtain ⟨b, o, spot⟩ := x
  have hpos : 0 < n * s := Nat.mul_pos hn h0
  have h1 := hcell 0 hpos
  rw [List.getElem?_eq_getElem (by rw [flat_length f s hs, hl]; exact hpos)] at h1
  have hsp : spot = none := by simpa [Addr.add] using World.cell?_spot h1
  subst hsp
  exact ⟨b, o, rfl, fun j hj => by rw [← add_plain]; exact hcell j hj⟩

/-- A slice of placed texts that came in. -/
def InPlaceds (w : World) (a : Option Addr) (n c : Nat) (xs : List Pl) : Prop :=
  Rd w 3 a n (placeds xs) ∧ (∀ p ∈ xs, p.t.size ≤ 9223372036854775807) ∧ n ≤ c ∧ c ≤ maxLen

theorem in_placeds {T E : TypeId} {f0 f1 f2 : Field} (hT : P.underlying T = some (.slice E)) (hE : P.underlying E = some (.struct #[f0, f1, f2])) (hI : P.underlying f0.type = some (.int .i64)) (hJ : P.underlying f1.type = some (.int .i64))
    (hS : P.underlying f2.type = some .string) (hC : P.cellsOf E = 3) (hcs : (P.cellsOf f0.type, P.cellsOf f1.type, P.cellsOf f2.type) = (1, 1, 1)) (hof : (f0.offset, f1.offset, f2.offset) = (0, 1, 2))
    {a : Option Addr} {n c : Nat} {d : DataW H} {p : List MemPlace} (h : DataW.Trod enc P W 0 (fun _ => true) true T (.slice a n c) d p) : ∃ xs : List Pl, InPlaceds W a n c xs := by
  obtain ⟨fuel, hf⟩ := h
  simp only [Prod.mk.injEq] at hcs hof
  obtain ⟨k0, k1, k2⟩ := hcs
  obtain ⟨o0, o1, o2⟩ := hof
  rcases open_slice hT hf with ⟨hcs, _⟩ | ⟨x, l, c', m, fu, D, Pl', hcs, _, hl, hm, hmm, _, hel⟩
  · simp [Value.cells] at hcs
    obtain ⟨rfl, rfl, rfl⟩ := hcs
    exact ⟨[], Rd.nil _ _ _, (fun z hz => (by cases hz)), Nat.le_refl _, Nat.zero_le _⟩
  · simp [Value.cells] at hcs
    obtain ⟨rfl, rfl, rfl⟩ := hcs
    have hmm' : m = c := by simpa using hmm
    subst hmm'
    rw [hC] at hel
    have hex : ∀ i, i < n → ∃ y : Pl, y.t.size ≤ 9223372036854775807 ∧ ∀ j, j < 3 → W.cell? ((x.add (i * 3)).add j) = y.cells[j]? := by
      intro i hi
      obtain ⟨cs, h1, h2⟩ := hel i (by omega)
      obtain ⟨_, hcl, hat⟩ := World.cells?_some h1
      obtain ⟨ys, n', hn', _, _, hyl, hg⟩ := DataW.trod_struct hE h2
      match cs, hcl, ys, hyl with
      | [v0, v1, v2], _, [y0, y1, y2], _ =>
        have g0 := hg 0 f0 rfl
        have g1 := hg 1 f1 rfl
        have g2 := hg 2 f2 rfl
        rw [o0, k0] at g0
        rw [o1, k1] at g1
        rw [o2, k2] at g2
        obtain ⟨e0, q0, _, _⟩ := DataW.trod_int (cs := [v0]) (x := y0) hI g0
        obtain ⟨e1, q1, _, _⟩ := DataW.trod_int (cs := [v1]) (x := y1) hJ g1
        obtain ⟨e2, q2, _, hz⟩ := DataW.trod_string (cs := [v2]) (x := y2) hS g2
        injection q0 with q0
        injection q1 with q1
        injection q2 with q2
        refine ⟨⟨e0, e1, e2⟩, by unfold maxLen at hz; omega, fun j hj => ?_⟩
        rw [hat j hj, q0, q1, q2]
        rfl
    obtain ⟨xs, hxl, hxs⟩ := exists_list n hex
    refine ⟨xs, rd_of_elems Pl.cells_length (by omega) hxl (fun i y hy => (hxs i y hy).2), fun y hy => ?_, hl, hm⟩
    obtain ⟨j, hj, rfl⟩ := List.getElem_of_mem hy
    exact (hxs j _ (List.getElem?_eq_getElem hj)).1
end
end Go.Proofs.Ytigcbnehcofbcaa
