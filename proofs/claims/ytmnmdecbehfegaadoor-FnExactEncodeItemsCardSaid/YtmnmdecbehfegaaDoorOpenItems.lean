/-
  How a slice of items that came in is read.
-/
import Derived.Test.YtmnmdecbehfegaaDoorOpen
import Derived.Test.YtmnmdecbehfegaaDoorItems
namespace Go.Proofs.YtmnmdecbehfegaaDoor
open Go.ChangeShapes Go.WideShapes Go.ChangeAt Go.RowKit Go.Deep
set_option linter.unusedVariables false

section
variable {H : Type} {enc : TypeId × Value → H} {P : Program} {W : World}

theorem exists_items {α : Type} {R : Nat → α → Prop} : ∀ n : Nat, (∀ i, i < n → ∃ x, R i x) → ∃ xs : List α, xs.length = n ∧ ∀ i x, xs[i]? = some x → R i x
  | 0, _ => ⟨[], rfl, fun i x h => by simp at h⟩
  | n + 1, h => by
    obtain ⟨xs, hl, hx⟩ := exists_items n (fun i hi => h i (by omega))
    obtain ⟨y, hy⟩ := h n (by omega)
    refine ⟨xs ++ [y], by simp [hl], fun i x hi => ?_⟩
    rcases Nat.lt_or_ge i n with h1 | h1
    · rw [List.getElem?_append_left (by omega)] at hi
      exact hx i x hi
    · have : i = n := by
        have := (List.getElem?_eq_some_iff.1 hi).1
        simp at this
        omega
      subst this
      rw [List.getElem?_append_right (by omega), hl, Nat.sub_self] at hi
      simp at hi
      subst hi
      exact hy

theorem rd_of_items {α : Type} {f : α → List Value} {s : Nat} (hs : ∀ x, (f x).length = s) (h0 : 0 < s) {x : Addr} {n : Nat} {xs : List α} (hl : xs.length = n)
    (hc : ∀ i y, xs[i]? = some y → ∀ j, j < s → W.cell? ((x.add (i * s)).add j) = (f y)[j]?) : Rd W s (some x) n (xs.flatMap f) := by
  refine ⟨by rw [flat_length f s hs, hl], fun hn => ?_⟩
  have hcell : ∀ j, j < n * s → W.cell? (x.add j) = (xs.flatMap f)[j]? := by
    intro j hj
    have hq : j / s < n := (Nat.div_lt_iff_lt_mul h0).2 hj
    have hr : j % s < s := Nat.mod_lt _ h0
    have hdm : j / s * s + j % s = j := by rw [Nat.mul_comm]; exact Nat.div_add_mod j s
    have hy : xs[j / s]? = some xs[j / s] := List.getElem?_eq_getElem (by omega)
    have h1 := hc _ _ hy (j % s) hr
    have h2 := flat_get f s hs xs (j / s) (j % s) _ hy hr
    rw [hdm] at h2
    rw [h2, ← h1, Go.Deep.add_add, hdm]
  obtain ⟨b, o, spot⟩ := x
  have hpos : 0 < n * s := Nat.mul_pos hn h0
  have h1 := hcell 0 hpos
  rw [List.getElem?_eq_getElem (by rw [flat_length f s hs, hl]; exact hpos)] at h1
  have hsp : spot = none := by simpa [Addr.add] using World.cell?_spot h1
  subst hsp
  exact ⟨b, o, rfl, fun j hj => by rw [← add_plain]; exact hcell j hj⟩

/-- A slice of items that came in. -/
def InItems (w : World) (a : Option Addr) (n c : Nat) (xs : List It) : Prop :=
  Rd w 6 a n (items xs) ∧ (∀ x ∈ xs, (Lit.int .i64 x.k).wf = true ∧ (Lit.int .i64 x.w).wf = true ∧ (Lit.int .i64 x.st).wf = true ∧ (Lit.int .i64 x.sh).wf = true ∧ (Lit.int .i64 x.p).wf = true) ∧ n ≤ c ∧ c ≤ maxLen

theorem read_item {w : World} {base : Nat} {spare : Nat → Bool} {held : Bool} {fuel : Nat} {E : TypeId} {cs : List Value} {r : DataW H × List MemPlace} {f0 f1 f2 f3 g0 g1 g2 : Field}
    (hE : P.underlying E = some (.struct #[f0, f1, f2, f3])) (hG : P.underlying f1.type = some (.struct #[g0, g1, g2]))
    (hk : P.underlying f0.type = some (.int .i64)) (hp : P.underlying f2.type = some (.int .i64)) (hb : P.underlying f3.type = some .bool)
    (hw : P.underlying g0.type = some (.int .i64)) (ht : P.underlying g1.type = some (.int .i64)) (hs : P.underlying g2.type = some (.int .i64)) (hC : P.cellsOf E = 6)
    (hcs : (P.cellsOf f0.type, P.cellsOf f1.type, P.cellsOf f2.type, P.cellsOf f3.type, P.cellsOf g0.type, P.cellsOf g1.type, P.cellsOf g2.type) = (1, 3, 1, 1, 1, 1, 1))
    (hof : (f0.offset, f1.offset, f2.offset, f3.offset, g0.offset, g1.offset, g2.offset) = (0, 1, 4, 5, 0, 1, 2))
    (h : DataW.trod enc P w base spare held fuel E cs = some r) : ∃ x : It, cs = x.cells ∧ (Lit.int .i64 x.k).wf = true ∧ (Lit.int .i64 x.w).wf = true ∧ (Lit.int .i64 x.st).wf = true ∧ (Lit.int .i64 x.sh).wf = true ∧ (Lit.int .i64 x.p).wf = true := by
  simp only [Prod.mk.injEq] at hcs hof
  obtain ⟨c0, c1, c2, c3, d0, d1, d2⟩ := hcs
  obtain ⟨o0, o1, o2, o3, q0, q1, q2⟩ := hof
  obtain ⟨ys, n', _, _, hcl, hyl, hg⟩ := DataW.trod_struct hE h
  rw [hC] at hcl
  match cs, hcl, ys, hyl with
  | [v0, v1, v2, v3, v4, v5], _, [y0, y1, y2, y3], _ =>
    have a0 := hg 0 f0 rfl
    have a1 := hg 1 f1 rfl
    have a2 := hg 2 f2 rfl
    have a3 := hg 3 f3 rfl
    rw [o0, c0] at a0
    rw [o1, c1] at a1
    rw [o2, c2] at a2
    rw [o3, c3] at a3
    obtain ⟨zs, m', _, _, _, hzl, hh⟩ := DataW.trod_struct (cs := [v1, v2, v3]) (x := y1) hG a1
    match zs, hzl with
    | [z0, z1, z2], _ =>
      have b0 := hh 0 g0 rfl
      have b1 := hh 1 g1 rfl
      have b2 := hh 2 g2 rfl
      rw [q0, d0] at b0
      rw [q1, d1] at b1
      rw [q2, d2] at b2
      obtain ⟨e0, r0, _, w0⟩ := DataW.trod_int (cs := [v0]) (x := y0) hk a0
      obtain ⟨e1, r1, _, w1⟩ := DataW.trod_int (cs := [v1]) (x := z0) hw b0
      obtain ⟨e2, r2, _, w2⟩ := DataW.trod_int (cs := [v2]) (x := z1) ht b1
      obtain ⟨e3, r3, _, w3⟩ := DataW.trod_int (cs := [v3]) (x := z2) hs b2
      obtain ⟨e4, r4, _, w4⟩ := DataW.trod_int (cs := [v4]) (x := y2) hp a2
      obtain ⟨e5, r5, _⟩ := DataW.trod_bool (cs := [v5]) (x := y3) hb a3
      injection r0 with r0
      injection r1 with r1
      injection r2 with r2
      injection r3 with r3
      injection r4 with r4
      injection r5 with r5
      exact ⟨⟨e0, e1, e2, e3, e4, e5⟩, by rw [r0, r1, r2, r3, r4, r5]; rfl, w0, w1, w2, w3, w4⟩

theorem in_items {T E : TypeId} {f0 f1 f2 f3 g0 g1 g2 : Field} (hT : P.underlying T = some (.slice E))
    (hE : P.underlying E = some (.struct #[f0, f1, f2, f3])) (hG : P.underlying f1.type = some (.struct #[g0, g1, g2]))
    (hk : P.underlying f0.type = some (.int .i64)) (hp : P.underlying f2.type = some (.int .i64)) (hb : P.underlying f3.type = some .bool)
    (hw : P.underlying g0.type = some (.int .i64)) (ht : P.underlying g1.type = some (.int .i64)) (hs : P.underlying g2.type = some (.int .i64)) (hC : P.cellsOf E = 6)
    (hcs : (P.cellsOf f0.type, P.cellsOf f1.type, P.cellsOf f2.type, P.cellsOf f3.type, P.cellsOf g0.type, P.cellsOf g1.type, P.cellsOf g2.type) = (1, 3, 1, 1, 1, 1, 1))
    (hof : (f0.offset, f1.offset, f2.offset, f3.offset, g0.offset, g1.offset, g2.offset) = (0, 1, 4, 5, 0, 1, 2))
    {a : Option Addr} {n c : Nat} {d : DataW H} {p : List MemPlace} (h : DataW.Trod enc P W 0 (fun _ => true) true T (.slice a n c) d p) : ∃ xs : List It, InItems W a n c xs := by
  obtain ⟨fuel, hf⟩ := h
  rcases open_slice hT hf with ⟨hcs', _⟩ | ⟨x, l, c', m, fu, D, Pl', hcs', _, hl, hm, hmm, _, hel⟩
  · simp [Value.cells] at hcs'
    obtain ⟨rfl, rfl, rfl⟩ := hcs'
    exact ⟨[], Rd.nil _ _ _, (fun z hz => (by cases hz)), Nat.le_refl _, Nat.zero_le _⟩
  · simp [Value.cells] at hcs'
    obtain ⟨rfl, rfl, rfl⟩ := hcs'
    have hmm' : m = c := by simpa using hmm
    subst hmm'
    rw [hC] at hel
    have hex : ∀ i, i < n → ∃ y : It, ((Lit.int .i64 y.k).wf = true ∧ (Lit.int .i64 y.w).wf = true ∧ (Lit.int .i64 y.st).wf = true ∧ (Lit.int .i64 y.sh).wf = true ∧ (Lit.int .i64 y.p).wf = true) ∧ ∀ j, j < 6 → W.cell? ((x.add (i * 6)).add j) = y.cells[j]? := by
      intro i hi
      obtain ⟨cs, h1, h2⟩ := hel i (by omega)
      obtain ⟨_, hcl, hat⟩ := World.cells?_some h1
      obtain ⟨y, hy, hwf⟩ := read_item hE hG hk hp hb hw ht hs hC hcs hof h2
      exact ⟨y, hwf, fun j hj => by rw [hat j hj, hy]⟩
    obtain ⟨xs, hxl, hxs⟩ := exists_items n hex
    refine ⟨xs, rd_of_items It.cells_length (by omega) hxl (fun i y hy => (hxs i y hy).2), fun y hy => ?_, hl, hm⟩
    obtain ⟨j, hj, rfl⟩ := List.getElem_of_mem hy
    exact (hxs j _ (List.getElem?_eq_getElem hj)).1

/-- An item's numbers are numbers of Go's. -/
def It.wf (x : It) : Prop := (Lit.int .i64 x.k).wf = true ∧ (Lit.int .i64 x.w).wf = true ∧ (Lit.int .i64 x.st).wf = true ∧ (Lit.int .i64 x.sh).wf = true ∧ (Lit.int .i64 x.p).wf = true
theorem in_item {E : TypeId} {f0 f1 f2 f3 g0 g1 g2 : Field}
    (hE : P.underlying E = some (.struct #[f0, f1, f2, f3])) (hG : P.underlying f1.type = some (.struct #[g0, g1, g2]))
    (hk : P.underlying f0.type = some (.int .i64)) (hp : P.underlying f2.type = some (.int .i64)) (hb : P.underlying f3.type = some .bool)
    (hw : P.underlying g0.type = some (.int .i64)) (ht : P.underlying g1.type = some (.int .i64)) (hs : P.underlying g2.type = some (.int .i64)) (hC : P.cellsOf E = 6)
    (hcs : (P.cellsOf f0.type, P.cellsOf f1.type, P.cellsOf f2.type, P.cellsOf f3.type, P.cellsOf g0.type, P.cellsOf g1.type, P.cellsOf g2.type) = (1, 3, 1, 1, 1, 1, 1))
    (hof : (f0.offset, f1.offset, f2.offset, f3.offset, g0.offset, g1.offset, g2.offset) = (0, 1, 4, 5, 0, 1, 2))
    {r : Reach} {b0 : Nat} {v : Value} (hv : Value.okWide P W r b0 E v) {d : DataW H} {p : List MemPlace} (h : DataW.Trod enc P W 0 (fun _ => true) true E v d p) :
    ∃ x : It, v = .agg #[.int .i64 x.k, .int .i64 x.w, .int .i64 x.st, .int .i64 x.sh, .int .i64 x.p, .bool x.f] ∧ x.wf := by
  obtain ⟨cs, rfl, _⟩ := okWide_struct hE hv
  obtain ⟨fuel, hf⟩ := h
  obtain ⟨x, hx, hwf⟩ := read_item hE hG hk hp hb hw ht hs hC hcs hof hf
  have hx' : cs.toList = x.cells := by simpa [Value.cells] using hx
  refine ⟨x, ?_, hwf⟩
  have : cs = x.cells.toArray := by rw [← hx']
  rw [this]; rfl
end
end Go.Proofs.YtmnmdecbehfegaaDoor
