/-
  Words for the two tables of WrapWords: two rows of the call's own that hold the columns of a function.
-/
import Derived.Test.YtmljofijeladoaaGreatDoorInts
import Derived.Test.YtmljofijeladoaaGreatDoorWrapCost
import Derived.RegionTactic
import Derived.ChangeAlike
namespace Go.Proofs.YtmljofijeladoaaGreatDoor
open Go.RowKit
set_option linter.unusedVariables false

/-- What WrapWords says. -/
def wEnds (l : List ByteArray) (wd : Int) : List Int := if vWrap l wd = true then (wends (sizes l) wd).map (fun x : Nat => (x : Int)) else []
theorem wEnds_bad {l : List ByteArray} {wd : Int} (h : vWrap l wd = false) : wEnds l wd = [] := by rw [wEnds, h]; rfl
theorem wEnds_len (l : List ByteArray) (wd : Int) : (wEnds l wd).length ≤ 40 := by
  rw [wEnds]
  split
  · rename_i h
    have h1 := (vWrap_words h).1
    have h2 := wends_length (sizes l) wd
    rw [sizes_length] at h2
    simp; omega
  · simp
theorem wEnds_good {l : List ByteArray} {wd : Int} (h : vWrap l wd = true) : wEnds l wd = (wends (sizes l) wd).map (fun x : Nat => (x : Int)) := by rw [wEnds, if_pos h]

def col {α : Type} (f : Nat → α) (n : Nat) : List α := (List.range (n + 1)).map f
theorem col_length {α : Type} (f : Nat → α) (n : Nat) : (col f n).length = n + 1 := by simp [col]
theorem col_get {α : Type} (f : Nat → α) (n j : Nat) (h : j ≤ n) : (col f n)[j]? = some (f j) := by
  simp [col, List.getElem?_range (show j < n + 1 by omega)]
theorem col_set {α : Type} (f : Nat → α) (n i : Nat) (v : α) (h : i ≤ n) : (col f n).set i v = col (fun x => if x = i then v else f x) n := by
  apply List.ext_getElem?
  intro j
  rcases Nat.lt_or_ge j (n + 1) with hj | hj
  · rw [col_get _ n j (by omega)]
    by_cases e : j = i
    · subst e
      rw [List.getElem?_set_self (by rw [col_length]; exact hj), if_pos rfl]
    · rw [List.getElem?_set_ne (fun h => e h.symm), col_get _ n j (by omega), if_neg e]
  · rw [List.getElem?_eq_none (by rw [List.length_set, col_length]; exact hj), List.getElem?_eq_none (by rw [col_length]; exact hj)]
theorem col_congr {α : Type} {f g : Nat → α} {n : Nat} (h : ∀ j, j ≤ n → f j = g j) : col f n = col g n := by
  apply List.ext_getElem?
  intro j
  rcases Nat.lt_or_ge j (n + 1) with hj | hj
  · rw [col_get _ n j (by omega), col_get _ n j (by omega), h j (by omega)]
  · rw [List.getElem?_eq_none (by rw [col_length]; exact hj), List.getElem?_eq_none (by rw [col_length]; exact hj)]

/-- Rows g1 and g2, made by the call that began in w, hold the columns f1 and f2. -/
structure TabAt (w wr : World) (g1 g2 n : Nat) (f1 f2 : Nat → Int) : Prop where
  r1 : wr.ownsRow w.heap.size 3 1 (.slice (some ⟨g1, 0, none⟩) (n + 1) (n + 1)) (n + 1) (ints (col f1 n))
  r2 : wr.ownsRow w.heap.size 3 1 (.slice (some ⟨g2, 0, none⟩) (n + 1) (n + 1)) (n + 1) (ints (col f2 n))
  ne : g1 ≠ g2
  bel : Below w.heap.size w wr

variable {w wr : World} {g1 g2 n : Nat} {f1 f2 : Nat → Int}

theorem TabAt.cell1 (h : TabAt w wr g1 g2 n f1 f2) {j : Nat} (hj : j ≤ n) : wr.cell? ⟨g1, j, none⟩ = some (.int .i64 (f1 j)) := by
  rw [h.r1.cellAt j (by omega), ints, List.getElem?_map, col_get _ n j hj]; rfl
theorem TabAt.cell2 (h : TabAt w wr g1 g2 n f1 f2) {j : Nat} (hj : j ≤ n) : wr.cell? ⟨g2, j, none⟩ = some (.int .i64 (f2 j)) := by
  rw [h.r2.cellAt j (by omega), ints, List.getElem?_map, col_get _ n j hj]; rfl
theorem TabAt.g1lt (h : TabAt w wr g1 g2 n f1 f2) : w.heap.size ≤ g1 ∧ g1 < wr.heap.size := h.r1.lt g1 rfl
theorem TabAt.g2lt (h : TabAt w wr g1 g2 n f1 f2) : w.heap.size ≤ g2 ∧ g2 < wr.heap.size := h.r2.lt g2 rfl

theorem TabAt.set1 (h : TabAt w wr g1 g2 n f1 f2) {i : Nat} (hi : i ≤ n) (v : Int) : TabAt w (wr.setCell ⟨g1, i, none⟩ (.int .i64 v)) g1 g2 n (fun x => if x = i then v else f1 x) f2 := by
  have h1 := (h.r1.stored i (.int .i64 v)).1
  rw [ints, ← List.map_set, col_set f1 n i v hi] at h1
  exact ⟨h1, h.r2.kept (h.r1.stored i (.int .i64 v)).2 (.inr (fun e => h.ne (by injection e with e; exact e.symm))), h.ne, h.bel.setCell h.g1lt.1 _⟩
theorem TabAt.set2 (h : TabAt w wr g1 g2 n f1 f2) {i : Nat} (hi : i ≤ n) (v : Int) : TabAt w (wr.setCell ⟨g2, i, none⟩ (.int .i64 v)) g1 g2 n f1 (fun x => if x = i then v else f2 x) := by
  have h1 := (h.r2.stored i (.int .i64 v)).1
  rw [ints, ← List.map_set, col_set f2 n i v hi] at h1
  exact ⟨h.r1.kept (h.r2.stored i (.int .i64 v)).2 (.inr (fun e => h.ne (by injection e))), h1, h.ne, h.bel.setCell h.g2lt.1 _⟩
theorem TabAt.congr {h1 h2 : Nat → Int} (h : TabAt w wr g1 g2 n f1 f2) (e1 : ∀ j, j ≤ n → f1 j = h1 j) (e2 : ∀ j, j ≤ n → f2 j = h2 j) : TabAt w wr g1 g2 n h1 h2 := by
  refine ⟨?_, ?_, h.ne, h.bel⟩
  · rw [← col_congr e1]; exact h.r1
  · rw [← col_congr e2]; exact h.r2
theorem TabAt.drewN (h : TabAt w wr g1 g2 n f1 f2) (q : Nat) : TabAt w (wr.drewN q) g1 g2 n f1 f2 := ⟨h.r1, h.r2, h.ne, below_drewN' h.bel q⟩

theorem col_zero (n : Nat) : (madeCells #[Value.int .i64 0] (n + 1)).toList = ints (col (fun _ => 0) n) := by
  rw [toList_madeCells_one, ints, col, List.map_map]
  apply List.ext_getElem
  · simp
  · intro i h1 h2; simp

theorem own_made (base : Nat) (w : World) (n : Nat) (hb : base ≤ w.heap.size) (hn : n ≤ 1000) :
    (w.alloc (.cells (madeCells #[.int .i64 0] (n + 1)) 3)).ownsRow base 3 1 (.slice (some ⟨w.heap.size, 0, none⟩) (n + 1) (n + 1)) (n + 1) (ints (col (fun _ => 0) n)) := by
  have h := World.ownsRow_lit (base := base) (e := 3) (size := 1) w (madeCells #[.int .i64 0] (n + 1)) (n + 1) hb (by unfold maxLen; omega) (by rw [size_madeCells]; omega)
  rwa [col_zero] at h

theorem tab_two (w : World) (n : Nat) (hn : n ≤ 1000) :
    TabAt w ((w.alloc (.cells (madeCells #[.int .i64 0] (n + 1)) 3)).alloc (.cells (madeCells #[.int .i64 0] (n + 1)) 3)) w.heap.size (w.heap.size + 1) n (fun _ => 0) (fun _ => 0) := by
  refine ⟨(own_made w.heap.size w n (Nat.le_refl _) hn).alloc _, ?_, by omega, ((Below.refl _ _).alloc (Nat.le_refl _) _).alloc (by simp) _⟩
  have h := own_made w.heap.size (w.alloc (.cells (madeCells #[.int .i64 0] (n + 1)) 3)) n (by simp) hn
  simpa using h
theorem tab_two' (w : World) (n : Nat) (hn : n ≤ 1000) :
    TabAt w ((w.alloc (.cells (madeCells #[.int .i64 0] (n + 1)) 3)).alloc (.cells (madeCells #[.int .i64 0] (n + 1)) 3)) (w.heap.size + 1) w.heap.size n (fun _ => 0) (fun _ => 0) := by
  have h := tab_two w n hn
  exact ⟨h.r2, h.r1, fun e => h.ne e.symm, h.bel⟩

/-! ### The table of least sums -/
theorem wtab_zero (L : List Nat) (W : Int) : ∀ (k j : Nat), j + k < L.length → wtab L W k j = (0, 0)
  | 0, _, _ => rfl
  | k + 1, j, h => by rw [wtab, if_neg (by omega)]; exact wtab_zero L W k j (by omega)

/-- The relation of the outer loop: the words from v + 1 on are done. -/
def OuterRel (w : World) (g1 g2 n : Nat) (L : List Nat) (W : Int) (i : Value) (wr : World) : Prop :=
  ∃ v : Int, -1 ≤ v ∧ v < n ∧ i = .int .i64 v ∧ TabAt w wr g1 g2 n (fun x => (wtab L W (n - (v + 1).toNat) x).1) (fun x => ((wtab L W (n - (v + 1).toNat) x).2 : Int))

/-- The relation of the program's inner loop: the ends below j have been looked at. -/
def InnerRel (w : World) (g1 g2 n : Nat) (L : List Nat) (W : Int) (k i : Nat) (j : Value) (wr : World) : Prop :=
  ∃ (J : Nat) (st : Int × Nat), i < J ∧ J ≤ n + 1 ∧ j = .int .i64 (J : Int) ∧ wokSt L i (3600 * (k : Int) + 3600) st ∧
    wscanJ L W (fun x => (wtab L W k x).1) i (i + 1) (0, 0) = wscanJ L W (fun x => (wtab L W k x).1) i J st ∧
    TabAt w wr g1 g2 n (fun x => if x = i then st.1 else (wtab L W k x).1) (fun x => if x = i then (st.2 : Int) else ((wtab L W k x).2 : Int))

theorem inner_start {w wr : World} {g1 g2 n : Nat} {L : List Nat} {W : Int} {i k : Nat} (hn : n = L.length) (hi : i + 1 + k = n) (h : TabAt w wr g1 g2 n (fun x => (wtab L W k x).1) (fun x => ((wtab L W k x).2 : Int))) :
    InnerRel w g1 g2 n L W k i (.int .i64 ((i + 1 : Nat) : Int)) wr := by
  refine ⟨i + 1, (0, 0), by omega, by omega, rfl, ⟨by simp, by simp; omega, .inl rfl⟩, rfl, ?_⟩
  refine h.congr (fun j _ => ?_) (fun j _ => ?_)
  · show (wtab L W k j).1 = if j = i then 0 else (wtab L W k j).1
    split
    · rename_i e; rw [wtab_zero L W k j (by omega)]
    · rfl
  · show ((wtab L W k j).2 : Int) = if j = i then ((0 : Nat) : Int) else ((wtab L W k j).2 : Int)
    split
    · rename_i e; rw [wtab_zero L W k j (by omega)]
    · rfl

theorem outer_next {w wr : World} {g1 g2 n : Nat} {L : List Nat} {W : Int} {i k : Nat} {st : Int × Nat} (hn : n = L.length) (hi : i + 1 + k = n) (hs : wscanJ L W (fun x => (wtab L W k x).1) i (i + 1) (0, 0) = st)
    (h : TabAt w wr g1 g2 n (fun x => if x = i then st.1 else (wtab L W k x).1) (fun x => if x = i then (st.2 : Int) else ((wtab L W k x).2 : Int))) :
    OuterRel w g1 g2 n L W (.int .i64 ((i : Int) - 1)) wr := by
  refine ⟨(i : Int) - 1, by omega, by omega, rfl, ?_⟩
  have e : n - ((i : Int) - 1 + 1).toNat = k + 1 := by omega
  rw [e]
  refine h.congr (fun j _ => ?_) (fun j _ => ?_)
  · show (if j = i then st.1 else (wtab L W k j).1) = (wtab L W (k + 1) j).1
    rw [wtab]
    by_cases e : j = i
    · subst e
      rw [if_pos rfl, if_pos (by omega), hs]
    · rw [if_neg e, if_neg (by omega)]
  · show (if j = i then (st.2 : Int) else ((wtab L W k j).2 : Int)) = ((wtab L W (k + 1) j).2 : Int)
    rw [wtab]
    by_cases e : j = i
    · subst e
      rw [if_pos rfl, if_pos (by omega), hs]
    · rw [if_neg e, if_neg (by omega)]

theorem TabAt.drew (h : TabAt w wr g1 g2 n f1 f2) : TabAt w wr.drew g1 g2 n f1 f2 := ⟨h.r1, h.r2, h.ne, h.bel.drew⟩
theorem TabAt.alloc (h : TabAt w wr g1 g2 n f1 f2) (o : Obj) : TabAt w (wr.alloc o) g1 g2 n f1 f2 := ⟨h.r1.alloc o, h.r2.alloc o, h.ne, h.bel.alloc h.bel.size o⟩
theorem TabAt.grown {w' : World} {o : Obj} {row : Option Nat} (h : TabAt w wr g1 g2 n f1 f2) (hg : (wr.alloc o).grownBy w' row) (hrow : ∀ k, row = some k → g1 < k ∧ g2 < k) : TabAt w w' g1 g2 n f1 f2 := by
  have hs := h.g1lt
  refine ⟨(h.r1.alloc o).kept hg (.inr (fun e => by have := (hrow g1 e.symm).1; omega)), (h.r2.alloc o).kept hg (.inr (fun e => by have := (hrow g2 e.symm).2; omega)), h.ne, ?_⟩
  exact (h.bel.alloc h.bel.size o).grown hg (by have := h.bel.size; simp; omega) (fun k hk => by have := (hrow k hk).1; omega)

/-- The relation of the outer loop, whichever table was made first. -/
def OuterG (w : World) (n : Nat) (L : List Nat) (W : Int) (s6 s7 i : Value) (wr : World) : Prop :=
  ∃ g1 g2, s6 = .slice (some ⟨g1, 0, none⟩) (n + 1) (n + 1) ∧ s7 = .slice (some ⟨g2, 0, none⟩) (n + 1) (n + 1) ∧ OuterRel w g1 g2 n L W i wr

theorem outer_start {w wr : World} {g1 g2 n : Nat} {L : List Nat} {W : Int} (h : TabAt w wr g1 g2 n (fun _ => 0) (fun _ => 0)) : OuterRel w g1 g2 n L W (.int .i64 ((n : Int) - 1)) wr := by
  refine ⟨(n : Int) - 1, by omega, by omega, rfl, ?_⟩
  rw [show n - ((n : Int) - 1 + 1).toNat = 0 from by omega]
  exact h.congr (fun _ _ => rfl) (fun _ _ => rfl)

theorem inner_step {w w2 : World} {g1 g2 n : Nat} {L : List Nat} {W : Int} {k i J : Nat} {st st' : Int × Nat} (hn : n = L.length) (hiJ : i < J) (hJn : J ≤ n) (hW : W ≤ 60) (hr : 0 ≤ wrest L W i J)
    (hok : wokSt L i (3600 * (k : Int) + 3600) st) (hsc : wscanJ L W (fun x => (wtab L W k x).1) i (i + 1) (0, 0) = wscanJ L W (fun x => (wtab L W k x).1) i J st)
    (hst : wupd L W (fun x => (wtab L W k x).1) i st J = st')
    (hT : TabAt w w2 g1 g2 n (fun x => if x = i then st'.1 else (wtab L W k x).1) (fun x => if x = i then (st'.2 : Int) else ((wtab L W k x).2 : Int))) :
    InnerRel w g1 g2 n L W k i (.int .i64 ((J : Int) + 1)) w2 := by
  have ih := wtab_ok L W hW k
  refine ⟨J + 1, st', by omega, by omega, by rw [show ((J + 1 : Nat) : Int) = (J : Int) + 1 from by omega], ?_, ?_, hT⟩
  · rw [← hst]; exact wupd_ok (B := 3600 * (k : Int)) (C := fun x => (wtab L W k x).1) hW hiJ (by omega) hr ⟨(ih J).1, (ih J).2.1⟩ (by omega) hok
  · rw [hsc, wscanJ_step (by omega) hr, hst]

/-- The relation of the reference's inner loop: the lowest sum is kept in a variable, -1 where there is none. -/
def InnerRel2 (w : World) (g1 g2 n : Nat) (L : List Nat) (W : Int) (k i : Nat) (best j : Value) (wr : World) : Prop :=
  ∃ (J : Nat) (st : Int × Nat) (b : Int), i < J ∧ J ≤ n + 1 ∧ j = .int .i64 (J : Int) ∧ best = .int .i64 b ∧ ((st.2 = 0 ∧ b = -1 ∧ J = i + 1) ∨ (st.2 ≠ 0 ∧ b = st.1)) ∧ wokSt L i (3600 * (k : Int) + 3600) st ∧
    wscanJ L W (fun x => (wtab L W k x).1) i (i + 1) (0, 0) = wscanJ L W (fun x => (wtab L W k x).1) i J st ∧
    TabAt w wr g1 g2 n (fun x => (wtab L W k x).1) (fun x => if x = i then (st.2 : Int) else ((wtab L W k x).2 : Int))

theorem inner_start2 {w wr : World} {g1 g2 n : Nat} {L : List Nat} {W : Int} {i k : Nat} (hn : n = L.length) (hi : i + 1 + k = n) (h : TabAt w wr g1 g2 n (fun x => (wtab L W k x).1) (fun x => ((wtab L W k x).2 : Int))) :
    InnerRel2 w g1 g2 n L W k i (.int .i64 (-1)) (.int .i64 ((i + 1 : Nat) : Int)) wr := by
  refine ⟨i + 1, (0, 0), -1, by omega, by omega, rfl, rfl, .inl ⟨rfl, rfl, rfl⟩, ⟨by simp, by simp; omega, .inl rfl⟩, rfl, ?_⟩
  refine h.congr (fun j _ => rfl) (fun j _ => ?_)
  show ((wtab L W k j).2 : Int) = if j = i then ((0 : Nat) : Int) else ((wtab L W k j).2 : Int)
  split
  · rename_i e; rw [wtab_zero L W k j (by omega)]
  · rfl

theorem inner_step2 {w w2 : World} {g1 g2 n : Nat} {L : List Nat} {W : Int} {k i J : Nat} {st st' : Int × Nat} {b : Int} (hn : n = L.length) (hiJ : i < J) (hJn : J ≤ n) (hW : W ≤ 60) (hr : 0 ≤ wrest L W i J)
    (hok : wokSt L i (3600 * (k : Int) + 3600) st) (hsc : wscanJ L W (fun x => (wtab L W k x).1) i (i + 1) (0, 0) = wscanJ L W (fun x => (wtab L W k x).1) i J st)
    (hst : wupd L W (fun x => (wtab L W k x).1) i st J = st') (hb : st'.2 ≠ 0 ∧ b = st'.1)
    (hT : TabAt w w2 g1 g2 n (fun x => (wtab L W k x).1) (fun x => if x = i then (st'.2 : Int) else ((wtab L W k x).2 : Int))) :
    InnerRel2 w g1 g2 n L W k i (.int .i64 b) (.int .i64 ((J : Int) + 1)) w2 := by
  have ih := wtab_ok L W hW k
  refine ⟨J + 1, st', b, by omega, by omega, by rw [show ((J + 1 : Nat) : Int) = (J : Int) + 1 from by omega], rfl, .inr hb, ?_, ?_, hT⟩
  · rw [← hst]; exact wupd_ok (B := 3600 * (k : Int)) (C := fun x => (wtab L W k x).1) hW hiJ (by omega) hr ⟨(ih J).1, (ih J).2.1⟩ (by omega) hok
  · rw [hsc, wscanJ_step (by omega) hr, hst]

/-- What the loop that reads the ends off keeps. -/
def ReadRel (w : World) (B1 g1 g2 n : Nat) (L : List Nat) (W : Int) (v i : Value) (wr : World) : Prop :=
  ∃ (k m : Nat) (xs : List Int), i = .int .i64 (k : Int) ∧ k ≤ n ∧ m ≤ k ∧ wr.ownsRow B1 3 1 v m (ints xs) ∧ (wends L W).map (fun x : Nat => (x : Int)) = xs ++ (wchainI (wnext L W) n k).map (fun x : Nat => (x : Int)) ∧
    TabAt w wr g1 g2 n (fun x => (wtab L W n x).1) (fun x => ((wtab L W n x).2 : Int)) ∧ B1 ≤ wr.heap.size

theorem read_next {w w' : World} {B1 g1 g2 n : Nat} {L : List Nat} {W : Int} {v' : Value} {k m : Nat} {xs : List Int} (hn : n = L.length) (hW : W ≤ 60) (hL : ∀ x ∈ L, (x : Int) ≤ W) (hk : k < n) (hmk : m ≤ k)
    (ho : w'.ownsRow B1 3 1 v' (m + 1) (ints xs ++ [.int .i64 (wnext L W k : Int)])) (hx : (wends L W).map (fun x : Nat => (x : Int)) = xs ++ (wchainI (wnext L W) n k).map (fun x : Nat => (x : Int)))
    (hT : TabAt w w' g1 g2 n (fun x => (wtab L W n x).1) (fun x => ((wtab L W n x).2 : Int))) (hB : B1 ≤ w'.heap.size) : ReadRel w B1 g1 g2 n L W v' (.int .i64 (wnext L W k : Int)) w' := by
  have hnx := wnext_ok hW hL (i := k) (by omega)
  refine ⟨wnext L W k, m + 1, xs ++ [(wnext L W k : Int)], rfl, by omega, by omega, by simpa [ints] using ho, ?_, hT, hB⟩
  rw [hx, hn, wchainI_step (fun i hi => (wnext_ok hW hL hi).1) (by omega)]
  simp
end Go.Proofs.YtmljofijeladoaaGreatDoor
