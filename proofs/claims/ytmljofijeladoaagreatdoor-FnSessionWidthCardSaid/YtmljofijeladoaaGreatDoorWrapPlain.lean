/-
  The plain law of wrapping: the table of least sums of squares, and what the ends of lines are that are read off it; no program occurs here.
-/
import Derived.Test.YtmljofijeladoaaGreatDoorBase
namespace Go.Proofs.YtmljofijeladoaaGreatDoor
set_option linter.unusedVariables false

/-- The length of a line of words of these lengths, with single spaces. -/
def lineLen (L : List Nat) : Int := (L.sum : Int) + L.length - 1
def seg (L : List Nat) (i j : Nat) : List Nat := (L.drop i).take (j - i)
def wrest (L : List Nat) (W : Int) (i j : Nat) : Int := W - lineLen (seg L i j)

def wcst (L : List Nat) (W : Int) (C : Nat → Int) (i j : Nat) : Int := if j = L.length then 0 else wrest L W i j * wrest L W i j + C j
def wupd (L : List Nat) (W : Int) (C : Nat → Int) (i : Nat) (st : Int × Nat) (j : Nat) : Int × Nat :=
  if st.2 = 0 ∨ wcst L W C i j < st.1 then (wcst L W C i j, j) else st
def wscan (L : List Nat) (W : Int) (C : Nat → Int) (i : Nat) : Nat → Nat → Int × Nat → Int × Nat
  | 0, _, st => st
  | f + 1, j, st => if 0 ≤ wrest L W i j then wscan L W C i f (j + 1) (wupd L W C i st j) else st
def wscanJ (L : List Nat) (W : Int) (C : Nat → Int) (i j : Nat) (st : Int × Nat) : Int × Nat := wscan L W C i (L.length + 1 - j) j st

theorem wscanJ_step {L : List Nat} {W : Int} {C : Nat → Int} {i j : Nat} {st : Int × Nat} (h : j ≤ L.length) (hr : 0 ≤ wrest L W i j) : wscanJ L W C i j st = wscanJ L W C i (j + 1) (wupd L W C i st j) := by
  rw [wscanJ, show L.length + 1 - j = (L.length + 1 - (j + 1)) + 1 from by omega, wscan, if_pos hr, wscanJ]
theorem wscanJ_stop {L : List Nat} {W : Int} {C : Nat → Int} {i j : Nat} {st : Int × Nat} (hr : wrest L W i j < 0) : wscanJ L W C i j st = st := by
  rw [wscanJ]
  cases L.length + 1 - j with
  | zero => rfl
  | succ f => rw [wscan, if_neg (by omega)]
theorem wscanJ_end {L : List Nat} {W : Int} {C : Nat → Int} {i j : Nat} {st : Int × Nat} (h : L.length < j) : wscanJ L W C i j st = st := by
  rw [wscanJ, show L.length + 1 - j = 0 from by omega, wscan]

/-- The table behind k rounds: the least sum and the next end for the words from j on. -/
def wtab (L : List Nat) (W : Int) : Nat → Nat → Int × Nat
  | 0, _ => (0, 0)
  | k + 1, j => if j = L.length - (k + 1) then wscanJ L W (fun x => (wtab L W k x).1) j (j + 1) (0, 0) else wtab L W k j

/-! ### Bounds -/
theorem seg_sum_le {L : List Nat} {i j : Nat} : ((seg L i j).length : Int) ≤ L.length := by
  have : (seg L i j).length ≤ L.length := by simp [seg]; omega
  omega
theorem seg_length {L : List Nat} {i j : Nat} (hj : j ≤ L.length) : (seg L i j).length = j - i := by simp [seg]; omega
theorem wrest_le {L : List Nat} {W : Int} {i j : Nat} (hij : i < j) (hj : j ≤ L.length) : wrest L W i j ≤ W := by
  have := seg_length (i := i) hj
  unfold wrest lineLen
  omega

/-- What a state of the scan at i keeps to: the sum lies in 0..B, the end lies behind i. -/
def wokSt (L : List Nat) (i : Nat) (B : Int) (st : Int × Nat) : Prop := 0 ≤ st.1 ∧ st.1 ≤ B ∧ (st.2 = 0 ∨ (i < st.2 ∧ st.2 ≤ L.length))

theorem sq_le {x W : Int} (h0 : 0 ≤ x) (h1 : x ≤ W) (hW : W ≤ 60) : 0 ≤ x * x ∧ x * x ≤ 3600 := by
  refine ⟨Int.mul_nonneg h0 h0, ?_⟩
  have := Int.mul_le_mul (show x ≤ 60 by omega) (show x ≤ 60 by omega) h0 (show (0 : Int) ≤ 60 by omega)
  omega

theorem wcst_bd {L : List Nat} {W B : Int} {C : Nat → Int} {i j : Nat} (hW : W ≤ 60) (hij : i < j) (hj : j ≤ L.length) (hr : 0 ≤ wrest L W i j) (hC : 0 ≤ C j ∧ C j ≤ B) (hB : 0 ≤ B) : 0 ≤ wcst L W C i j ∧ wcst L W C i j ≤ B + 3600 := by
  have h := sq_le hr (wrest_le hij hj) hW
  unfold wcst
  split <;> omega

theorem wupd_ok {L : List Nat} {W B : Int} {C : Nat → Int} {i j : Nat} {st : Int × Nat} (hW : W ≤ 60) (hij : i < j) (hj : j ≤ L.length) (hr : 0 ≤ wrest L W i j) (hC : 0 ≤ C j ∧ C j ≤ B) (hB : 0 ≤ B) (h : wokSt L i (B + 3600) st) : wokSt L i (B + 3600) (wupd L W C i st j) := by
  have hc := wcst_bd hW hij hj hr hC hB
  unfold wupd
  split
  · exact ⟨hc.1, hc.2, .inr ⟨hij, hj⟩⟩
  · exact h

theorem wscan_ok {L : List Nat} {W B : Int} {C : Nat → Int} {i : Nat} (hW : W ≤ 60) (hC : ∀ j, 0 ≤ C j ∧ C j ≤ B) (hB : 0 ≤ B) : ∀ (f j : Nat) (st : Int × Nat), i < j → f = L.length + 1 - j → wokSt L i (B + 3600) st → wokSt L i (B + 3600) (wscan L W C i f j st)
  | 0, _, _, _, _, h => h
  | f + 1, j, st, hij, hf, h => by
    rw [wscan]
    split
    · exact wscan_ok hW hC hB f (j + 1) _ (by omega) (by omega) (wupd_ok hW hij (by omega) ‹_› (hC j) hB h)
    · exact h

theorem wscanJ_ok {L : List Nat} {W B : Int} {C : Nat → Int} {i : Nat} (hW : W ≤ 60) (hC : ∀ j, 0 ≤ C j ∧ C j ≤ B) (hB : 0 ≤ B) (j : Nat) (st : Int × Nat) (hij : i < j) (h : wokSt L i (B + 3600) st) : wokSt L i (B + 3600) (wscanJ L W C i j st) :=
  wscan_ok hW hC hB _ j st hij rfl h

theorem wtab_ok (L : List Nat) (W : Int) (hW : W ≤ 60) : ∀ (k j : Nat), 0 ≤ (wtab L W k j).1 ∧ (wtab L W k j).1 ≤ 3600 * (k : Int) ∧ ((wtab L W k j).2 = 0 ∨ (j < (wtab L W k j).2 ∧ (wtab L W k j).2 ≤ L.length))
  | 0, j => by simp [wtab]
  | k + 1, j => by
    have ih := wtab_ok L W hW k
    rw [wtab]
    split
    · have h := wscanJ_ok (L := L) (W := W) (B := 3600 * (k : Int)) (C := fun x => (wtab L W k x).1) (i := j) hW (fun x => ⟨(ih x).1, (ih x).2.1⟩) (by omega) (j + 1) (0, 0) (by omega) ⟨by simp, by simp; omega, .inl rfl⟩
      exact ⟨h.1, by have := h.2.1; omega, h.2.2⟩
    · have := ih j
      exact ⟨this.1, by omega, this.2.2⟩

/-! ### Where every word fits by itself, an end is found -/
theorem seg_one {L : List Nat} {i : Nat} (h : i < L.length) : seg L i (i + 1) = [L[i]] := by
  rw [seg, List.drop_eq_getElem_cons h, show i + 1 - i = 1 from by omega]; rfl
theorem wrest_one {L : List Nat} {W : Int} {i : Nat} (h : i < L.length) (hb : (L[i] : Int) ≤ W) : 0 ≤ wrest L W i (i + 1) := by
  rw [wrest, seg_one h, lineLen]; simp; omega

theorem wscan_next {L : List Nat} {W : Int} {C : Nat → Int} {i : Nat} : ∀ (f j : Nat) (st : Int × Nat), 0 < st.2 → 0 < j → 0 < (wscan L W C i f j st).2
  | 0, _, _, h, _ => h
  | f + 1, j, st, h, hj => by
    rw [wscan]
    split
    · refine wscan_next f (j + 1) _ ?_ (by omega)
      unfold wupd
      split
      · exact hj
      · exact h
    · exact h

theorem wtab_next (L : List Nat) (W : Int) (hW : W ≤ 60) (hL : ∀ x ∈ L, (x : Int) ≤ W) : ∀ (k j : Nat), j < L.length → L.length ≤ j + k → j < (wtab L W k j).2 ∧ (wtab L W k j).2 ≤ L.length
  | 0, j, h1, h2 => by omega
  | k + 1, j, h1, h2 => by
    rw [wtab]
    split
    · have hr := wrest_one (W := W) h1 (hL _ (List.getElem_mem h1))
      rw [wscanJ_step (by omega) hr]
      have hn := wscan_next (L := L) (W := W) (C := fun x => (wtab L W k x).1) (i := j) (L.length + 1 - (j + 1 + 1)) (j + 1 + 1) (wupd L W (fun x => (wtab L W k x).1) j (0, 0) (j + 1)) (by unfold wupd; simp) (by omega)
      have ih := wtab_ok L W hW k
      have hok := wscanJ_ok (L := L) (W := W) (B := 3600 * (k : Int)) (C := fun x => (wtab L W k x).1) (i := j) hW (fun x => ⟨(ih x).1, (ih x).2.1⟩) (by omega) (j + 1 + 1) (wupd L W (fun x => (wtab L W k x).1) j (0, 0) (j + 1)) (by omega)
        (wupd_ok hW (by omega) (by omega) hr ⟨(ih _).1, (ih _).2.1⟩ (by omega) ⟨by simp, by simp; omega, .inl rfl⟩)
      rcases hok.2.2 with h | h
      · rw [wscanJ] at h; omega
      · exact h
    · rename_i hne
      exact wtab_next L W hW hL k j h1 (by omega)

/-! ### The ends -/
def wchain (nx : Nat → Nat) (n : Nat) : Nat → Nat → List Nat
  | 0, _ => []
  | f + 1, i => if i < n then nx i :: wchain nx n f (nx i) else []

theorem wchain_fuel {nx : Nat → Nat} {n : Nat} (h : ∀ i, i < n → i < nx i) : ∀ (f g i : Nat), n ≤ i + f → n ≤ i + g → wchain nx n f i = wchain nx n g i
  | 0, 0, _, _, _ => rfl
  | 0, g + 1, i, h1, _ => by rw [wchain, wchain, if_neg (by omega)]
  | f + 1, 0, i, _, h2 => by rw [wchain, wchain, if_neg (by omega)]
  | f + 1, g + 1, i, h1, h2 => by
    rw [wchain, wchain]
    split
    · rename_i hi
      have := h i hi
      rw [wchain_fuel h f g (nx i) (by omega) (by omega)]
    · rfl

def wchainI (nx : Nat → Nat) (n i : Nat) : List Nat := wchain nx n (n - i) i
theorem wchainI_step {nx : Nat → Nat} {n i : Nat} (h : ∀ i, i < n → i < nx i) (hi : i < n) : wchainI nx n i = nx i :: wchainI nx n (nx i) := by
  have := h i hi
  rw [wchainI, show n - i = (n - i - 1) + 1 from by omega, wchain, if_pos hi, wchainI, wchain_fuel h (n - i - 1) (n - nx i) (nx i) (by omega) (by omega)]
theorem wchainI_end {nx : Nat → Nat} {n i : Nat} (hi : n ≤ i) : wchainI nx n i = [] := by
  rw [wchainI, show n - i = 0 from by omega, wchain]

/-- The ends of the lines with the least sum of squares. -/
def wnext (L : List Nat) (W : Int) (j : Nat) : Nat := (wtab L W L.length j).2
def wends (L : List Nat) (W : Int) : List Nat := wchainI (wnext L W) L.length 0
end Go.Proofs.YtmljofijeladoaaGreatDoor
