/-
  The plain law of the order in which characters are shown.
-/
import Derived.Test.YtonkminebememaaLevPlain
namespace Go.Proofs.Ytonkminebememaa
open Go.RowKit
set_option linter.unusedVariables false

/-- A part of a list turned round. -/
def revd {α : Type} (xs : List α) (f m : Nat) : List α := xs.take f ++ (((xs.drop f).take m).reverse ++ xs.drop (f + m))
theorem revd_length {α : Type} {xs : List α} {f m : Nat} (h : f + m ≤ xs.length) : (revd xs f m).length = xs.length := by
  unfold revd
  simp only [List.length_append, List.length_take, List.length_reverse, List.length_drop]
  omega
theorem revd_get {α : Type} {xs : List α} {f m x : Nat} (h : f + m ≤ xs.length) : (revd xs f m)[x]? = if f ≤ x ∧ x < f + m then xs[f + (m - 1 - (x - f))]? else xs[x]? := by
  have h1 : (xs.take f).length = f := by rw [List.length_take]; omega
  have h2 : ((xs.drop f).take m).length = m := by rw [List.length_take, List.length_drop]; omega
  unfold revd
  by_cases c1 : x < f
  · rw [if_neg (by omega), List.getElem?_append_left (by omega), List.getElem?_take, if_pos c1]
  · rw [List.getElem?_append_right (by omega), h1]
    by_cases c2 : x < f + m
    · rw [if_pos ⟨by omega, c2⟩, List.getElem?_append_left (by rw [List.length_reverse]; omega), List.getElem?_reverse (by omega), h2, List.getElem?_take, if_pos (by omega), List.getElem?_drop]
    · rw [if_neg (by omega), List.getElem?_append_right (by rw [List.length_reverse]; omega), List.length_reverse, h2, List.getElem?_drop]
      congr 1
      omega
theorem revd_map {α β : Type} (g : α → β) (xs : List α) (f m : Nat) : (revd xs f m).map g = revd (xs.map g) f m := by
  unfold revd
  simp [List.map_take, List.map_drop, List.map_reverse]
/-- The first and the last a of the part have changed places. -/
def RevTo {α : Type} (xs : List α) (f m a : Nat) (ys : List α) : Prop :=
  ys.length = xs.length ∧ ∀ x, x < xs.length → ys[x]? = if f ≤ x ∧ x < f + m ∧ (x - f < a ∨ m ≤ a + (x - f)) then xs[f + (m - 1 - (x - f))]? else xs[x]?
theorem RevTo.start {α : Type} (xs : List α) (f m : Nat) : RevTo xs f m 0 xs := ⟨rfl, fun x hx => by rw [if_neg (by omega)]⟩
theorem RevTo.low {α : Type} {xs ys : List α} {f m a : Nat} (h : RevTo xs f m a ys) (hm : 2 * a + 1 < m) (hl : f + m ≤ xs.length) : ys[f + a]? = xs[f + a]? := by rw [h.2 _ (by omega), if_neg (by omega)]
theorem RevTo.high {α : Type} {xs ys : List α} {f m a : Nat} (h : RevTo xs f m a ys) (hm : 2 * a + 1 < m) (hl : f + m ≤ xs.length) : ys[f + (m - 1 - a)]? = xs[f + (m - 1 - a)]? := by rw [h.2 _ (by omega), if_neg (by omega)]
theorem RevTo.step {α : Type} {xs ys : List α} {f m a : Nat} {u v : α} (h : RevTo xs f m a ys) (hm : 2 * a + 1 < m) (hl : f + m ≤ xs.length) (hu : xs[f + a]? = some u) (hv : xs[f + (m - 1 - a)]? = some v) :
    RevTo xs f m (a + 1) ((ys.set (f + a) v).set (f + (m - 1 - a)) u) := by
  refine ⟨by simpa using h.1, fun x hx => ?_⟩
  have hyl := h.1
  rcases Nat.decEq (f + (m - 1 - a)) x with c1 | c1
  · rw [List.getElem?_set_ne c1]
    rcases Nat.decEq (f + a) x with c2 | c2
    · rw [List.getElem?_set_ne c2, h.2 x hx]
      by_cases c3 : f ≤ x ∧ x < f + m ∧ (x - f < a ∨ m ≤ a + (x - f))
      · rw [if_pos c3, if_pos (by omega)]
      · rw [if_neg c3, if_neg (by omega)]
    · subst c2
      rw [List.getElem?_set_self (by omega), if_pos (by omega), ← hv]
      congr 1
      omega
  · subst c1
    rw [List.getElem?_set_self (by simp; omega), if_pos (by omega), ← hu]
    congr 1
    omega
theorem RevTo.done {α : Type} {xs ys : List α} {f m a : Nat} (h : RevTo xs f m a ys) (hm : m ≤ 2 * a + 1) (hl : f + m ≤ xs.length) : ys = revd xs f m := by
  refine ext_upto (n := xs.length) h.1 (revd_length hl) (fun x hx => ?_)
  rw [h.2 x hx, revd_get hl]
  by_cases c : f ≤ x ∧ x < f + m
  · rw [if_pos c]
    by_cases c2 : f ≤ x ∧ x < f + m ∧ (x - f < a ∨ m ≤ a + (x - f))
    · rw [if_pos c2]
    · rw [if_neg c2]
      congr 1
      omega
  · rw [if_neg c, if_neg (by omega)]

/-- Turns round each longest run of those with p. -/
def revRuns (p : Nat → Bool) : List Nat → List Nat → List Nat
  | acc, [] => acc
  | acc, x :: xs => if p x then revRuns p (x :: acc) xs else acc ++ x :: revRuns p [] xs
theorem revRuns_run {p : Nat → Bool} : ∀ (run acc rest : List Nat), (∀ x ∈ run, p x = true) → revRuns p acc (run ++ rest) = revRuns p (run.reverse ++ acc) rest
  | [], acc, rest, _ => rfl
  | x :: run, acc, rest, h => by
    rw [List.cons_append, revRuns, if_pos (h x (by simp)), revRuns_run run (x :: acc) rest (fun y hy => h y (by simp [hy]))]
    simp
theorem revRuns_stop {p : Nat → Bool} (acc rest : List Nat) (h : ∀ y, rest[0]? = some y → p y = false) : revRuns p acc rest = acc ++ revRuns p [] rest := by
  cases rest with
  | nil => simp [revRuns]
  | cons y ys =>
    have := h y rfl
    rw [revRuns, revRuns, if_neg (by simp [this]), if_neg (by simp [this])]
    simp
theorem revRuns_perm {p : Nat → Bool} : ∀ (xs acc : List Nat), (revRuns p acc xs).Perm (acc ++ xs)
  | [], acc => by rw [revRuns, List.append_nil]
  | x :: xs, acc => by
    rw [revRuns]
    split
    · exact (revRuns_perm xs (x :: acc)).trans (by
        rw [List.cons_append]
        exact List.perm_middle.symm)
    · exact List.Perm.append_left acc (List.Perm.cons x (by simpa using revRuns_perm xs []))

def atL (ls : List Int) (n : Nat) (x : Nat) : Bool := decide ((n : Int) ≤ (ls[x]?).getD 0)
def ordUp (ls : List Int) : List Nat → Nat → List Nat
  | out, 0 => out
  | out, n + 1 => ordUp ls (revRuns (atL ls (n + 1)) [] out) n
def topL (ls : List Int) : Nat := ls.foldl (fun t l => max t l.toNat) 0
/-- The order of the indexes. -/
def ordL (ls : List Int) : List Nat := ordUp ls (List.range ls.length) (topL ls)
theorem ordUp_perm (ls : List Int) : ∀ (n : Nat) (out : List Nat), (ordUp ls out n).Perm out
  | 0, out => List.Perm.refl _
  | n + 1, out => (ordUp_perm ls n _).trans (by simpa using revRuns_perm out [])
theorem ordL_perm (ls : List Int) : (ordL ls).Perm (List.range ls.length) := ordUp_perm ls _ _
theorem ordL_length (ls : List Int) : (ordL ls).length = ls.length := by rw [(ordL_perm ls).length_eq, List.length_range]
theorem ordL_lt {ls : List Int} {x : Nat} (h : x ∈ ordL ls) : x < ls.length := by
  have := (ordL_perm ls).mem_iff.1 h
  simpa using this

/-- A pass has come to index f: what stands before is done. -/
def Pass (p : Nat → Bool) (xs : List Nat) (f : Nat) (ys : List Nat) : Prop := ys.length = xs.length ∧ f ≤ xs.length ∧ revRuns p [] xs = ys.take f ++ revRuns p [] (ys.drop f)
theorem Pass.start (p : Nat → Bool) (xs : List Nat) : Pass p xs 0 xs := ⟨rfl, Nat.zero_le _, by simp⟩
theorem Pass.done {p : Nat → Bool} {xs ys : List Nat} (h : Pass p xs xs.length ys) : ys = revRuns p [] xs := by
  rw [h.2.2, List.take_of_length_le (by rw [h.1]; exact Nat.le_refl _), List.drop_of_length_le (by rw [h.1]; exact Nat.le_refl _)]
  simp [revRuns]
theorem Pass.run {p : Nat → Bool} {xs ys : List Nat} {f t : Nat} (h : Pass p xs f ys) (hft : f ≤ t) (ht : t ≤ xs.length) (hp : ∀ j y, f ≤ j → j < t → ys[j]? = some y → p y = true) (hs : ∀ y, ys[t]? = some y → p y = false) :
    Pass p xs t (revd ys f (t - f)) := by
  obtain ⟨h1, h2, h3⟩ := h
  have hl : f + (t - f) ≤ ys.length := by omega
  refine ⟨by rw [revd_length hl, h1], ht, ?_⟩
  have e1 : ys.drop f = (ys.drop f).take (t - f) ++ ys.drop t := by
    conv => lhs; rw [← List.take_append_drop (t - f) (ys.drop f)]
    rw [List.drop_drop, show f + (t - f) = t from by omega]
  have hA : ∀ x ∈ (ys.drop f).take (t - f), p x = true := fun x hx => by
    obtain ⟨j, hj, rfl⟩ := List.getElem_of_mem hx
    rw [List.length_take, List.length_drop] at hj
    refine hp (f + j) _ (by omega) (by omega) ?_
    rw [List.getElem_take, List.getElem_drop, List.getElem?_eq_getElem]
  have hB : ∀ y, (ys.drop t)[0]? = some y → p y = false := fun y hy => by
    rw [List.getElem?_drop, Nat.add_zero] at hy
    exact hs y hy
  have hr : revRuns p [] (ys.drop f) = ((ys.drop f).take (t - f)).reverse ++ revRuns p [] (ys.drop t) := by
    conv => lhs; rw [e1]
    rw [revRuns_run _ _ _ hA, List.append_nil, revRuns_stop _ _ hB]
  have hd : revd ys f (t - f) = (ys.take f ++ ((ys.drop f).take (t - f)).reverse) ++ ys.drop t := by
    unfold revd
    rw [show f + (t - f) = t from by omega, List.append_assoc]
  have hln : (ys.take f ++ ((ys.drop f).take (t - f)).reverse).length = t := by
    simp only [List.length_append, List.length_take, List.length_reverse, List.length_drop]
    omega
  obtain ⟨P, hP⟩ : ∃ P, P = ys.take f ++ ((ys.drop f).take (t - f)).reverse := ⟨_, rfl⟩
  rw [h3, hr, hd, ← List.append_assoc, ← hP]
  rw [← hP] at hln
  subst hln
  simp
theorem Pass.skip {p : Nat → Bool} {xs ys : List Nat} {f : Nat} (h : Pass p xs f ys) (hf : f < xs.length) (hs : ∀ y, ys[f]? = some y → p y = false) : Pass p xs (f + 1) ys := by
  obtain ⟨h1, h2, h3⟩ := h
  have hy : ys[f]? = some ys[f] := List.getElem?_eq_getElem (by omega)
  refine ⟨h1, hf, ?_⟩
  rw [h3, drop_of_get hy, revRuns, if_neg (by simp [hs _ hy])]
  rw [List.take_add_one, hy, List.append_assoc]
  rfl
theorem Pass.mem {p : Nat → Bool} {xs ys : List Nat} {f : Nat} (h : Pass p xs f ys) : ys.Perm xs := by
  have h1 : (revRuns p [] xs).Perm xs := by simpa using revRuns_perm xs []
  have h2 : (ys.take f ++ revRuns p [] (ys.drop f)).Perm (ys.take f ++ ys.drop f) := List.Perm.append_left _ (by simpa using revRuns_perm (ys.drop f) [])
  rw [List.take_append_drop] at h2
  rw [← h.2.2] at h2
  exact h2.symm.trans h1

theorem ordUp_zero (ls : List Int) (h : topL ls = 0) : ordL ls = List.range ls.length := by unfold ordL; rw [h]; rfl
end Go.Proofs.Ytonkminebememaa
