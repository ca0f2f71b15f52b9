/-
  Breaking a paragraph line by line, in plain words: where a line may end, how long a line is, where it does end, and where two broken paragraphs part.
-/
import Derived.Test.YtjkmjgjpkneckaaItems2
namespace Go.Proofs.Ytjkmjgjpkneckaa
open Go.RowKit
set_option linter.unusedVariables false

theorem vIt_bound {x : It} (h : vIt x = true) : (0 ≤ x.w ∧ x.w ≤ 1000) ∧ (0 ≤ x.st ∧ x.st ≤ 1000) ∧ (0 ≤ x.sh ∧ x.sh ≤ 1000) := by
  simp only [vIt, Bool.or_eq_true, Bool.and_eq_true, beq_iff_eq, inB_iff] at h
  rcases h with (h | h) | h <;> omega
theorem vItems_parts {xs : List It} (h : vItems xs = true) : 1 ≤ xs.length ∧ xs.length ≤ 60 ∧ xs.all vIt = true := by
  simp only [vItems, Bool.and_eq_true, inB_iff] at h
  exact ⟨by omega, by omega, h.1.2⟩
theorem vItems_at {xs : List It} (h : vItems xs = true) {i : Nat} {x : It} (hx : xs[i]? = some x) : vIt x = true :=
  List.all_eq_true.1 (vItems_parts h).2.2 x (List.mem_of_getElem? hx)
theorem vItems_last {xs : List It} (h : vItems xs = true) : ∃ x, xs[xs.length - 1]? = some x ∧ frc x = true := by
  simp only [vItems, Bool.and_eq_true] at h
  have h2 := h.2
  rw [List.getLast?_eq_getElem?] at h2
  cases hx : xs[xs.length - 1]? with
  | none => rw [hx] at h2; cases h2
  | some x => rw [hx] at h2; exact ⟨x, rfl, h2⟩

/-- May a line end at item i? -/
def isB (xs : List It) (i : Nat) : Bool :=
  match xs[i]? with
  | none => false
  | some x => (x.k == 3 && decide (x.p < 1000)) || (x.k == 2 && (decide (0 < i) && (match xs[i - 1]? with | some y => y.k == 1 | none => false)))

theorem isB_3 {xs : List It} {i : Nat} {x : It} (h : xs[i]? = some x) (hk : x.k = 3) : isB xs i = decide (x.p < 1000) := by
  simp [isB, h, hk]
theorem isB_2 {xs : List It} {i : Nat} {x y : It} (h : xs[i]? = some x) (hk : x.k = 2) (hi : 0 < i) (hy : xs[i - 1]? = some y) : isB xs i = (y.k == 1) := by
  simp [isB, h, hk, hi, hy]
theorem isB_0 {xs : List It} {i : Nat} {x : It} (h : xs[i]? = some x) (hk : x.k = 2) (hi : i = 0) : isB xs i = false := by
  subst hi
  simp [isB, h, hk]
theorem isB_no {xs : List It} {i : Nat} {x : It} (h : xs[i]? = some x) (h3 : x.k ≠ 3) (h2 : x.k ≠ 2) : isB xs i = false := by
  simp [isB, h, h3, h2]
theorem isB_frc {xs : List It} {i : Nat} {x : It} (h : xs[i]? = some x) (hf : frc x = true) : isB xs i = true := by
  simp only [frc, Bool.and_eq_true, beq_iff_eq] at hf
  rw [isB_3 h hf.1, hf.2]
  rfl

/-! ### The first item of a line -/
def notBox (x : It) : Bool := !(x.k == 1)
def notBoxF (x : It) : Bool := !(x.k == 1) && !frc x

/-- From item i on, the first of at most k items that does not have the mark, or what lies behind them. -/
def lgo (p : It → Bool) (xs : List It) : Nat → Nat → Nat
  | 0, i => i
  | k + 1, i => match xs[i]? with
    | none => i
    | some x => if p x then lgo p xs k (i + 1) else i

theorem lgo_step {p : It → Bool} {xs : List It} {t i : Nat} {x : It} (hi : i < t) (hx : xs[i]? = some x) (hp : p x = true) : lgo p xs (t - i) i = lgo p xs (t - (i + 1)) (i + 1) := by
  obtain ⟨k, hk⟩ : ∃ k, t - i = k + 1 := ⟨t - i - 1, by omega⟩
  have hk2 : t - (i + 1) = k := by omega
  rw [hk, hk2, lgo, hx]
  simp [hp]
theorem lgo_stop {p : It → Bool} {xs : List It} {t i : Nat} {x : It} (hx : xs[i]? = some x) (hp : p x = false) : lgo p xs (t - i) i = i := by
  cases hk : t - i with
  | zero => rfl
  | succ k => rw [lgo, hx]; simp [hp]
theorem lgo_end {p : It → Bool} {xs : List It} {t i : Nat} (hi : t ≤ i) : lgo p xs (t - i) i = i := by
  rw [Nat.sub_eq_zero_of_le hi, lgo]
theorem lgo_ge (p : It → Bool) (xs : List It) : ∀ k i, i ≤ lgo p xs k i
  | 0, i => Nat.le_refl _
  | k + 1, i => by
    rw [lgo]
    split
    · exact Nat.le_refl _
    · split
      · exact Nat.le_trans (Nat.le_succ _) (lgo_ge p xs k (i + 1))
      · exact Nat.le_refl _
theorem lgo_le (p : It → Bool) (xs : List It) : ∀ k i, lgo p xs k i ≤ i + k
  | 0, i => Nat.le_refl _
  | k + 1, i => by
    rw [lgo]
    split
    · omega
    · split
      · have := lgo_le p xs k (i + 1); omega
      · omega

/-! ### No forced break -/
def nof (xs : List It) : Nat → Nat → Bool
  | 0, _ => true
  | k + 1, i => (match xs[i]? with | none => true | some x => !frc x) && nof xs k (i + 1)

theorem nof_iff (xs : List It) : ∀ k i, nof xs k i = true ↔ ∀ j, i ≤ j → j < i + k → ∀ x, xs[j]? = some x → frc x = false
  | 0, i => ⟨fun _ j h1 h2 => absurd h2 (by omega), fun _ => rfl⟩
  | k + 1, i => by
    rw [nof, Bool.and_eq_true, nof_iff xs k (i + 1)]
    constructor
    · rintro ⟨h1, h2⟩ j hj1 hj2 x hx
      by_cases h : j = i
      · subst h
        rw [hx] at h1
        simpa using h1
      · exact h2 j (by omega) (by omega) x hx
    · intro h
      refine ⟨?_, fun j h1 h2 => h j (by omega) (by omega)⟩
      cases hx : xs[i]? with
      | none => rfl
      | some x => simpa using h i (Nat.le_refl _) (by omega) x hx

theorem nof_step {xs : List It} {t i : Nat} {x : It} (hi : i < t) (hx : xs[i]? = some x) (hp : frc x = false) : nof xs (t - i) i = nof xs (t - (i + 1)) (i + 1) := by
  obtain ⟨k, hk⟩ : ∃ k, t - i = k + 1 := ⟨t - i - 1, by omega⟩
  have hk2 : t - (i + 1) = k := by omega
  rw [hk, hk2, nof, hx]
  simp [hp]
theorem nof_stop {xs : List It} {t i : Nat} {x : It} (hi : i < t) (hx : xs[i]? = some x) (hp : frc x = true) : nof xs (t - i) i = false := by
  obtain ⟨k, hk⟩ : ∃ k, t - i = k + 1 := ⟨t - i - 1, by omega⟩
  rw [hk, nof, hx]
  simp [hp]
theorem nof_end {xs : List It} {t i : Nat} (hi : t ≤ i) : nof xs (t - i) i = true := by
  rw [Nat.sub_eq_zero_of_le hi, nof]
theorem nof_more {xs : List It} {s t : Nat} {x : It} (hs : s ≤ t) (h : nof xs (t - s) s = true) (hx : xs[t]? = some x) (hf : frc x = false) : nof xs (t + 1 - s) s = true := by
  rw [nof_iff] at h ⊢
  intro j h1 h2 y hy
  by_cases e : j = t
  · subst e
    rw [hx] at hy
    injection hy with hy
    rw [← hy]; exact hf
  · exact h j h1 (by omega) y hy
theorem nof_over {xs : List It} {s f t : Nat} {x : It} (hs : s ≤ f) (ht : f < t) (hx : xs[f]? = some x) (hf : frc x = true) : nof xs (t - s) s = false := by
  cases h : nof xs (t - s) s
  · rfl
  · rw [nof_iff] at h
    have := h f hs (by omega) x hx
    rw [hf] at this
    cases this

/-- The reference stops at a forced break as well; where there is none, that is the same. -/
theorem lgo_same {xs : List It} {n t : Nat} (htn : t ≤ n) : ∀ k i, i + k = t → nof xs k i = true →
    (lgo notBox xs k i = lgo notBoxF xs (n - i) i) ∨ (lgo notBox xs k i = t ∧ t ≤ lgo notBoxF xs (n - i) i)
  | 0, i, h, _ => .inr ⟨by rw [lgo]; omega, by have := lgo_ge notBoxF xs (n - i) i; omega⟩
  | k + 1, i, h, hn => by
    obtain ⟨m, hm⟩ : ∃ m, n - i = m + 1 := ⟨n - i - 1, by omega⟩
    have hm2 : n - (i + 1) = m := by omega
    rw [nof, Bool.and_eq_true] at hn
    obtain ⟨h1, h2⟩ := hn
    rw [hm, lgo, lgo]
    cases hx : xs[i]? with
    | none => exact .inl rfl
    | some x =>
      rw [hx] at h1
      have hf : frc x = false := by simpa using h1
      have e : notBoxF x = notBox x := by simp [notBoxF, notBox, hf]
      simp only [e]
      cases hp : notBox x
      · exact .inl rfl
      · have := lgo_same htn k (i + 1) (by omega) h2
        rw [hm2] at this
        simpa using this

/-! ### The length of a line -/
structure G3 where
  w : Int
  st : Int
  sh : Int

def gadd (g : G3) (x : It) : G3 := if x.k = 3 then g else ⟨g.w + x.w, g.st + x.st, g.sh + x.sh⟩
def gl (xs : List It) (i t : Nat) : G3 := ((xs.take t).drop i).foldl gadd ⟨0, 0, 0⟩

theorem gl_zero {xs : List It} {i t : Nat} (h : t ≤ i) : gl xs i t = ⟨0, 0, 0⟩ := by
  have : (xs.take t).drop i = [] := List.drop_eq_nil_of_le (by rw [List.length_take]; omega)
  rw [gl, this, List.foldl_nil]
theorem gl_step {xs : List It} {i t : Nat} {x : It} (h : i ≤ t) (hx : xs[t]? = some x) : gl xs i (t + 1) = gadd (gl xs i t) x := by
  have hl : t < xs.length := (List.getElem?_eq_some_iff.1 hx).1
  rw [gl, gl, List.take_add_one, hx, List.drop_append_of_le_length (by rw [List.length_take]; omega), List.foldl_append]
  rfl

theorem fold_bound : ∀ (l : List It) (g : G3), l.all vIt = true →
    (g.w ≤ (l.foldl gadd g).w ∧ (l.foldl gadd g).w ≤ g.w + 1000 * l.length) ∧ (g.st ≤ (l.foldl gadd g).st ∧ (l.foldl gadd g).st ≤ g.st + 1000 * l.length) ∧
      (g.sh ≤ (l.foldl gadd g).sh ∧ (l.foldl gadd g).sh ≤ g.sh + 1000 * l.length)
  | [], g, _ => by simp
  | x :: l, g, h => by
    rw [List.all_cons, Bool.and_eq_true] at h
    have ih := fold_bound l (gadd g x) h.2
    have hb := vIt_bound h.1
    rw [List.foldl_cons]
    have e : (((x :: l).length : Nat) : Int) = l.length + 1 := by simp
    rw [e]
    by_cases hk : x.k = 3
    · have e2 : gadd g x = g := if_pos hk
      rw [e2] at ih ⊢
      omega
    · have e2 : gadd g x = ⟨g.w + x.w, g.st + x.st, g.sh + x.sh⟩ := if_neg hk
      rw [e2] at ih ⊢
      simp only at ih
      omega

theorem all_sub {xs : List It} (h : xs.all vIt = true) (i t : Nat) : ((xs.take t).drop i).all vIt = true := by
  rw [List.all_eq_true] at h ⊢
  exact fun x hx => h x (List.mem_of_mem_take (List.mem_of_mem_drop hx))

theorem gl_bound {xs : List It} (h : vItems xs = true) (i t : Nat) :
    (0 ≤ (gl xs i t).w ∧ (gl xs i t).w ≤ 60000) ∧ (0 ≤ (gl xs i t).st ∧ (gl xs i t).st ≤ 60000) ∧ (0 ≤ (gl xs i t).sh ∧ (gl xs i t).sh ≤ 60000) := by
  have hv := vItems_parts h
  have hb := fold_bound ((xs.take t).drop i) ⟨0, 0, 0⟩ (all_sub hv.2.2 i t)
  have hl : ((xs.take t).drop i).length ≤ 60 := by rw [List.length_drop, List.length_take]; omega
  rw [gl]
  simp only at hb
  omega

/-- The line from item i up to the break t. -/
def line (xs : List It) (i t : Nat) : G3 :=
  match xs[t]? with
  | none => gl xs i t
  | some x => if x.k = 3 then ⟨(gl xs i t).w + x.w, (gl xs i t).st, (gl xs i t).sh⟩ else gl xs i t

theorem line_3 {xs : List It} {i t : Nat} {x : It} (hx : xs[t]? = some x) (hk : x.k = 3) : line xs i t = ⟨(gl xs i t).w + x.w, (gl xs i t).st, (gl xs i t).sh⟩ := by
  simp [line, hx, hk]
theorem line_no {xs : List It} {i t : Nat} {x : It} (hx : xs[t]? = some x) (hk : x.k ≠ 3) : line xs i t = gl xs i t := by
  simp [line, hx, hk]
theorem line_bound {xs : List It} (h : vItems xs = true) (i t : Nat) :
    (0 ≤ (line xs i t).w ∧ (line xs i t).w ≤ 61000) ∧ (0 ≤ (line xs i t).st ∧ (line xs i t).st ≤ 61000) ∧ (0 ≤ (line xs i t).sh ∧ (line xs i t).sh ≤ 61000) := by
  have hb := gl_bound h i t
  cases hx : xs[t]? with
  | none =>
    have : line xs i t = gl xs i t := by simp [line, hx]
    rw [this]; omega
  | some x =>
    by_cases hk : x.k = 3
    · have hv := vIt_bound (vItems_at h hx)
      rw [line_3 hx hk]
      simp only
      omega
    · rw [line_no hx hk]; omega

/-- How a length fits. -/
def code (g : G3) (wd : Int) : Int :=
  if wd - min g.w 10000 = 0 then 1 else if 0 < wd - min g.w 10000 then 2 else if -(wd - min g.w 10000) ≤ min g.sh 10000 then 3 else 4

/-- Where the line behind items 0 .. s-1 begins if it ends at t. -/
def lst (xs : List It) (s t : Nat) : Nat := lgo notBox xs (t - s) s
def lstF (xs : List It) (s : Nat) : Nat := lgo notBoxF xs (xs.length - s) s

def cd (xs : List It) (wd : Int) (s t : Nat) : Int := code (line xs (lst xs s t) t) wd

theorem gl_lstF {xs : List It} {s t : Nat} (hs : s ≤ t) (ht : t ≤ xs.length) (h : nof xs (t - s) s = true) : gl xs (lstF xs s) t = gl xs (lst xs s t) t := by
  rcases lgo_same (xs := xs) (n := xs.length) ht (t - s) s (by omega) h with e | ⟨e1, e2⟩
  · rw [lst, lstF, e]
  · rw [lst, e1, gl_zero (Nat.le_refl _), gl_zero (show t ≤ lstF xs s from e2)]
theorem line_lstF {xs : List It} {s t : Nat} (hs : s ≤ t) (ht : t ≤ xs.length) (h : nof xs (t - s) s = true) : line xs (lstF xs s) t = line xs (lst xs s t) t := by
  rw [line, line, gl_lstF hs ht h]

/-! ### Where a line ends -/
def okl (xs : List It) (s t : Nat) : Bool := isB xs t && nof xs (t - s) s

/-- The break of the line that begins at s, among the items before t; -1 if there is none. -/
def bst (xs : List It) (wd : Int) (s : Nat) : Nat → Int
  | 0 => -1
  | t + 1 => if t < s then -1 else if okl xs s t && (decide (bst xs wd s t < 0) || !(cd xs wd s t == 4)) then (t : Int) else bst xs wd s t

theorem bst_start (xs : List It) (wd : Int) (s : Nat) : bst xs wd s s = -1 := by
  cases s with
  | zero => rfl
  | succ s => rw [bst, if_pos (by omega)]
theorem bst_skip {xs : List It} {wd : Int} {s t : Nat} (hs : s ≤ t) (h : okl xs s t = false) : bst xs wd s (t + 1) = bst xs wd s t := by
  rw [bst, if_neg (by omega), h, Bool.false_and, if_neg (by decide)]
theorem bst_take {xs : List It} {wd : Int} {s t : Nat} (hs : s ≤ t) (h : okl xs s t = true) (h2 : bst xs wd s t < 0 ∨ cd xs wd s t ≠ 4) : bst xs wd s (t + 1) = t := by
  rw [bst, if_neg (by omega), h, if_pos]
  rcases h2 with h2 | h2
  · simp [h2]
  · simp [h2]
theorem bst_keep {xs : List It} {wd : Int} {s t : Nat} (hs : s ≤ t) (h1 : ¬ bst xs wd s t < 0) (h2 : cd xs wd s t = 4) : bst xs wd s (t + 1) = bst xs wd s t := by
  rw [bst, if_neg (by omega), if_neg]
  simp [h1, h2]
theorem bst_behind {xs : List It} {wd : Int} {s f : Nat} {x : It} (hs : s ≤ f) (hx : xs[f]? = some x) (hf : frc x = true) : ∀ k, bst xs wd s (f + 1 + k) = bst xs wd s (f + 1)
  | 0 => rfl
  | k + 1 => by
    have e : f + 1 + (k + 1) = (f + 1 + k) + 1 := by omega
    rw [e, bst_skip (by omega) (by rw [okl, nof_over hs (by omega) hx hf, Bool.and_false]), bst_behind hs hx hf k]
theorem bst_range (xs : List It) (wd : Int) (s : Nat) : ∀ t, bst xs wd s t = -1 ∨ ((s : Int) ≤ bst xs wd s t ∧ bst xs wd s t < t ∧ isB xs (bst xs wd s t).toNat = true)
  | 0 => .inl rfl
  | t + 1 => by
    rw [bst]
    by_cases h1 : t < s
    · rw [if_pos h1]; exact .inl rfl
    rw [if_neg h1]
    split
    next h2 =>
      right
      simp only [okl, Bool.and_eq_true] at h2
      refine ⟨by omega, by omega, ?_⟩
      rw [Int.toNat_natCast]; exact h2.1.1
    next h2 =>
      rcases bst_range xs wd s t with h | ⟨h3, h4, h5⟩
      · exact .inl h
      · exact .inr ⟨h3, by omega, h5⟩
theorem bst_pos {xs : List It} {wd : Int} {s t : Nat} (hs : s ≤ t) (h : okl xs s t = true) : 0 ≤ bst xs wd s (t + 1) := by
  by_cases h1 : bst xs wd s t < 0
  · rw [bst_take hs h (.inl h1)]; omega
  · by_cases h2 : cd xs wd s t = 4
    · rw [bst_keep hs h1 h2]; omega
    · rw [bst_take hs h (.inr h2)]; omega

theorem first_forced {xs : List It} : ∀ (k s t : Nat), t - s = k → s ≤ t → (∃ x, xs[t]? = some x ∧ frc x = true) → ∃ f x, s ≤ f ∧ f ≤ t ∧ xs[f]? = some x ∧ frc x = true ∧ nof xs (f - s) s = true
  | 0, s, t, h, hs, ⟨x, hx, hf⟩ => ⟨t, x, hs, Nat.le_refl _, hx, hf, nof_end (by omega)⟩
  | k + 1, s, t, h, hs, hx => by
    by_cases h1 : ∃ y, xs[s]? = some y ∧ frc y = true
    · obtain ⟨y, hy, hf⟩ := h1
      exact ⟨s, y, Nat.le_refl _, hs, hy, hf, nof_end (Nat.le_refl _)⟩
    · obtain ⟨f, x, h2, h3, h4, h5, h6⟩ := first_forced k (s + 1) t (by omega) (by omega) hx
      refine ⟨f, x, by omega, h3, h4, h5, ?_⟩
      obtain ⟨m, hm⟩ : ∃ m, f - s = m + 1 := ⟨f - s - 1, by omega⟩
      have hm2 : f - (s + 1) = m := by omega
      rw [hm2] at h6
      rw [hm, nof, h6, Bool.and_true]
      cases hy : xs[s]? with
      | none => rfl
      | some y =>
        cases hf : frc y
        · simp [hf]
        · exact absurd ⟨y, hy, hf⟩ h1

/-- A paragraph's line ends somewhere. -/
theorem bst_ends {xs : List It} {wd : Int} (h : vItems xs = true) {s : Nat} (hs : s < xs.length) :
    (s : Int) ≤ bst xs wd s xs.length ∧ bst xs wd s xs.length < xs.length ∧ isB xs (bst xs wd s xs.length).toNat = true := by
  obtain ⟨f, x, h1, h2, hx, hf, hn⟩ := first_forced (xs.length - 1 - s) s (xs.length - 1) rfl (by omega) (vItems_last h)
  have hk : okl xs s f = true := by rw [okl, isB_frc hx hf, hn]; rfl
  have hp := bst_pos (wd := wd) h1 hk
  have e := bst_behind (wd := wd) h1 hx hf (xs.length - (f + 1))
  have e2 : f + 1 + (xs.length - (f + 1)) = xs.length := by omega
  rw [e2] at e
  rcases bst_range xs wd s xs.length with h3 | h3
  · omega
  · exact h3

/-! ### All lines -/
def ffs (xs : List It) (wd : Int) : Nat → Nat → List Int
  | 0, _ => []
  | k + 1, s => if s < xs.length then bst xs wd s xs.length :: ffs xs wd k ((bst xs wd s xs.length).toNat + 1) else []
def FF (xs : List It) (wd : Int) : List Int := ffs xs wd xs.length 0

theorem ffs_length (xs : List It) (wd : Int) : ∀ k s, (ffs xs wd k s).length ≤ k
  | 0, _ => Nat.le_refl _
  | k + 1, s => by
    rw [ffs]
    split
    · have := ffs_length xs wd k ((bst xs wd s xs.length).toNat + 1)
      rw [List.length_cons]; omega
    · exact Nat.zero_le _
theorem FF_length (xs : List It) (wd : Int) : (FF xs wd).length ≤ xs.length := ffs_length xs wd _ _
theorem ffs_below {xs : List It} (wd : Int) (h : vItems xs = true) : ∀ k s, ∀ z ∈ ffs xs wd k s, 0 ≤ z ∧ z < xs.length
  | 0, _, z, hz => by cases hz
  | k + 1, s, z, hz => by
    rw [ffs] at hz
    split at hz
    next hs =>
      have hb := bst_ends (wd := wd) h hs
      rcases List.mem_cons.1 hz with e | hz
      · omega
      · exact ffs_below wd h k _ z hz
    next hs => cases hz
theorem FF_below {xs : List It} (wd : Int) (h : vItems xs = true) : ∀ z ∈ FF xs wd, 0 ≤ z ∧ z < xs.length := ffs_below wd h _ _

/-- What is still to come: the lines out, and the next one begins at s. -/
def Left (xs : List It) (wd : Int) (out : List Int) (s : Nat) : Prop := ∃ k, FF xs wd = out ++ ffs xs wd k s ∧ xs.length ≤ k + s ∧ s ≤ xs.length ∧ (s = 0 ∨ isB xs (s - 1) = true)
theorem Left.start (xs : List It) (wd : Int) : Left xs wd [] 0 := ⟨xs.length, rfl, Nat.le_refl _, Nat.zero_le _, .inl rfl⟩
theorem Left.step {xs : List It} {wd : Int} {out : List Int} {s : Nat} (h : Left xs wd out s) (hv : vItems xs = true) (hs : s < xs.length) {t : Nat} (ht : bst xs wd s xs.length = t) : Left xs wd (out ++ [(t : Int)]) (t + 1) := by
  obtain ⟨k, e, hk, _, _⟩ := h
  have hb := bst_ends (wd := wd) hv hs
  rw [ht] at hb
  cases k with
  | zero => omega
  | succ k =>
    refine ⟨k, ?_, by omega, by omega, .inr hb.2.2⟩
    rw [e, ffs, if_pos hs, ht, Int.toNat_natCast, List.append_assoc]
    rfl
theorem Left.done {xs : List It} {wd : Int} {out : List Int} {s : Nat} (h : Left xs wd out s) (hs : xs.length ≤ s) : out = FF xs wd := by
  obtain ⟨k, e, _, _, _⟩ := h
  have : ffs xs wd k s = [] := by
    cases k with
    | zero => rfl
    | succ k => rw [ffs, if_neg (by omega)]
  rw [e, this, List.append_nil]
theorem Left.short {xs : List It} {wd : Int} {out : List Int} {s : Nat} (h : Left xs wd out s) : out.length ≤ xs.length := by
  obtain ⟨k, e, _, _, _⟩ := h
  have := FF_length xs wd
  rw [e, List.length_append] at this
  omega

/-! ### Where two paragraphs part -/
def dwn (l : List Int) (c : Int) : Nat → Nat
  | 0 => 0
  | k + 1 => if c ≤ l[k]?.getD 0 then dwn l c k else k + 1
def fch (xs ys : List It) (wd : Int) : Int :=
  if vItems xs = true ∧ vItems ys = true ∧ inB 1 10000 wd = true then dwn (FF xs wd) (cpre xs ys) (cpre (FF xs wd) (FF ys wd)) else -1

theorem dwn_le (l : List Int) (c : Int) : ∀ k, dwn l c k ≤ k
  | 0 => Nat.le_refl _
  | k + 1 => by
    rw [dwn]
    split
    · exact Nat.le_succ_of_le (dwn_le l c k)
    · exact Nat.le_refl _
theorem dwn_step {l : List Int} {c z : Int} {k : Nat} (hz : l[k]? = some z) (h : c ≤ z) : dwn l c (k + 1) = dwn l c k := by
  rw [dwn, hz, Option.getD_some, if_pos h]
theorem dwn_stop {l : List Int} {c z : Int} {k : Nat} (hz : l[k]? = some z) (h : ¬ c ≤ z) : dwn l c (k + 1) = k + 1 := by
  rw [dwn, hz, Option.getD_some, if_neg h]
theorem dwn_last (l : List Int) (c : Int) : ∀ k, k ≤ l.length → 0 < dwn l c k → ∃ z, l[dwn l c k - 1]? = some z ∧ z < c
  | 0, _, h => by simp [dwn] at h
  | k + 1, hk, h => by
    by_cases hz : c ≤ l[k]?.getD 0
    · rw [dwn, if_pos hz] at h ⊢
      exact dwn_last l c k (by omega) h
    · rw [dwn, if_neg hz]
      obtain ⟨z, hz'⟩ : ∃ z, l[k]? = some z := ⟨l[k], List.getElem?_eq_getElem (by omega)⟩
      rw [hz', Option.getD_some] at hz
      exact ⟨z, by simpa using hz', by omega⟩
theorem dwn_all {l : List Int} {c : Int} (h : ∀ z ∈ l, z < c) : dwn l c l.length = l.length := by
  cases hl : l.length with
  | zero => rfl
  | succ k =>
    have hz : l[k]? = some l[k] := List.getElem?_eq_getElem (by omega)
    exact dwn_stop hz (by have := h l[k] (List.getElem_mem _); omega)

theorem fch_ok {xs ys : List It} {wd : Int} (h : vItems xs = true ∧ vItems ys = true ∧ inB 1 10000 wd = true) : fch xs ys wd = dwn (FF xs wd) (cpre xs ys) (cpre (FF xs wd) (FF ys wd)) := if_pos h
theorem fch_valid {xs ys : List It} {wd : Int} (h : 0 ≤ fch xs ys wd) : vItems xs = true ∧ vItems ys = true ∧ inB 1 10000 wd = true := by
  by_cases hv : vItems xs = true ∧ vItems ys = true ∧ inB 1 10000 wd = true
  · exact hv
  · rw [fch, if_neg hv] at h; omega
/-- A paragraph does not part from itself. -/
theorem fch_self {xs : List It} {wd : Int} (h : vItems xs = true) (hw : inB 1 10000 wd = true) : fch xs xs wd = (FF xs wd).length := by
  rw [fch_ok ⟨h, h, hw⟩, cpre_self, cpre_self, dwn_all]
  exact fun z hz => (FF_below wd h z hz).2
end Go.Proofs.Ytjkmjgjpkneckaa
