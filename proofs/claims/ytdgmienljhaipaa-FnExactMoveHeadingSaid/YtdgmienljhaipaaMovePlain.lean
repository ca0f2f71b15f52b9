/-
  The plain law of moving a heading: what MoveHeading gives, and that both ways of making it agree.
-/
import Derived.Test.YtdgmienljhaipaaMove
namespace Go.Proofs.Ytdgmienljhaipaa
open Go.RowKit
set_option linter.unusedVariables false

theorem oFrom_in {xs : List Int} {x : Int} : ∀ {m k j : Nat} {y : Int}, xs.length - k = m → k ≤ j → j < oFrom xs x k → xs[j]? = some y → x < y
  | 0, k, j, y, hm, hkj, hj, hy => by
    have : j < xs.length := (List.getElem?_eq_some_iff.1 hy).1
    omega
  | m + 1, k, j, y, hm, hkj, hj, hy => by
    have hk : xs[k]? = some xs[k] := List.getElem?_eq_getElem (by omega)
    by_cases hx : x < xs[k]
    · rw [oFrom_next hk hx] at hj
      rcases Nat.lt_or_ge k j with h1 | h1
      · exact oFrom_in (m := m) (k := k + 1) (by omega) h1 hj hy
      · obtain rfl : j = k := by omega
        rw [hk] at hy
        injection hy with hy
        rw [← hy]; exact hx
    · rw [oFrom_stop hk hx] at hj
      omega
theorem oFrom_at {xs : List Int} {x : Int} : ∀ {m k : Nat} {y : Int}, xs.length - k = m → xs[oFrom xs x k]? = some y → ¬ x < y
  | 0, k, y, hm, hy => by
    rw [oFrom_end (by omega), List.getElem?_eq_none (by omega)] at hy
    cases hy
  | m + 1, k, y, hm, hy => by
    have hk : xs[k]? = some xs[k] := List.getElem?_eq_getElem (by omega)
    by_cases hx : x < xs[k]
    · rw [oFrom_next hk hx] at hy
      exact oFrom_at (m := m) (k := k + 1) (by omega) hy
    · rw [oFrom_stop hk hx, hk] at hy
      injection hy with hy
      rw [← hy]; exact hx
theorem oFrom_eq {xs : List Int} {x : Int} {k m : Nat} (hkm : k ≤ m) (hm : m ≤ xs.length) (h1 : ∀ j y, k ≤ j → j < m → xs[j]? = some y → x < y) (h2 : ∀ y, xs[m]? = some y → ¬ x < y) : oFrom xs x k = m := by
  have ha : m ≤ oFrom xs x k := by
    have := oFrom_past (xs := xs) (x := x) (m - k) k (fun j y a b c => h1 j y a (by omega) c) (by omega)
    omega
  rcases Nat.lt_or_ge m (oFrom xs x k) with h | h
  · have hl := oFrom_le (xs := xs) (x := x) (k := k) (by omega)
    have hg : xs[m]? = some xs[m] := List.getElem?_eq_getElem (by omega)
    exact absurd (oFrom_in rfl hkm h hg) (h2 _ hg)
  · omega

/-- The index behind a heading and all that it owns. -/
def mvEnd (xs : List Int) (i : Nat) : Nat := match xs[i]? with
  | some x => oFrom xs x (i + 1)
  | none => i + 1
theorem mvEnd_eq {xs : List Int} {i : Nat} {x : Int} (h : xs[i]? = some x) : mvEnd xs i = oFrom xs x (i + 1) := by unfold mvEnd; rw [h]
theorem mvEnd_gt (xs : List Int) (i : Nat) : i < mvEnd xs i := by
  unfold mvEnd
  split
  · have := @oFrom_ge xs ‹_› (i + 1); omega
  · omega
theorem mvEnd_le {xs : List Int} {i : Nat} (h : i < xs.length) : mvEnd xs i ≤ xs.length := by
  rw [mvEnd_eq (List.getElem?_eq_getElem h)]
  exact oFrom_le (by omega)
/-- The headings without those that are moved, and the place in them behind which they come. -/
def mvRest (xs : List Int) (i : Nat) : List Int := xs.take i ++ xs.drop (mvEnd xs i)
def mvPart (xs : List Int) (i : Nat) : List Int := (xs.drop i).take (mvEnd xs i - i)
def mvPos (xs : List Int) (i k : Nat) : Nat := if mvEnd xs k ≤ i then mvEnd xs k else mvEnd xs k - (mvEnd xs i - i)
def mvL (xs : List Int) (i k : Nat) : List Int := (mvRest xs i).take (mvPos xs i k) ++ (mvPart xs i ++ (mvRest xs i).drop (mvPos xs i k))

theorem rest_get {xs : List Int} {i j : Nat} (hi : i < xs.length) : (mvRest xs i)[j]? = if j < i then xs[j]? else xs[j + (mvEnd xs i - i)]? := by
  unfold mvRest
  have hl : (xs.take i).length = i := by rw [List.length_take]; omega
  have hg := mvEnd_gt xs i
  split
  · rw [List.getElem?_append_left (by omega), List.getElem?_take, if_pos (by omega)]
  · rw [List.getElem?_append_right (by omega), hl, List.getElem?_drop]
    congr 1
    omega
theorem rest_length {xs : List Int} {i : Nat} (hi : i < xs.length) : (mvRest xs i).length = xs.length - (mvEnd xs i - i) := by
  have h1 := mvEnd_le hi
  have h2 := mvEnd_gt xs i
  unfold mvRest
  rw [List.length_append, List.length_take, List.length_drop]
  omega
theorem part_length {xs : List Int} {i : Nat} (hi : i < xs.length) : (mvPart xs i).length = mvEnd xs i - i := by
  have h1 := mvEnd_le hi
  have h2 := mvEnd_gt xs i
  unfold mvPart
  rw [List.length_take, List.length_drop]
  omega

/-- A heading behind which a heading before the moved ones ends: before them or behind all of them. -/
theorem mvEnd_out {xs : List Int} {i k : Nat} (hi : i < xs.length) (hk : k < xs.length) (hki : k < i ∨ mvEnd xs i ≤ k) : mvEnd xs k ≤ i ∨ mvEnd xs i ≤ mvEnd xs k := by
  rcases hki with hki | hki
  · rcases Nat.lt_or_ge i (mvEnd xs k) with h | h
    · right
      have ek : xs[k]? = some xs[k] := List.getElem?_eq_getElem hk
      have ei : xs[i]? = some xs[i] := List.getElem?_eq_getElem hi
      rw [mvEnd_eq ek] at h ⊢
      rw [mvEnd_eq ei]
      have hlow := oFrom_in rfl (by omega) h ei
      rcases Nat.lt_or_ge (oFrom xs xs[k] (k + 1)) (oFrom xs xs[i] (i + 1)) with h2 | h2
      · exfalso
        have hl := oFrom_le (xs := xs) (x := xs[i]) (k := i + 1) (by omega)
        have hg : xs[oFrom xs xs[k] (k + 1)]? = some (xs[oFrom xs xs[k] (k + 1)]'(by omega)) := List.getElem?_eq_getElem (by omega)
        have h3 := oFrom_at rfl hg
        have h4 := oFrom_in rfl (by omega) h2 hg
        omega
      · exact h2
    · exact .inl h
  · right
    have := mvEnd_gt xs k
    omega
theorem mvPos_le {xs : List Int} {i k : Nat} (hi : i < xs.length) (hk : k < xs.length) (hki : k < i ∨ mvEnd xs i ≤ k) : mvPos xs i k ≤ xs.length - (mvEnd xs i - i) := by
  have h1 := mvEnd_le hi
  have h2 := mvEnd_gt xs i
  have h3 := mvEnd_le hk
  unfold mvPos
  split <;> omega
/-- The program looks for the place in what is left. -/
theorem pos_rest {xs : List Int} {i k : Nat} {y : Int} (hi : i < xs.length) (hk : k < xs.length) (hki : k < i ∨ mvEnd xs i ≤ k) (hy : xs[k]? = some y) :
    oFrom (mvRest xs i) y ((if k < i then k else k - (mvEnd xs i - i)) + 1) = mvPos xs i k := by
  have h1 := mvEnd_le hi
  have h2 := mvEnd_gt xs i
  have h3 := mvEnd_le hk
  have h4 := mvEnd_gt xs k
  have ho := mvEnd_out hi hk hki
  have ei : xs[i]? = some xs[i] := List.getElem?_eq_getElem hi
  have hp := mvPos_le hi hk hki
  have hmk := mvEnd_eq hy
  have hin : ∀ j z, k + 1 ≤ j → j < mvEnd xs k → xs[j]? = some z → y < z := fun j z a b c => oFrom_in rfl a (by rw [← hmk]; exact b) c
  have hat : ∀ z, xs[mvEnd xs k]? = some z → ¬ y < z := fun z c => oFrom_at (k := k + 1) rfl (by rw [← hmk]; exact c)
  have hat' : ∀ z, xs[mvEnd xs i]? = some z → ¬ xs[i] < z := fun z c => oFrom_at (k := i + 1) rfl (by rw [← mvEnd_eq ei]; exact c)
  refine oFrom_eq ?_ (by rw [rest_length hi]; exact hp) ?_ ?_
  · unfold mvPos
    split <;> split <;> omega
  · intro j z ha hb hc
    rw [rest_get hi] at hc
    unfold mvPos at hb
    split at hc
    · rename_i hji
      split at ha
      · refine hin j z ha ?_ hc
        split at hb <;> omega
      · exfalso
        split at hb <;> omega
    · rename_i hji
      split at hb
      · exfalso; omega
      · refine hin _ z ?_ (by omega) hc
        split at ha <;> omega
  · intro z hc
    rw [rest_get hi] at hc
    unfold mvPos at hc
    by_cases hle : mvEnd xs k ≤ i
    · rw [if_pos hle] at hc
      by_cases heq : mvEnd xs k < i
      · rw [if_pos heq] at hc
        exact hat z hc
      · rw [if_neg heq] at hc
        have he : mvEnd xs k = i := by omega
        rw [he, show i + (mvEnd xs i - i) = mvEnd xs i from by omega] at hc
        have ha := hat xs[i] (by rw [he]; exact ei)
        have hb := hat' z hc
        omega
    · rw [if_neg hle, if_neg (by omega)] at hc
      rw [show mvEnd xs k - (mvEnd xs i - i) + (mvEnd xs i - i) = mvEnd xs k from by omega] at hc
      exact hat z hc

/-- How many of the first m headings are not moved. -/
def mvCnt (xs : List Int) (i m : Nat) : Nat := if m ≤ i then m else if m ≤ mvEnd xs i then i else m - (mvEnd xs i - i)
theorem cnt_next_out {xs : List Int} {i m : Nat} (h : m < i ∨ mvEnd xs i ≤ m) : mvCnt xs i (m + 1) = mvCnt xs i m + 1 := by
  have h2 := mvEnd_gt xs i
  unfold mvCnt
  split <;> split <;> (try split) <;> (try split) <;> omega
theorem cnt_next_in {xs : List Int} {i m : Nat} (h1 : i ≤ m) (h : m < mvEnd xs i) : mvCnt xs i (m + 1) = mvCnt xs i m := by
  unfold mvCnt
  split <;> split <;> (try split) <;> (try split) <;> omega
theorem cnt_get {xs : List Int} {i m : Nat} (hi : i < xs.length) (h : m < i ∨ mvEnd xs i ≤ m) : (mvRest xs i)[mvCnt xs i m]? = xs[m]? := by
  have h2 := mvEnd_gt xs i
  rw [rest_get hi]
  rcases h with h | h
  · have e : mvCnt xs i m = m := by unfold mvCnt; rw [if_pos (by omega)]
    rw [e, if_pos h]
  · have e : mvCnt xs i m = m - (mvEnd xs i - i) := by
      unfold mvCnt
      rw [if_neg (by omega)]
      split
      · omega
      · rfl
    rw [e, if_neg (by omega)]
    congr 1
    omega
theorem cnt_at {xs : List Int} {i k : Nat} (hi : i < xs.length) (hk : k < xs.length) (hki : k < i ∨ mvEnd xs i ≤ k) : mvCnt xs i (mvEnd xs k) = mvPos xs i k := by
  have h2 := mvEnd_gt xs i
  have ho := mvEnd_out hi hk hki
  unfold mvCnt mvPos
  split
  · rfl
  · split <;> omega
theorem cnt_end {xs : List Int} {i : Nat} (hi : i < xs.length) : mvCnt xs i xs.length = (mvRest xs i).length := by
  have h1 := mvEnd_le hi
  have h2 := mvEnd_gt xs i
  rw [rest_length hi]
  unfold mvCnt
  split
  · omega
  · split <;> omega

/-- What the reference's loop has made before its round m. -/
def mvMade (xs : List Int) (i k m : Nat) : List Int :=
  if m ≤ mvEnd xs k then (mvRest xs i).take (mvCnt xs i m) else (mvRest xs i).take (mvPos xs i k) ++ (mvPart xs i ++ ((mvRest xs i).drop (mvPos xs i k)).take (mvCnt xs i m - mvPos xs i k))
/-- .. and in its round m, behind the first part. -/
def mvHalf (xs : List Int) (i k m : Nat) : List Int := if m = mvEnd xs k then mvMade xs i k m ++ mvPart xs i else mvMade xs i k m
theorem take_snoc {α : Type} {l : List α} {k : Nat} {x : α} (h : l[k]? = some x) : l.take (k + 1) = l.take k ++ [x] := by
  rw [List.take_add_one, h]; rfl
theorem made_out {xs : List Int} {i k m : Nat} {x : Int} (hi : i < xs.length) (hk : k < xs.length) (hki : k < i ∨ mvEnd xs i ≤ k) (h : m < i ∨ mvEnd xs i ≤ m) (hx : xs[m]? = some x) :
    mvMade xs i k (m + 1) = mvHalf xs i k m ++ [x] := by
  have hc := cnt_next_out h
  have hg := cnt_get hi h
  rw [hx] at hg
  have ha := cnt_at hi hk hki
  unfold mvHalf mvMade
  rcases Nat.lt_trichotomy m (mvEnd xs k) with h1 | h1 | h1
  · rw [if_pos (by omega), if_neg (by omega), if_pos (by omega), hc, take_snoc hg]
  · rw [if_neg (by omega), if_pos h1, if_pos (by omega), hc, h1, ha, show mvPos xs i k + 1 - mvPos xs i k = 1 from by omega]
    rw [h1, ha] at hg
    have : ((mvRest xs i).drop (mvPos xs i k)).take 1 = [x] := by
      rw [drop_of_get hg]; rfl
    rw [this, List.append_assoc]
  · rw [if_neg (by omega), if_neg (by omega), if_neg (by omega), hc]
    have hge : mvPos xs i k ≤ mvCnt xs i m := by
      rw [← ha]
      unfold mvCnt
      have h2 := mvEnd_gt xs i
      split <;> split <;> (try split) <;> (try split) <;> omega
    rw [show mvCnt xs i m + 1 - mvPos xs i k = (mvCnt xs i m - mvPos xs i k) + 1 from by omega, take_snoc (x := x) (by rw [List.getElem?_drop, show mvPos xs i k + (mvCnt xs i m - mvPos xs i k) = mvCnt xs i m from by omega]; exact hg)]
    simp
theorem made_in {xs : List Int} {i k m : Nat} (hi : i < xs.length) (hk : k < xs.length) (hki : k < i ∨ mvEnd xs i ≤ k) (h1 : i ≤ m) (h2 : m < mvEnd xs i) :
    mvMade xs i k (m + 1) = mvHalf xs i k m := by
  have hc := cnt_next_in h1 h2
  have ha := cnt_at hi hk hki
  have ho := mvEnd_out hi hk hki
  have h3 := mvEnd_gt xs i
  unfold mvHalf mvMade
  rcases Nat.lt_trichotomy m (mvEnd xs k) with h4 | h4 | h4
  · rw [if_pos (by omega), if_neg (by omega), if_pos (by omega), hc]
  · rw [if_neg (by omega), if_pos h4, if_pos (by omega), hc, h4, ha, Nat.sub_self]
    simp
  · rw [if_neg (by omega), if_neg (by omega), if_neg (by omega), hc]
theorem made_start (xs : List Int) (i k : Nat) : mvMade xs i k 0 = [] := by
  unfold mvMade mvCnt; simp
theorem made_end {xs : List Int} {i k : Nat} (hi : i < xs.length) (hk : k < xs.length) (hki : k < i ∨ mvEnd xs i ≤ k) : mvHalf xs i k xs.length = mvL xs i k := by
  have ha := cnt_at hi hk hki
  have he := cnt_end hi
  have hp := mvPos_le hi hk hki
  rw [← rest_length hi] at hp
  have h3 := mvEnd_le hk
  unfold mvHalf mvMade mvL
  by_cases h : xs.length = mvEnd xs k
  · rw [if_pos h, if_pos (by omega), he, List.take_length, List.take_of_length_le (by rw [← ha, ← h, he]; exact Nat.le_refl _), List.drop_of_length_le (by rw [← ha, ← h, he]; exact Nat.le_refl _), List.append_nil]
  · have e2 : ((mvRest xs i).drop (mvPos xs i k)).take ((mvRest xs i).length - mvPos xs i k) = (mvRest xs i).drop (mvPos xs i k) := List.take_of_length_le (by rw [List.length_drop]; exact Nat.le_refl _)
    rw [if_neg h, if_neg (by omega), he, e2]
theorem mvL_length {xs : List Int} {i k : Nat} (hi : i < xs.length) (hk : k < xs.length) (hki : k < i ∨ mvEnd xs i ≤ k) : (mvL xs i k).length = xs.length := by
  have hp := mvPos_le hi hk hki
  have h1 := mvEnd_le hi
  have h2 := mvEnd_gt xs i
  have hr := rest_length hi
  have hq := part_length hi
  unfold mvL
  rw [List.length_append, List.length_append, List.length_take, List.length_drop, hr, hq]
  omega
/-- Moving keeps how often each level stands. -/
theorem mvL_count {xs : List Int} {i k : Nat} (hi : i < xs.length) (x : Int) : (mvL xs i k).count x = xs.count x := by
  have h1 := mvEnd_le hi
  have h2 := mvEnd_gt xs i
  have hx : xs = xs.take i ++ (mvPart xs i ++ xs.drop (mvEnd xs i)) := by
    unfold mvPart
    conv => lhs; rw [← List.take_append_drop i xs, ← List.take_append_drop (mvEnd xs i - i) (xs.drop i)]
    rw [List.drop_drop, show i + (mvEnd xs i - i) = mvEnd xs i from by omega]
  have hr : ((mvRest xs i).take (mvPos xs i k)).count x + ((mvRest xs i).drop (mvPos xs i k)).count x = (xs.take i).count x + (xs.drop (mvEnd xs i)).count x := by
    rw [← List.count_append, List.take_append_drop, mvRest, List.count_append]
  unfold mvL
  conv => rhs; rw [hx]
  simp only [List.count_append]
  omega

/-- What MoveHeading gives. -/
def mvR (xs : List Int) (i k : Int) : List Int × Bool :=
  if vOutline xs = true ∧ inB 0 ((xs.length : Int) - 1) i = true ∧ inB 0 ((xs.length : Int) - 1) k = true ∧ (k.toNat < i.toNat ∨ mvEnd xs i.toNat ≤ k.toNat) ∧ vOutline (mvL xs i.toNat k.toNat) = true then (mvL xs i.toNat k.toNat, true) else ([], false)
theorem mvR_no {xs : List Int} {i k : Int} (h : ¬ (vOutline xs = true ∧ inB 0 ((xs.length : Int) - 1) i = true ∧ inB 0 ((xs.length : Int) - 1) k = true ∧ (k.toNat < i.toNat ∨ mvEnd xs i.toNat ≤ k.toNat) ∧ vOutline (mvL xs i.toNat k.toNat) = true)) : mvR xs i k = ([], false) := if_neg h
end Go.Proofs.Ytdgmienljhaipaa
