/-
  The plain law of the numbers of headings: their periods, that all are different, those of parents, of beginnings, of headings of one level.
-/
import Derived.Test.YtdgmienljhaipaaDoorNumPlain
namespace Go.Proofs.YtdgmienljhaipaaDoor
open Go.RowKit
set_option linter.unusedVariables false

theorem dec_nodot {n : Nat} (h : n < 100) : ∀ c ∈ dec n, c ≠ 46 := by
  intro c hc e
  subst e
  unfold dec at hc
  split at hc
  · rw [List.mem_singleton] at hc
    have h1 := congrArg UInt8.toNat hc
    rw [UInt8.toNat_ofNat'] at h1
    have h2 : (46 : UInt8).toNat = 46 := rfl
    omega
  · simp only [List.mem_cons, List.not_mem_nil, or_false] at hc
    have h2 : (46 : UInt8).toNat = 46 := rfl
    rcases hc with hc | hc
    · have h1 := congrArg UInt8.toNat hc
      rw [UInt8.toNat_ofNat'] at h1
      omega
    · have h1 := congrArg UInt8.toNat hc
      rw [UInt8.toNat_ofNat'] at h1
      omega
theorem dec_inj {n m : Nat} (hn : n < 100) (hm : m < 100) (h : dec n = dec m) : n = m := by
  unfold dec at h
  split at h
  · split at h
    · injection h with h
      have h1 := congrArg UInt8.toNat h
      rw [UInt8.toNat_ofNat', UInt8.toNat_ofNat'] at h1
      omega
    · exact absurd (congrArg List.length h) (by simp)
  · split at h
    · exact absurd (congrArg List.length h) (by simp)
    · injection h with h h2
      injection h2 with h2
      have h1 := congrArg UInt8.toNat h
      have h3 := congrArg UInt8.toNat h2
      rw [UInt8.toNat_ofNat', UInt8.toNat_ofNat'] at h1 h3
      omega
def isDot (c : UInt8) : Bool := decide (c = 46)
def dots (l : List UInt8) : Nat := (l.filter isDot).length
theorem dots_app (a b : List UInt8) : dots (a ++ b) = dots a + dots b := by
  unfold dots
  rw [List.filter_append, List.length_append]
theorem dots_dec {n : Nat} (h : n < 100) : dots (dec n) = 0 := by
  unfold dots
  rw [List.length_eq_zero_iff, List.filter_eq_nil_iff]
  intro c hc
  have := dec_nodot h c hc
  simp [isDot, this]
theorem dots_njoin {l : List Nat} (hl : ∀ n ∈ l, n < 100) : ∀ k, k < l.length → dots (njoin (l.take (k + 1))) = k
  | 0, h => by
    have h1 : l[0]? = some l[0] := List.getElem?_eq_getElem h
    rw [njoin_next h1, if_neg (by omega)]
    show dots (njoin [] ++ dec l[0]) = 0
    rw [dots_app, dots_dec (hl _ (List.getElem_mem h))]
    rfl
  | k + 1, h => by
    have h1 : l[k + 1]? = some l[k + 1] := List.getElem?_eq_getElem h
    rw [njoin_next h1, if_pos (by omega), dots_app, dots_app, dots_njoin hl k (by omega), dots_dec (hl _ (List.getElem_mem h))]
    rfl
/-- What stands behind a part. -/
def tailD (r : List Nat) : List UInt8 := Lib.joinTail [46] (r.map dec)
theorem njoin_cons (x : Nat) (r : List Nat) : njoin (x :: r) = dec x ++ tailD r := Lib.join_cons _ _ _
theorem tailD_cons (y : Nat) (r : List Nat) : tailD (y :: r) = 46 :: njoin (y :: r) := by
  rw [njoin_cons]
  simp [tailD, Lib.joinTail]
def nd (c : UInt8) : Bool := decide (c ≠ 46)
theorem dec_while {n : Nat} (h : n < 100) (r : List Nat) : (dec n ++ tailD r).takeWhile nd = dec n := by
  have h1 : (dec n).takeWhile nd = dec n := by
    have h2 : ∀ l : List UInt8, (∀ c ∈ l, c ≠ 46) → l.takeWhile nd = l := by
      intro l
      induction l with
      | nil => intro _; rfl
      | cons c l ih =>
        intro hl
        rw [List.takeWhile_cons, show nd c = true from decide_eq_true (hl c (by simp)), if_pos rfl, ih (fun d hd => hl d (by simp [hd]))]
    exact h2 _ (dec_nodot h)
  rw [List.takeWhile_append, h1, if_pos rfl]
  cases r with
  | nil => simp [tailD, Lib.joinTail]
  | cons y r =>
    rw [tailD_cons, List.takeWhile_cons]
    have h2 : nd 46 = false := by decide
    rw [h2]
    simp
theorem njoin_inj : ∀ (l m : List Nat), (∀ n ∈ l, n < 100) → (∀ n ∈ m, n < 100) → l.length = m.length → njoin l = njoin m → l = m
  | [], [], _, _, _, _ => rfl
  | [], _ :: _, _, _, h, _ => by simp at h
  | _ :: _, [], _, _, h, _ => by simp at h
  | x :: l, y :: m, hl, hm, hlen, h => by
    rw [njoin_cons, njoin_cons] at h
    have h1 := dec_while (hl x (by simp)) l
    have h2 := dec_while (hm y (by simp)) m
    have h3 : dec x = dec y := by rw [← h1, h, h2]
    have h4 := dec_inj (hl x (by simp)) (hm y (by simp)) h3
    subst h4
    have h5 := List.append_cancel_left h
    cases l with
    | nil =>
      cases m with
      | nil => rfl
      | cons z m => simp at hlen
    | cons z l =>
      cases m with
      | nil => simp at hlen
      | cons z' m =>
        rw [tailD_cons, tailD_cons] at h5
        injection h5 with _ h5
        rw [njoin_inj (z :: l) (z' :: m) (fun n hn => hl n (by simp at hn ⊢; right; exact hn)) (fun n hn => hm n (by simp at hn ⊢; right; exact hn)) (by simpa using hlen) h5]
def N4.small (q : N4) : Prop := q.a ≤ 20 ∧ q.b ≤ 20 ∧ q.c ≤ 20 ∧ q.d ≤ 20
theorem nsts_small {l : List Int} (hv : vOutline l = true) {k : Nat} (hk : k ≤ l.length) : (nsts l k).small := by
  have h1 := nsts_bound l k
  have h2 := vOutline_len hv
  unfold N4.small
  omega
theorem list_small {q : N4} (h : q.small) : ∀ n ∈ q.list, n < 100 := by
  intro n hn
  unfold N4.small at h
  unfold N4.list at hn
  simp only [List.mem_cons, List.not_mem_nil, or_false] at hn
  omega
theorem parts_small {q : N4} (h : q.small) (v : Int) : ∀ n ∈ parts q v, n < 100 := fun n hn => list_small h n (List.mem_of_mem_take hn)
/-- As many periods as parts, but for one. -/
theorem ntext_dots {q : N4} (h : q.small) {v : Int} (h1 : 1 ≤ v) (h4 : v ≤ 4) : ((dots (ntext q v).data.toList : Nat) : Int) = v - 1 := by
  show ((dots (njoin (parts q v)) : Nat) : Int) = v - 1
  have h2 := dots_njoin (list_small h) (v.toNat - 1) (by show v.toNat - 1 < 4; omega)
  rw [show v.toNat - 1 + 1 = v.toNat from by omega] at h2
  unfold parts
  rw [h2]
  omega
def N4.val (q : N4) : Nat := ((q.a * 100 + q.b) * 100 + q.c) * 100 + q.d
theorem nst_val {q : N4} (h : q.small) (v : Int) : q.val < (nst q v).val := by
  unfold N4.small at h
  unfold nst N4.val
  split
  · simp only; omega
  split
  · simp only; omega
  split
  · simp only; omega
  · simp only; omega
theorem nsts_val {l : List Int} (hv : vOutline l = true) {i : Nat} : ∀ k, i ≤ k → k < l.length → (nsts l i).val < (nsts l (k + 1)).val := by
  intro k
  induction k with
  | zero =>
    intro h1 h2
    obtain rfl : i = 0 := by omega
    rw [nsts_next (List.getElem?_eq_getElem h2)]
    exact nst_val (nsts_small hv (by omega)) _
  | succ k ih =>
    intro h1 h2
    rw [nsts_next (List.getElem?_eq_getElem h2)]
    have h3 := nst_val (nsts_small hv (k := k + 1) (by omega)) l[k + 1]
    rcases Nat.lt_or_ge k i with h4 | h4
    · obtain rfl : i = k + 1 := by omega
      exact h3
    · have := ih h4 (by omega)
      omega
theorem nst_zero {q : N4} {v : Int} (h1 : 1 ≤ v) (h4 : v ≤ 4) : (v < 2 → (nst q v).b = 0) ∧ (v < 3 → (nst q v).c = 0) ∧ (v < 4 → (nst q v).d = 0) := by
  unfold nst
  split
  · simp
  split
  · simp; omega
  split
  · simp; omega
  · simp; omega
theorem parts_val {q r : N4} {v : Int} (h1 : 1 ≤ v) (h4 : v ≤ 4) (h : parts (nst q v) v = parts (nst r v) v) : (nst q v).val = (nst r v).val := by
  have z1 := nst_zero (q := q) h1 h4
  have z2 := nst_zero (q := r) h1 h4
  obtain ⟨Q, hQ⟩ : ∃ Q, Q = nst q v := ⟨_, rfl⟩
  obtain ⟨R, hR⟩ : ∃ R, R = nst r v := ⟨_, rfl⟩
  rw [← hQ] at h z1 ⊢
  rw [← hR] at h z2 ⊢
  unfold parts N4.list at h
  unfold N4.val
  have hv : v = 1 ∨ v = 2 ∨ v = 3 ∨ v = 4 := by omega
  rcases hv with rfl | rfl | rfl | rfl
  · have h2 : [Q.a] = [R.a] := h
    injection h2 with h2
    have := z1.1 (by omega); have := z1.2.1 (by omega); have := z1.2.2 (by omega)
    have := z2.1 (by omega); have := z2.2.1 (by omega); have := z2.2.2 (by omega)
    omega
  · have h2 : [Q.a, Q.b] = [R.a, R.b] := h
    injection h2 with h2 h3
    injection h3 with h3
    have := z1.2.1 (by omega); have := z1.2.2 (by omega)
    have := z2.2.1 (by omega); have := z2.2.2 (by omega)
    omega
  · have h2 : [Q.a, Q.b, Q.c] = [R.a, R.b, R.c] := h
    injection h2 with h2 h3
    injection h3 with h3 h5
    injection h5 with h5
    have := z1.2.2 (by omega)
    have := z2.2.2 (by omega)
    omega
  · have h2 : [Q.a, Q.b, Q.c, Q.d] = [R.a, R.b, R.c, R.d] := h
    injection h2 with h2 h3
    injection h3 with h3 h5
    injection h5 with h5 h6
    injection h6 with h6
    omega
theorem ntext_inj {q r : N4} {v u : Int} (hq : q.small) (hr : r.small) (h1 : 1 ≤ v) (h4 : v ≤ 4) (g1 : 1 ≤ u) (g4 : u ≤ 4) (h : ntext q v = ntext r u) : v = u ∧ parts q v = parts r u := by
  have d1 := ntext_dots hq h1 h4
  have d2 := ntext_dots hr g1 g4
  rw [h] at d1
  have e : v = u := by omega
  subst e
  refine ⟨rfl, njoin_inj _ _ (parts_small hq v) (parts_small hr v) (by rw [parts_len (by omega) h4, parts_len (by omega) h4]) ?_⟩
  exact congrArg (fun s : ByteArray => s.data.toList) h
/-- All numbers are different. -/
theorem num_diff {l : List Int} (hv : vOutline l = true) {i k : Nat} (hik : i < k) {s t : ByteArray} (hs : (numT l)[i]? = some s) (ht : (numT l)[k]? = some t) : s ≠ t := by
  have hk : k < l.length := by rw [← numT_len hv]; exact (List.getElem?_eq_some_iff.1 ht).1
  have gi : l[i]? = some l[i] := List.getElem?_eq_getElem (by omega)
  have gk : l[k]? = some l[k] := List.getElem?_eq_getElem hk
  have bi := vOutline_at hv gi
  have bk := vOutline_at hv gk
  rw [numT_get hv gi] at hs
  rw [numT_get hv gk] at ht
  injection hs with hs
  injection ht with ht
  rintro rfl
  have h1 := ntext_inj (nsts_small hv (by omega)) (nsts_small hv (by omega)) bk.1 bk.2.1 bi.1 bi.2.1 (ht.trans hs.symm)
  have h2 := h1.2
  have h3 := nsts_val hv (i := i + 1) k (by omega) hk
  rw [nsts_next gi, nsts_next gk] at h2
  rw [nsts_next gi, nsts_next gk] at h3
  rw [h1.1] at h2 h3
  have h4 := parts_val bi.1 bi.2.1 h2
  omega
/-- A number has one period less than its level. -/
theorem num_dots {l : List Int} (hv : vOutline l = true) {i : Nat} {v : Int} {s : ByteArray} (hl : l[i]? = some v) (hs : (numT l)[i]? = some s) : ((dots s.data.toList : Nat) : Int) = v - 1 ∧ s.size ≤ 12 := by
  have b := vOutline_at hv hl
  rw [numT_get hv hl] at hs
  injection hs with hs
  subst hs
  exact ⟨ntext_dots (nsts_small hv (by have := (List.getElem?_eq_some_iff.1 hl).1; omega)) b.1 b.2.1, ntext_size b.2.1⟩
theorem num_first {l : List Int} (hv : vOutline l = true) (h : 0 < l.length) : (numT l)[0]? = some ⟨#[49]⟩ := by
  have g : l[0]? = some l[0] := List.getElem?_eq_getElem h
  have b := vOutline_at hv g
  have e : l[0] = 1 := by have := b.1; have := b.2.2.1 rfl; omega
  rw [numT_get hv g, nsts_next g, e]
  rfl
/-! ### Beginnings -/
theorem vOut_take : ∀ (l : List Int) (last : Int) (k : Nat), vOut last l = true → vOut last (l.take k) = true
  | [], _, _, _ => by simp [vOut]
  | x :: l, last, 0, _ => rfl
  | x :: l, last, k + 1, h => by
    simp only [vOut, Bool.and_eq_true] at h
    show vOut last (x :: l.take k) = true
    simp only [vOut, Bool.and_eq_true]
    exact ⟨h.1, vOut_take l x k h.2⟩
theorem vOutline_take {l : List Int} (h : vOutline l = true) (k : Nat) : vOutline (l.take k) = true := by
  simp only [vOutline, Bool.and_eq_true, decide_eq_true_eq] at h ⊢
  exact ⟨vOut_take l 0 k h.1, by rw [List.length_take]; omega⟩
theorem numF_take : ∀ (l : List Int) (q : N4) (k : Nat), numF q (l.take k) = (numF q l).take k
  | [], _, _ => by simp [numF]
  | x :: l, q, 0 => rfl
  | x :: l, q, k + 1 => by
    show ntext (nst q x) x :: numF (nst q x) (l.take k) = ntext (nst q x) x :: (numF (nst q x) l).take k
    rw [numF_take l]
theorem numT_take {l : List Int} (h : vOutline l = true) (k : Nat) : numT (l.take k) = (numT l).take k := by
  rw [numT, numT, if_pos h, if_pos (vOutline_take h k), numF_take]
/-! ### Headings of one level -/
theorem vOut_flat : ∀ (n : Nat) (last : Int), 0 ≤ last → vOut last (List.replicate n 1) = true
  | 0, _, _ => rfl
  | n + 1, last, h => by
    show (inB 1 (min (last + 1) 4) 1 && vOut 1 (List.replicate n 1)) = true
    rw [vOut_flat n 1 (by omega), Bool.and_true]
    exact inB_iff.2 ⟨by omega, by omega⟩
theorem vOutline_flat {n : Nat} (h : n ≤ 20) : vOutline (List.replicate n 1) = true := by
  simp only [vOutline, Bool.and_eq_true, decide_eq_true_eq]
  exact ⟨vOut_flat n 0 (by omega), by simpa using h⟩
theorem nsts_flat (n : Nat) : ∀ k, k ≤ n → nsts (List.replicate n 1) k = ⟨k, 0, 0, 0⟩
  | 0, _ => rfl
  | k + 1, h => by
    have g : (List.replicate n (1 : Int))[k]? = some 1 := by rw [List.getElem?_replicate, if_pos (by omega)]
    rw [nsts_next g, nsts_flat n k (by omega)]
    rfl
theorem num_flat {n : Nat} (h : n ≤ 20) {k : Nat} (hk : k < n) : (numT (List.replicate n 1))[k]? = some (decB (k + 1)) := by
  have g : (List.replicate n (1 : Int))[k]? = some 1 := by rw [List.getElem?_replicate, if_pos (by omega)]
  rw [numT_get (vOutline_flat h) g, nsts_flat n (k + 1) (by omega)]
  show some (⟨(Lib.join [dec (k + 1)] [46]).toArray⟩ : ByteArray) = _
  rw [Lib.join_one]
  rfl
end Go.Proofs.YtdgmienljhaipaaDoor
