/-
  The plain law of the numbers of parents.
-/
import Derived.Test.YtdgmienljhaipaaDoorNumLaws
import Derived.Test.YtdgmienljhaipaaDoorOutline2
namespace Go.Proofs.YtdgmienljhaipaaDoor
open Go.RowKit
set_option linter.unusedVariables false

theorem pFrom_says {ls : List Int} {x : Int} : ∀ (k p : Nat), k ≤ ls.length → pFrom ls x k = (p : Int) → p < k ∧ (∃ y, ls[p]? = some y ∧ y < x) ∧ ∀ j z, p < j → j < k → ls[j]? = some z → x ≤ z
  | 0, p, _, h => by have h2 : (-1 : Int) = (p : Int) := h; omega
  | k + 1, p, hk, h => by
    have g : ls[k]? = some ls[k] := List.getElem?_eq_getElem (by omega)
    by_cases hlt : ls[k] < x
    · rw [pFrom_lt g hlt] at h
      obtain rfl : k = p := by omega
      exact ⟨by omega, ⟨_, g, hlt⟩, fun j z h1 h2 _ => by omega⟩
    · rw [pFrom_ge g hlt] at h
      obtain ⟨h1, h2, h3⟩ := pFrom_says k p (by omega) h
      refine ⟨by omega, h2, fun j z h4 h5 hz => ?_⟩
      rcases Nat.lt_or_ge j k with h6 | h6
      · exact h3 j z h4 h6 hz
      · obtain rfl : j = k := by omega
        rw [g] at hz
        injection hz with hz
        omega
theorem nst_keep (q : N4) {x y : Nat} (h1 : 1 ≤ x) (hxy : x ≤ y) (h4 : y ≤ 4) : (nst q (y : Int)).list.take (x - 1) = q.list.take (x - 1) := by
  have hy : y = 1 ∨ y = 2 ∨ y = 3 ∨ y = 4 := by omega
  have hx : x = 1 ∨ x = 2 ∨ x = 3 ∨ x = 4 := by omega
  rcases hy with rfl | rfl | rfl | rfl <;> rcases hx with rfl | rfl | rfl | rfl <;> first | rfl | omega
theorem nsts_keep {l : List Int} (hv : vOutline l = true) {p x : Nat} (h1 : 1 ≤ x) : ∀ i, p ≤ i → i < l.length → (∀ j z, p < j → j ≤ i → l[j]? = some z → (x : Int) ≤ z) → (nsts l (i + 1)).list.take (x - 1) = (nsts l (p + 1)).list.take (x - 1) := by
  intro i
  induction i with
  | zero =>
    intro hp _ _
    obtain rfl : p = 0 := by omega
    rfl
  | succ i ih =>
    intro hp hi hz
    rcases Nat.lt_or_ge i p with h2 | h2
    · obtain rfl : p = i + 1 := by omega
      rfl
    · have g : l[i + 1]? = some l[i + 1] := List.getElem?_eq_getElem hi
      have b := vOutline_at hv g
      have hz1 := hz (i + 1) _ (by omega) (Nat.le_refl _) g
      rw [nsts_next g, ← ih h2 (by omega) (fun j z a b c => hz j z a (by omega) c)]
      have e : l[i + 1] = ((l[i + 1].toNat : Nat) : Int) := by omega
      rw [e]
      exact nst_keep _ h1 (by omega) (by omega)
/-- A number begins with that of the parent, and a period. -/
theorem num_parent {l : List Int} (hv : vOutline l = true) {i p : Nat} {x : Int} (hx : l[i]? = some x) (hp : pFrom l x i = (p : Int)) :
    ∃ (y : Int) (s t : ByteArray), l[p]? = some y ∧ p < i ∧ y = x - 1 ∧ (numT l)[p]? = some s ∧ (numT l)[i]? = some t ∧ s.size + 1 < t.size ∧ t.extract 0 s.size = s ∧ t.data.toList[s.size]? = some 46 ∧ t.size ≤ 12 := by
  have hi := (List.getElem?_eq_some_iff.1 hx).1
  obtain ⟨h1, ⟨y, hy, hyx⟩, h3⟩ := pFrom_says i p (by omega) hp
  have bx := vOutline_at hv hx
  have by' := vOutline_at hv hy
  have hyx2 : y = x - 1 := by
    have g : l[p + 1]? = some (l[p + 1]'(by omega)) := List.getElem?_eq_getElem _
    have b := (vOutline_at hv g).2.2.2 y (by omega) hy
    have h4 : x ≤ l[p + 1]'(by omega) := by
      rcases Nat.lt_or_ge (p + 1) i with h5 | h5
      · exact h3 (p + 1) _ (by omega) h5 g
      · have : p + 1 = i := by omega
        subst this
        rw [g] at hx
        injection hx with hx
        omega
    omega
  obtain ⟨xn, rfl⟩ := Int.eq_ofNat_of_zero_le (show 0 ≤ x by omega)
  have hk := nsts_keep hv (p := p) (x := xn) (by omega) i (by omega) hi (fun j z a b c => by
    rcases Nat.lt_or_ge j i with h5 | h5
    · exact h3 j z a h5 c
    · obtain rfl : j = i := by omega
      rw [hx] at c
      injection c with c
      omega)
  obtain ⟨S, hS⟩ : ∃ S, S = njoin ((nsts l (p + 1)).list.take (xn - 1)) := ⟨_, rfl⟩
  have e1 : ntext (nsts l (p + 1)) y = ⟨S.toArray⟩ := by
    rw [hS]
    unfold ntext parts
    rw [show y.toNat = xn - 1 from by omega]
  have hget : (nsts l (i + 1)).list[xn - 1]? = some ((nsts l (i + 1)).list[xn - 1]'(by show xn - 1 < 4; omega)) := List.getElem?_eq_getElem _
  obtain ⟨n, hn⟩ : ∃ n, n = (nsts l (i + 1)).list[xn - 1]'(by show xn - 1 < 4; omega) := ⟨_, rfl⟩
  rw [← hn] at hget
  have e2 : ntext (nsts l (i + 1)) (xn : Int) = ⟨(S ++ 46 :: dec n).toArray⟩ := by
    unfold ntext parts
    have h5 := njoin_next hget
    rw [show xn - 1 + 1 = xn from by omega, if_pos (show 0 < xn - 1 by omega), hk, ← hS] at h5
    show (⟨(njoin ((nsts l (i + 1)).list.take xn)).toArray⟩ : ByteArray) = _
    rw [h5]
    simp
  have hd := dec_len n
  have hsz : (ntext (nsts l (i + 1)) (xn : Int)).size ≤ 12 := ntext_size (by omega)
  refine ⟨y, _, _, hy, h1, hyx2, numT_get hv hy, numT_get hv hx, ?_, ?_, ?_, hsz⟩
  · rw [e1, e2]
    show S.length + 1 < (S ++ 46 :: dec n).length
    rw [List.length_append, List.length_cons]
    omega
  · rw [e1, e2]
    apply ByteArray.ext
    apply Array.toList_inj.1
    rw [ByteArray.data_extract, Array.toList_extract, List.extract_eq_take_drop]
    show ((S ++ 46 :: dec n).drop 0).take (S.length - 0) = S
    rw [List.drop_zero, Nat.sub_zero, List.take_append_of_le_length (Nat.le_refl _), List.take_length]
  · rw [e1, e2]
    show (S ++ 46 :: dec n)[S.length]? = some 46
    rw [List.getElem?_append_right (Nat.le_refl _), Nat.sub_self]
    rfl
end Go.Proofs.YtdgmienljhaipaaDoor
