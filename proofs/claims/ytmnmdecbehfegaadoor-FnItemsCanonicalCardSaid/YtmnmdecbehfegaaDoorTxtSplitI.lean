/-
  The library's cutting of a text is the plain one.
-/
import Derived.Test.YtmnmdecbehfegaaDoorTxtRead
namespace Go.Proofs.YtmnmdecbehfegaaDoor
open Go.RowKit
set_option linter.unusedVariables false

theorem index_cons (b c : UInt8) (r : List UInt8) : Lib.index (c :: r) [b] = if c = b then 0 else if Lib.index r [b] = -1 then -1 else Lib.index r [b] + 1 := by
  rw [Lib.index]
  by_cases h : c = b
  · subst h
    rw [if_pos (by simp), if_pos rfl]
  · have hb : ([b].isPrefixOf (c :: r)) = false := by simp [List.isPrefixOf, Ne.symm h]
    rw [hb, if_neg (by simp), if_neg h]
    by_cases h1 : Lib.index r [b] = -1
    · rw [if_pos (by simp [h1]), if_pos h1]
    · rw [if_neg (by simpa using h1), if_neg h1]
theorem cutG_index (b : UInt8) : ∀ (l : List UInt8) (k : Nat) (cur : List UInt8), cutG b (k + 1) cur l =
    if Lib.index l [b] = -1 then [cur ++ l] else (cur ++ l.take (Lib.index l [b]).toNat) :: cutG b k [] (l.drop ((Lib.index l [b]).toNat + 1))
  | [], k, cur => by simp [cutG, Lib.index]
  | c :: r, k, cur => by
    have hge := Lib.index_ge r [b]
    rw [cutG, index_cons]
    by_cases h : c = b
    · rw [if_pos h, if_pos h, if_neg (by decide)]
      simp
    · rw [if_neg h, if_neg h, cutG_index b r k (cur ++ [c])]
      by_cases h1 : Lib.index r [b] = -1
      · rw [if_pos h1, if_pos h1, if_pos rfl]; simp
      · rw [if_neg h1, if_neg h1, if_neg (by omega), show (Lib.index r [b] + 1).toNat = (Lib.index r [b]).toNat + 1 by omega]
        simp
theorem splitK_cut (b : UInt8) : ∀ (k : Nat) (l : List UInt8), Lib.splitK [b] 0 k l = cutG b k [] l
  | 0, l => by rw [cutG_zero]; rfl
  | k + 1, l => by
    rw [Lib.splitK, cutG_index]
    by_cases h : Lib.index l [b] = -1
    · rw [if_pos (by simp [h]), if_pos h]; rfl
    · rw [if_neg (by simpa using h), if_neg h, splitK_cut b k]
      simp
theorem map_data {l m : List ByteArray} (h : l.map (·.data.toList) = m.map (·.data.toList)) : l = m := by
  have e : ∀ n : List ByteArray, (n.map (·.data.toList)).map baL = n := fun n => by
    rw [List.map_map]
    conv => rhs; rw [← List.map_id n]
    apply List.map_congr_left
    intro t _
    exact baL_of t
  rw [← e l, h, e m]
theorem splitB_all' (b : UInt8) (s : ByteArray) : Lib.splitB ⟨#[b]⟩ 0 (Lib.countB s ⟨#[b]⟩) s = allB b s := by
  apply map_data
  rw [Lib.splitB_data]
  have hc : Lib.countB s ⟨#[b]⟩ = s.data.toList.count b := Lib.count_one b s.data.toList
  rw [hc, allB, cutB, List.map_map]
  show Lib.splitK [b] 0 _ _ = _
  rw [splitK_cut]
  conv => lhs; rw [← List.map_id (cutG b _ [] s.data.toList)]
  apply List.map_congr_left
  intro t _
  rfl
theorem countB_one (b : UInt8) (s : ByteArray) : Lib.countB s ⟨#[b]⟩ + 1 = (allB b s).length := by
  have hc : Lib.countB s ⟨#[b]⟩ = s.data.toList.count b := Lib.count_one b s.data.toList
  rw [hc, allB, cutB_length, cutG_full b _ _ [] (Nat.le_refl _)]
end Go.Proofs.YtmnmdecbehfegaaDoor
