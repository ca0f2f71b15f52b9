/-
  The plain law of the program's way of reading a paragraph: piece by piece at a semicolon and a space.
-/
import Derived.Test.YtmnmdecbehfegaaDoorTxtDSs
namespace Go.Proofs.YtmnmdecbehfegaaDoor
open Go.RowKit
set_option linter.unusedVariables false

theorem index2_cons (c : UInt8) (r : List UInt8) : Lib.index (c :: r) [59, 32] = if [59, 32].isPrefixOf (c :: r) = true then 0 else if Lib.index r [59, 32] = -1 then -1 else Lib.index r [59, 32] + 1 := by
  rw [Lib.index]
  by_cases h : ([59, 32] : List UInt8).isPrefixOf (c :: r) = true
  · rw [if_pos h, if_pos h]
  · rw [if_neg h, if_neg h]
    by_cases h1 : Lib.index r [59, 32] = -1
    · rw [if_pos (by simp [h1]), if_pos h1]
    · rw [if_neg (by simpa using h1), if_neg h1]
theorem index2_none : ∀ (p : List UInt8), (59 : UInt8) ∉ p → Lib.index p [59, 32] = -1
  | [], _ => by simp [Lib.index]
  | c :: r, h => by
    simp only [List.mem_cons, not_or] at h
    rw [index2_cons, index2_none r h.2, if_neg (by simp [List.isPrefixOf, h.1]), if_pos rfl]
theorem index2_at : ∀ (p r : List UInt8), (59 : UInt8) ∉ p → Lib.index (p ++ 59 :: 32 :: r) [59, 32] = (p.length : Int)
  | [], r, _ => by rw [List.nil_append, index2_cons, if_pos (by simp [List.isPrefixOf])]; rfl
  | c :: p, r, h => by
    simp only [List.mem_cons, not_or] at h
    rw [List.cons_append, index2_cons, index2_at p r h.2, if_neg (by simp [List.isPrefixOf, h.1]), if_neg (by omega)]
    simp
theorem index2_room : ∀ (l : List UInt8), Lib.index l [59, 32] = -1 ∨ ∃ i : Nat, Lib.index l [59, 32] = (i : Int) ∧ i + 2 ≤ l.length ∧ l = l.take i ++ 59 :: 32 :: l.drop (i + 2)
  | [] => .inl (by simp [Lib.index])
  | c :: r => by
    rw [index2_cons]
    by_cases h : ([59, 32] : List UInt8).isPrefixOf (c :: r) = true
    · rw [if_pos h]
      obtain ⟨t, e⟩ := List.isPrefixOf_iff_prefix.1 h
      refine .inr ⟨0, rfl, ?_, ?_⟩
      · rw [← e]; simp
      · rw [← e]; simp
    · rw [if_neg h]
      rcases index2_room r with h1 | ⟨i, h1, h2, h3⟩
      · rw [if_pos h1]; exact .inl rfl
      · rw [if_neg (by omega)]
        refine .inr ⟨i + 1, by omega, by simp; omega, ?_⟩
        rw [List.take_succ_cons, List.cons_append, show i + 1 + 2 = (i + 2) + 1 by omega, List.drop_succ_cons, ← h3]

def flatI (out : List It) : List UInt8 := out.flatMap (fun o => itxt o ++ [59, 32])
theorem jI_cons (y : It) (l : List It) : jI (y :: l) = if l = [] then itxt y else itxt y ++ 59 :: 32 :: jI l := by
  unfold jI
  rw [List.map_cons, Lib.join_cons]
  cases l with
  | nil => simp [Lib.joinTail]
  | cons z t =>
    rw [if_neg (by simp), List.map_cons, Lib.join_cons]
    simp [Lib.joinTail]
theorem part_eq : ∀ {p q r t : List UInt8}, (59 : UInt8) ∉ p → (59 : UInt8) ∉ q → p ++ 59 :: r = q ++ 59 :: t → p = q ∧ r = t
  | [], [], r, t, _, _, h => by simp at h; exact ⟨rfl, h⟩
  | [], c :: q, r, t, _, hq, h => by
    simp only [List.nil_append, List.cons_append, List.cons.injEq] at h
    exact absurd (by rw [← h.1]; simp) hq
  | c :: p, [], r, t, hp, _, h => by
    simp only [List.nil_append, List.cons_append, List.cons.injEq] at h
    exact absurd (by rw [h.1]; simp) hp
  | c :: p, d :: q, r, t, hp, hq, h => by
    simp only [List.cons_append, List.cons.injEq] at h
    simp only [List.mem_cons, not_or] at hp hq
    obtain ⟨h1, h2⟩ := part_eq hp.2 hq.2 h.2
    exact ⟨by rw [h.1, h1], h2⟩
theorem jI_prefix : ∀ {out l : List It} {r : List UInt8}, (∀ o ∈ out, vIt o = true) → (∀ y ∈ l, vIt y = true) → l ≠ [] → flatI out ++ r = jI l → ∃ l', l = out ++ l' ∧ l' ≠ [] ∧ r = jI l'
  | [], l, r, _, _, h0, h => ⟨l, rfl, h0, by simpa [flatI] using h⟩
  | o :: out, [], r, _, _, h0, _ => absurd rfl h0
  | o :: out, y :: l, r, ho, hl, _, h => by
    rw [jI_cons] at h
    have e : flatI (o :: out) ++ r = itxt o ++ 59 :: (32 :: (flatI out ++ r)) := by simp [flatI]
    rw [e] at h
    by_cases hn : l = []
    · rw [if_pos hn] at h
      exfalso
      apply itxt_semi y
      rw [← h]
      simp
    · rw [if_neg hn] at h
      obtain ⟨h1, h2⟩ := part_eq (itxt_semi o) (itxt_semi y) h
      injection h2 with _ h2
      obtain ⟨l', e1, e2, e3⟩ := jI_prefix (out := out) (l := l) (r := r) (fun z hz => ho z (by simp [hz])) (fun z hz => hl z (by simp [hz])) hn h2
      exact ⟨l', by rw [itxt_inj (ho o (by simp)) (hl y (by simp)) h1, e1]; rfl, e2, e3⟩
theorem jI_snoc (out : List It) (x : It) : jI (out ++ [x]) = flatI out ++ itxt x := by
  induction out with
  | nil => rw [List.nil_append, jI_cons, if_pos rfl]; rfl
  | cons o out ih =>
    rw [List.cons_append, jI_cons, if_neg (by simp), ih]
    simp [flatI]
/-- The next piece of a valid rest is an item's text. -/
theorem next_piece {l' : List It} (h0 : l' ≠ []) (hv : ∀ y ∈ l', vIt y = true) : ∃ y t, l' = y :: t ∧ vIt y = true ∧
    ((Lib.index (jI l') [59, 32] = -1 ∧ t = [] ∧ jI l' = itxt y) ∨ (Lib.index (jI l') [59, 32] = ((itxt y).length : Int) ∧ t ≠ [] ∧ jI l' = itxt y ++ 59 :: 32 :: jI t)) := by
  cases l' with
  | nil => exact absurd rfl h0
  | cons y t =>
    refine ⟨y, t, rfl, hv y (by simp), ?_⟩
    rw [jI_cons]
    by_cases ht : t = []
    · rw [if_pos ht]
      exact .inl ⟨index2_none _ (itxt_semi y), ht, rfl⟩
    · rw [if_neg ht]
      exact .inr ⟨index2_at _ _ (itxt_semi y), ht, rfl⟩

/-- What has been read so far: the items out of the pieces, and the rest. -/
structure Sofar (s : ByteArray) (out : List It) (v : ByteArray) : Prop where
  eq : s.data.toList = flatI out ++ v.data.toList
  ok : ∀ o ∈ out, vIt o = true
theorem Sofar.start (s : ByteArray) : Sofar s [] s := ⟨by simp [flatI], fun _ h => by cases h⟩
theorem Sofar.of_valid {s : ByteArray} {out : List It} {v : ByteArray} (h : Sofar s out v) {l : List It} (hl : vItems l = true) (e : jI l = s.data.toList) : ∃ l', l = out ++ l' ∧ l' ≠ [] ∧ v.data.toList = jI l' := by
  have hne : l ≠ [] := by rintro rfl; have := (vItems_each hl).2.2; simp at this
  exact jI_prefix h.ok (vItems_each hl).1 hne (by rw [← h.eq, e])
theorem Sofar.next {s : ByteArray} {out : List It} {v : ByteArray} (h : Sofar s out v) {i : Nat} {x : It} (hi : Lib.index v.data.toList [59, 32] = (i : Int)) (hd : decI (v.extract 0 i).data.toList = (x, true)) : Sofar s (out ++ [x]) (v.extract (i + 2) v.size) := by
  obtain ⟨hx, hxe⟩ := decI_true hd
  rcases index2_room v.data.toList with h1 | ⟨j, h1, h2, h3⟩
  · rw [h1] at hi; omega
  · have hij : j = i := by omega
    subst hij
    rw [ext_toList, List.drop_zero, Nat.sub_zero] at hxe
    refine ⟨?_, ?_⟩
    · have e : (v.extract (j + 2) v.size).data.toList = v.data.toList.drop (j + 2) := by
        rw [ext_toList, List.take_of_length_le]
        rw [List.length_drop]; exact Nat.le_refl _
      rw [h.eq, e]
      conv => lhs; rw [h3]
      rw [← hxe]
      simp [flatI]
    · intro o ho
      rcases List.mem_append.1 ho with ho | ho
      · exact h.ok o ho
      · obtain rfl := List.mem_singleton.1 ho; exact hx
/-- A piece that is no item's: no paragraph. -/
theorem Sofar.bad {s : ByteArray} {out : List It} {v p : ByteArray} (h : Sofar s out v) (hp : (Lib.index v.data.toList [59, 32] = -1 ∧ p = v) ∨ ∃ i : Nat, Lib.index v.data.toList [59, 32] = (i : Int) ∧ p = v.extract 0 i) (hd : (decI p.data.toList).2 = false) : decIs s.data.toList = ([], false) := by
  refine decIs_none fun l hl e => ?_
  obtain ⟨l', e1, e2, e3⟩ := h.of_valid hl e
  have hv' : ∀ y ∈ l', vIt y = true := fun y hy => (vItems_each hl).1 y (by rw [e1]; simp [hy])
  obtain ⟨y, t, e4, hy, hh⟩ := next_piece e2 hv'
  rw [← e3] at hh
  have key : p.data.toList = itxt y := by
    rcases hh with ⟨i1, _, i3⟩ | ⟨i1, _, i3⟩
    · rcases hp with ⟨_, rfl⟩ | ⟨i, j1, rfl⟩
      · exact i3
      · rw [i1] at j1; omega
    · rcases hp with ⟨j1, _⟩ | ⟨i, j1, rfl⟩
      · rw [i1] at j1; omega
      · have hij : i = (itxt y).length := by omega
        rw [ext_toList, i3, hij, List.drop_zero, Nat.sub_zero, List.take_left]
  rw [key, decI_some hy] at hd
  cases hd
/-- More than sixty pieces: no paragraph. -/
theorem Sofar.full {s : ByteArray} {out : List It} {v : ByteArray} (h : Sofar s out v) (hn : 60 ≤ out.length) : decIs s.data.toList = ([], false) := by
  refine decIs_none fun l hl e => ?_
  obtain ⟨l', e1, e2, e3⟩ := h.of_valid hl e
  have h1 := (vItems_each hl).2.1
  have h2 : 0 < l'.length := List.length_pos_iff.2 e2
  rw [e1, List.length_append] at h1
  omega
/-- The last piece: the paragraph, if what was read is valid. -/
theorem Sofar.last {s : ByteArray} {out : List It} {v : ByteArray} {x : It} (h : Sofar s out v) (hi : Lib.index v.data.toList [59, 32] = -1) (hd : decI v.data.toList = (x, true)) :
    decIs s.data.toList = if vItems (out ++ [x]) = true then (out ++ [x], true) else ([], false) := by
  obtain ⟨hx, hxe⟩ := decI_true hd
  have e : s.data.toList = jI (out ++ [x]) := by rw [h.eq, jI_snoc, hxe]
  by_cases hv : vItems (out ++ [x]) = true
  · rw [if_pos hv, e, decIs_some hv]
  · rw [if_neg hv]
    refine decIs_none fun l hl e2 => hv ?_
    have hall : ∀ y ∈ out ++ [x], vIt y = true := fun y hy => by
      rcases List.mem_append.1 hy with hy | hy
      · exact h.ok y hy
      · obtain rfl := List.mem_singleton.1 hy; exact hx
    rw [← jI_inj (vItems_each hl).1 hall (e2.trans e)]
    exact hl
end Go.Proofs.YtmnmdecbehfegaaDoor
