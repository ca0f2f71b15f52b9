/-
  Reading a paragraph in plain words: the valid paragraph whose text it is, if there is one; the pieces of a paragraph's text at the semicolons.
-/
import Derived.Test.YtmnmdecbehfegaaDoorTxtEncs
import Derived.Test.YtmnmdecbehfegaaDoorTxtPI
namespace Go.Proofs.YtmnmdecbehfegaaDoor
open Go.RowKit
set_option linter.unusedVariables false

theorem itxt_no {x : It} {c : UInt8} (h1 : ¬ dig c) (h2 : c ≠ 45) (h3 : c ≠ 32) (h4 : ∀ q ∈ [tBox, tGlue, tPlus, tMinus, tPen, tWidth, tFlag], c ∉ q) : c ∉ itxt x := by
  have hi : ∀ n : Int, c ∉ Lib.itoa n := fun n => itoa_no h1 h2
  have hw : ∀ q ∈ iw0 x :: iws x, c ∉ q := by
    intro q hq
    rcases List.mem_cons.1 hq with rfl | hq
    · unfold iw0
      split
      · exact h4 _ (by simp)
      · split
        · exact h4 _ (by simp)
        · exact h4 _ (by simp)
    · unfold iws at hq
      split at hq
      · simp only [List.mem_singleton] at hq
        subst hq; exact hi _
      · split at hq
        · simp only [List.mem_cons, List.not_mem_nil, or_false] at hq
          rcases hq with rfl | rfl | rfl | rfl | rfl
          · exact hi _
          · exact h4 _ (by simp)
          · exact hi _
          · exact h4 _ (by simp)
          · exact hi _
        · split at hq
          · simp only [List.cons_append, List.nil_append, List.mem_cons, List.not_mem_nil, or_false] at hq
            rcases hq with rfl | rfl | rfl | rfl
            · exact hi _
            · exact h4 _ (by simp)
            · exact hi _
            · exact h4 _ (by simp)
          · simp only [List.append_nil, List.mem_cons, List.not_mem_nil, or_false] at hq
            rcases hq with rfl | rfl | rfl
            · exact hi _
            · exact h4 _ (by simp)
            · exact hi _
  unfold itxt
  rw [List.mem_append, not_or]
  refine ⟨hw _ (by simp), ?_⟩
  intro hm
  unfold Lib.joinTail at hm
  obtain ⟨q, hq, hc⟩ := List.mem_flatten.1 hm
  obtain ⟨p, hp, rfl⟩ := List.mem_map.1 hq
  rcases List.mem_append.1 hc with h | h
  · exact h3 (List.mem_singleton.1 h)
  · exact hw p (by simp [hp]) h
theorem itxt_semi (x : It) : (59 : UInt8) ∉ itxt x := itxt_no (by unfold dig; decide) (by decide) (by decide) (by decide)
theorem itxt_ne (x : It) : itxt x ≠ [] := by
  intro h
  have : iw0 x = [] := (List.append_eq_nil_iff.1 h).1
  unfold iw0 at this
  split at this
  · cases this
  · split at this
    · cases this
    · cases this

/-- The pieces at the semicolons; all but the first begin with a space. -/
theorem jI_cut {x : It} {r : List It} {n : Nat} (hn : r.length ≤ n) : cutG 59 n [] (jI (x :: r)) = itxt x :: r.map (fun y => 32 :: itxt y) := by
  have e : jI (x :: r) = itxt x ++ Lib.joinTail [59] (r.map (fun y => 32 :: itxt y)) := by
    unfold jI
    rw [List.map_cons, Lib.join_cons]
    congr 1
    unfold Lib.joinTail
    rw [List.map_map, List.map_map]
    rfl
  rw [e]
  refine cutG_join 59 _ _ n ?_ (by rw [List.length_map]; exact hn)
  intro q hq
  rcases List.mem_cons.1 hq with rfl | hq
  · exact itxt_semi x
  · obtain ⟨y, _, rfl⟩ := List.mem_map.1 hq
    intro h
    rcases List.mem_cons.1 h with h | h
    · revert h; decide
    · exact itxt_semi y h
/-- The reference's piece: without the space behind a semicolon. -/
def pieceB (i : Nat) (t : ByteArray) : ByteArray := if 0 < i ∧ 0 < t.size then t.extract 1 t.size else t
def pItems (s : ByteArray) : List It := ((cutB 59 60 s).zipIdx).map (fun p => pItem (pieceB p.2 p.1))
theorem piece_drop (i : Nat) (l : List UInt8) (hi : 0 < i) : pieceB i (baL (32 :: l)) = baL l := by
  have hs : (baL (32 :: l)).size = l.length + 1 := rfl
  rw [pieceB, if_pos ⟨hi, by omega⟩]
  apply ba_ext
  rw [ext_toList, baL_list, baL_list, hs]
  simp
theorem jI_inj {l m : List It} (hl : ∀ x ∈ l, vIt x = true) (hm : ∀ x ∈ m, vIt x = true) (h : jI l = jI m) : l = m := by
  cases l with
  | nil =>
    cases m with
    | nil => rfl
    | cons y r =>
      exfalso
      have e : jI (y :: r) = itxt y ++ Lib.joinTail [59, 32] (r.map itxt) := by unfold jI; rw [List.map_cons, Lib.join_cons]
      rw [show jI [] = [] from rfl, e] at h
      exact itxt_ne y (List.append_eq_nil_iff.1 h.symm).1
  | cons x r =>
    cases m with
    | nil =>
      exfalso
      have e : jI (x :: r) = itxt x ++ Lib.joinTail [59, 32] (r.map itxt) := by unfold jI; rw [List.map_cons, Lib.join_cons]
      rw [show jI [] = [] from rfl, e] at h
      exact itxt_ne x (List.append_eq_nil_iff.1 h).1
    | cons y t =>
      have e1 := jI_cut (x := x) (r := r) (n := r.length + t.length) (by omega)
      rw [h, jI_cut (x := y) (r := t) (n := r.length + t.length) (by omega)] at e1
      injection e1 with e0 e1
      have hxy := itxt_inj (hl x (by simp)) (hm y (by simp)) e0.symm
      have hrt : ∀ (a b : List It), (∀ z ∈ a, vIt z = true) → (∀ z ∈ b, vIt z = true) → b.map (fun y => (32 : UInt8) :: itxt y) = a.map (fun y => 32 :: itxt y) → a = b := by
        intro a
        induction a with
        | nil => intro b _ _ h; cases b with
          | nil => rfl
          | cons _ _ => cases h
        | cons z a ih =>
          intro b ha hb h
          cases b with
          | nil => cases h
          | cons z' b =>
            simp only [List.map_cons, List.cons.injEq, true_and] at h
            rw [itxt_inj (ha z (by simp)) (hb z' (by simp)) h.1.symm, ih b (fun q hq => ha q (by simp [hq])) (fun q hq => hb q (by simp [hq])) h.2]
      rw [hxy, hrt r t (fun z hz => hl z (by simp [hz])) (fun z hz => hm z (by simp [hz])) e1]
noncomputable def decIs (s : List UInt8) : List It × Bool := by
  classical
  exact if h : ∃ l, vItems l = true ∧ jI l = s then (h.choose, true) else ([], false)
theorem decIs_some {l : List It} (h : vItems l = true) : decIs (jI l) = (l, true) := by
  have h1 : ∃ m, vItems m = true ∧ jI m = jI l := ⟨l, h, rfl⟩
  rw [decIs, dif_pos h1, jI_inj (vItems_each h1.choose_spec.1).1 (vItems_each h).1 h1.choose_spec.2]
theorem decIs_none {s : List UInt8} (h : ∀ l, vItems l = true → jI l ≠ s) : decIs s = ([], false) := by
  have h1 : ¬ ∃ l, vItems l = true ∧ jI l = s := fun ⟨l, hl, e⟩ => h l hl e
  rw [decIs, dif_neg h1]
theorem decIs_true {s : List UInt8} {l : List It} (h : decIs s = (l, true)) : vItems l = true ∧ jI l = s := by
  by_cases h1 : ∃ l, vItems l = true ∧ jI l = s
  · obtain ⟨m, hm, rfl⟩ := h1
    rw [decIs_some hm] at h
    injection h with h _
    subst h
    exact ⟨hm, rfl⟩
  · rw [decIs, dif_neg h1] at h
    injection h with _ h
    cases h
theorem decIs_of {s : List UInt8} {l : List It} (h : ∀ m, vItems m = true → jI m = s → l = m) : decIs s = if vItems l = true ∧ jI l = s then (l, true) else ([], false) := by
  by_cases h1 : vItems l = true ∧ jI l = s
  · rw [if_pos h1, ← h1.2, decIs_some h1.1]
  · rw [if_neg h1]
    refine decIs_none fun m hm e => h1 ?_
    have := h m hm e
    subst this
    exact ⟨hm, e⟩
theorem map_idx_drop : ∀ (r : List It) (i : Nat), 0 < i → (∀ y ∈ r, vIt y = true) → ((r.map (fun y => baL (32 :: itxt y))).zipIdx i).map (fun p => pItem (pieceB p.2 p.1)) = r
  | [], _, _, _ => rfl
  | y :: r, i, hi, h => by
    rw [List.map_cons, List.zipIdx_cons, List.map_cons, map_idx_drop r (i + 1) (by omega) (fun z hz => h z (by simp [hz]))]
    simp only
    rw [piece_drop i _ hi, pItem_of y (h y (by simp)) (baL_list _).symm]
theorem pItems_of {s : ByteArray} : ∀ m, vItems m = true → jI m = s.data.toList → pItems s = m := by
  intro m hm e
  obtain ⟨h1, h2, h3⟩ := vItems_each hm
  cases m with
  | nil => simp at h3
  | cons x r =>
    have hc : cutB 59 60 s = baL (itxt x) :: r.map (fun y => baL (32 :: itxt y)) := by
      rw [cutB, ← e, jI_cut (by simp at h2; omega), List.map_cons, List.map_map]
      rfl
    rw [pItems, hc, List.zipIdx_cons, List.map_cons, map_idx_drop r 1 (by omega) (fun z hz => h1 z (by simp [hz]))]
    simp only
    rw [show pieceB 0 (baL (itxt x)) = baL (itxt x) from if_neg (by omega), pItem_of x (h1 x (by simp)) (baL_list _).symm]
end Go.Proofs.YtmnmdecbehfegaaDoor
