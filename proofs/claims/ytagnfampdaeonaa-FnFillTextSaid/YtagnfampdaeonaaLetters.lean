/-
  The plain law of FillText's letters: without the spaces, the lines of a filled text are its words; and all but the last have the width.
-/
import Derived.Test.YtagnfampdaeonaaFillTextPlain
namespace Go.Proofs.Ytagnfampdaeonaa
open Go.RowKit
set_option linter.unusedVariables false

def noSp (c : UInt8) : Bool := decide (c ≠ 32)
def letOf (s : ByteArray) : List UInt8 := s.data.toList.filter noSp
def bytesOf (s : ByteArray) : List UInt8 := s.data.toList
theorem flat_step (f : ByteArray → List UInt8) {l : List ByteArray} {k : Nat} {s : ByteArray} (h : l[k]? = some s) : (l.take (k + 1)).flatMap f = (l.take k).flatMap f ++ f s := by
  rw [List.take_add_one, h, List.flatMap_append]
  show _ ++ [s].flatMap f = _
  rw [List.flatMap_singleton]
theorem flat_none (f : ByteArray → List UInt8) {l : List ByteArray} {k : Nat} (h : l[k]? = none) : (l.take (k + 1)).flatMap f = (l.take k).flatMap f := by
  rw [List.take_add_one, h, List.flatMap_append]
  show _ ++ [].flatMap f = _
  rw [List.flatMap_nil, List.append_nil]
theorem letOf_app (a b : ByteArray) : letOf (a ++ b) = letOf a ++ letOf b := by
  unfold letOf
  rw [ByteArray.data_append, Array.toList_append, List.filter_append]
theorem letOf_sp (n : Nat) : letOf (spB n) = [] := by
  unfold letOf spB
  rw [List.filter_eq_nil_iff]
  intro c hc
  have h : c ∈ List.replicate n 32 := hc
  rw [List.mem_replicate] at h
  rw [h.2]
  decide
theorem letOf_word {s : ByteArray} (h : vWord s = true) : letOf s = bytesOf s := by
  simp only [vWord, Bool.and_eq_true] at h
  have h1 := h.1
  unfold letOf bytesOf
  rw [List.filter_eq_self]
  intro c hc
  have h2 := List.all_eq_true.1 h1 c hc
  unfold noSp
  refine decide_eq_true ?_
  rintro rfl
  exact absurd h2 (by decide)
theorem letOf_fillUp {ws : List ByteArray} {R : Nat} (hw : ∀ s ∈ ws, vWord s = true) : ∀ {k : Nat}, k < ws.length → letOf (fillUp ws R k) = (ws.take (k + 1)).flatMap bytesOf
  | 0, h => by
    have h0 : ws[0]? = some ws[0] := List.getElem?_eq_getElem h
    rw [fillUp, wAt_get h0, letOf_word (hw _ (List.getElem_mem h)), flat_step bytesOf h0]
    rfl
  | k + 1, h => by
    have hs : ws[k + 1]? = some ws[k + 1] := List.getElem?_eq_getElem h
    rw [fillUp, wAt_get hs, letOf_app, letOf_app, letOf_sp, letOf_word (hw _ (List.getElem_mem h)), letOf_fillUp hw (k := k) (by omega), flat_step bytesOf hs, List.append_nil]
theorem letOf_fillW {ws : List ByteArray} {W : Int} (hw : ∀ s ∈ ws, vWord s = true) (h : 0 < ws.length) : letOf (fillW ws W) = ws.flatMap bytesOf := by
  unfold fillW
  rw [letOf_fillUp hw (by omega), show ws.length - 1 + 1 = ws.length from by omega, List.take_length]
theorem fillW_width {ws : List ByteArray} {W : Int} (hw : ∀ s ∈ ws, vWord s = true) (h : 0 < ws.length) (hW : lineLen (sizes ws) ≤ W) : ((fillW ws W).size : Int) ≤ W ∧ ((letOf (fillW ws W)).length < (fillW ws W).size → ((fillW ws W).size : Int) = W) := by
  by_cases h2 : 2 ≤ ws.length
  · have h3 := fillW_size h2 hW
    exact ⟨by omega, fun _ => h3⟩
  · have hl : ws.length = 1 := by omega
    obtain ⟨s, rfl⟩ := List.length_eq_one_iff.1 hl
    have e : fillW [s] W = s := rfl
    rw [e]
    have hs := hw s (by simp)
    refine ⟨?_, fun h4 => ?_⟩
    · simp [lineLen, sizes] at hW
      omega
    · rw [letOf_word hs] at h4
      have h5 : (bytesOf s).length = s.size := rfl
      omega
theorem wseg_mem {l : List ByteArray} {i e : Nat} {s : ByteArray} (h : s ∈ wseg l i e) : s ∈ l := List.mem_of_mem_drop (List.mem_of_mem_take h)
theorem wseg_drop {l : List ByteArray} {i e : Nat} (h : i ≤ e) : wseg l i e ++ l.drop e = l.drop i := by
  have h2 := List.take_append_drop (e - i) (l.drop i)
  rw [List.drop_drop, show i + (e - i) = e from by omega] at h2
  exact h2
theorem lets_ftL {l : List ByteArray} {W : Int} (hw : ∀ s ∈ l, vWord s = true) : ∀ (es : List Nat) (i : Nat), okE (sizes l) W i es → (ftL l W i es).flatMap letOf = (l.drop i).flatMap bytesOf
  | [], i, h => by
    have h1 : i = l.length := by have h2 : i = (sizes l).length := h; rw [sizes_length] at h2; exact h2
    rw [ftL, h1, List.drop_length]
    rfl
  | e :: es, i, h => by
    obtain ⟨h1, h2, h3, h4⟩ := h
    rw [sizes_length] at h2
    have hl : 0 < (wseg l i e).length := by rw [wseg_length h2]; omega
    have hws : ∀ s ∈ wseg l i e, vWord s = true := fun s hs => hw s (wseg_mem hs)
    rw [ftL, List.flatMap_cons, lets_ftL hw es e h4, ← wseg_drop (i := i) (e := e) (by omega), List.flatMap_append]
    congr 1
    split
    · exact letOf_fillW hws hl
    · rw [← fillW_line hl]
      exact letOf_fillW hws hl
theorem ftL_width {l : List ByteArray} {W : Int} (hw : ∀ s ∈ l, vWord s = true) : ∀ (es : List Nat) (i : Nat), okE (sizes l) W i es → ∀ (k : Nat) (s : ByteArray), (ftL l W i es)[k]? = some s → (s.size : Int) ≤ W ∧ (k + 1 < es.length → (letOf s).length < s.size → (s.size : Int) = W)
  | [], i, h, k, s, hs => by simp [ftL] at hs
  | e :: es, i, h, k, s, hs => by
    have hla := okE_last h
    obtain ⟨h1, h2, h3, h4⟩ := h
    rw [sizes_length] at h2 hla
    match k, hs with
    | k + 1, hs =>
      have h5 := ftL_width hw es e h4 k s hs
      exact ⟨h5.1, fun h6 h7 => h5.2 (by simp at h6; omega) h7⟩
    | 0, hs =>
      have hl : 0 < (wseg l i e).length := by rw [wseg_length h2]; omega
      have hws : ∀ s ∈ wseg l i e, vWord s = true := fun s hs => hw s (wseg_mem hs)
      have hW : lineLen (sizes (wseg l i e)) ≤ W := by rw [wseg_sizes]; unfold wrest at h3; omega
      rw [ftL, List.getElem?_cons_zero] at hs
      injection hs with hs
      split at hs
      · subst hs
        have h5 := fillW_width hws hl hW
        exact ⟨h5.1, fun _ => h5.2⟩
      · rename_i hn
        rw [← fillW_line hl] at hs
        subst hs
        have h5 := fillW_width hws hl (Int.le_refl _)
        refine ⟨by omega, fun h6 => ?_⟩
        have h7 : es = [] := hla.2 (by omega)
        rw [h7] at h6
        simp at h6
theorem vWrap_each {l : List ByteArray} {wd : Int} (h : vWrap l wd = true) : ∀ s ∈ l, vWord s = true := by
  intro s hs
  simp only [vWrap, vWords, Bool.and_eq_true] at h
  exact List.all_eq_true.1 h.1.1 s hs
/-- What FillText's lines keep. -/
theorem fillT_keep {l : List ByteArray} {wd : Int} (hw : wd ≤ 61) (h0 : (fillT l wd).length ≠ 0) : (fillT l wd).flatMap letOf = l.flatMap bytesOf ∧
    ∀ (k : Nat) (s : ByteArray), (fillT l wd)[k]? = some s → (s.size : Int) ≤ wd ∧ s.size ≤ 61 ∧ (k + 1 < (fillT l wd).length → (letOf s).length < s.size → (s.size : Int) = wd) := by
  by_cases hv : vWrap l wd = true
  · have hok := okE_wends hv
    have h1 : fillT l wd = ftL l wd 0 (wends (sizes l) wd) := if_pos hv
    rw [h1]
    refine ⟨lets_ftL (vWrap_each hv) _ 0 hok, fun k s hs => ?_⟩
    have h2 := ftL_width (vWrap_each hv) _ 0 hok k s hs
    rw [ftL_length]
    exact ⟨h2.1, by omega, h2.2⟩
  · exact absurd (by rw [show fillT l wd = [] from if_neg hv]; rfl) h0

/-! ### The letters up to a place in a line -/
def letTo (V : List ByteArray) (i : Nat) (s : ByteArray) (k : Nat) : List UInt8 := (V.take i).flatMap letOf ++ (s.data.toList.take k).filter noSp
def letB (V : List ByteArray) (i : Nat) (s : ByteArray) (k : Nat) : ByteArray := ⟨(letTo V i s k).toArray⟩
def wordB (l : List ByteArray) (k : Nat) : ByteArray := ⟨((l.take k).flatMap bytesOf).toArray⟩
def spTo (s : ByteArray) (k : Nat) : Nat := k - ((s.data.toList.take k).filter noSp).length
theorem tk_byte {s : ByteArray} {k : Nat} (h : k < s.size) : s.data.toList.take (k + 1) = s.data.toList.take k ++ [s[k]] := by
  have h2 : k < s.data.toList.length := by simpa using h
  have h3 : s.data.toList[k]? = some s[k] := by rw [List.getElem?_eq_getElem h2]; rfl
  rw [List.take_add_one, h3]; rfl
theorem ext_one {s : ByteArray} {k : Nat} (h : k < s.size) : s.extract k (k + 1) = ⟨#[s[k]]⟩ := by
  apply ByteArray.ext
  rw [ByteArray.data_extract]
  apply Array.toList_inj.1
  have h2 : k < s.data.toList.length := by simpa using h
  rw [Array.toList_extract, List.extract_eq_take_drop]
  have h3 : s.data.toList[k]? = some s[k] := by rw [List.getElem?_eq_getElem h2]; rfl
  rw [drop_of_get h3, show k + 1 - k = 1 from by omega]
  rfl
theorem fl_le (s : ByteArray) (k : Nat) : ((s.data.toList.take k).filter noSp).length ≤ k := Nat.le_trans (List.length_filter_le _ _) (by rw [List.length_take]; omega)
theorem letB_sp {V : List ByteArray} {i : Nat} {s : ByteArray} {k : Nat} (h : k < s.size) (hc : s[k] = 32) : letB V i s (k + 1) = letB V i s k ∧ spTo s (k + 1) = spTo s k + 1 := by
  have e : (s.data.toList.take (k + 1)).filter noSp = (s.data.toList.take k).filter noSp := by
    rw [tk_byte h, List.filter_append, hc]
    show _ ++ [] = _
    rw [List.append_nil]
  have hl := fl_le s k
  unfold letB letTo spTo
  rw [e]
  exact ⟨rfl, by omega⟩
theorem letB_no {V : List ByteArray} {i : Nat} {s : ByteArray} {k : Nat} (h : k < s.size) (hc : s[k] ≠ 32) : letB V i s k ++ s.extract k (k + 1) = letB V i s (k + 1) ∧ spTo s (k + 1) = spTo s k := by
  have e : (s.data.toList.take (k + 1)).filter noSp = (s.data.toList.take k).filter noSp ++ [s[k]] := by
    rw [tk_byte h, List.filter_append]
    congr 1
    simp [noSp, hc]
  have hl := fl_le s k
  unfold letB letTo spTo
  rw [e, ext_one h, List.length_append]
  refine ⟨?_, by simp⟩
  apply ByteArray.ext
  rw [ByteArray.data_append]
  show (_ : List UInt8).toArray ++ [s[k]].toArray = _
  rw [List.append_toArray, List.append_assoc]
theorem letB_end {V : List ByteArray} {i : Nat} {s t : ByteArray} (h : V[i]? = some s) : letB V i s s.size = letB V (i + 1) t 0 := by
  unfold letB letTo
  rw [flat_step letOf h, List.take_of_length_le (l := s.data.toList) (i := s.size) (Nat.le_refl _)]
  show _ = (⟨(_ ++ []).toArray⟩ : ByteArray)
  rw [List.append_nil]
  rfl
theorem letB_zero (V : List ByteArray) (i : Nat) (s t : ByteArray) : letB V i s 0 = letB V i t 0 := rfl
theorem letB_size {V : List ByteArray} {s : ByteArray} (hV : ∀ t ∈ V, t.size ≤ 61) (i k : Nat) : (letB V i s k).size ≤ 61 * i + k := by
  have h1 : ∀ j, ((V.take j).flatMap letOf).length ≤ 61 * j := by
    intro j
    induction j with
    | zero => simp
    | succ j ih =>
      cases hj : V[j]? with
      | none => rw [flat_none _ hj]; omega
      | some t =>
        have h2 := hV t (List.mem_of_getElem? hj)
        have h3 : (letOf t).length ≤ t.size := by
          unfold letOf
          exact List.length_filter_le _ _
        rw [flat_step _ hj, List.length_append]
        omega
  have h2 := h1 i
  have h3 := fl_le s k
  show (letTo V i s k).length ≤ _
  unfold letTo
  rw [List.length_append]
  omega
theorem spTo_all {s : ByteArray} : spTo s s.size = s.size - (letOf s).length := by
  unfold spTo letOf
  rw [List.take_of_length_le (l := s.data.toList) (i := s.size) (Nat.le_refl _)]
theorem spTo_le (s : ByteArray) (k : Nat) : spTo s k ≤ k := Nat.sub_le _ _
theorem letB_all {V : List ByteArray} {t : ByteArray} : letB V V.length t 0 = ⟨(V.flatMap letOf).toArray⟩ := by
  unfold letB letTo
  rw [List.take_length]
  show (⟨(V.flatMap letOf ++ []).toArray⟩ : ByteArray) = _
  rw [List.append_nil]
theorem wordB_next {l : List ByteArray} {k : Nat} {s : ByteArray} (h : l[k]? = some s) : wordB l k ++ s = wordB l (k + 1) := by
  unfold wordB
  rw [flat_step bytesOf h]
  apply ByteArray.ext
  rw [ByteArray.data_append]
  show (_ : List UInt8).toArray ++ s.data = _
  apply Array.toList_inj.1
  rw [Array.toList_append]
  rfl
theorem wordB_size {l : List ByteArray} (hV : ∀ t ∈ l, t.size ≤ 30) : ∀ j : Nat, (wordB l j).size ≤ 30 * j := by
  intro j
  show ((l.take j).flatMap bytesOf).length ≤ _
  induction j with
  | zero => simp
  | succ j ih =>
    cases hj : l[j]? with
    | none => rw [flat_none _ hj]; omega
    | some t =>
      have h2 := hV t (List.mem_of_getElem? hj)
      have h3 : (bytesOf t).length = t.size := rfl
      rw [flat_step _ hj, List.length_append]
      omega
end Go.Proofs.Ytagnfampdaeonaa
