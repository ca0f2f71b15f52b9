/-
  The plain law of trimmed rows: what is left of them, and that trimming them again changes nothing.
-/
import Derived.Test.YtigcbnehcofbcaaDoorTrimPlain
namespace Go.Proofs.YtigcbnehcofbcaaDoor
open Go.RowKit
set_option linter.unusedVariables false

theorem trimS_idem (s : ByteArray) : trimS (trimS s) = trimS s := by
  refine trimS_stop (fun n hn hc => ?_)
  have h1 := trimS_size s
  have h2 := byte_at (s := trimS s) (k := n) (by omega)
  rw [hc] at h2
  unfold trimS at h2
  rw [ext0_list, List.getElem?_take] at h2
  split at h2
  · have h3 := trimN_stop s.data.toList s.size (by omega)
    rw [show trimN s.data.toList s.size - 1 = n from by omega] at h3
    exact h3 h2
  · cases h2
theorem trimS_text {s : ByteArray} (h : vText s = true) : vText (trimS s) = true := by
  simp only [vText, Bool.and_eq_true, decide_eq_true_eq] at h ⊢
  refine ⟨?_, ?_⟩
  · rw [List.all_eq_true]
    intro c hc
    unfold trimS at hc
    rw [ext0_list] at hc
    exact List.all_eq_true.1 h.1 c (List.mem_of_mem_take hc)
  · rw [trimS_size]
    have := trimN_le s.data.toList s.size
    omega
theorem trimT_good {l : List ByteArray} (h : (trimT l).length ≠ 0) : vRows l = true ∧ trimT l = dropT (l.map trimS) := by
  by_cases hv : vRows l = true
  · exact ⟨hv, if_pos hv⟩
  · exact absurd (by rw [trimT, if_neg hv]; rfl) h
theorem dropT_len (l : List ByteArray) : (dropT l).length = filN l l.length := by
  have := filN_le l l.length
  unfold dropT
  rw [List.length_take]
  omega
theorem dropT_get {l : List ByteArray} {k : Nat} {s : ByteArray} (h : (dropT l)[k]? = some s) : l[k]? = some s := by
  unfold dropT at h
  rw [List.getElem?_take] at h
  split at h
  · exact h
  · cases h
/-- What is left of the rows. -/
theorem trimT_row {l : List ByteArray} (h0 : (trimT l).length ≠ 0) {k : Nat} {s : ByteArray} (hs : (trimT l)[k]? = some s) :
    ∃ t, l[k]? = some t ∧ s.size ≤ t.size ∧ t.extract 0 s.size = s ∧ t.size ≤ 60 ∧ (∀ n, (hn : s.size = n + 1) → s[n]'(by omega) ≠ 32) := by
  obtain ⟨hv, e⟩ := trimT_good h0
  rw [e] at hs
  have h1 := dropT_get hs
  rw [List.getElem?_map] at h1
  cases ht : l[k]? with
  | none => rw [ht] at h1; cases h1
  | some t =>
    rw [ht] at h1
    injection h1 with h1
    subst h1
    have hle := trimN_le t.data.toList t.size
    have hsz := trimS_size t
    simp only [vRows, Bool.and_eq_true, decide_eq_true_eq, List.all_eq_true] at hv
    have hvt := hv.2 t (List.mem_of_getElem? ht)
    simp only [vText, Bool.and_eq_true, decide_eq_true_eq] at hvt
    refine ⟨t, rfl, by omega, by rw [hsz]; rfl, hvt.2, fun n hn hc => ?_⟩
    have h2 := byte_at (s := trimS t) (k := n) (by omega)
    rw [hc] at h2
    unfold trimS at h2
    rw [ext0_list, List.getElem?_take] at h2
    split at h2
    · have h3 := trimN_stop t.data.toList t.size (by omega)
      rw [show trimN t.data.toList t.size - 1 = n from by omega] at h3
      exact h3 h2
    · cases h2
theorem trimT_last {l : List ByteArray} (h0 : (trimT l).length ≠ 0) {s : ByteArray} (hs : (trimT l)[(trimT l).length - 1]? = some s) : s ≠ ⟨#[]⟩ := by
  obtain ⟨hv, e⟩ := trimT_good h0
  rw [e] at hs h0
  rw [dropT_len] at hs h0
  have h1 := dropT_get hs
  have h2 := filN_stop (l.map trimS) (l.map trimS).length (by omega)
  rintro rfl
  exact h2 h1
/-- Trimming again changes nothing. -/
theorem trimT_idem (l : List ByteArray) (h0 : (trimT l).length ≠ 0) : trimT (trimT l) = trimT l := by
  obtain ⟨hv, e⟩ := trimT_good h0
  have hlen := trimT_len l
  have hmap : (trimT l).map trimS = trimT l := by
    apply List.ext_getElem?
    intro k
    rw [List.getElem?_map]
    cases hk : (trimT l)[k]? with
    | none => rfl
    | some s =>
      have h1 := hk
      rw [e] at h1
      have h2 := dropT_get h1
      rw [List.getElem?_map] at h2
      cases ht : l[k]? with
      | none => rw [ht] at h2; cases h2
      | some t =>
        rw [ht] at h2
        injection h2 with h2
        subst h2
        show some (trimS (trimS t)) = _
        rw [trimS_idem]
  have hvr : vRows (trimT l) = true := by
    simp only [vRows, Bool.and_eq_true, decide_eq_true_eq, List.all_eq_true] at hv ⊢
    refine ⟨hlen, fun s hs => ?_⟩
    rw [← hmap] at hs
    obtain ⟨u, hu, rfl⟩ := List.mem_map.1 hs
    rw [e] at hu
    have hu2 : u ∈ l.map trimS := List.mem_of_mem_take hu
    obtain ⟨t, ht, rfl⟩ := List.mem_map.1 hu2
    exact trimS_text (trimS_text (hv.2 t ht))
  have h3 : filN (trimT l) (trimT l).length = (trimT l).length := by
    cases hl : (trimT l).length with
    | zero => rfl
    | succ n =>
      obtain ⟨s, hg⟩ : ∃ s, (trimT l)[n]? = some s := ⟨_, List.getElem?_eq_getElem (by omega)⟩
      have hne := trimT_last h0 (s := s) (by rw [show (trimT l).length - 1 = n from by omega]; exact hg)
      rw [filN, hg, if_neg]
      intro e
      injection e with e
      exact hne e
  have hTT : trimT (trimT l) = dropT ((trimT l).map trimS) := if_pos hvr
  rw [hTT, hmap, dropT, h3, List.take_length]
end Go.Proofs.YtigcbnehcofbcaaDoor
