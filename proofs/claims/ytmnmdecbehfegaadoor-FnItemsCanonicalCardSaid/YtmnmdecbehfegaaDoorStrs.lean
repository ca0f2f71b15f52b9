/-
  Contracts of the small functions on []string that the statements use: they compare two lists, measure one and copy one.
-/
import Derived.Test.YtmnmdecbehfegaaDoorProg
import Derived.Test.YtmnmdecbehfegaaDoorBase
namespace Go.Proofs.YtmnmdecbehfegaaDoor
open Go.RowKit
set_option linter.unusedVariables false

theorem str_parts {s t : ByteArray} (h : ¬ s = t) : (s.toList == t.toList) = false := by
  rw [beq_eq_false_iff_ne, ByteArray.toList_eq, ByteArray.toList_eq]
  intro e
  apply h
  obtain ⟨⟨a⟩⟩ := s
  obtain ⟨⟨b⟩⟩ := t
  simp at e
  rw [e]

theorem own_le {w : World} {base : Nat} {E : TypeId} {size : Nat} {L : Option Addr} {n c : Nat} {xs : List Value} (h : w.ownsRow base E size (.slice L n c) n xs) : n ≤ c := by
  obtain ⟨A, c', e, hn⟩ := own_shape h
  injection e with _ _ e
  omega
theorem own_head {w : World} {base : Nat} {E : TypeId} {size : Nat} {L : Option Addr} {n c : Nat} {xs : List Value} (h : w.ownsRow base E size (.slice L n c) n xs) (hn : 0 < n) :
    ∃ g, L = some ⟨g, 0, none⟩ ∧ base ≤ g ∧ n ≤ c ∧ c ≤ maxLen := by
  rcases h.2 with ⟨_, h1⟩ | ⟨g', cap, cur, hv, hg, hh, hn', hc, hz, hx⟩
  · omega
  · injection hv with h1 h2 h3
    subst h1; subst h3
    exact ⟨g', rfl, hg, hn', hc⟩
theorem strs_length (l : List ByteArray) : (strs' l).length = l.length := by simp [strs']
theorem strs_one (l : List ByteArray) : ∀ u ∈ strs' l, u.oneCell' = true := by
  intro u hu
  obtain ⟨_, _, rfl⟩ := List.mem_map.1 hu
  rfl
theorem Rd.slen {w : World} {A : Option Addr} {n : Nat} {xs : List ByteArray} (h : Rd w 1 A n (strs' xs)) : xs.length = n := by
  have := h.1; simpa [strs'] using this
theorem Rd.str_at {w : World} {A : Option Addr} {n : Nat} {xs : List ByteArray} (h : Rd w 1 A n (strs' xs)) {k : Nat} (hk : k < n) :
    ∃ b o s, A = some ⟨b, o, none⟩ ∧ xs[k]? = some s ∧ w.cell? ⟨b, o + k, none⟩ = some (.string s) := by
  obtain ⟨b, o, e, hc⟩ := h.2 (by omega)
  have hl := h.slen
  have hk' : k < xs.length := by omega
  refine ⟨b, o, xs[k], e, List.getElem?_eq_getElem hk', ?_⟩
  rw [hc k (by omega)]
  simp [strs', hk']


/-- What the measure says: not negative only where there are few elements and all texts are short. -/
def SzStr (w : World) (n : Nat) (xs : List ByteArray) (e : Ending) (w' : World) : Prop :=
  ∃ r : Int, e = .returned (.int .i64 r) ∧ (0 ≤ r → n ≤ 1048576 ∧ ∀ s ∈ xs, s.size ≤ 1048576) ∧ ∃ q, w' = w.drewN q

def SzStrRel (w : World) (n : Nat) (xs : List ByteArray) (i v : Value) (wr : World) : Prop :=
  ∃ (k q : Nat) (r : Int), k ≤ n ∧ i = .int .i64 k ∧ v = .int .i64 r ∧ 0 ≤ r ∧ r ≤ 1048576 ∧ (∀ j s, j < k → xs[j]? = some s → s.size ≤ 1048576) ∧ wr = w.drewN q

theorem strs_small {xs : List ByteArray} {n : Nat} (hl : xs.length = n) (h : ∀ j s, j < n → xs[j]? = some s → s.size ≤ 1048576) : ∀ s ∈ xs, s.size ≤ 1048576 := by
  intro s hs
  obtain ⟨j, hj, rfl⟩ := List.getElem_of_mem hs
  exact h j _ (by omega) (List.getElem?_eq_getElem hj)
theorem strs_step {xs : List ByteArray} {k : Nat} {x : ByteArray} (hs : xs[k]? = some x) (hb : x.size ≤ 1048576) (h : ∀ j s, j < k → xs[j]? = some s → s.size ≤ 1048576) : ∀ j s, j < k + 1 → xs[j]? = some s → s.size ≤ 1048576 := by
  intro j s' hj hs'
  rcases Nat.lt_or_ge j k with h1 | h1
  · exact h j s' h1 hs'
  · obtain rfl : j = k := by omega
    rw [hs] at hs'
    injection hs' with hs'
    rw [← hs']; exact hb


theorem infoStr : (Tryd.prog.info? 9).map (fun i => (i.zero, i.size, i.bytes)) = some (some (.string ⟨#[]⟩), 1, 16) := by kernel_rfl
theorem elemStr : ElemT Tryd.prog 55 9 1 := ElemT.of Tryd.underlying55 infoStr rfl (by omega) (by omega)

end Go.Proofs.YtmnmdecbehfegaaDoor
