/-
  Contract of the reference's DecodeItem.
-/
import Derived.Test.YtmljofijeladoaaDoorTxtParse
namespace Go.Proofs.YtmljofijeladoaaDoor
open Go.RowKit
set_option linter.unusedVariables false

theorem cutG_small (b : UInt8) : ∀ (s : List UInt8) (n : Nat) (cur p : List UInt8), p ∈ cutG b n cur s → p.length ≤ cur.length + s.length
  | [], n, cur, p, h => by
    simp only [cutG, List.mem_singleton] at h
    subst h; simp
  | c :: r, 0, cur, p, h => by
    simp only [cutG, List.mem_singleton] at h
    subst h; simp
  | c :: r, n + 1, cur, p, h => by
    rw [cutG] at h
    split at h
    · rcases List.mem_cons.1 h with h | h
      · subst h; omega
      · have := cutG_small b r n [] p h
        simp at this ⊢; omega
    · have := cutG_small b r (n + 1) (cur ++ [c]) p h
      simp at this ⊢; omega
theorem cutB_small {b : UInt8} {n : Nat} {s t : ByteArray} (h : t ∈ cutB b n s) : t.size ≤ s.size := by
  rw [cutB, List.mem_map] at h
  obtain ⟨p, hp, rfl⟩ := h
  have := cutG_small b _ n [] p hp
  simp at this
  exact this
theorem wordB_small {b : UInt8} {n : Nat} {s : ByteArray} (i : Nat) : (wordB (cutB b n s) i).size ≤ s.size := by
  rw [wordB]
  cases h : (cutB b n s)[i]? with
  | none => exact Nat.zero_le _
  | some t => exact cutB_small (List.mem_of_getElem? h)
theorem str_same {s t : ByteArray} (h : s = t) : (s.toList == t.toList) = true := by rw [h]; simp
theorem str_sameL {s : ByteArray} {l : List UInt8} (h : s = baL l) : (s.toList == l) = true := by rw [h, ByteArray.toList_eq]; simp [baL]
theorem str_otherL {s : ByteArray} {l : List UInt8} (h : ¬ s = baL l) : (s.toList == l) = false := by
  rw [beq_eq_false_iff_ne]
  intro e
  rw [ByteArray.toList_eq] at e
  exact h (baL_eq e)

def ItemIs (w : World) (x : It) (e : Ending) (w' : World) : Prop :=
  e = .returned (.agg #[.int .i64 x.k, .int .i64 x.w, .int .i64 x.st, .int .i64 x.sh, .int .i64 x.p, .bool x.f]) ∧ Below w.heap.size w w'
def ReadIs (w : World) (r : It × Bool) (e : Ending) (w' : World) : Prop :=
  e = .returned (.tuple #[.agg #[.int .i64 r.1.k, .int .i64 r.1.w, .int .i64 r.1.st, .int .i64 r.1.sh, .int .i64 r.1.p, .bool r.1.f], .bool r.2]) ∧ Below w.heap.size w w'

end Go.Proofs.YtmljofijeladoaaDoor
