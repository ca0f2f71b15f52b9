/-
  Plain laws of sessions: an empty one, five commands before words, beginnings, failed commands.
-/
import Derived.Test.YtmljofijeladoaaGreatDoorSesRunI
namespace Go.Proofs.YtmljofijeladoaaGreatDoor
open Go.RowKit
set_option linter.unusedVariables false

def tHelp : List UInt8 := [104, 101, 108, 112]
theorem sess_nil : sess [] = [] := rfl
theorem itoa_zero : Lib.itoa 0 = [48] := by
  rw [Lib.itoa, if_neg (by decide), Lib.decDigits]
  rfl
theorem fill_zero : fillT st0.ws st0.wd = [] := rfl
theorem ends_zero : wEnds st0.ws st0.wd = [] := rfl
theorem cost_zero : costN st0 = 0 := rfl
theorem sess_five : sess [baL tCount, baL tFill, baL tEnds, baL tCost, baL tHelp] = [48, 10, 10, 48, 10, 119, 104, 97, 116, 10] := by
  have h0 : ((st0.ws.length : Nat) : Int) = 0 := rfl
  show srun st0 [baL tCount, baL tFill, baL tEnds, baL tCost, baL tHelp] = _
  rw [srun, step_count, srun, step_fill, srun, step_ends, srun, step_cost, srun, step_what (x := baL tHelp) (by decide) (by decide) (tx_ne (by decide)) (tx_ne (by decide)) (tx_ne (by decide)) (tx_ne (by decide)), srun]
  simp only [fill_zero, ends_zero, cost_zero, h0, app_toList, itoaB_list, itoa_zero]
  rfl
/-- What a beginning prints is a beginning. -/
theorem sess_take (l : List ByteArray) (k : Nat) : ∃ r, sess l = sess (l.take k) ++ r := by
  refine ⟨srun (send st0 ((l.take k).take 30)) ((l.take 30).drop (min 30 k)), ?_⟩
  have e : (l.take k).take 30 = (l.take 30).take (min 30 k) := by
    rw [List.take_take, List.take_take]
    congr 1; omega
  have h := srun_app st0 ((l.take 30).take (min 30 k)) ((l.take 30).drop (min 30 k))
  rw [List.take_append_drop] at h
  show srun st0 (l.take 30) = srun st0 ((l.take k).take 30) ++ _
  rw [e]
  exact h
theorem sess_thirty (l : List ByteArray) : sess (l.take 30) = sess l := by
  unfold sess
  rw [List.take_take, Nat.min_self]
def xW19 : ByteArray := ⟨#[119, 105, 100, 116, 104, 32, 49, 57]⟩
def xWA : ByteArray := ⟨#[119, 111, 114, 100, 115, 32, 65]⟩
theorem step_19 (st : St) : sstep st xW19 = (noT, st) := by
  rw [step_width (x := xW19) (by decide) (by decide), if_neg (by decide)]
theorem all_A : allB 32 (aft xWA) = [⟨#[65]⟩] := rfl
theorem step_A (st : St) : sstep st xWA = (noT, st) := by
  rw [step_words (x := xWA) (by decide), all_A, if_neg (by decide)]
theorem sess_app {l r : List ByteArray} (h : l.length + r.length ≤ 30) : sess (l ++ r) = sess l ++ srun (send st0 l) r := by
  unfold sess
  rw [List.take_of_length_le (by rw [List.length_append]; omega), List.take_of_length_le (by omega), srun_app]
theorem sess_fill {l : List ByteArray} (h : l.length + 3 ≤ 30) : sess (l ++ [baL tFill]) = sess l ++ srun (send st0 l) [baL tFill] := sess_app (by simp; omega)
theorem sess_fail {l : List ByteArray} (h : l.length + 3 ≤ 30) : sess (l ++ [xW19, xWA, baL tFill]) = sess l ++ ([110, 111, 10, 110, 111, 10] ++ srun (send st0 l) [baL tFill]) := by
  rw [sess_app (by simp; omega), srun, step_19, srun, step_A]
  rfl
theorem lit_rdS {W : World} {xs : List ByteArray} {cs : Array Value} {E : TypeId} {b m : Nat} (hcs : cs = (strs' xs).toArray) (hm : xs.length = m) (hb : W.heap[b]? = some (.cells cs E (0, 0))) : Rd W 1 (some ⟨b, 0, none⟩) m (strs' xs) := by
  subst hcs
  refine ⟨by simp [strs', hm], fun _ => ⟨b, 0, rfl, fun j hj => ?_⟩⟩
  rw [cell_of_row W b (0 + j) (strs' xs).toArray E (0, 0) hb]
  simp
end Go.Proofs.YtmljofijeladoaaGreatDoor
