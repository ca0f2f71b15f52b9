/-
  Contracts of the functions that write marks into a slice and ask for them again (integers).
-/
import Derived.Test.YtdgmienljhaipaaDoorInts
namespace Go.Proofs.YtdgmienljhaipaaDoor
open Go.RowKit
set_option linter.unusedVariables false

theorem own_cap {w : World} {base : Nat} {E : TypeId} {size : Nat} {L : Option Addr} {n c : Nat} {xs : List Value} (h : w.ownsRow base E size (.slice L n c) n xs) (hn : 0 < n) :
    ∃ g, L = some ⟨g, 0, none⟩ ∧ base ≤ g ∧ g < w.heap.size ∧ n ≤ c ∧ c ≤ maxLen := by
  rcases h.2 with ⟨_, h1⟩ | ⟨g', cap, cur, hv, hg, hh, hn', hc, hz, hx⟩
  · omega
  · injection hv with h1 h2 h3
    subst h1; subst h3
    exact ⟨g', rfl, hg, (Array.getElem?_eq_some_iff.1 hh).1, hn', hc⟩

/-- Behind a call that has written to one row alone, another row, of a block of its own, is as it was. -/
theorem own_apart {w w' : World} {base base' : Nat} {E E' : TypeId} {size size' : Nat} {v v' : Value} {n n' : Nat} {xs xs' : List Value} (h : w.ownsRow base E size v n xs) (h' : w.ownsRow base' E' size' v' n' xs')
    (hg : w.grownBy w' v'.ownBlock) (hne : ∀ k, v.ownBlock = some k → v'.ownBlock = some k → False) : w'.ownsRow base E size v n xs := by
  refine h.kept hg ?_
  cases hb : v.ownBlock with
  | none => exact .inl rfl
  | some k => exact .inr (fun e => hne k hb e.symm)

theorem marks_set (a k i : Nat) (xs : List Int) (hi : i < xs.length) :
    (((List.range i).map fun j => ((k + j : Nat) : Int)) ++ xs.drop i).set i ((k + i : Nat) : Int) = ((List.range (i + 1)).map fun j => ((k + j : Nat) : Int)) ++ xs.drop (i + 1) := by
  rw [List.set_append_right _ _ (by simp)]
  have h1 : i - ((List.range i).map fun j => ((k + j : Nat) : Int)).length = 0 := by simp
  rw [h1, List.drop_eq_getElem_cons hi, List.set_cons_zero, List.range_succ, List.map_append]
  simp

/-- The numbers from k on. -/
def marks (k n : Nat) : List Int := (List.range n).map fun j => ((k + j : Nat) : Int)
theorem marks_length (k n : Nat) : (marks k n).length = n := by simp [marks]
theorem marks_get (k n j : Nat) (h : j < n) : (marks k n)[j]? = some ((k + j : Nat) : Int) := by simp [marks, h]
theorem ints_marks_set (k i : Nat) (xs : List Int) (hi : i < xs.length) : (ints (marks k i ++ xs.drop i)).set i (.int .i64 ((k + i : Nat) : Int)) = ints (marks k (i + 1) ++ xs.drop (i + 1)) := by
  unfold ints marks; rw [← marks_set 0 k i xs hi, List.map_set]

theorem gr_refl_own (w : World) (v : Value) : w.grownBy w v.ownBlock := World.grownBy.refl _ _
theorem gr_set_own {w wr : World} {g : Nat} {n c : Nat} (h : w.grownBy wr (Value.slice (some ⟨g, 0, none⟩) n c).ownBlock) (i : Nat) (u : Value) : w.grownBy (wr.setCell ⟨g, i, none⟩ u) (Value.slice (some ⟨g, 0, none⟩) n c).ownBlock :=
  ⟨h.os, h.tape, h.output, by simpa [World.setCell] using h.size, fun k hk hne => (Below.heap_setCell _ _ _ _ (fun e => hne (by simp [Value.ownBlock, e]))).trans (h.block k hk hne)⟩

/-- What the writing of marks leaves: the row holds them, and nothing else has changed. -/
def Marked (w : World) (base : Nat) (v : Value) (n k : Nat) (e : Ending) (w' : World) : Prop :=
  e = .returned (.int .i64 ((k + n : Nat) : Int)) ∧ w'.ownsRow base 3 1 v n (ints (marks k n)) ∧ w.grownBy w' v.ownBlock

def MarkRel (w : World) (base : Nat) (v : Value) (n k : Nat) (xs : List Int) (s i : Value) (wr : World) : Prop :=
  ∃ j : Nat, j ≤ n ∧ s = .int .i64 ((k + j : Nat) : Int) ∧ i = .int .i64 (j : Int) ∧ wr.ownsRow base 3 1 v n (ints (marks k j ++ xs.drop j)) ∧ w.grownBy wr v.ownBlock

set_option maxHeartbeats 2000000 in
theorem markIntS_any (w : World) (base : Nat) (A : Option Addr) (n c k : Nat) (xs : List Int) (hx : w.ownsRow base 3 1 (.slice A n c) n (ints xs)) (hn : n ≤ 2097152) (hk : k ≤ 10000000) :
    Calls Tryd.prog 21 #[.slice A n c, .int .i64 (k : Int)] w (Marked w base (.slice A n c) n k) := by
  have HL := Lib.hid (Rd.own hx).len
  have HX := Lib.hid hx
  clear hx
  go_enter Tryd.func21, Tryd.ntmps21
  go_wp2_with fail
  go_loopw [1, 5] (MarkRel w base (.slice A n c) n k xs) (fun _ i _ => n - (intOf i).toNat)
  case atStart => exact ⟨0, Nat.zero_le _, rfl, rfl, by simpa [marks] using HX.out, gr_refl_own _ _⟩
  case round =>
    obtain ⟨j, hj, rfl, rfl, hown, hgr⟩ := hrel
    have HO := Lib.hid hown
    have HG := Lib.hid hgr
    clear hown hgr
    by_cases hlt : j < n
    · obtain ⟨g, rfl, hg, hgs, hnc, hc⟩ := own_cap HO.out (by omega)
      have hcell : ∃ u, wr.cell? ⟨g, j, none⟩ = some (.int .i64 u) := by
        have h := HO.out.cellAt j (by omega)
        have hl : j < (marks k j ++ xs.drop j).length := by simp [marks_length]; have := HL.out; omega
        exact ⟨(marks k j ++ xs.drop j)[j], by rw [h, ints, List.getElem?_map, List.getElem?_eq_getElem hl]; rfl⟩
      obtain ⟨u, hcell⟩ := hcell
      have hf := HO.out.frozenAt j
      have ST := Lib.hid (HO.out.stored j (.int .i64 ((k + j : Nat) : Int))).1
      have SG := Lib.hid (gr_set_own HG.out j (.int .i64 ((k + j : Nat) : Int)))
      clear HO HG
      have e1 : ((k + j : Nat) : Int) = (k : Int) + (j : Int) := by omega
      have hk0 : (0 : Int) ≤ (k : Int) + (j : Int) := by omega
      rw [e1] at ST SG
      clear e1
      go_wp2_with fail
      go_roundw
      case rel =>
        refine ⟨j + 1, by omega, ?_, by go_num, ?_, ?_⟩
        · rw [show ((k + (j + 1) : Nat) : Int) = (k : Int) + (j : Int) + 1 from by omega]
        · rw [← ints_marks_set k j xs (by rw [HL.out]; exact hlt)]
          have h := ST.out
          rw [show ((k + j : Nat) : Int) = (k : Int) + (j : Int) from by omega]
          exact h
        · exact SG.out
      case measure => simp [intOf] <;> omega
    · obtain rfl : j = n := by omega
      go_wp2_with fail
      go_ret
      refine ⟨ret_int (by omega), ?_, HG.out⟩
      have h := HO.out
      rw [List.drop_of_length_le (by rw [HL.out]; exact Nat.le_refl _), List.append_nil] at h
      exact h


/-- The same from 1 on. -/
def Marked1 (w : World) (base : Nat) (v : Value) (n : Nat) (e : Ending) (w' : World) : Prop :=
  e = .returned (.int .i64 (1 + (n : Int))) ∧ w'.ownsRow base 3 1 v n (ints (marks 1 n)) ∧ w.grownBy w' v.ownBlock
theorem markIntS_1 (w : World) (base : Nat) (A : Option Addr) (n c : Nat) (xs : List Int) (hx : w.ownsRow base 3 1 (.slice A n c) n (ints xs)) (hn : n ≤ 2097152) :
    Calls Tryd.prog 21 #[.slice A n c, .int .i64 1] w (Marked1 w base (.slice A n c) n) :=
  (markIntS_any w base A n c 1 xs hx hn (by omega)).mono fun e w' ⟨h1, h2, h3⟩ => ⟨h1.trans (ret_int (by omega)), h2, h3⟩
end Go.Proofs.YtdgmienljhaipaaDoor
