/-
  Contract of the function that writes marks into a beginning of a row of texts.
-/
import Derived.Test.YtigcbnehcofbcaaDoorMarkStr
import Derived.Test.YtigcbnehcofbcaaDoorTrimPlain
namespace Go.Proofs.YtigcbnehcofbcaaDoor
open Go.RowKit
set_option linter.unusedVariables false

def MarkedP1 (w : World) (base : Nat) (v : Value) (N n : Nat) (ys : List ByteArray) (e : Ending) (w' : World) : Prop :=
  e = .returned (.int .i64 (1 + (n : Int))) ∧ w'.ownsRow base 9 1 v N (strs' (smarks 1 n ++ ys.drop n)) ∧ w.grownBy w' v.ownBlock
def MarkRelP1 (w : World) (base : Nat) (v : Value) (N n : Nat) (xs : List ByteArray) (s i : Value) (wr : World) : Prop :=
  ∃ j : Nat, j ≤ n ∧ s = .int .i64 ((1 + j : Nat) : Int) ∧ i = .int .i64 (j : Int) ∧ wr.ownsRow base 9 1 v N (strs' (smarks 1 j ++ xs.drop j)) ∧ w.grownBy wr v.ownBlock
set_option maxHeartbeats 2000000 in
theorem markPre_1 (w : World) (base : Nat) (A : Option Addr) (N C n c : Nat) (xs : List ByteArray) (hx : w.ownsRow base 9 1 (.slice A N C) N (strs' xs)) (hn : n ≤ N) (hN : n ≤ 1048576) :
    Calls Tryd.prog 14 #[.slice A n c, .int .i64 1] w (MarkedP1 w base (.slice A N C) N n xs) := by
  have HL := Lib.hid (Rd.own hx).slen
  have HX := Lib.hid hx
  clear hx
  go_enter Tryd.func14, Tryd.ntmps14
  go_wp2_with fail
  go_loopw [1, 5] (MarkRelP1 w base (.slice A N C) N n xs) (fun _ i _ => n - (intOf i).toNat)
  case atStart => exact ⟨0, Nat.zero_le _, rfl, rfl, by simpa [smarks] using HX.out, gr_refl_own _ _⟩
  case round =>
    obtain ⟨j, hj, rfl, rfl, hown, hgr⟩ := hrel
    have HO := Lib.hid hown
    have HG := Lib.hid hgr
    clear hown hgr
    by_cases hlt : j < n
    · obtain ⟨g, rfl, hg, hgs, hnc, hc⟩ := own_cap HO.out (by omega)
      have HM := Lib.hid (markText_any (1 + j) wr (by omega) (by omega))
      have hkj : ((1 + j : Nat) : Int) = 1 + (j : Int) := by omega
      rw [hkj] at HM
      have hkk : (0 : Int) ≤ 1 + (j : Int) := by omega
      clear hkj
      go_wp2_with fail
      refine HM.out.mono ?_
      rintro e w1 ⟨rfl, hb⟩
      have HO1 := Lib.hid (own_below HO.out hb)
      have HG1 := Lib.hid (gr_below_own HG.out hb)
      clear hb HM HO HG
      have hcell : ∃ u, w1.cell? ⟨g, j, none⟩ = some (.string u) := by
        have h := HO1.out.cellAt j (by omega)
        have hl : j < (smarks 1 j ++ xs.drop j).length := by simp [smarks_length]; have := HL.out; omega
        exact ⟨(smarks 1 j ++ xs.drop j)[j], by rw [h, strs', List.getElem?_map, List.getElem?_eq_getElem hl]; rfl⟩
      obtain ⟨u, hcell⟩ := hcell
      have hf := HO1.out.frozenAt j
      have ST := Lib.hid (HO1.out.stored j (.string (mtx (1 + j)))).1
      have SG := Lib.hid (gr_set_own HG1.out j (.string (mtx (1 + j))))
      clear HO1 HG1
      go_wp2_with fail
      go_roundw
      case rel =>
        refine ⟨j + 1, by omega, by rw [show ((1 + (j + 1) : Nat) : Int) = 1 + (j : Int) + 1 from by omega], by go_num, ?_, SG.out⟩
        rw [← strs_marks_set 1 j xs (by rw [HL.out]; omega)]
        exact ST.out
      case measure => simp [intOf] <;> omega
    · obtain rfl : j = n := by omega
      go_wp2_with fail
      go_ret
      exact ⟨ret_int (by omega), HO.out, HG.out⟩
theorem pre_marks (n : Nat) (ys : List ByteArray) : (smarks 1 n ++ ys.drop n).take n = smarks 1 n := by
  rw [List.take_append_of_le_length (by rw [smarks_length]; exact Nat.le_refl _)]
  exact List.take_of_length_le (by rw [smarks_length]; exact Nat.le_refl _)
end Go.Proofs.YtigcbnehcofbcaaDoor
