/-
  Contract of the function that writes marks into a list of placed texts.
-/
import Derived.Test.YtigcbnehcofbcaaMarkStr
import Derived.Test.YtigcbnehcofbcaaPlaced2
namespace Go.Proofs.Ytigcbnehcofbcaa
open Go.RowKit
set_option linter.unusedVariables false

def mPl (k : Nat) : Pl := ⟨(k : Int), (k : Int) + 1, mtx (k + 2)⟩
def pmarks (n : Nat) : List Pl := (List.range n).map fun j : Nat => mPl (1 + 3 * j)
theorem pmarks_length (n : Nat) : (pmarks n).length = n := by simp [pmarks]
theorem pmarks_set (i : Nat) (xs : List Pl) (hi : i < xs.length) : (pmarks i ++ xs.drop i).set i (mPl (1 + 3 * i)) = pmarks (i + 1) ++ xs.drop (i + 1) := by
  unfold pmarks
  rw [List.set_append_right _ _ (by simp)]
  have h1 : i - ((List.range i).map fun j : Nat => mPl (1 + 3 * j)).length = 0 := by simp
  rw [h1, List.drop_eq_getElem_cons hi, List.set_cons_zero, List.range_succ, List.map_append]
  simp
theorem pmarks_at (i : Nat) (xs : List Pl) (hi : i < xs.length) : ∃ x, (pmarks i ++ xs.drop i)[i]? = some x := by
  have hl : i < (pmarks i ++ xs.drop i).length := by simp [pmarks_length]; omega
  exact ⟨_, List.getElem?_eq_getElem hl⟩
theorem own_capP {w : World} {base : Nat} {E : TypeId} {size : Nat} {L : Option Addr} {n c : Nat} {xs : List Value} (h : w.ownsRow base E size (.slice L n c) n xs) (hn : 0 < n) :
    ∃ g, L = some ⟨g, 0, none⟩ ∧ base ≤ g ∧ g < w.heap.size ∧ n ≤ c ∧ c ≤ maxLen := by
  rcases h.2 with ⟨_, h1⟩ | ⟨g', cap, cur, hv, hg, hh, hn', hc, hz, hx⟩
  · omega
  · injection hv with h1 h2 h3
    subst h1; subst h3
    exact ⟨g', rfl, hg, (Array.getElem?_eq_some_iff.1 hh).1, hn', hc⟩

def MarkedP (w : World) (base : Nat) (v : Value) (n : Nat) (e : Ending) (w' : World) : Prop :=
  e = .returned (.int .i64 (1 + 3 * (n : Int))) ∧ w'.ownsRow base 36 3 v n (placeds (pmarks n)) ∧ w.grownBy w' v.ownBlock
def MarkRelP (w : World) (base : Nat) (v : Value) (n : Nat) (xs : List Pl) (s i : Value) (wr : World) : Prop :=
  ∃ j : Nat, j ≤ n ∧ s = .int .i64 ((1 + 3 * j : Nat) : Int) ∧ i = .int .i64 (j : Int) ∧ wr.ownsRow base 36 3 v n (placeds (pmarks j ++ xs.drop j)) ∧ w.grownBy wr v.ownBlock
set_option maxHeartbeats 8000000 in
theorem markPlacedS_1 (w : World) (base : Nat) (A : Option Addr) (n c : Nat) (xs : List Pl) (hx : w.ownsRow base 36 3 (.slice A n c) n (placeds xs)) (hn : n ≤ 1048576) :
    Calls Try.prog 24 #[.slice A n c, .int .i64 1] w (MarkedP w base (.slice A n c) n) := by
  have HL := Lib.hid (Rd.own hx).placed_len
  have HX := Lib.hid hx
  clear hx
  go_enter Try.func24, Try.ntmps24
  go_wp2_with fail
  go_loopw [1, 5] (MarkRelP w base (.slice A n c) n xs) (fun _ i _ => n - (intOf i).toNat)
  case atStart => exact ⟨0, Nat.zero_le _, rfl, rfl, by simpa [pmarks] using HX.out, gr_refl_own _ _⟩
  case round =>
    obtain ⟨j, hj, rfl, rfl, hown, hgr⟩ := hrel
    have HO := Lib.hid hown
    have HG := Lib.hid hgr
    clear hown hgr
    by_cases hlt : j < n
    case neg =>
      obtain rfl : j = n := by omega
      go_wp2_with fail
      go_ret
      refine ⟨ret_int (by omega), ?_, HG.out⟩
      have h := HO.out
      rw [List.drop_of_length_le (by rw [HL.out]; exact Nat.le_refl _), List.append_nil] at h
      exact h
    obtain ⟨g, rfl, hg, hgs, hnc, hc⟩ := own_capP HO.out (by omega)
    obtain ⟨x, hx⟩ := pmarks_at j xs (by rw [HL.out]; exact hlt)
    have HXJ := Lib.hid hx
    clear hx
    have hm3 : j * 3 + 3 ≤ n * 3 := by omega
    have d0 : wr.cell? ⟨g, j * 3, none⟩ = some (.int .i64 x.x) := by rw [HO.out.cellAt _ (by omega)]; exact flat_get Pl.cells 3 Pl.cells_length _ j 0 x HXJ.out (by omega)
    have f0 := HO.out.frozenAt (j * 3)
    have d1 : wr.cell? ⟨g, j * 3 + 1, none⟩ = some (.int .i64 x.y) := by rw [HO.out.cellAt _ (by omega)]; exact flat_get Pl.cells 3 Pl.cells_length _ j 1 x HXJ.out (by omega)
    have f1 := HO.out.frozenAt (j * 3 + 1)
    obtain ⟨K, hK⟩ : ∃ K : Nat, K = 1 + 3 * j := ⟨_, rfl⟩
    have hKb : K ≤ 4000000 := by omega
    have HSET := Lib.hid (pmarks_set j xs (by rw [HL.out]; exact hlt))
    rw [← hK] at HSET
    rw [← hK]
    have ST0 := Lib.hid ((HO.out.stored (j * 3) (.int .i64 (K : Int))).1.stored (j * 3 + 1) (.int .i64 ((K : Int) + 1))).1
    have SG0 := Lib.hid (gr_set_own (gr_set_own HG.out (j * 3) (.int .i64 (K : Int))) (j * 3 + 1) (.int .i64 ((K : Int) + 1)))
    obtain ⟨WB, hWB⟩ : ∃ WB, WB = (wr.setCell ⟨g, j * 3, none⟩ (.int .i64 (K : Int))).setCell ⟨g, j * 3 + 1, none⟩ (.int .i64 ((K : Int) + 1)) := ⟨_, rfl⟩
    have HM := Lib.hid (markText_any (K + 2) WB (by omega) (by omega))
    rw [← hWB] at ST0 SG0
    rw [show ((K + 2 : Nat) : Int) = (K : Int) + 1 + 1 from by omega] at HM
    have HK := Lib.hid hK
    have hj0 : (0 : Int) ≤ (j : Int) := by omega
    clear hK
    go_wp2_with fail
    rw [← hWB]
    refine HM.out.mono ?_
    rintro e w1 ⟨rfl, hb⟩
    have HO1 := Lib.hid (own_below ST0.out hb)
    have HG1 := Lib.hid (gr_below_own SG0.out hb)
    clear hb HM hWB d0 d1 f0 f1
    have hcell : ∃ u, w1.cell? ⟨g, j * 3 + 2, none⟩ = some (.string u) := by
      refine ⟨x.t, ?_⟩
      rw [HO1.out.cellAt _ (by omega), List.getElem?_set_ne (by omega), List.getElem?_set_ne (by omega)]
      exact flat_get Pl.cells 3 Pl.cells_length _ j 2 x HXJ.out (by omega)
    obtain ⟨u, hcell⟩ := hcell
    have hf := HO1.out.frozenAt (j * 3 + 2)
    have ST := Lib.hid (HO1.out.stored (j * 3 + 2) (.string (mtx (K + 2)))).1
    have SG := Lib.hid (gr_set_own HG1.out (j * 3 + 2) (.string (mtx (K + 2))))
    go_wp2_with fail
    go_roundw
    case rel =>
      refine ⟨j + 1, by omega, by have := HK.out; exact congrArg (Value.int .i64) (by omega), by go_num, ?_, SG.out⟩
      rw [← HSET.out]
      have h := ST.out
      have e3 := flat_set3 Pl.cells Pl.cells_length (pmarks j ++ xs.drop j) j (mPl K) (by rw [List.length_append, pmarks_length, List.length_drop, HL.out]; omega) (.int .i64 (K : Int)) (.int .i64 ((K : Int) + 1)) (.string (mtx (K + 2))) rfl
      unfold placeds at h ⊢
      rw [e3] at h
      exact h
    case measure => simp [intOf] <;> omega
end Go.Proofs.Ytigcbnehcofbcaa
