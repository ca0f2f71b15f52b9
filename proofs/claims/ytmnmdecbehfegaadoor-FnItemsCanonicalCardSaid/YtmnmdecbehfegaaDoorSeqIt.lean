/-
  Contract of the library's iterator over the pieces of a text at a separator of two bytes, for every loop body that keeps the iterator's own cells.
-/
import Derived.RangeFuncKeeps
import Derived.RangeFuncLeaves
import Derived.RangeFuncCalls
import Derived.Shelf.Abstract
import Derived.WalkKit
import Derived.OwnWalkIn
import Derived.TacticsInMore
import Derived.LoopNIn
import Derived.LoopIn
import Derived.Test.YtmnmdecbehfegaaDoorShelf2
import Derived.Test.YtmnmdecbehfegaaDoorTxtDecI
namespace Go.Proofs.YtmnmdecbehfegaaDoor
open Go.RowKit Go.Shelf
set_option linter.unusedVariables false
attribute [local go_sem] Oper.semAt_some

def sepB : ByteArray := ⟨#[59, 32]⟩
/-- How much of the text is left, read off the world. -/
def restLen (bs : Nat) (W : World) : Nat := match W.cell? ⟨bs, 0, none⟩ with | some (.string v) => v.size | _ => 0
theorem restLen_of {bs : Nat} {W : World} {v : ByteArray} (h : W.cell? ⟨bs, 0, none⟩ = some (.string v)) : restLen bs W = v.size := by rw [restLen, h]

set_option maxHeartbeats 4000000 in
theorem splitSeq_it (l bs bp bv : Nat) (J : List ByteArray → ByteArray → World → Prop) (Jd Jx : World → Prop)
    (hC : ∀ pre v W, J pre v W → W.cell? ⟨bs, 0, none⟩ = some (.string v) ∧ W.frozen? ⟨bs, 0, none⟩ = false ∧ W.cell? ⟨bp, 0, none⟩ = some (.string ⟨#[59, 32]⟩) ∧ W.cell? ⟨bv, 0, none⟩ = some (.int .i64 0) ∧ ML W ∧ v.size ≤ 4000000000)
    (hY : ∀ pre v W (i : Nat), J pre v W → Lib.index v.data.toList [59, 32] = (i : Int) → i + 2 ≤ v.size → YieldAt Fence.wide 2 Tryd.prog l #[.string (v.extract 0 i)] W fun e W' =>
      (e = .returned (.bool true) ∧ W'.cell? ⟨bs, 0, none⟩ = some (.string v) ∧ W'.frozen? ⟨bs, 0, none⟩ = false ∧ W'.cell? ⟨bp, 0, none⟩ = some (.string ⟨#[59, 32]⟩) ∧ J (pre ++ [v.extract 0 i]) (v.extract (i + 2) v.size) (W'.setCell ⟨bs, 0, none⟩ (.string (v.extract (i + 2) v.size)))) ∨ (e = .returned (.bool false) ∧ Jx W'))
    (hL : ∀ pre v W, J pre v W → Lib.index v.data.toList [59, 32] = -1 → YieldAt Fence.wide 2 Tryd.prog l #[.string v] W fun e W' => (e = .returned (.bool true) ∧ Jd W') ∨ (e = .returned (.bool false) ∧ Jx W'))
    (hI : ∀ v : ByteArray, Lib.index v.data.toList [59, 32] = -1 ∨ ∃ i : Nat, Lib.index v.data.toList [59, 32] = (i : Int) ∧ i + 2 ≤ v.size)
    (s : ByteArray) (W : World) (h0 : J [] s W) :
    CallsIn Fence.wide 3 Tryd.prog 80 #[.func (.yield l) #[] #[], .pointer (some ⟨bp, 0, none⟩), .pointer (some ⟨bs, 0, none⟩), .pointer (some ⟨bv, 0, none⟩)] W fun e W' => (∃ v, e = .returned v) ∧ (Jd W' ∨ Jx W') := by
  obtain ⟨c0, c1, c2, c3, c4, c5⟩ := hC _ _ _ h0
  refine callsIn_of_wp Tryd.func80 rfl trivial ?_ rfl
  simp only [Tryd.ntmps80, List.size_toArray, List.length_cons, List.length_nil, Nat.reduceAdd, Nat.reduceSub, Array.replicate_succ, Array.replicate_zero, List.push_toArray, List.append_toArray, List.nil_append, List.cons_append]
  gi_wp2
  gi_loopw [7] (fun _ wr => ∃ pre v, J pre v wr) (fun _ wr => restLen bs wr)
  case atStart => exact ⟨[], s, h0⟩
  case round =>
    obtain ⟨pre, v, hj⟩ := hrel
    clear c0 c1 c2 c3 c4 c5 h0
    obtain ⟨c0, c1, c2, c3, ⟨mx, c4⟩, c5⟩ := hC _ _ _ hj
    have IX := Lib.hid (Tryd.strings_Index v ⟨#[59, 32]⟩ mx wr (by omega) c4)
    rcases hI v with hi | ⟨i, hi, hil⟩
    · obtain ⟨fn, tmps, assign, body, hy, hR⟩ := hL pre v wr hj hi
      rw [show Lib.index v.data.toList (⟨#[59, 32]⟩ : ByteArray).data.toList = -1 from hi] at IX
      clear hi
      gi_wp2_with (refine ⟨trivial, ?_⟩; gi_at_call 74; refine (callsIn_wide.2 IX.out).mono ?_; rintro e w' ⟨rfl, rfl⟩)
      refine hR.mono ?_
      rintro e W' (⟨rfl, hJ'⟩ | ⟨rfl, hJx'⟩)
      · gi_wp2
        go_end0
        exact ⟨⟨_, rfl⟩, .inl hJ'⟩
      · gi_wp2
        go_end0
        exact ⟨⟨_, rfl⟩, .inr hJx'⟩
    · obtain ⟨fn, tmps, assign, body, hy, hR⟩ := hY pre v wr i hj hi hil
      rw [show Lib.index v.data.toList (⟨#[59, 32]⟩ : ByteArray).data.toList = (i : Int) from hi] at IX
      clear hi
      have hi1 : (0 : Int) ≤ (i : Int) := by omega
      have hi2 : (i : Int) ≤ (v.size : Int) := by omega
      have hi3 : i ≤ v.size := by omega
      gi_wp2_with (refine ⟨trivial, ?_⟩; gi_at_call 74; refine (callsIn_wide.2 IX.out).mono ?_; rintro e w' ⟨rfl, rfl⟩)
      refine hR.mono ?_
      rintro e W' (⟨rfl, d0, d1, d2, hJ'⟩ | ⟨rfl, hJx'⟩)
      · have hm : restLen bs (W'.setCell ⟨bs, 0, none⟩ (.string (v.extract (i + 2) v.size))) < restLen bs w' := by
          rw [restLen_of (World.cell?_setCell_same _ _ _ d0), restLen_of c0, ByteArray.size_extract]
          omega
        gi_wp2
        exact ⟨⟨_, _, hJ'⟩, hm⟩
      · gi_wp2
        refine bodyPost_ret (results_none rfl _ _ _) rfl ?_
        exact ⟨⟨_, rfl⟩, .inr hJx'⟩
end Go.Proofs.YtmnmdecbehfegaaDoor
