/-
  Contract of slices.Concat of lists of this kind: a new list of all their elements.
-/
import Derived.Test.YtdgmienljhaipaaInts
import Derived.Lib.AppendZerosOnto
namespace Go.Proofs.Ytdgmienljhaipaa
open Go.RowKit
set_option linter.unusedVariables false

set_option maxHeartbeats 2000000 in
theorem growInt_nil (n : Nat) (hn : n ≤ 1000000) (w : World) :
    Calls Try.prog 33 #[.slice none 0 0, .int .i64 (n : Int)] w fun e w' => ∃ v, e = .returned v ∧ w'.ownsRow w.heap.size 3 1 v 0 [] ∧ Below w.heap.size w w' := by
  by_cases h0 : n = 0
  · subst h0
    go_enter Try.func33, Try.ntmps33
    go_wp2
    go_ret
    exact ⟨_, rfl, World.ownsRow_nil _ _ _ _, Below.refl _ _⟩
  obtain ⟨i0, hi, hz0, hz1, hz2⟩ := info_parts infoInt
  have hold : (Builtin.firstCells i0.size 0 (.slice none 0 0)).run Try.prog w.drew = .ok ([] : List Value).toArray w.drew := run_firstCells_none _ _ _ _ _
  have hbn : n * i0.bytes ≤ 1000000 * 8 := by rw [hz2]; exact Nat.mul_le_mul_right _ hn
  obtain ⟨G, hG⟩ : ∃ G, G = grownCap w n 0 3 := ⟨_, rfl⟩
  have hrz : ∀ ty, (Builtin.append_ #[22, 3] ty #[.slice none 0 0, .int .i64 (n : Int)]).run Try.prog w =
      .ok (.slice (some ⟨w.heap.size, 0, none⟩) n G) (w.drew.alloc (.cells (Builtin.zeroCells (Value.cells (.int .i64 0)) n ++ Builtin.zeroCells (Value.cells (.int .i64 0)) (G - n)) 3)) := fun ty => by
    have h := Lib.run_append_grow_zeros w 22 3 ty 3 i0 _ .i64 .i64 Try.underlying22 Try.underlying3 hi hz0 none 0 0 [] hold n (by omega) (by omega) (by omega) (by omega) (by omega)
      (growslice_fits (by omega) (by rw [Nat.zero_add]; omega))
    rw [Nat.zero_add, ← hG] at h
    simpa using h
  have hGn : n ≤ G := by rw [hG]; exact grownCap_ge w _ _ _
  have hGm : G ≤ maxLen := by rw [hG]; exact grownCap_le_maxLen w n 0 _ (by unfold maxLen; omega)
  have hG63 : G ≤ 9223372036854775807 := by unfold maxLen at hGm; omega
  have HGm := Lib.hid hGm
  have hn0 : (0 : Int) < (n : Int) := by omega
  clear hold hbn hG hGm
  go_enter Try.func33, Try.ntmps33
  go_wp2_with (first | (at_builtin; refine Lib.wpList_append_run _ rfl _ _ _ _ rfl _ _ rfl rfl _ _ (hrz _) ?_))
  go_ret
  refine ⟨_, rfl, ?_, ((Below.refl w.heap.size w).drew.alloc (Nat.le_refl _) _)⟩
  refine World.ownsRow_made w.drew _ G (Nat.le_refl _) HGm.out ?_
  have hzc : (Value.cells (.int .i64 0)).size = 1 := rfl
  simp [Builtin.zeroCells, hzc]
  omega

/-- A part of what is put together: a slice and what it reads as. -/
structure PartInt where
  A : Option Addr
  n : Nat
  c : Nat
  xs : List Value
def PartInt.val (p : PartInt) : Value := .slice p.A p.n p.c
def cntInt (ps : List PartInt) : Nat := (ps.map PartInt.n).sum
def allInt (ps : List PartInt) : List Value := ps.flatMap PartInt.xs
theorem cntInt_step {ps : List PartInt} {k : Nat} {p : PartInt} (h : ps[k]? = some p) : cntInt (ps.take (k + 1)) = cntInt (ps.take k) + p.n ∧ allInt (ps.take (k + 1)) = allInt (ps.take k) ++ p.xs := by
  unfold cntInt allInt
  rw [List.take_add_one, h]
  simp
theorem cntInt_le (ps : List PartInt) (k : Nat) : cntInt (ps.take k) ≤ cntInt ps := by
  unfold cntInt
  conv => rhs; rw [← List.take_append_drop k ps, List.map_append, List.sum_append]
  omega

def CatRel1Int (ps : List PartInt) (m : Nat) (s i : Value) : Prop := ∃ k : Nat, k ≤ m ∧ i = .int .i64 (k : Int) ∧ s = .int .i64 ((cntInt (ps.take k) : Nat) : Int)
def CatRel2Int (w : World) (ps : List PartInt) (m : Nat) (v i : Value) (wr : World) : Prop :=
  ∃ k : Nat, k ≤ m ∧ i = .int .i64 (k : Int) ∧ wr.ownsRow w.heap.size 3 1 v (cntInt (ps.take k)) (allInt (ps.take k)) ∧ Below w.heap.size w wr

set_option maxHeartbeats 4000000 in
theorem concatInt_any (w : World) (b o m c : Nat) (ps : List PartInt) (hl : ps.length = m) (hB : ∀ k p, ps[k]? = some p → w.cell? ⟨b, o + k, none⟩ = some p.val)
    (hp : ∀ p ∈ ps, Rd w 1 p.A p.n p.xs ∧ ∀ u ∈ p.xs, u.oneCell' = true) (hs : cntInt ps ≤ 100000) (hm : m ≤ 100) :
    Calls Try.prog 27 #[.slice (some ⟨b, o, none⟩) m c] w fun e w' => ∃ v, e = .returned v ∧ w'.ownsRow w.heap.size 3 1 v (cntInt ps) (allInt ps) ∧ Below w.heap.size w w' := by
  have HB := Lib.hid hB
  have HP := Lib.hid hp
  have HL := Lib.hid hl
  clear hB hp hl
  go_enter Try.func27, Try.ntmps27
  go_wp2_with fail
  go_loop [3, 11] (CatRel1Int ps m) (fun _ i => m - (intOf i).toNat)
  case atStart => exact ⟨0, Nat.zero_le _, rfl, by simp [cntInt]⟩
  case round =>
    obtain ⟨k, hk, rfl, rfl⟩ := hrel
    obtain ⟨S, hS⟩ : ∃ S, S = cntInt (ps.take k) := ⟨_, rfl⟩
    have hSb : S ≤ 100000 := by rw [hS]; exact Nat.le_trans (cntInt_le ps k) hs
    rw [← hS]
    by_cases hlt : k < m
    · have hpk : ∃ p, ps[k]? = some p := ⟨ps[k]'(by rw [HL.out]; exact hlt), List.getElem?_eq_getElem _⟩
      obtain ⟨p, hpk⟩ := hpk
      have hc := HB.out k p hpk
      obtain ⟨pA, pn, pc, pxs⟩ := p
      have hst := (cntInt_step hpk).1
      rw [← hS] at hst
      have hb2 := Nat.le_trans (cntInt_le ps (k + 1)) hs
      rw [hst] at hb2
      have hb3 : S + pn ≤ 100000 := hb2
      have hc' : w.cell? ⟨b, o + k, none⟩ = some (.slice pA pn pc) := hc
      have HST : Hid (cntInt (ps.take (k + 1)) = S + pn) := hst
      clear hS hpk hst hb2 hc
      go_wp2_with fail
      go_round
      case rel => exact ⟨k + 1, by omega, by go_num, by rw [HST.out]; go_num⟩
      case measure => simp [intOf] <;> omega
    · obtain rfl : k = m := by omega
      have hSe : S = cntInt ps := by rw [hS, List.take_of_length_le (by rw [HL.out]; exact Nat.le_refl _)]
      have HSE := Lib.hid hSe
      clear hSe hS
      have HG := Lib.hid (growInt_nil S (by omega) w)
      go_wp2_with fail
      refine HG.out.mono ?_
      rintro e w1 ⟨v1, rfl, ho, hb1⟩
      have O1 := Lib.hid ho
      have B1 := Lib.hid hb1
      clear ho hb1 HG
      go_wp2_with fail
      go_loopw [6, 27] (CatRel2Int w ps k) (fun _ i _ => k - (intOf i).toNat)
      case atStart => exact ⟨0, Nat.zero_le _, rfl, by simpa [cntInt, allInt] using O1.out, B1.out⟩
      case round =>
        obtain ⟨j, hj, rfl, hown, hbel⟩ := hrel
        have O2 := Lib.hid hown
        have B2 := Lib.hid hbel
        clear hown hbel O1 B1
        by_cases hlt2 : j < k
        · have hpk : ∃ p, ps[j]? = some p := ⟨ps[j]'(by rw [HL.out]; exact hlt2), List.getElem?_eq_getElem _⟩
          obtain ⟨p, hpk⟩ := hpk
          have hc := cell_below B2.out (HB.out j p hpk)
          have hpp := HP.out p (List.mem_of_getElem? hpk)
          obtain ⟨pA, pn, pc, pxs⟩ := p
          have hst := cntInt_step hpk
          have hb2 := Nat.le_trans (cntInt_le ps (j + 1)) hs
          rw [hst.1] at hb2
          have HST := Lib.hid hst
          have hc' : wr.cell? ⟨b, o + j, none⟩ = some (.slice pA pn pc) := hc
          have HPP : Hid (Rd wr 1 pA pn pxs ∧ ∀ u ∈ pxs, u.oneCell' = true) := ⟨hpp.1.below B2.out, hpp.2⟩
          have hb3 : cntInt (ps.take j) + pn ≤ 1000000 := by have : cntInt (ps.take j) + pn ≤ 100000 := hb2; omega
          have HB3 := Lib.hid hb3
          have hsz := B2.out.size
          clear hpk hst hb2 hc hpp hb3
          go_wp2_with (first
            | (at_builtin
               refine app_rd elemInt rfl (.tmp 31) (.tmp 32) rfl O2.out _ HPP.out.1 rfl rfl HPP.out.2 HB3.out hsz ?_
               intro v3 w3 ho hg
               have O3 := Lib.hid ho
               have B3 := Lib.hid (below_app B2.out hg O2.out (Nat.le_refl _))
               clear ho hg))
          go_roundw
          case rel => exact ⟨j + 1, by omega, by go_num, by rw [HST.out.1, HST.out.2]; exact O3.out, B3.out⟩
          case measure => simp [intOf] <;> omega
        · obtain rfl : j = k := by omega
          go_wp2_with fail
          go_ret
          refine ⟨_, rfl, ?_, B2.out⟩
          have h := O2.out
          rw [List.take_of_length_le (by rw [HL.out]; exact Nat.le_refl _)] at h
          exact h
end Go.Proofs.Ytdgmienljhaipaa
