/-
  Contract of the generator of the arguments of ReplaceItems.
-/
import Derived.Test.YtjkmjgjpkneckaaDrawItems2
namespace Go.Proofs.Ytjkmjgjpkneckaa
open Go.RowKit
set_option linter.unusedVariables false

def ReplArgs (w : World) (e : Ending) (w' : World) : Prop :=
  ∃ L m d xs f t L' m' d' ys, e = .returned (.tuple #[.slice L m d, .int .i64 f, .int .i64 t, .slice L' m' d']) ∧ m ≤ 23 ∧ m' ≤ 23 ∧ m ≤ d ∧ m' ≤ d' ∧ Rd w' 6 L m (items xs) ∧ Rd w' 6 L' m' (items ys) ∧ -100 ≤ f ∧ f ≤ 100 ∧ -100 ≤ t ∧ t ≤ 100 ∧ Below w.heap.size w w'

set_option maxHeartbeats 4000000 in
theorem DrawReplaceItems_any (w : World) (a : Option Addr) (n c : Nat) (zs : List Int) (h : InBytes w a n c zs) :
    Calls Try.prog 26 #[.slice a n c] w (ReplArgs w) := by
  have HN := Lib.hid (newReader_any w a n c zs h)
  clear h
  go_enter Try.func26, Try.ntmps26
  go_wp2_with fail
  refine HN.out.mono ?_
  rintro e w1 ⟨A, rn, rc, bs, rfl, hR, hB⟩
  have R1 := Lib.hid hR
  have B1 := Lib.hid hB
  clear hR hB HN
  have hg1 : w.heap.size < w1.heap.size := R1.out.blk.lt
  go_wp2_with fail
  refine (anyItems_any w1 _ _ A rn rc bs 0 R1.out (by omega)).mono ?_
  rintro e w2 ⟨L, m, d, xs, p2, rfl, _, hm, ho, hp2, hR, hG⟩
  have R2 := Lib.hid hR
  have O2 := Lib.hid ho
  have B2 := Lib.hid (below_gr B1.out hG (Nat.le_refl _))
  have hs2 : w1.heap.size ≤ w2.heap.size := hG.size
  clear hR ho hG
  go_wp2_with fail
  refine (randomItems_any w2 _ _ A rn rc bs p2 R2.out (by omega)).mono ?_
  rintro e w3 ⟨L', m', d', ys, p3, rfl, hm1', hm', ho, hp3, hR, hG⟩
  have R3 := Lib.hid hR
  have O3 := Lib.hid ho
  have O3a := Lib.hid (own_gr O2.out hG hg1)
  have B3 := Lib.hid (below_gr B2.out hG (Nat.le_refl _))
  have hs3 : w2.heap.size ≤ w3.heap.size := hG.size
  clear hR ho hG
  go_wp2_with fail
  refine (pick_gr _ _ _ A rn rc bs p3 (m' : Int) R3.out (by omega) (by omega)).mono ?_
  rintro e w4 ⟨v4, rfl, hv40, hv41, _, hR, hG⟩
  have hv4 := hv41 (by omega)
  obtain ⟨k, rfl⟩ := Int.eq_ofNat_of_zero_le hv40
  have R4 := Lib.hid hR
  obtain ⟨gl, rfl, _, hmd', hdm⟩ := own_addr O3.out (by omega)
  have O4 := Lib.hid (own_take (own_gr O3.out hG (by omega)) (k := k) (by omega))
  have O4a := Lib.hid (own_gr O3a.out hG hg1)
  have B4 := Lib.hid (below_gr B3.out hG (Nat.le_refl _))
  clear hR hG hv41
  have hkd : (k : Int) ≤ (d' : Int) := by omega
  go_wp2_with fail
  refine (pick_gr _ _ _ A rn rc bs (p3 + 1) ((m : Int) + 1) R4.out (by omega) (by omega)).mono ?_
  rintro e w5 ⟨v5, rfl, hv50, hv51, _, hR, hG⟩
  have hv5 := hv51 (by omega)
  have R5 := Lib.hid hR
  have O5 := Lib.hid (own_gr O4.out hG (by omega))
  have O5a := Lib.hid (own_gr O4a.out hG hg1)
  have B5 := Lib.hid (below_gr B4.out hG (Nat.le_refl _))
  clear hR hG hv51
  go_wp2_with fail
  refine (pick_gr _ _ _ A rn rc bs (p3 + 2) 2 R5.out (by omega) (by omega)).mono ?_
  rintro e w6 ⟨v6, rfl, hv60, hv61, _, hR, hG⟩
  have hv6 := hv61 (by omega)
  have R6 := Lib.hid hR
  have O6 := Lib.hid (own_gr O5.out hG (by omega))
  have O6a := Lib.hid (own_gr O5a.out hG hg1)
  have B6 := Lib.hid (below_gr B5.out hG (Nat.le_refl _))
  clear hR hG hv61
  go_wp2_with fail
  refine (pick_gr _ _ _ A rn rc bs (p3 + 3) 4 R6.out (by omega) (by omega)).mono ?_
  rintro e w7 ⟨v7, rfl, hv70, hv71, _, hR, hG⟩
  have hv7 := hv71 (by omega)
  have R7 := Lib.hid hR
  have O7 := Lib.hid (own_gr O6.out hG (by omega))
  have O7a := Lib.hid (own_gr O6a.out hG hg1)
  have B7 := Lib.hid (below_gr B6.out hG (Nat.le_refl _))
  clear hR hG hv71
  go_wp2_with fail
  refine (pick_gr _ _ _ A rn rc bs (p3 + 4) 2 R7.out (by omega) (by omega)).mono ?_
  rintro e w8 ⟨v8, rfl, hv80, hv81, _, hR, hG⟩
  have hv8 := hv81 (by omega)
  have O8 := Lib.hid (own_gr O7.out hG (by omega))
  have O8a := Lib.hid (own_gr O7a.out hG hg1)
  have B8 := Lib.hid (below_gr B7.out hG (Nat.le_refl _))
  have hmd := own_slice0 O8a.out
  clear hR hG hv81
  go_wp2_with fail
  refine bodyPost_ret (v := .tuple #[.slice L m d, .int .i64 (v5 - v6), .int .i64 (v5 - v6 + v7 - v8), .slice (some ⟨gl, 0, none⟩) k d']) (by simp [results, Try.results26, go_sem]) rfl ?_
  refine ⟨L, m, d, xs, v5 - v6, v5 - v6 + v7 - v8, some ⟨gl, 0, none⟩, k, d', ys.take k, rfl, hm, by omega, hmd, by omega, Rd.own O8a.out, ?_, by omega, by omega, by omega, by omega, B8.out⟩
  have h := Rd.own O8.out
  rw [items, flat_take It.cells 6 It.cells_length] at h
  exact h
end Go.Proofs.Ytjkmjgjpkneckaa
