/-
  Contract of the reference's generator of the arguments of FillLine.
-/
import Derived.Test.YtagnfampdaeonaaDrawWords
namespace Go.Proofs.Ytagnfampdaeonaa
open Go.RowKit
set_option linter.unusedVariables false

set_option maxHeartbeats 2000000 in
theorem DrawFillLine_any (w : World) (a : Option Addr) (n c : Nat) (zs : List Int) (h : InBytes w a n c zs) :
    Calls Try.prog 35 #[.slice a n c] w (WordsW w) := by
  have HN := Lib.hid (newReader_any w a n c zs h)
  clear h
  go_enter Try.func35, Try.ntmps35
  go_wp2_with fail
  refine HN.out.mono ?_
  rintro e w1 ⟨A, rn, rc, bs, rfl, hR, hB⟩
  have R1 := Lib.hid hR
  have B1 := Lib.hid hB
  clear hR hB HN
  have hg1 : w.heap.size < w1.heap.size := R1.out.blk.lt
  go_wp2_with fail
  refine (someWords_any w1 _ _ A rn rc bs 0 R1.out (by omega)).mono ?_
  rintro e w2 ⟨L, m, d, xs, p2, rfl, hm, ho, hxs, hp2, hR, hG⟩
  have R2 := Lib.hid hR
  have O2 := Lib.hid ho
  have XS := Lib.hid hxs
  have B2 := Lib.hid (below_gr B1.out hG (Nat.le_refl _))
  have hmd := own_le O2.out
  clear hR ho hG hxs
  by_cases h4 : 4 < m
  case pos =>
    have h4' : (4 : Int) < (m : Int) := by omega
    have h4d : (4 : Int) ≤ (d : Int) := by omega
    go_wp2_with fail
    refine (textWidth_any w2 _ _ A rn rc bs p2 R2.out (by omega)).mono ?_
    rintro e w3 ⟨v, rfl, hv, hR, hG⟩
    have hv2 : 19 ≤ v ∧ v ≤ 61 := by simp at hv; omega
    have O3 := Lib.hid (own_gr O2.out hG hg1)
    have B3 := Lib.hid (below_gr B2.out hG (Nat.le_refl _))
    have R4 : Hid (Rd w3 1 L 4 (strs' (xs.take 4))) := by
      have h := (Rd.own O3.out).take (k := 4) (by omega)
      rw [Nat.mul_one] at h
      show Rd w3 1 L 4 (strs' (xs.take 4))
      simpa [strs', List.map_take] using h
    clear hR hG hv
    go_wp2_with fail
    go_ret2
    exact ⟨L, 4, d, xs.take 4, v, rfl, by omega, by omega, R4.out, fun s hs => XS.out s (List.mem_of_mem_take hs), hv2.1, hv2.2, B3.out⟩
  have h4' : ¬ (4 : Int) < (m : Int) := by omega
  go_wp2_with fail
  refine (textWidth_any w2 _ _ A rn rc bs p2 R2.out (by omega)).mono ?_
  rintro e w3 ⟨v, rfl, hv, hR, hG⟩
  have hv2 : 19 ≤ v ∧ v ≤ 61 := by simp at hv; omega
  have O3 := Lib.hid (own_gr O2.out hG hg1)
  have B3 := Lib.hid (below_gr B2.out hG (Nat.le_refl _))
  clear hR hG hv
  go_wp2_with fail
  go_ret2
  exact ⟨L, m, d, xs, v, rfl, hm, hmd, Rd.own O3.out, XS.out, hv2.1, hv2.2, B3.out⟩
end Go.Proofs.Ytagnfampdaeonaa
