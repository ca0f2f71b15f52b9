/-
  Contract of the reference's generator of words and a width, told by the width's own list.
-/
import Derived.Test.YtmljofijeladoaaDoorDrawWords
namespace Go.Proofs.YtmljofijeladoaaDoor
open Go.RowKit
set_option linter.unusedVariables false

/-- Words and a width out of the generator's list, in new memory. -/
def WordsT (w : World) (e : Ending) (w' : World) : Prop :=
  ∃ L m d xs wd, e = .returned (.tuple #[.slice L m d, .int .i64 wd]) ∧ m ≤ 11 ∧ m ≤ d ∧ Rd w' 1 L m (strs' xs) ∧ (∀ s ∈ xs, s.size ≤ 30) ∧ (wd = 20 ∨ wd = 21 ∨ wd = 25 ∨ wd = 30 ∨ wd = 60 ∨ wd = 19 ∨ wd = 61) ∧ Below w.heap.size w w'

set_option maxHeartbeats 1000000 in
theorem drawWT_any (w : World) (a : Option Addr) (n c : Nat) (zs : List Int) (h : InBytes w a n c zs) :
    Calls Tryd.prog 15 #[.slice a n c] w (WordsT w) := by
  have HN := Lib.hid (newReader_any w a n c zs h)
  clear h
  go_enter Tryd.func15, Tryd.ntmps15
  go_wp2_with fail
  refine HN.out.mono ?_
  rintro e w1 ⟨A, rn, rc, bs, rfl, hR, hB⟩
  have R1 := Lib.hid hR
  have B1 := Lib.hid hB
  clear hR hB HN
  have hg1 : w.heap.size < w1.heap.size := R1.out.blk.lt
  go_wp2_with fail
  refine (someWords_any w1 _ _ A rn rc bs 0 R1.out (by omega)).mono ?_
  rintro e w2 ⟨L, m, d, xs, p2, rfl, hm, ho, hxs, hp2, hR, hG⟩
  have R2 := Lib.hid hR
  have O2 := Lib.hid ho
  have XS := Lib.hid hxs
  have B2 := Lib.hid (below_gr B1.out hG (Nat.le_refl _))
  clear hR ho hG hxs
  go_wp2_with fail
  refine (textWidth_any w2 _ _ A rn rc bs p2 R2.out (by omega)).mono ?_
  rintro e w3 ⟨v, rfl, hv, hR, hG⟩
  have hv2 : Hid (v = 20 ∨ v = 21 ∨ v = 25 ∨ v = 30 ∨ v = 60 ∨ v = 19 ∨ v = 61) := by simp at hv; show _ ∨ _; omega
  have O3 := Lib.hid (own_gr O2.out hG hg1)
  have B3 := Lib.hid (below_gr B2.out hG (Nat.le_refl _))
  have hmd := own_le O2.out
  clear hR hG hv
  go_wp2_with fail
  go_ret2
  exact ⟨L, m, d, xs, v, rfl, hm, hmd, Rd.own O3.out, XS.out, hv2.out, B3.out⟩
theorem drawFT_any (w : World) (a : Option Addr) (n c : Nat) (zs : List Int) (h : InBytes w a n c zs) :
    Calls Tryd.prog 5 #[.slice a n c] w (WordsT w) := by
  have HN := Lib.hid (drawWT_any w a n c zs h)
  clear h
  go_enter Tryd.func5, Tryd.ntmps5
  go_wp2_with fail
  refine HN.out.mono ?_
  rintro e w1 ⟨L, m, d, xs, wd, rfl, hm, hmd, hr, hxs, hwd, hb⟩
  have H : Hid (WordsT w (.returned (.tuple #[.slice L m d, .int .i64 wd])) w1) := ⟨L, m, d, xs, wd, rfl, hm, hmd, hr, hxs, hwd, hb⟩
  clear hm hmd hr hxs hwd hb HN
  go_wp2_with fail
  go_ret2
  exact H.out
end Go.Proofs.YtmljofijeladoaaDoor
