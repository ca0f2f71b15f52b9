/-
  Contract of the generator of the arguments of WrapCost.
-/
import Derived.Test.YtagnfampdaeonaaDrawWords
import Derived.Test.YtagnfampdaeonaaWrapWords
import Derived.StillTailTactics
namespace Go.Proofs.Ytagnfampdaeonaa
open Go.RowKit
set_option linter.unusedVariables false

/-- Words, a width and ends, in new memory. -/
def WordsC (w : World) (e : Ending) (w' : World) : Prop :=
  ∃ L m d xs wd L' m' d' es, e = .returned (.tuple #[.slice L m d, .int .i64 wd, .slice L' m' d']) ∧ m ≤ 11 ∧ m ≤ d ∧ m' ≤ 40 ∧ Rd w' 1 L m (strs' xs) ∧ (∀ s ∈ xs, s.size ≤ 30) ∧ 19 ≤ wd ∧ wd ≤ 61 ∧ Rd w' 1 L' m' (ints es) ∧ Below w.heap.size w w'

set_option maxHeartbeats 2000000 in
theorem DrawWrapCost_any (w : World) (a : Option Addr) (n c : Nat) (zs : List Int) (h : InBytes w a n c zs) :
    Calls Try.prog 32 #[.slice a n c] w (WordsC w) := by
  have HN := Lib.hid (newReader_any w a n c zs h)
  clear h
  go_enter Try.func32, Try.ntmps32
  go_wp2_with fail
  refine HN.out.mono ?_
  rintro e w1 ⟨A, rn, rc, bs, rfl, hR, hB⟩
  have R1 := Lib.hid hR
  have B1 := Lib.hid hB
  clear hR hB HN
  have hg1 : w.heap.size < w1.heap.size := R1.out.blk.lt
  go_wp2_with fail
  refine (someWords_any w1 _ _ A rn rc bs 0 R1.out (by omega)).mono ?_
  rintro e w2 ⟨L, m, d, xs, p2, rfl, hm, ho, hxs, hp2, hR, hG⟩
  have R2 := Lib.hid hR
  have O2 := Lib.hid ho
  have XS := Lib.hid hxs
  have B2 := Lib.hid (below_gr B1.out hG (Nat.le_refl _))
  clear hR ho hG hxs
  go_wp2_with fail
  refine (textWidth_any w2 _ _ A rn rc bs p2 R2.out (by omega)).mono ?_
  rintro e w3 ⟨wd, rfl, hv, hR, hG⟩
  have hv2 : 19 ≤ wd ∧ wd ≤ 61 := by simp at hv; omega
  have R3 := Lib.hid hR
  have O3 := Lib.hid (own_gr O2.out hG hg1)
  have B3 := Lib.hid (below_gr B2.out hG (Nat.le_refl _))
  have hmd := own_le O2.out
  clear hR hG hv
  obtain ⟨hv3, hv4⟩ := hv2
  go_wp2_with fail
  refine (pick_gr w3 _ _ A rn rc bs (p2 + 1) 3 R3.out (by omega) (by omega)).mono ?_
  rintro e w4 ⟨v, rfl, hv0, _, _, hR, hG⟩
  have R4 := Lib.hid hR
  have O4 := Lib.hid (own_gr O3.out hG hg1)
  have B4 := Lib.hid (below_gr B3.out hG (Nat.le_refl _))
  clear hR hG R1 R2 R3 O2 O3 B1 B2 B3
  by_cases hv : v = 0
  case neg =>
    have hv' : (v == 0) = false := by simpa using hv
    go_wp2_with fail
    refine (someEnds_any w4 _ _ A rn rc bs (p2 + 2) m R4.out (by omega) (by omega)).mono ?_
    rintro e w5 ⟨L', m', d', es, p5, rfl, hm', ho, hp5, hR, hG⟩
    have O5 := Lib.hid ho
    have O5a := Lib.hid (own_gr O4.out hG hg1)
    have B5 := Lib.hid (below_gr B4.out hG (Nat.le_refl _))
    clear hR ho hG
    go_wp2_with fail
    go_ret3
    exact ⟨L, m, d, xs, wd, L', m', d', es, rfl, hm, hmd, by omega, Rd.own O5a.out, XS.out, hv3, hv4, Rd.own O5.out, B5.out⟩
  subst hv
  have Z0 : Hid (∀ s ∈ xs, s.size ≤ 9223372036854775807) := fun s hs => by have := XS.out s hs; omega
  have ON : Hid ((w4.alloc (.cells #[] 3)).ownsRow w4.heap.size 3 1 (.slice (some ⟨w4.heap.size, 0, none⟩) 0 0) 0 (ints [])) :=
    ⟨by simp [ints], .inr ⟨w4.heap.size, 0, #[], rfl, Nat.le_refl _, heap_alloc_new w4 _, Nat.le_refl _, by unfold maxLen; omega, rfl, rfl⟩⟩
  have BA := Lib.hid ((Below.refl w4.heap.size w4).alloc (Nat.le_refl _) (.cells #[] 3))
  have CW := Lib.hid (specWrap_any L m d xs wd (w4.alloc (.cells #[] 3)) (Rd.own (O4.out.alloc _)) (by omega) hmd Z0.out)
  go_wp2_with fail
  refine CW.out.mono ?_
  rintro e w5 ⟨Lt, kt, dt, rfl, ho, hb⟩
  have mt := (Rd.own ho).len
  have nt := wEnds_len xs wd
  have OT := Lib.hid (Rd.own ho)
  have ON5 := Lib.hid (own_below ON.out hb)
  have B5 := Lib.hid (below_step BA.out (hb.mono (by simp)))
  have O5 := Lib.hid (own_below O4.out B5.out)
  have hs5 : w4.heap.size ≤ w5.heap.size := B5.out.size
  clear ho hb CW
  have hkt : kt ≤ 40 := by omega
  clear mt nt
  go_wp2_with (first
    | (at_builtin
       refine app_rd elemInt rfl (.tmp 19) (.tmp 22) rfl ON5.out _ OT.out rfl rfl (ints_one _) (by omega) hs5 ?_
       intro v6 w6 ho6 hg6
       have HB6 := Lib.hid (below_app B5.out hg6 ON5.out (Nat.le_refl _))
       have O6 := Lib.hid (own_below O4.out HB6.out)
       have O6a := Lib.hid ho6
       clear ho6 hg6))
  obtain ⟨L6, d6, e6, hmd6⟩ := own_shape O6a.out
  subst e6
  go_ret3
  refine ⟨L, m, d, xs, wd, L6, _, d6, wEnds xs wd, rfl, hm, hmd, by omega, Rd.own O6.out, XS.out, hv3, hv4, ?_, below_step B4.out HB6.out⟩
  have h := Rd.own O6a.out
  simpa [ints] using h
end Go.Proofs.Ytagnfampdaeonaa
