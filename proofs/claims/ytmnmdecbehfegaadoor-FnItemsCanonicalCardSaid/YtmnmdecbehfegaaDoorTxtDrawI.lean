/-
  Contracts of the reference's generators of a paragraph and of a paragraph's text.
-/
import Derived.Test.YtmnmdecbehfegaaDoorTxtDraw2
import Derived.Test.YtmnmdecbehfegaaDoorDrawItems2
import Derived.Test.YtmnmdecbehfegaaDoorTxtEncs
namespace Go.Proofs.YtmnmdecbehfegaaDoor
open Go.RowKit
set_option linter.unusedVariables false

theorem eitsB_size (l : List It) : (eitsB l).size ≤ 4400 := by
  cases hv : vItems l
  · rw [eitsB_no hv]; decide
  · obtain ⟨h1, h2, _⟩ := vItems_each hv
    rw [eitsB_ok hv, baL_size]
    have h := jI_len h1 l.length (Nat.le_refl _)
    rw [List.take_length] at h
    omega
theorem equalSame_any (A B : Option Addr) (n m c d : Nat) (xs : List It) (w : World) (hx : Rd w 6 A n (items xs)) (hy : Rd w 6 B m (items xs)) (hn : n ≤ 1048576) (hm : m ≤ 1048576) :
    Calls Tryd.prog 29 #[.slice A n c, .slice B m d] w fun e w' => e = .returned (.bool true) ∧ Below w.heap.size w w' :=
  (equalItems_any A B n m c d xs xs w hx hy hn hm).mono fun e w' h => ⟨by simpa using h.1, below_of_drew h.2⟩
/-- A paragraph in new memory. -/
def SomeIts (w : World) (e : Ending) (w' : World) : Prop :=
  ∃ L m d xs, e = .returned (.slice L m d) ∧ m ≤ 23 ∧ w'.ownsRow w.heap.size 29 6 (.slice L m d) m (items xs) ∧ Below w.heap.size w w'
set_option maxHeartbeats 4000000 in
theorem drawEncs_any (w : World) (a : Option Addr) (n c : Nat) (zs : List Int) (h : InBytes w a n c zs) :
    Calls Tryd.prog 28 #[.slice a n c] w (SomeIts w) := by
  have HN := Lib.hid (newReader_any w a n c zs h)
  clear h
  go_enter Tryd.func28, Tryd.ntmps28
  go_wp2_with fail
  refine HN.out.mono ?_
  rintro e w1 ⟨A, rn, rc, bs, rfl, hR, hB⟩
  have R1 := Lib.hid hR
  have B1 := Lib.hid hB
  clear hR hB HN
  go_wp2_with fail
  refine (anyItems_any w1 _ _ A rn rc bs 0 R1.out (by omega)).mono ?_
  rintro e w2 ⟨L, m, d, xs, p2, rfl, _, hm, ho, hp2, hR, hG⟩
  have O2 := Lib.hid (own_base ho B1.out.size)
  have B2 := Lib.hid (below_gr B1.out hG (Nat.le_refl _))
  clear hR ho hG
  go_wp2_with fail
  go_ret
  exact ⟨L, m, d, xs, rfl, hm, O2.out, B2.out⟩
set_option maxHeartbeats 4000000 in
theorem drawDecs_any (w : World) (a : Option Addr) (n c : Nat) (zs : List Int) (h : InBytes w a n c zs) :
    Calls Tryd.prog 30 #[.slice a n c] w (AText w 5000) := by
  have HN := Lib.hid (newReader_any w a n c zs h)
  clear h
  go_enter Tryd.func30, Tryd.ntmps30
  go_wp2_with fail
  refine HN.out.mono ?_
  rintro e w1 ⟨A, rn, rc, bs, rfl, hR, hb⟩
  have B1 := Lib.hid hb
  have R1 := Lib.hid hR
  have hg1 : w.heap.size < w1.heap.size := hR.blk.lt
  clear hR hb HN
  go_wp2_with fail
  refine (anyItems_any w1 _ _ A rn rc bs 0 R1.out (by omega)).mono ?_
  rintro e w2 ⟨L, m, d, xs, p1, rfl, _, hm, ho, hp1, hR, hG⟩
  have R2 := Lib.hid hR
  have B2 := Lib.hid (below_gr B1.out hG (Nat.le_refl _))
  have EC := Lib.hid (encsSpec_any L m d xs w2 (Rd.own ho) (by omega))
  have hz := eitsB_size xs
  obtain ⟨E, hE⟩ : ∃ E, E = eitsB xs := ⟨_, rfl⟩
  rw [← hE] at EC hz
  clear hR hG hE ho
  go_wp2_with fail
  refine EC.out.mono ?_
  rintro e w3 ⟨rfl, hb⟩
  have R3 := Lib.hid (R2.out.below hb)
  have B3 := Lib.hid (below_step B2.out hb)
  clear hb
  go_wp2_with fail
  refine (pick_gr _ _ w.heap.size A rn rc bs p1 2 R3.out (by omega) (by omega)).mono ?_
  rintro e w4 ⟨v, rfl, hv0, hv1, _, hR, hG⟩
  have R4 := Lib.hid hR
  have B4 := Lib.hid (below_gr B3.out hG (by omega))
  clear hR hG hv1
  by_cases k0 : v = 0
  · subst k0
    go_wp2_with fail
    go_ret
    exact ⟨E, rfl, by omega, B4.out⟩
  have k0' : (v == 0) = false := by simpa using k0
  clear k0
  go_wp2_with fail
  refine (mutate_any _ _ w.heap.size A rn rc bs (p1 + 1) E R4.out (by omega) (by omega)).mono ?_
  rintro e w5 ⟨t, p2, rfl, ht, _, hR, hG⟩
  have B5 := Lib.hid (below_gr B4.out hG (by omega))
  clear hR hG
  go_wp2_with fail
  go_ret
  exact ⟨t, rfl, by omega, B5.out⟩
end Go.Proofs.YtmnmdecbehfegaaDoor
