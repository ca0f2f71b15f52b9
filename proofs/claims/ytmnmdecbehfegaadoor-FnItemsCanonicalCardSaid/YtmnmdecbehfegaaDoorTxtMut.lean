/-
  Contract of the reference's generator that changes a text.
-/
import Derived.Test.YtmnmdecbehfegaaDoorTxtDraw
import Derived.IntWalk
namespace Go.Proofs.YtmnmdecbehfegaaDoor
open Go.RowKit
set_option linter.unusedVariables false

/-- A literal list of texts, wherever it lies beyond what there was. -/
theorem of_at (w W : World) (B g : Nat) (A : Option Addr) (n c : Nat) (bs : List Int) (p : Nat) (xs : List ByteArray) (b : Nat) (m d : Nat) (hr : RdrAt w B g A n c bs p) (hp : p ≤ 1000000)
    (hb : Below w.heap.size w W) (hx : Rd W 1 (some ⟨b, 0, none⟩) m (strs' xs)) (hbw : w.heap.size ≤ b) (hm1 : 1 ≤ m) (hm2 : m ≤ 1000) :
    Calls Tryd.prog 66 #[.pointer (some ⟨g, 0, none⟩), .slice (some ⟨b, 0, none⟩) m d] W (OfG w B g A n c bs p xs) := by
  have hlt := hr.blk.lt
  refine (of_any W B g A n c bs p (some ⟨b, 0, none⟩) m d xs (hr.below hb) hp hx (fun b o e => by injection e with e; injection e with e1 e2; omega) hm1 hm2).mono ?_
  rintro e w' ⟨v, h1, h2, h3, h4⟩
  exact ⟨v, h1, h2, h3, gr_trans (gr_below (World.grownBy.refl w (some g)) hb) h4⟩
theorem lit_rd {W : World} {xs : List ByteArray} {cs : Array Value} {E : TypeId} {b m : Nat} (hcs : cs = (strs' xs).toArray) (hm : xs.length = m) (hb : W.heap[b]? = some (.cells cs E (0, 0))) : Rd W 1 (some ⟨b, 0, none⟩) m (strs' xs) := by
  subst hcs
  refine ⟨by simp [strs', hm], fun _ => ⟨b, 0, rfl, fun j hj => ?_⟩⟩
  rw [cell_of_row W b (0 + j) (strs' xs).toArray E (0, 0) hb]
  simp
theorem of_small {t : ByteArray} (h : t ∈ ([⟨#[48]⟩, ⟨#[49]⟩, ⟨#[32]⟩, ⟨#[45]⟩, ⟨#[44]⟩, ⟨#[97]⟩, ⟨#[46]⟩, ⟨#[57]⟩] : List ByteArray)) : t.size ≤ 1 := by
  simp only [List.mem_cons, List.not_mem_nil, or_false] at h
  rcases h with rfl | rfl | rfl | rfl | rfl | rfl | rfl | rfl <;> decide
/-- Some text, not much longer; the reader has gone on. -/
def SomeTx (w : World) (B g : Nat) (A : Option Addr) (n c : Nat) (bs : List Int) (m p : Nat) (e : Ending) (w' : World) : Prop :=
  ∃ (t : ByteArray) (p' : Nat), e = .returned (.string t) ∧ t.size ≤ m ∧ p' ≤ p + 3 ∧ RdrAt w' B g A n c bs p' ∧ w.grownBy w' (some g)

set_option maxHeartbeats 4000000 in
theorem mutate_any (w : World) (B g : Nat) (A : Option Addr) (n c : Nat) (bs : List Int) (p : Nat) (s : ByteArray) (hr : RdrAt w B g A n c bs p) (hp : p ≤ 900000) (hs : s.size ≤ 10000) :
    Calls Tryd.prog 48 #[.pointer (some ⟨g, 0, none⟩), .string s] w (SomeTx w B g A n c bs (s.size + 10) p) := by
  have HR := Lib.hid hr
  clear hr
  go_enter Tryd.func48, Tryd.ntmps48
  go_wp2_with fail
  refine (pick_gr _ B g A n c bs p _ HR.out (by omega) (by omega)).mono ?_
  rintro e w1 ⟨v, rfl, hv0, hv1, _, hR, hG⟩
  have hvm := hv1 (by omega)
  obtain ⟨j, rfl⟩ := Int.eq_ofNat_of_zero_le hv0
  have hjm : j < s.size + 1 := by omega
  have R1 := Lib.hid hR
  have G1 := Lib.hid hG
  clear hR hG hv1 hvm hv0
  go_wp2_with fail
  refine (pick_gr _ B g A n c bs (p + 1) _ R1.out (by omega) (by omega)).mono ?_
  rintro e w2 ⟨v, rfl, hv0, hv1, _, hR, hG⟩
  have hvm := hv1 (by omega)
  have R2 := Lib.hid hR
  have G2 := Lib.hid (gr_trans G1.out hG)
  clear hR hG hv1
  by_cases k0 : v = 0
  · subst k0
    by_cases hj : j < s.size
    · have hbA : Below w2.heap.size w2 ((w2.alloc (.cells #[.string ⟨#[48]⟩, .string ⟨#[49]⟩, .string ⟨#[32]⟩, .string ⟨#[45]⟩, .string ⟨#[44]⟩, .string ⟨#[97]⟩, .string ⟨#[46]⟩, .string ⟨#[57]⟩] 9)).drew) := below_drewN' ((Below.refl _ _).alloc (Nat.le_refl _) _) 1
      have OC := Lib.hid (of_at w2 ((w2.alloc (.cells #[.string ⟨#[48]⟩, .string ⟨#[49]⟩, .string ⟨#[32]⟩, .string ⟨#[45]⟩, .string ⟨#[44]⟩, .string ⟨#[97]⟩, .string ⟨#[46]⟩, .string ⟨#[57]⟩] 9)).drew) B g A n c bs (p + 1 + 1) [⟨#[48]⟩, ⟨#[49]⟩, ⟨#[32]⟩, ⟨#[45]⟩, ⟨#[44]⟩, ⟨#[97]⟩, ⟨#[46]⟩, ⟨#[57]⟩] w2.heap.size 8 8 R2.out (by omega) hbA
        (lit_rd (E := 9) rfl rfl (heap_alloc_new w2 _)) (Nat.le_refl _) (by omega) (by omega))
      clear hbA
      go_wp2_with fail
      have q1 : (0 : Int) ≤ (j : Int) + 1 := by omega
      have q2 : (j : Int) + 1 ≤ (s.size : Int) := by omega
      have q3 : ((j : Int) + 1).toNat = j + 1 := by omega
      have q5 : IntKind.i64.wrap ((j : Int) + 1) = (j : Int) + 1 := IntWalk.i64_in _ (by omega)
      go_region_with (go_at_call 66; (with_reducible refine OC.out.mono ?_); rintro e w3 ⟨t, rfl, ht, hR, hG⟩; have HTS := Lib.hid (of_small ht); have hs1 : ∀ W : World, (Op.stringOp .add (s.extract 0 j) t).run Tryd.prog W = .ok (.string (s.extract 0 j ++ t)) W := sum_run _ t (by rw [ByteArray.size_extract]; omega) (by have := HTS.out; omega); have hs2 : ∀ W : World, (Op.stringOp .add (s.extract 0 j ++ t) (s.extract (j + 1) s.size)).run Tryd.prog W = .ok (.string ((s.extract 0 j ++ t) ++ s.extract (j + 1) s.size)) W := sum_run _ _ (by rw [size_app, ByteArray.size_extract]; have := HTS.out; omega) (by rw [ByteArray.size_extract]; omega); have R3 := Lib.hid hR; have G3 := Lib.hid hG; clear ht hR hG)
      all_goals
        go_wp2
        go_ret
        exact ⟨_, p + 1 + 1 + 1, rfl, by rw [size_app, size_app, ByteArray.size_extract, ByteArray.size_extract]; have := HTS.out; omega, by omega, R3.out, gr_trans G2.out G3.out⟩
    · go_wp2_with fail
      go_ret
      exact ⟨s, p + 1 + 1, rfl, by omega, by omega, R2.out, G2.out⟩
  by_cases k1 : v = 1
  · subst k1
    clear k0
    go_wp2_with fail
    go_ret
    exact ⟨_, p + 1 + 1, rfl, by rw [ByteArray.size_extract]; omega, by omega, R2.out, G2.out⟩
  by_cases k2 : v = 2
  · subst k2
    clear k0 k1
    go_wp2_with fail
    refine (of_lit w2 B g A n c bs (p + 1 + 1) [⟨#[48]⟩, ⟨#[32]⟩, ⟨#[105]⟩, ⟨#[44, 32, 49]⟩, ⟨#[120]⟩, ⟨#[59, 32]⟩] _ 6 6 rfl R2.out (by omega) rfl (by omega) (by omega) _).mono ?_
    rintro e w3 ⟨t, rfl, ht, hR, hG⟩
    have hts : t.size ≤ 3 := by
      simp only [List.mem_cons, List.not_mem_nil, or_false] at ht
      rcases ht with rfl | rfl | rfl | rfl | rfl | rfl <;> decide
    have R3 := Lib.hid hR
    have G3 := Lib.hid (gr_trans G2.out hG)
    clear hR hG ht
    have hsum : ∀ W : World, (Op.stringOp .add s t).run Tryd.prog W = .ok (.string (s ++ t)) W := sum_run s t (by omega) (by omega)
    go_wp2_with fail
    go_ret
    exact ⟨s ++ t, p + 1 + 1 + 1, rfl, by rw [size_app]; omega, by omega, R3.out, G3.out⟩
  have k0' : (v == 0) = false := by simpa using k0
  have k1' : (v == 1) = false := by simpa using k1
  have k2' : (v == 2) = false := by simpa using k2
  clear k0 k1 k2
  go_wp2_with fail
  go_ret
  exact ⟨s, p + 1 + 1, rfl, by omega, by omega, R2.out, G2.out⟩
end Go.Proofs.YtmnmdecbehfegaaDoor
