/-
  Contracts of the reference's generators of placed texts: randomPlaced, somePlaced.
-/
import Derived.Test.YtigcbnehcofbcaaDoorReader
import Derived.Test.YtigcbnehcofbcaaDoorPlaced2
namespace Go.Proofs.YtigcbnehcofbcaaDoor
open Go.RowKit
set_option linter.unusedVariables false

theorem elemPlaced : ElemT Tryd.prog 30 45 3 := ElemT.of Tryd.underlying30 infoPlaced rfl (by omega) (by omega)

/-- A list of at most 4 placed texts in new memory; the reader has gone on by at most 20. -/
def MadePl (w : World) (B g : Nat) (A : Option Addr) (n c : Nat) (bs : List Int) (p : Nat) (e : Ending) (w' : World) : Prop :=
  ∃ L m d xs p', e = .returned (.slice L m d) ∧ m ≤ 4 ∧ w'.ownsRow w.heap.size 45 3 (.slice L m d) m (placeds xs) ∧ (∀ x ∈ xs, x.t.size ≤ 9) ∧ p' ≤ p + 20 ∧ RdrAt w' B g A n c bs p' ∧ w.grownBy w' (some g)

def PlsRel (w : World) (B g : Nat) (A : Option Addr) (n c : Nat) (bs : List Int) (p : Nat) (v i : Value) (wr : World) : Prop :=
  ∃ (k m : Nat) (xs : List Pl) (p' : Nat), i = .int .i64 k ∧ m + k ≤ 4 ∧ wr.ownsRow w.heap.size 45 3 v m (placeds xs) ∧ (∀ x ∈ xs, x.t.size ≤ 9) ∧ p' + 3 * k ≤ p + 20 ∧ RdrAt wr B g A n c bs p' ∧ w.grownBy wr (some g)

theorem four_small {s : ByteArray} (h : s ∈ [(⟨#[97]⟩ : ByteArray), ⟨#[98, 99]⟩, ⟨#[100, 32, 101]⟩, ⟨#[120, 121, 122]⟩]) : 1 ≤ s.size ∧ s.size ≤ 3 := by
  simp only [List.mem_cons, List.not_mem_nil, or_false] at h
  rcases h with rfl | rfl | rfl | rfl <;> decide

theorem rel_appP {w wr w1 : World} {B g : Nat} {A : Option Addr} {n c : Nat} {bs : List Int} {p' m : Nat} {v v' : Value} {xs : List Pl} {o : Obj} {x : Pl}
    (hgs : g < w.heap.size) (hB : B ≤ w.heap.size) (hown : wr.ownsRow w.heap.size 45 3 v m (placeds xs)) (hr : RdrAt wr B g A n c bs p') (hg : w.grownBy wr (some g)) (hxs : ∀ x ∈ xs, x.t.size ≤ 9) (hx : x.t.size ≤ 9)
    (h1 : w1.ownsRow w.heap.size 45 3 v' (m + 1) (placeds xs ++ [.int .i64 x.x, .int .i64 x.y, .string x.t])) (h2 : (wr.alloc o).grownBy w1 v.ownBlock) :
    w1.ownsRow w.heap.size 45 3 v' (m + 1) (placeds (xs ++ [x])) ∧ (∀ y ∈ xs ++ [x], y.t.size ≤ 9) ∧ RdrAt w1 B g A n c bs p' ∧ w.grownBy w1 (some g) := by
  have hrow : ∀ k, v.ownBlock = some k → w.heap.size ≤ k := fun k hk => (hown.lt k hk).1
  refine ⟨by simpa [placeds, Pl.cells] using h1, fun y hy => ?_, (hr.alloc o).grown h2 (fun k hk => Nat.le_trans hB (hrow k hk)), gr_own (gr_alloc hg o) h2 (fun k hk => .inl (hrow k hk))⟩
  rw [List.mem_append, List.mem_singleton] at hy
  rcases hy with hy | rfl
  · exact hxs y hy
  · exact hx

set_option maxHeartbeats 4000000 in
theorem randomPlaced_any (w : World) (B g : Nat) (A : Option Addr) (n c : Nat) (bs : List Int) (p : Nat) (pw ph : Int) (hr : RdrAt w B g A n c bs p) (hp : p ≤ 900000) (hw : 1 ≤ pw) (hw2 : pw ≤ 100) (hh : 1 ≤ ph) (hh2 : ph ≤ 100) :
    Calls Tryd.prog 36 #[.pointer (some ⟨g, 0, none⟩), .int .i64 pw, .int .i64 ph] w (MadePl w B g A n c bs p) := by
  have hgs : g < w.heap.size := hr.blk.lt
  have hB := hr.size
  have R0 := Lib.hid (hr.alloc (.cells #[] 45))
  clear hr
  have hsz0 : w.heap.size + 1 = (w.alloc (.cells #[] 45)).heap.size := by simp
  go_enter Tryd.func36, Tryd.ntmps36
  go_wp2_with fail
  refine (pick_gr _ B g A n c bs p 5 R0.out (by omega) (by omega)).mono ?_
  rintro e w1 ⟨v, rfl, hv0, hv1, _, hR1, hG1⟩
  have hv1' := hv1 (by omega)
  obtain ⟨k0, rfl⟩ := Int.eq_ofNat_of_zero_le hv0
  have R1 := Lib.hid hR1
  have O1 : Hid (w1.ownsRow w.heap.size 45 3 (.slice (some ⟨w.heap.size, 0, none⟩) 0 0) 0 (placeds [])) :=
    own_gr ⟨by simp [placeds], .inr ⟨w.heap.size, 0, #[], rfl, Nat.le_refl _, heap_alloc_new w _, Nat.le_refl _, by unfold maxLen; omega, rfl, rfl⟩⟩ hG1 hgs
  have G1 := Lib.hid (gr_trans (gr_alloc (World.grownBy.refl w (some g)) (.cells #[] 45)) hG1)
  clear hR1 hG1 hv1 hsz0
  go_wp2_with fail
  go_loopw [7, 8] (PlsRel w B g A n c bs p) (fun _ i _ => (intOf i).toNat)
  case atStart => exact ⟨k0, 0, [], p + 1, rfl, by omega, O1.out, (fun x hx => (by cases hx)), by omega, R1.out, G1.out⟩
  case round =>
    obtain ⟨k, m, xs, p', rfl, hmk, hown, hxs, hp', hrr, hgr⟩ := hrel
    have O0 := Lib.hid hown
    have XS := Lib.hid hxs
    have RR := Lib.hid hrr
    have G0 := Lib.hid hgr
    clear hown hxs hrr hgr
    obtain ⟨L, d, hs, hmd⟩ := own_shape O0.out
    subst hs
    by_cases hk : 0 < k
    case neg =>
      have hk' : ¬ (0 : Int) < (k : Int) := by omega
      go_wp2_with fail
      go_ret
      exact ⟨L, m, d, xs, p', rfl, by omega, O0.out, XS.out, by omega, RR.out, G0.out⟩
    have hk' : (0 : Int) < (k : Int) := by omega
    go_wp2_with fail
    refine (of_lit wr B g A n c bs p' [⟨#[97]⟩, ⟨#[98, 99]⟩, ⟨#[100, 32, 101]⟩, ⟨#[120, 121, 122]⟩] _ 4 4 rfl RR.out (by omega) rfl (by omega) (by omega) _).mono ?_
    rintro e w2 ⟨s, rfl, hs, hR2, hG2⟩
    obtain ⟨hs1, hs3⟩ := four_small hs
    have R2 := Lib.hid hR2
    have O2 := Lib.hid (own_gr O0.out hG2 hgs)
    have G2 := Lib.hid (gr_trans G0.out hG2)
    clear hR2 hG2 hs
    by_cases hsw : (s.size : Int) ≤ pw
    case neg =>
      go_wp2_with fail
      go_roundw
      case rel => exact ⟨k - 1, m, xs, _, by rw [show ((k - 1 : Nat) : Int) = (k : Int) - 1 from by omega], by omega, O2.out, XS.out, by omega, R2.out, G2.out⟩
      case measure => simp [intOf] <;> omega
    go_wp2_with fail
    refine (pick_gr _ B g A n c bs _ _ R2.out (by omega) (by omega)).mono ?_
    rintro e w3 ⟨vx, rfl, hvx, _, _, hR3, hG3⟩
    have R3 := Lib.hid hR3
    have O3 := Lib.hid (own_gr O2.out hG3 hgs)
    have G3 := Lib.hid (gr_trans G2.out hG3)
    clear hR3 hG3
    go_wp2_with fail
    refine (pick_gr _ B g A n c bs _ _ R3.out (by omega) (by omega)).mono ?_
    rintro e w4 ⟨vy, rfl, hvy, _, _, hR4, hG4⟩
    have R4 := Lib.hid hR4
    have O4 := Lib.hid (own_gr O3.out hG4 hgs)
    have G4 := Lib.hid (gr_trans G3.out hG4)
    have hsz := (gr_trans G3.out hG4).size
    clear hR4 hG4
    go_wp2_with (at_builtin; refine app_lit elemPlaced rfl _ _ rfl O4.out _ _ [.int .i64 vx, .int .i64 vy, .string s] rfl rfl rfl (by simp [Value.oneCell']) (by omega) hsz ?_; intro v5 w5 ho5 hg5)
    have hrel := rel_appP (x := ⟨vx, vy, s⟩) hgs hB O4.out R4.out G4.out XS.out (by show s.size ≤ 9; omega) ho5 hg5
    have HR := Lib.hid hrel
    clear hrel ho5 hg5
    go_wp2_with fail
    go_roundw
    case rel => exact ⟨k - 1, m + 1, _, _, by rw [show ((k - 1 : Nat) : Int) = (k : Int) - 1 from by omega], by omega, HR.out.1, HR.out.2.1, by omega, HR.out.2.2.1, HR.out.2.2.2⟩
    case measure => simp [intOf] <;> omega
end Go.Proofs.YtigcbnehcofbcaaDoor
