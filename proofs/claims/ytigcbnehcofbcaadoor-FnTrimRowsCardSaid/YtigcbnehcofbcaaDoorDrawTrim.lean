/-
  Contract of the reference's generator of rows.
-/
import Derived.Test.YtigcbnehcofbcaaDoorReader
import Derived.Test.YtigcbnehcofbcaaDoorStrs
import Derived.Laws.IdiomStrings
namespace Go.Proofs.YtigcbnehcofbcaaDoor
open Go.RowKit
set_option linter.unusedVariables false

/-- At most 6 rows of at most 9 characters, in new memory. -/
def RowsW (w : World) (e : Ending) (w' : World) : Prop :=
  ∃ L m d xs, e = .returned (.slice L m d) ∧ m ≤ 6 ∧ m ≤ d ∧ Rd w' 1 L m (strs' xs) ∧ (∀ x ∈ xs, x.size ≤ 9) ∧ Below w.heap.size w w'
def RwsRel (w : World) (B g : Nat) (A : Option Addr) (n c : Nat) (bs : List Int) (v i : Value) (wr : World) : Prop :=
  ∃ (k m : Nat) (xs : List ByteArray) (p' : Nat), i = .int .i64 k ∧ m + k ≤ 5 ∧ wr.ownsRow w.heap.size 9 1 v m (strs' xs) ∧ (∀ x ∈ xs, x.size ≤ 9) ∧ p' + k ≤ 6 ∧ RdrAt wr B g A n c bs p' ∧ w.grownBy wr (some g)
theorem rel_appS {w wr w1 : World} {B g : Nat} {A : Option Addr} {n c : Nat} {bs : List Int} {p' m : Nat} {v v' : Value} {xs : List ByteArray} {o : Obj} {x : ByteArray}
    (hgs : g < w.heap.size) (hB : B ≤ w.heap.size) (hown : wr.ownsRow w.heap.size 9 1 v m (strs' xs)) (hr : RdrAt wr B g A n c bs p') (hg : w.grownBy wr (some g)) (hxs : ∀ x ∈ xs, x.size ≤ 9) (hx : x.size ≤ 9)
    (h1 : w1.ownsRow w.heap.size 9 1 v' (m + 1) (strs' xs ++ [.string x])) (h2 : (wr.alloc o).grownBy w1 v.ownBlock) :
    w1.ownsRow w.heap.size 9 1 v' (m + 1) (strs' (xs ++ [x])) ∧ (∀ y ∈ xs ++ [x], y.size ≤ 9) ∧ RdrAt w1 B g A n c bs p' ∧ w.grownBy w1 (some g) := by
  have hrow : ∀ k, v.ownBlock = some k → w.heap.size ≤ k := fun k hk => (hown.lt k hk).1
  refine ⟨by simpa [strs'] using h1, fun y hy => ?_, (hr.alloc o).grown h2 (fun k hk => Nat.le_trans hB (hrow k hk)), gr_own (gr_alloc hg o) h2 (fun k hk => .inl (hrow k hk))⟩
  rw [List.mem_append, List.mem_singleton] at hy
  rcases hy with hy | rfl
  · exact hxs y hy
  · exact hx
theorem six_small {s : ByteArray} (h : s ∈ [(⟨#[97]⟩ : ByteArray), ⟨#[97, 32]⟩, ⟨#[32, 97]⟩, ⟨#[32, 32]⟩, ⟨#[]⟩, ⟨#[97, 98, 32, 32, 99, 32]⟩]) : s.size ≤ 9 := by
  simp only [List.mem_cons, List.not_mem_nil, or_false] at h
  rcases h with rfl | rfl | rfl | rfl | rfl | rfl <;> decide
theorem byte_nine (W : World) : (convert 22 9 (.slice (some ⟨W.heap.size, 0, none⟩) 1 1)).run Tryd.prog (W.alloc (.cells #[.int .u8 9] 5)) = .ok (.string ⟨#[9]⟩) (W.alloc (.cells #[.int .u8 9] 5)) := by
  refine run_convert_bytes_back _ _ _ 5 ⟨W.heap.size, 0, none⟩ 1 [9] Tryd.underlying22 Tryd.underlying5 Tryd.underlying9 (fun i hi => ?_)
  obtain rfl : i = 0 := by simp at hi; omega
  rw [Addr.add_lit, Nat.zero_add, cell_of_row _ W.heap.size 0 _ 5 (0, 0) (heap_alloc_new W _)]
  rfl
set_option maxHeartbeats 4000000 in
theorem DrawTrimRows_any (w : World) (a : Option Addr) (n c : Nat) (zs : List Int) (h : InBytes w a n c zs) :
    Calls Tryd.prog 7 #[.slice a n c] w (RowsW w) := by
  have HN := Lib.hid (newReader_any w a n c zs h)
  clear h
  go_enter Tryd.func7, Tryd.ntmps7
  go_wp2_with fail
  refine HN.out.mono ?_
  rintro e w1 ⟨A, na, ca, bs, rfl, hr, hb⟩
  obtain ⟨g, hg⟩ : ∃ g, g = w.heap.size := ⟨_, rfl⟩
  rw [← hg] at hr ⊢
  have hgs : g < w1.heap.size := hr.blk.lt
  have hgw : w.heap.size ≤ g := by omega
  have B1 := Lib.hid hb
  have R1 := Lib.hid (hr.alloc (.cells #[] 9))
  have O1 : Hid ((w1.alloc (.cells #[] 9)).ownsRow w1.heap.size 9 1 (.slice (some ⟨w1.heap.size, 0, none⟩) 0 0) 0 (strs' [])) :=
    ⟨by simp [strs'], .inr ⟨w1.heap.size, 0, #[], rfl, Nat.le_refl _, heap_alloc_new w1 _, Nat.le_refl _, by unfold maxLen; omega, rfl, rfl⟩⟩
  have G1 := Lib.hid (gr_alloc (World.grownBy.refl w1 (some g)) (.cells #[] 9))
  clear hr hb HN hg
  go_wp2_with fail
  refine (pick_gr _ _ g A na ca bs 0 6 R1.out (by omega) (by omega)).mono ?_
  rintro e w2 ⟨v, rfl, hv0, hv1, _, hR, hG⟩
  have hv1' := hv1 (by omega)
  obtain ⟨k0, rfl⟩ := Int.eq_ofNat_of_zero_le hv0
  have R2 := Lib.hid hR
  have O2 := Lib.hid (own_gr O1.out hG hgs)
  have G2 := Lib.hid (gr_trans G1.out hG)
  clear hR hG hv1
  go_wp2_with fail
  go_loopw [4, 5] (RwsRel w1 w1.heap.size g A na ca bs) (fun _ i _ => (intOf i).toNat)
  case atStart => exact ⟨k0, 0, [], 1, rfl, by omega, O2.out, (fun x hx => (by cases hx)), by omega, R2.out, G2.out⟩
  case round =>
    obtain ⟨k, m, xs, p', rfl, hmk, hown, hxs, hp', hrr, hgr⟩ := hrel
    have O0 := Lib.hid hown
    have XS := Lib.hid hxs
    have RR := Lib.hid hrr
    have G0 := Lib.hid hgr
    clear hown hxs hrr hgr
    obtain ⟨L, d, hs, hmd⟩ := own_shape O0.out
    subst hs
    by_cases hk : 0 < k
    case neg =>
      have hk' : ¬ (0 : Int) < (k : Int) := by omega
      go_wp2_with fail
      refine (pick_gr _ _ g A na ca bs p' 14 RR.out (by omega) (by omega)).mono ?_
      rintro e w3 ⟨v, rfl, hv0, _, _, hR, hG⟩
      have R3 := Lib.hid hR
      have O3 := Lib.hid (own_gr O0.out hG hgs)
      have G3 := Lib.hid (gr_trans G0.out hG)
      have hsz := (gr_trans G0.out hG).size
      clear hR hG
      by_cases hv : v = 0
      case neg =>
        have hvb : (v == 0) = false := by simpa using hv
        go_wp2_with fail
        go_ret
        exact ⟨L, m, d, xs, rfl, by omega, hmd, Rd.own O3.out, XS.out, below_gr B1.out G3.out hgw⟩
      subst hv
      have hcv := byte_nine w3
      have hszA : w1.heap.size ≤ (w3.alloc (.cells #[.int .u8 9] 5)).heap.size := by rw [World.size_alloc]; omega
      go_wp2_with (at_builtin; refine app_lit elemStr rfl _ _ rfl (O3.out.alloc (.cells #[.int .u8 9] 5)) 1 1 [.string ⟨#[9]⟩] rfl (by simp [Act.eval, World.size_alloc]) rfl (by simp [Value.oneCell']) (by omega) hszA ?_; intro v5 w5 ho5 hg5)
      have hrel := rel_appS (x := ⟨#[9]⟩) hgs (Nat.le_refl _) (O3.out.alloc (.cells #[.int .u8 9] 5)) (R3.out.alloc (.cells #[.int .u8 9] 5)) (gr_alloc G3.out (.cells #[.int .u8 9] 5)) XS.out (by decide) ho5 hg5
      have HR := Lib.hid hrel
      have ho6 := own_shape hrel.1
      obtain ⟨L6, d6, e6, hd6⟩ := ho6
      subst e6
      clear hrel ho5 hg5
      go_wp2_with fail
      go_ret
      exact ⟨L6, m + 1, d6, _, rfl, by omega, hd6, Rd.own HR.out.1, HR.out.2.1, below_gr B1.out HR.out.2.2.2 hgw⟩
    have hk' : (0 : Int) < (k : Int) := by omega
    go_wp2_with fail
    refine (of_lit wr w1.heap.size g A na ca bs p' [⟨#[97]⟩, ⟨#[97, 32]⟩, ⟨#[32, 97]⟩, ⟨#[32, 32]⟩, ⟨#[]⟩, ⟨#[97, 98, 32, 32, 99, 32]⟩] _ 6 6 rfl RR.out (by omega) rfl (by omega) (by omega) _).mono ?_
    rintro e w2 ⟨s, rfl, hs, hR2, hG2⟩
    have hs9 := six_small hs
    have R4 := Lib.hid hR2
    have O4 := Lib.hid (own_gr O0.out hG2 hgs)
    have G4 := Lib.hid (gr_trans G0.out hG2)
    have hsz := (gr_trans G0.out hG2).size
    clear hR2 hG2 hs
    go_wp2_with (at_builtin; refine app_lit elemStr rfl _ _ rfl O4.out _ _ [.string s] rfl rfl rfl (by simp [Value.oneCell']) (by omega) hsz ?_; intro v5 w5 ho5 hg5)
    have hrel := rel_appS (x := s) hgs (Nat.le_refl _) O4.out R4.out G4.out XS.out hs9 ho5 hg5
    have HR := Lib.hid hrel
    clear hrel ho5 hg5
    go_wp2_with fail
    go_roundw
    case rel => exact ⟨k - 1, m + 1, _, _, by rw [show ((k - 1 : Nat) : Int) = (k : Int) - 1 from by omega], by omega, HR.out.1, HR.out.2.1, by omega, HR.out.2.2.1, HR.out.2.2.2⟩
    case measure => simp [intOf] <;> omega
end Go.Proofs.YtigcbnehcofbcaaDoor
