/-
  Contracts of the reference's generators of lists of numbers: someEnds, DrawKeptLines.
-/
import Derived.Test.YtagnfampdaeonaaReader
import Derived.Test.YtagnfampdaeonaaInts
namespace Go.Proofs.Ytagnfampdaeonaa
open Go.RowKit
set_option linter.unusedVariables false

/-- A list of at most 'most' numbers in new memory; the reader has gone on by at most K. -/
def MadeInts (w : World) (B g : Nat) (A : Option Addr) (n c : Nat) (bs : List Int) (p K most : Nat) (e : Ending) (w' : World) : Prop :=
  ∃ L m d xs p', e = .returned (.slice L m d) ∧ m ≤ most ∧ w'.ownsRow w.heap.size 3 1 (.slice L m d) m (ints xs) ∧ p' ≤ p + K ∧ RdrAt w' B g A n c bs p' ∧ w.grownBy w' (some g)

def EndsRel (w : World) (B g : Nat) (A : Option Addr) (n c : Nat) (bs : List Int) (p N : Nat) (v i : Value) (wr : World) : Prop :=
  ∃ (k m : Nat) (xs : List Int) (p' : Nat), 1 ≤ k ∧ k ≤ N + 1 ∧ i = .int .i64 k ∧ m < k ∧ wr.ownsRow w.heap.size 3 1 v m (ints xs) ∧ p' + 2 ≤ p + 2 * k ∧ RdrAt wr B g A n c bs p' ∧ w.grownBy wr (some g)

theorem own_ints_len {w : World} {base : Nat} {E : TypeId} {v : Value} {m : Nat} {xs : List Int} (h : w.ownsRow base E 1 v m (ints xs)) : xs.length = m := by
  have := h.1; simpa [ints] using this

theorem rel_app {w wr w1 : World} {B g : Nat} {A : Option Addr} {n c : Nat} {bs : List Int} {p' m : Nat} {v v' : Value} {xs : List Int} {o : Obj} {x : Int}
    (hgs : g < w.heap.size) (hB : B ≤ w.heap.size) (hown : wr.ownsRow w.heap.size 3 1 v m (ints xs)) (hr : RdrAt wr B g A n c bs p') (hg : w.grownBy wr (some g))
    (h1 : w1.ownsRow w.heap.size 3 1 v' (m + 1) (ints xs ++ [.int .i64 x])) (h2 : (wr.alloc o).grownBy w1 v.ownBlock) :
    w1.ownsRow w.heap.size 3 1 v' (m + 1) (ints (xs ++ [x])) ∧ RdrAt w1 B g A n c bs p' ∧ w.grownBy w1 (some g) := by
  have hrow : ∀ k, v.ownBlock = some k → w.heap.size ≤ k := fun k hk => (hown.lt k hk).1
  exact ⟨by simpa [ints] using h1, (hr.alloc o).grown h2 (fun k hk => Nat.le_trans hB (hrow k hk)), gr_own (gr_alloc hg o) h2 (fun k hk => .inl (hrow k hk))⟩

set_option maxHeartbeats 2000000 in
theorem someEnds_any (w : World) (B g : Nat) (A : Option Addr) (n c : Nat) (bs : List Int) (p N : Nat) (hr : RdrAt w B g A n c bs p) (hN : N ≤ 1000) (hp : p ≤ 900000) :
    Calls Try.prog 53 #[.pointer (some ⟨g, 0, none⟩), .int .i64 N] w (MadeInts w B g A n c bs p (2 * N + 4) N) := by
  have hgs : g < w.heap.size := hr.blk.lt
  have hB := hr.size
  have R0 := Lib.hid hr
  clear hr
  go_enter Try.func53, Try.ntmps53
  go_wp2_with fail
  go_loopw [5, 6] (EndsRel w B g A n c bs p N) (fun _ i _ => N + 1 - (intOf i).toNat)
  case atStart =>
    refine ⟨1, 0, [], p, Nat.le_refl _, by omega, rfl, by omega, ?_, by omega, R0.out.alloc _, gr_alloc (World.grownBy.refl _ _) _⟩
    exact ⟨by simp [ints], .inr ⟨w.heap.size, 0, #[], rfl, Nat.le_refl _, heap_alloc_new w _, Nat.le_refl _, by unfold maxLen; omega, rfl, rfl⟩⟩
  case round =>
    obtain ⟨k, m, xs, p', hk1, hk2, rfl, hmk, hown, hp', hrr, hgr⟩ := hrel
    have O0 := Lib.hid hown
    have RR := Lib.hid hrr
    have G0 := Lib.hid hgr
    clear hown hrr hgr
    by_cases hlt : k ≤ N
    · go_wp2_with fail
      refine (pick_gr _ B g A n c bs p' 3 RR.out (by omega) (by omega)).mono ?_
      rintro e w1 ⟨v, rfl, hv0, hv1, _, hR1, hG1⟩
      have hv1' := hv1 (by omega)
      have R1 := Lib.hid hR1
      have G1 := Lib.hid hG1
      clear hR1 hG1 hv1
      obtain ⟨L, d, hs, hmd⟩ := own_shape O0.out
      subst hs
      have O1 := Lib.hid (own_gr O0.out G1.out hgs)
      have hsz := (gr_trans G0.out G1.out).size
      by_cases hv : v = 0
      · subst hv
        go_wp2_with (at_builtin; refine app_lit elemInt rfl _ _ rfl O1.out _ _ [.int .i64 k] rfl rfl rfl (by simp [Value.oneCell']) (by omega) hsz ?_; intro v2 w2 ho2 hg2)
        have hrel := rel_app hgs hB O1.out R1.out (gr_trans G0.out G1.out) ho2 hg2
        have HR := Lib.hid hrel
        clear hrel ho2 hg2
        go_wp2_with fail
        go_roundw
        case rel => exact ⟨k + 1, m + 1, _, _, by omega, by omega, by go_num, by omega, HR.out.1, by omega, HR.out.2.1, HR.out.2.2⟩
        case measure => simp [intOf] <;> omega
      · have hv' : (v == 0) = false := by simpa using hv
        by_cases hkn : k = N
        · have hkn' : ((k : Int) == (N : Int)) = true := by simp [hkn]
          have HKN := Lib.hid hkn
          clear hkn
          go_wp2_with fail
          refine (pick_gr _ B g A n c bs (p' + 1) 6 R1.out (by omega) (by omega)).mono ?_
          rintro e w2 ⟨u, rfl, hu0, hu1, _, hR2, hG2⟩
          have R2 := Lib.hid hR2
          have G2 := Lib.hid hG2
          clear hR2 hG2 hu1
          have O2 := Lib.hid (own_gr O1.out G2.out hgs)
          have hsz2 := (gr_trans (gr_trans G0.out G1.out) G2.out).size
          by_cases hu : 0 < u
          · go_wp2_with (at_builtin; refine app_lit elemInt rfl _ _ rfl O2.out _ _ [.int .i64 k] rfl rfl rfl (by simp [Value.oneCell']) (by omega) hsz2 ?_; intro v2 w2 ho2 hg2)
            have hrel := rel_app hgs hB O2.out R2.out (gr_trans (gr_trans G0.out G1.out) G2.out) ho2 hg2
            have HR := Lib.hid hrel
            clear hrel ho2 hg2
            go_wp2_with fail
            go_roundw
            case rel => exact ⟨k + 1, m + 1, _, _, by omega, by omega, by go_num, by omega, HR.out.1, by omega, HR.out.2.1, HR.out.2.2⟩
            case measure => simp [intOf] <;> omega
          · go_wp2_with fail
            go_roundw
            case rel => exact ⟨k + 1, m, _, _, by omega, by omega, by go_num, by omega, O2.out, by omega, R2.out, gr_trans (gr_trans G0.out G1.out) G2.out⟩
            case measure => simp [intOf] <;> omega
        · have hkn' : ((k : Int) == (N : Int)) = false := by simp; omega
          clear hkn
          go_wp2_with fail
          go_roundw
          case rel => exact ⟨k + 1, m, _, _, by omega, by omega, by go_num, by omega, O1.out, by omega, R1.out, gr_trans G0.out G1.out⟩
          case measure => simp [intOf] <;> omega
    · obtain ⟨L, d, hs, hmd⟩ := own_shape O0.out
      subst hs
      by_cases hm0 : m = 0
      · subst hm0
        go_wp2_with fail
        go_ret
        exact ⟨L, 0, d, xs, p', rfl, by omega, O0.out, by omega, RR.out, G0.out⟩
      · have hm1 : 0 < m := by omega
        have hsz := G0.out.size
        go_wp2_with fail
        refine (pick_gr _ B g A n c bs p' 12 RR.out (by omega) (by omega)).mono ?_
        rintro e w1 ⟨v, rfl, hv0, hv1, _, hR1, hG1⟩
        have R1 := Lib.hid hR1
        have G1 := Lib.hid hG1
        clear hR1 hG1 hv1
        have O1 := Lib.hid (own_gr O0.out G1.out hgs)
        by_cases hv : v = 0
        · subst hv
          go_wp2_with fail
          refine (one_lit w1 B g A n c bs (p' + 1) [0, -1, (N : Int) + 1] _ 3 3 rfl R1.out (by omega) rfl (by omega) (by omega) _).mono ?_
          rintro e w2 ⟨u, rfl, _, hR2, hG2⟩
          have R2 := Lib.hid hR2
          have G2 := Lib.hid hG2
          clear hR2 hG2
          have O2 := Lib.hid (own_gr O1.out G2.out hgs)
          rcases O2.out.2 with ⟨_, h0⟩ | ⟨gg, cap, cur, hL, hgg, _⟩
          · omega
          injection hL with hL1 _ hL3
          subst hL1
          subst hL3
          have hc0 := O2.out.cellAt 0 (by omega)
          have hf0 := O2.out.frozenAt 0
          rw [List.getElem?_eq_getElem (by rw [O2.out.1]; omega)] at hc0
          have ST := Lib.hid (O2.out.stored 0 (.int .i64 u))
          go_wp2_with fail
          go_ret
          refine ⟨some ⟨gg, 0, none⟩, m, d, xs.set 0 u, _, rfl, by omega, ?_, by omega, R2.out.grown ST.out.2 (fun k hk => by injection hk with hk; omega), gr_own (gr_trans (gr_trans G0.out G1.out) G2.out) ST.out.2 (fun k hk => .inl (by injection hk with hk; omega))⟩
          have h := ST.out.1
          rwa [show (ints xs).set 0 (.int .i64 u) = ints (xs.set 0 u) from by simp [ints, List.map_set]] at h
        · have hv' : (v == 0) = false := by simpa using hv
          go_wp2_with fail
          go_ret
          exact ⟨L, m, d, xs, _, rfl, by omega, O1.out, by omega, R1.out, gr_trans G0.out G1.out⟩

end Go.Proofs.Ytagnfampdaeonaa
