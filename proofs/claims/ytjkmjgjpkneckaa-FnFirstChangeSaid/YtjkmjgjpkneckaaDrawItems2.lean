/-
  Contracts of the generators of two paragraphs and of the arguments of ReplaceItems, and of equalItems.
-/
import Derived.Test.YtjkmjgjpkneckaaDrawItems
namespace Go.Proofs.Ytjkmjgjpkneckaa
open Go.RowKit
set_option linter.unusedVariables false

set_option maxHeartbeats 8000000 in
theorem equalItems_any (A B : Option Addr) (n m c d : Nat) (xs ys : List It) (w : World) (hx : Rd w 6 A n (items xs)) (hy : Rd w 6 B m (items ys)) (hn : n ≤ 1048576) (hm : m ≤ 1048576) :
    Calls Try.prog 25 #[.slice A n c, .slice B m d] w fun e w' => e = .returned (.bool (decide (xs = ys))) ∧ ∃ q, w' = w.drewN q := by
  have HLx := Lib.hid hx.item_len
  have HLy := Lib.hid hy.item_len
  by_cases hne : n = m
  case neg =>
    have hb : ((n : Int) != (m : Int)) = true := by simp; omega
    clear hx hy
    go_enter Try.func25, Try.ntmps25
    go_wp2
    go_ret
    refine ⟨ret_bool ?_, 0, rfl⟩
    have : xs ≠ ys := fun e => hne (by rw [← HLx.out, ← HLy.out, e])
    simp [this]
  subst hne
  go_enter Try.func25, Try.ntmps25
  go_wp2
  go_loopw [5] (fun i wr => ∃ k q : Nat, k ≤ n ∧ i = .int .i64 k ∧ (∀ j, j < k → xs[j]? = ys[j]?) ∧ wr = w.drewN q) (fun i _ => n - (intOf i).toNat)
  case atStart => exact ⟨0, 0, Nat.zero_le _, rfl, fun j h => absurd h (by omega), rfl⟩
  case round =>
    obtain ⟨k, q, hk, rfl, hpre, rfl⟩ := hrel
    have HP := Lib.hid hpre; clear hpre
    have hk0 : (0 : Int) ≤ (k : Int) := by omega
    by_cases hlt : k < n
    · have hlt' : (k : Int) < (n : Int) := by omega
      obtain ⟨b, o, x, rfl, ex, hc0, hc1, hc2, hc3, hc4, hc5⟩ := hx.item_at hlt
      obtain ⟨b', o', y, rfl, ey, hd0, hd1, hd2, hd3, hd4, hd5⟩ := hy.item_at hlt
      clear hx hy
      have EX := Lib.hid ex; clear ex
      have EY := Lib.hid ey; clear ey
      rcases it_cases x y with hxy | ⟨hxy, hc⟩
      · subst hxy
        go_wp2
        go_quiet (fail)
        go_wp2
        go_roundw
        case rel => exact ⟨k + 1, _, by omega, by go_num, upto_succ HP.out (by rw [EX.out, EY.out]), rfl⟩
        case measure => simp [intOf] <;> omega
      · have HB := Lib.hid hxy; clear hxy
        rcases hc with g0 | ⟨g0, g1⟩ | ⟨g0, g1, g2⟩ | ⟨g0, g1, g2, g3⟩ | ⟨g0, g1, g2, g3, g4⟩ | ⟨g0, g1, g2, g3, g4, g5⟩
        all_goals
          go_wp2
          go_quiet (fail)
          go_wp2
          go_ret
          refine ⟨ret_bool ?_, q + nq, by rw [World.drewN_drewN]⟩
          have : xs ≠ ys := fun e => by
            have h := EX.out
            rw [e, EY.out] at h
            injection h with h
            exact HB.out h.symm
          simp [this]
    · have hkn : k = n := by omega
      subst hkn
      clear hx hy
      go_wp2_with fail
      go_ret
      refine ⟨ret_bool ?_, q, rfl⟩
      simp [ext_upto HLx.out HLy.out HP.out]

/-- Two lists of at most 23 items, in new memory. -/
def TwoIts (w : World) (e : Ending) (w' : World) : Prop :=
  ∃ L m d xs L' m' d' ys, e = .returned (.tuple #[.slice L m d, .slice L' m' d']) ∧ m ≤ 23 ∧ m' ≤ 23 ∧ m ≤ d ∧ m' ≤ d' ∧ Rd w' 6 L m (items xs) ∧ Rd w' 6 L' m' (items ys) ∧ Below w.heap.size w w'

theorem own_blk {w : World} {base : Nat} {E : TypeId} {size : Nat} {L : Option Addr} {n c b o : Nat} {xs : List Value} (h : w.ownsRow base E size (.slice L n c) n xs) (e : L = some ⟨b, o, none⟩) (hn : 0 < n) : base ≤ b ∧ b < w.heap.size := by
  subst e
  exact h.lt b rfl
theorem rd_store {w : World} {size : Nat} {A : Option Addr} {n : Nat} {xs : List Value} {g : Nat} (h : Rd w size A n xs) (hA : ∀ b o, A = some ⟨b, o, none⟩ → b ≠ g) (i : Nat) (u : Value) : Rd (w.setCell ⟨g, i, none⟩ u) size A n xs := by
  refine ⟨h.1, fun hn => ?_⟩
  obtain ⟨b, o, e, hc⟩ := h.2 hn
  refine ⟨b, o, e, fun j hj => ?_⟩
  rw [← hc j hj]
  exact World.cell?_of_block (Below.heap_setCell _ _ _ _ (hA b o e))
theorem rd_store6 {w : World} {size : Nat} {A : Option Addr} {n : Nat} {xs : List Value} {g : Nat} (h : Rd w size A n xs) (hA : ∀ b o, A = some ⟨b, o, none⟩ → b ≠ g) (i0 i1 i2 i3 i4 i5 : Nat) (u0 u1 u2 u3 u4 u5 : Value) :
    Rd ((((((w.setCell ⟨g, i0, none⟩ u0).setCell ⟨g, i1, none⟩ u1).setCell ⟨g, i2, none⟩ u2).setCell ⟨g, i3, none⟩ u3).setCell ⟨g, i4, none⟩ u4).setCell ⟨g, i5, none⟩ u5) size A n xs :=
  rd_store (rd_store (rd_store (rd_store (rd_store (rd_store h hA i0 u0) hA i1 u1) hA i2 u2) hA i3 u3) hA i4 u4) hA i5 u5

theorem items_cells (l : List It) : ∀ u ∈ items l, u.oneCell' = true := by
  intro u hu
  obtain ⟨x, _, hx⟩ := List.mem_flatMap.1 hu
  simp [It.cells] at hx
  rcases hx with rfl | rfl | rfl | rfl | rfl | rfl <;> rfl

set_option maxHeartbeats 4000000 in
theorem DrawCommonItems_any (w : World) (a : Option Addr) (n c : Nat) (zs : List Int) (h : InBytes w a n c zs) :
    Calls Try.prog 24 #[.slice a n c] w (TwoIts w) := by
  have HN := Lib.hid (newReader_any w a n c zs h)
  clear h
  go_enter Try.func24, Try.ntmps24
  go_wp2_with fail
  refine HN.out.mono ?_
  rintro e w1 ⟨A, rn, rc, bs, rfl, hR, hB⟩
  have R1 := Lib.hid hR
  have B1 := Lib.hid hB
  clear hR hB HN
  have hg1 : w.heap.size < w1.heap.size := R1.out.blk.lt
  go_wp2_with fail
  refine (anyItems_any w1 _ _ A rn rc bs 0 R1.out (by omega)).mono ?_
  rintro e w2 ⟨L, m, d, xs, p2, rfl, _, hm, ho, hp2, hR, hG⟩
  have R2 := Lib.hid hR
  have O2 := Lib.hid ho
  have B2 := Lib.hid (below_gr B1.out hG (Nat.le_refl _))
  have hs2 : w1.heap.size ≤ w2.heap.size := hG.size
  clear hR ho hG
  go_wp2_with fail
  refine (anyItems_any w2 _ _ A rn rc bs p2 R2.out (by omega)).mono ?_
  rintro e w3 ⟨L', m', d', ys, p3, rfl, _, hm', ho, hp3, hR, hG⟩
  have R3 := Lib.hid hR
  have O3 := Lib.hid ho
  have O3a := Lib.hid (own_gr O2.out hG hg1)
  have B3 := Lib.hid (below_gr B2.out hG (Nat.le_refl _))
  have hs3 : w2.heap.size ≤ w3.heap.size := hG.size
  clear hR ho hG
  go_wp2_with fail
  refine (pick_gr _ _ _ A rn rc bs p3 2 R3.out (by omega) (by omega)).mono ?_
  rintro e w4 ⟨v, rfl, hv0, _, _, hR, hG⟩
  have R4 := Lib.hid hR
  have O4 := Lib.hid (own_gr O3.out hG (by omega))
  have O4a := Lib.hid (own_gr O3a.out hG hg1)
  have B4 := Lib.hid (below_gr B3.out hG (Nat.le_refl _))
  have hs4 : w3.heap.size ≤ w4.heap.size := hG.size
  have hmd := own_slice0 O4a.out
  have hmd' := own_slice0 O4.out
  clear hR hG R1 R2 R3 O2 O3 O3a B1 B2 B3
  by_cases hv : v = 0
  case neg =>
    have hv' : (v == 0) = false := by simpa using hv
    go_wp2_with fail
    go_ret2
    exact ⟨L, m, d, xs, L', m', d', ys, rfl, hm, hm', hmd, hmd', Rd.own O4a.out, Rd.own O4.out, B4.out⟩
  subst hv
  by_cases hm1 : 1 < m
  case neg =>
    have g1 : decide ((1 : Int) < (m : Int)) = false := decide_eq_false (by omega)
    have g2 : decide (1 < m) = false := decide_eq_false hm1
    go_wp2_with fail
    go_ret2
    exact ⟨L, m, d, xs, L', m', d', ys, rfl, hm, hm', hmd, hmd', Rd.own O4a.out, Rd.own O4.out, B4.out⟩
  have hm1' : (1 : Int) < (m : Int) := by omega
  have HLb : Hid (∀ b o, L = some ⟨b, o, none⟩ → b < w4.heap.size) := fun b o e => (own_blk O4a.out e (by omega)).2
  have hnil : (w4.alloc (.cells #[] 58)).ownsRow w4.heap.size 58 6 (.slice (some ⟨w4.heap.size, 0, none⟩) 0 0) 0 (items []) :=
    ⟨by simp [items], .inr ⟨w4.heap.size, 0, #[], rfl, Nat.le_refl _, heap_alloc_new w4 _, Nat.le_refl _, by unfold maxLen; omega, rfl, rfl⟩⟩
  have ON := Lib.hid hnil
  clear hnil O4
  go_wp2_with (first
    | (at_builtin
       refine app_rd elemItem rfl (.tmp 22) (.tmp 23) rfl ON.out _ (Rd.own (O4a.out.alloc _)) rfl rfl (items_cells xs) (by omega) (by simp) ?_
       intro v6 w6 ho6 hg6
       have hb6 : Below w4.heap.size w4 w6 := below_app ((Below.refl _ _).alloc (Nat.le_refl _) (.cells #[] 58)) hg6 ON.out (Nat.le_refl _)
       simp only [Nat.zero_add] at ho6
       rw [show items [] ++ items xs = items xs from rfl] at ho6
       have HB6 := Lib.hid hb6
       have O6a := Lib.hid (own_below O4a.out hb6)
       have O6 := Lib.hid ho6
       have R6 := Lib.hid (R4.out.below hb6)
       have hs6 : w4.heap.size ≤ w6.heap.size := hb6.size
       obtain ⟨L6, d6, e6, hmd6⟩ := own_shape ho6
       subst e6
       clear ho6 hg6 hb6)
    | (go_at_call 37
       refine (pick_gr _ _ _ A rn rc bs (p3 + 1) ((m : Int) - 1) R6.out (by omega) (by omega)).mono ?_
       rintro e w7 ⟨v7, rfl, hv0, hv1, _, hR, hG⟩
       have hv1' := hv1 (by omega)
       obtain ⟨k, rfl⟩ := Int.eq_ofNat_of_zero_le hv0
       obtain ⟨g, rfl, hgb, hgm, hgc⟩ := own_addr O6.out (by omega)
       have O7 := Lib.hid (own_gr O6.out hG (by omega))
       have O7a := Lib.hid (own_gr O6a.out hG hg1)
       have B7 := Lib.hid (below_gr (below_step B4.out HB6.out) hG (Nat.le_refl _))
       have O7r := Lib.hid (Rd.own O7a.out)
       clear hR hG hv1 R6 O6 O6a ON O4a R4
       have hkm : k < m := by omega
       have hxk : ∃ x, xs[k]? = some x := ⟨xs[k]'(by rw [(Rd.own O7.out).item_len]; exact hkm), List.getElem?_eq_getElem _⟩
       obtain ⟨x, hx⟩ := hxk
       have HX := Lib.hid hx
       clear hx
       have hm6 : k * 6 + 6 ≤ m * 6 := by omega
       have d0 : w7.cell? ⟨g, k * 6, none⟩ = some (.int .i64 x.k) := by rw [O7.out.cellAt _ (by omega)]; exact flat_get It.cells 6 It.cells_length xs k 0 x HX.out (by omega)
       have f0 := O7.out.frozenAt (k * 6)
       have d1 : w7.cell? ⟨g, k * 6 + 1, none⟩ = some (.int .i64 x.w) := by rw [O7.out.cellAt _ (by omega)]; exact flat_get It.cells 6 It.cells_length xs k 1 x HX.out (by omega)
       have f1 := O7.out.frozenAt (k * 6 + 1)
       have d2 : w7.cell? ⟨g, k * 6 + 2, none⟩ = some (.int .i64 x.st) := by rw [O7.out.cellAt _ (by omega)]; exact flat_get It.cells 6 It.cells_length xs k 2 x HX.out (by omega)
       have f2 := O7.out.frozenAt (k * 6 + 2)
       have d3 : w7.cell? ⟨g, k * 6 + 3, none⟩ = some (.int .i64 x.sh) := by rw [O7.out.cellAt _ (by omega)]; exact flat_get It.cells 6 It.cells_length xs k 3 x HX.out (by omega)
       have f3 := O7.out.frozenAt (k * 6 + 3)
       have d4 : w7.cell? ⟨g, k * 6 + 4, none⟩ = some (.int .i64 x.p) := by rw [O7.out.cellAt _ (by omega)]; exact flat_get It.cells 6 It.cells_length xs k 4 x HX.out (by omega)
       have f4 := O7.out.frozenAt (k * 6 + 4)
       have d5 : w7.cell? ⟨g, k * 6 + 5, none⟩ = some (.bool x.f) := by rw [O7.out.cellAt _ (by omega)]; exact flat_get It.cells 6 It.cells_length xs k 5 x HX.out (by omega)
       have f5 := O7.out.frozenAt (k * 6 + 5)
       have ST := Lib.hid ((((((O7.out.stored (k * 6) (.int .i64 1)).1.stored (k * 6 + 1) (.int .i64 5)).1.stored (k * 6 + 2) (.int .i64 0)).1.stored (k * 6 + 3) (.int .i64 0)).1.stored (k * 6 + 4) (.int .i64 0)).1.stored (k * 6 + 5) (.bool false)).1
       have hgw : w.heap.size ≤ g := by omega))
  go_ret2
  refine ⟨L, m, d, xs, _, m, d6, xs.set k ⟨1, 5, 0, 0, 0, false⟩, rfl, hm, hm, hmd, hmd6, ?_, ?_, (((((B7.out.setCell hgw _).setCell hgw _).setCell hgw _).setCell hgw _).setCell hgw _).setCell hgw _⟩
  · exact rd_store6 (Rd.own O7a.out) (fun b o e => by have h := HLb.out b o e; omega) _ _ _ _ _ _ _ _ _ _ _ _
  · have h := ST.out
    rw [items, flat_set6 It.cells It.cells_length _ k ⟨1, 5, 0, 0, 0, false⟩ (by rw [(Rd.own O7.out).item_len]; exact hkm) _ _ _ _ _ _ rfl] at h
    exact Rd.own h
end Go.Proofs.Ytjkmjgjpkneckaa
