/-
  Contracts of the reference's generators of one item and of an item's text.
-/
import Derived.Test.YtmnmdecbehfegaaDoorTxtMut
namespace Go.Proofs.YtmnmdecbehfegaaDoor
open Go.RowKit
set_option linter.unusedVariables false

theorem InBytes.below {w w' : World} {a : Option Addr} {n c : Nat} {xs : List Int} (h : InBytes w a n c xs) (hb : Below w.heap.size w w') : InBytes w' a n c xs := ⟨h.1.below hb, h.2⟩
theorem blk_gr {w w' : World} {g k : Nat} {t : TypeId} {cs : Array Value} (h : BlkIs w k t cs) (hg : w.grownBy w' (some g)) (hk : k ≠ g) : BlkIs w' k t cs := by
  rw [BlkIs, hg.block k h.lt (fun e => by injection e with e; exact hk e)]; exact h
theorem etxtB_size (x : It) : (etxtB x).size ≤ 70 := by
  cases hv : vIt x
  · rw [etxtB_no hv]; decide
  · rw [etxtB_ok hv]; exact itxtB_size hv
theorem blk_below {w w' : World} {k : Nat} {t : TypeId} {cs : Array Value} (h : BlkIs w k t cs) (hb : Below w.heap.size w w') : BlkIs w' k t cs := by
  rw [BlkIs, hb.block k h.lt]; exact h
theorem new_blk (w : World) (cs : Array Value) (t : TypeId) : BlkIs (w.alloc (.cells cs t)) w.heap.size t cs := heap_alloc_new w _

set_option maxHeartbeats 8000000 in
set_option maxRecDepth 8000 in
theorem drawEnc_any (w : World) (a : Option Addr) (n c : Nat) (zs : List Int) (h : InBytes w a n c zs) :
    Calls Tryd.prog 19 #[.slice a n c] w (AnItem w) := by
  have HN := newReader_any (w.alloc (.cells #[.int .i64 0, .int .i64 0, .int .i64 0, .int .i64 0, .int .i64 0, .bool false] 29)) a n c zs (h.below ((Below.refl _ _).alloc (Nat.le_refl _) _))
  have HN := Lib.hid HN
  clear h
  go_enter Tryd.func19, Tryd.ntmps19
  go_wp2_with fail
  refine HN.out.mono ?_
  rintro e w1 ⟨A, rn, rc, bs, rfl, hR, hb⟩
  have K1 := Lib.hid (box_at hb).1
  have B1 := Lib.hid (box_at hb).2
  rw [World.size_alloc] at hR
  have R1 := Lib.hid hR
  have hg1 : w.heap.size + 1 < w1.heap.size := hR.blk.lt
  clear hR hb HN
  go_wp2_with fail
  refine (randomItem_any w1 w1.heap.size (w.heap.size + 1) A rn rc bs R1.out).mono ?_
  rintro e w2 ⟨⟨k, a, b, c, p, f⟩, p1, rfl, hp1, hR, hG⟩
  have R2 := Lib.hid (hR.alloc (.cells #[.int .i64 k, .int .i64 a, .int .i64 b, .int .i64 c, .int .i64 p, .bool f] 29))
  have B2 := Lib.hid ((below_gr B1.out hG (by omega)).alloc (below_gr B1.out hG (by omega)).size (.cells #[.int .i64 k, .int .i64 a, .int .i64 b, .int .i64 c, .int .i64 p, .bool f] 29))
  have K2 := Lib.hid (blk_below (blk_gr K1.out hG (by omega)) ((Below.refl _ _).alloc (Nat.le_refl _) (.cells #[.int .i64 k, .int .i64 a, .int .i64 b, .int .i64 c, .int .i64 p, .bool f] 29)))
  have X2 := Lib.hid (new_blk w2 #[.int .i64 k, .int .i64 a, .int .i64 b, .int .i64 c, .int .i64 p, .bool f] 29)
  have hg2 : w.heap.size + 1 < w2.heap.size := by have := hG.size; omega
  clear hR hG
  go_wp2_with fail
  refine (pick_gr _ w1.heap.size (w.heap.size + 1) A rn rc bs p1 10 R2.out (by omega) (by omega)).mono ?_
  rintro e w3 ⟨v, rfl, hv0, hv1, _, hR, hG⟩
  have R3 := Lib.hid hR
  have B3 := Lib.hid (below_gr B2.out hG (by omega))
  have K3 := Lib.hid (blk_gr K2.out hG (by omega))
  have X3 := Lib.hid (blk_gr X2.out hG (by omega))
  clear hR hG hv1
  by_cases k0 : v = 0
  · subst k0
    go_wp2_with fail
    refine (pick_gr _ w1.heap.size (w.heap.size + 1) A rn rc bs (p1 + 1) 5 R3.out (by omega) (by omega)).mono ?_
    rintro e w4 ⟨kk, rfl, hkk0, hkk1, _, hR, hG⟩
    have B4 := Lib.hid (below_gr B3.out hG (by omega))
    have hk4 := blk_gr K3.out hG (by omega)
    have hx4 := blk_gr X3.out hG (by omega)
    have u0 := hx4.cell 0
    have u1 := hx4.cell 1
    have u2 := hx4.cell 2
    have u3 := hx4.cell 3
    have u4 := hx4.cell 4
    have u5 := hx4.cell 5
    have v0 := hx4.free 0
    have v1 := hx4.free 1
    have v2 := hx4.free 2
    have v3 := hx4.free 3
    have v4 := hx4.free 4
    have v5 := hx4.free 5
    simp only [List.getElem?_toArray, List.getElem?_cons_zero, List.getElem?_cons_succ] at u0 u1 u2 u3 u4 u5
    have y0 := hk4.cell 0
    have y1 := hk4.cell 1
    have y2 := hk4.cell 2
    have y3 := hk4.cell 3
    have y4 := hk4.cell 4
    have y5 := hk4.cell 5
    have z0 := hk4.free 0
    have z1 := hk4.free 1
    have z2 := hk4.free 2
    have z3 := hk4.free 3
    have z4 := hk4.free 4
    have z5 := hk4.free 5
    simp only [List.getElem?_toArray, List.getElem?_cons_zero, List.getElem?_cons_succ] at y0 y1 y2 y3 y4 y5
    clear hR hG hkk1 hk4 hx4
    go_wp2_with fail
    refine bodyPost_ret (v := .agg #[.int .i64 kk, .int .i64 a, .int .i64 b, .int .i64 c, .int .i64 p, .bool f]) ?_ rfl ⟨⟨kk, a, b, c, p, f⟩, rfl, ?_⟩
    · simp only [results, Tryd.results19]
      go_simp
    · repeat (first | (with_reducible exact B4.out) | refine Below.setCell ?_ (by simp <;> omega) _)
  have k0' : (v == 0) = false := by simpa using k0
  have hk3 := K3.out
  have hx3 := X3.out
  have u0 := hx3.cell 0
  have u1 := hx3.cell 1
  have u2 := hx3.cell 2
  have u3 := hx3.cell 3
  have u4 := hx3.cell 4
  have u5 := hx3.cell 5
  have v0 := hx3.free 0
  have v1 := hx3.free 1
  have v2 := hx3.free 2
  have v3 := hx3.free 3
  have v4 := hx3.free 4
  have v5 := hx3.free 5
  simp only [List.getElem?_toArray, List.getElem?_cons_zero, List.getElem?_cons_succ] at u0 u1 u2 u3 u4 u5
  have y0 := hk3.cell 0
  have y1 := hk3.cell 1
  have y2 := hk3.cell 2
  have y3 := hk3.cell 3
  have y4 := hk3.cell 4
  have y5 := hk3.cell 5
  have z0 := hk3.free 0
  have z1 := hk3.free 1
  have z2 := hk3.free 2
  have z3 := hk3.free 3
  have z4 := hk3.free 4
  have z5 := hk3.free 5
  simp only [List.getElem?_toArray, List.getElem?_cons_zero, List.getElem?_cons_succ] at y0 y1 y2 y3 y4 y5
  clear hk3 hx3
  by_cases k1 : v = 1
  · subst k1
    clear k0 k0'
    go_wp2_with fail
    refine bodyPost_ret (v := .agg #[.int .i64 k, .int .i64 (-1), .int .i64 b, .int .i64 c, .int .i64 p, .bool f]) ?_ rfl ⟨⟨k, -1, b, c, p, f⟩, rfl, ?_⟩
    · simp only [results, Tryd.results19]
      go_simp
    · repeat (first | (with_reducible exact B3.out) | refine Below.setCell ?_ (by simp <;> omega) _)
  have k1' : (v == 1) = false := by simpa using k1
  clear k0 k1
  go_wp2_with fail
  refine bodyPost_ret (v := .agg #[.int .i64 k, .int .i64 a, .int .i64 b, .int .i64 c, .int .i64 p, .bool f]) ?_ rfl ⟨⟨k, a, b, c, p, f⟩, rfl, ?_⟩
  · simp only [results, Tryd.results19]
    go_simp
  · repeat (first | (with_reducible exact B3.out) | refine Below.setCell ?_ (by simp <;> omega) _)

set_option maxHeartbeats 4000000 in
theorem drawDec_any (w : World) (a : Option Addr) (n c : Nat) (zs : List Int) (h : InBytes w a n c zs) :
    Calls Tryd.prog 23 #[.slice a n c] w (AText w 80) := by
  have HN := Lib.hid (newReader_any w a n c zs h)
  clear h
  go_enter Tryd.func23, Tryd.ntmps23
  go_wp2_with fail
  refine HN.out.mono ?_
  rintro e w1 ⟨A, rn, rc, bs, rfl, hR, hb⟩
  have B1 := Lib.hid hb
  have R1 := Lib.hid hR
  have hg1 : w.heap.size < w1.heap.size := hR.blk.lt
  clear hR hb HN
  go_wp2_with fail
  refine (randomItem_any w1 w1.heap.size w.heap.size A rn rc bs R1.out).mono ?_
  rintro e w2 ⟨⟨k, a, b, c, p, f⟩, p1, rfl, hp1, hR, hG⟩
  have R2 := Lib.hid hR
  have B2 := Lib.hid (below_gr B1.out hG (by omega))
  have EC := Lib.hid (fun w3 => encSpec_any ⟨k, a, b, c, p, f⟩ w3)
  have hz := etxtB_size ⟨k, a, b, c, p, f⟩
  simp only at EC
  obtain ⟨E, hE⟩ : ∃ E, E = etxtB ⟨k, a, b, c, p, f⟩ := ⟨_, rfl⟩
  rw [← hE] at EC hz
  clear hR hG hE
  go_wp2_with fail
  refine (EC.out _).mono ?_
  rintro e w3 ⟨rfl, hb⟩
  have R3 := Lib.hid (R2.out.below hb)
  have B3 := Lib.hid (below_step B2.out hb)
  clear hb
  go_wp2_with fail
  refine (pick_gr _ w1.heap.size w.heap.size A rn rc bs p1 2 R3.out (by omega) (by omega)).mono ?_
  rintro e w4 ⟨v, rfl, hv0, hv1, _, hR, hG⟩
  have R4 := Lib.hid hR
  have B4 := Lib.hid (below_gr B3.out hG (by omega))
  clear hR hG hv1
  by_cases k0 : v = 0
  · subst k0
    go_wp2_with fail
    go_ret
    exact ⟨E, rfl, by omega, B4.out⟩
  have k0' : (v == 0) = false := by simpa using k0
  clear k0
  go_wp2_with fail
  refine (mutate_any _ w1.heap.size w.heap.size A rn rc bs (p1 + 1) E R4.out (by omega) (by omega)).mono ?_
  rintro e w5 ⟨t, p2, rfl, ht, _, hR, hG⟩
  have B5 := Lib.hid (below_gr B4.out hG (by omega))
  clear hR hG
  go_wp2_with fail
  go_ret
  exact ⟨t, rfl, by omega, B5.out⟩
end Go.Proofs.YtmnmdecbehfegaaDoor
