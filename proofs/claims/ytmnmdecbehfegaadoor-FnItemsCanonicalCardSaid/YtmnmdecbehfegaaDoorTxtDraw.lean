/-
  Contract of the reference's generator of one item.
-/
import Derived.Test.YtmnmdecbehfegaaDoorDrawItems
import Derived.Test.YtmnmdecbehfegaaDoorTxtEnc
namespace Go.Proofs.YtmnmdecbehfegaaDoor
open Go.RowKit
set_option linter.unusedVariables false

/-- A store into a block beyond the reader's. -/
theorem set_rdr {w0 w : World} {B g h i : Nat} {A : Option Addr} {n c : Nat} {bs : List Int} {p : Nat} {u : Value} (hh : RdrAt w B g A n c bs p ∧ w0.grownBy w (some g)) (hB : B ≤ w0.heap.size) (hb : w0.heap.size ≤ h) :
    RdrAt (w.setCell ⟨h, i, none⟩ u) B g A n c bs p ∧ w0.grownBy (w.setCell ⟨h, i, none⟩ u) (some g) :=
  ⟨hh.1.grown (gr_set0 w h i u) (fun k hk => by injection hk with hk; omega), gr_own hh.2 (gr_set0 w h i u) (fun k hk => .inl (by injection hk with hk; omega))⟩
/-- Some item; the reader has gone on. -/
def SomeIt (w : World) (B g : Nat) (A : Option Addr) (n c : Nat) (bs : List Int) (e : Ending) (w' : World) : Prop :=
  ∃ (x : It) (p' : Nat), e = .returned (.agg #[.int .i64 x.k, .int .i64 x.w, .int .i64 x.st, .int .i64 x.sh, .int .i64 x.p, .bool x.f]) ∧ p' ≤ 100 ∧ RdrAt w' B g A n c bs p' ∧ w.grownBy w' (some g)

set_option maxHeartbeats 4000000 in
theorem randomItem_any (w : World) (B g : Nat) (A : Option Addr) (n c : Nat) (bs : List Int) (hr : RdrAt w B g A n c bs 0) :
    Calls Tryd.prog 41 #[.pointer (some ⟨g, 0, none⟩)] w (SomeIt w B g A n c bs) := by
  have HR := Lib.hid hr
  have hgs : g < w.heap.size := hr.blk.lt
  have Z0 := Lib.hid (hr.alloc (.cells #[.int .i64 0, .int .i64 0, .int .i64 0, .int .i64 0, .int .i64 0, .bool false] 29))
  clear hr
  go_enter Tryd.func41, Tryd.ntmps41
  go_wp2_with fail
  refine (randomItems_any _ B g A n c bs 0 Z0.out (by omega)).mono ?_
  rintro e w1 ⟨L, m, d, xs, p1, rfl, hm1, hm, ho, hp1, hR, hG⟩
  have K1 : Hid (BlkIs w1 w.heap.size 29 #[.int .i64 0, .int .i64 0, .int .i64 0, .int .i64 0, .int .i64 0, .bool false]) := by
    show BlkIs _ _ _ _
    rw [BlkIs, hG.block w.heap.size (by simp) (fun h => by injection h; omega)]
    exact heap_alloc_new w _
  have R1 := Lib.hid hR
  have O1 := Lib.hid ho
  have G1 := Lib.hid (gr_trans (gr_alloc (World.grownBy.refl w (some g)) (.cells #[.int .i64 0, .int .i64 0, .int .i64 0, .int .i64 0, .int .i64 0, .bool false] 29)) hG)
  have hs1 : w.heap.size < w1.heap.size := K1.out.lt
  clear hR ho hG
  go_wp2_with fail
  refine (pick_gr _ _ _ A n c bs p1 m R1.out (by omega) (by omega)).mono ?_
  rintro e w2 ⟨v, rfl, hv0, hv1, _, hR, hG⟩
  have hvm := hv1 (by omega)
  obtain ⟨j, rfl⟩ := Int.eq_ofNat_of_zero_le hv0
  have hjm : j < m := by omega
  have O2 := Lib.hid (own_gr O1.out hG (by simp; omega))
  have R2 := Lib.hid hR
  have G2 := Lib.hid (gr_trans G1.out hG)
  have hk2 : BlkIs w2 w.heap.size 29 #[.int .i64 0, .int .i64 0, .int .i64 0, .int .i64 0, .int .i64 0, .bool false] := by
    rw [BlkIs, hG.block w.heap.size hs1 (fun h => by injection h; omega)]
    exact K1.out
  have K2 := Lib.hid hk2
  have y0 := hk2.cell 0
  have y1 := hk2.cell 1
  have y2 := hk2.cell 2
  have y3 := hk2.cell 3
  have y4 := hk2.cell 4
  have y5 := hk2.cell 5
  have z0 := hk2.free 0
  have z1 := hk2.free 1
  have z2 := hk2.free 2
  have z3 := hk2.free 3
  have z4 := hk2.free 4
  have z5 := hk2.free 5
  simp only [List.getElem?_toArray, List.getElem?_cons_zero, List.getElem?_cons_succ] at y0 y1 y2 y3 y4 y5
  obtain ⟨b, o, x, rfl, ex, hc0, hc1, hc2, hc3, hc4, hc5⟩ := (Rd.own O2.out).item_at hjm
  clear hR hG hv1 hk2 ex
  go_wp2_with fail
  refine bodyPost_ret (v := .agg #[.int .i64 x.k, .int .i64 x.w, .int .i64 x.st, .int .i64 x.sh, .int .i64 x.p, .bool x.f]) ?_ rfl ⟨x, p1 + 1, rfl, by omega, ?_⟩
  · simp only [results, Tryd.results41]
    go_simp
  · repeat (first | (with_reducible exact ⟨R2.out, G2.out⟩) | refine set_rdr ?_ HR.out.size (Nat.le_refl _))

def AnItem (w : World) (e : Ending) (w' : World) : Prop :=
  ∃ x : It, e = .returned (.agg #[.int .i64 x.k, .int .i64 x.w, .int .i64 x.st, .int .i64 x.sh, .int .i64 x.p, .bool x.f]) ∧ Below w.heap.size w w'
def AText (w : World) (m : Nat) (e : Ending) (w' : World) : Prop := ∃ t : ByteArray, e = .returned (.string t) ∧ t.size ≤ m ∧ Below w.heap.size w w'

end Go.Proofs.YtmnmdecbehfegaaDoor
