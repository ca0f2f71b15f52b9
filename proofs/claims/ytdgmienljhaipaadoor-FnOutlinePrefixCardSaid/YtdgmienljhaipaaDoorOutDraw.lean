/-
  Contracts of the reference's generators of outlines.
-/
import Derived.Test.YtdgmienljhaipaaDoorDrawEnds
namespace Go.Proofs.YtdgmienljhaipaaDoor
open Go.RowKit
set_option linter.unusedVariables false

theorem ints_nil (w : World) : (w.alloc (.cells #[] 3)).ownsRow w.heap.size 3 1 (.slice (some ⟨w.heap.size, 0, none⟩) 0 0) 0 (ints []) :=
  ⟨by simp [ints], .inr ⟨w.heap.size, 0, #[], rfl, Nat.le_refl _, heap_alloc_new w _, Nat.le_refl _, by unfold maxLen; omega, rfl, rfl⟩⟩
theorem own_headI {w : World} {base : Nat} {E : TypeId} {size : Nat} {L : Option Addr} {n c : Nat} {xs : List Value} (h : w.ownsRow base E size (.slice L n c) n xs) (hn : 0 < n) :
    ∃ g, L = some ⟨g, 0, none⟩ ∧ base ≤ g ∧ n ≤ c ∧ c ≤ maxLen := by
  rcases h.2 with ⟨_, h1⟩ | ⟨g', cap, cur, hv, hg, hh, hn', hc, hz, hx⟩
  · omega
  · injection hv with h1 h2 h3
    subst h1; subst h3
    exact ⟨g', rfl, hg, hn', hc⟩
theorem ints_set (xs : List Int) (k : Nat) (x : Int) : (ints xs).set k (.int .i64 x) = ints (xs.set k x) := by rw [ints, ints, List.map_set]

def OutDraw (w : World) (B g : Nat) (A : Option Addr) (n c : Nat) (bs : List Int) (p : Nat) (v l i : Value) (wr : World) : Prop :=
  ∃ (k m : Nat) (xs : List Int) (p' : Nat) (z : Int), i = .int .i64 (k : Int) ∧ l = .int .i64 z ∧ 0 ≤ z ∧ z ≤ 4 ∧ m + k ≤ 9 ∧ wr.ownsRow w.heap.size 3 1 v m (ints xs) ∧ p' + k ≤ p + 10 ∧ RdrAt wr B g A n c bs p' ∧ w.grownBy wr (some g)

set_option maxHeartbeats 4000000 in
theorem randomOutline_any (w : World) (B g : Nat) (A : Option Addr) (n c : Nat) (bs : List Int) (p : Nat) (hr : RdrAt w B g A n c bs p) (hp : p ≤ 900000) :
    Calls Tryd.prog 38 #[.pointer (some ⟨g, 0, none⟩)] w (MadeInts w B g A n c bs p 10 9) := by
  have hgs : g < w.heap.size := hr.blk.lt
  have hB := hr.size
  have Ra := Lib.hid (hr.alloc (.cells #[] 3))
  clear hr
  have Oa := Lib.hid (ints_nil w)
  have Ga := Lib.hid (gr_alloc (World.grownBy.refl w (some g)) (.cells #[] 3))
  go_enter Tryd.func38, Tryd.ntmps38
  go_wp2_with fail
  refine (pick_gr _ B g A n c bs p 10 Ra.out (by omega) (by omega)).mono ?_
  rintro e w1 ⟨v, rfl, hv0, hv1, _, hR, hG⟩
  have hv1' := hv1 (by omega)
  obtain ⟨v0, rfl⟩ := Int.eq_ofNat_of_zero_le hv0
  have Rb := Lib.hid hR
  have Ob := Lib.hid (own_gr Oa.out hG hgs)
  have Gb := Lib.hid (gr_trans Ga.out hG)
  clear hR hG hv1 Ra Oa Ga
  go_wp2_with fail
  go_loopw [3, 4, 5] (OutDraw w B g A n c bs p) (fun _ _ i _ => (intOf i).toNat)
  case atStart => exact ⟨v0, 0, [], p + 1, 0, rfl, rfl, by omega, by omega, by omega, Ob.out, by omega, Rb.out, Gb.out⟩
  case round =>
    obtain ⟨k, m, xs, p', z, rfl, rfl, hz0, hz1, hmk, hown, hp', hR, hG⟩ := hrel
    have Rc := Lib.hid hR
    have Oc := Lib.hid hown
    have Gc := Lib.hid hG
    clear hR hown hG Rb Ob Gb
    by_cases hk : 0 < k
    · have hk' : (0 : Int) < (k : Int) := by omega
      by_cases hz : z = 4
      · subst hz
        go_wp2_with fail
        refine (pick_gr _ B g A n c bs p' 4 Rc.out (by omega) (by omega)).mono ?_
        rintro e w2 ⟨v, rfl, hv0, hv1, _, hR, hG⟩
        have hv1' := hv1 (by omega)
        have Rq := Lib.hid hR
        have Od := Lib.hid (own_gr Oc.out hG hgs)
        have Gd := Lib.hid (gr_trans Gc.out hG)
        have hzd := (gr_trans Gc.out hG).size
        clear hR hG hv1
        go_wp2_with (first
          | (at_builtin
             refine app_lit elemInt rfl (.tmp 19) (.tmp 21) rfl Od.out _ _ [.int .i64 (1 + v)] rfl rfl rfl (by simp [Value.oneCell']) (by omega) hzd ?_
             intro v3 w3 ho hg
             have hrel := rel_app hgs hB Od.out Rq.out Gd.out ho hg
             have HE := Lib.hid hrel
             clear hrel ho hg))
        go_roundw
        case rel => exact ⟨k - 1, m + 1, xs ++ [1 + v], p' + 1, 1 + v, by rw [show ((k - 1 : Nat) : Int) = (k : Int) - 1 from by omega], rfl, by omega, by omega, by omega, HE.out.1, by omega, HE.out.2.1, HE.out.2.2⟩
        case measure => simp [intOf] <;> omega
      · have hmin : min (z + 1) 4 = z + 1 := by omega
        have hz4 : z + 1 ≤ 4 := by omega
        go_wp2_with fail
        refine (pick_gr _ B g A n c bs p' (z + 1) Rc.out (by omega) (by omega)).mono ?_
        rintro e w2 ⟨v, rfl, hv0, hv1, _, hR, hG⟩
        have hv1' := hv1 (by omega)
        have Rq := Lib.hid hR
        have Od := Lib.hid (own_gr Oc.out hG hgs)
        have Gd := Lib.hid (gr_trans Gc.out hG)
        have hzd := (gr_trans Gc.out hG).size
        clear hR hG hv1
        go_wp2_with (first
          | (at_builtin
             refine app_lit elemInt rfl (.tmp 19) (.tmp 21) rfl Od.out _ _ [.int .i64 (1 + v)] rfl rfl rfl (by simp [Value.oneCell']) (by omega) hzd ?_
             intro v3 w3 ho hg
             have hrel := rel_app hgs hB Od.out Rq.out Gd.out ho hg
             have HE := Lib.hid hrel
             clear hrel ho hg))
        go_roundw
        case rel => exact ⟨k - 1, m + 1, xs ++ [1 + v], p' + 1, 1 + v, by rw [show ((k - 1 : Nat) : Int) = (k : Int) - 1 from by omega], rfl, by omega, by omega, by omega, HE.out.1, by omega, HE.out.2.1, HE.out.2.2⟩
        case measure => simp [intOf] <;> omega
    · obtain rfl : k = 0 := by omega
      obtain ⟨L, d, e, hmd⟩ := own_shape Oc.out
      subst e
      go_wp2_with fail
      go_ret
      exact ⟨L, m, d, xs, p', rfl, by omega, Oc.out, by omega, Rc.out, Gc.out⟩

set_option maxHeartbeats 4000000 in
theorem anyOutline_any (w : World) (B g : Nat) (A : Option Addr) (n c : Nat) (bs : List Int) (p : Nat) (hr : RdrAt w B g A n c bs p) (hp : p ≤ 900000) :
    Calls Tryd.prog 25 #[.pointer (some ⟨g, 0, none⟩)] w (MadeInts w B g A n c bs p 13 9) := by
  have hgs : g < w.heap.size := hr.blk.lt
  have hB := hr.size
  have Ra := Lib.hid hr
  clear hr
  go_enter Tryd.func25, Tryd.ntmps25
  go_wp2_with fail
  refine (randomOutline_any _ B g A n c bs p Ra.out hp).mono ?_
  rintro e w1 ⟨L, m, d, xs, p1, rfl, hm, ho, hp1, hR, hG⟩
  have Rb := Lib.hid hR
  have Ob := Lib.hid ho
  have Gb := Lib.hid hG
  clear hR ho hG
  by_cases hm0 : 0 < m
  case neg =>
    have hm1 : decide ((0 : Int) < (m : Int)) = false := decide_eq_false (by omega)
    have hm2 : decide (0 < m) = false := decide_eq_false hm0
    go_wp2_with fail
    go_ret
    exact ⟨L, m, d, xs, p1, rfl, hm, Ob.out, by omega, Rb.out, Gb.out⟩
  have hm1 : (0 : Int) < (m : Int) := by omega
  go_wp2_with fail
  refine (pick_gr _ B g A n c bs p1 10 Rb.out (by omega) (by omega)).mono ?_
  rintro e w2 ⟨v, rfl, _, _, _, hR, hG⟩
  have Rc := Lib.hid hR
  have Oc := Lib.hid (own_gr Ob.out hG hgs)
  have Gc := Lib.hid (gr_trans Gb.out hG)
  clear hR hG
  by_cases hv : v = 0
  case neg =>
    have hv' : (v == 0) = false := by simpa using hv
    go_wp2_with fail
    go_ret
    exact ⟨L, m, d, xs, p1 + 1, rfl, hm, Oc.out, by omega, Rc.out, Gc.out⟩
  subst hv
  go_wp2_with fail
  refine (pick_gr _ B g A n c bs (p1 + 1) (m : Int) Rc.out (by omega) (by omega)).mono ?_
  rintro e w3 ⟨v3, rfl, hv30, hv31, _, hR, hG⟩
  have hv3 := hv31 (by omega)
  obtain ⟨k, rfl⟩ := Int.eq_ofNat_of_zero_le hv30
  have Rq := Lib.hid hR
  have Od := Lib.hid (own_gr Oc.out hG hgs)
  have Gd := Lib.hid (gr_trans Gc.out hG)
  clear hR hG hv31
  go_wp2_with fail
  refine (one_lit w3 B g A n c bs (p1 + 2) [0, 5, 3, 2] _ 4 4 rfl Rq.out (by omega) rfl (by omega) (by omega) _).mono ?_
  rintro e w4 ⟨z, rfl, _, hR, hG⟩
  obtain ⟨gl, rfl, hgl, hmd', hdm⟩ := own_headI Od.out hm0
  have Re := Lib.hid hR
  have Oe := Lib.hid (own_gr Od.out hG hgs)
  have Ge := Lib.hid (gr_trans Gd.out hG)
  clear hR hG
  have hkm : k < m := by omega
  have hcell : ∃ u, w4.cell? ⟨gl, k, none⟩ = some (.int .i64 u) := by
    have hl : k < xs.length := by rw [(Rd.own Oe.out).len]; exact hkm
    exact ⟨xs[k], by rw [Oe.out.cellAt k (by omega), ints, List.getElem?_map, List.getElem?_eq_getElem hl]; rfl⟩
  obtain ⟨u, hcell⟩ := hcell
  have hf := Oe.out.frozenAt k
  have ST := Lib.hid (Oe.out.stored k (.int .i64 z)).1
  have SR := Lib.hid (Re.out.grown (gr_set0 w4 gl k (.int .i64 z)) (fun k hk => by injection hk with hk; omega))
  have SG := Lib.hid (gr_own Ge.out (gr_set0 w4 gl k (.int .i64 z)) (fun k hk => .inl (by injection hk with hk; omega)))
  go_wp2_with fail
  go_ret
  refine ⟨_, m, d, xs.set k z, p1 + 3, rfl, hm, ?_, by omega, SR.out, SG.out⟩
  have h := ST.out
  rw [ints_set] at h
  exact h

/-- Levels and an index, the levels in new memory. -/
def LevelsI (w : World) (e : Ending) (w' : World) : Prop :=
  ∃ L m d xs i, e = .returned (.tuple #[.slice L m d, .int .i64 i]) ∧ m ≤ 9 ∧ m ≤ d ∧ Rd w' 1 L m (ints xs) ∧ -1 ≤ i ∧ i ≤ 9 ∧ Below w.heap.size w w'

set_option maxHeartbeats 2000000 in
theorem DrawParentOf_any (w : World) (a : Option Addr) (n c : Nat) (zs : List Int) (h : InBytes w a n c zs) :
    Calls Tryd.prog 13 #[.slice a n c] w (LevelsI w) := by
  have HN := Lib.hid (newReader_any w a n c zs h)
  clear h
  go_enter Tryd.func13, Tryd.ntmps13
  go_wp2_with fail
  refine HN.out.mono ?_
  rintro e w1 ⟨A, rn, rc, bs, rfl, hR, hB⟩
  have R1 := Lib.hid hR
  have B1 := Lib.hid hB
  clear hR hB HN
  have hg1 : w.heap.size < w1.heap.size := R1.out.blk.lt
  go_wp2_with fail
  refine (anyOutline_any w1 _ _ A rn rc bs 0 R1.out (by omega)).mono ?_
  rintro e w2 ⟨L, m, d, xs, p2, rfl, hm, ho, hp2, hR, hG⟩
  have R2 := Lib.hid hR
  have O2 := Lib.hid ho
  have B2 := Lib.hid (below_gr B1.out hG (Nat.le_refl _))
  clear hR ho hG
  go_wp2_with fail
  refine (pick_gr w2 _ _ A rn rc bs p2 ((m : Int) + 1) R2.out (by omega) (by omega)).mono ?_
  rintro e w3 ⟨v, rfl, hv0, hv1, _, hR, hG⟩
  have hv := hv1 (by omega)
  have R3 := Lib.hid hR
  have O3 := Lib.hid (own_gr O2.out hG hg1)
  have B3 := Lib.hid (below_gr B2.out hG (Nat.le_refl _))
  clear hR hG hv1
  go_wp2_with fail
  refine (pick_gr w3 _ _ A rn rc bs (p2 + 1) 2 R3.out (by omega) (by omega)).mono ?_
  rintro e w4 ⟨u, rfl, hu0, hu1, _, hR, hG⟩
  have hu := hu1 (by omega)
  have O4 := Lib.hid (own_gr O3.out hG hg1)
  have B4 := Lib.hid (below_gr B3.out hG (Nat.le_refl _))
  obtain ⟨L0, d0, e0, hmd⟩ := own_shape O4.out
  injection e0 with e1 e2 e3
  subst e1
  subst e3
  clear hR hG hu1
  go_wp2_with fail
  go_ret2
  exact ⟨L, m, d, xs, v - u, rfl, hm, hmd, Rd.own O4.out, by omega, by omega, B4.out⟩
end Go.Proofs.YtdgmienljhaipaaDoor
