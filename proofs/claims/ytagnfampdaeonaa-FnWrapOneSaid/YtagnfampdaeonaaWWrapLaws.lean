/-
  The walks of FnWrapWords, FnWrapOne and FnWrapMove: the ends are accepted, one line costs nothing, and the ends behind a line are those of the words behind it.
-/
import Derived.Test.YtagnfampdaeonaaWrapWords
import Derived.Test.YtagnfampdaeonaaWrapEnds
import Derived.Test.YtagnfampdaeonaaWrapFacts
import Derived.Test.YtagnfampdaeonaaDrawWords
namespace Go.Proofs.Ytagnfampdaeonaa
open Go.RowKit
set_option linter.unusedVariables false

theorem cost_ret {P : Program} {f : FuncId} {args : Array Value} {w : World} {p : Int × Bool} {s : Int} {b : Bool} (hp : p = (s, b)) (h : Calls P f args w fun e w' => e = .returned (.tuple #[.int .i64 p.1, .bool p.2]) ∧ ∃ q, w' = w.drewN q) :
    Calls P f args w fun e w' => e = .returned (.tuple #[.int .i64 s, .bool b]) ∧ ∃ q, w' = w.drewN q := by subst hp; exact h

set_option maxHeartbeats 4000000 in
theorem FnWrapWords_walk (w : World) (a0 : Option Addr) (n0 c0 : Nat) (x0 : List Int) (h0 : InBytes w a0 n0 c0 x0) :
    Calls Try.prog 6 #[.slice a0 n0 c0] w fun e w' => e = .returned (.bool true) ∧ Below w.heap.size w w' := by
  have HD := Lib.hid (DrawWrapWords_any w a0 n0 c0 x0 h0)
  clear h0
  by_cases g0 : n0 ≤ 1048576
  case neg =>
    go_enter Try.func6, Try.ntmps6
    go_wp2
    go_ret
    exact ⟨rfl, Below.refl _ _⟩
  go_enter Try.func6, Try.ntmps6
  go_wp2_with fail
  refine HD.out.mono ?_
  rintro e w1 ⟨L, m, d, xs, wd, rfl, hm, hmd, hx, hxs, hw0, hw1, hB⟩
  have B0 := Lib.hid hB
  have X0 := Lib.hid hx
  have XL := Lib.hid hx.slen
  have XS := Lib.hid hxs
  have Z0 : Hid (∀ s ∈ xs, s.size ≤ 9223372036854775807) := fun s hs => by have := hxs s hs; omega
  clear hB hx hxs HD
  obtain ⟨E, hE⟩ : ∃ E, E = wEnds xs wd := ⟨_, rfl⟩
  have HEq := Lib.hid hE
  clear hE
  go_wp2_with fail
  refine (implWords_any L m d xs wd _ X0.out (by omega) hmd Z0.out).mono ?_
  rintro e u1 ⟨Ag, kg, dg, rfl, ho, hb⟩
  rw [← HEq.out] at ho
  have Og := Lib.hid ho; clear ho
  have B1 := Lib.hid hb; clear hb
  have z1 : w1.heap.size ≤ u1.heap.size := B1.out.size
  have C1 := Lib.hid (below_step (Below.refl w1.heap.size w1) B1.out)
  have mg : E.length = kg := (Rd.own Og.out).len
  have ng : kg ≤ 40 := by have h := wEnds_len xs wd; rw [← HEq.out] at h; omega
  go_wp2_with fail
  refine (specWrap_any L m d xs wd _ (X0.out.below C1.out) (by omega) hmd Z0.out).mono ?_
  rintro e u2 ⟨As, ks, ds, rfl, ho, hb⟩
  rw [← HEq.out] at ho
  have Os := Lib.hid ho; clear ho
  have B2 := Lib.hid hb; clear hb
  have z2 : u1.heap.size ≤ u2.heap.size := B2.out.size
  have C2 := Lib.hid (below_step C1.out B2.out)
  have ms : E.length = ks := (Rd.own Os.out).len
  have ns : ks ≤ 40 := by have h := wEnds_len xs wd; rw [← HEq.out] at h; omega
  go_wp2_with fail
  refine (equalInts_any Ag As kg ks dg ds E E _ (Rd.own (own_below Og.out B2.out)) (Rd.own Os.out) (by omega) (by omega)).mono ?_
  rintro e u3 ⟨rfl, hb⟩
  have B3 := Lib.hid (below_of_drew (B := u2.heap.size) hb); clear hb
  have z3 : u2.heap.size ≤ u3.heap.size := B3.out.size
  have C3 := Lib.hid (below_step C2.out B3.out)
  by_cases hk : kg = 0
  case pos =>
    have hk' : ((kg : Int) == 0) = true := by simp [hk]
    clear mg ms hk
    go_wp2_with fail
    refine (specWrap_any L m d xs wd _ (X0.out.below C3.out) (by omega) hmd Z0.out).mono ?_
    rintro e u4 ⟨At, kt, dt, rfl, ho, hb⟩
    rw [← HEq.out] at ho
    have Ot := Lib.hid ho; clear ho
    have B4 := Lib.hid hb; clear hb
    have z4 : u3.heap.size ≤ u4.heap.size := B4.out.size
    have C4 := Lib.hid (below_step C3.out B4.out)
    have mt : E.length = kt := (Rd.own Ot.out).len
    have nt : kt ≤ 40 := by have h := wEnds_len xs wd; rw [← HEq.out] at h; omega
    go_wp2_with fail
    refine (equalInts_any Ag At kg kt dg dt E E _ (Rd.own (own_below (own_below (own_below Og.out B2.out) B3.out) B4.out)) (Rd.own Ot.out) (by omega) (by omega)).mono ?_
    rintro e u5 ⟨rfl, hb⟩
    have B5 := Lib.hid (below_of_drew (B := u4.heap.size) hb); clear hb
    have z5 : u4.heap.size ≤ u5.heap.size := B5.out.size
    have C5 := Lib.hid (below_step C4.out B5.out)
    go_wp2_with fail
    go_ret
    exact ⟨by first | rfl | simp, below_step B0.out C5.out⟩
  have hk' : ((kg : Int) == 0) = false := by simp; omega
  obtain ⟨hv, hl, hc, hT, hlast⟩ := ends_facts (l := xs) (wd := wd) (by rw [← HEq.out]; intro h; rw [h] at mg; simp at mg; omega)
  rw [← HEq.out] at hc hlast
  rw [XL.out] at hlast
  obtain ⟨S, hS⟩ : ∃ S, S = (wT (sizes xs) wd 0).1 := ⟨_, rfl⟩
  rw [← hS] at hc hT
  have HC := Lib.hid hc
  have HLa := Lib.hid hlast
  clear hc hlast hS mg ms hv hl
  go_wp2_with fail
  refine (cost_ret HC.out (implCost_any L m d xs wd Ag kg dg E _ (X0.out.below C3.out) (Rd.own (own_below (own_below Og.out B2.out) B3.out)) (by omega) (by omega) hmd Z0.out)).mono ?_
  rintro e u4 ⟨rfl, hb⟩
  have B4 := Lib.hid (below_of_drew (B := u3.heap.size) hb); clear hb
  have z4 : u3.heap.size ≤ u4.heap.size := B4.out.size
  have C4 := Lib.hid (below_step C3.out B4.out)
  go_wp2_with fail
  refine (last_any Ag kg dg E _ _ (Rd.own (own_below (own_below (own_below Og.out B2.out) B3.out) B4.out)) (by omega) (by omega) HLa.out).mono ?_
  rintro e w' ⟨rfl, rfl⟩
  go_wp2_with fail
  go_ret
  exact ⟨by first | rfl | simp, below_step B0.out C4.out⟩

set_option maxHeartbeats 4000000 in
theorem FnWrapOne_walk (w : World) (a0 : Option Addr) (n0 c0 : Nat) (x0 : List Int) (h0 : InBytes w a0 n0 c0 x0) :
    Calls Try.prog 7 #[.slice a0 n0 c0] w fun e w' => e = .returned (.bool true) ∧ Below w.heap.size w w' := by
  have HD := Lib.hid (DrawWrapWords_any w a0 n0 c0 x0 h0)
  clear h0
  by_cases g0 : n0 ≤ 1048576
  case neg =>
    go_enter Try.func7, Try.ntmps7
    go_wp2
    go_ret
    exact ⟨rfl, Below.refl _ _⟩
  go_enter Try.func7, Try.ntmps7
  go_wp2_with fail
  refine HD.out.mono ?_
  rintro e w1 ⟨L, m, d, xs, wd, rfl, hm, hmd, hx, hxs, hw0, hw1, hB⟩
  have B0 := Lib.hid hB
  have X0 := Lib.hid hx
  have XL := Lib.hid hx.slen
  have XS := Lib.hid hxs
  have Z0 : Hid (∀ s ∈ xs, s.size ≤ 9223372036854775807) := fun s hs => by have := hxs s hs; omega
  clear hB hx hxs HD
  obtain ⟨E, hE⟩ : ∃ E, E = wEnds xs wd := ⟨_, rfl⟩
  have HEq := Lib.hid hE
  clear hE
  go_wp2_with fail
  refine (implWords_any L m d xs wd _ X0.out (by omega) hmd Z0.out).mono ?_
  rintro e u1 ⟨Ag, kg, dg, rfl, ho, hb⟩
  rw [← HEq.out] at ho
  have Og := Lib.hid ho; clear ho
  have B1 := Lib.hid hb; clear hb
  have z1 : w1.heap.size ≤ u1.heap.size := B1.out.size
  have C1 := Lib.hid (below_step (Below.refl w1.heap.size w1) B1.out)
  have mg : E.length = kg := (Rd.own Og.out).len
  have ng : kg ≤ 40 := by have h := wEnds_len xs wd; rw [← HEq.out] at h; omega
  go_wp2_with fail
  refine (specWrap_any L m d xs wd _ (X0.out.below C1.out) (by omega) hmd Z0.out).mono ?_
  rintro e u2 ⟨As, ks, ds, rfl, ho, hb⟩
  rw [← HEq.out] at ho
  have Os := Lib.hid ho; clear ho
  have B2 := Lib.hid hb; clear hb
  have z2 : u1.heap.size ≤ u2.heap.size := B2.out.size
  have C2 := Lib.hid (below_step C1.out B2.out)
  have ms : E.length = ks := (Rd.own Os.out).len
  have ns : ks ≤ 40 := by have h := wEnds_len xs wd; rw [← HEq.out] at h; omega
  go_wp2_with fail
  refine (equalInts_any Ag As kg ks dg ds E E _ (Rd.own (own_below Og.out B2.out)) (Rd.own Os.out) (by omega) (by omega)).mono ?_
  rintro e u3 ⟨rfl, hb⟩
  have B3 := Lib.hid (below_of_drew (B := u2.heap.size) hb); clear hb
  have z3 : u2.heap.size ≤ u3.heap.size := B3.out.size
  have C3 := Lib.hid (below_step C2.out B3.out)
  by_cases hk : kg = 0
  case pos =>
    have hk' : ((kg : Int) == 0) = true := by simp [hk]
    clear mg ms hk
    go_wp2_with fail
    refine (specWrap_any L m d xs wd _ (X0.out.below C3.out) (by omega) hmd Z0.out).mono ?_
    rintro e u4 ⟨At, kt, dt, rfl, ho, hb⟩
    rw [← HEq.out] at ho
    have Ot := Lib.hid ho; clear ho
    have B4 := Lib.hid hb; clear hb
    have z4 : u3.heap.size ≤ u4.heap.size := B4.out.size
    have C4 := Lib.hid (below_step C3.out B4.out)
    have mt : E.length = kt := (Rd.own Ot.out).len
    have nt : kt ≤ 40 := by have h := wEnds_len xs wd; rw [← HEq.out] at h; omega
    go_wp2_with fail
    refine (equalInts_any Ag At kg kt dg dt E E _ (Rd.own (own_below (own_below (own_below Og.out B2.out) B3.out) B4.out)) (Rd.own Ot.out) (by omega) (by omega)).mono ?_
    rintro e u5 ⟨rfl, hb⟩
    have B5 := Lib.hid (below_of_drew (B := u4.heap.size) hb); clear hb
    have z5 : u4.heap.size ≤ u5.heap.size := B5.out.size
    have C5 := Lib.hid (below_step C4.out B5.out)
    go_wp2_with fail
    go_ret
    exact ⟨by first | rfl | simp, below_step B0.out C5.out⟩
  have hk' : ((kg : Int) == 0) = false := by simp; omega
  obtain ⟨hv, hl, hc, hT, _⟩ := ends_facts (l := xs) (wd := wd) (by rw [← HEq.out]; intro h; rw [h] at mg; simp at mg; omega)
  rw [← HEq.out] at hc
  have hjs := jw_size hl
  obtain ⟨J, hJ⟩ : ∃ J, J = jw xs := ⟨_, rfl⟩
  have hJb : J.size ≤ 2000 := by rw [hJ]; exact jw_bound (n := 11) (by rw [XL.out]; exact hm) XS.out (by omega)
  rw [← hJ] at hjs
  have CJ := Lib.hid (fun w' h => joinWords_any L m d xs w' h (by omega) XS.out)
  rw [← hJ] at CJ
  have HV := Lib.hid hv
  have HC := Lib.hid hc
  have HT := Lib.hid hT
  have HJS := Lib.hid hjs
  have hl' : 0 < m := by rw [← XL.out]; exact hl
  have HL1 := Lib.hid hl
  clear hJ hv hc hT hjs hl mg ms
  go_wp2_with fail
  refine (CJ.out _ (X0.out.below C3.out)).mono ?_
  rintro e w' ⟨rfl, rfl⟩
  by_cases hjw : wd < (J.size : Int)
  case pos =>
    clear hk
    go_wp2_with fail
    refine (specWrap_any L m d xs wd _ (X0.out.below C3.out) (by omega) hmd Z0.out).mono ?_
    rintro e u4 ⟨At, kt, dt, rfl, ho, hb⟩
    rw [← HEq.out] at ho
    have Ot := Lib.hid ho; clear ho
    have B4 := Lib.hid hb; clear hb
    have z4 : u3.heap.size ≤ u4.heap.size := B4.out.size
    have C4 := Lib.hid (below_step C3.out B4.out)
    have mt : E.length = kt := (Rd.own Ot.out).len
    have nt : kt ≤ 40 := by have h := wEnds_len xs wd; rw [← HEq.out] at h; omega
    go_wp2_with fail
    refine (equalInts_any Ag At kg kt dg dt E E _ (Rd.own (own_below (own_below (own_below Og.out B2.out) B3.out) B4.out)) (Rd.own Ot.out) (by omega) (by omega)).mono ?_
    rintro e u5 ⟨rfl, hb⟩
    have B5 := Lib.hid (below_of_drew (B := u4.heap.size) hb); clear hb
    have z5 : u4.heap.size ≤ u5.heap.size := B5.out.size
    have C5 := Lib.hid (below_step C4.out B5.out)
    go_wp2_with fail
    go_ret
    exact ⟨by first | rfl | simp, below_step B0.out C5.out⟩
  have HT1 := Lib.hid (wT_one (L := sizes xs) (W := wd) (by rw [sizes_length]; exact HL1.out) (by rw [← HJS.out]; omega))
  have HC0 : Hid (wCost xs wd E = (0, true)) := by show _ = _; rw [HC.out, show (wT (sizes xs) wd 0).1 = 0 from by have h1 := HT1.out; have h2 := HT.out; omega]
  have HC1 : Hid (wCost xs wd [(m : Int)] = (0, true)) := wCost_some HV.out (by have h := wcost_one (L := sizes xs) (W := wd) (by rw [sizes_length]; exact HL1.out) (by rw [← HJS.out]; omega); rw [sizes_length, XL.out] at h; exact h)
  go_wp2_with fail
  refine (cost_ret HC0.out (implCost_any L m d xs wd Ag kg dg E _ (X0.out.below C3.out) (Rd.own (own_below (own_below Og.out B2.out) B3.out)) (by omega) (by omega) hmd Z0.out)).mono ?_
  rintro e u4 ⟨rfl, hb⟩
  have B4 := Lib.hid (below_of_drew (B := u3.heap.size) hb); clear hb
  have z4 : u3.heap.size ≤ u4.heap.size := B4.out.size
  have C4 := Lib.hid (below_step C3.out B4.out)
  have HL2 : Hid (Rd (World.alloc u4 (.cells #[.int .i64 (m : Int)] 3)) 1 (some ⟨u4.heap.size, 0, none⟩) 1 (ints [(m : Int)])) := by
    refine ⟨rfl, fun _ => ⟨u4.heap.size, 0, rfl, fun j hj => ?_⟩⟩
    rw [cell_of_row _ u4.heap.size (0 + j) _ 3 (0, 0) (heap_alloc_new u4 _)]
    simp [ints]
  have HX2 : Hid (Rd (World.alloc u4 (.cells #[.int .i64 (m : Int)] 3)) 1 L m (strs' xs)) := (X0.out.below C4.out).below ((Below.refl _ _).alloc (Nat.le_refl _) _)
  go_wp2_with fail
  refine (cost_ret HC1.out (implCost_any L m d xs wd (some ⟨u4.heap.size, 0, none⟩) 1 1 [(m : Int)] _ HX2.out HL2.out (by omega) (by omega) hmd Z0.out)).mono ?_
  rintro e w9 ⟨rfl, hb⟩
  have B9 := Lib.hid (below_of_drew (B := (World.alloc u4 (.cells #[.int .i64 (m : Int)] 3)).heap.size) hb); clear hb
  go_wp2_with fail
  go_ret
  exact ⟨by first | rfl | simp, below_step B0.out (below_step ((C4.out).alloc (C4.out).size _) B9.out)⟩

end Go.Proofs.Ytagnfampdaeonaa
