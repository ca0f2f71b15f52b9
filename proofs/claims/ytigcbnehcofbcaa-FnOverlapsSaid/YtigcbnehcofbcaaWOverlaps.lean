/-
  The walk of FnOverlaps: the two texts that are found are in the same row, and overlap also alone.
-/
import Derived.Test.YtigcbnehcofbcaaDrawPlaced2
import Derived.Test.YtigcbnehcofbcaaOverlaps
import Derived.StillTailTactics
import Derived.Deep.RegionHeld3
namespace Go.Proofs.Ytigcbnehcofbcaa
open Go.RowKit
set_option linter.unusedVariables false

theorem vPlaced_pair {l : List Pl} {pw ph : Int} (h : vPlaced l pw ph = true) {i k : Nat} {p q : Pl} (hp : l[i]? = some p) (hq : l[k]? = some q) : vPlaced [p, q] pw ph = true := by
  simp only [vPlaced, Bool.and_eq_true, decide_eq_true_eq, List.all_eq_true] at h ⊢
  obtain ⟨⟨⟨h1, h2⟩, h3⟩, h4⟩ := h
  refine ⟨⟨⟨h1, h2⟩, by simp⟩, fun x hx => ?_⟩
  simp only [List.mem_cons, List.not_mem_nil, or_false] at hx
  rcases hx with rfl | rfl
  · exact h4 _ (List.mem_of_getElem? hp)
  · exact h4 _ (List.mem_of_getElem? hq)

theorem ov_pair {p q : Pl} (h : ovB p q) {pw ph : Int} (hv : vPlaced [p, q] pw ph = true) : OvSays [p, q] pw ph 0 1 true :=
  .inl ⟨hv, .inl ⟨rfl, 0, 1, rfl, rfl, ⟨by omega, p, q, rfl, rfl, h⟩, fun a c ha => absurd ha (by omega), fun c hc ho => by have := ho.1; omega⟩⟩

theorem ov_found {l : List Pl} {pw ph i k : Int} (h : OvSays l pw ph i k true) : ∃ (i' k' : Nat) (p q : Pl), i = i' ∧ k = k' ∧ i' < k' ∧ l[i']? = some p ∧ l[k']? = some q ∧ ovB p q ∧ vPlaced l pw ph = true := by
  rcases h with ⟨hv, h⟩ | ⟨_, _, _, h⟩
  · rcases h with ⟨_, i', k', rfl, rfl, ⟨hlt, p, q, hp, hq, ho⟩, _⟩ | ⟨h, _⟩
    · exact ⟨i', k', p, q, rfl, rfl, hlt, hp, hq, ho, hv⟩
    · cases h
  · cases h

theorem ov_not {l : List Pl} {pw ph i k : Int} (h : OvSays l pw ph i k false) : i = -1 ∧ k = -1 := by
  rcases h with ⟨_, h⟩ | ⟨_, h1, h2, _⟩
  · rcases h with ⟨h, _⟩ | ⟨_, h1, h2, _⟩
    · cases h
    · exact ⟨h1, h2⟩
  · exact ⟨h1, h2⟩

theorem below_after_alloc {w w' : World} {o : Obj} (h : Below (w.alloc o).drew.heap.size (w.alloc o).drew w') : Below w.heap.size w w' :=
  (show Below w.heap.size w (w.alloc o).drew from ((Below.refl _ w).alloc (Nat.le_refl _) o).drew).trans (h.mono (by show _ ≤ (w.alloc o).heap.size; rw [World.size_alloc]; omega))

theorem rd_pair {w : World} {g : Nat} {p q : Pl} {E : TypeId} {fr : Nat × Nat} (h : w.heap[g]? = some (.cells #[.int .i64 p.x, .int .i64 p.y, .string p.t, .int .i64 q.x, .int .i64 q.y, .string q.t] E fr)) : Rd w 3 (some ⟨g, 0, none⟩) 2 (placeds [p, q]) := by
  refine ⟨rfl, fun _ => ⟨g, 0, rfl, fun j hj => ?_⟩⟩
  rw [cell_of_row w g (0 + j) _ _ fr h]
  simp [placeds, Pl.cells]

set_option maxHeartbeats 6000000 in
theorem FnOverlaps_walk (w : World) (a0 : Option Addr) (n0 c0 : Nat) (x0 : List Int) (h0 : InBytes w a0 n0 c0 x0) :
    Calls Try.prog 6 #[.slice a0 n0 c0] w fun e w' => e = .returned (.bool true) ∧ Below w.heap.size w w' := by
  have HD := Lib.hid (DrawOverlaps_any w a0 n0 c0 x0 h0)
  clear h0
  by_cases g0 : n0 ≤ 1048576
  case neg =>
    go_enter Try.func6, Try.ntmps6
    go_wp2
    go_ret
    exact ⟨rfl, Below.refl _ _⟩
  go_enter Try.func6, Try.ntmps6
  go_wp2_with fail
  refine HD.out.mono ?_
  rintro e w1 ⟨L, m, d, xs, pw, ph, rfl, hm, hmd, hx, hxs, hw0, hw1, hh0, hh1, hB⟩
  have X1 := Lib.hid hx
  have HL := Lib.hid hx.placed_len
  have XS : Hid (∀ p ∈ xs, p.t.size ≤ 1048576) := fun p hp => by have := hxs p hp; omega
  have B1 := Lib.hid hB
  clear hx hxs hB HD
  go_wp2_with fail
  refine (implOverlaps_any L m d xs w1 pw ph X1.out (by omega) XS.out).mono ?_
  rintro e w2 ⟨i, k, b, rfl, hs, hb⟩
  have S1 := Lib.hid hs
  have B2 := Lib.hid hb
  clear hs hb
  go_wp2_with fail
  refine (specOverlaps_any L m d xs w2 pw ph (X1.out.below B2.out) (by omega) XS.out).mono ?_
  rintro e w3 ⟨i', k', b', rfl, hs, hb⟩
  obtain ⟨rfl, rfl, rfl⟩ := OvSays.uniq hs S1.out
  have B3 := Lib.hid hb
  clear hs hb
  cases b'
  · obtain ⟨rfl, rfl⟩ := ov_not S1.out
    go_wp2_with fail
    go_ret
    exact ⟨rfl, below_step (below_step B1.out B2.out) B3.out⟩
  obtain ⟨i, k, p, q, rfl, rfl, hik, hp, hq, ho, hv⟩ := ov_found S1.out
  have hkm : k < m := by rw [← HL.out]; exact (List.getElem?_eq_some_iff.1 hq).1
  have SP := Lib.hid (ov_pair ho (vPlaced_pair hv hp hq))
  have hpz := XS.out p (List.mem_of_getElem? hp)
  have hqz := XS.out q (List.mem_of_getElem? hq)
  obtain ⟨b, o, p', rfl, ep, hc0, hc1, hc2⟩ := ((X1.out.below B2.out).below B3.out).placed_at (k := i) (by omega)
  obtain ⟨b', o', q', e1, eq, hd0, hd1, hd2⟩ := ((X1.out.below B2.out).below B3.out).placed_at (k := k) hkm
  injection e1 with e1
  injection e1 with e1 e2
  subst e1; subst e2
  rw [hp] at ep; rw [hq] at eq
  injection ep with ep; injection eq with eq
  subst ep; subst eq
  have hy : (p.y == q.y) = true := by simpa using ho.1
  clear hp hq hv ho
  have hi0 : (0 : Int) ≤ (i : Int) := by omega
  have hk0 : (0 : Int) ≤ (k : Int) := by omega
  have him : (i : Int) < (m : Int) := by omega
  have hkm' : (k : Int) < (m : Int) := by omega
  have hik' : ¬ (k : Int) ≤ (i : Int) := by omega
  go_wp2_with fail
  have hpq : ∀ r ∈ [p, q], r.t.size ≤ 1048576 := by simpa using And.intro hpz hqz
  go_region_held3 (fun w' => w'.cell? ⟨b, o + i * 3, none⟩ = some (.int .i64 p.x) ∧ w'.cell? ⟨b, o + i * 3 + 1, none⟩ = some (.int .i64 p.y) ∧ w'.cell? ⟨b, o + i * 3 + 2, none⟩ = some (.string p.t) ∧ w'.cell? ⟨b, o + k * 3, none⟩ = some (.int .i64 q.x) ∧ w'.cell? ⟨b, o + k * 3 + 1, none⟩ = some (.int .i64 q.y) ∧ w'.cell? ⟨b, o + k * 3 + 2, none⟩ = some (.string q.t)) (first | go_keep | exact ⟨cell_below hb (cell_alloc hc0 _), cell_below hb (cell_alloc hc1 _), cell_below hb (cell_alloc hc2 _), cell_below hb (cell_alloc hd0 _), cell_below hb (cell_alloc hd1 _), cell_below hb (cell_alloc hd2 _)⟩)
    (first | (go_at_call 17; refine (implOverlaps_any _ 2 2 [p, q] (World.alloc w3 _).drew pw ph (rd_pair (w := (World.alloc w3 _).drew) (heap_alloc_new w3 _)) (by omega) hpq).mono ?_; rintro e w4 ⟨i', k', b', rfl, hs, hb⟩))
  obtain ⟨rfl, rfl, rfl⟩ := OvSays.uniq hs SP.out
  have B4 := Lib.hid (below_after_alloc hb)
  have hc1' := cell_below B4.out hc1
  have hd1' := cell_below B4.out hd1
  clear hs hb
  go_wp2_with fail
  go_quiet (fail)
  go_wp2_with fail
  go_ret
  refine ⟨?_, below_step (below_step (below_step B1.out B2.out) B3.out) (below_drewN' B4.out _)⟩
  simp [hy]
end Go.Proofs.Ytigcbnehcofbcaa
