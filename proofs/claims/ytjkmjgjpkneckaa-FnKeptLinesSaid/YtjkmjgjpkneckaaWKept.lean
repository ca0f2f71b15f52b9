/-
  The walk of FnKeptLines: what two lists have in common is counted alike from both sides, is equal, and goes no further.
-/
import Derived.Test.YtjkmjgjpkneckaaDrawEnds
namespace Go.Proofs.Ytjkmjgjpkneckaa
open Go.RowKit
set_option linter.unusedVariables false

set_option maxHeartbeats 4000000 in
theorem FnKeptLines_walk (w : World) (a0 : Option Addr) (n0 c0 : Nat) (x0 : List Int) (h0 : InBytes w a0 n0 c0 x0) :
    Calls Try.prog 4 #[.slice a0 n0 c0] w fun e w' => e = .returned (.bool true) ∧ Below w.heap.size w w' := by
  by_cases g0 : n0 ≤ 1048576
  case neg =>
    clear h0
    go_enter Try.func4, Try.ntmps4
    go_wp2
    go_ret
    exact ⟨rfl, Below.refl _ _⟩
  have HD := Lib.hid (DrawKeptLines_any w a0 n0 c0 x0 h0)
  clear h0
  go_enter Try.func4, Try.ntmps4
  go_wp2_with fail
  refine HD.out.mono ?_
  rintro e w1 ⟨L, m, d, xs, L', m', d', ys, rfl, hm, hm', hmd, hmd', hx, hy, hB⟩
  have B1 := Lib.hid hB
  have X1 := Lib.hid hx
  have Y1 := Lib.hid hy
  clear hB hx hy HD
  go_wp2_with fail
  refine (implKept_any L L' m m' d d' xs ys _ X1.out Y1.out (by omega) (by omega)).mono ?_
  obtain ⟨K, hK⟩ : ∃ K, K = cpre xs ys := ⟨_, rfl⟩
  rw [← hK]
  have hKm : K ≤ m := by rw [hK, ← X1.out.len]; exact cpre_le xs ys
  have hKm' : K ≤ m' := by rw [hK, ← Y1.out.len]; exact cpre_le' xs ys
  have HK := Lib.hid hK
  clear hK
  rintro e w2 ⟨rfl, hq⟩
  have B2 := Lib.hid (below_of_drew (B := w1.heap.size) hq)
  have X2 := Lib.hid (X1.out.below B2.out)
  have Y2 := Lib.hid (Y1.out.below B2.out)
  clear hq
  go_wp2_with fail
  refine (keptSpec_any L L' m m' d d' xs ys _ X2.out Y2.out (by omega) (by omega)).mono ?_
  rw [← HK.out]
  rintro e w3 ⟨rfl, hq⟩
  have B3 := Lib.hid (below_of_drew (B := w2.heap.size) hq)
  have X3 := Lib.hid (X2.out.below B3.out)
  have Y3 := Lib.hid (Y2.out.below B3.out)
  clear hq
  have HB := Lib.hid (below_step (below_step B1.out B2.out) B3.out)
  have C1 : Hid (∀ q, Calls Try.prog 15 #[.slice L' m' d', .slice L m d] (w3.drewN q) fun e w' => e = .returned (.int .i64 K) ∧ ∃ r, w' = (w3.drewN q).drewN r) := fun q => by
    rw [HK.out, cpre_comm]
    exact implKept_any L' L m' m d' d ys xs _ (Y3.out.drewN q) (X3.out.drewN q) (by omega) (by omega)
  have C2 : Hid (∀ q, Calls Try.prog 18 #[.slice L K d, .slice L' K d'] (w3.drewN q) fun e w' => e = .returned (.bool true) ∧ ∃ r, w' = (w3.drewN q).drewN r) := fun q => by
    have hx := X3.out.take hKm
    have hy := Y3.out.take hKm'
    rw [Nat.mul_one, ints, ← List.map_take] at hx hy
    have h := equalInts_any L L' K K d d' (xs.take K) (ys.take K) (w3.drewN q) (Rd.drewN hx q) (Rd.drewN hy q) (by omega) (by omega)
    rw [HK.out, cpre_take, ← HK.out] at h
    simpa using h
  have C3 : Hid (∀ q, Calls Try.prog 15 #[.slice L m d, .slice L m d] (w3.drewN q) fun e w' => e = .returned (.int .i64 m) ∧ ∃ r, w' = (w3.drewN q).drewN r) := fun q => by
    have h := implKept_any L L m m d d xs xs _ (X3.out.drewN q) (X3.out.drewN q) (by omega) (by omega)
    rw [cpre_self, X3.out.len] at h
    exact h
  have hKd : (K : Int) ≤ d := by omega
  have hKd' : (K : Int) ≤ d' := by omega
  have hK0 : (0 : Int) ≤ K := by omega
  have hKK : ((K : Int) != (K : Int)) = false := by simp
  by_cases e1 : K = m
  · have e1' : ((K : Int) == (m : Int)) = true := by simp [e1]
    clear e1
    go_wp2_with fail
    go_quiet (first | (go_at_call_of 15 (Value.slice L' m' d'); exact Calls.quiet_of (C1.out _)) | (go_at_call 18; exact Calls.quiet_of (C2.out _)) | (go_at_call 15; exact Calls.quiet_of (C3.out _)))
    go_wp2
    go_ret
    exact ⟨rfl, below_drewN' HB.out nq⟩
  have e1' : ((K : Int) == (m : Int)) = false := by simp; omega
  by_cases e2 : K = m'
  · have e2' : ((K : Int) == (m' : Int)) = true := by simp [e2]
    clear e1 e2
    go_wp2_with fail
    go_quiet (first | (go_at_call_of 15 (Value.slice L' m' d'); exact Calls.quiet_of (C1.out _)) | (go_at_call 18; exact Calls.quiet_of (C2.out _)) | (go_at_call 15; exact Calls.quiet_of (C3.out _)))
    go_wp2
    go_ret
    exact ⟨rfl, below_drewN' HB.out nq⟩
  have e2' : ((K : Int) == (m' : Int)) = false := by simp; omega
  have hlt1 : (K : Int) < m := by omega
  have hlt2 : (K : Int) < m' := by omega
  obtain ⟨b, o, x, eL, ex, hcx⟩ := X3.out.int_at (k := K) (by omega)
  obtain ⟨b', o', y, eL', ey, hcy⟩ := Y3.out.int_at (k := K) (by omega)
  subst eL
  subst eL'
  have hxy : (x != y) = true := by
    have h := cpre_next xs ys (by rw [← HK.out, X1.out.len]; omega) (by rw [← HK.out, Y1.out.len]; omega)
    rw [← HK.out, ex, ey] at h
    simpa using h
  clear e1 e2 ex ey
  go_wp2_with fail
  go_quiet (first | (go_at_call_of 15 (Value.slice (some ⟨b', o', none⟩) m' d'); exact Calls.quiet_of (C1.out _)) | (go_at_call 18; exact Calls.quiet_of (C2.out _)) | (go_at_call 15; exact Calls.quiet_of (C3.out _)))
  go_wp2
  go_ret
  exact ⟨rfl, below_drewN' HB.out nq⟩
end Go.Proofs.Ytjkmjgjpkneckaa
