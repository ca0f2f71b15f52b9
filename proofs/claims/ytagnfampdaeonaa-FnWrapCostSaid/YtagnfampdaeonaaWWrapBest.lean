/-
  The walks of FnWrapBest and FnWrapCost: no ends have a lower sum than those of WrapWords, and the sum is that of all lines but the last.
-/
import Derived.Test.YtagnfampdaeonaaWrapFacts
import Derived.Test.YtagnfampdaeonaaDrawCost
import Derived.IntWalk
namespace Go.Proofs.Ytagnfampdaeonaa
open Go.RowKit
set_option linter.unusedVariables false

theorem cost_retC {P : Program} {f : FuncId} {args : Array Value} {w : World} {p : Int × Bool} {s : Int} {b : Bool} (hp : (s, b) = p) (h : Calls P f args w fun e w' => e = .returned (.tuple #[.int .i64 p.1, .bool p.2]) ∧ ∃ q, w' = w.drewN q) :
    Calls P f args w fun e w' => e = .returned (.tuple #[.int .i64 s, .bool b]) ∧ ∃ q, w' = w.drewN q := by subst hp; exact h

theorem wCost_inv {l : List ByteArray} {wd : Int} {es : List Int} {s : Int} (h : (s, true) = wCost l wd es) : vWrap l wd = true ∧ wcost (sizes l) wd 0 es = some s := by
  unfold wCost at h
  split at h
  · rename_i hv
    refine ⟨hv, ?_⟩
    split at h
    · rename_i t ht
      injection h with h _
      rw [ht, h]
    · injection h with _ h
      cases h
  · injection h with _ h
    cases h

def SumRel (L : List Nat) (wd N : Int) (n m : Nat) (es : List Int) (t f i : Value) : Prop :=
  ∃ (k fr : Nat) (tot : Int), i = .int .i64 (k : Int) ∧ k ≤ m ∧ f = .int .i64 (fr : Int) ∧ fr ≤ n ∧ t = .int .i64 tot ∧ 0 ≤ tot ∧ tot ≤ 3600 * (fr : Int) ∧ wcost L wd fr (es.drop k) = some (N - tot)

theorem costsum_end {L : List Nat} {wd T : Int} {fr : Nat} {es : List Int} (hl : es.length ≤ 1) (hf : fr ≤ L.length) (h : wcost L wd fr es = some T) : T = 0 := by
  match es, hl with
  | [], _ =>
    rw [wcost] at h
    split at h
    · injection h with h; exact h.symm
    · cases h
  | [e], _ =>
    rw [wcost] at h
    split at h
    · cases h
    · rename_i hc
      by_cases he : e.toNat = L.length
      · rw [wcost, if_pos he, if_neg (by omega)] at h
        simp at h
        exact h.symm
      · rw [wcost, if_neg he] at h
        cases h

theorem costsum_step {L : List Nat} {wd T : Int} {fr : Nat} {e : Int} {es : List Int} (h : wcost L wd fr (e :: es) = some T) (hes : es ≠ []) :
    (fr : Int) < e ∧ e < (L.length : Int) ∧ 0 ≤ wrest L wd fr e.toNat ∧ wcost L wd e.toNat es = some (T - wrest L wd fr e.toNat * wrest L wd fr e.toNat) := by
  rw [wcost] at h
  split at h
  · cases h
  · rename_i hc
    cases hs : wcost L wd e.toNat es with
    | none => rw [hs] at h; cases h
    | some s =>
      rw [hs] at h
      simp only [Option.map_some, Option.some.injEq] at h
      have hlt : e < (L.length : Int) := by
        rcases Int.lt_or_le e (L.length : Int) with h1 | h1
        · exact h1
        · exfalso
          obtain ⟨e', es', rfl⟩ := List.exists_cons_of_ne_nil hes
          rw [wcost, if_pos (by omega)] at hs
          cases hs
      rw [if_pos hlt] at h
      refine ⟨by omega, hlt, by omega, ?_⟩
      rw [Option.some.injEq]
      omega

set_option maxHeartbeats 4000000 in
theorem FnWrapBest_walk (w : World) (a0 : Option Addr) (n0 c0 : Nat) (x0 : List Int) (h0 : InBytes w a0 n0 c0 x0) :
    Calls Try.prog 9 #[.slice a0 n0 c0] w fun e w' => e = .returned (.bool true) ∧ Below w.heap.size w w' := by
  have HD := Lib.hid (DrawWrapCost_any w a0 n0 c0 x0 h0)
  clear h0
  by_cases g0 : n0 ≤ 1048576
  case neg =>
    go_enter Try.func9, Try.ntmps9
    go_wp2
    go_ret
    exact ⟨rfl, Below.refl _ _⟩
  go_enter Try.func9, Try.ntmps9
  go_wp2_with fail
  refine HD.out.mono ?_
  rintro e w1 ⟨L, m, d, xs, wd, L', m', d', es, rfl, hm, hmd, hm', hx, hxs, hw0, hw1, hy, hB⟩
  have B0 := Lib.hid hB
  have X0 := Lib.hid hx
  have Y0 := Lib.hid hy
  have XL := Lib.hid hx.slen
  have YL := Lib.hid hy.len
  have XS := Lib.hid hxs
  have Z0 : Hid (∀ s ∈ xs, s.size ≤ 9223372036854775807) := fun s hs => by have := hxs s hs; omega
  clear hB hx hy hxs HD
  obtain ⟨⟨N, ok⟩, hC⟩ : ∃ p, p = wCost xs wd es := ⟨_, rfl⟩
  have HC := Lib.hid hC
  clear hC
  go_wp2_with fail
  refine (cost_retC HC.out (implCost_any L m d xs wd L' m' d' es _ X0.out Y0.out (by omega) (by omega) hmd Z0.out)).mono ?_
  rintro e u1 ⟨rfl, hb⟩
  have B1 := Lib.hid (below_of_drew (B := w1.heap.size) hb); clear hb
  have z1 : w1.heap.size ≤ u1.heap.size := B1.out.size
  have C1 := Lib.hid (below_step (Below.refl w1.heap.size w1) B1.out)
  go_wp2_with fail
  refine (cost_retC HC.out (specCost_any L m d xs wd L' m' d' es _ (X0.out.below C1.out) (Y0.out.below C1.out) (by omega) (by omega) hmd Z0.out)).mono ?_
  rintro e u2 ⟨rfl, hb⟩
  have B2 := Lib.hid (below_of_drew (B := u1.heap.size) hb); clear hb
  have z2 : u1.heap.size ≤ u2.heap.size := B2.out.size
  have C2 := Lib.hid (below_step C1.out B2.out)
  cases ok
  case false =>
    go_wp2_with fail
    go_ret
    exact ⟨by first | rfl | simp, below_step B0.out C2.out⟩
  have hv := wCost_inv HC.out
  have hcE := ends_cost (l := xs) (wd := wd) hv.1
  have hle := wcost_least es 0 N (Nat.zero_le _) hv.2
  obtain ⟨E, hE⟩ : ∃ E, E = wEnds xs wd := ⟨_, rfl⟩
  have hEl : E.length ≤ 40 := by rw [hE]; exact wEnds_len xs wd
  rw [← hE] at hcE
  obtain ⟨S, hS⟩ : ∃ S, S = (wT (sizes xs) wd 0).1 := ⟨_, rfl⟩
  rw [← hS] at hcE hle
  have HEq := Lib.hid hE
  have HCE := Lib.hid hcE.1
  clear hE hS hcE hv
  go_wp2_with fail
  refine (implWords_any L m d xs wd _ (X0.out.below C2.out) (by omega) hmd Z0.out).mono ?_
  rintro e u3 ⟨Ag, kg, dg, rfl, ho, hb⟩
  rw [← HEq.out] at ho
  have Og := Lib.hid ho; clear ho
  have B3 := Lib.hid hb; clear hb
  have z3 : u2.heap.size ≤ u3.heap.size := B3.out.size
  have C3 := Lib.hid (below_step C2.out B3.out)
  have mg : E.length = kg := (Rd.own Og.out).len
  have ng : kg ≤ 40 := by omega
  clear mg
  go_wp2_with fail
  refine (cost_retC HCE.out.symm (implCost_any L m d xs wd Ag kg dg E _ (X0.out.below C3.out) (Rd.own Og.out) (by omega) (by omega) hmd Z0.out)).mono ?_
  rintro e u4 ⟨rfl, hb⟩
  have B4 := Lib.hid (below_of_drew (B := u3.heap.size) hb); clear hb
  have z4 : u3.heap.size ≤ u4.heap.size := B4.out.size
  have C4 := Lib.hid (below_step C3.out B4.out)
  go_wp2_with fail
  go_ret
  exact ⟨by first | rfl | simp, below_step B0.out C4.out⟩

set_option maxHeartbeats 4000000 in
theorem FnWrapCost_walk (w : World) (a0 : Option Addr) (n0 c0 : Nat) (x0 : List Int) (h0 : InBytes w a0 n0 c0 x0) :
    Calls Try.prog 8 #[.slice a0 n0 c0] w fun e w' => e = .returned (.bool true) ∧ Below w.heap.size w w' := by
  have HD := Lib.hid (DrawWrapCost_any w a0 n0 c0 x0 h0)
  clear h0
  by_cases g0 : n0 ≤ 1048576
  case neg =>
    go_enter Try.func8, Try.ntmps8
    go_wp2
    go_ret
    exact ⟨rfl, Below.refl _ _⟩
  go_enter Try.func8, Try.ntmps8
  go_wp2_with fail
  refine HD.out.mono ?_
  rintro e w1 ⟨L, m, d, xs, wd, L', m', d', es, rfl, hm, hmd, hm', hx, hxs, hw0, hw1, hy, hB⟩
  have B0 := Lib.hid hB
  have X0 := Lib.hid hx
  have Y0 := Lib.hid hy
  have XL := Lib.hid hx.slen
  have YL := Lib.hid hy.len
  have XS := Lib.hid hxs
  have Z0 : Hid (∀ s ∈ xs, s.size ≤ 9223372036854775807) := fun s hs => by have := hxs s hs; omega
  clear hB hx hy hxs HD
  obtain ⟨⟨N, ok⟩, hC⟩ : ∃ p, p = wCost xs wd es := ⟨_, rfl⟩
  have HC := Lib.hid hC
  clear hC
  go_wp2_with fail
  refine (cost_retC HC.out (implCost_any L m d xs wd L' m' d' es _ X0.out Y0.out (by omega) (by omega) hmd Z0.out)).mono ?_
  rintro e u1 ⟨rfl, hb⟩
  have B1 := Lib.hid (below_of_drew (B := w1.heap.size) hb); clear hb
  have z1 : w1.heap.size ≤ u1.heap.size := B1.out.size
  have C1 := Lib.hid (below_step (Below.refl w1.heap.size w1) B1.out)
  go_wp2_with fail
  refine (cost_retC HC.out (specCost_any L m d xs wd L' m' d' es _ (X0.out.below C1.out) (Y0.out.below C1.out) (by omega) (by omega) hmd Z0.out)).mono ?_
  rintro e u2 ⟨rfl, hb⟩
  have B2 := Lib.hid (below_of_drew (B := u1.heap.size) hb); clear hb
  have z2 : u1.heap.size ≤ u2.heap.size := B2.out.size
  have C2 := Lib.hid (below_step C1.out B2.out)
  cases ok
  case false =>
    go_wp2_with fail
    go_ret
    exact ⟨by first | rfl | simp, below_step B0.out C2.out⟩
  have hv := wCost_inv HC.out
  have HV := Lib.hid (vWrap_words hv.1)
  have hwd0 := HV.out.2.2.1
  have hwd1 := HV.out.2.2.2
  have HN := Lib.hid hv.2
  have HLn : Hid (m = (sizes xs).length) := by show m = _; rw [sizes_length, XL.out]
  have X9 := Lib.hid (X0.out.below C2.out)
  have Y9 := Lib.hid (Y0.out.below C2.out)
  clear hv
  go_wp2_with fail
  go_loop [10, 11, 12] (SumRel (sizes xs) wd N m m' es) (fun _ _ i => m' - (intOf i).toNat)
  case atStart => exact ⟨0, 0, 0, rfl, Nat.zero_le _, rfl, Nat.zero_le _, rfl, by omega, by omega, by simpa using HN.out⟩
  case round =>
    obtain ⟨k, fr, tot, rfl, hk, rfl, hfr, rfl, ht0, ht1, hwc⟩ := hrel
    have HWC := Lib.hid hwc
    clear hwc
    by_cases hlt : k + 1 < m'
    · have hlt' : (k : Int) + 1 < (m' : Int) := by omega
      have hk0 : (0 : Int) ≤ (k : Int) := by omega
      have hk1 : (k : Int) < (m' : Int) := by omega
      obtain ⟨b', o', x, rfl, ex, hcx⟩ := Y9.out.int_at (k := k) (by omega)
      have hst := HWC.out
      rw [drop_of_get ex] at hst
      obtain ⟨h1, h2, h3, h4⟩ := costsum_step hst (by intro e; have := congrArg List.length e; rw [List.length_drop, YL.out] at this; simp at this; omega)
      rw [← HLn.out] at h2
      obtain ⟨j, rfl⟩ := Int.eq_ofNat_of_zero_le (show 0 ≤ x by omega)
      rw [Int.toNat_natCast] at h3 h4
      have hfj : fr < j := by omega
      have hjm : j ≤ m := by omega
      have H4 := Lib.hid h4
      clear hst h4 ex h1
      obtain ⟨b, o, eA, _⟩ := X9.out.2 (by omega)
      subst eA
      have hsl := X9.out.slice (Nat.le_of_lt hfj) hjm
      have hb : ∀ s ∈ (xs.drop fr).take (j - fr), s.size ≤ 30 := fun s hs => XS.out s (List.mem_of_mem_drop (List.mem_of_mem_take hs))
      have hC := joinWords_any (some ⟨b, o + fr, none⟩) (j - fr) (d - fr) _ u2 hsl (by omega) hb
      have hjs := jw_size (xs := (xs.drop fr).take (j - fr)) (by rw [hsl.slen]; omega)
      have hbd := lineLen_bd (l := (xs.drop fr).take (j - fr)) (by rw [hsl.slen]; omega) (fun s hs => (HV.out.2.1 s (List.mem_of_mem_drop (List.mem_of_mem_take hs))).2) (by rw [hsl.slen]; omega)
      rw [sizes_seg] at hjs hbd
      obtain ⟨J, hJ⟩ : ∃ J, J = jw ((xs.drop fr).take (j - fr)) := ⟨_, rfl⟩
      rw [← hJ] at hC hjs
      have HR : Hid (wrest (sizes xs) wd fr j = wd - (J.size : Int)) := by show _ = _; rw [hjs]; rfl
      rw [← hjs] at hbd
      rw [HR.out] at h3
      have C3 := Lib.hid hC
      clear hC hsl hb hJ hjs
      have hcf : (fr : Int) ≤ d := by omega
      have hjc : (j : Int) ≤ d := by omega
      have hfj' : (fr : Int) ≤ (j : Int) := by omega
      have hf0 : (0 : Int) ≤ (fr : Int) := by omega
      have hnf : ¬ d = fr := by omega
      go_wp2_with fail
      refine C3.out.mono ?_
      rintro e w' ⟨rfl, rfl⟩
      clear C3
      have hsq := sq_le (x := wd - (J.size : Int)) (W := 60) (by omega) (by omega) (by omega)
      obtain ⟨hsq0, hsq1⟩ := hsq
      go_wp2_with fail
      go_round
      case rel => exact ⟨k + 1, j, tot + (wd - (J.size : Int)) * (wd - (J.size : Int)), by go_num, by omega, rfl, hjm, rfl, by omega, by omega, by rw [H4.out, HR.out, Option.some.injEq]; omega⟩
      case measure => simp [intOf] <;> omega
    · have hz := costsum_end (by rw [List.length_drop, YL.out]; omega) (by rw [← HLn.out]; exact hfr) HWC.out
      have hlt' : ¬ (k : Int) + 1 < (m' : Int) := by omega
      have htn : (tot == N) = true := by simp; omega
      go_wp2_with fail
      go_ret
      exact ⟨by first | rfl | simp [htn], below_step B0.out C2.out⟩

end Go.Proofs.Ytagnfampdaeonaa
