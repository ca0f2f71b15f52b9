/-
  The walk of FnWrapMove: the ends behind a line are those of the words behind it.
-/
import Derived.Test.YtagnfampdaeonaaWrapWords
import Derived.Test.YtagnfampdaeonaaWrapEnds
import Derived.Test.YtagnfampdaeonaaWrapFacts
import Derived.Test.YtagnfampdaeonaaDrawWords
import Derived.IntWalk
namespace Go.Proofs.Ytagnfampdaeonaa
open Go.RowKit
set_option linter.unusedVariables false

theorem wchain_mem {L : List Nat} {W : Int} (hW : W ≤ 60) (hL : ∀ x ∈ L, (x : Int) ≤ W) : ∀ (f i : Nat) (x : Nat), x ∈ wchain (wnext L W) L.length f i → x ≤ L.length
  | 0, _, _, h => by simp [wchain] at h
  | f + 1, i, x, h => by
    rw [wchain] at h
    split at h
    · rename_i hi
      rcases List.mem_cons.1 h with rfl | h
      · exact (wnext_ok hW hL hi).2
      · exact wchain_mem hW hL f _ x h
    · simp at h
theorem wends_mem {L : List Nat} {W : Int} (hW : W ≤ 60) (hL : ∀ x ∈ L, (x : Int) ≤ W) {x : Nat} (h : x ∈ wends L W) : x ≤ L.length := wchain_mem hW hL _ _ x h

theorem sizes_drop (l : List ByteArray) (d : Nat) : sizes (l.drop d) = (sizes l).drop d := by unfold sizes; rw [List.map_drop]

theorem vWrap_drop {l : List ByteArray} {wd : Int} (h : vWrap l wd = true) (d : Nat) : vWrap (l.drop d) wd = true := by
  simp only [vWrap, vWords, Bool.and_eq_true, decide_eq_true_eq, List.all_eq_true] at h ⊢
  refine ⟨⟨fun s hs => h.1.1 s (List.mem_of_mem_drop hs), ?_⟩, h.2⟩
  have := h.1.2
  rw [List.length_drop]
  omega

theorem ends_move {l : List ByteArray} {wd : Int} (h2 : 2 ≤ (wEnds l wd).length) :
    ∃ d : Nat, 1 ≤ d ∧ d < l.length ∧ (wEnds l wd)[0]? = some (d : Int) ∧ (wEnds (l.drop d) wd).length + 1 = (wEnds l wd).length ∧
      ∀ i, i < (wEnds (l.drop d) wd).length → ∃ x : Int, (wEnds (l.drop d) wd)[i]? = some x ∧ (wEnds l wd)[i + 1]? = some (x + d) ∧ 0 ≤ x ∧ x ≤ 40 := by
  obtain ⟨hv, hl, _, _, _⟩ := ends_facts (l := l) (wd := wd) (fun e => by rw [e] at h2; simp at h2)
  have hw := vWrap_words hv
  have hL : ∀ x ∈ sizes l, (x : Int) ≤ wd := fun x hx => by obtain ⟨s, hs, rfl⟩ := List.mem_map.1 hx; have := (hw.2.1 s hs).2; omega
  have hsl := sizes_length l
  have hn := wnext_ok (L := sizes l) (W := wd) (by omega) hL (i := 0) (by omega)
  cases hE : wends (sizes l) wd with
  | nil => rw [wEnds_good hv, hE] at h2; simp at h2
  | cons d es =>
    have hst : d = wnext (sizes l) wd 0 := by
      have h := hE
      rw [wends, wchainI_step (fun i hi => (wnext_ok (by omega) hL hi).1) (by omega)] at h
      injection h with h _
      exact h.symm
    have hd := wends_drop (L := sizes l) (W := wd) (by omega) hL hE
    rw [← sizes_drop] at hd
    have hG := wEnds_good (vWrap_drop hv d)
    rw [wEnds_good hv, hE]
    rw [wEnds_good hv, hE] at h2
    have hes : 1 ≤ es.length := by simp at h2; omega
    have hel : es.length = (wends (sizes (l.drop d)) wd).length := by rw [hd.2]; simp
    have hdl : d < l.length := by
      rcases Nat.lt_or_ge d l.length with h | h
      · exact h
      · exfalso
        rw [wends, wchainI_end (by rw [sizes_length, List.length_drop]; omega)] at hel
        rw [List.length_nil] at hel
        omega
    refine ⟨d, by omega, hdl, ?_⟩
    rw [hG]
    refine ⟨rfl, by simp; omega, fun i hi => ?_⟩
    rw [List.length_map] at hi
    have hxe : (wends (sizes (l.drop d)) wd)[i]? = some ((wends (sizes (l.drop d)) wd)[i]) := List.getElem?_eq_getElem hi
    refine ⟨(((wends (sizes (l.drop d)) wd)[i] : Nat) : Int), by rw [List.getElem?_map, hxe]; rfl, ?_, by omega, ?_⟩
    · rw [List.map_cons, List.getElem?_cons_succ, hd.2, List.getElem?_map, List.getElem?_map, hxe]
      simp
    · have hb := wends_mem (L := sizes (l.drop d)) (W := wd) (by omega) (fun x hx => by rw [sizes_drop] at hx; exact hL x (List.mem_of_mem_drop hx)) (List.getElem_mem hi)
      rw [sizes_length, List.length_drop] at hb
      have := hw.1
      omega

set_option maxHeartbeats 4000000 in
theorem FnWrapMove_walk (w : World) (a0 : Option Addr) (n0 c0 : Nat) (x0 : List Int) (h0 : InBytes w a0 n0 c0 x0) :
    Calls Try.prog 4 #[.slice a0 n0 c0] w fun e w' => e = .returned (.bool true) ∧ Below w.heap.size w w' := by
  have HD := Lib.hid (DrawWrapWords_any w a0 n0 c0 x0 h0)
  clear h0
  by_cases g0 : n0 ≤ 1048576
  case neg =>
    go_enter Try.func4, Try.ntmps4
    go_wp2
    go_ret
    exact ⟨rfl, Below.refl _ _⟩
  go_enter Try.func4, Try.ntmps4
  go_wp2_with fail
  refine HD.out.mono ?_
  rintro e w1 ⟨L, m, d, xs, wd, rfl, hm, hmd, hx, hxs, hw0, hw1, hB⟩
  have B0 := Lib.hid hB
  have X0 := Lib.hid hx
  have XL := Lib.hid hx.slen
  have XS := Lib.hid hxs
  have Z0 : Hid (∀ s ∈ xs, s.size ≤ 9223372036854775807) := fun s hs => by have := hxs s hs; omega
  clear hB hx hxs HD
  obtain ⟨E, hE⟩ : ∃ E, E = wEnds xs wd := ⟨_, rfl⟩
  have HEq := Lib.hid hE
  clear hE
  go_wp2_with fail
  refine (implWords_any L m d xs wd _ X0.out (by omega) hmd Z0.out).mono ?_
  rintro e u1 ⟨Ag, kg, dg, rfl, ho, hb⟩
  rw [← HEq.out] at ho
  have Og := Lib.hid ho; clear ho
  have B1 := Lib.hid hb; clear hb
  have z1 : w1.heap.size ≤ u1.heap.size := B1.out.size
  have C1 := Lib.hid (below_step (Below.refl w1.heap.size w1) B1.out)
  have mg : E.length = kg := (Rd.own Og.out).len
  have ng : kg ≤ 40 := by have h := wEnds_len xs wd; rw [← HEq.out] at h; omega
  go_wp2_with fail
  refine (specWrap_any L m d xs wd _ (X0.out.below C1.out) (by omega) hmd Z0.out).mono ?_
  rintro e u2 ⟨As, ks, ds, rfl, ho, hb⟩
  rw [← HEq.out] at ho
  have Os := Lib.hid ho; clear ho
  have B2 := Lib.hid hb; clear hb
  have z2 : u1.heap.size ≤ u2.heap.size := B2.out.size
  have C2 := Lib.hid (below_step C1.out B2.out)
  have ms : E.length = ks := (Rd.own Os.out).len
  have ns : ks ≤ 40 := by have h := wEnds_len xs wd; rw [← HEq.out] at h; omega
  go_wp2_with fail
  refine (equalInts_any Ag As kg ks dg ds E E _ (Rd.own (own_below Og.out B2.out)) (Rd.own Os.out) (by omega) (by omega)).mono ?_
  rintro e u3 ⟨rfl, hb⟩
  have B3 := Lib.hid (below_of_drew (B := u2.heap.size) hb); clear hb
  have z3 : u2.heap.size ≤ u3.heap.size := B3.out.size
  have C3 := Lib.hid (below_step C2.out B3.out)
  by_cases hk : kg < 2
  case pos =>
    have hk' : (kg : Int) < 2 := by omega
    clear mg ms hk
    go_wp2_with fail
    refine (specWrap_any L m d xs wd _ (X0.out.below C3.out) (by omega) hmd Z0.out).mono ?_
    rintro e u4 ⟨At, kt, dt, rfl, ho, hb⟩
    rw [← HEq.out] at ho
    have Ot := Lib.hid ho; clear ho
    have B4 := Lib.hid hb; clear hb
    have z4 : u3.heap.size ≤ u4.heap.size := B4.out.size
    have C4 := Lib.hid (below_step C3.out B4.out)
    have mt : E.length = kt := (Rd.own Ot.out).len
    have nt : kt ≤ 40 := by have h := wEnds_len xs wd; rw [← HEq.out] at h; omega
    go_wp2_with fail
    refine (equalInts_any Ag At kg kt dg dt E E _ (Rd.own (own_below (own_below (own_below Og.out B2.out) B3.out) B4.out)) (Rd.own Ot.out) (by omega) (by omega)).mono ?_
    rintro e u5 ⟨rfl, hb⟩
    have B5 := Lib.hid (below_of_drew (B := u4.heap.size) hb); clear hb
    have z5 : u4.heap.size ≤ u5.heap.size := B5.out.size
    have C5 := Lib.hid (below_step C4.out B5.out)
    go_wp2_with fail
    go_ret
    exact ⟨by first | rfl | simp, below_step B0.out C5.out⟩
  have hk' : ¬ (kg : Int) < 2 := by omega
  obtain ⟨t, ht1, ht2, ht3, ht4, ht5⟩ := ends_move (l := xs) (wd := wd) (by rw [← HEq.out]; omega)
  obtain ⟨F, hF⟩ : ∃ F, F = wEnds (xs.drop t) wd := ⟨_, rfl⟩
  rw [← hF, ← HEq.out] at ht4 ht5
  rw [← HEq.out] at ht3
  have HF := Lib.hid hF
  have H3 := Lib.hid ht3
  have H5 := Lib.hid ht5
  have H4 : F.length + 1 = kg := by omega
  rw [XL.out] at ht2
  obtain ⟨gb, eA, _, _, _⟩ := own_head Og.out (by omega)
  subst eA
  have c0 := (own_below (own_below Og.out B2.out) B3.out).cellAt 0 (by omega)
  rw [ints, List.getElem?_map, H3.out] at c0
  have c0' : u3.cell? ⟨gb, 0, none⟩ = some (.int .i64 (t : Int)) := c0
  have i0 : (0 : Int) < (kg : Int) := by omega
  have i1 : ¬ (t : Int) < 1 := by omega
  have i2 : ¬ (m : Int) < (t : Int) := by omega
  have i3 : (0 : Int) ≤ (t : Int) := by omega
  have i4 : (t : Int) ≤ (m : Int) := by omega
  have i5 : (t : Int) ≤ (d : Int) := by omega
  have i6 : (m : Int) ≤ (d : Int) := by omega
  have i7 : ¬ d = t := by omega
  have hx3 := (X0.out.below C3.out)
  obtain ⟨b, o, eL, _⟩ := hx3.2 (by omega)
  subst eL
  have hsl := hx3.slice (Nat.le_of_lt ht2) (Nat.le_refl m)
  rw [List.take_of_length_le (by rw [List.length_drop, XL.out]; exact Nat.le_refl _)] at hsl
  have CR := Lib.hid (implWords_any (some ⟨b, o + t, none⟩) (m - t) (d - t) (xs.drop t) wd _ hsl (by omega) (by omega) (fun s hs => Z0.out s (List.mem_of_mem_drop hs)))
  rw [← HF.out] at CR
  clear hx3 hsl c0 hF ht3 ht4 ht5 mg ms hk
  go_wp2_with fail
  refine CR.out.mono ?_
  rintro e u4 ⟨Ar, kr, dr, rfl, ho, hb⟩
  have Or := Lib.hid ho; clear ho
  have B4 := Lib.hid hb; clear hb
  have z4 : u3.heap.size ≤ u4.heap.size := B4.out.size
  have C4 := Lib.hid (below_step C3.out B4.out)
  have hkr : F.length = kr := (Rd.own Or.out).len
  have j0 : ((kr : Int) != (kg : Int) - 1) = false := by simp; omega
  have G9 := Lib.hid (own_below (own_below (own_below Og.out B2.out) B3.out) B4.out)
  have hkr40 : kr ≤ 40 := by omega
  go_wp2_with fail
  go_loopw [7] (fun i wr => ∃ k q : Nat, k ≤ kr ∧ i = .int .i64 (k : Int) ∧ wr = u4.drewN q) (fun i _ => kr - (intOf i).toNat)
  case atStart => exact ⟨0, 0, Nat.zero_le _, rfl, rfl⟩
  case round =>
    obtain ⟨k, q, hk, rfl, rfl⟩ := hrel
    by_cases hlt : k < kr
    · obtain ⟨x, hx1, hx2, hx3, hx4⟩ := H5.out k (by omega)
      obtain ⟨gr, eR, _, _, _⟩ := own_head Or.out (by omega)
      subst eR
      have e1 := Or.out.cellAt k (by omega)
      rw [ints, List.getElem?_map, hx1] at e1
      have e2 := G9.out.cellAt 0 (by omega)
      rw [ints, List.getElem?_map, H3.out] at e2
      have e3 := G9.out.cellAt (k + 1) (by omega)
      rw [ints, List.getElem?_map, hx2] at e3
      have e1' : u4.cell? ⟨gr, k, none⟩ = some (.int .i64 x) := e1
      have e2' : u4.cell? ⟨gb, 0, none⟩ = some (.int .i64 (t : Int)) := e2
      have e3' : u4.cell? ⟨gb, k + 1, none⟩ = some (.int .i64 (x + (t : Int))) := e3
      have b1 : (k : Int) < (kr : Int) := by omega
      have b2 : (0 : Int) ≤ (k : Int) := by omega
      have b3 : (k : Int) + 1 < (kg : Int) := by omega
      have b4 : (0 : Int) ≤ (k : Int) + 1 := by omega
      have b5 : IntKind.i64.wrap ((k : Int) + 1) = (k : Int) + 1 := IntWalk.i64_in _ (by omega)
      have b6 : ((k : Int) + 1).toNat = k + 1 := by omega
      have b7 : IntKind.i64.wrap (x + (t : Int)) = x + (t : Int) := IntWalk.i64_in _ (by omega)
      clear hx1 hx2 e1 e2 e3
      go_wp2_with fail
      go_quiet (fail)
      clear b5 b6 b7
      go_wp2_with fail
      go_roundw
      case rel => exact ⟨k + 1, q + nq, by omega, by go_num, rfl⟩
      case measure => simp [intOf] <;> omega
    · obtain rfl : k = kr := by omega
      go_wp2_with fail
      go_ret
      exact ⟨rfl, below_drewN' (below_step B0.out C4.out) q⟩

end Go.Proofs.Ytagnfampdaeonaa
