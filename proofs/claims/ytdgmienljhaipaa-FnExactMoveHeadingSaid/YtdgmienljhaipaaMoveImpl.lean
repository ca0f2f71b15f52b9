/-
  Contract of the program's MoveHeading: the headings with one of them moved, if they stay an outline.
-/
import Derived.Test.YtdgmienljhaipaaMoveHead
import Derived.Test.YtdgmienljhaipaaInsert
import Derived.Test.YtdgmienljhaipaaConcatInt
import Derived.Test.YtdgmienljhaipaaShelf
namespace Go.Proofs.Ytdgmienljhaipaa
open Go.RowKit
set_option linter.unusedVariables false

theorem mv_concat {b o n c i E ct N : Nat} {At : Option Addr} {xs : List Int} {w w1 : World} (hb : Below w.heap.size w w1) (hx : Rd w 1 (some ⟨b, o, none⟩) n (ints xs)) (ht : Rd w 1 At (n - E) (ints (xs.drop E))) (hin : i ≤ n) (hn : n ≤ 20) (hE : E = mvEnd xs i) (hN : N = i + (n - E)) :
    Calls Try.prog 27 #[.slice (some ⟨w1.heap.size, 0, none⟩) 2 2] (w1.alloc (.cells #[.slice (some ⟨b, o, none⟩) i c, .slice At (n - E) ct] 22)).drew
      fun e w' => ∃ v, e = .returned v ∧ w'.ownsRow w.heap.size 3 1 v N (ints (mvRest xs i)) ∧ Below w.heap.size w w' := by
  subst hN
  have hB : Below w.heap.size w (w1.alloc (.cells #[.slice (some ⟨b, o, none⟩) i c, .slice At (n - E) ct] 22)).drew := (hb.alloc hb.size _).drew
  have hc := concatInt_any (w1.alloc (.cells #[.slice (some ⟨b, o, none⟩) i c, .slice At (n - E) ct] 22)).drew w1.heap.size 0 2 2
    [⟨some ⟨b, o, none⟩, i, c, ints (xs.take i)⟩, ⟨At, n - E, ct, ints (xs.drop E)⟩] rfl (fun k p hp => ?_) (fun p hp => ?_) (by simp [cntInt]; omega) (by omega)
  · refine hc.mono ?_
    rintro e w' ⟨v, rfl, ho, hb2⟩
    refine ⟨v, rfl, ?_, hB.trans (hb2.mono hB.size)⟩
    have h := own_base ho hB.size
    simp only [cntInt, allInt, List.map_cons, List.map_nil, List.sum_cons, List.sum_nil, Nat.add_zero, List.flatMap_cons, List.flatMap_nil, List.append_nil] at h
    unfold mvRest
    rw [← hE]
    simpa [ints] using h
  · have hcell : ∀ j, (w1.alloc (.cells #[.slice (some ⟨b, o, none⟩) i c, .slice At (n - E) ct] 22)).drew.cell? ⟨w1.heap.size, 0 + j, none⟩ = (#[.slice (some ⟨b, o, none⟩) i c, .slice At (n - E) ct] : Array Value)[j]? := fun j => by
      rw [Nat.zero_add]
      exact cell_of_row _ w1.heap.size j _ 22 (0, 0) (heap_alloc_new w1 _)
    rw [hcell]
    match k, hp with
    | 0, hp => injection hp with hp; subst hp; rfl
    | 1, hp => injection hp with hp; subst hp; rfl
    | k + 2, hp => simp at hp
  · simp only [List.mem_cons, List.not_mem_nil, or_false] at hp
    rcases hp with rfl | rfl
    · refine ⟨?_, ints_one _⟩
      have h := (hx.take hin).below hB
      rw [Nat.mul_one] at h
      simpa [ints, List.map_take] using h
    · exact ⟨ht.below hB, ints_one _⟩
/-- The clone of the headings that are moved. -/
theorem clone_part {b o n c i E : Nat} {xs : List Int} {w w2 : World} (W : World) (hx : Rd w 1 (some ⟨b, o, none⟩) n (ints xs)) (hb : Below w.heap.size w w2) (hW : Below w2.heap.size w2 W) (hiE : i < E) (hEn : E ≤ n) (hE : E = mvEnd xs i) (hn : n ≤ 20) :
    Calls Try.prog 29 #[.slice (some ⟨b, o + i, none⟩) (E - i) (c - i)] W fun e w' => ∃ h d, e = .returned (.slice (some ⟨h, 0, none⟩) (E - i) d) ∧ w2.heap.size ≤ h ∧ w'.ownsRow w2.heap.size 3 1 (.slice (some ⟨h, 0, none⟩) (E - i) d) (E - i) (ints (mvPart xs i)) ∧ Below w2.heap.size w2 w' := by
  have hs := (((hx.islice (Nat.le_of_lt hiE) hEn).below hb).below hW)
  have hl : ((xs.drop i).take (E - i)).length = E - i := hs.len
  have hc := Try.slices_Clone_int b (o + i) (E - i) (c - i) ((xs.drop i).take (E - i)) W (by omega) (by omega) (fun j hj => by
    obtain ⟨b', o', e, hc⟩ := hs.2 (by omega)
    injection e with e
    injection e with e1 e2
    subst e1; subst e2
    rw [hc j (by omega)]
    unfold ints
    rw [List.getElem?_map, List.getD_eq_getElem?_getD, List.getElem?_eq_getElem hj]
    rfl)
  refine hc.mono ?_
  rintro e w' ⟨v, rfl, ho, hne, hb2⟩
  rw [List.take_of_length_le (by omega)] at ho
  obtain ⟨L, d, ev, hd⟩ := own_shape ho
  subst ev
  obtain ⟨h, hL, hg, _⟩ := own_headI ho (by omega)
  subst hL
  refine ⟨h, d, rfl, Nat.le_trans hW.size hg, ?_, hW.trans (hb2.mono hW.size)⟩
  have h2 := own_base ho hW.size
  unfold mvPart
  rw [← hE]
  exact h2
theorem insert_mv {n i k E rd h pd N : Nat} {RA : Option Addr} {xs : List Int} {w w2 W : World} (hN : N = i + (n - E)) (hb : Below w.heap.size w w2) (hr : w2.ownsRow w.heap.size 3 1 (.slice RA N rd) N (ints (mvRest xs i)))
    (hW : Below w2.heap.size w2 W) (hh : w2.heap.size ≤ h) (hp : W.ownsRow w2.heap.size 3 1 (.slice (some ⟨h, 0, none⟩) (E - i) pd) (E - i) (ints (mvPart xs i)))
    (hpos : mvPos xs i k ≤ N) (h1 : 1 ≤ N) (hiE : i < E) (hEn : E ≤ n) (hn : n ≤ 20) :
    Calls Try.prog 28 #[.slice RA N rd, .int .i64 (mvPos xs i k : Int), .slice (some ⟨h, 0, none⟩) (E - i) pd] W fun e w' => ∃ L d, e = .returned (.slice L n d) ∧ w'.ownsRow w.heap.size 3 1 (.slice L n d) n (ints (mvL xs i k)) ∧ Below w.heap.size w w' := by
  subst hN
  obtain ⟨g, hL, hg, _⟩ := own_headI hr h1
  subst hL
  have hg2 : g < w2.heap.size := (hr.lt g rfl).2
  have hBW : w.heap.size ≤ W.heap.size := Nat.le_trans hb.size hW.size
  refine (insert_any W w.heap.size g h (i + (n - E)) rd (E - i) pd (mvPos xs i k) _ _ (own_below hr hW) (own_base hp hb.size) (by omega) hpos h1 (by omega) (by omega) hBW).mono ?_
  rintro e w' ⟨L, d, rfl, ho, hb2⟩
  have hN : i + (n - E) + (E - i) = n := by omega
  rw [hN] at ho ⊢
  refine ⟨L, d, rfl, ?_, (hb.trans (hW.mono hb.size)).trans hb2⟩
  have he : insL (ints (mvRest xs i)) (ints (mvPart xs i)) (mvPos xs i k) = ints (mvL xs i k) := by
    unfold insL mvL ints
    simp [List.map_take, List.map_drop]
  rw [he] at ho
  exact ho


set_option maxHeartbeats 8000000 in
theorem implMove_any (A : Option Addr) (n c : Nat) (xs : List Int) (i k : Int) (w : World) (hx : Rd w 1 A n (ints xs)) (hn : n ≤ 1048576) (hnc : n ≤ c) :
    Calls Try.prog 15 #[.slice A n c, .int .i64 i, .int .i64 k] w (MvRes xs i k w) := by
  have HC := Lib.hid (implOutline_any A n c xs w hx hn)
  have HX := Lib.hid hx
  have HL := Lib.hid hx.len
  clear hx
  cases hv : vOutline xs
  · rw [hv] at HC
    have HE := Lib.hid (mvR_1 (i := i) (k := k) hv)
    clear hv
    go_enter Try.func15, Try.ntmps15
    go_wp2_with (go_at_call 10; refine HC.out.mono ?_; rintro e w' ⟨rfl, rfl⟩)
    go_ret2
    exact MvRes.no HE.out (Below.refl _ _)
  rw [hv] at HC
  have HV := Lib.hid hv
  have hn20 : n ≤ 20 := by have := vOutline_len hv; rw [HL.out] at this; exact this
  clear hv
  cases h1 : inB 0 ((n : Int) - 1) i
  · have T1 := Lib.hid h1
    have T2 := T1
    have HE := Lib.hid (mvR_2 (k := k) (show inB 0 ((xs.length : Int) - 1) i = false by rw [HL.out]; exact h1))
    clear h1
    go_enter Try.func15, Try.ntmps15
    go_wp2_with fail
    refine (HC.out).mono ?_
    rintro e w' ⟨rfl, rfl⟩
    go_wp2_with fail
    refine (within_any _ _ _ _ T1.out _).mono ?_
    rintro e w' ⟨rfl, rfl⟩
    go_wp2_with fail
    go_ret2
    exact MvRes.no HE.out (Below.refl _ _)
  have T1 := Lib.hid h1
  obtain ⟨hi0, hi1⟩ := inB_iff.1 h1
  clear h1
  cases h1 : inB 0 ((n : Int) - 1) k
  · have T2 := Lib.hid h1
    have HE := Lib.hid (mvR_3 (i := i) (show inB 0 ((xs.length : Int) - 1) k = false by rw [HL.out]; exact h1))
    clear h1
    go_enter Try.func15, Try.ntmps15
    go_wp2_with fail
    refine (HC.out).mono ?_
    rintro e w' ⟨rfl, rfl⟩
    go_wp2_with fail
    refine (within_any _ _ _ _ T1.out _).mono ?_
    rintro e w' ⟨rfl, rfl⟩
    go_wp2_with fail
    refine (within_any _ _ _ _ T2.out _).mono ?_
    rintro e w' ⟨rfl, rfl⟩
    go_wp2_with fail
    go_ret2
    exact MvRes.no HE.out (Below.refl _ _)
  have T2 := Lib.hid h1
  obtain ⟨hk0, hk1⟩ := inB_iff.1 h1
  clear h1
  obtain ⟨i, rfl⟩ := Int.eq_ofNat_of_zero_le hi0
  obtain ⟨k, rfl⟩ := Int.eq_ofNat_of_zero_le hk0
  have hi : i < n := by omega
  have hk : k < n := by omega
  obtain ⟨b, o, xi, rfl, exi, _⟩ := HX.out.int_at hi
  have hkx : xs[k]? = some (xs[k]'(by rw [HL.out]; exact hk)) := List.getElem?_eq_getElem _
  obtain ⟨xk, exk⟩ : ∃ x, xs[k]? = some x := ⟨_, hkx⟩
  clear hkx
  have ME := Lib.hid (mvEnd_eq exi)
  have MK := Lib.hid (mvEnd_eq exk)
  have HI : Hid (i < xs.length) := by show _ < _; rw [HL.out]; exact hi
  have HK : Hid (k < xs.length) := by show _ < _; rw [HL.out]; exact hk
  have C1 := Lib.hid (implEnd_any (some ⟨b, o, none⟩) n c xs w HX.out i xi hi hn exi)
  rw [← ME.out] at C1
  have hE1 := mvEnd_gt xs i
  have hE2 := mvEnd_le HI.out
  rw [HL.out] at hE2
  obtain ⟨E, hE⟩ : ∃ E, E = mvEnd xs i := ⟨_, rfl⟩
  rw [← hE] at C1 hE1 hE2
  have HE := Lib.hid hE
  clear hE
  by_cases hin : i ≤ k ∧ k < E
  · have HR := Lib.hid (mvR_in (xs := xs) (i := i) (k := k) (by rw [← HE.out]; omega))
    have h1 : (i : Int) ≤ (k : Int) := by omega
    have h2 : (k : Int) < (E : Int) := by omega
    go_enter Try.func15, Try.ntmps15
    go_wp2_with fail
    refine (HC.out).mono ?_
    rintro e w' ⟨rfl, rfl⟩
    go_wp2_with fail
    refine (within_any _ _ _ _ T1.out _).mono ?_
    rintro e w' ⟨rfl, rfl⟩
    go_wp2_with fail
    refine (within_any _ _ _ _ T2.out _).mono ?_
    rintro e w' ⟨rfl, rfl⟩
    go_wp2_with fail
    refine C1.out.mono ?_
    rintro e w' ⟨rfl, q1, rfl⟩
    go_wp2_with fail
    go_ret2
    exact MvRes.no HR.out (below_drewN _)
  have hki : k < i ∨ E ≤ k := by omega
  have HKI : Hid (k < i ∨ mvEnd xs i ≤ k) := by show _ ∨ _; rw [← HE.out]; exact hki
  have hiE : (i : Int) ≤ (E : Int) := by omega
  have hEn : (E : Int) ≤ (n : Int) := by omega
  have hic : (i : Int) ≤ (c : Int) := by omega
  have hin' : (i : Int) ≤ (n : Int) := by omega
  have hEc : (E : Int) ≤ (c : Int) := by omega
  rcases Nat.lt_or_ge E c with hct | hct
  · have hne : ¬ c = E := by omega
    have hAt : (if c = E then some (⟨b, o, none⟩ : Addr) else some ⟨b, o + E, none⟩) = some ⟨b, o + E, none⟩ := if_neg hne
    have RT : Hid (Rd w 1 (some ⟨b, o + E, none⟩) (n - E) (ints (xs.drop E))) := by
      have h := HX.out.islice (i := E) (j := n) hE2 (Nat.le_refl _)
      rwa [List.take_of_length_le (by rw [List.length_drop, HL.out]; exact Nat.le_refl _)] at h
    rcases hki with hki | hki
    case inl =>
      obtain ⟨N, hN⟩ : ∃ N, N = i + (n - E) := ⟨_, rfl⟩
      have HNN := Lib.hid hN
      have CC := Lib.hid (fun w1 hb => mv_concat (ct := c - E) (c := c) (w1 := w1) hb HX.out RT.out (by omega) hn20 HE.out HNN.out)
      have hN1 : 1 ≤ N := by omega
      have hN20 : N ≤ 20 := by omega
      have h1 : (k : Int) < (i : Int) := by omega
      have h1' : ¬ (E : Int) ≤ (k : Int) := by omega
      go_enter Try.func15, Try.ntmps15
      go_wp2_with fail
      refine (HC.out).mono ?_
      rintro e w' ⟨rfl, rfl⟩
      go_wp2_with fail
      refine (within_any _ _ _ _ T1.out _).mono ?_
      rintro e w' ⟨rfl, rfl⟩
      go_wp2_with fail
      refine (within_any _ _ _ _ T2.out _).mono ?_
      rintro e w' ⟨rfl, rfl⟩
      go_wp2_with fail
      refine C1.out.mono ?_
      rintro e w' ⟨rfl, q1, rfl⟩
      have B1 := Lib.hid (below_drewN (B := w.heap.size) (w := w) q1)
      go_wp2_with fail
      go_region_with ((go_at_call 27; refine (CC.out _ B1.out).mono ?_; rintro e w2 ⟨v, rfl, ho, hb⟩; have O2 := Lib.hid ho; have B2 := Lib.hid hb; clear ho hb))
      all_goals
        obtain ⟨RA, rd, ev, hrd⟩ := own_shape O2.out
        subst ev
        obtain ⟨K2, hK2⟩ : ∃ K2, K2 = (if k < i then k else k - (mvEnd xs i - i)) := ⟨_, rfl⟩
        have hat : k = K2 := by rw [hK2, if_pos (by omega)]
        subst hat
        have hrn : k < N := by omega
        clear hN
        have hxk : (mvRest xs i)[k]? = some xk := by
          rw [rest_get HI.out, ← HE.out]
          rw [if_pos (by omega)]; exact exk
        have HPOS := Lib.hid (pos_rest HI.out HK.out HKI.out exk)
        rw [← hK2] at HPOS
        have CE : Hid (∀ W, Below w2.heap.size w2 W → Calls Try.prog 26 #[.slice RA N rd, .int .i64 (k : Int)] W fun e w' => e = .returned (.int .i64 (mvPos xs i k : Int)) ∧ ∃ q, w' = W.drewN q) := fun W hW => by
          have h := implEnd_any RA N rd (mvRest xs i) W (Rd.own (own_below O2.out hW)) k xk hrn (by omega) hxk
          rw [HPOS.out] at h
          exact h
        have CL : Hid (∀ W, Below w2.heap.size w2 W → Calls Try.prog 29 #[.slice (some ⟨b, o + i, none⟩) (E - i) (c - i)] W fun e w' => ∃ h d, e = .returned (.slice (some ⟨h, 0, none⟩) (E - i) d) ∧ w2.heap.size ≤ h ∧ w'.ownsRow w2.heap.size 3 1 (.slice (some ⟨h, 0, none⟩) (E - i) d) (E - i) (ints (mvPart xs i)) ∧ Below w2.heap.size w2 w') := fun W hW =>
          clone_part W HX.out B2.out hW hE1 hE2 HE.out hn20
        have hposn : mvPos xs i k ≤ N := by
          have h := mvPos_le HI.out HK.out HKI.out
          have h2 := HNN.out
          rw [HL.out, ← HE.out] at h
          omega
        clear hxk hK2
        go_wp2_with fail
        go_region_with (first
          | (go_at_call 26; refine (CE.out w2.drew (Below.refl _ _).drew).mono ?_; rintro e w' ⟨rfl, qe, rfl⟩)
          | (go_at_call 29; refine (CL.out _ (below_drewN _)).mono ?_; rintro e w4 ⟨h, pd, rfl, hh, hop, hb⟩; have OP := Lib.hid hop; have BC := Lib.hid hb; clear hop hb)
          | (go_at_call 28; refine (insert_mv (k := k) HNN.out B2.out O2.out BC.out hh OP.out hposn hN1 hE1 hE2 hn20).mono ?_; rintro e w5 ⟨L5, d5, rfl, ho, hb⟩; have O5 := Lib.hid ho; have B5 := Lib.hid hb; clear ho hb))
        all_goals
          clear CE CL CC HPOS RT
          try clear hAt hne
          have CV := Lib.hid (implOutline_any L5 n d5 _ w5 (Rd.own O5.out) (by omega))
          cases hvl : vOutline (mvL xs i k)
          · rw [hvl] at CV
            have HR := Lib.hid (mvR_bad (xs := xs) (i := i) (k := k) (by rw [hvl]; simp))
            clear hvl
            go_wp2_with fail
            refine CV.out.mono ?_
            rintro e w' ⟨rfl, rfl⟩
            go_wp2_with fail
            go_ret2
            exact MvRes.no HR.out B5.out
          · rw [hvl] at CV
            have HR := Lib.hid (mvR_yes HV.out (by rw [HL.out]; exact T1.out) (by rw [HL.out]; exact T2.out) HKI.out hvl)
            clear hvl
            go_wp2_with fail
            refine CV.out.mono ?_
            rintro e w' ⟨rfl, rfl⟩
            go_wp2_with fail
            go_ret2
            exact MvRes.yes HR.out O5.out B5.out
      
    case inr =>
      obtain ⟨N, hN⟩ : ∃ N, N = i + (n - E) := ⟨_, rfl⟩
      have HNN := Lib.hid hN
      have CC := Lib.hid (fun w1 hb => mv_concat (ct := c - E) (c := c) (w1 := w1) hb HX.out RT.out (by omega) hn20 HE.out HNN.out)
      have hN1 : 1 ≤ N := by omega
      have hN20 : N ≤ 20 := by omega
      have h1 : (E : Int) ≤ (k : Int) := by omega
      have h1' : (i : Int) ≤ (k : Int) := by omega
      go_enter Try.func15, Try.ntmps15
      go_wp2_with fail
      refine (HC.out).mono ?_
      rintro e w' ⟨rfl, rfl⟩
      go_wp2_with fail
      refine (within_any _ _ _ _ T1.out _).mono ?_
      rintro e w' ⟨rfl, rfl⟩
      go_wp2_with fail
      refine (within_any _ _ _ _ T2.out _).mono ?_
      rintro e w' ⟨rfl, rfl⟩
      go_wp2_with fail
      refine C1.out.mono ?_
      rintro e w' ⟨rfl, q1, rfl⟩
      have B1 := Lib.hid (below_drewN (B := w.heap.size) (w := w) q1)
      go_wp2_with fail
      go_region_with ((go_at_call 27; refine (CC.out _ B1.out).mono ?_; rintro e w2 ⟨v, rfl, ho, hb⟩; have O2 := Lib.hid ho; have B2 := Lib.hid hb; clear ho hb))
      all_goals
        obtain ⟨RA, rd, ev, hrd⟩ := own_shape O2.out
        subst ev
        obtain ⟨K2, hK2⟩ : ∃ K2, K2 = (if k < i then k else k - (mvEnd xs i - i)) := ⟨_, rfl⟩
        have hat : (k : Int) - ((E : Int) - (i : Int)) = (K2 : Int) := by rw [hK2, if_neg (by omega), ← HE.out]; omega
        have hkK : k = K2 + (E - i) := by rw [hK2, if_neg (by omega), ← HE.out]; omega
        have hrn : K2 < N := by omega
        clear hN
        have hxk : (mvRest xs i)[K2]? = some xk := by
          rw [rest_get HI.out, ← HE.out]
          rw [if_neg (by omega), ← hkK]; exact exk
        have HPOS := Lib.hid (pos_rest HI.out HK.out HKI.out exk)
        rw [← hK2] at HPOS
        have CE : Hid (∀ W, Below w2.heap.size w2 W → Calls Try.prog 26 #[.slice RA N rd, .int .i64 (K2 : Int)] W fun e w' => e = .returned (.int .i64 (mvPos xs i k : Int)) ∧ ∃ q, w' = W.drewN q) := fun W hW => by
          have h := implEnd_any RA N rd (mvRest xs i) W (Rd.own (own_below O2.out hW)) K2 xk hrn (by omega) hxk
          rw [HPOS.out] at h
          exact h
        have CL : Hid (∀ W, Below w2.heap.size w2 W → Calls Try.prog 29 #[.slice (some ⟨b, o + i, none⟩) (E - i) (c - i)] W fun e w' => ∃ h d, e = .returned (.slice (some ⟨h, 0, none⟩) (E - i) d) ∧ w2.heap.size ≤ h ∧ w'.ownsRow w2.heap.size 3 1 (.slice (some ⟨h, 0, none⟩) (E - i) d) (E - i) (ints (mvPart xs i)) ∧ Below w2.heap.size w2 w') := fun W hW =>
          clone_part W HX.out B2.out hW hE1 hE2 HE.out hn20
        have hposn : mvPos xs i k ≤ N := by
          have h := mvPos_le HI.out HK.out HKI.out
          have h2 := HNN.out
          rw [HL.out, ← HE.out] at h
          omega
        clear hxk hK2 hkK
        go_wp2_with fail
        go_region_with (first
          | (go_at_call 26; refine (CE.out w2.drew (Below.refl _ _).drew).mono ?_; rintro e w' ⟨rfl, qe, rfl⟩)
          | (go_at_call 29; refine (CL.out _ (below_drewN _)).mono ?_; rintro e w4 ⟨h, pd, rfl, hh, hop, hb⟩; have OP := Lib.hid hop; have BC := Lib.hid hb; clear hop hb)
          | (go_at_call 28; refine (insert_mv (k := k) HNN.out B2.out O2.out BC.out hh OP.out hposn hN1 hE1 hE2 hn20).mono ?_; rintro e w5 ⟨L5, d5, rfl, ho, hb⟩; have O5 := Lib.hid ho; have B5 := Lib.hid hb; clear ho hb))
        all_goals
          clear CE CL CC HPOS RT
          try clear hAt hne
          have CV := Lib.hid (implOutline_any L5 n d5 _ w5 (Rd.own O5.out) (by omega))
          cases hvl : vOutline (mvL xs i k)
          · rw [hvl] at CV
            have HR := Lib.hid (mvR_bad (xs := xs) (i := i) (k := k) (by rw [hvl]; simp))
            clear hvl
            go_wp2_with fail
            refine CV.out.mono ?_
            rintro e w' ⟨rfl, rfl⟩
            go_wp2_with fail
            go_ret2
            exact MvRes.no HR.out B5.out
          · rw [hvl] at CV
            have HR := Lib.hid (mvR_yes HV.out (by rw [HL.out]; exact T1.out) (by rw [HL.out]; exact T2.out) HKI.out hvl)
            clear hvl
            go_wp2_with fail
            refine CV.out.mono ?_
            rintro e w' ⟨rfl, rfl⟩
            go_wp2_with fail
            go_ret2
            exact MvRes.yes HR.out O5.out B5.out
      
  · obtain rfl : E = c := by omega
    have RT : Hid (Rd w 1 (some ⟨b, o, none⟩) (n - E) (ints (xs.drop E))) := by
      have h0 : n - E = 0 := by omega
      have h1 : xs.drop E = [] := List.drop_of_length_le (by rw [HL.out]; omega)
      show Rd w 1 (some ⟨b, o, none⟩) (n - E) (ints (xs.drop E))
      rw [h0, h1]
      exact Rd.nil _ _ _
    rcases hki with hki | hki
    case inl =>
      obtain ⟨N, hN⟩ : ∃ N, N = i + (n - E) := ⟨_, rfl⟩
      have HNN := Lib.hid hN
      have CC : Hid (∀ w1, Below w.heap.size w w1 → Calls Try.prog 27 #[.slice (some ⟨w1.heap.size, 0, none⟩) 2 2] (w1.alloc (.cells #[.slice (some ⟨b, o, none⟩) i E, .slice (some ⟨b, o, none⟩) 0 0] 22)).drew
          fun e w' => ∃ v, e = .returned v ∧ w'.ownsRow w.heap.size 3 1 v N (ints (mvRest xs i)) ∧ Below w.heap.size w w') := fun w1 hb => by
        have h := mv_concat (ct := 0) (c := E) (w1 := w1) hb HX.out RT.out (by omega) hn20 HE.out HNN.out
        rw [show n - E = 0 from by omega] at h
        exact h
      have hN1 : 1 ≤ N := by omega
      have hN20 : N ≤ 20 := by omega
      have h1 : (k : Int) < (i : Int) := by omega
      have h1' : ¬ (E : Int) ≤ (k : Int) := by omega
      go_enter Try.func15, Try.ntmps15
      go_wp2_with fail
      refine (HC.out).mono ?_
      rintro e w' ⟨rfl, rfl⟩
      go_wp2_with fail
      refine (within_any _ _ _ _ T1.out _).mono ?_
      rintro e w' ⟨rfl, rfl⟩
      go_wp2_with fail
      refine (within_any _ _ _ _ T2.out _).mono ?_
      rintro e w' ⟨rfl, rfl⟩
      go_wp2_with fail
      refine C1.out.mono ?_
      rintro e w' ⟨rfl, q1, rfl⟩
      have B1 := Lib.hid (below_drewN (B := w.heap.size) (w := w) q1)
      go_wp2_with fail
      go_region_with ((go_at_call 27; refine (CC.out _ B1.out).mono ?_; rintro e w2 ⟨v, rfl, ho, hb⟩; have O2 := Lib.hid ho; have B2 := Lib.hid hb; clear ho hb))
      all_goals
        obtain ⟨RA, rd, ev, hrd⟩ := own_shape O2.out
        subst ev
        obtain ⟨K2, hK2⟩ : ∃ K2, K2 = (if k < i then k else k - (mvEnd xs i - i)) := ⟨_, rfl⟩
        have hat : k = K2 := by rw [hK2, if_pos (by omega)]
        subst hat
        have hrn : k < N := by omega
        clear hN
        have hxk : (mvRest xs i)[k]? = some xk := by
          rw [rest_get HI.out, ← HE.out]
          rw [if_pos (by omega)]; exact exk
        have HPOS := Lib.hid (pos_rest HI.out HK.out HKI.out exk)
        rw [← hK2] at HPOS
        have CE : Hid (∀ W, Below w2.heap.size w2 W → Calls Try.prog 26 #[.slice RA N rd, .int .i64 (k : Int)] W fun e w' => e = .returned (.int .i64 (mvPos xs i k : Int)) ∧ ∃ q, w' = W.drewN q) := fun W hW => by
          have h := implEnd_any RA N rd (mvRest xs i) W (Rd.own (own_below O2.out hW)) k xk hrn (by omega) hxk
          rw [HPOS.out] at h
          exact h
        have CL : Hid (∀ W, Below w2.heap.size w2 W → Calls Try.prog 29 #[.slice (some ⟨b, o + i, none⟩) (E - i) (E - i)] W fun e w' => ∃ h d, e = .returned (.slice (some ⟨h, 0, none⟩) (E - i) d) ∧ w2.heap.size ≤ h ∧ w'.ownsRow w2.heap.size 3 1 (.slice (some ⟨h, 0, none⟩) (E - i) d) (E - i) (ints (mvPart xs i)) ∧ Below w2.heap.size w2 w') := fun W hW =>
          clone_part W HX.out B2.out hW hE1 hE2 HE.out hn20
        have hposn : mvPos xs i k ≤ N := by
          have h := mvPos_le HI.out HK.out HKI.out
          have h2 := HNN.out
          rw [HL.out, ← HE.out] at h
          omega
        clear hxk hK2
        go_wp2_with fail
        go_region_with (first
          | (go_at_call 26; refine (CE.out w2.drew (Below.refl _ _).drew).mono ?_; rintro e w' ⟨rfl, qe, rfl⟩)
          | (go_at_call 29; refine (CL.out _ (below_drewN _)).mono ?_; rintro e w4 ⟨h, pd, rfl, hh, hop, hb⟩; have OP := Lib.hid hop; have BC := Lib.hid hb; clear hop hb)
          | (go_at_call 28; refine (insert_mv (k := k) HNN.out B2.out O2.out BC.out hh OP.out hposn hN1 hE1 hE2 hn20).mono ?_; rintro e w5 ⟨L5, d5, rfl, ho, hb⟩; have O5 := Lib.hid ho; have B5 := Lib.hid hb; clear ho hb))
        all_goals
          clear CE CL CC HPOS RT
          try clear hAt hne
          have CV := Lib.hid (implOutline_any L5 n d5 _ w5 (Rd.own O5.out) (by omega))
          cases hvl : vOutline (mvL xs i k)
          · rw [hvl] at CV
            have HR := Lib.hid (mvR_bad (xs := xs) (i := i) (k := k) (by rw [hvl]; simp))
            clear hvl
            go_wp2_with fail
            refine CV.out.mono ?_
            rintro e w' ⟨rfl, rfl⟩
            go_wp2_with fail
            go_ret2
            exact MvRes.no HR.out B5.out
          · rw [hvl] at CV
            have HR := Lib.hid (mvR_yes HV.out (by rw [HL.out]; exact T1.out) (by rw [HL.out]; exact T2.out) HKI.out hvl)
            clear hvl
            go_wp2_with fail
            refine CV.out.mono ?_
            rintro e w' ⟨rfl, rfl⟩
            go_wp2_with fail
            go_ret2
            exact MvRes.yes HR.out O5.out B5.out
      
    case inr => exfalso; omega

end Go.Proofs.Ytdgmienljhaipaa
