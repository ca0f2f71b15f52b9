/-
  Contracts of MoveHeading, the program's and the reference's: the headings with one of them moved, if they stay an outline.
-/
import Derived.Test.YtdgmienljhaipaaMovePlain
import Derived.Test.YtdgmienljhaipaaOutDraw
namespace Go.Proofs.Ytdgmienljhaipaa
open Go.RowKit
set_option linter.unusedVariables false

/-- What is read between two indexes of a list of numbers. -/
theorem Rd.islice {w : World} {b o n : Nat} {l : List Int} (h : Rd w 1 (some ⟨b, o, none⟩) n (ints l)) {i j : Nat} (hij : i ≤ j) (hj : j ≤ n) : Rd w 1 (some ⟨b, o + i, none⟩) (j - i) (ints ((l.drop i).take (j - i))) := by
  have hl := h.len
  refine ⟨by simp [ints]; omega, fun h0 => ⟨b, o + i, rfl, fun x hx => ?_⟩⟩
  obtain ⟨b', o', e, hc⟩ := h.2 (by omega)
  injection e with e
  injection e with e1 e2
  subst e1; subst e2
  rw [Nat.add_assoc, hc (i + x) (by omega)]
  unfold ints
  rw [List.getElem?_map, List.getElem?_map, List.getElem?_take, if_pos (by omega), List.getElem?_drop]

def MvRes (xs : List Int) (i k : Int) (w : World) (e : Ending) (w' : World) : Prop :=
  ∃ A m d, e = .returned (.tuple #[.slice A m d, .bool (mvR xs i k).2]) ∧ w'.ownsRow w.heap.size 3 1 (.slice A m d) m (ints (mvR xs i k).1) ∧ Below w.heap.size w w'
theorem MvRes.no {xs : List Int} {i k : Int} {w w' : World} (h : mvR xs i k = ([], false)) (hb : Below w.heap.size w w') : MvRes xs i k w (.returned (.tuple #[.slice none 0 0, .bool false])) w' :=
  ⟨none, 0, 0, by rw [h], by rw [h]; exact World.ownsRow_nil _ _ _ _, hb⟩
theorem MvRes.yes {xs : List Int} {i k : Int} {w w' : World} {A : Option Addr} {m d : Nat} {zs : List Int} (h : mvR xs i k = (zs, true)) (ho : w'.ownsRow w.heap.size 3 1 (.slice A m d) m (ints zs)) (hb : Below w.heap.size w w') :
    MvRes xs i k w (.returned (.tuple #[.slice A m d, .bool true])) w' := ⟨A, m, d, by rw [h], by rw [h]; exact ho, hb⟩
theorem mvR_yes {xs : List Int} {i k : Nat} (h1 : vOutline xs = true) (h2 : inB 0 ((xs.length : Int) - 1) (i : Int) = true) (h3 : inB 0 ((xs.length : Int) - 1) (k : Int) = true) (h4 : k < i ∨ mvEnd xs i ≤ k) (h5 : vOutline (mvL xs i k) = true) :
    mvR xs (i : Int) (k : Int) = (mvL xs i k, true) := by
  unfold mvR
  rw [if_pos ⟨h1, h2, h3, by simpa using h4, by simpa using h5⟩]
  simp
theorem mvR_in {xs : List Int} {i k : Nat} (h4 : ¬ (k < i ∨ mvEnd xs i ≤ k)) : mvR xs (i : Int) (k : Int) = ([], false) := mvR_no (fun h => h4 (by simpa using h.2.2.2.1))
theorem mvR_bad {xs : List Int} {i k : Nat} (h4 : ¬ vOutline (mvL xs i k) = true) : mvR xs (i : Int) (k : Int) = ([], false) := mvR_no (fun h => h4 (by simpa using h.2.2.2.2))
theorem mvR_1 {xs : List Int} {i k : Int} (h : vOutline xs = false) : mvR xs i k = ([], false) := mvR_no (fun e => by rw [h] at e; exact absurd e.1 (by simp))
theorem mvR_2 {xs : List Int} {i k : Int} (h : inB 0 ((xs.length : Int) - 1) i = false) : mvR xs i k = ([], false) := mvR_no (fun e => by rw [h] at e; exact absurd e.2.1 (by simp))
theorem mvR_3 {xs : List Int} {i k : Int} (h : inB 0 ((xs.length : Int) - 1) k = false) : mvR xs i k = ([], false) := mvR_no (fun e => by rw [h] at e; exact absurd e.2.2.1 (by simp))

/-- What the reference has made when its loop comes to m. -/
def mvSt (xs : List Int) (i k m : Nat) : List Int := if m ≤ xs.length then mvMade xs i k m else mvL xs i k
def MvRel (w2 : World) (xs : List Int) (i k : Nat) (v s : Value) (wr : World) : Prop :=
  ∃ m t : Nat, m ≤ xs.length + 1 ∧ s = .int .i64 (m : Int) ∧ t ≤ 100 ∧ wr.ownsRow w2.heap.size 3 1 v t (ints (mvSt xs i k m)) ∧ Below w2.heap.size w2 wr
theorem mvHalf_le {xs : List Int} {i k m : Nat} (hi : i < xs.length) (hl : xs.length ≤ 20) : (mvHalf xs i k m).length ≤ 60 := by
  have hr := rest_length hi
  have hp := part_length hi
  have h1 := mvEnd_le hi
  unfold mvHalf mvMade
  split <;> split <;> simp only [List.length_append, List.length_take, List.length_drop] <;> omega
theorem mvMade_le {xs : List Int} {i k m : Nat} (hi : i < xs.length) (hl : xs.length ≤ 20) : (mvMade xs i k m).length ≤ 40 := by
  have hr := rest_length hi
  have hp := part_length hi
  have h1 := mvEnd_le hi
  unfold mvMade
  split <;> simp only [List.length_append, List.length_take, List.length_drop] <;> omega
theorem vOutline_len {xs : List Int} (h : vOutline xs = true) : xs.length ≤ 20 := by
  simp only [vOutline, Bool.and_eq_true, decide_eq_true_eq] at h
  exact h.2


set_option maxHeartbeats 8000000 in
theorem specMove_any (A : Option Addr) (n c : Nat) (xs : List Int) (i k : Int) (w : World) (hx : Rd w 1 A n (ints xs)) (hn : n ≤ 1048576) (hnc : n ≤ c) :
    Calls Try.prog 14 #[.slice A n c, .int .i64 i, .int .i64 k] w (MvRes xs i k w) := by
  have HC := Lib.hid (specOutline_any A n c xs w hx hn)
  have HX := Lib.hid hx
  have HL := Lib.hid hx.len
  clear hx
  cases hv : vOutline xs
  · rw [hv] at HC
    have HE := Lib.hid (mvR_1 (i := i) (k := k) hv)
    clear hv
    go_enter Try.func14, Try.ntmps14
    go_wp2_with (go_at_call 21; refine HC.out.mono ?_; rintro e w' ⟨rfl, rfl⟩)
    go_ret2
    exact MvRes.no HE.out (Below.refl _ _)
  rw [hv] at HC
  have HV := Lib.hid hv
  have hn20 : n ≤ 20 := by have := vOutline_len hv; rw [HL.out] at this; exact this
  clear hv
  cases h1 : inB 0 ((n : Int) - 1) i
  · have T1 := Lib.hid h1
    have T2 := T1
    have HE := Lib.hid (mvR_2 (k := k) (show inB 0 ((xs.length : Int) - 1) i = false by rw [HL.out]; exact h1))
    clear h1
    go_enter Try.func14, Try.ntmps14
    go_wp2_with fail
    refine (HC.out).mono ?_
    rintro e w' ⟨rfl, rfl⟩
    go_wp2_with fail
    refine (inRange_any _ _ _ _ T1.out _).mono ?_
    rintro e w' ⟨rfl, rfl⟩
    go_wp2_with fail
    go_ret2
    exact MvRes.no HE.out (Below.refl _ _)
  have T1 := Lib.hid h1
  obtain ⟨hi0, hi1⟩ := inB_iff.1 h1
  clear h1
  cases h1 : inB 0 ((n : Int) - 1) k
  · have T2 := Lib.hid h1
    have HE := Lib.hid (mvR_3 (i := i) (show inB 0 ((xs.length : Int) - 1) k = false by rw [HL.out]; exact h1))
    clear h1
    go_enter Try.func14, Try.ntmps14
    go_wp2_with fail
    refine (HC.out).mono ?_
    rintro e w' ⟨rfl, rfl⟩
    go_wp2_with fail
    refine (inRange_any _ _ _ _ T1.out _).mono ?_
    rintro e w' ⟨rfl, rfl⟩
    go_wp2_with fail
    refine (inRange_any _ _ _ _ T2.out _).mono ?_
    rintro e w' ⟨rfl, rfl⟩
    go_wp2_with fail
    go_ret2
    exact MvRes.no HE.out (Below.refl _ _)
  have T2 := Lib.hid h1
  obtain ⟨hk0, hk1⟩ := inB_iff.1 h1
  clear h1
  obtain ⟨i, rfl⟩ := Int.eq_ofNat_of_zero_le hi0
  obtain ⟨k, rfl⟩ := Int.eq_ofNat_of_zero_le hk0
  have hi : i < n := by omega
  have hk : k < n := by omega
  obtain ⟨b, o, xi, rfl, exi, _⟩ := HX.out.int_at hi
  have hkx : xs[k]? = some (xs[k]'(by rw [HL.out]; exact hk)) := List.getElem?_eq_getElem _
  obtain ⟨xk, exk⟩ : ∃ x, xs[k]? = some x := ⟨_, hkx⟩
  clear hkx
  have ME := Lib.hid (mvEnd_eq exi)
  have MK := Lib.hid (mvEnd_eq exk)
  have HI : Hid (i < xs.length) := by show _ < _; rw [HL.out]; exact hi
  have HK : Hid (k < xs.length) := by show _ < _; rw [HL.out]; exact hk
  have C1 := Lib.hid (specEnd_any (some ⟨b, o, none⟩) n c xs w HX.out i xi hi hn exi)
  rw [← ME.out] at C1
  have hE1 := mvEnd_gt xs i
  have hE2 := mvEnd_le HI.out
  rw [HL.out] at hE2
  obtain ⟨E, hE⟩ : ∃ E, E = mvEnd xs i := ⟨_, rfl⟩
  rw [← hE] at C1 hE1 hE2
  have HE := Lib.hid hE
  clear hE
  by_cases hin : i ≤ k ∧ k < E
  · have T3 := Lib.hid (inB_true (lo := (i : Int)) (hi := (E : Int) - 1) (a := (k : Int)) (by omega) (by omega))
    have HR := Lib.hid (mvR_in (xs := xs) (i := i) (k := k) (by rw [← HE.out]; omega))
    go_enter Try.func14, Try.ntmps14
    go_wp2_with fail
    refine (HC.out).mono ?_
    rintro e w' ⟨rfl, rfl⟩
    go_wp2_with fail
    refine (inRange_any _ _ _ _ T1.out _).mono ?_
    rintro e w' ⟨rfl, rfl⟩
    go_wp2_with fail
    refine (inRange_any _ _ _ _ T2.out _).mono ?_
    rintro e w' ⟨rfl, rfl⟩
    go_wp2_with fail
    refine C1.out.mono ?_
    rintro e w' ⟨rfl, q1, rfl⟩
    go_wp2_with fail
    refine (inRange_any _ _ _ _ T3.out _).mono ?_
    rintro e w' ⟨rfl, rfl⟩
    go_wp2_with fail
    go_ret2
    exact MvRes.no HR.out (below_drewN _)
  have hki : k < i ∨ E ≤ k := by omega
  have HKI : Hid (k < i ∨ mvEnd xs i ≤ k) := by show _ ∨ _; rw [← HE.out]; exact hki
  have T3 : Hid (inB (i : Int) ((E : Int) - 1) (k : Int) = false) := inB_false (by omega)
  go_enter Try.func14, Try.ntmps14
  go_wp2_with fail
  refine (HC.out).mono ?_
  rintro e w' ⟨rfl, rfl⟩
  go_wp2_with fail
  refine (inRange_any _ _ _ _ T1.out _).mono ?_
  rintro e w' ⟨rfl, rfl⟩
  go_wp2_with fail
  refine (inRange_any _ _ _ _ T2.out _).mono ?_
  rintro e w' ⟨rfl, rfl⟩
  go_wp2_with fail
  refine C1.out.mono ?_
  rintro e w' ⟨rfl, q1, rfl⟩
  go_wp2_with fail
  refine (inRange_any _ _ _ _ T3.out _).mono ?_
  rintro e w' ⟨rfl, rfl⟩
  have hEc : (E : Int) ≤ (c : Int) := by omega
  have hiE : (i : Int) ≤ (E : Int) := by omega
  have hci : ¬ c = i := by omega
  have ON := Lib.hid (ints_nil (w.drewN q1))
  have BA := Lib.hid ((below_drewN (B := w.heap.size) (w := w) q1).alloc (Nat.le_refl _) (.cells #[] 3))
  have RS := Lib.hid ((HX.out.islice (Nat.le_of_lt hE1) hE2).below BA.out)
  go_wp2_with (at_builtin; refine app_rd elemInt rfl _ _ rfl ON.out _ RS.out rfl rfl (ints_one _) (by omega) BA.out.size ?_; intro v2 w2 ho hg; have O2 := Lib.hid ho; have B2 := Lib.hid (below_app BA.out hg ON.out (Nat.le_refl _)); clear ho hg)
  have O3 : Hid (w2.ownsRow w.heap.size 3 1 v2 (E - i) (ints (mvPart xs i))) := by
    have h := O2.out
    rw [Nat.zero_add] at h
    show w2.ownsRow w.heap.size 3 1 v2 (E - i) (ints (mvPart xs i))
    unfold mvPart
    rw [← HE.out]
    simpa [ints] using h
  obtain ⟨PA, pd, e, hpd⟩ := own_shape O3.out
  subst e
  refine (specEnd_any (some ⟨b, o, none⟩) n c xs w2 (HX.out.below B2.out) k xk hk hn exk).mono ?_
  rintro e w' ⟨rfl, q2, rfl⟩
  rw [← MK.out]
  obtain ⟨P, hP⟩ : ∃ P, P = mvEnd xs k := ⟨_, rfl⟩
  rw [← hP]
  have HP := Lib.hid hP
  clear hP
  have B3 := Lib.hid (below_drewN' B2.out q2)
  have O4 := Lib.hid (own_drewN O3.out q2)
  obtain ⟨W2, hW⟩ : ∃ W, W = w2.drewN q2 := ⟨_, rfl⟩
  rw [← hW] at B3 O4 ⊢
  clear hW O2 O3 B2
  have hnl := HL.out
  subst hnl
  go_wp2_with fail
  go_loopw [11, 12] (MvRel W2 xs i k) (fun _ s _ => xs.length + 1 - (intOf s).toNat)
  case atStart =>
    refine ⟨0, 0, by omega, rfl, by omega, ?_, (Below.refl _ _).alloc (Nat.le_refl _) _⟩
    rw [mvSt, if_pos (Nat.zero_le _), made_start]
    exact ints_nil W2
  case round =>
    obtain ⟨m, t, hm, rfl, ht, hown, hbel⟩ := hrel
    obtain ⟨L, d, e, htd⟩ := own_shape hown
    subst e
    have O5 := Lib.hid hown
    have B5 := Lib.hid hbel
    clear hown hbel
    have hz5 : W2.heap.size ≤ wr.heap.size := B5.out.size
    by_cases hmn : m ≤ xs.length
    case neg =>
      have hmn' : ¬ (m : Int) ≤ (xs.length : Int) := by omega
      have O6 : Hid (wr.ownsRow W2.heap.size 3 1 (.slice L t d) t (ints (mvL xs i k))) := by
        have h := O5.out
        rw [mvSt, if_neg hmn] at h
        exact h
      have CV := Lib.hid (specOutline_any L t d _ wr (Rd.own O6.out) (by omega))
      cases hvl : vOutline (mvL xs i k)
      · rw [hvl] at CV
        have HR := Lib.hid (mvR_bad (xs := xs) (i := i) (k := k) (by rw [hvl]; simp))
        clear hvl
        go_wp2_with fail
        refine CV.out.mono ?_
        rintro e w' ⟨rfl, rfl⟩
        go_wp2_with fail
        go_ret2
        exact MvRes.no HR.out (below_then B3.out B3.out.size B5.out)
      · rw [hvl] at CV
        have HR := Lib.hid (mvR_yes HV.out T1.out T2.out HKI.out hvl)
        clear hvl
        go_wp2_with fail
        refine CV.out.mono ?_
        rintro e w' ⟨rfl, rfl⟩
        go_wp2_with fail
        go_ret2
        exact MvRes.yes HR.out (own_base O6.out B3.out.size) (below_then B3.out B3.out.size B5.out)
    have hmn' : (m : Int) ≤ (xs.length : Int) := by omega
    have hm0 : (0 : Int) ≤ (m : Int) := by omega
    have O6 : Hid (wr.ownsRow W2.heap.size 3 1 (.slice L t d) t (ints (mvMade xs i k m))) := by
      have h := O5.out
      rw [mvSt, if_pos hmn] at h
      exact h
    have ht40 : t ≤ 40 := by
      have h := (Rd.own O6.out).len
      have h2 := mvMade_le (xs := xs) (i := i) (k := k) (m := m) HI.out hn20
      omega
    clear O5
    by_cases hmP : m = P
    case pos =>
      have RP := Lib.hid ((Rd.own O4.out).below B5.out)
      have hmP' : ((m : Int) == (P : Int)) = true := by simp [hmP]
      have HH : Hid (mvHalf xs i k m = mvMade xs i k m ++ mvPart xs i) := by
        show mvHalf xs i k m = mvMade xs i k m ++ mvPart xs i
        unfold mvHalf
        rw [if_pos (by rw [hmP]; exact HP.out)]
      clear hmP
      by_cases hml : m = xs.length
      case pos =>
        have HN : Hid (mvSt xs i k (m + 1) = mvHalf xs i k m) := by
          show mvSt xs i k (m + 1) = mvHalf xs i k m
          rw [mvSt, if_neg (by omega), hml, made_end HI.out HK.out HKI.out]
        have hml' : ¬ (m : Int) < (xs.length : Int) := by omega
        clear hml
        go_wp2_with (at_builtin; refine app_rd elemInt rfl _ _ rfl O6.out _ RP.out rfl rfl (ints_one _) (by omega) hz5 ?_; intro v3 w3 ho hg; have O7 := Lib.hid ho; have BH := Lib.hid (below_app B5.out hg O6.out (Nat.le_refl _)); clear ho hg)
        obtain ⟨L3, d3, e3, htd3⟩ := own_shape O7.out
        subst e3
        have OH : Hid (w3.ownsRow W2.heap.size 3 1 (.slice L3 (t + (E - i)) d3) (t + (E - i)) (ints (mvHalf xs i k m))) := by
          have h := O7.out
          show w3.ownsRow W2.heap.size 3 1 (.slice L3 (t + (E - i)) d3) (t + (E - i)) (ints (mvHalf xs i k m))
          rw [HH.out]
          simpa [ints] using h
        clear O7
        go_roundw
        case rel => exact ⟨m + 1, (t + (E - i)), by omega, by go_num, by omega, by rw [HN.out]; exact OH.out, BH.out⟩
        case measure => simp [intOf] <;> omega
      have hml' : (m : Int) < (xs.length : Int) := by omega
      have hml2 : m < xs.length := by omega
      clear hml
      obtain ⟨b', o', y, e1, ey, hcy⟩ := HX.out.int_at hml2
      injection e1 with e1
      injection e1 with e1 e2
      subst e1; subst e2
      by_cases hie : i ≤ m ∧ m < E
      case pos =>
        have HN : Hid (mvSt xs i k (m + 1) = mvHalf xs i k m) := by
          show mvSt xs i k (m + 1) = mvHalf xs i k m
          rw [mvSt, if_pos (by omega), made_in HI.out HK.out HKI.out hie.1 (by rw [← HE.out]; exact hie.2)]
        have T5 := Lib.hid (inB_true (lo := (i : Int)) (hi := (E : Int) - 1) (a := (m : Int)) (by omega) (by omega))
        go_wp2_with (at_builtin; refine app_rd elemInt rfl _ _ rfl O6.out _ RP.out rfl rfl (ints_one _) (by omega) hz5 ?_; intro v3 w3 ho hg; have O7 := Lib.hid ho; have BH := Lib.hid (below_app B5.out hg O6.out (Nat.le_refl _)); clear ho hg)
        obtain ⟨L3, d3, e3, htd3⟩ := own_shape O7.out
        subst e3
        have OH : Hid (w3.ownsRow W2.heap.size 3 1 (.slice L3 (t + (E - i)) d3) (t + (E - i)) (ints (mvHalf xs i k m))) := by
          have h := O7.out
          show w3.ownsRow W2.heap.size 3 1 (.slice L3 (t + (E - i)) d3) (t + (E - i)) (ints (mvHalf xs i k m))
          rw [HH.out]
          simpa [ints] using h
        clear O7
        refine (inRange_any _ _ _ _ T5.out _).mono ?_
        rintro e w' ⟨rfl, rfl⟩
        go_wp2_with fail
        go_roundw
        case rel => exact ⟨m + 1, (t + (E - i)), by omega, by go_num, by omega, by rw [HN.out]; exact OH.out, BH.out⟩
        case measure => simp [intOf] <;> omega
      have HN : Hid (mvSt xs i k (m + 1) = mvHalf xs i k m ++ [y]) := by
        show mvSt xs i k (m + 1) = mvHalf xs i k m ++ [y]
        rw [mvSt, if_pos (by omega), made_out HI.out HK.out HKI.out (by rw [← HE.out]; omega) ey]
      have T5 : Hid (inB (i : Int) ((E : Int) - 1) (m : Int) = false) := inB_false (by omega)
      go_wp2_with (at_builtin; refine app_rd elemInt rfl _ _ rfl O6.out _ RP.out rfl rfl (ints_one _) (by omega) hz5 ?_; intro v3 w3 ho hg; have O7 := Lib.hid ho; have BH := Lib.hid (below_app B5.out hg O6.out (Nat.le_refl _)); clear ho hg)
      obtain ⟨L3, d3, e3, htd3⟩ := own_shape O7.out
      subst e3
      have OH : Hid (w3.ownsRow W2.heap.size 3 1 (.slice L3 (t + (E - i)) d3) (t + (E - i)) (ints (mvHalf xs i k m))) := by
        have h := O7.out
        show w3.ownsRow W2.heap.size 3 1 (.slice L3 (t + (E - i)) d3) (t + (E - i)) (ints (mvHalf xs i k m))
        rw [HH.out]
        simpa [ints] using h
      clear O7
      refine (inRange_any _ _ _ _ T5.out _).mono ?_
      rintro e w' ⟨rfl, rfl⟩
      have hcy2 := cell_below (below_then B3.out B3.out.size BH.out) hcy
      go_wp2_with (at_builtin; refine app_lit elemInt rfl _ _ rfl OH.out _ _ [.int .i64 y] rfl rfl rfl (by simp [Value.oneCell']) (by omega) BH.out.size ?_; intro v4 w4 ho hg; have O8 := Lib.hid ho; have B8 := Lib.hid (below_app (BH.out.alloc BH.out.size _) hg OH.out (Nat.le_refl _)); clear ho hg)
      go_roundw
      case rel => exact ⟨m + 1, (t + (E - i)) + 1, by omega, by go_num, by omega, by rw [HN.out]; simpa [ints] using O8.out, B8.out⟩
      case measure => simp [intOf] <;> omega
    have hmP' : ((m : Int) == (P : Int)) = false := by simp; omega
    have OH : Hid (wr.ownsRow W2.heap.size 3 1 (.slice L t d) t (ints (mvHalf xs i k m))) := by
      show wr.ownsRow W2.heap.size 3 1 (.slice L t d) t (ints (mvHalf xs i k m))
      unfold mvHalf
      rw [if_neg (by rw [← HP.out]; exact hmP)]
      exact O6.out
    have BH := B5
    clear hmP
    by_cases hml : m = xs.length
    case pos =>
      have HN : Hid (mvSt xs i k (m + 1) = mvHalf xs i k m) := by
        show mvSt xs i k (m + 1) = mvHalf xs i k m
        rw [mvSt, if_neg (by omega), hml, made_end HI.out HK.out HKI.out]
      have hml' : ¬ (m : Int) < (xs.length : Int) := by omega
      clear hml
      go_wp2_with fail
      go_roundw
      case rel => exact ⟨m + 1, t, by omega, by go_num, by omega, by rw [HN.out]; exact OH.out, BH.out⟩
      case measure => simp [intOf] <;> omega
    have hml' : (m : Int) < (xs.length : Int) := by omega
    have hml2 : m < xs.length := by omega
    clear hml
    obtain ⟨b', o', y, e1, ey, hcy⟩ := HX.out.int_at hml2
    injection e1 with e1
    injection e1 with e1 e2
    subst e1; subst e2
    by_cases hie : i ≤ m ∧ m < E
    case pos =>
      have HN : Hid (mvSt xs i k (m + 1) = mvHalf xs i k m) := by
        show mvSt xs i k (m + 1) = mvHalf xs i k m
        rw [mvSt, if_pos (by omega), made_in HI.out HK.out HKI.out hie.1 (by rw [← HE.out]; exact hie.2)]
      have T5 := Lib.hid (inB_true (lo := (i : Int)) (hi := (E : Int) - 1) (a := (m : Int)) (by omega) (by omega))
      go_wp2_with fail
      refine (inRange_any _ _ _ _ T5.out _).mono ?_
      rintro e w' ⟨rfl, rfl⟩
      go_wp2_with fail
      go_roundw
      case rel => exact ⟨m + 1, t, by omega, by go_num, by omega, by rw [HN.out]; exact OH.out, BH.out⟩
      case measure => simp [intOf] <;> omega
    have HN : Hid (mvSt xs i k (m + 1) = mvHalf xs i k m ++ [y]) := by
      show mvSt xs i k (m + 1) = mvHalf xs i k m ++ [y]
      rw [mvSt, if_pos (by omega), made_out HI.out HK.out HKI.out (by rw [← HE.out]; omega) ey]
    have T5 : Hid (inB (i : Int) ((E : Int) - 1) (m : Int) = false) := inB_false (by omega)
    go_wp2_with fail
    refine (inRange_any _ _ _ _ T5.out _).mono ?_
    rintro e w' ⟨rfl, rfl⟩
    have hcy2 := cell_below (below_then B3.out B3.out.size BH.out) hcy
    go_wp2_with (at_builtin; refine app_lit elemInt rfl _ _ rfl OH.out _ _ [.int .i64 y] rfl rfl rfl (by simp [Value.oneCell']) (by omega) BH.out.size ?_; intro v4 w4 ho hg; have O8 := Lib.hid ho; have B8 := Lib.hid (below_app (BH.out.alloc BH.out.size _) hg OH.out (Nat.le_refl _)); clear ho hg)
    go_roundw
    case rel => exact ⟨m + 1, t + 1, by omega, by go_num, by omega, by rw [HN.out]; simpa [ints] using O8.out, B8.out⟩
    case measure => simp [intOf] <;> omega

end Go.Proofs.Ytdgmienljhaipaa
