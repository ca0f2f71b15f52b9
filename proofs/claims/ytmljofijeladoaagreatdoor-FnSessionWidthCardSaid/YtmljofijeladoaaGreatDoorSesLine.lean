/-
  Contract of the reference's line: one command of a session.
-/
import Derived.Test.YtmljofijeladoaaGreatDoorSesSpec
namespace Go.Proofs.YtmljofijeladoaaGreatDoor
open Go.RowKit
set_option linter.unusedVariables false

theorem cutB_two {x : ByteArray} {l : List UInt8} (h : cutG 32 1 [] x.data.toList = [l, x.data.toList.drop 6]) : cutB 32 1 x = [baL l, aft x] := by
  rw [cutB, h]; rfl
theorem cutB_self {x : ByteArray} (h : (32 : UInt8) ∉ x.data.toList) : cutB 32 1 x = [x] := by
  rw [cutB, cutG_none 32 _ 1 [] h, List.nil_append, List.map_cons, List.map_nil, baL_of]
theorem isW_cut {x : ByteArray} : (isW x = true ∧ cutB 32 1 x = [baL tW, aft x]) ∨ (isW x = false ∧ ¬ ((cutB 32 1 x)[0]? = some (baL tW) ∧ (cutB 32 1 x).length = 2)) := by
  rcases cut_word (l := x.data.toList) (w := tW) (by decide) with ⟨h1, h2⟩ | ⟨h1, h2⟩
  · exact .inl ⟨h1, cutB_two h2⟩
  · refine .inr ⟨h1, fun ⟨h3, h4⟩ => h2 ⟨?_, by rw [cutB_length] at h4; exact h4⟩⟩
    rw [cutB, List.getElem?_map] at h3
    obtain ⟨p, hp, e⟩ := Option.map_eq_some_iff.1 h3
    rw [hp, baL_inj e]
theorem isN_cut {x : ByteArray} : (isN x = true ∧ cutB 32 1 x = [baL tN, aft x]) ∨ (isN x = false ∧ ¬ ((cutB 32 1 x)[0]? = some (baL tN) ∧ (cutB 32 1 x).length = 2)) := by
  rcases cut_word (l := x.data.toList) (w := tN) (by decide) with ⟨h1, h2⟩ | ⟨h1, h2⟩
  · exact .inl ⟨h1, cutB_two h2⟩
  · refine .inr ⟨h1, fun ⟨h3, h4⟩ => h2 ⟨?_, by rw [cutB_length] at h4; exact h4⟩⟩
    rw [cutB, List.getElem?_map] at h3
    obtain ⟨p, hp, e⟩ := Option.map_eq_some_iff.1 h3
    rw [hp, baL_inj e]
theorem aft_size (x : ByteArray) : (aft x).size ≤ x.size := by
  show (x.data.toList.drop 6).length ≤ x.size
  rw [List.length_drop]
  have : x.data.toList.length = x.size := rfl
  omega
theorem step_words {st : St} {x : ByteArray} (h : isW x = true) : sstep st x = if vWords (allB 32 (aft x)) = true then (okT, ⟨allB 32 (aft x), st.wd⟩) else (noT, st) := by rw [sstep, if_pos h]
theorem step_width {st : St} {x : ByteArray} (h1 : isW x = false) (h : isN x = true) : sstep st x = if wOk (aft x) = true then (okT, ⟨st.ws, pIntL (aft x).data.toList⟩) else (noT, st) := by
  rw [sstep, if_neg (by rw [h1]; decide), if_pos h]
theorem step_fill {st : St} : sstep st (baL tFill) = (baL (nlL (fillT st.ws st.wd)), st) := by
  rw [sstep, if_neg (by decide), if_neg (by decide), if_pos rfl]
theorem tx_ne {a b : List UInt8} (h : a ≠ b) : ¬ baL a = baL b := fun e => h (baL_inj e)
theorem step_ends {st : St} : sstep st (baL tEnds) = (numsB (wEnds st.ws st.wd) ++ nlT, st) := by
  rw [sstep, if_neg (by decide), if_neg (by decide), if_neg (tx_ne (by decide)), if_pos rfl]
theorem step_cost {st : St} : sstep st (baL tCost) = (itoaB (costN st) ++ nlT, st) := by
  rw [sstep, if_neg (by decide), if_neg (by decide), if_neg (tx_ne (by decide)), if_neg (tx_ne (by decide)), if_pos rfl]
theorem step_count {st : St} : sstep st (baL tCount) = (itoaB (st.ws.length : Int) ++ nlT, st) := by
  rw [sstep, if_neg (by decide), if_neg (by decide), if_neg (tx_ne (by decide)), if_neg (tx_ne (by decide)), if_neg (tx_ne (by decide)), if_pos rfl]
theorem step_what {st : St} {x : ByteArray} (h1 : isW x = false) (h2 : isN x = false) (h3 : ¬ x = baL tFill) (h4 : ¬ x = baL tEnds) (h5 : ¬ x = baL tCost) (h6 : ¬ x = baL tCount) : sstep st x = (whatT, st) := by
  rw [sstep, if_neg (by rw [h1]; decide), if_neg (by rw [h2]; decide), if_neg h3, if_neg h4, if_neg h5, if_neg h6]

set_option maxHeartbeats 4000000 in
set_option maxRecDepth 8000 in
theorem specLine_words (w : World) (g : Nat) (st : St) (x : ByteArray) (hS : SesAt 47 w g st) (hx : x.size ≤ 4000000000) (h : isW x = true) :
    Calls Tryz.prog 17 #[.pointer (some ⟨g, 0, none⟩), .string x] w (Stepped 47 w g (sstep st x)) := by
  have hl : cutB 32 1 x = [baL tW, aft x] := by
    rcases isW_cut (x := x) with h1 | h1
    · exact h1.2
    · rw [h] at h1; cases h1.1
  have haf := aft_size x
  have SW := Lib.hid (fun w2 (h2 : SesAt 47 w2 g st) => specSetWords_any w2 g st (aft x) h2 (by omega))
  rw [← step_words (st := st) h] at SW
  obtain ⟨r, hr⟩ : ∃ r, r = sstep st x := ⟨_, rfl⟩
  rw [← hr] at SW ⊢
  clear hr
  have S0 := Lib.hid hS
  have SP := Lib.hid (fun w1 => split_any x 32 1 w1 (by omega) (by omega))
  rw [hl] at SP
  clear hS
  clear hl h
  go_enter Tryz.func17, Tryz.ntmps17
  go_wp2_with fail
  refine (SP.out _).mono ?_
  rintro e w1 ⟨v, rfl, ho, hb⟩
  obtain ⟨A, d, hsh, hmd⟩ := own_shape ho
  subst hsh
  have R1 := Lib.hid (Rd.own ho)
  have S1 := Lib.hid (S0.out.below hb)
  have B1 := Lib.hid hb
  clear ho hb
  obtain ⟨b0, o0, t0, rfl, et, hct⟩ := R1.out.str_at (k := 0) (by simp)
  obtain ⟨b1, o1, t1, e1, et1, hct1⟩ := R1.out.str_at (k := 1) (by simp)
  injection e1 with e1
  injection e1 with e1 e2
  subst e1; subst e2
  rw [Nat.add_zero] at hct
  have ht0 : t0 = baL tW := by simpa using et.symm
  have ht1 : t1 = aft x := by simpa using et1.symm
  subst ht1
  have s1 := str_sameL ht0
  have q1 : (t0.toList == (⟨#[119, 111, 114, 100, 115]⟩ : ByteArray).toList) = true := str_same ht0
  unfold tW at s1
  clear ht0 et et1
  go_wp2_with fail
  refine (SW.out _ S1.out).mono ?_
  rintro e w2 ⟨rfl, hs2, hg2⟩
  have S2 := Lib.hid hs2
  have G2 := Lib.hid (gr_trans (gr_of_below B1.out) hg2)
  clear hs2 hg2
  go_wp2_with fail
  go_ret
  exact ⟨rfl, S2.out, G2.out⟩
set_option maxHeartbeats 4000000 in
set_option maxRecDepth 8000 in
theorem specLine_width (w : World) (g : Nat) (st : St) (x : ByteArray) (hS : SesAt 47 w g st) (hx : x.size ≤ 4000000000) (h0 : isW x = false) (h : isN x = true) :
    Calls Tryz.prog 17 #[.pointer (some ⟨g, 0, none⟩), .string x] w (Stepped 47 w g (sstep st x)) := by
  have hl : cutB 32 1 x = [baL tN, aft x] := by
    rcases isN_cut (x := x) with h1 | h1
    · exact h1.2
    · rw [h] at h1; cases h1.1
  have haf := aft_size x
  have SW := Lib.hid (fun w2 (h2 : SesAt 47 w2 g st) => specSetWidth_any w2 g st (aft x) h2 (by omega))
  rw [← step_width (st := st) h0 h] at SW
  obtain ⟨r, hr⟩ : ∃ r, r = sstep st x := ⟨_, rfl⟩
  rw [← hr] at SW ⊢
  clear hr
  have S0 := Lib.hid hS
  have SP := Lib.hid (fun w1 => split_any x 32 1 w1 (by omega) (by omega))
  rw [hl] at SP
  clear hS
  clear hl h h0
  go_enter Tryz.func17, Tryz.ntmps17
  go_wp2_with fail
  refine (SP.out _).mono ?_
  rintro e w1 ⟨v, rfl, ho, hb⟩
  obtain ⟨A, d, hsh, hmd⟩ := own_shape ho
  subst hsh
  have R1 := Lib.hid (Rd.own ho)
  have S1 := Lib.hid (S0.out.below hb)
  have B1 := Lib.hid hb
  clear ho hb
  obtain ⟨b0, o0, t0, rfl, et, hct⟩ := R1.out.str_at (k := 0) (by simp)
  obtain ⟨b1, o1, t1, e1, et1, hct1⟩ := R1.out.str_at (k := 1) (by simp)
  injection e1 with e1
  injection e1 with e1 e2
  subst e1; subst e2
  rw [Nat.add_zero] at hct
  have ht0 : t0 = baL tN := by simpa using et.symm
  have ht1 : t1 = aft x := by simpa using et1.symm
  subst ht1
  have hnw : ¬ t0 = baL tW := by rw [ht0]; exact tx_ne (by decide)
  have s2 := str_otherL hnw
  have q2 : (t0.toList == (⟨#[119, 111, 114, 100, 115]⟩ : ByteArray).toList) = false := str_parts hnw
  unfold tW at s2
  have s3 := str_sameL ht0
  have q3 : (t0.toList == (⟨#[119, 105, 100, 116, 104]⟩ : ByteArray).toList) = true := str_same ht0
  unfold tN at s3
  clear ht0 hnw et et1
  go_wp2_with fail
  refine (SW.out _ S1.out).mono ?_
  rintro e w2 ⟨rfl, hs2, hg2⟩
  have S2 := Lib.hid hs2
  have G2 := Lib.hid (gr_trans (gr_of_below B1.out) hg2)
  clear hs2 hg2
  go_wp2_with fail
  go_ret
  exact ⟨rfl, S2.out, G2.out⟩
set_option maxHeartbeats 8000000 in
set_option maxRecDepth 8000 in
theorem specLine_fill (w : World) (g : Nat) (st : St) (x : ByteArray) (hS : SesAt 47 w g st) (hx : x.size ≤ 4000000000) (hx0 : x = baL tFill) :
    Calls Tryz.prog 17 #[.pointer (some ⟨g, 0, none⟩), .string x] w (Stepped 47 w g (sstep st x)) := by
  have hl : cutB 32 1 x = [x] := cutB_self (by rw [hx0]; decide)
  rw [show sstep st x = _ from (congrArg (sstep st) hx0).trans step_fill]
  have KO := Lib.hid hS.ok
  have HZ := Lib.hid (SesAt.words hS.ok)
  have FT := Lib.hid (fun A' n' c' w2 (hr : Rd w2 1 A' n' (strs' st.ws)) (hn : n' ≤ 40) (hnc : n' ≤ c') => specFillText_any A' n' c' st.ws st.wd w2 hr (by omega) hnc HZ.out)
  unfold FtRes at FT
  have FS := Lib.hid (fillT_sizes st.ws st.wd)
  obtain ⟨F, hF⟩ : ∃ F, F = fillT st.ws st.wd := ⟨_, rfl⟩
  rw [← hF] at FT FS ⊢
  clear hF
  have S0 := Lib.hid hS
  have SP := Lib.hid (fun w1 => split_any x 32 1 w1 (by omega) (by omega))
  rw [hl] at SP
  clear hS
  have hnw : ¬ x = baL tW := by rw [hx0]; exact tx_ne (by decide)
  have hnn : ¬ x = baL tN := by rw [hx0]; exact tx_ne (by decide)
  have s4 := str_otherL hnw
  have q4 : (x.toList == (⟨#[119, 111, 114, 100, 115]⟩ : ByteArray).toList) = false := str_parts hnw
  unfold tW at s4
  have s5 := str_otherL hnn
  have q5 : (x.toList == (⟨#[119, 105, 100, 116, 104]⟩ : ByteArray).toList) = false := str_parts hnn
  unfold tN at s5
  have s6 := str_sameL hx0
  have q6 : (x.toList == (⟨#[102, 105, 108, 108]⟩ : ByteArray).toList) = true := str_same hx0
  unfold tFill at s6
  clear hl hnw hnn hx0
  go_enter Tryz.func17, Tryz.ntmps17
  go_wp2_with fail
  refine (SP.out _).mono ?_
  rintro e w1 ⟨v, rfl, ho, hb⟩
  obtain ⟨A, d, hsh, hmd⟩ := own_shape ho
  subst hsh
  have R1 := Lib.hid (Rd.own ho)
  have S1 := Lib.hid (S0.out.below hb)
  have B1 := Lib.hid hb
  clear ho hb
  obtain ⟨b0, o0, t0, rfl, et, hct⟩ := R1.out.str_at (k := 0) (by simp)
  rw [Nat.add_zero] at hct
  have ht0 : t0 = x := by simpa using et.symm
  subst ht0
  clear et
  obtain ⟨A', n', c', k0, k1, kf0, kf1, hr, hnc, hn, hlen⟩ := S1.out.cells
  have RS := Lib.hid hr
  clear hr
  clear hlen
  go_wp2_with fail
  go_region_held3 (fun w' => w'.cell? ⟨g, 0, none⟩ = some (.slice A' n' c') ∧ w'.cell? ⟨g, 1, none⟩ = some (.int .i64 st.wd)) (first | go_keep | exact ⟨cell_below BF.out k0, cell_below BF.out k1⟩)
    (first
    | (go_at_call 34; (refine (FT.out A' n' c' _ (RS.out.drewN 1) hn hnc).mono ?_); rintro e w3 ⟨B, k, dd, rfl, hof, hbf⟩; have BF := Lib.hid (drew_then hbf); have OF := Lib.hid hof; clear hof hbf)
    | (go_at_call 33; (refine (lines_any B k dd F w3 (Rd.own OF.out) (by have := own_len OF.out; have := FS.out.1; omega) FS.out.2).mono ?_); rintro e w' ⟨rfl, rfl⟩))
  go_wp2_with fail
  go_ret
  exact ⟨rfl, S1.out.below BF.out, gr_of_below (below_step B1.out BF.out)⟩
set_option maxHeartbeats 8000000 in
set_option maxRecDepth 8000 in
theorem specLine_ends (w : World) (g : Nat) (st : St) (x : ByteArray) (hS : SesAt 47 w g st) (hx : x.size ≤ 4000000000) (hx0 : x = baL tEnds) :
    Calls Tryz.prog 17 #[.pointer (some ⟨g, 0, none⟩), .string x] w (Stepped 47 w g (sstep st x)) := by
  have hl : cutB 32 1 x = [x] := cutB_self (by rw [hx0]; decide)
  rw [show sstep st x = _ from (congrArg (sstep st) hx0).trans step_ends]
  have KO := Lib.hid hS.ok
  have HZ := Lib.hid (SesAt.words hS.ok)
  have WE := Lib.hid (fun A' n' c' w2 (hr : Rd w2 1 A' n' (strs' st.ws)) (hnc : n' ≤ c') => wrapEnds_any A' n' c' st.ws st.wd w2 hr hnc KO.out)
  have E1 := Lib.hid (wEnds_len st.ws st.wd)
  have E2 := Lib.hid (wEnds_each (l := st.ws) (W := st.wd))
  obtain ⟨F, hF⟩ : ∃ F, F = wEnds st.ws st.wd := ⟨_, rfl⟩
  rw [← hF] at WE E1 E2 ⊢
  clear hF
  have r1 : ∀ W : World, (Op.stringOp .add (numsB F) ⟨#[10]⟩).run Tryz.prog W = .ok (.string (numsB F ++ ⟨#[10]⟩)) W := sum_run _ _ (by have := numsB_size E1.out E2.out; omega) (by decide)
  have S0 := Lib.hid hS
  have SP := Lib.hid (fun w1 => split_any x 32 1 w1 (by omega) (by omega))
  rw [hl] at SP
  clear hS
  have hnw : ¬ x = baL tW := by rw [hx0]; exact tx_ne (by decide)
  have hnn : ¬ x = baL tN := by rw [hx0]; exact tx_ne (by decide)
  have s7 := str_otherL hnw
  have q7 : (x.toList == (⟨#[119, 111, 114, 100, 115]⟩ : ByteArray).toList) = false := str_parts hnw
  unfold tW at s7
  have s8 := str_otherL hnn
  have q8 : (x.toList == (⟨#[119, 105, 100, 116, 104]⟩ : ByteArray).toList) = false := str_parts hnn
  unfold tN at s8
  have hnF : ¬ x = baL tFill := by rw [hx0]; exact tx_ne (by decide)
  have s9 := str_otherL hnF
  have q9 : (x.toList == (⟨#[102, 105, 108, 108]⟩ : ByteArray).toList) = false := str_parts hnF
  unfold tFill at s9
  clear hnF
  have s10 := str_sameL hx0
  have q10 : (x.toList == (⟨#[101, 110, 100, 115]⟩ : ByteArray).toList) = true := str_same hx0
  unfold tEnds at s10
  clear hl hnw hnn hx0
  go_enter Tryz.func17, Tryz.ntmps17
  go_wp2_with fail
  refine (SP.out _).mono ?_
  rintro e w1 ⟨v, rfl, ho, hb⟩
  obtain ⟨A, d, hsh, hmd⟩ := own_shape ho
  subst hsh
  have R1 := Lib.hid (Rd.own ho)
  have S1 := Lib.hid (S0.out.below hb)
  have B1 := Lib.hid hb
  clear ho hb
  obtain ⟨b0, o0, t0, rfl, et, hct⟩ := R1.out.str_at (k := 0) (by simp)
  rw [Nat.add_zero] at hct
  have ht0 : t0 = x := by simpa using et.symm
  subst ht0
  clear et
  obtain ⟨A', n', c', k0, k1, kf0, kf1, hr, hnc, hn, hlen⟩ := S1.out.cells
  have RS := Lib.hid hr
  clear hr
  clear hlen
  go_wp2_with fail
  go_region_held3 (fun w' => w'.cell? ⟨g, 0, none⟩ = some (.slice A' n' c') ∧ w'.cell? ⟨g, 1, none⟩ = some (.int .i64 st.wd)) (first | go_keep | exact ⟨cell_below B4.out k0, cell_below B4.out k1⟩ | exact ⟨cell_below BF.out k0, cell_below BF.out k1⟩)
    (first
    | (go_at_call 36; (refine (WE.out A' n' c' _ (RS.out.drewN 1) hnc).mono ?_); rintro e w3 ⟨B, k, dd, rfl, hof, hbf⟩; have BF := Lib.hid (drew_then hbf); have OF := Lib.hid hof; clear hof hbf)
    | (go_at_call 35; (refine (formatInts_any B k dd F w3 (Rd.own OF.out) (by have := (Rd.own OF.out).len; have := E1.out; omega) E2.out).mono ?_); rintro e w4 ⟨rfl, hb4⟩; have B4 := Lib.hid (below_step BF.out hb4); clear hb4))
  go_wp2_with fail
  go_ret
  exact ⟨rfl, S1.out.below B4.out, gr_of_below (below_step B1.out B4.out)⟩
set_option maxHeartbeats 8000000 in
set_option maxRecDepth 8000 in
theorem specLine_cost (w : World) (g : Nat) (st : St) (x : ByteArray) (hS : SesAt 47 w g st) (hx : x.size ≤ 4000000000) (hx0 : x = baL tCost) :
    Calls Tryz.prog 17 #[.pointer (some ⟨g, 0, none⟩), .string x] w (Stepped 47 w g (sstep st x)) := by
  have hl : cutB 32 1 x = [x] := cutB_self (by rw [hx0]; decide)
  rw [show sstep st x = _ from (congrArg (sstep st) hx0).trans step_cost]
  have KO := Lib.hid hS.ok
  have HZ := Lib.hid (SesAt.words hS.ok)
  have WE := Lib.hid (fun A' n' c' w2 (hr : Rd w2 1 A' n' (strs' st.ws)) (hnc : n' ≤ c') => wrapEnds_any A' n' c' st.ws st.wd w2 hr hnc KO.out)
  have E1 := Lib.hid (wEnds_len st.ws st.wd)
  have CB := Lib.hid (costN_bound KO.out)
  have HC : Hid (costN st = (wCost st.ws st.wd (wEnds st.ws st.wd)).1) := rfl
  obtain ⟨F, hF⟩ : ∃ F, F = wEnds st.ws st.wd := ⟨_, rfl⟩
  have WC := Lib.hid (fun A' n' c' w2 B k dd (hr : Rd w2 1 A' n' (strs' st.ws)) (hn : n' ≤ 40) (hnc : n' ≤ c') (hy : Rd w2 1 B k (ints F)) (hk : k ≤ 40) => specCost_any A' n' c' st.ws st.wd B k dd F w2 hr hy (by omega) (by omega) hnc HZ.out)
  rw [← hF] at WE E1 HC
  rw [← HC.out] at WC
  obtain ⟨N, hN⟩ : ∃ N, N = costN st := ⟨_, rfl⟩
  rw [← hN] at WC CB ⊢
  clear hF hN HC
  obtain ⟨bb, hbb⟩ : ∃ bb, bb = (wCost st.ws st.wd F).2 := ⟨_, rfl⟩
  rw [← hbb] at WC
  clear hbb
  have CF := Lib.hid (fun w2 => formatInt_any N w2 (by have := CB.out; omega) (by have := CB.out; omega))
  have r1 : ∀ W : World, (Op.stringOp .add (itoaB N) ⟨#[10]⟩).run Tryz.prog W = .ok (.string (itoaB N ++ ⟨#[10]⟩)) W := sum_run _ _ (by have := itoa_long (n := N) (by have := CB.out; omega) (by have := CB.out; omega); omega) (by decide)
  have S0 := Lib.hid hS
  have SP := Lib.hid (fun w1 => split_any x 32 1 w1 (by omega) (by omega))
  rw [hl] at SP
  clear hS
  have hnw : ¬ x = baL tW := by rw [hx0]; exact tx_ne (by decide)
  have hnn : ¬ x = baL tN := by rw [hx0]; exact tx_ne (by decide)
  have s11 := str_otherL hnw
  have q11 : (x.toList == (⟨#[119, 111, 114, 100, 115]⟩ : ByteArray).toList) = false := str_parts hnw
  unfold tW at s11
  have s12 := str_otherL hnn
  have q12 : (x.toList == (⟨#[119, 105, 100, 116, 104]⟩ : ByteArray).toList) = false := str_parts hnn
  unfold tN at s12
  have hnF : ¬ x = baL tFill := by rw [hx0]; exact tx_ne (by decide)
  have s13 := str_otherL hnF
  have q13 : (x.toList == (⟨#[102, 105, 108, 108]⟩ : ByteArray).toList) = false := str_parts hnF
  unfold tFill at s13
  clear hnF
  have hnE : ¬ x = baL tEnds := by rw [hx0]; exact tx_ne (by decide)
  have s14 := str_otherL hnE
  have q14 : (x.toList == (⟨#[101, 110, 100, 115]⟩ : ByteArray).toList) = false := str_parts hnE
  unfold tEnds at s14
  clear hnE
  have s15 := str_sameL hx0
  have q15 : (x.toList == (⟨#[99, 111, 115, 116]⟩ : ByteArray).toList) = true := str_same hx0
  unfold tCost at s15
  clear hl hnw hnn hx0
  go_enter Tryz.func17, Tryz.ntmps17
  go_wp2_with fail
  refine (SP.out _).mono ?_
  rintro e w1 ⟨v, rfl, ho, hb⟩
  obtain ⟨A, d, hsh, hmd⟩ := own_shape ho
  subst hsh
  have R1 := Lib.hid (Rd.own ho)
  have S1 := Lib.hid (S0.out.below hb)
  have B1 := Lib.hid hb
  clear ho hb
  obtain ⟨b0, o0, t0, rfl, et, hct⟩ := R1.out.str_at (k := 0) (by simp)
  rw [Nat.add_zero] at hct
  have ht0 : t0 = x := by simpa using et.symm
  subst ht0
  clear et
  obtain ⟨A', n', c', k0, k1, kf0, kf1, hr, hnc, hn, hlen⟩ := S1.out.cells
  have RS := Lib.hid hr
  clear hr
  clear hlen
  go_wp2_with fail
  go_region_held3 (fun w' => w'.cell? ⟨g, 0, none⟩ = some (.slice A' n' c') ∧ w'.cell? ⟨g, 1, none⟩ = some (.int .i64 st.wd)) (first | go_keep | exact ⟨cell_below BF.out k0, cell_below BF.out k1⟩)
    (first
    | (go_at_call 36; (refine (WE.out A' n' c' _ (RS.out.drewN 1) hnc).mono ?_); rintro e w3 ⟨B, k, dd, rfl, hof, hbf⟩; have BF := Lib.hid (drew_then hbf); have OF := Lib.hid hof; clear hof hbf)
    | (go_at_call 37; (refine (WC.out A' n' c' w3 B k dd (RS.out.below BF.out) hn hnc (Rd.own OF.out) (by have := (Rd.own OF.out).len; have := E1.out; omega)).mono ?_); rintro e w4 ⟨rfl, q4, rfl⟩))
  have B4 := Lib.hid (below_drewN' BF.out q4)
  go_wp2_with fail
  refine (CF.out _).mono ?_
  rintro e w5 ⟨rfl, hb5⟩
  have B5 := Lib.hid (below_step B4.out hb5)
  clear hb5
  go_wp2_with fail
  go_ret
  exact ⟨rfl, S1.out.below B5.out, gr_of_below (below_step B1.out B5.out)⟩
set_option maxHeartbeats 8000000 in
set_option maxRecDepth 8000 in
theorem specLine_count (w : World) (g : Nat) (st : St) (x : ByteArray) (hS : SesAt 47 w g st) (hx : x.size ≤ 4000000000) (hx0 : x = baL tCount) :
    Calls Tryz.prog 17 #[.pointer (some ⟨g, 0, none⟩), .string x] w (Stepped 47 w g (sstep st x)) := by
  have hl : cutB 32 1 x = [x] := cutB_self (by rw [hx0]; decide)
  rw [show sstep st x = _ from (congrArg (sstep st) hx0).trans step_count]
  have KO := Lib.hid hS.ok
  have HZ := Lib.hid (SesAt.words hS.ok)
  have hwl := (vWrap_words KO.out).1
  have CF := Lib.hid (fun w2 => formatInt_any (st.ws.length : Int) w2 (by omega) (by omega))
  obtain ⟨N, hN⟩ : ∃ N, N = st.ws.length := ⟨_, rfl⟩
  rw [← hN] at CF hwl ⊢
  have HN := Lib.hid hN
  clear hN
  have r1 : ∀ W : World, (Op.stringOp .add (itoaB (N : Int)) ⟨#[10]⟩).run Tryz.prog W = .ok (.string (itoaB (N : Int) ++ ⟨#[10]⟩)) W := sum_run _ _ (by have := itoa_long (n := (N : Int)) (by omega) (by omega); omega) (by decide)
  have S0 := Lib.hid hS
  have SP := Lib.hid (fun w1 => split_any x 32 1 w1 (by omega) (by omega))
  rw [hl] at SP
  clear hS
  have hnw : ¬ x = baL tW := by rw [hx0]; exact tx_ne (by decide)
  have hnn : ¬ x = baL tN := by rw [hx0]; exact tx_ne (by decide)
  have s16 := str_otherL hnw
  have q16 : (x.toList == (⟨#[119, 111, 114, 100, 115]⟩ : ByteArray).toList) = false := str_parts hnw
  unfold tW at s16
  have s17 := str_otherL hnn
  have q17 : (x.toList == (⟨#[119, 105, 100, 116, 104]⟩ : ByteArray).toList) = false := str_parts hnn
  unfold tN at s17
  have hnF : ¬ x = baL tFill := by rw [hx0]; exact tx_ne (by decide)
  have s18 := str_otherL hnF
  have q18 : (x.toList == (⟨#[102, 105, 108, 108]⟩ : ByteArray).toList) = false := str_parts hnF
  unfold tFill at s18
  clear hnF
  have hnE : ¬ x = baL tEnds := by rw [hx0]; exact tx_ne (by decide)
  have s19 := str_otherL hnE
  have q19 : (x.toList == (⟨#[101, 110, 100, 115]⟩ : ByteArray).toList) = false := str_parts hnE
  unfold tEnds at s19
  clear hnE
  have hnC : ¬ x = baL tCost := by rw [hx0]; exact tx_ne (by decide)
  have s20 := str_otherL hnC
  have q20 : (x.toList == (⟨#[99, 111, 115, 116]⟩ : ByteArray).toList) = false := str_parts hnC
  unfold tCost at s20
  clear hnC
  have s21 := str_sameL hx0
  have q21 : (x.toList == (⟨#[99, 111, 117, 110, 116]⟩ : ByteArray).toList) = true := str_same hx0
  unfold tCount at s21
  clear hl hnw hnn hx0
  go_enter Tryz.func17, Tryz.ntmps17
  go_wp2_with fail
  refine (SP.out _).mono ?_
  rintro e w1 ⟨v, rfl, ho, hb⟩
  obtain ⟨A, d, hsh, hmd⟩ := own_shape ho
  subst hsh
  have R1 := Lib.hid (Rd.own ho)
  have S1 := Lib.hid (S0.out.below hb)
  have B1 := Lib.hid hb
  clear ho hb
  obtain ⟨b0, o0, t0, rfl, et, hct⟩ := R1.out.str_at (k := 0) (by simp)
  rw [Nat.add_zero] at hct
  have ht0 : t0 = x := by simpa using et.symm
  subst ht0
  clear et
  obtain ⟨A', n', c', k0, k1, kf0, kf1, hr, hnc, hn, hlen⟩ := S1.out.cells
  have RS := Lib.hid hr
  clear hr
  rw [← HN.out] at hlen
  subst hlen
  go_wp2_with fail
  refine (CF.out _).mono ?_
  rintro e w5 ⟨rfl, hb5⟩
  have B5 := Lib.hid hb5
  clear hb5
  go_wp2_with fail
  go_ret
  exact ⟨rfl, S1.out.below B5.out, gr_of_below (below_step B1.out B5.out)⟩
set_option maxHeartbeats 8000000 in
set_option maxRecDepth 8000 in
theorem specLine_what (w : World) (g : Nat) (st : St) (x : ByteArray) (hS : SesAt 47 w g st) (hx : x.size ≤ 4000000000) (h1 : isW x = false) (h2 : isN x = false) (h3 : ¬ x = baL tFill) (h4 : ¬ x = baL tEnds) (h5 : ¬ x = baL tCost) (h6 : ¬ x = baL tCount) :
    Calls Tryz.prog 17 #[.pointer (some ⟨g, 0, none⟩), .string x] w (Stepped 47 w g (sstep st x)) := by
  rw [step_what h1 h2 h3 h4 h5 h6]
  have S0 := Lib.hid hS
  have SP := Lib.hid (fun w1 => split_any x 32 1 w1 (by omega) (by omega))
  have hcw : ¬ ((cutB 32 1 x)[0]? = some (baL tW) ∧ (cutB 32 1 x).length = 2) := by
    rcases isW_cut (x := x) with h | h
    · rw [h1] at h; cases h.1
    · exact h.2
  have hcn : ¬ ((cutB 32 1 x)[0]? = some (baL tN) ∧ (cutB 32 1 x).length = 2) := by
    rcases isN_cut (x := x) with h | h
    · rw [h2] at h; cases h.1
    · exact h.2
  have hpos := cutB_pos 32 1 x
  have hle := cutB_le 32 1 x
  obtain ⟨l, hl⟩ : ∃ l, l = cutB 32 1 x := ⟨_, rfl⟩
  rw [← hl] at SP hcw hcn hpos hle
  clear hl hS h1 h2
  obtain ⟨n, hn⟩ : ∃ n, n = l.length := ⟨_, rfl⟩
  rw [← hn] at hcw hcn hpos hle
  have HN := Lib.hid hn
  clear hn
  have s22 := str_otherL h3
  have q22 : (x.toList == (⟨#[102, 105, 108, 108]⟩ : ByteArray).toList) = false := str_parts h3
  unfold tFill at s22
  clear h3
  have s23 := str_otherL h4
  have q23 : (x.toList == (⟨#[101, 110, 100, 115]⟩ : ByteArray).toList) = false := str_parts h4
  unfold tEnds at s23
  clear h4
  have s24 := str_otherL h5
  have q24 : (x.toList == (⟨#[99, 111, 115, 116]⟩ : ByteArray).toList) = false := str_parts h5
  unfold tCost at s24
  clear h5
  have s25 := str_otherL h6
  have q25 : (x.toList == (⟨#[99, 111, 117, 110, 116]⟩ : ByteArray).toList) = false := str_parts h6
  unfold tCount at s25
  clear h6
  go_enter Tryz.func17, Tryz.ntmps17
  go_wp2_with fail
  refine (SP.out _).mono ?_
  rintro e w1 ⟨v, rfl, ho, hb⟩
  obtain ⟨A, d, hsh, hmd⟩ := own_shape ho
  subst hsh
  have R1 := Lib.hid (Rd.own ho)
  have S1 := Lib.hid (S0.out.below hb)
  have B1 := Lib.hid hb
  clear ho hb
  rw [← HN.out] at R1
  obtain ⟨b0, o0, t0, rfl, et, hct⟩ := R1.out.str_at (k := 0) (by omega)
  rw [Nat.add_zero] at hct
  rw [et] at hcw hcn
  clear et
  rw [← HN.out]
  by_cases hw : t0 = baL tW
  · have hn2 : ((n : Int) == 2) = false := by
      rw [beq_eq_false_iff_ne]
      intro h
      exact hcw ⟨by rw [hw], by omega⟩
    have hnn : ¬ t0 = baL tN := by rw [hw]; exact tx_ne (by decide)
    have s26 := str_sameL hw
    have q26 : (t0.toList == (⟨#[119, 111, 114, 100, 115]⟩ : ByteArray).toList) = true := str_same hw
    unfold tW at s26
    have s27 := str_otherL hnn
    have q27 : (t0.toList == (⟨#[119, 105, 100, 116, 104]⟩ : ByteArray).toList) = false := str_parts hnn
    unfold tN at s27
    clear hw hnn hcw hcn
    go_wp2_with fail
    go_ret
    exact ⟨rfl, S1.out, gr_of_below B1.out⟩
  have s28 := str_otherL hw
  have q28 : (t0.toList == (⟨#[119, 111, 114, 100, 115]⟩ : ByteArray).toList) = false := str_parts hw
  unfold tW at s28
  by_cases hn : t0 = baL tN
  · have hn2 : ((n : Int) == 2) = false := by
      rw [beq_eq_false_iff_ne]
      intro h
      exact hcn ⟨by rw [hn], by omega⟩
    have s29 := str_sameL hn
    have q29 : (t0.toList == (⟨#[119, 105, 100, 116, 104]⟩ : ByteArray).toList) = true := str_same hn
    unfold tN at s29
    clear hw hn hcw hcn
    go_wp2_with fail
    go_ret
    exact ⟨rfl, S1.out, gr_of_below B1.out⟩
  have s30 := str_otherL hn
  have q30 : (t0.toList == (⟨#[119, 105, 100, 116, 104]⟩ : ByteArray).toList) = false := str_parts hn
  unfold tN at s30
  clear hw hn hcw hcn
  go_wp2_with fail
  go_ret
  exact ⟨rfl, S1.out, gr_of_below B1.out⟩

theorem specLine_any (w : World) (g : Nat) (st : St) (x : ByteArray) (hS : SesAt 47 w g st) (hx : x.size ≤ 4000000000) :
    Calls Tryz.prog 17 #[.pointer (some ⟨g, 0, none⟩), .string x] w (Stepped 47 w g (sstep st x)) := by
  cases h1 : isW x
  · cases h2 : isN x
    · by_cases h3 : x = baL tFill
      · exact specLine_fill w g st x hS hx h3
      by_cases h4 : x = baL tEnds
      · exact specLine_ends w g st x hS hx h4
      by_cases h5 : x = baL tCost
      · exact specLine_cost w g st x hS hx h5
      by_cases h6 : x = baL tCount
      · exact specLine_count w g st x hS hx h6
      exact specLine_what w g st x hS hx h1 h2 h3 h4 h5 h6
    · exact specLine_width w g st x hS hx h1 h2
  · exact specLine_words w g st x hS hx h1
end Go.Proofs.YtmljofijeladoaaGreatDoor
