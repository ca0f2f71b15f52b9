/-
  The walk of FnSessionFill: a session that sets words and a width prints the lines of FillText.
-/
import Derived.Test.YtmljofijeladoaaDoorSesFillP
import Derived.Test.YtmljofijeladoaaDoorDrawFT
import Derived.Test.YtmljofijeladoaaDoorTxtLaid2
namespace Go.Proofs.YtmljofijeladoaaDoor
open Go.RowKit
set_option linter.unusedVariables false

def okok : List UInt8 := [111, 107, 10, 111, 107, 10]
def FxR (w : World) (idx bt : Nat) (R : ByteArray) (B2 : Option Addr) (k2 : Nat) (F : List ByteArray) (v i : Value) (wr : World) : Prop :=
  ∃ k : Nat, k ≤ 6 ∧ v = .string (outS idx k R) ∧ i = .int .i64 k ∧ Rd wr 1 (some ⟨bt, 0, none⟩) 6 (strs' tl) ∧ Rd wr 1 B2 k2 (strs' F) ∧ Below w.heap.size w wr
theorem outS_zero (idx : Nat) (R : ByteArray) : outS idx 0 R = ⟨#[]⟩ := if_neg (Nat.not_lt_zero _)
theorem rd_drew {w w' : World} {A : Option Addr} {n : Nat} {xs : List Value} (h : Rd w 1 A n xs) (hq : ∃ q, w' = w.drewN q) : Rd w' 1 A n xs := by
  obtain ⟨q, rfl⟩ := hq
  exact h.drewN q
def FyR (w : World) (F : List ByteArray) (m : Nat) (v i : Value) (wr : World) : Prop :=
  ∃ k : Nat, k ≤ m ∧ v = .string (baL (okok ++ nlL (F.take k))) ∧ i = .int .i64 k ∧ w = wr
theorem okok_next {F : List ByteArray} {k : Nat} {t : ByteArray} (h : F[k]? = some t) : (baL (okok ++ nlL (F.take k)) ++ t) ++ ⟨#[10]⟩ = baL (okok ++ nlL (F.take (k + 1))) := by
  rw [nlL_snoc F k t h]
  apply ba_ext
  simp [app_toList, baL]
theorem lit_rdT {W : World} {xs : List ByteArray} {cs : Array Value} {E : TypeId} {b m : Nat} (hcs : cs = (strs' xs).toArray) (hm : xs.length = m) (hb : W.heap[b]? = some (.cells cs E (0, 0))) : Rd W 1 (some ⟨b, 0, none⟩) m (strs' xs) := by
  subst hcs
  refine ⟨by simp [strs', hm], fun _ => ⟨b, 0, rfl, fun j hj => ?_⟩⟩
  rw [cell_of_row W b (0 + j) (strs' xs).toArray E (0, 0) hb]
  simp
theorem nums_cell (wr : World) (k : Nat) (x : Int) (h : wl[k]? = some x) : (wr.alloc (.cells #[.int .i64 19, .int .i64 20, .int .i64 21, .int .i64 25, .int .i64 30, .int .i64 60] 3)).cell? ⟨wr.heap.size, k, none⟩ = some (.int .i64 x) := by
  rw [cell_of_row _ wr.heap.size k _ 3 (0, 0) (heap_alloc_new wr _)]
  have e : (#[.int .i64 19, .int .i64 20, .int .i64 21, .int .i64 25, .int .i64 30, .int .i64 60] : Array Value) = (wl.map (Value.int .i64)).toArray := rfl
  rw [e, List.getElem?_toArray, List.getElem?_map, h]; rfl
theorem tl_small {t : ByteArray} (h : t ∈ tl) : t.size ≤ 2 := by
  simp only [tl, List.mem_cons, List.not_mem_nil, or_false] at h
  rcases h with rfl | rfl | rfl | rfl | rfl | rfl <;> decide

theorem fill_some {xs : List ByteArray} {wd : Int} (h : fillT xs wd ≠ []) : vWrap xs wd = true ∧ xs ≠ [] := by
  refine ⟨?_, fun e => ?_⟩
  · cases hv : vWrap xs wd
    · exact absurd (if_neg (by rw [hv]; decide)) h
    · rfl
  · apply h
    subst e
    unfold fillT
    split
    · rfl
    · rfl
theorem run_three (w : World) (T J R : ByteArray) (b dd : Nat) (w5 : World) (hJ : J.size ≤ 2000) (hT : T.size ≤ 100) (hR : R = baL (sess [pW ++ J, pN ++ T, baL tFill]))
    (hc : Rd w5 1 (some ⟨b, 0, none⟩) 3 (strs' [pW ++ J, pN ++ T, baL tFill]) → 3 ≤ 1048576 → (∀ t ∈ [pW ++ J, pN ++ T, baL tFill], t.size ≤ 1048576) → Calls Tryd.prog 9 #[.slice (some ⟨b, 0, none⟩) 3 dd] w5 (TextIs w5 (baL (sess [pW ++ J, pN ++ T, baL tFill]))))
    (hh : w5.heap[b]? = some (.cells #[.string (pW ++ J), .string (pN ++ T), .string ⟨#[102, 105, 108, 108]⟩] 9 (0, 0))) :
    Calls Tryd.prog 9 #[.slice (some ⟨b, 0, none⟩) 3 dd] w5 fun e w' => e = .returned (.string R) ∧ Below w5.heap.size w5 w' := by
  have e : strs' [pW ++ J, pN ++ T, baL tFill] = [.string (pW ++ J), .string (pN ++ T), .string ⟨#[102, 105, 108, 108]⟩] := rfl
  have h := hc (lit_rdT (E := 9) (by rw [e]) rfl hh) (by omega) (fun t ht => by
    simp only [List.mem_cons, List.not_mem_nil, or_false] at ht
    rcases ht with rfl | rfl | rfl
    · rw [sz_two]; have : pW.size = 6 := rfl; omega
    · rw [sz_two]; have : pN.size = 6 := rfl; omega
    · decide)
  rw [← hR] at h
  exact h
set_option maxHeartbeats 1000000 in
set_option maxRecDepth 8000 in
theorem FnSessionFill_walk (w : World) (a0 : Option Addr) (n0 c0 : Nat) (x0 : List Int) (h0 : InBytes w a0 n0 c0 x0) (ht : TB w) (ha : AT w) (hm : ML w) :
    Calls Tryd.prog 3 #[.slice a0 n0 c0] w fun e w' => e = .returned (.bool true) ∧ Below w.heap.size w w' := by
  have HD := Lib.hid (drawFT_any w a0 n0 c0 x0 h0)
  have IR := Lib.hid (fun A n c l w1 (hb : Below w.heap.size w w1) hx (hn : n ≤ 1048576) (hz : ∀ t ∈ l, t.size ≤ 1048576) => implRun_any A n c l w1 hx hn hz (ht.below hb) (ha.below hb) (hm.below hb))
  clear h0 ht ha hm
  by_cases g0 : n0 ≤ 1048576
  case neg =>
    go_enter Tryd.func3, Tryd.ntmps3
    go_wp2
    go_ret
    exact ⟨rfl, Below.refl _ _⟩
  go_enter Tryd.func3, Tryd.ntmps3
  go_wp2_with fail
  refine HD.out.mono ?_
  rintro e w1 ⟨L, m, d, xs, wd, rfl, hm, hmd, hr, hxs, hwd, hb⟩
  have O1 := Lib.hid hr
  have B1 := Lib.hid hb
  have XS := Lib.hid hxs
  have HW := Lib.hid hwd
  have hlx := hr.slen
  clear hb hr hxs HD hwd
  have CI := Lib.hid (fun w2 hx => implFillText_any L m d xs wd w2 hx (by omega) hmd (fun s hs => by have := XS.out s hs; omega))
  have CS := Lib.hid (fun w2 hx => specFillText_any L m d xs wd w2 hx (by omega) hmd (fun s hs => by have := XS.out s hs; omega))
  unfold FtRes at CI CS
  have FS := Lib.hid (fillT_sizes xs wd)
  have NL := Lib.hid (fun k => nlL_len ((fillT xs wd).take k) (fun t ht => (fillT_sizes xs wd).2 t (List.mem_of_mem_take ht)))
  have FZ := Lib.hid (fill_some (xs := xs) (wd := wd))
  have FSS := Lib.hid (fun h1 h2 h3 => sess_set (l := xs) (wd := wd) h1 h2 h3)
  obtain ⟨F, hF⟩ : ∃ F, F = fillT xs wd := ⟨_, rfl⟩
  rw [← hF] at CI CS FS NL FZ FSS
  clear hF
  go_wp2_with fail
  refine (CI.out _ O1.out).mono ?_
  rintro e w2 ⟨B2, k2, d2, rfl, ho, hb⟩
  have OF := Lib.hid (Rd.own ho)
  have hk2 : F.length = k2 := own_len ho
  have D2 := Lib.hid hb
  have hk40 : k2 ≤ 40 := by have := FS.out.1; omega
  have HK := Lib.hid hk2
  clear ho hb hk2
  go_wp2_with fail
  refine (CS.out _ (O1.out.below D2.out)).mono ?_
  rintro e w3 ⟨B3, k3, d3, rfl, ho, hb⟩
  have OG := Lib.hid (Rd.own ho)
  have hk3 : F.length = k3 := own_len ho
  have hk3' : k3 ≤ 40 := by have := FS.out.1; omega
  have OF3 := Lib.hid (OF.out.below hb)
  have D3 := Lib.hid (below_step D2.out hb)
  clear ho hb hk3
  go_wp2_with fail
  refine (equalTexts_any B2 B3 k2 k3 d2 d3 F F w3 OF3.out OG.out (by omega) (by omega)).mono ?_
  rintro e w4 ⟨rfl, hq⟩
  have D4 := Lib.hid (below_step D3.out (below_of_drew (B := w3.heap.size) hq))
  have OF4 := Lib.hid (rd_drew OF3.out hq)
  clear hq
  have hdt : decide (F = F) = true := by simp
  by_cases hz : k2 = 0
  · have hz' : ((k2 : Int) == 0) = true := by rw [hz]; rfl
    have hz0 : k2 ≤ 0 := by omega
    clear hz
    have CS2 := Lib.hid (CS.out _ (O1.out.below D4.out))
    go_wp2_with fail
    refine CS2.out.mono ?_
    rintro e w5 ⟨B5, k5, d5, rfl, ho, hb⟩
    have OH := Lib.hid (Rd.own ho)
    have hk5 : F.length = k5 := own_len ho
    have hk5' : k5 ≤ 40 := by have := FS.out.1; omega
    have OF5 := Lib.hid (OF4.out.below hb)
    have D5 := Lib.hid (below_step D4.out hb)
    clear ho hb hk5
    go_wp2_with fail
    refine (equalTexts_any B2 B5 k2 k5 d2 d5 F F w5 OF5.out OH.out (by omega) (by omega)).mono ?_
    rintro e w6 ⟨rfl, q6, rfl⟩
    have D6 := Lib.hid (below_drewN' D5.out q6)
    go_wp2_with fail
    go_ret
    exact ⟨by simp, below_step B1.out D6.out⟩
  have hz' : ((k2 : Int) == 0) = false := by rw [beq_eq_false_iff_ne]; omega
  have HFn : Hid (F ≠ []) := fun e => hz (by rw [← HK.out, e]; rfl)
  obtain ⟨hv, hxn⟩ := FZ.out HFn.out
  have hvw := vWrap_words hv
  have hwd5 : wd = 20 ∨ wd = 21 ∨ wd = 25 ∨ wd = 30 ∨ wd = 60 := by
    have h := HW.out
    have h1 := hvw.2.2
    omega
  obtain ⟨idx, hidx, hix, htx⟩ := widx_of hwd5
  have HIX := Lib.hid hix
  have HTX := Lib.hid htx
  have SS := FSS.out hxn hv hvw.2.2
  have hwb := hvw.2.2
  clear hv hxn hvw hwd5 hix htx hz FZ FSS HW
  obtain ⟨R, hR⟩ : ∃ R, R = baL (okok ++ nlL F) := ⟨_, rfl⟩
  have hjb : (jw xs).size ≤ 2000 := jw_bound (n := 11) (by omega) XS.out (by omega)
  have CJ := Lib.hid (fun w5 hx => joinWords_any L m d xs w5 hx (by omega) XS.out)
  have SS2 : sess [pW ++ jw xs, pN ++ itoaB wd, baL tFill] = okok ++ nlL F := SS
  clear SS
  have CR := Lib.hid (fun b dd w5 (hb : Below w.heap.size w w5) hh => run_three w (itoaB wd) (jw xs) R b dd w5 hjb (by have := itoaB_short (n := wd) (by omega) (by omega); omega) (by rw [SS2, hR]) (fun hx hn hz => IR.out (some ⟨b, 0, none⟩) 3 dd [pW ++ jw xs, pN ++ itoaB wd, baL tFill] w5 hb hx hn hz) hh)
  clear SS2
  obtain ⟨J, hJ⟩ : ∃ J, J = jw xs := ⟨_, rfl⟩
  have hts : (itoaB wd).size ≤ 5 := itoaB_short (by omega) (by omega)
  obtain ⟨tv, htv⟩ : ∃ tv, tv = itoaB wd := ⟨_, rfl⟩
  rw [← hJ] at CJ CR hjb
  rw [← htv] at CR HTX hts
  obtain ⟨T1, hT1⟩ : ∃ T1, T1 = pW ++ J := ⟨_, rfl⟩
  obtain ⟨T2, hT2⟩ : ∃ T2, T2 = pN ++ tv := ⟨_, rfl⟩
  rw [← hT1, ← hT2] at CR
  have r1 : ∀ W : World, (Op.stringOp .add ⟨#[119, 111, 114, 100, 115, 32]⟩ J).run Tryd.prog W = .ok (.string T1) W := fun W => by rw [hT1]; exact sum_run pW J (by decide) (by omega) W
  have r2 : ∀ W : World, (Op.stringOp .add ⟨#[119, 105, 100, 116, 104, 32]⟩ tv).run Tryd.prog W = .ok (.string T2) W := fun W => by rw [hT2]; exact sum_run pN tv (by decide) (by omega) W
  have HR := Lib.hid hR
  clear hJ hR htv hT1 hT2
  have BT := Lib.hid (D4.out.alloc D4.out.size (.cells #[.string ⟨#[49, 57]⟩, .string ⟨#[50, 48]⟩, .string ⟨#[50, 49]⟩, .string ⟨#[50, 53]⟩, .string ⟨#[51, 48]⟩, .string ⟨#[54, 48]⟩] 9))
  have RT : Hid (Rd (w4.alloc (.cells #[.string ⟨#[49, 57]⟩, .string ⟨#[50, 48]⟩, .string ⟨#[50, 49]⟩, .string ⟨#[50, 53]⟩, .string ⟨#[51, 48]⟩, .string ⟨#[54, 48]⟩] 9)) 1 (some ⟨w4.heap.size, 0, none⟩) 6 (strs' tl)) := lit_rdT (E := 9) rfl rfl (heap_alloc_new w4 _)
  have RF := Lib.hid (OF4.out.below ((Below.refl _ _).alloc (Nat.le_refl _) (.cells #[.string ⟨#[49, 57]⟩, .string ⟨#[50, 48]⟩, .string ⟨#[50, 49]⟩, .string ⟨#[50, 53]⟩, .string ⟨#[51, 48]⟩, .string ⟨#[54, 48]⟩] 9)))
  go_wp2_with fail
  go_loopw [7, 8] (FxR w1 idx w4.heap.size R B2 k2 F) (fun _ i _ => 6 - (intOf i).toNat)
  case atStart => exact ⟨0, by omega, by rw [outS_zero], rfl, RT.out, RF.out, BT.out⟩
  case round =>
    obtain ⟨k, hk, rfl, rfl, hrt, hrf, hb⟩ := hrel
    have T0 := Lib.hid hrt
    have F0 := Lib.hid hrf
    have D0 := Lib.hid hb
    have W0 := Lib.hid (O1.out.below hb)
    have hszr := hb.size
    clear hrt hrf hb
    by_cases hlt : k < 6
    · obtain ⟨x, hx⟩ : ∃ x, wl[k]? = some x := ⟨_, List.getElem?_eq_getElem (by simp [wl]; omega)⟩
      have hnc := nums_cell wr k x hx
      have hiff := HIX.out k x hx
      clear hx
      by_cases hh : k = idx
      · have hcm : (wd == x) = true := by simpa using hiff.2 hh
        obtain ⟨b', o', t, eA, et, hct⟩ := T0.out.str_at hlt
        injection eA with eA
        injection eA with e1 e2
        subst e1; subst e2
        rw [Nat.zero_add] at hct
        have ht : t = tv := by
          have h := HTX.out
          rw [← hh, et] at h
          injection h
        subst ht
        have OH := Lib.hid (outS_hit (R := R) hh)
        have hct' := cell_alloc hct (.cells #[.int .i64 19, .int .i64 20, .int .i64 21, .int .i64 25, .int .i64 30, .int .i64 60] 3)
        have CRn : Hid (∀ dd, Calls Tryd.prog 9 #[.slice (some ⟨wr.heap.size + 1, 0, none⟩) 3 dd] (((wr.alloc (.cells #[.int .i64 19, .int .i64 20, .int .i64 21, .int .i64 25, .int .i64 30, .int .i64 60] 3)).alloc (.cells #[.string T1, .string T2, .string ⟨#[102, 105, 108, 108]⟩] 9)).drew) fun e w' => e = .returned (.string R) ∧ Below (((wr.alloc (.cells #[.int .i64 19, .int .i64 20, .int .i64 21, .int .i64 25, .int .i64 30, .int .i64 60] 3)).alloc (.cells #[.string T1, .string T2, .string ⟨#[102, 105, 108, 108]⟩] 9)).drew).heap.size (((wr.alloc (.cells #[.int .i64 19, .int .i64 20, .int .i64 21, .int .i64 25, .int .i64 30, .int .i64 60] 3)).alloc (.cells #[.string T1, .string T2, .string ⟨#[102, 105, 108, 108]⟩] 9)).drew) w') := fun dd => by
          refine CR.out _ dd _ (below_step B1.out ((D0.out.alloc hszr _).alloc (by simp; omega) _).drew) ?_
          have h := heap_alloc_new (wr.alloc (.cells #[.int .i64 19, .int .i64 20, .int .i64 21, .int .i64 25, .int .i64 30, .int .i64 60] 3)) (.cells #[.string T1, .string T2, .string ⟨#[102, 105, 108, 108]⟩] 9)
          rw [World.size_alloc] at h
          exact h
        have WJ := Lib.hid ((W0.out.below ((Below.refl _ _).alloc (Nat.le_refl _) (.cells #[.int .i64 19, .int .i64 20, .int .i64 21, .int .i64 25, .int .i64 30, .int .i64 60] 3))).drewN 1)
        obtain ⟨V, hV⟩ : ∃ V, V = outS idx k R := ⟨_, rfl⟩
        rw [← hV]
        clear hV hiff hh et
        go_wp2_with fail
        go_region_with (first
          | (go_at_call 10; (refine (CJ.out _ WJ.out).mono ?_); rintro e w' ⟨rfl, rfl⟩)
          | (go_at_call 9; (refine (CRn.out _).mono ?_); rintro e w6 ⟨rfl, hb6⟩; have DW := Lib.hid ((((Below.refl wr.heap.size wr).alloc (Nat.le_refl _) (.cells #[.int .i64 19, .int .i64 20, .int .i64 21, .int .i64 25, .int .i64 30, .int .i64 60] 3)).alloc (by simp) (.cells #[.string T1, .string T2, .string ⟨#[102, 105, 108, 108]⟩] 9)).drew.trans (hb6.mono (by simp; omega))); clear hb6))
        all_goals
          go_wp2
          go_roundw
          case rel => exact ⟨k + 1, by omega, by rw [OH.out], by go_num, T0.out.below DW.out, F0.out.below DW.out, below_step D0.out DW.out⟩
          case measure => simp [intOf] <;> omega
      · have hcm : (wd == x) = false := by
          rw [beq_eq_false_iff_ne]
          exact fun h => hh (hiff.1 h)
        have OM := Lib.hid (outS_miss (R := R) hh)
        have DW := Lib.hid ((Below.refl wr.heap.size wr).alloc (Nat.le_refl _) (.cells #[.int .i64 19, .int .i64 20, .int .i64 21, .int .i64 25, .int .i64 30, .int .i64 60] 3))
        obtain ⟨V, hV⟩ : ∃ V, V = outS idx k R := ⟨_, rfl⟩
        rw [← hV] at OM ⊢
        clear hV hiff hh
        go_wp2_with fail
        go_roundw
        case rel => exact ⟨k + 1, by omega, by rw [OM.out], by go_num, T0.out.below DW.out, F0.out.below DW.out, below_step D0.out DW.out⟩
        case measure => simp [intOf] <;> omega
    · have OE : Hid (outS idx k R = baL (okok ++ nlL F)) := by
        show _ = _
        rw [outS, if_pos (by omega), HR.out]
      obtain ⟨V, hV⟩ : ∃ V, V = outS idx k R := ⟨_, rfl⟩
      rw [← hV] at OE ⊢
      clear hV
      obtain ⟨wo, hwo⟩ : ∃ wo : World, wo = wr := ⟨_, rfl⟩
      subst hwo
      go_wp2_with fail
      go_loopw [9, 10] (FyR wo F k2) (fun _ i _ => k2 - (intOf i).toNat)
      case atStart => exact ⟨0, Nat.zero_le _, rfl, rfl, rfl⟩
      case round =>
        obtain ⟨j, hj, rfl, rfl, rfl⟩ := hrel
        by_cases hjl : j < k2
        · obtain ⟨b', o', t, rfl, et, hct⟩ := F0.out.str_at hjl
          have NX := Lib.hid (okok_next et)
          have hts2 := FS.out.2 t (List.mem_of_getElem? et)
          have hps : (baL (okok ++ nlL (F.take j))).size ≤ 3000 := by
            have h1 := NL.out j
            have h2 : (F.take j).length ≤ 40 := by rw [List.length_take]; have := FS.out.1; omega
            show (okok ++ nlL (F.take j)).length ≤ 3000
            rw [List.length_append]
            have : okok.length = 6 := rfl
            omega
          obtain ⟨P, hP⟩ : ∃ P, P = baL (okok ++ nlL (F.take j)) := ⟨_, rfl⟩
          rw [← hP] at hps NX ⊢
          clear hP et
          have q1 : ∀ W : World, (Op.stringOp .add P t).run Tryd.prog W = .ok (.string (P ++ t)) W := sum_run _ _ (by omega) (by omega)
          have q2 : ∀ W : World, (Op.stringOp .add (P ++ t) ⟨#[10]⟩).run Tryd.prog W = .ok (.string ((P ++ t) ++ ⟨#[10]⟩)) W := sum_run _ _ (by rw [sz_two]; omega) (by decide)
          go_wp2_with fail
          go_roundw
          case rel => exact ⟨j + 1, by omega, by rw [NX.out], by go_num, rfl⟩
          case measure => simp [intOf] <;> omega
        · have hE : V = baL (okok ++ nlL (F.take j)) := by
            have h1 : j = k2 := by omega
            rw [OE.out, h1, ← HK.out, List.take_length]
          have c1 := str_same hE
          obtain ⟨P, hP⟩ : ∃ P, P = baL (okok ++ nlL (F.take j)) := ⟨_, rfl⟩
          rw [← hP] at c1 ⊢
          clear hE hP
          go_wp2_with fail
          go_ret
          exact ⟨rfl, below_step B1.out D0.out⟩
end Go.Proofs.YtmljofijeladoaaDoor
