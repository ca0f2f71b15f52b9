/-
  The walk of FnLevelsBase: a text of capital letters has the level 1 at base 1 and is shown from right to left.
-/
import Derived.Test.YtonkminebememaaShowLaws
import Derived.Laws.Concat
namespace Go.Proofs.Ytonkminebememaa
open Go.RowKit
set_option linter.unusedVariables false

def isUp (c : UInt8) : Bool := decide (cls c = 2)
/-- The capital letters among the first k characters, and the same turned round. -/
def upL (s : ByteArray) (k : Nat) : List UInt8 := (s.data.toList.take k).filter isUp
def upB (s : ByteArray) (k : Nat) : ByteArray := ⟨(upL s k).toArray⟩
def rvB (s : ByteArray) (k : Nat) : ByteArray := ⟨(upL s k).reverse.toArray⟩
theorem take_byte {s : ByteArray} {k : Nat} (h : k < s.size) : s.data.toList.take (k + 1) = s.data.toList.take k ++ [s[k]] := by
  have h2 : k < s.data.toList.length := by simpa using h
  have h3 : s.data.toList[k]? = some s[k] := by rw [List.getElem?_eq_getElem h2]; rfl
  rw [List.take_add_one, h3]; rfl
theorem upL_yes {s : ByteArray} {k : Nat} (h : k < s.size) (hc : cls s[k] = 2) : upL s (k + 1) = upL s k ++ [s[k]] := by
  unfold upL
  rw [take_byte h, List.filter_append]
  simp [isUp, hc]
theorem upL_no {s : ByteArray} {k : Nat} (h : k < s.size) (hc : cls s[k] ≠ 2) : upL s (k + 1) = upL s k := by
  unfold upL
  rw [take_byte h, List.filter_append]
  simp [isUp, hc]
theorem extract_one {s : ByteArray} {k : Nat} (h : k < s.size) : s.extract k (k + 1) = ⟨#[s[k]]⟩ := by
  apply ByteArray.ext
  rw [ByteArray.data_extract]
  apply Array.toList_inj.1
  have h2 : k < s.data.toList.length := by simpa using h
  rw [Array.toList_extract, List.extract_eq_take_drop]
  have h3 : s.data.toList[k]? = some s[k] := by rw [List.getElem?_eq_getElem h2]; rfl
  rw [drop_of_get h3, show k + 1 - k = 1 from by omega]
  rfl
theorem upB_yes {s : ByteArray} {k : Nat} (h : k < s.size) (hc : cls s[k] = 2) : upB s k ++ s.extract k (k + 1) = upB s (k + 1) := by
  unfold upB
  rw [extract_one h, upL_yes h hc]
  apply ByteArray.ext
  rw [ByteArray.data_append]
  show (upL s k).toArray ++ [s[k]].toArray = _
  rw [List.append_toArray]
theorem rvB_yes {s : ByteArray} {k : Nat} (h : k < s.size) (hc : cls s[k] = 2) : s.extract k (k + 1) ++ rvB s k = rvB s (k + 1) := by
  unfold rvB
  rw [extract_one h, upL_yes h hc, List.reverse_append]
  apply ByteArray.ext
  rw [ByteArray.data_append]
  show [s[k]].toArray ++ (upL s k).reverse.toArray = _
  rw [List.append_toArray]
  rfl
theorem upL_le (s : ByteArray) (k : Nat) : (upL s k).length ≤ k := by
  unfold upL
  exact Nat.le_trans (List.length_filter_le _ _) (by rw [List.length_take]; omega)
theorem upB_size (s : ByteArray) (k : Nat) : (upB s k).size = (upL s k).length := by simp [upB, ByteArray.size]
theorem rvB_size (s : ByteArray) (k : Nat) : (rvB s k).size = (upL s k).length := by simp [rvB, ByteArray.size]
theorem upB_cls {s : ByteArray} {k j : Nat} (h : j < (upB s k).size) : clsAt (upB s k) j = 2 := by
  rw [clsAt_eq h]
  have h2 : j < (upL s k).length := by rw [← upB_size]; exact h
  have h3 : (upB s k)[j] = (upL s k)[j] := rfl
  have h4 : (upL s k)[j] ∈ upL s k := List.getElem_mem h2
  have h5 := (List.mem_filter.1 h4).2
  have h6 : cls (upL s k)[j] = 2 := by simpa [isUp] using h5
  exact h6
theorem up_text {T : ByteArray} (h : ∀ j, j < T.size → clsAt T j = 2) (hs : T.size ≤ 60) : vText T = true := by
  unfold vText
  rw [Bool.and_eq_true]
  refine ⟨List.all_eq_true.2 (fun c hc => ?_), by simpa using hs⟩
  obtain ⟨j, hj, rfl⟩ := List.getElem_of_mem hc
  have h1 : j < T.size := by simpa using hj
  have h2 := h j h1
  rw [clsAt_eq h1] at h2
  have h3 := zone_of T[j]
  rw [h2] at h3
  have h4 : T.data.toList[j] = T[j] := rfl
  rw [h4]
  unfold Zone at h3
  simp [pr]
  omega
theorem topL_ge {ls : List Int} {l : Int} (h : l ∈ ls) : l.toNat ≤ topL ls := by
  have hm : ∀ (l : List Int) (t : Nat), t ≤ l.foldl (fun t l => max t l.toNat) t := by
    intro l
    induction l with
    | nil => intro t; exact Nat.le_refl _
    | cons x l ih => intro t; rw [List.foldl_cons]; exact Nat.le_trans (Nat.le_max_left _ _) (ih _)
  have : ∀ (l : List Int) (t : Nat) (x : Int), x ∈ l → x.toNat ≤ l.foldl (fun t l => max t l.toNat) t := by
    intro l
    induction l with
    | nil => intro t x hx; cases hx
    | cons y l ih =>
      intro t x hx
      rw [List.foldl_cons]
      rcases List.mem_cons.1 hx with rfl | hx
      · exact Nat.le_trans (Nat.le_max_right _ _) (hm l _)
      · exact ih _ x hx
  exact this ls 0 l h
theorem showL_up {T : ByteArray} (h : ∀ j, j < T.size → clsAt T j = 2) (hs : T.size ≤ 60) : showL T 1 = ⟨T.data.toList.reverse.toArray⟩ := by
  have e : lvls T 1 = levels T 1 := lvls_ok (up_text h hs) (by decide)
  have h1 : ∀ k, k < T.size → (levels T 1)[k]? = some 1 := fun k hk => by rw [levels_get hk, levAt_upper (h k hk)]
  have ho : ordL (levels T 1) = (List.range T.size).reverse := by
    unfold ordL
    rw [levels_length]
    rcases Nat.eq_zero_or_pos T.size with h0 | h0
    · have : levels T 1 = [] := by unfold levels; rw [h0]; rfl
      rw [this, h0]
      rfl
    · have ht1 : topL (levels T 1) ≤ 1 := topL_le (B := 1) (fun l hl => by
        obtain ⟨k, hk⟩ := List.mem_iff_getElem?.1 hl
        have hk2 : k < T.size := by rw [← levels_length T 1]; exact (List.getElem?_eq_some_iff.1 hk).1
        rw [h1 k hk2] at hk
        injection hk with hk
        rw [← hk]; exact Int.le_refl _)
      have ht2 := topL_ge (List.mem_of_getElem? (h1 0 h0))
      have ht : topL (levels T 1) = 0 + 1 := by
        have : (1 : Int).toNat = 1 := rfl
        omega
      rw [ht, ordUp, ordUp]
      have hr := revRuns_run (p := atL (levels T 1) (0 + 1)) (List.range T.size) [] [] (fun x hx => by
        have hx2 : x < T.size := by simpa using hx
        exact atL_yes (h1 x hx2) (by decide))
      rw [List.append_nil, List.append_nil] at hr
      rw [hr]
      rfl
  unfold showL
  rw [e, ho]
  unfold chars
  rw [List.map_reverse]
  have hc := chars_range T
  unfold chars at hc
  have hc2 : (List.map (chAt T) (List.range T.size)).toArray = T.data := congrArg ByteArray.data hc
  rw [← hc2]
def BaRel (s : ByteArray) (u : World) (l b i : Value) (wr : World) : Prop := ∃ k : Nat, k ≤ s.size ∧ i = .int .i64 (k : Int) ∧ l = .string (upB s k) ∧ b = .string (rvB s k) ∧ wr = u

set_option maxHeartbeats 8000000 in
theorem FnLevelsBase_walk (w : World) (a0 : Option Addr) (n0 c0 : Nat) (x0 : List Int) (h0 : InBytes w a0 n0 c0 x0) :
    Calls Try.prog 6 #[.slice a0 n0 c0] w fun e w' => e = .returned (.bool true) ∧ Below w.heap.size w w' := by
  have HD := Lib.hid (DrawLevelsOf_any w a0 n0 c0 x0 h0)
  clear h0
  by_cases g0 : n0 ≤ 1048576
  case neg =>
    go_enter Try.func6, Try.ntmps6
    go_wp2
    go_ret
    exact ⟨rfl, Below.refl _ _⟩
  go_enter Try.func6, Try.ntmps6
  go_wp2_with fail
  refine HD.out.mono ?_
  rintro e w1 ⟨s, b, rfl, hs, hb0, hb1, hB⟩
  have B0 := Lib.hid hB
  clear hB HD
  have HN := Lib.hid (@lvls_ne s b)
  obtain ⟨V, hV⟩ : ∃ V, V = lvls s b := ⟨_, rfl⟩
  rw [← hV] at HN
  have HV := Lib.hid hV
  clear hV
  go_wp2_with fail
  refine (implLevels_any s b _ (by omega)).mono ?_
  rintro e wa ⟨Ag, kg, dg, rfl, hk, ho, hb⟩
  rw [← HV.out] at hk ho
  have Kg := Lib.hid hk; clear hk
  have Og := Lib.hid ho; clear ho
  have B1 := Lib.hid hb; clear hb
  have C1 := Lib.hid (below_step (Below.refl w1.heap.size w1) B1.out)
  have hkg : kg ≤ 14 := by
    rcases Nat.decEq kg 0 with h | h
    · have h2 := HN.out (by rw [← Kg.out]; exact h)
      rw [Kg.out, h2.2.2.2.2]; exact hs
    · omega
  go_wp2_with fail
  refine (specLevels_any s b _ (by omega)).mono ?_
  rintro e wb ⟨As, ks, ds, rfl, hk, ho, hb⟩
  rw [← HV.out] at hk ho
  rw [← Kg.out] at hk
  subst hk
  have Os := Lib.hid ho; clear ho
  have B2 := Lib.hid hb; clear hb
  have C2 := Lib.hid (below_step C1.out B2.out)
  have G2 := Lib.hid (own_below Og.out B2.out)
  go_wp2_with fail
  refine (equalInts_any Ag As ks ks dg ds V V _ (Rd.own G2.out) (Rd.own Os.out) (by omega) (by omega)).mono ?_
  rintro e wc ⟨rfl, hb⟩
  have B3 := Lib.hid (below_of_drew (B := wb.heap.size) hb); clear hb
  have C3 := Lib.hid (below_step C2.out B3.out)
  have G3 := Lib.hid (own_below G2.out B3.out)
  by_cases hk : ks = 0
  case pos =>
    have hk' : ((ks : Int) == 0) = true := by simp [hk]
    clear hk
    go_wp2_with fail
    refine (specLevels_any s b _ (by omega)).mono ?_
    rintro e wd ⟨At, kt, dt, rfl, hk, ho, hb⟩
    rw [← HV.out] at hk ho
    rw [← Kg.out] at hk
    subst hk
    have Ot := Lib.hid ho; clear ho
    have B4 := Lib.hid hb; clear hb
    have C4 := Lib.hid (below_step C3.out B4.out)
    have G4 := Lib.hid (own_below G3.out B4.out)
    go_wp2_with fail
    refine (equalInts_any Ag At kt kt dg dt V V _ (Rd.own G4.out) (Rd.own Ot.out) (by omega) (by omega)).mono ?_
    rintro e we ⟨rfl, hb⟩
    have C5 := Lib.hid (below_step C4.out (below_of_drew (B := wd.heap.size) hb)); clear hb
    go_wp2_with fail
    go_ret
    exact ⟨ret_bool (by simp), below_step B0.out C5.out⟩
  have hk' : ((ks : Int) == 0) = false := by simp; omega
  obtain ⟨hvt, hv0, hv1, hVl, hVs⟩ := HN.out (by rw [← Kg.out]; exact hk)
  rw [← Kg.out] at hVs
  have HL : Hid (V = levels s b) := HV.out.trans (HV.out.symm.trans hVl)
  subst hVs
  clear hVl hvt
  go_wp2_with fail
  go_loopw [6, 7, 8] (BaRel s wc) (fun _ _ i _ => s.size - (intOf i).toNat)
  case atStart => exact ⟨0, Nat.zero_le _, rfl, rfl, rfl, rfl⟩
  case round =>
    obtain ⟨k, hk, rfl, rfl, rfl, rfl⟩ := hrel
    by_cases hlt : k < s.size
    case neg =>
      obtain rfl : k = s.size := by omega
      have hTs := upB_size s s.size
      have hTl := upL_le s s.size
      have HUP : Hid (∀ j, j < (upB s s.size).size → clsAt (upB s s.size) j = 2) := fun j hj => upB_cls hj
      have HSH : Hid (showL (upB s s.size) 1 = rvB s s.size) := showL_up HUP.out (by omega)
      have HLV : Hid (lvls (upB s s.size) 1 = levels (upB s s.size) 1) := lvls_ok (up_text HUP.out (by omega)) (by decide)
      obtain ⟨R, hR⟩ : ∃ R, R = rvB s s.size := ⟨_, rfl⟩
      rw [← hR] at HSH ⊢
      obtain ⟨T, hT⟩ : ∃ T, T = upB s s.size := ⟨_, rfl⟩
      rw [← hT] at HUP HSH HLV hTs ⊢
      have hT14 : T.size ≤ 14 := by omega
      have CL := Lib.hid (fun w => implLevels_any T 1 w (by omega))
      unfold LevRes at CL
      have CH := Lib.hid (fun w => implShow_any T 1 w (by omega))
      rw [HLV.out] at CL
      rw [HSH.out] at CH
      obtain ⟨ls, hls⟩ : ∃ ls, ls = levels T 1 := ⟨_, rfl⟩
      have HG1 : Hid (∀ k, k < T.size → ls[k]? = some 1) := fun k hk => by rw [hls, levels_get hk, levAt_upper (HUP.out k hk)]
      have HL1 : Hid (ls.length = T.size) := by show ls.length = T.size; rw [hls, levels_length]
      rw [← hls] at CL
      clear hls hT hR hTs hTl HLV HSH HUP
      go_wp2_with fail
      refine (CL.out _).mono ?_
      rintro e wd ⟨A, n, c, rfl, hk, ho, hb⟩
      have hnT : n = T.size := by rw [hk, HL1.out]
      subst hnT
      have O4 := Lib.hid ho
      have B4 := Lib.hid (below_step C3.out hb)
      clear ho hb hk CL
      go_wp2_with fail
      go_loopw [10] (fun i wr => ∃ k q : Nat, k ≤ T.size ∧ i = .int .i64 (k : Int) ∧ wr = wd.drewN q) (fun i _ => T.size - (intOf i).toNat)
      case atStart => exact ⟨0, 0, Nat.zero_le _, rfl, rfl⟩
      case round =>
        obtain ⟨k, q, hk, rfl, rfl⟩ := hrel
        by_cases hlt : k < T.size
        case neg =>
          obtain rfl : k = T.size := by omega
          have hee : (R.toList == R.toList) = true := by simp
          go_wp2_with fail
          refine (CH.out _).mono ?_
          rintro e wx ⟨rfl, hb⟩
          have B5 := Lib.hid (below_step (below_drewN' B4.out q) hb)
          clear hb
          go_wp2_with fail
          go_ret
          exact ⟨ret_bool (by simp), below_step B0.out B5.out⟩
        have hlt' : (k : Int) < (T.size : Int) := by omega
        have hk0 : (0 : Int) ≤ (k : Int) := by omega
        obtain ⟨g, o, y, rfl, ey, hcy⟩ := (Rd.own O4.out).int_at hlt
        rw [HG1.out k hlt] at ey
        injection ey with ey
        subst ey
        go_wp2_with fail
        go_roundw
        case rel => exact ⟨k + 1, q, by omega, by go_num, rfl⟩
        case measure => simp [intOf] <;> omega
    have hlt' : (k : Int) < (s.size : Int) := by omega
    have hkk : (k : Int) + 1 ≤ (s.size : Int) := by omega
    have hz := zone_of s[k]
    obtain ⟨hx0, hx1, hz⟩ := hz
    have hl1 := upL_le s k
    rcases hz with ⟨a, hz⟩ | ⟨a, a', hz⟩ | ⟨a, a', hz⟩ | ⟨a, a', hz⟩ | ⟨a, a', hz⟩ | ⟨a, a', hz⟩ | ⟨a, hz⟩
    case inr.inr.inr.inl =>
      have H1 := Lib.hid (upB_yes hlt hz)
      have H2 := Lib.hid (rvB_yes hlt hz)
      have he : (s.extract k (k + 1)).size = 1 := by rw [extract_one hlt]; rfl
      have hadd1 : ∀ W : World, (Op.stringOp .add (upB s k) (s.extract k (k + 1))).run Try.prog W = .ok (.string (upB s k ++ s.extract k (k + 1))) W := fun W => run_string_add_sum W _ _ (by rw [he, upB_size]; omega)
      have hadd2 : ∀ W : World, (Op.stringOp .add (s.extract k (k + 1)) (rvB s k)).run Try.prog W = .ok (.string (s.extract k (k + 1) ++ rvB s k)) W := fun W => run_string_add_sum W _ _ (by rw [he, rvB_size]; omega)
      clear hz he
      go_wp2_with fail
      go_roundw
      case rel => exact ⟨k + 1, by omega, by go_num, by rw [← H1.out], by rw [← H2.out], rfl⟩
      case measure => simp [intOf] <;> omega
    all_goals
      have H1 : Hid (upL s (k + 1) = upL s k) := upL_no hlt (by rw [hz]; decide)
      clear hz
      go_wp2_with fail
      go_roundw
      case rel => exact ⟨k + 1, by omega, by go_num, by unfold upB; rw [H1.out], by unfold rvB; rw [H1.out], rfl⟩
      case measure => simp [intOf] <;> omega
end Go.Proofs.Ytonkminebememaa
