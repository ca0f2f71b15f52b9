/-
  Contracts of WrapCost, the program's and the reference's: the sum of squares of given lines.
-/
import Derived.Test.YtmljofijeladoaaDoorWords
import Derived.Test.YtmljofijeladoaaDoorWrapLaws
namespace Go.Proofs.YtmljofijeladoaaDoor
open Go.RowKit
set_option linter.unusedVariables false

/-- Do ends rise from 'last' to n? -/
def vEnds (n : Nat) : Int → List Int → Bool
  | last, [] => decide (last = (n : Int))
  | last, e :: es => decide (last < e) && decide (e ≤ (n : Int)) && vEnds n e es

theorem wcost_bad {L : List Nat} {W : Int} : ∀ (es : List Int) (i : Nat), vEnds L.length (i : Int) es = false → wcost L W i es = none
  | [], i, h => by
    rw [vEnds] at h
    have := of_decide_eq_false h
    rw [wcost, if_neg (by omega)]
  | e :: es, i, h => by
    rw [wcost]
    split
    · rfl
    · rename_i hc
      have hi : ((e.toNat : Nat) : Int) = e := by omega
      rw [vEnds, show decide ((i : Int) < e) = true from decide_eq_true (by omega), show decide (e ≤ (L.length : Int)) = true from decide_eq_true (by omega), Bool.true_and, Bool.true_and] at h
      rw [wcost_bad es e.toNat (by rw [hi]; exact h)]
      rfl

theorem ends_cons {n : Nat} {last e : Int} {es : List Int} (h : vEnds n last (e :: es) = true) : last < e ∧ e ≤ (n : Int) ∧ vEnds n e es = true := by
  rw [vEnds, Bool.and_eq_true, Bool.and_eq_true] at h
  exact ⟨of_decide_eq_true h.1.1, of_decide_eq_true h.1.2, h.2⟩
theorem ends_low {n : Nat} {last e : Int} {es : List Int} (h : ¬ last < e) : vEnds n last (e :: es) = false := by
  rw [vEnds, decide_eq_false h]; rfl
theorem ends_high {n : Nat} {last e : Int} {es : List Int} (h : ¬ e ≤ (n : Int)) : vEnds n last (e :: es) = false := by
  rw [vEnds, decide_eq_false h]; simp
theorem ends_next {n : Nat} {last e : Int} {es : List Int} (h1 : last < e) (h2 : e ≤ (n : Int)) : vEnds n last (e :: es) = vEnds n e es := by
  rw [vEnds, decide_eq_true h1, decide_eq_true h2]; rfl

def EndRel (n : Nat) (xs : List Int) (m : Nat) (i v : Value) : Prop :=
  ∃ (k : Nat) (last : Int), k ≤ m ∧ i = .int .i64 k ∧ v = .int .i64 last ∧ 0 ≤ last ∧ last ≤ n ∧ vEnds n 0 xs = vEnds n last (xs.drop k)

set_option maxHeartbeats 1000000 in
theorem implEnds_any (A : Option Addr) (m c : Nat) (xs : List Int) (n : Nat) (w : World) (hx : Rd w 1 A m (ints xs)) (hm : m ≤ 1048576) (hn : n ≤ 1048576) :
    Calls Tryd.prog 66 #[.slice A m c, .int .i64 (n : Int)] w fun e w' => e = .returned (.bool (vEnds n 0 xs)) ∧ w = w' := by
  have HL := Lib.hid hx.len
  go_enter Tryd.func66, Tryd.ntmps66
  go_wp2_with fail
  go_loop [10, 5] (EndRel n xs m) (fun i _ => m - (intOf i).toNat)
  case atStart => exact ⟨0, 0, Nat.zero_le _, rfl, rfl, by omega, by omega, by simp⟩
  case round =>
    obtain ⟨k, last, hk, rfl, rfl, h0, h1, hv⟩ := hrel
    have HV := Lib.hid hv
    clear hv
    by_cases hlt : k < m
    · obtain ⟨b, o, x, rfl, ex, hcx⟩ := hx.int_at hlt
      have HD := Lib.hid (drop_of_get ex)
      clear hx ex
      by_cases h2 : x ≤ last
      · have HF : Hid (vEnds n 0 xs = false) := by show vEnds n 0 xs = false; rw [HV.out, HD.out]; exact ends_low (by omega)
        go_wp2_with fail
        go_ret
        exact ⟨ret_bool HF.out.symm, rfl⟩
      have h2' : decide (x ≤ last) = false := decide_eq_false h2
      by_cases h3 : (n : Int) < x
      · have HF : Hid (vEnds n 0 xs = false) := by show vEnds n 0 xs = false; rw [HV.out, HD.out]; exact ends_high (by omega)
        go_wp2_with fail
        go_ret
        exact ⟨ret_bool HF.out.symm, rfl⟩
      · have HN : Hid (vEnds n 0 xs = vEnds n x (xs.drop (k + 1))) := by show vEnds n 0 xs = _; rw [HV.out, HD.out]; exact ends_next (by omega) (by omega)
        go_wp2_with fail
        go_round
        case rel => exact ⟨k + 1, x, by omega, by go_num, rfl, by omega, by omega, HN.out⟩
        case measure => simp [intOf] <;> omega
    · obtain rfl : k = m := by omega
      clear hx
      have HF : Hid (vEnds n 0 xs = decide (last = (n : Int))) := by show vEnds n 0 xs = _; rw [HV.out, List.drop_of_length_le (by rw [HL.out]; exact Nat.le_refl _)]; rfl
      go_wp2_with fail
      go_ret
      refine ⟨ret_bool ?_, rfl⟩
      rw [HF.out, Bool.eq_iff_iff]
      simp

/-! ### WrapCost -/
def wCost (l : List ByteArray) (wd : Int) (es : List Int) : Int × Bool :=
  if vWrap l wd = true then (match wcost (sizes l) wd 0 es with | some s => (s, true) | none => (0, false)) else (0, false)

theorem ret_cost {p : Int × Bool} {s : Int} {b : Bool} (h : p = (s, b)) : Ending.returned (.tuple #[.int .i64 s, .bool b]) = Ending.returned (.tuple #[.int .i64 p.1, .bool p.2]) := by subst h; rfl
theorem wCost_bad {l : List ByteArray} {wd : Int} {es : List Int} (h : vWrap l wd = false) : wCost l wd es = (0, false) := by rw [wCost, h]; rfl
theorem wCost_none {l : List ByteArray} {wd : Int} {es : List Int} (h : wcost (sizes l) wd 0 es = none) : wCost l wd es = (0, false) := by rw [wCost, h]; split <;> rfl
theorem wCost_some {l : List ByteArray} {wd : Int} {es : List Int} {s : Int} (hv : vWrap l wd = true) (h : wcost (sizes l) wd 0 es = some s) : wCost l wd es = (s, true) := by rw [wCost, h, if_pos hv]

theorem vWrap_words {l : List ByteArray} {wd : Int} (h : vWrap l wd = true) : l.length ≤ 40 ∧ (∀ s ∈ l, 1 ≤ s.size ∧ s.size ≤ 20) ∧ 20 ≤ wd ∧ wd ≤ 60 := by
  simp only [vWrap, vWords, Bool.and_eq_true, decide_eq_true_eq, List.all_eq_true, inB_iff] at h
  exact ⟨h.1.2, fun s hs => vWord_size (h.1.1 s hs), h.2.1, h.2.2⟩

theorem sizes_seg (l : List ByteArray) (i j : Nat) : sizes ((l.drop i).take (j - i)) = seg (sizes l) i j := by
  unfold seg sizes
  rw [List.map_take, List.map_drop]
theorem lineLen_bd {l : List ByteArray} (hl : l.length ≤ 40) (hs : ∀ s ∈ l, s.size ≤ 20) (h1 : 1 ≤ l.length) : 0 ≤ lineLen (sizes l) ∧ lineLen (sizes l) ≤ 1000 := by
  have hb := sum_bound (L := sizes l) (B := 20) (fun x hx => by obtain ⟨s, hs', rfl⟩ := List.mem_map.1 hx; exact hs s hs') (sizes l).length
  rw [List.take_length] at hb
  have hln := sizes_length l
  unfold lineLen
  omega

/-- What is read between two indexes of a list of texts. -/
theorem Rd.slice {w : World} {b o n : Nat} {l : List ByteArray} (h : Rd w 1 (some ⟨b, o, none⟩) n (strs' l)) {i j : Nat} (hij : i ≤ j) (hj : j ≤ n) : Rd w 1 (some ⟨b, o + i, none⟩) (j - i) (strs' ((l.drop i).take (j - i))) := by
  have hl := h.slen
  refine ⟨by simp [strs']; omega, fun h0 => ⟨b, o + i, rfl, fun x hx => ?_⟩⟩
  obtain ⟨b', o', e, hc⟩ := h.2 (by omega)
  injection e with e
  injection e with e1 e2
  subst e1; subst e2
  rw [Nat.add_assoc, hc (i + x) (by omega)]
  unfold strs'
  rw [List.getElem?_map, List.getElem?_map, List.getElem?_take, if_pos (by omega), List.getElem?_drop]

def CostRel (w : World) (n m : Nat) (L : List Nat) (wd : Int) (es : List Int) (i s f : Value) (wr : World) : Prop :=
  ∃ (k from' q : Nat) (sum : Int), k ≤ m ∧ from' ≤ n ∧ i = .int .i64 k ∧ s = .int .i64 sum ∧ f = .int .i64 (from' : Int) ∧ 0 ≤ sum ∧ sum ≤ 3600 * (from' : Int) ∧ wcost L wd 0 es = (wcost L wd from' (es.drop k)).map (fun t => sum + t) ∧ wr = w.drewN q

def CostRelV (w : World) (n m : Nat) (L : List Nat) (wd : Int) (es : List Int) (i s f : Value) (wr : World) : Prop :=
  ∃ (k from' q : Nat) (sum : Int), k ≤ m ∧ from' ≤ n ∧ i = .int .i64 k ∧ s = .int .i64 sum ∧ f = .int .i64 (from' : Int) ∧ 0 ≤ sum ∧ sum ≤ 3600 * (from' : Int) ∧ vEnds n from' (es.drop k) = true ∧ wcost L wd 0 es = (wcost L wd from' (es.drop k)).map (fun t => sum + t) ∧ wr = w.drewN q

theorem cost_next {L : List Nat} {W : Int} {i j : Nat} {es : List Int} (h1 : i < j) (h2 : j ≤ L.length) (h3 : ¬ wrest L W i j < 0) :
    wcost L W i ((j : Int) :: es) = (wcost L W j es).map fun s => (if (j : Int) < (L.length : Int) then wrest L W i j * wrest L W i j else 0) + s := by
  rw [wcost, if_neg (by simp only [Int.toNat_natCast]; omega), Int.toNat_natCast]
theorem cost_short {L : List Nat} {W : Int} {i j : Nat} {es : List Int} (h3 : wrest L W i j < 0) : wcost L W i ((j : Int) :: es) = none := by
  rw [wcost, if_pos (by simp only [Int.toNat_natCast]; omega)]
theorem cost_low {L : List Nat} {W : Int} {i : Nat} {e : Int} {es : List Int} (h : e ≤ (i : Int)) : wcost L W i (e :: es) = none := by rw [wcost, if_pos (.inl h)]
theorem cost_high {L : List Nat} {W : Int} {i : Nat} {e : Int} {es : List Int} (h : (L.length : Int) < e) : wcost L W i (e :: es) = none := by rw [wcost, if_pos (.inr (.inl h))]
theorem map_map_add (o : Option Int) (a b : Int) : (o.map (fun s => b + s)).map (fun t => a + t) = o.map (fun t => (a + b) + t) := by
  cases o with
  | none => rfl
  | some x => simp; omega

set_option maxHeartbeats 4000000 in
theorem implCost_any (A : Option Addr) (n c : Nat) (l : List ByteArray) (wd : Int) (B : Option Addr) (m d : Nat) (es : List Int) (w : World) (hx : Rd w 1 A n (strs' l)) (hy : Rd w 1 B m (ints es)) (hn : n ≤ 1048576) (hm : m ≤ 1048576) (hnc : n ≤ c) (hz : ∀ s ∈ l, s.size ≤ 9223372036854775807) :
    Calls Tryd.prog 43 #[.slice A n c, .int .i64 wd, .slice B m d] w fun e w' => e = .returned (.tuple #[.int .i64 (wCost l wd es).1, .bool (wCost l wd es).2]) ∧ ∃ q, w' = w.drewN q := by
  have HX := Lib.hid hx
  have HY := Lib.hid hy
  have HLn : Hid (n = (sizes l).length) := by show n = _; rw [sizes_length, hx.slen]
  have C1 := Lib.hid (implWrap_any A n c l wd w hx hn hz)
  have C2 := Lib.hid (implEnds_any B m d es n w hy hm hn)
  clear hz
  cases hv : vWrap l wd
  · have HV := Lib.hid (wCost_bad (es := es) hv)
    rw [hv] at C1
    clear hv hx hy
    go_enter Tryd.func43, Tryd.ntmps43
    go_wp2_with (go_at_call 31; refine C1.out.mono ?_; rintro e w' ⟨rfl, rfl⟩)
    go_ret2
    exact ⟨ret_cost HV.out, 0, rfl⟩
  have HV := Lib.hid hv
  have HW := Lib.hid (vWrap_words hv)
  rw [hv] at C1
  clear hv
  cases he : vEnds n 0 es
  · have HE : Hid (wCost l wd es = (0, false)) := wCost_none (wcost_bad es 0 (by rw [← HLn.out]; exact he))
    rw [he] at C2
    clear he hx hy
    go_enter Tryd.func43, Tryd.ntmps43
    go_wp2_with (first | (go_at_call 31; refine C1.out.mono ?_; rintro e w' ⟨rfl, rfl⟩) | (go_at_call 66; refine C2.out.mono ?_; rintro e w' ⟨rfl, rfl⟩))
    go_ret2
    exact ⟨ret_cost HE.out, 0, rfl⟩
  have HE := Lib.hid he
  rw [he] at C2
  clear he
  have hw0 := HW.out.2.2.1
  have hw1 := HW.out.2.2.2
  have hn40 : n ≤ 40 := by have := HW.out.1; rw [← hx.slen]; exact this
  clear hx hy
  go_enter Tryd.func43, Tryd.ntmps43
  go_wp2_with (first | (go_at_call 31; refine C1.out.mono ?_; rintro e w' ⟨rfl, rfl⟩) | (go_at_call 66; refine C2.out.mono ?_; rintro e w' ⟨rfl, rfl⟩))
  go_loopw [26, 8, 9] (CostRelV w n m (sizes l) wd es) (fun i _ _ _ => m - (intOf i).toNat)
  case atStart => exact ⟨0, 0, 0, 0, Nat.zero_le _, Nat.zero_le _, rfl, rfl, rfl, by omega, by omega, by simpa using HE.out, by simp, rfl⟩
  case round =>
    obtain ⟨k, fr, q, sum, hk, hfr, rfl, rfl, rfl, hs0, hs1, hve, hwc, rfl⟩ := hrel
    clear C1 C2
    by_cases hlt : k < m
    case neg =>
      obtain rfl : k = m := by omega
      have HF : Hid (wCost l wd es = (sum, true)) := by
        have hd : es.drop k = [] := List.drop_of_length_le (by rw [HY.out.len]; exact Nat.le_refl _)
        rw [hd] at hve hwc
        rw [vEnds] at hve
        have := of_decide_eq_true hve
        rw [wcost, if_pos (by rw [← HLn.out]; omega)] at hwc
        exact wCost_some HV.out (by rw [hwc]; simp)
      clear hve hwc
      go_wp2_with fail
      go_ret2
      exact ⟨ret_cost HF.out, q, rfl⟩
    obtain ⟨b', o', x, rfl, ex, hcx⟩ := HY.out.int_at hlt
    rw [drop_of_get ex] at hve hwc
    obtain ⟨hx1, hx2, hve'⟩ := ends_cons hve
    obtain ⟨j, rfl⟩ := Int.eq_ofNat_of_zero_le (show 0 ≤ x by omega)
    have hfj : fr < j := by omega
    have hjn : j ≤ n := by omega
    have HVE := Lib.hid hve'
    have HWC := Lib.hid hwc
    clear hve hve' hwc ex hx1 hx2
    obtain ⟨b, o, eA, _⟩ := HX.out.2 (by omega)
    subst eA
    have hsl := HX.out.slice (Nat.le_of_lt hfj) hjn
    have hb : ∀ s ∈ (l.drop fr).take (j - fr), s.size ≤ 20 := fun s hs => (HW.out.2.1 s (List.mem_of_mem_drop (List.mem_of_mem_take hs))).2
    have hC := implLen_any (some ⟨b, o + fr, none⟩) (j - fr) (c - fr) _ (w.drewN q) (hsl.drewN q) (by omega) (by omega) hb
    have hbd := lineLen_bd (l := (l.drop fr).take (j - fr)) (by rw [hsl.slen]; omega) hb (by rw [hsl.slen]; omega)
    rw [sizes_seg] at hC hbd
    obtain ⟨ll, hll⟩ : ∃ ll, ll = lineLen (seg (sizes l) fr j) := ⟨_, rfl⟩
    have HR : Hid (wrest (sizes l) wd fr j = wd - ll) := by show _ = _; rw [hll]; rfl
    rw [← hll] at hC hbd
    obtain ⟨hl0, hl1⟩ := hbd
    have C3 := Lib.hid hC
    clear hC hsl hb hll
    have hcf : (fr : Int) ≤ c := by omega
    have hjc : (j : Int) ≤ c := by omega
    have hfj' : (fr : Int) ≤ (j : Int) := by omega
    have hf0 : (0 : Int) ≤ (fr : Int) := by omega
    have hnf : ¬ c = fr := by omega
    go_wp2_with fail
    refine C3.out.mono ?_
    rintro e w' ⟨rfl, rfl⟩
    clear C3 hcx
    by_cases hr : wd - ll < 0
    · have HF : Hid (wCost l wd es = (0, false)) := wCost_none (by rw [HWC.out, cost_short (by rw [HR.out]; exact hr)]; rfl)
      go_wp2_with fail
      go_ret2
      exact ⟨ret_cost HF.out, q, rfl⟩
    have hsq := sq_le (x := wd - ll) (W := 60) (by omega) (by omega) (by omega)
    have hcn := cost_next (es := es.drop (k + 1)) hfj (by rw [← HLn.out]; exact hjn) (by rw [HR.out]; exact hr)
    rw [HR.out, ← HLn.out] at hcn
    obtain ⟨hsq0, hsq1⟩ := hsq
    by_cases hjl : (j : Int) < (n : Int)
    · rw [if_pos hjl] at hcn
      have HN := Lib.hid hcn
      clear hcn
      go_wp2_with fail
      go_roundw
      case rel => exact ⟨k + 1, j, q, sum + (wd - ll) * (wd - ll), by omega, hjn, by go_num, rfl, rfl, by omega, by omega, HVE.out, by rw [HWC.out, HN.out, map_map_add], rfl⟩
      case measure => simp [intOf] <;> omega
    · rw [if_neg hjl] at hcn
      have HN := Lib.hid hcn
      clear hcn
      go_wp2_with fail
      go_roundw
      case rel => exact ⟨k + 1, j, q, sum, by omega, hjn, by go_num, rfl, rfl, by omega, by omega, HVE.out, by rw [HWC.out, HN.out, map_map_add]; simp, rfl⟩
      case measure => simp [intOf] <;> omega

set_option maxHeartbeats 4000000 in
theorem specCost_any (A : Option Addr) (n c : Nat) (l : List ByteArray) (wd : Int) (B : Option Addr) (m d : Nat) (es : List Int) (w : World) (hx : Rd w 1 A n (strs' l)) (hy : Rd w 1 B m (ints es)) (hn : n ≤ 1048576) (hm : m ≤ 1048576) (hnc : n ≤ c) (hz : ∀ s ∈ l, s.size ≤ 9223372036854775807) :
    Calls Tryd.prog 49 #[.slice A n c, .int .i64 wd, .slice B m d] w fun e w' => e = .returned (.tuple #[.int .i64 (wCost l wd es).1, .bool (wCost l wd es).2]) ∧ ∃ q, w' = w.drewN q := by
  have HX := Lib.hid hx
  have HY := Lib.hid hy
  have HLn : Hid (n = (sizes l).length) := by show n = _; rw [sizes_length, hx.slen]
  have C1 := Lib.hid (specWords_any A n c l w hx hn hz)
  clear hz
  cases hv : vWords l
  · have HV : Hid (wCost l wd es = (0, false)) := wCost_bad (by rw [vWrap, hv]; rfl)
    rw [hv] at C1
    clear hv hx hy
    go_enter Tryd.func49, Tryd.ntmps49
    go_wp2_with (go_at_call 19; refine C1.out.mono ?_; rintro e w' ⟨rfl, rfl⟩)
    go_ret2
    exact ⟨ret_cost HV.out, 0, rfl⟩
  rw [hv] at C1
  cases hi : inB 20 60 wd
  · have HV : Hid (wCost l wd es = (0, false)) := wCost_bad (by rw [vWrap, hi]; simp)
    have HI := Lib.hid hi
    clear hv hi hx hy
    go_enter Tryd.func49, Tryd.ntmps49
    go_wp2_with (first | (go_at_call 19; refine C1.out.mono ?_; rintro e w' ⟨rfl, rfl⟩) | (go_at_call 20; refine (inRange_any _ _ _ _ HI.out _).mono ?_; rintro e w' ⟨rfl, rfl⟩))
    go_ret2
    exact ⟨ret_cost HV.out, 0, rfl⟩
  have HI := Lib.hid hi
  have HV : Hid (vWrap l wd = true) := by show vWrap l wd = true; rw [vWrap, hv, hi]; rfl
  have HW := Lib.hid (vWrap_words HV.out)
  clear hv hi
  have hw0 := HW.out.2.2.1
  have hw1 := HW.out.2.2.2
  have hn40 : n ≤ 40 := by have := HW.out.1; rw [← hx.slen]; exact this
  clear hx hy
  go_enter Tryd.func49, Tryd.ntmps49
  go_wp2_with (first | (go_at_call 19; refine C1.out.mono ?_; rintro e w' ⟨rfl, rfl⟩) | (go_at_call 20; refine (inRange_any _ _ _ _ HI.out _).mono ?_; rintro e w' ⟨rfl, rfl⟩))
  go_loopw [10, 8, 9] (CostRel w n m (sizes l) wd es) (fun i _ _ _ => m - (intOf i).toNat)
  case atStart => exact ⟨0, 0, 0, 0, Nat.zero_le _, Nat.zero_le _, rfl, rfl, rfl, by omega, by omega, by simp, rfl⟩
  case round =>
    obtain ⟨k, fr, q, sum, hk, hfr, rfl, rfl, rfl, hs0, hs1, hwc, rfl⟩ := hrel
    clear C1
    by_cases hlt : k < m
    case neg =>
      obtain rfl : k = m := by omega
      have hd : es.drop k = [] := List.drop_of_length_le (by rw [HY.out.len]; exact Nat.le_refl _)
      rw [hd, wcost] at hwc
      by_cases hfn : fr = n
      · rw [if_pos (by rw [← HLn.out]; exact hfn)] at hwc
        have HF : Hid (wCost l wd es = (sum, true)) := wCost_some HV.out (by rw [hwc]; simp)
        have hfn' : ((fr : Int) != (n : Int)) = false := by simp; omega
        clear hwc hd hfn
        go_wp2_with fail
        go_ret2
        exact ⟨ret_cost HF.out, q, rfl⟩
      · rw [if_neg (by rw [← HLn.out]; exact hfn)] at hwc
        have HF : Hid (wCost l wd es = (0, false)) := wCost_none (by rw [hwc]; rfl)
        have hfn' : ((fr : Int) != (n : Int)) = true := by simp; omega
        clear hwc hd hfn
        go_wp2_with fail
        go_ret2
        exact ⟨ret_cost HF.out, q, rfl⟩
    obtain ⟨b', o', x, rfl, ex, hcx⟩ := HY.out.int_at hlt
    rw [drop_of_get ex] at hwc
    have HWC := Lib.hid hwc
    clear hwc ex
    by_cases h1 : x ≤ (fr : Int)
    · have HF : Hid (wCost l wd es = (0, false)) := wCost_none (by rw [HWC.out, cost_low h1]; rfl)
      go_wp2_with fail
      go_ret2
      exact ⟨ret_cost HF.out, q, rfl⟩
    have h1' : decide (x ≤ (fr : Int)) = false := decide_eq_false h1
    by_cases h2 : (n : Int) < x
    · have HF : Hid (wCost l wd es = (0, false)) := wCost_none (by rw [HWC.out, cost_high (by rw [← HLn.out]; exact h2)]; rfl)
      go_wp2_with fail
      go_ret2
      exact ⟨ret_cost HF.out, q, rfl⟩
    obtain ⟨j, rfl⟩ := Int.eq_ofNat_of_zero_le (show 0 ≤ x by omega)
    have hfj : fr < j := by omega
    have hjn : j ≤ n := by omega
    obtain ⟨b, o, eA, _⟩ := HX.out.2 (by omega)
    subst eA
    have hsl := HX.out.slice (Nat.le_of_lt hfj) hjn
    have hb : ∀ s ∈ (l.drop fr).take (j - fr), s.size ≤ 20 := fun s hs => (HW.out.2.1 s (List.mem_of_mem_drop (List.mem_of_mem_take hs))).2
    have hC := specLen_any (some ⟨b, o + fr, none⟩) (j - fr) (c - fr) _ (w.drewN q) (hsl.drewN q) (by omega) (by omega) hb
    have hbd := lineLen_bd (l := (l.drop fr).take (j - fr)) (by rw [hsl.slen]; omega) hb (by rw [hsl.slen]; omega)
    rw [sizes_seg] at hC hbd
    obtain ⟨ll, hll⟩ : ∃ ll, ll = lineLen (seg (sizes l) fr j) := ⟨_, rfl⟩
    have HR : Hid (wrest (sizes l) wd fr j = wd - ll) := by show _ = _; rw [hll]; rfl
    rw [← hll] at hC hbd
    obtain ⟨hl0, hl1⟩ := hbd
    have C3 := Lib.hid hC
    clear hC hsl hb hll
    have hcf : (fr : Int) ≤ c := by omega
    have hjc : (j : Int) ≤ c := by omega
    have hfj' : (fr : Int) ≤ (j : Int) := by omega
    have hf0 : (0 : Int) ≤ (fr : Int) := by omega
    have hnf : ¬ c = fr := by omega
    go_wp2_with fail
    refine C3.out.mono ?_
    rintro e w' ⟨rfl, rfl⟩
    clear C3
    by_cases hr : wd - ll < 0
    · have HF : Hid (wCost l wd es = (0, false)) := wCost_none (by rw [HWC.out, cost_short (by rw [HR.out]; exact hr)]; rfl)
      go_wp2_with fail
      go_ret2
      exact ⟨ret_cost HF.out, q, rfl⟩
    have hsq := sq_le (x := wd - ll) (W := 60) (by omega) (by omega) (by omega)
    have hcn := cost_next (es := es.drop (k + 1)) hfj (by rw [← HLn.out]; exact hjn) (by rw [HR.out]; exact hr)
    rw [HR.out, ← HLn.out] at hcn
    obtain ⟨hsq0, hsq1⟩ := hsq
    by_cases hjl : (j : Int) < (n : Int)
    · rw [if_pos hjl] at hcn
      have HN := Lib.hid hcn
      clear hcn
      go_wp2_with fail
      go_roundw
      case rel => exact ⟨k + 1, j, q, sum + (wd - ll) * (wd - ll), by omega, hjn, by go_num, rfl, rfl, by omega, by omega, by rw [HWC.out, HN.out, map_map_add], rfl⟩
      case measure => simp [intOf] <;> omega
    · rw [if_neg hjl] at hcn
      have HN := Lib.hid hcn
      clear hcn
      go_wp2_with fail
      go_roundw
      case rel => exact ⟨k + 1, j, q, sum, by omega, hjn, by go_num, rfl, rfl, by omega, by omega, by rw [HWC.out, HN.out, map_map_add]; simp, rfl⟩
      case measure => simp [intOf] <;> omega
end Go.Proofs.YtmljofijeladoaaDoor
