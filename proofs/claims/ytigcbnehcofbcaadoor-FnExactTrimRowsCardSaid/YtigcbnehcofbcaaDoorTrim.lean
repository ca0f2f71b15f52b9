/-
  Contracts of TrimRows, the program's and the reference's.
-/
import Derived.Test.YtigcbnehcofbcaaDoorTrimPlain
namespace Go.Proofs.YtigcbnehcofbcaaDoor
open Go.RowKit
set_option linter.unusedVariables false

theorem empty_T {s : ByteArray} (h : s.size = 0) : s = ⟨#[]⟩ := by
  apply ByteArray.ext
  apply Array.toList_inj.1
  exact List.eq_nil_of_length_eq_zero h
theorem ret_strT {a b : ByteArray} (h : a = b) : Ending.returned (.string a) = .returned (.string b) := by rw [h]
theorem empty_toList : (⟨#[]⟩ : ByteArray).toList = [] := by rw [ByteArray.toList_eq]
theorem toList_neF {s : ByteArray} (h : s ≠ ⟨#[]⟩) : (s.toList == []) = false := by
  rw [beq_eq_false_iff_ne, ByteArray.toList_eq]
  intro e
  apply h
  exact empty_T (by show s.data.toList.length = 0; rw [e]; rfl)

def TrbRel (s : ByteArray) (v : Value) : Prop := ∃ T : ByteArray, v = .string T ∧ trimS T = trimS s ∧ T.size ≤ s.size
def szOf (v : Value) : Nat := match v with | .string T => T.size | _ => 0
set_option maxRecDepth 8000 in
set_option maxHeartbeats 2000000 in
theorem trimRightByte_any (s : ByteArray) (w : World) (hs : s.size ≤ 1000000) :
    Calls Tryd.prog 32 #[.string s, .int .u8 32] w fun e w' => e = .returned (.string (trimS s)) ∧ w = w' := by
  go_enter Tryd.func32, Tryd.ntmps32
  go_wp2_with fail
  go_loop [0] (TrbRel s) (fun v => szOf v)
  case atStart => exact ⟨s, rfl, rfl, Nat.le_refl _⟩
  case round =>
    obtain ⟨T, rfl, hT, hTs⟩ := hrel
    have HT := Lib.hid hT
    clear hT
    by_cases h0 : T.size = 0
    case pos =>
      have HS : Hid (trimS T = T) := trimS_stop (fun n hn => by omega)
      have h0' : ¬ (0 : Int) < (T.size : Int) := by omega
      clear h0
      go_wp2_with fail
      go_ret
      exact ⟨ret_strT (by rw [← HT.out, HS.out]), rfl⟩
    obtain ⟨n, hn⟩ : ∃ n, T.size = n + 1 := ⟨T.size - 1, by omega⟩
    have hn1 : (T.size : Int) - 1 = (n : Int) := by omega
    have hnT : n < T.size := by omega
    have hnT' : (n : Int) < (T.size : Int) := by omega
    have hn0 : (0 : Int) ≤ (n : Int) := by omega
    have hT0 : (0 : Int) < (T.size : Int) := by omega
    have hnle : (n : Int) ≤ (T.size : Int) := by omega
    by_cases hc : T[n] = 32
    case neg =>
      have hcv : ((T[n].toNat : Int) == 32) = false := by
        simp only [beq_eq_false_iff_ne]
        intro h
        exact hc (by apply UInt8.toNat.inj; show T[n].toNat = 32; omega)
      have HS : Hid (trimS T = T) := trimS_stop (fun m hm => by obtain rfl : m = n := by omega
                                                                exact hc)
      clear hc h0
      go_wp2_with fail
      go_ret
      exact ⟨ret_strT (by rw [← HT.out, HS.out]), rfl⟩
    have hcv : (T[n].toNat : Int) = 32 := by rw [hc]; rfl
    have HS := Lib.hid (trimS_step hn hc)
    have hsz := ext0_size (s := T) (n := n) (by omega)
    clear hc h0
    go_wp2_with fail
    go_round
    case rel => exact ⟨T.extract 0 n, rfl, by rw [HS.out, HT.out], by omega⟩
    case measure => simp [szOf] <;> omega
set_option maxHeartbeats 2000000 in
set_option maxRecDepth 8000 in
theorem trimRight_any (s : ByteArray) (w : World) (hs : s.size ≤ 1000000) :
    Calls Tryd.prog 23 #[.string s, .string ⟨#[32]⟩] w fun e w' => e = .returned (.string (trimS s)) ∧ w = w' := by
  have hne : ((⟨#[32]⟩ : ByteArray).toList == []) = false := by rw [ByteArray.toList_eq]; rfl
  have HC := Lib.hid (trimRightByte_any s w hs)
  by_cases h0 : s = ⟨#[]⟩
  case pos =>
    subst h0
    have he : ((⟨#[]⟩ : ByteArray).toList == []) = true := by rw [ByteArray.toList_eq]; rfl
    clear HC
    go_enter Tryd.func23, Tryd.ntmps23
    go_wp2_with fail
    go_ret
    exact ⟨rfl, rfl⟩
  have he := toList_neF h0
  have hb : ((⟨#[32]⟩ : ByteArray)[0]'(by decide)) = 32 := rfl
  clear h0
  go_enter Tryd.func23, Tryd.ntmps23
  go_wp2_with fail
  refine HC.out.mono ?_
  rintro e w' ⟨rfl, rfl⟩
  go_wp2_with fail
  go_ret
  exact ⟨rfl, rfl⟩
/-- A list of texts in memory of the call's own: the first f rows of a block. -/
def TrRes (l : List ByteArray) (w : World) (e : Ending) (w' : World) : Prop :=
  ∃ A f c N C ys, e = .returned (.slice A f c) ∧ w'.ownsRow w.heap.size 9 1 (.slice A N C) N (strs' ys) ∧ f ≤ N ∧ ys.take f = trimT l ∧ Below w.heap.size w w'
theorem TrRes.no {l : List ByteArray} {w w' : World} (h : ¬ vRows l = true) (hb : Below w.heap.size w w') : TrRes l w (.returned (.slice none 0 0)) w' :=
  ⟨none, 0, 0, 0, 0, [], rfl, World.ownsRow_nil _ _ _ _, Nat.le_refl _, by rw [trimT, if_neg h]; rfl, hb⟩
def TrRel (w : World) (rows L : List ByteArray) (n : Nat) (f i : Value) (wr : World) : Prop :=
  ∃ k : Nat, k ≤ n ∧ i = .int .i64 (k : Int) ∧ f = .int .i64 (filN L k : Nat) ∧ (rows.take k).all vText = true ∧
    wr.ownsRow w.heap.size 9 1 (.slice (some ⟨w.heap.size, 0, none⟩) n n) n (strs' (L.take k ++ List.replicate (L.length - k) ⟨#[]⟩)) ∧ Below w.heap.size w wr
theorem strs_atT {xs : List ByteArray} {m : Nat} (h : m < xs.length) : (strs' (xs.take m ++ List.replicate (xs.length - m) ⟨#[]⟩))[m]? = some (.string ⟨#[]⟩) := by
  unfold strs'
  rw [List.getElem?_map, List.getElem?_append_right (by rw [List.length_take]; omega), List.getElem?_replicate, if_pos (by rw [List.length_take]; omega)]
  rfl
theorem strs_setT {xs : List ByteArray} {m : Nat} {s : ByteArray} (h : xs[m]? = some s) : (strs' (xs.take m ++ List.replicate (xs.length - m) ⟨#[]⟩)).set m (.string s) = strs' (xs.take (m + 1) ++ List.replicate (xs.length - (m + 1)) ⟨#[]⟩) := by
  have hm := (List.getElem?_eq_some_iff.1 h).1
  have hl : (strs' (xs.take m)).length = m := by rw [strs_length, List.length_take]; omega
  have e1 : ∀ a b : List ByteArray, strs' (a ++ b) = strs' a ++ strs' b := fun a b => by simp [strs']
  have e2 : strs' (xs.take (m + 1)) = strs' (xs.take m) ++ [.string s] := by rw [List.take_add_one, h, e1]; rfl
  rw [e1, e1, List.set_append_right _ _ (by omega), hl, Nat.sub_self, e2, List.append_assoc, show xs.length - m = (xs.length - (m + 1)) + 1 from by omega, List.replicate_succ]
  rfl
theorem filN_yes {l : List ByteArray} {k : Nat} {s : ByteArray} (h : l[k]? = some s) (hs : s ≠ ⟨#[]⟩) : filN l (k + 1) = k + 1 := by
  rw [filN, h, if_neg]
  intro e
  injection e with e
  exact hs e
theorem filN_no {l : List ByteArray} {k : Nat} (h : l[k]? = some ⟨#[]⟩) : filN l (k + 1) = filN l k := by rw [filN, if_pos h]

theorem clip_any (g n c : Nat) (w : World) (hn : n ≤ c) (hn2 : n ≤ 1000000) :
    Calls Tryd.prog 24 #[.slice (some ⟨g, 0, none⟩) n c] w fun e w' => e = .returned (.slice (some ⟨g, 0, none⟩) n n) ∧ w = w' := by
  have h0 : (0 : Int) ≤ (n : Int) := by omega
  have h1 : (n : Int) ≤ (c : Int) := by omega
  go_enter Tryd.func24, Tryd.ntmps24
  go_wp2_with fail
  go_ret
  exact ⟨rfl, rfl⟩
set_option maxHeartbeats 4000000 in
theorem implTrim_any (A : Option Addr) (n c : Nat) (l : List ByteArray) (w : World) (hx : Rd w 1 A n (strs' l)) (hn : n ≤ 1048576) (hz : ∀ s ∈ l, s.size ≤ 9223372036854775807) :
    Calls Tryd.prog 8 #[.slice A n c] w (TrRes l w) := by
  have HL := Lib.hid hx.slen
  have HZ := Lib.hid hz
  by_cases hn60 : n ≤ 60
  case neg =>
    have HV : Hid (¬ vRows l = true) := fun h => by simp only [vRows, Bool.and_eq_true, decide_eq_true_eq] at h; have := HL.out; omega
    clear hx hz
    go_enter Tryd.func8, Tryd.ntmps8
    go_wp2_with fail
    go_ret
    exact TrRes.no HV.out (Below.refl _ _)
  have hmk := run_make_row' (P := Tryd.prog) 23 9 (.string ⟨#[]⟩) 16 Tryd.underlying23 infoStr rfl .i64 .i64 n (by omega) (by omega)
  obtain ⟨L, hL⟩ : ∃ L, L = l.map trimS := ⟨_, rfl⟩
  have hLl : L.length = n := by rw [hL, List.length_map, HL.out]
  have HEL := Lib.hid hL
  have HX := Lib.hid hx
  clear hx hz hL
  go_enter Tryd.func8, Tryd.ntmps8
  go_wp2_with fail
  go_loopw [4, 15] (TrRel w l L n) (fun _ i _ => n - (intOf i).toNat)
  case atStart =>
    refine ⟨0, Nat.zero_le _, rfl, rfl, rfl, ?_, (Below.refl _ _).alloc (Nat.le_refl _) _⟩
    have h := World.ownsRow_lit (base := w.heap.size) (e := 9) (size := 1) w (madeCells #[.string ⟨#[]⟩] n) n (Nat.le_refl _) (by unfold maxLen; omega) (by rw [size_madeCells]; omega)
    rw [toList_madeCells_one] at h
    simpa [strs', hLl] using h
  case round =>
    clear hmk
    obtain ⟨k, hk, rfl, rfl, hall, hown, hbel⟩ := hrel
    have AL := Lib.hid hall
    have OW := Lib.hid hown
    have BW := Lib.hid hbel
    clear hall hown hbel
    have hfk := filN_le L k
    by_cases hlt : k < n
    case neg =>
      obtain rfl : k = n := by omega
      have HV : Hid (vRows l = true) := rows_good (by rw [HL.out]; exact hn60) (by rw [HL.out]; exact AL.out)
      obtain ⟨f, hf⟩ : ∃ f, f = filN L k := ⟨_, rfl⟩
      rw [← hf] at hfk
      rw [← hf]
      have HF := Lib.hid hf
      have hf0 : (0 : Int) ≤ (f : Int) := by omega
      have hfn : (f : Int) ≤ (k : Int) := by omega
      have CC := Lib.hid (clip_any w.heap.size f k wr hfk (by omega))
      clear hf hlt
      go_wp2_with fail
      refine CC.out.mono ?_
      rintro e w' ⟨rfl, rfl⟩
      go_wp2_with fail
      go_ret
      refine ⟨_, f, f, k, k, L, rfl, ?_, hfk, ?_, BW.out⟩
      · have h := OW.out
        rw [← hLl, List.take_length, Nat.sub_self, List.replicate_zero, List.append_nil, hLl] at h
        exact h
      · rw [trimT, if_pos HV.out, dropT, ← HEL.out, hLl, ← HF.out]
    obtain ⟨b, o, s, rfl, es, hcs⟩ := (HX.out.below BW.out).str_at hlt
    have hss := HZ.out s (List.mem_of_getElem? es)
    have HS := Lib.hid es
    have hk' : (k : Int) < (n : Int) := by omega
    have hk0 : (0 : Int) ≤ (k : Int) := by omega
    have CT := Lib.hid (fun w => implText_any s w hss)
    cases hv : vText s
    · rw [hv] at CT
      have HV := Lib.hid (rows_bad es hv)
      clear hv es
      go_wp2_with fail
      refine (CT.out _).mono ?_
      rintro e w' ⟨rfl, rfl⟩
      go_wp2_with fail
      go_ret
      exact TrRes.no HV.out BW.out
    have hs60 : s.size ≤ 60 := by simp [vText] at hv; exact hv.2
    rw [hv] at CT
    have AL2 := Lib.hid (rows_step es AL.out hv)
    have CR := Lib.hid (fun w => trimRight_any s w (by omega))
    have hgL : L[k]? = some (trimS s) := by rw [HEL.out, List.getElem?_map, es]; rfl
    have HG := Lib.hid hgL
    obtain ⟨t, ht⟩ : ∃ t, t = trimS s := ⟨_, rfl⟩
    rw [← ht] at CR HG
    have hc2 := OW.out.cellAt k (by omega)
    rw [strs_atT (by omega)] at hc2
    have hf2 := OW.out.frozenAt k
    have ST := Lib.hid (OW.out.stored k (.string t)).1
    rw [strs_setT HG.out] at ST
    have hcn : (wr.setCell ⟨w.heap.size, k, none⟩ (.string t)).cell? ⟨w.heap.size, k, none⟩ = some (.string t) := by apply World.cell?_setCell_same; exact hc2
    have BS := Lib.hid (BW.out.setCell (p := ⟨w.heap.size, k, none⟩) (Nat.le_refl _) (.string t))
    clear hv es hgL ht
    by_cases ht0 : t = ⟨#[]⟩
    case pos =>
      subst ht0
      have he : ((⟨#[]⟩ : ByteArray).toList != []) = false := by rw [ByteArray.toList_eq]; rfl
      have he2 : ((⟨#[]⟩ : ByteArray).toList != (⟨#[]⟩ : ByteArray).toList) = false := by simp
      have HF := Lib.hid (filN_no HG.out)
      go_wp2_with fail
      refine (CT.out _).mono ?_
      rintro e w' ⟨rfl, rfl⟩
      go_wp2_with fail
      refine (CR.out _).mono ?_
      rintro e w' ⟨rfl, rfl⟩
      go_wp2_with fail
      go_roundw
      case rel => exact ⟨k + 1, by omega, by go_num, by rw [HF.out], AL2.out, ST.out, BS.out⟩
      case measure => simp [intOf] <;> omega
    have he : t.toList.isEmpty = false := by have h := toList_neF ht0; simpa using h
    have HF := Lib.hid (filN_yes HG.out ht0)
    clear ht0
    go_wp2_with fail
    refine (CT.out _).mono ?_
    rintro e w' ⟨rfl, rfl⟩
    go_wp2_with fail
    refine (CR.out _).mono ?_
    rintro e w' ⟨rfl, rfl⟩
    go_wp2_with fail
    go_roundw
    case rel => exact ⟨k + 1, by omega, by go_num, by rw [HF.out]; go_num, AL2.out, ST.out, BS.out⟩
    case measure => simp [intOf] <;> omega
def lenOf' (v : Value) : Nat := match v with | .slice _ n _ => n | _ => 0
def StOut (w : World) (rows L : List ByteArray) (v i : Value) (wr : World) : Prop :=
  ∃ k m : Nat, k ≤ L.length ∧ m = k ∧ i = .int .i64 (k : Int) ∧ (rows.take k).all vText = true ∧ wr.ownsRow w.heap.size 9 1 v m (strs' (L.take k)) ∧ Below w.heap.size w wr
def StIn (s : ByteArray) (u : World) (v : Value) (wr : World) : Prop :=
  ∃ m q : Nat, m ≤ s.size ∧ v = .int .i64 (m : Int) ∧ trimN s.data.toList m = trimN s.data.toList s.size ∧ wr = u.drewN q
def StEnd (L : List ByteArray) (A : Option Addr) (d : Nat) (u : World) (v : Value) (wr : World) : Prop :=
  ∃ f q : Nat, f ≤ L.length ∧ v = .slice A f d ∧ filN L f = filN L L.length ∧ wr = u.drewN q
def SpTr (l : List ByteArray) (w : World) (e : Ending) (w' : World) : Prop :=
  ∃ B k d, e = .returned (.slice B k d) ∧ w'.ownsRow w.heap.size 9 1 (.slice B k d) k (strs' (trimT l)) ∧ Below w.heap.size w w'
theorem SpTr.no {l : List ByteArray} {w w' : World} (h : ¬ vRows l = true) (hb : Below w.heap.size w w') : SpTr l w (.returned (.slice none 0 0)) w' :=
  ⟨none, 0, 0, rfl, by rw [trimT, if_neg h]; exact World.ownsRow_nil _ _ _ _, hb⟩
set_option maxRecDepth 8000 in
set_option maxHeartbeats 8000000 in
theorem specTrim_any (A : Option Addr) (n c : Nat) (l : List ByteArray) (w : World) (hx : Rd w 1 A n (strs' l)) (hn : n ≤ 1048576) (hz : ∀ s ∈ l, s.size ≤ 9223372036854775807) :
    Calls Tryd.prog 10 #[.slice A n c] w (SpTr l w) := by
  have HL := Lib.hid hx.slen
  have HZ := Lib.hid hz
  have BA := Lib.hid ((Below.refl w.heap.size w).alloc (Nat.le_refl _) (.cells #[] 9))
  by_cases hn60 : n ≤ 60
  case neg =>
    have HV : Hid (¬ vRows l = true) := fun h => by simp only [vRows, Bool.and_eq_true, decide_eq_true_eq] at h; have := HL.out; omega
    clear hx hz
    go_enter Tryd.func10, Tryd.ntmps10
    go_wp2_with fail
    go_ret
    exact SpTr.no HV.out BA.out
  obtain ⟨L, hL⟩ : ∃ L, L = l.map trimS := ⟨_, rfl⟩
  have hLl : L.length = n := by rw [hL, List.length_map, HL.out]
  have HEL := Lib.hid hL
  have HX := Lib.hid hx
  have ON : Hid ((w.alloc (.cells #[] 9)).ownsRow w.heap.size 9 1 (.slice (some ⟨w.heap.size, 0, none⟩) 0 0) 0 (strs' [])) :=
    ⟨by simp [strs'], .inr ⟨w.heap.size, 0, #[], rfl, Nat.le_refl _, heap_alloc_new w _, Nat.le_refl _, by unfold maxLen; omega, rfl, rfl⟩⟩
  clear hx hz hL
  go_enter Tryd.func10, Tryd.ntmps10
  go_wp2_with fail
  go_loopw [3, 4] (StOut w l L) (fun _ i _ => n - (intOf i).toNat)
  case atStart => exact ⟨0, 0, Nat.zero_le _, rfl, rfl, rfl, ON.out, BA.out⟩
  case round =>
    obtain ⟨k, m, hk, hmk, rfl, hall, hown, hbel⟩ := hrel
    subst hmk
    obtain ⟨L5, d5, e5, hd5⟩ := own_shape hown
    subst e5
    have AL := Lib.hid hall
    have OW := Lib.hid hown
    have BW := Lib.hid hbel
    clear hall hown hbel
    by_cases hlt : m < n
    case neg =>
      obtain rfl : m = n := by omega
      have HV : Hid (vRows l = true) := rows_good (by rw [HL.out]; exact hn60) (by rw [HL.out]; exact AL.out)
      have OL : Hid (wr.ownsRow w.heap.size 9 1 (.slice L5 m d5) m (strs' L)) := by
        have h := OW.out
        rw [List.take_of_length_le (show L.length ≤ m by omega)] at h
        exact h
      clear hlt OW
      go_wp2_with fail
      go_loopw [3] (StEnd L L5 d5 wr) (fun v _ => lenOf' v)
      case atStart => exact ⟨m, 0, by omega, rfl, by rw [hLl], rfl⟩
      case round =>
        obtain ⟨f, q, hf, rfl, hfil, rfl⟩ := hrel
        have HFI := Lib.hid hfil
        clear hfil
        by_cases hf0 : f = 0
        case pos =>
          subst hf0
          have HT : Hid (trimT l = []) := by
            show trimT l = []
            rw [trimT, if_pos HV.out, dropT, ← HEL.out, ← HFI.out]
            rfl
          go_wp2_with fail
          go_ret
          refine ⟨L5, 0, d5, rfl, ?_, below_drewN' BW.out q⟩
          rw [HT.out]
          by_cases hm0 : L5 = none
          · have h := OL.out
            subst hm0
            rcases h.2 with ⟨hv, h0⟩ | ⟨g', cap, cur, hv, _⟩
            · injection hv with _ h1 h2
              rw [h2]
              exact World.ownsRow_nil _ _ _ _
            · cases hv
          · have h := own_take OL.out (Nat.zero_le m) hm0
            rw [List.take_zero] at h
            exact h
        obtain ⟨f1, rfl⟩ : ∃ f1, f = f1 + 1 := ⟨f - 1, by omega⟩
        obtain ⟨b, o, s, hA5, es, hcs⟩ := (Rd.own OL.out).str_at (k := f1) (by omega)
        have hf1 : ((f1 + 1 : Nat) : Int) - 1 = (f1 : Int) := by omega
        have hfp : (0 : Int) < ((f1 + 1 : Nat) : Int) := by omega
        have hf2 : (f1 : Int) < ((f1 + 1 : Nat) : Int) := by omega
        have hf3 : (f1 : Int) ≤ ((f1 + 1 : Nat) : Int) := by omega
        have hf00 : (0 : Int) ≤ (f1 : Int) := by omega
        have hfd : (f1 : Int) ≤ (d5 : Int) := by omega
        have HS := Lib.hid es
        have HA5 := Lib.hid hA5
        have hA5n : L5 ≠ none := by rw [hA5]; simp
        by_cases hs : s = ⟨#[]⟩
        case neg =>
          have he : s.toList.isEmpty = false := by have h := toList_neF hs; simpa using h
          have HT : Hid (trimT l = L.take (f1 + 1)) := by
            show trimT l = _
            rw [trimT, if_pos HV.out, dropT, ← HEL.out, ← HFI.out, filN_yes HS.out hs]
          have OF := Lib.hid (own_take OL.out (show f1 + 1 ≤ m by omega) hA5n)
          subst hA5
          clear es hs hA5n hf0
          go_wp2_with fail
          go_ret
          refine ⟨_, f1 + 1, d5, rfl, ?_, below_drewN' BW.out q⟩
          have h := OF.out
          rw [HT.out]
          unfold strs' at h ⊢
          rw [List.map_take]
          exact h
        subst hs
        have he : ((⟨#[]⟩ : ByteArray).toList == []) = true := by rw [ByteArray.toList_eq]; rfl
        have he2 : ((⟨#[]⟩ : ByteArray).toList.isEmpty) = true := by rw [ByteArray.toList_eq]; rfl
        have HN := Lib.hid (filN_no HS.out)
        subst hA5
        clear es hA5n hf0
        go_wp2_with fail
        go_roundw
        case rel => exact ⟨f1, q, by omega, rfl, by rw [← HN.out]; exact HFI.out, rfl⟩
        case measure => simp [lenOf'] <;> omega
    obtain ⟨b, o, s, rfl, es, hcs⟩ := (HX.out.below BW.out).str_at hlt
    have hss := HZ.out s (List.mem_of_getElem? es)
    have HS := Lib.hid es
    have hk' : (m : Int) < (n : Int) := by omega
    have hk0 : (0 : Int) ≤ (m : Int) := by omega
    have CT := Lib.hid (fun w => specText_any s w hss)
    cases hv : vText s
    · rw [hv] at CT
      have HV := Lib.hid (rows_bad es hv)
      clear hv es
      go_wp2_with fail
      refine (CT.out _).mono ?_
      rintro e w' ⟨rfl, rfl⟩
      go_wp2_with fail
      go_ret
      exact SpTr.no HV.out BW.out
    have hs60 : s.size ≤ 60 := by simp [vText] at hv; exact hv.2
    rw [hv] at CT
    have AL2 := Lib.hid (rows_step es AL.out hv)
    have HG : Hid (L.take (m + 1) = L.take m ++ [trimS s]) := by show _ = _; rw [HEL.out]; exact map_next es
    clear hv es
    go_wp2_with fail
    refine (CT.out _).mono ?_
    rintro e w' ⟨rfl, rfl⟩
    go_wp2_with fail
    go_loopw [5] (StIn s wr) (fun v _ => (intOf v).toNat)
    case atStart => exact ⟨s.size, 0, Nat.le_refl _, rfl, rfl, rfl⟩
    case round =>
      obtain ⟨j, q, hj, rfl, htr, rfl⟩ := hrel
      have HTR := Lib.hid htr
      clear htr
      have key : (trimN s.data.toList j = j ∧ (j = 0 ∨ (0 < j ∧ s.data.toList[j - 1]? ≠ some 32))) ∨ (∃ j1, j = j1 + 1 ∧ s.data.toList[j1]? = some 32) := by
        cases j with
        | zero => exact .inl ⟨rfl, .inl rfl⟩
        | succ j1 =>
          by_cases hc : s.data.toList[j1]? = some 32
          · exact .inr ⟨j1, rfl, hc⟩
          · refine .inl ⟨by rw [trimN, if_neg hc], .inr ⟨by omega, hc⟩⟩
      rcases key with ⟨hj1, hj2⟩ | ⟨j1, rfl, hc⟩
      · have HT : Hid (trimS s = s.extract 0 j) := by
          show trimS s = _
          unfold trimS
          rw [← HTR.out, hj1]
        obtain ⟨T, hT⟩ : ∃ T, T = s.extract 0 j := ⟨_, rfl⟩
        have HTT := Lib.hid hT
        have hj0 : (0 : Int) ≤ (j : Int) := by omega
        have hjs : (j : Int) ≤ (s.size : Int) := by omega
        have hszq : w.heap.size ≤ (wr.drewN q).heap.size := BW.out.size
        have hrest : (¬ (0 : Int) < (j : Int)) ∨ (∃ j1 : Nat, ∃ h : j1 < s.size, (0 : Int) < (j : Int) ∧ (j : Int) - 1 = (j1 : Int) ∧ (j1 : Int) < (s.size : Int) ∧ (0 : Int) ≤ (j1 : Int) ∧ ((s[j1].toNat : Int) == 32) = false) := by
          rcases hj2 with rfl | ⟨hp, hc⟩
          · exact .inl (by omega)
          · refine .inr ⟨j - 1, by omega, by omega, by omega, by omega, by omega, ?_⟩
            rw [byte_at (by omega)] at hc
            simp only [beq_eq_false_iff_ne]
            intro h
            exact hc (congrArg some (by apply UInt8.toNat.inj; show (s[j - 1]'(by omega)).toNat = 32; omega))
        clear hj1 hj2 hT
        rcases hrest with h0 | ⟨j1, hj1s, h0, h1, h2, h3, h4⟩
        all_goals
          go_wp2_with (at_builtin; rw [← HTT.out]; refine app_lit elemStr rfl _ _ rfl (own_drewN OW.out q) _ _ [.string T] rfl rfl rfl (by simp [Value.oneCell']) (by omega) hszq ?_; intro v2 w2 ho hg; have O4 := Lib.hid ho; have B4 := Lib.hid (below_app ((below_drewN' BW.out q).alloc hszq _) hg OW.out (Nat.le_refl _)); clear ho hg)
          go_roundw
          case rel => exact ⟨m + 1, m + 1, by omega, rfl, by go_num, AL2.out, by rw [HG.out, HT.out, ← HTT.out]; simpa [strs'] using O4.out, B4.out⟩
          case measure => simp [intOf] <;> omega
      · have hj1s : j1 < s.size := by omega
        have hcv : (s[j1].toNat : Int) = 32 := by
          rw [byte_at hj1s] at hc
          injection hc with hc
          rw [hc]; rfl
        have HN : Hid (trimN s.data.toList j1 = trimN s.data.toList s.size) := by show _ = _; rw [← HTR.out, trimN, if_pos hc]
        have h0 : (0 : Int) < ((j1 + 1 : Nat) : Int) := by omega
        have h1 : ((j1 + 1 : Nat) : Int) - 1 = (j1 : Int) := by omega
        have h2 : (j1 : Int) < (s.size : Int) := by omega
        have h3 : (0 : Int) ≤ (j1 : Int) := by omega
        clear hc
        go_wp2_with fail
        go_roundw
        case rel => exact ⟨j1, q, by omega, by go_num, HN.out, rfl⟩
        case measure => simp [intOf] <;> omega
end Go.Proofs.YtigcbnehcofbcaaDoor
