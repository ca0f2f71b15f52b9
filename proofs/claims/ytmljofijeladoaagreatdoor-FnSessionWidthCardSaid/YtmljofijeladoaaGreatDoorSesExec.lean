/-
  Contract of the program's execute: one command of a session.
-/
import Derived.Test.YtmljofijeladoaaGreatDoorSesImpl
import Derived.Deep.RegionHeld3
namespace Go.Proofs.YtmljofijeladoaaGreatDoor
open Go.RowKit
set_option linter.unusedVariables false

theorem sum_lit (a : ByteArray) (h : a.size ≤ 3000) (W : World) : (Op.stringOp .add a ⟨#[10]⟩).run Tryz.prog W = .ok (.string (a ++ nlT)) W := sum_run a ⟨#[10]⟩ (by omega) (by decide) W
theorem okS_nl : okS ++ nlT = okT := by decide
theorem noS_nl : noS ++ nlT = noT := by decide
theorem allB_len {t : ByteArray} (h : t.size ≤ 1048570) : (allB 32 t).length ≤ 1048576 := by
  have h1 := cutB_le 32 (t.data.toList.count 32) t
  have h2 : t.data.toList.count 32 ≤ t.data.toList.length := List.count_le_length
  have h3 : t.data.toList.length = t.size := rfl
  show (cutB 32 (t.data.toList.count 32) t).length ≤ _
  omega
theorem aft_short {x : ByteArray} (hx : x.size ≤ 1048576) : (aft x).size ≤ 1048570 := by
  show (x.data.toList.drop 6).length ≤ _
  rw [List.length_drop]
  have : x.data.toList.length = x.size := rfl
  omega
theorem nl_cells (l : List ByteArray) (k : Nat) (t : ByteArray) (h : l[k]? = some t) : Lib.byteCells (nlL (l.take k)) ++ Lib.strCells (t ++ nlT) = Lib.byteCells (nlL (l.take (k + 1))) := by
  rw [nlL_snoc l k t h, cells_app, app_toList]
  rfl

set_option maxHeartbeats 4000000 in
set_option maxRecDepth 8000 in
theorem exec_words (w : World) (g : Nat) (st : St) (x : ByteArray) (hS : SesAt 35 w g st) (hx : x.size ≤ 1048576) (hT : ∀ w1, Below w.heap.size w w1 → TB w1) (hA : AT w) (hM : ML w) (h : isW x = true) :
    Calls Tryz.prog 15 #[.pointer (some ⟨g, 0, none⟩), .string x] w (Stepped 35 w g (sstep st x)) := by
  have S0 := Lib.hid hS
  have M0 := Lib.hid hM
  have haf := aft_short hx
  have hlen := allB_len haf
  have hz : ∀ s ∈ allB 32 (aft x), s.size ≤ 9223372036854775807 := fun s hs => by have := cutB_small hs; omega
  have C1 := Lib.hid (fun w1 => cut_yes x (⟨#[119, 111, 114, 100, 115, 32]⟩ : ByteArray) rfl h w1)
  have SP := Lib.hid (fun w1 h => splitLib_any (aft x) 32 w1 (by omega) h)
  have SW := Lib.hid (fun w1 A n c (h1 : SesAt 35 w1 g st) (ho : w1.ownsRow 0 9 1 (.slice A n c) n (strs' (allB 32 (aft x)))) (hn : n ≤ 1048576) => implSetWords_any w1 g st A n c _ h1 ho hn hz)
  have E := step_words (st := st) h
  obtain ⟨r, hr⟩ : ∃ r, r = sstep st x := ⟨_, rfl⟩
  rw [← hr] at E ⊢
  clear hr hS hM hT hA h hz
  obtain ⟨t, ht⟩ : ∃ t, t = aft x := ⟨_, rfl⟩
  rw [← ht] at haf hlen C1 SP SW E
  clear ht
  obtain ⟨l, hl⟩ : ∃ l, l = allB 32 t := ⟨_, rfl⟩
  rw [← hl] at hlen SP SW E
  clear hl
  cases hv : vWords l
  · rw [if_neg (by rw [hv]; decide)] at E
    rw [hv] at SW
    simp only [if_false, if_true, Bool.false_eq_true] at SW
    clear hv
    go_enter Tryz.func15, Tryz.ntmps15
    go_wp2_with fail
    refine (C1.out _).mono ?_
    rintro e w' ⟨rfl, rfl⟩
    go_wp2_with fail
    refine (SP.out _ M0.out).mono ?_
    rintro e w1 ⟨rfl, hw1⟩
    have B1 : Hid (Below w.heap.size w w1) := by show Below _ _ _; rw [hw1]; exact (Below.refl _ _).alloc (Nat.le_refl _) _
    have O1 : Hid (w1.ownsRow 0 9 1 (.slice (some ⟨w.heap.size, 0, none⟩) l.length l.length) l.length (strs' l)) := by show w1.ownsRow _ _ _ _ _ _; rw [hw1]; exact own_base (own_fresh w l (by omega)) (Nat.zero_le _)
    have S1 := Lib.hid (S0.out.below B1.out)
    clear hw1
    have r1 := sum_lit noS (by decide)
    go_wp2_with fail
    refine (SW.out w1 _ _ _ S1.out O1.out hlen).mono ?_
    rintro e w2 ⟨rfl, hs2, hg2⟩
    have S2 := Lib.hid hs2
    have G2 := Lib.hid (gr_trans (gr_of_below B1.out) hg2)
    clear hs2 hg2
    go_wp2_with fail
    go_ret
    rw [E]
    exact ⟨congrArg (fun z => Ending.returned (Value.string z)) noS_nl, S2.out, G2.out⟩
  · rw [if_pos hv] at E
    rw [hv] at SW
    simp only [if_false, if_true, Bool.false_eq_true] at SW
    clear hv
    go_enter Tryz.func15, Tryz.ntmps15
    go_wp2_with fail
    refine (C1.out _).mono ?_
    rintro e w' ⟨rfl, rfl⟩
    go_wp2_with fail
    refine (SP.out _ M0.out).mono ?_
    rintro e w1 ⟨rfl, hw1⟩
    have B1 : Hid (Below w.heap.size w w1) := by show Below _ _ _; rw [hw1]; exact (Below.refl _ _).alloc (Nat.le_refl _) _
    have O1 : Hid (w1.ownsRow 0 9 1 (.slice (some ⟨w.heap.size, 0, none⟩) l.length l.length) l.length (strs' l)) := by show w1.ownsRow _ _ _ _ _ _; rw [hw1]; exact own_base (own_fresh w l (by omega)) (Nat.zero_le _)
    have S1 := Lib.hid (S0.out.below B1.out)
    clear hw1
    have r1 := sum_lit okS (by decide)
    go_wp2_with fail
    refine (SW.out w1 _ _ _ S1.out O1.out hlen).mono ?_
    rintro e w2 ⟨rfl, hs2, hg2⟩
    have S2 := Lib.hid hs2
    have G2 := Lib.hid (gr_trans (gr_of_below B1.out) hg2)
    clear hs2 hg2
    go_wp2_with fail
    go_ret
    rw [E]
    exact ⟨congrArg (fun z => Ending.returned (Value.string z)) okS_nl, S2.out, G2.out⟩
set_option maxHeartbeats 4000000 in
set_option maxRecDepth 8000 in
theorem exec_width (w : World) (g : Nat) (st : St) (x : ByteArray) (hS : SesAt 35 w g st) (hx : x.size ≤ 1048576) (hT : ∀ w1, Below w.heap.size w w1 → TB w1) (hA : AT w) (hM : ML w) (h0 : isW x = false) (h : isN x = true) :
    Calls Tryz.prog 15 #[.pointer (some ⟨g, 0, none⟩), .string x] w (Stepped 35 w g (sstep st x)) := by
  have S0 := Lib.hid hS
  have haf := aft_short hx
  have C1 := Lib.hid (fun w1 => cut_no x (⟨#[119, 111, 114, 100, 115, 32]⟩ : ByteArray) h0 w1)
  have C2 := Lib.hid (fun w1 => cut_yes x (⟨#[119, 105, 100, 116, 104, 32]⟩ : ByteArray) rfl h w1)
  have SW := Lib.hid (implSetWidth_any w g st (aft x) hS (by omega) hT hA)
  have E := step_width (st := st) h0 h
  obtain ⟨r, hr⟩ : ∃ r, r = sstep st x := ⟨_, rfl⟩
  rw [← hr] at E ⊢
  clear hr hS hM hT hA h h0
  obtain ⟨t, ht⟩ : ∃ t, t = aft x := ⟨_, rfl⟩
  rw [← ht] at haf C2 SW E
  clear ht
  cases hv : wOk t
  · rw [if_neg (by rw [hv]; decide)] at E
    rw [hv] at SW
    simp only [if_false, if_true, Bool.false_eq_true] at SW
    clear hv
    go_enter Tryz.func15, Tryz.ntmps15
    go_wp2_with fail
    refine (C1.out _).mono ?_
    rintro e w' ⟨rfl, rfl⟩
    go_wp2_with fail
    refine (C2.out _).mono ?_
    rintro e w' ⟨rfl, rfl⟩
    have r1 := sum_lit noS (by decide)
    go_wp2_with fail
    refine SW.out.mono ?_
    rintro e w2 ⟨rfl, hs2, hg2⟩
    have S2 := Lib.hid hs2
    have G2 := Lib.hid hg2
    clear hs2 hg2
    go_wp2_with fail
    go_ret
    rw [E]
    exact ⟨congrArg (fun z => Ending.returned (Value.string z)) noS_nl, S2.out, G2.out⟩
  · rw [if_pos hv] at E
    rw [hv] at SW
    simp only [if_false, if_true, Bool.false_eq_true] at SW
    clear hv
    go_enter Tryz.func15, Tryz.ntmps15
    go_wp2_with fail
    refine (C1.out _).mono ?_
    rintro e w' ⟨rfl, rfl⟩
    go_wp2_with fail
    refine (C2.out _).mono ?_
    rintro e w' ⟨rfl, rfl⟩
    have r1 := sum_lit okS (by decide)
    go_wp2_with fail
    refine SW.out.mono ?_
    rintro e w2 ⟨rfl, hs2, hg2⟩
    have S2 := Lib.hid hs2
    have G2 := Lib.hid hg2
    clear hs2 hg2
    go_wp2_with fail
    go_ret
    rw [E]
    exact ⟨congrArg (fun z => Ending.returned (Value.string z)) okS_nl, S2.out, G2.out⟩
theorem nums_nil : numsB [] = ⟨#[]⟩ := rfl
theorem join_any (bv ov vc k : Nat) (F : List Int) (w : World) (hcv : ∀ j, j < k * 1 → w.cell? ⟨bv, ov + j, none⟩ = (strs' (F.map itoaB))[j]?) (hbv : bv < w.heap.size) (hF : F.length = k) (hk : k ≤ 40) (hkc : k ≤ vc) (E2 : ∀ e ∈ F, 0 ≤ e ∧ e ≤ 40) :
    Calls Tryz.prog 28 #[.slice (some ⟨bv, ov, none⟩) k vc, .string ⟨#[32]⟩] w fun e w' => e = .returned (.string (numsB F)) ∧ Below w.heap.size w w' := by
  have hkl : (F.map itoaB).length = k := by rw [List.length_map, hF]
  have hn := numsB_size (es := F) (by omega) E2
  have hj0 := jw_join (F.map itoaB)
  have hjl : (Lib.join ((F.map itoaB).map (·.data.toList)) [32]).length ≤ 140737488355328 := by
    rw [← hj0]
    exact Nat.le_trans hn (by decide)
  have hcl : ∀ (j : Nat) x, (F.map itoaB)[j]? = some x → w.cell? ⟨bv, ov + j, none⟩ = some (.string x) := fun j x hj => by
    have hjk : j < k * 1 := by have := (List.getElem?_eq_some_iff.1 hj).1; omega
    rw [hcv j hjk, strs', List.getElem?_map, hj]
    rfl
  have h := Tryz.strings_Join bv ov vc (F.map itoaB) ⟨#[32]⟩ w hcl hbv (by omega) (by omega) hjl
  rw [hkl] at h
  refine h.mono ?_
  rintro e w' ⟨rfl, h2⟩
  exact ⟨congrArg (fun z => Ending.returned (Value.string z)) (jw_join' (F.map itoaB)), h2⟩
def ExR (w : World) (F : List ByteArray) (B : Option Addr) (m dd : Nat) (s3 : Nat) (i : Value) (wr : World) : Prop :=
  ∃ k : Nat, k ≤ m ∧ i = .int .i64 k ∧ Lib.IsBuilder 38 5 w.heap.size w.heap.size (Lib.byteCells (nlL (F.take k))) wr ∧ wr.ownsRow 0 9 1 (.slice B m dd) m (strs' F) ∧ Below w.heap.size w wr
def EnR (w : World) (F : List Int) (B : Option Addr) (m dd : Nat) (v i : Value) (wr : World) : Prop :=
  ∃ k : Nat, k ≤ m ∧ i = .int .i64 k ∧ wr.ownsRow w.heap.size 9 1 v k (strs' ((F.take k).map itoaB)) ∧ (k = 0 → v = .slice none 0 0) ∧ wr.ownsRow 0 3 1 (.slice B m dd) m (ints F) ∧ Below w.heap.size w wr
theorem builder_below {w w' : World} {B b : Nat} {bs : List Value} (h : Lib.IsBuilder 38 5 B b bs w) (hb : Below w.heap.size w w') : Lib.IsBuilder 38 5 B b bs w' := by
  have key : ∀ (addr : Value), Lib.BuilderAt 38 5 B b addr bs w → Lib.BuilderAt 38 5 B b addr bs w' := by
    rintro addr ⟨hB, v, hbk, hown, hne⟩
    have hlt : b < w.heap.size := by
      rcases Nat.lt_or_ge b w.heap.size with h' | h'
      · exact h'
      · simp [Array.getElem?_eq_none h'] at hbk
    refine ⟨hB, v, ?_, own_below hown hb, hne⟩
    rw [hb.block b hlt]
    exact hbk
  rcases h with h | h
  · exact .inl (key _ h)
  · exact .inr (key _ h)
theorem strs_next {F : List Int} {k : Nat} {e : Int} (h : F[k]? = some e) : strs' ((F.take k).map itoaB) ++ [.string (itoaB e)] = strs' ((F.take (k + 1)).map itoaB) := by
  rw [List.take_add_one, h]
  simp [strs']
/-- An append to a row of texts leaves a row of numbers as it was. -/
theorem own_app {w w' : World} {o : Obj} {a b n k : Nat} {v v' : Value} {xs ys : List Value} (h : w.ownsRow a 3 1 v n xs) (hv : w.ownsRow b 9 1 v' k ys) (hg : (w.alloc o).grownBy w' v'.ownBlock) : w'.ownsRow a 3 1 v n xs := by
  refine (h.alloc o).kept hg ?_
  rcases hv.2 with ⟨rfl, _⟩ | ⟨g, cap, cur, rfl, _, hh, _⟩
  · cases hb : v.ownBlock
    · exact .inl rfl
    · exact .inr (by simp [Value.ownBlock])
  · exact .inr (Lib.ownBlock_ne h hh (by decide))
set_option maxHeartbeats 8000000 in
set_option maxRecDepth 8000 in
theorem exec_fill (w : World) (g : Nat) (st : St) (x : ByteArray) (hS : SesAt 35 w g st) (hx : x.size ≤ 1048576) (hT : ∀ w1, Below w.heap.size w w1 → TB w1) (hA : AT w) (hM : ML w) (hx0 : x = baL tFill) :
    Calls Tryz.prog 15 #[.pointer (some ⟨g, 0, none⟩), .string x] w (Stepped 35 w g (sstep st x)) := by
  rw [show sstep st x = _ from (congrArg (sstep st) hx0).trans step_fill]
  have KO := Lib.hid hS.ok
  have HZ := Lib.hid (SesAt.words hS.ok)
  have T0 := Lib.hid hT
  have FT := Lib.hid (fun A' n' c' w2 (hr : Rd w2 1 A' n' (strs' st.ws)) (hn : n' ≤ 40) (hnc : n' ≤ c') => implFillText_any A' n' c' st.ws st.wd w2 hr (by omega) hnc HZ.out)
  unfold FtRes at FT
  have FS := Lib.hid (fillT_sizes st.ws st.wd)
  have NL := Lib.hid (fun k => nlL_len ((fillT st.ws st.wd).take k) (fun t ht => (fillT_sizes st.ws st.wd).2 t (List.mem_of_mem_take ht)))
  obtain ⟨F, hF⟩ : ∃ F, F = fillT st.ws st.wd := ⟨_, rfl⟩
  rw [← hF] at FT FS NL ⊢
  clear hF
  have S0 := Lib.hid hS
  have C1 := Lib.hid (fun w1 => cut_no x (⟨#[119, 111, 114, 100, 115, 32]⟩ : ByteArray) (by rw [hx0]; decide) w1)
  have C2 := Lib.hid (fun w1 => cut_no x (⟨#[119, 105, 100, 116, 104, 32]⟩ : ByteArray) (by rw [hx0]; decide) w1)
  have s1 := str_sameL hx0
  have q1 : (x.toList == (⟨#[102, 105, 108, 108]⟩ : ByteArray).toList) = true := str_same hx0
  unfold tFill at s1
  obtain ⟨A', n', c', k0, k1, kf0, kf1, hr, hnc, hn, hlen⟩ := S0.out.cells
  have RS := Lib.hid hr
  clear hr hx0 hS hT hA hM
  clear hlen
  have hgl := S0.out.lt
  have hbA : Below w.heap.size w (w.alloc (.cells #[.pointer none, .slice none 0 0] 38)) := (Below.refl _ _).alloc (Nat.le_refl _) _
  have ka0 := cell_below hbA k0
  have ka1 := cell_below hbA k1
  have RA := Lib.hid (RS.out.below hbA)
  have BA := Lib.hid hbA
  have BN := Lib.hid (builder_new w)
  clear hbA
  go_enter Tryz.func15, Tryz.ntmps15
  go_wp2_with fail
  refine (C1.out _).mono ?_
  rintro e w' ⟨rfl, rfl⟩
  go_wp2_with fail
  refine (C2.out _).mono ?_
  rintro e w' ⟨rfl, rfl⟩
  go_wp2_with fail
  go_region_held3 (fun w' => w'.cell? ⟨g, 0, none⟩ = some (.slice A' n' c') ∧ w'.cell? ⟨g, 1, none⟩ = some (.int .i64 st.wd)) (first | go_keep | exact ⟨cell_below BF.out ka0, cell_below BF.out ka1⟩)
    (first
    | (go_at_call 25; (refine (FT.out A' n' c' _ (RA.out.drewN 1) hn hnc).mono ?_); rintro e w3 ⟨B, m, dd, rfl, hof, hbf⟩; have BF := Lib.hid (drew_then hbf); have OF := Lib.hid hof; clear hof hbf))
  have B3 := Lib.hid (below_step BA.out BF.out)
  have N3 : Hid (Lib.IsBuilder 38 5 w.heap.size w.heap.size [] w3) := builder_below BN.out BF.out
  have hm : m ≤ 40 := by have := own_len OF.out; have := FS.out.1; omega
  have hsz3 := B3.out.size
  go_wp2_with fail
  go_loopw [51] (ExR w F B m dd w3.heap.size) (fun i _ => m - (intOf i).toNat)
  case atStart => exact ⟨0, Nat.zero_le _, rfl, N3.out, own_base OF.out (Nat.zero_le _), B3.out⟩
  case round =>
    obtain ⟨k, hk, rfl, hbu, hof, hb⟩ := hrel
    have N4 := Lib.hid hbu
    have O4 := Lib.hid hof
    have B4 := Lib.hid hb
    have hsz4 := hb.size
    clear hbu hof hb
    by_cases hlt : k < m
    · obtain ⟨b0, o0, t, rfl, et, hc⟩ := (Rd.own O4.out).str_at hlt
      have NC := Lib.hid (nl_cells F k t et)
      have ht := FS.out.2 t (List.mem_of_getElem? et)
      have hnl := NL.out k
      have htl : (F.take k).length ≤ 40 := by rw [List.length_take]; omega
      have r2 := sum_lit t (by omega)
      have hts : (t ++ nlT).size = t.size + 1 := sz_two t nlT
      clear et
      go_wp2_with fail
      refine (writeString_keeps w.heap.size w.heap.size (Lib.byteCells (nlL (F.take k))) (t ++ nlT) _ N4.out (by rw [Lib.byteCells_length]; omega) (by omega)).mono ?_
      rintro e w5 ⟨rfl, ⟨hbu, hb⟩, hkp⟩
      rw [NC.out] at hbu
      have N5 : Hid (Lib.IsBuilder 38 5 w.heap.size w.heap.size (Lib.byteCells (nlL (F.take (k + 1)))) w5) := .inr hbu
      have O5 := Lib.hid (hkp.own O4.out (by decide) (by decide))
      have B5 := Lib.hid (B4.out.trans hb)
      clear hbu hb hkp
      go_wp2_with fail
      go_roundw
      case rel => exact ⟨k + 1, by omega, by go_num, N5.out, O5.out, B5.out⟩
      case measure => simp [intOf] <;> omega
    · have hkm : F.take k = F := by
        have h1 : k = m := by omega
        have h2 := own_len OF.out
        rw [h1, ← h2]; exact List.take_length
      rw [hkm] at N4
      clear hkm
      have SB := Lib.hid (Tryz.Builder_String_any w.heap.size w.heap.size (nlL F) _ N4.out (by omega))
      go_wp2_with fail
      refine SB.out.mono ?_
      rintro e w5 ⟨rfl, hb⟩
      have B5 := Lib.hid (B4.out.trans hb)
      clear hb
      go_wp2_with fail
      go_ret
      exact ⟨rfl, S0.out.below B5.out, gr_of_below B5.out⟩
set_option maxHeartbeats 8000000 in
set_option maxRecDepth 8000 in
theorem exec_ends (w : World) (g : Nat) (st : St) (x : ByteArray) (hS : SesAt 35 w g st) (hx : x.size ≤ 1048576) (hT : ∀ w1, Below w.heap.size w w1 → TB w1) (hA : AT w) (hM : ML w) (hx0 : x = baL tEnds) :
    Calls Tryz.prog 15 #[.pointer (some ⟨g, 0, none⟩), .string x] w (Stepped 35 w g (sstep st x)) := by
  rw [show sstep st x = _ from (congrArg (sstep st) hx0).trans step_ends]
  have KO := Lib.hid hS.ok
  have HZ := Lib.hid (SesAt.words hS.ok)
  have T0 := Lib.hid hT
  have WE := Lib.hid (fun A' n' c' w2 (hr : Rd w2 1 A' n' (strs' st.ws)) (hn : n' ≤ 40) (hnc : n' ≤ c') => implWords_any A' n' c' st.ws st.wd w2 hr (by omega) hnc HZ.out)
  have E1 := Lib.hid (wEnds_len st.ws st.wd)
  have E2 := Lib.hid (wEnds_each (l := st.ws) (W := st.wd))
  obtain ⟨F, hF⟩ : ∃ F, F = wEnds st.ws st.wd := ⟨_, rfl⟩
  rw [← hF] at WE E1 E2 ⊢
  clear hF
  have r1 := sum_lit (numsB F) (by have := numsB_size E1.out E2.out; omega)
  have S0 := Lib.hid hS
  have C1 := Lib.hid (fun w1 => cut_no x (⟨#[119, 111, 114, 100, 115, 32]⟩ : ByteArray) (by rw [hx0]; decide) w1)
  have C2 := Lib.hid (fun w1 => cut_no x (⟨#[119, 105, 100, 116, 104, 32]⟩ : ByteArray) (by rw [hx0]; decide) w1)
  have hnF : ¬ x = baL tFill := by rw [hx0]; exact tx_ne (by decide)
  have s2 := str_otherL hnF
  have q2 : (x.toList == (⟨#[102, 105, 108, 108]⟩ : ByteArray).toList) = false := str_parts hnF
  unfold tFill at s2
  clear hnF
  have s3 := str_sameL hx0
  have q3 : (x.toList == (⟨#[101, 110, 100, 115]⟩ : ByteArray).toList) = true := str_same hx0
  unfold tEnds at s3
  obtain ⟨A', n', c', k0, k1, kf0, kf1, hr, hnc, hn, hlen⟩ := S0.out.cells
  have RS := Lib.hid hr
  clear hr hx0 hS hT hA hM
  clear hlen
  go_enter Tryz.func15, Tryz.ntmps15
  go_wp2_with fail
  refine (C1.out _).mono ?_
  rintro e w' ⟨rfl, rfl⟩
  go_wp2_with fail
  refine (C2.out _).mono ?_
  rintro e w' ⟨rfl, rfl⟩
  go_wp2_with fail
  go_region_held3 (fun w' => w'.cell? ⟨g, 0, none⟩ = some (.slice A' n' c') ∧ w'.cell? ⟨g, 1, none⟩ = some (.int .i64 st.wd)) (first | go_keep | exact ⟨cell_below BF.out k0, cell_below BF.out k1⟩)
    (first
    | (go_at_call 26; (refine (WE.out A' n' c' _ (RS.out.drewN 1) hn hnc).mono ?_); rintro e w3 ⟨B, m, dd, rfl, hof, hbf⟩; have BF := Lib.hid (drew_then hbf); have OF := Lib.hid hof; clear hof hbf))
  have hm : F.length = m := (Rd.own OF.out).len
  have hm40 : m ≤ 40 := by have := E1.out; omega
  have HM := Lib.hid hm
  clear hm
  have hsz3 := BF.out.size
  go_wp2_with fail
  go_loopw [12, 72] (EnR w F B m dd) (fun _ i _ => m - (intOf i).toNat)
  case atStart => exact ⟨0, Nat.zero_le _, rfl, World.ownsRow_nil _ _ _ _, fun _ => rfl, own_base OF.out (Nat.zero_le _), BF.out⟩
  case round =>
    obtain ⟨k, hk, rfl, hov, hv0, hof, hb⟩ := hrel
    have V4 := Lib.hid hov
    have O4 := Lib.hid hof
    have B4 := Lib.hid hb
    have hsz4 := hb.size
    clear hov hof hb
    by_cases hlt : k < m
    · clear hv0
      obtain ⟨b0, o0, x0, rfl, ex, hc⟩ := (Rd.own O4.out).int_at hlt
      have hx1 := E2.out x0 (List.mem_of_getElem? ex)
      have CF := Lib.hid (fun w2 h => writesImpl x0 w2 (by omega) (by omega) h)
      have NX := Lib.hid (strs_next ex)
      obtain ⟨T, hT⟩ : ∃ T, T = itoaB x0 := ⟨_, rfl⟩
      rw [← hT] at CF NX
      clear hT ex
      obtain ⟨VA, vc, hsh, hvc⟩ := own_shape V4.out
      subst hsh
      go_wp2_with fail
      refine (CF.out _ (T0.out _ B4.out)).mono ?_
      rintro e w5 ⟨rfl, hb⟩
      have V5 := Lib.hid (own_below V4.out hb)
      have O5 := Lib.hid (own_below O4.out hb)
      have B5 := Lib.hid (below_step B4.out hb)
      have hsz5 := B5.out.size
      clear hb
      go_wp2_with (at_builtin; refine app_lit elemStr rfl _ _ rfl V5.out _ _ [.string T] rfl rfl rfl (by simp [Value.oneCell']) (by omega) (by omega) ?_; intro v6 w6 ho6 hg6)
      rw [NX.out] at ho6
      have V6 := Lib.hid ho6
      have B6 := Lib.hid (below_app (B5.out.alloc hsz5 _) hg6 V5.out (Nat.le_refl _))
      have O6 := Lib.hid (own_app O5.out V5.out hg6)
      clear ho6 hg6
      go_wp2_with fail
      go_roundw
      case rel => exact ⟨k + 1, by omega, by go_num, V6.out, fun h => by omega, O6.out, B6.out⟩
      case measure => simp [intOf] <;> omega
    · have hkm : k = m := by omega
      have hF : (F.take k).map itoaB = F.map itoaB := by rw [hkm, ← HM.out, List.take_length]
      rw [hF] at V4
      clear hF
      by_cases hk0 : k = 0
      · have hv1 := hv0 hk0
        subst hk0
        subst hv1
        have hF0 : F = [] := List.eq_nil_of_length_eq_zero (by rw [HM.out]; omega)
        subst hF0
        have JN := Lib.hid (fun w2 => Tryz.strings_Join_none none 0 ⟨#[32]⟩ w2)
        have e0 := nums_nil
        rw [e0] at r1
        clear e0
        have hm0 : m ≤ 0 := by omega
        clear hkm
        go_wp2_with fail
        refine (JN.out _).mono ?_
        rintro e w' ⟨rfl, rfl⟩
        go_wp2_with fail
        go_ret
        exact ⟨congrArg (fun z => Ending.returned (Value.string (z ++ nlT))) nums_nil.symm, S0.out.below B4.out, gr_of_below B4.out⟩
      · clear hv0
        obtain ⟨VA, vc, hsh, hvc⟩ := own_shape V4.out
        subst hsh
        have RV := Rd.own V4.out
        obtain ⟨bv, ov, rfl, hcv⟩ := RV.2 (by omega)
        have hbv : bv < _ := (by
      rcases V4.out.2 with ⟨h, _⟩ | ⟨g', cap, cur, h, _, hh, _⟩
      · cases h
      · injection h with h; injection h with h; injection h with h; subst h; exact (Array.getElem?_eq_some_iff.1 hh).1)
        have CJ := Lib.hid (join_any bv ov vc k F wr hcv hbv (by rw [HM.out, hkm]) (by omega) hvc E2.out)
        clear hcv RV hkm
        go_wp2_with fail
        refine CJ.out.mono ?_
        rintro e w5 ⟨rfl, hb⟩
        have B5 := Lib.hid (below_step B4.out hb)
        clear hb
        go_wp2_with fail
        go_ret
        exact ⟨rfl, S0.out.below B5.out, gr_of_below B5.out⟩
set_option maxHeartbeats 8000000 in
set_option maxRecDepth 8000 in
theorem exec_cost (w : World) (g : Nat) (st : St) (x : ByteArray) (hS : SesAt 35 w g st) (hx : x.size ≤ 1048576) (hT : ∀ w1, Below w.heap.size w w1 → TB w1) (hA : AT w) (hM : ML w) (hx0 : x = baL tCost) :
    Calls Tryz.prog 15 #[.pointer (some ⟨g, 0, none⟩), .string x] w (Stepped 35 w g (sstep st x)) := by
  rw [show sstep st x = _ from (congrArg (sstep st) hx0).trans step_cost]
  have KO := Lib.hid hS.ok
  have HZ := Lib.hid (SesAt.words hS.ok)
  have T0 := Lib.hid hT
  have WE := Lib.hid (fun A' n' c' w2 (hr : Rd w2 1 A' n' (strs' st.ws)) (hn : n' ≤ 40) (hnc : n' ≤ c') => implWords_any A' n' c' st.ws st.wd w2 hr (by omega) hnc HZ.out)
  have E1 := Lib.hid (wEnds_len st.ws st.wd)
  have CB := Lib.hid (costN_bound KO.out)
  have HC : Hid (costN st = (wCost st.ws st.wd (wEnds st.ws st.wd)).1) := rfl
  obtain ⟨F, hF⟩ : ∃ F, F = wEnds st.ws st.wd := ⟨_, rfl⟩
  have WC := Lib.hid (fun A' n' c' w2 B k dd (hr : Rd w2 1 A' n' (strs' st.ws)) (hn : n' ≤ 40) (hnc : n' ≤ c') (hy : Rd w2 1 B k (ints F)) (hk : k ≤ 40) => implCost_any A' n' c' st.ws st.wd B k dd F w2 hr hy (by omega) (by omega) hnc HZ.out)
  rw [← hF] at WE E1 HC
  rw [← HC.out] at WC
  obtain ⟨N, hN⟩ : ∃ N, N = costN st := ⟨_, rfl⟩
  rw [← hN] at WC CB ⊢
  clear hF hN HC
  obtain ⟨bb, hbb⟩ : ∃ bb, bb = (wCost st.ws st.wd F).2 := ⟨_, rfl⟩
  rw [← hbb] at WC
  clear hbb
  have CF := Lib.hid (fun w2 h => writesImpl N w2 (by have := CB.out; omega) (by have := CB.out; omega) h)
  have r1 := sum_lit (itoaB N) (by have := itoa_long (n := N) (by have := CB.out; omega) (by have := CB.out; omega); omega)
  have S0 := Lib.hid hS
  have C1 := Lib.hid (fun w1 => cut_no x (⟨#[119, 111, 114, 100, 115, 32]⟩ : ByteArray) (by rw [hx0]; decide) w1)
  have C2 := Lib.hid (fun w1 => cut_no x (⟨#[119, 105, 100, 116, 104, 32]⟩ : ByteArray) (by rw [hx0]; decide) w1)
  have hnF : ¬ x = baL tFill := by rw [hx0]; exact tx_ne (by decide)
  have s4 := str_otherL hnF
  have q4 : (x.toList == (⟨#[102, 105, 108, 108]⟩ : ByteArray).toList) = false := str_parts hnF
  unfold tFill at s4
  clear hnF
  have hnE : ¬ x = baL tEnds := by rw [hx0]; exact tx_ne (by decide)
  have s5 := str_otherL hnE
  have q5 : (x.toList == (⟨#[101, 110, 100, 115]⟩ : ByteArray).toList) = false := str_parts hnE
  unfold tEnds at s5
  clear hnE
  have s6 := str_sameL hx0
  have q6 : (x.toList == (⟨#[99, 111, 115, 116]⟩ : ByteArray).toList) = true := str_same hx0
  unfold tCost at s6
  obtain ⟨A', n', c', k0, k1, kf0, kf1, hr, hnc, hn, hlen⟩ := S0.out.cells
  have RS := Lib.hid hr
  clear hr hx0 hS hT hA hM
  clear hlen
  go_enter Tryz.func15, Tryz.ntmps15
  go_wp2_with fail
  refine (C1.out _).mono ?_
  rintro e w' ⟨rfl, rfl⟩
  go_wp2_with fail
  refine (C2.out _).mono ?_
  rintro e w' ⟨rfl, rfl⟩
  go_wp2_with fail
  go_region_held3 (fun w' => w'.cell? ⟨g, 0, none⟩ = some (.slice A' n' c') ∧ w'.cell? ⟨g, 1, none⟩ = some (.int .i64 st.wd)) (first | go_keep | exact ⟨cell_below BF.out k0, cell_below BF.out k1⟩)
    (first
    | (go_at_call 26; (refine (WE.out A' n' c' _ (RS.out.drewN 1) hn hnc).mono ?_); rintro e w3 ⟨B, k, dd, rfl, hof, hbf⟩; have BF := Lib.hid (drew_then hbf); have OF := Lib.hid hof; clear hof hbf)
    | (go_at_call 29; (refine (WC.out A' n' c' w3 B k dd (RS.out.below BF.out) hn hnc (Rd.own OF.out) (by have := (Rd.own OF.out).len; have := E1.out; omega)).mono ?_); rintro e w4 ⟨rfl, q4, rfl⟩))
  have B4 := Lib.hid (below_drewN' BF.out q4)
  go_wp2_with fail
  refine (CF.out _ (T0.out _ B4.out)).mono ?_
  rintro e w5 ⟨rfl, hb5⟩
  have B5 := Lib.hid (below_step B4.out hb5)
  clear hb5
  go_wp2_with fail
  go_ret
  exact ⟨rfl, S0.out.below B5.out, gr_of_below B5.out⟩
set_option maxHeartbeats 8000000 in
set_option maxRecDepth 8000 in
theorem exec_count (w : World) (g : Nat) (st : St) (x : ByteArray) (hS : SesAt 35 w g st) (hx : x.size ≤ 1048576) (hT : ∀ w1, Below w.heap.size w w1 → TB w1) (hA : AT w) (hM : ML w) (hx0 : x = baL tCount) :
    Calls Tryz.prog 15 #[.pointer (some ⟨g, 0, none⟩), .string x] w (Stepped 35 w g (sstep st x)) := by
  rw [show sstep st x = _ from (congrArg (sstep st) hx0).trans step_count]
  have KO := Lib.hid hS.ok
  have HZ := Lib.hid (SesAt.words hS.ok)
  have T0 := Lib.hid hT
  have hwl := (vWrap_words KO.out).1
  have CF := Lib.hid (fun w2 h => writesImpl (st.ws.length : Int) w2 (by omega) (by omega) h)
  obtain ⟨N, hN⟩ : ∃ N, N = st.ws.length := ⟨_, rfl⟩
  rw [← hN] at CF hwl ⊢
  have HN := Lib.hid hN
  clear hN
  have r1 := sum_lit (itoaB (N : Int)) (by have := itoa_long (n := (N : Int)) (by omega) (by omega); omega)
  have S0 := Lib.hid hS
  have C1 := Lib.hid (fun w1 => cut_no x (⟨#[119, 111, 114, 100, 115, 32]⟩ : ByteArray) (by rw [hx0]; decide) w1)
  have C2 := Lib.hid (fun w1 => cut_no x (⟨#[119, 105, 100, 116, 104, 32]⟩ : ByteArray) (by rw [hx0]; decide) w1)
  have hnF : ¬ x = baL tFill := by rw [hx0]; exact tx_ne (by decide)
  have s7 := str_otherL hnF
  have q7 : (x.toList == (⟨#[102, 105, 108, 108]⟩ : ByteArray).toList) = false := str_parts hnF
  unfold tFill at s7
  clear hnF
  have hnE : ¬ x = baL tEnds := by rw [hx0]; exact tx_ne (by decide)
  have s8 := str_otherL hnE
  have q8 : (x.toList == (⟨#[101, 110, 100, 115]⟩ : ByteArray).toList) = false := str_parts hnE
  unfold tEnds at s8
  clear hnE
  have hnC : ¬ x = baL tCost := by rw [hx0]; exact tx_ne (by decide)
  have s9 := str_otherL hnC
  have q9 : (x.toList == (⟨#[99, 111, 115, 116]⟩ : ByteArray).toList) = false := str_parts hnC
  unfold tCost at s9
  clear hnC
  have s10 := str_sameL hx0
  have q10 : (x.toList == (⟨#[99, 111, 117, 110, 116]⟩ : ByteArray).toList) = true := str_same hx0
  unfold tCount at s10
  obtain ⟨A', n', c', k0, k1, kf0, kf1, hr, hnc, hn, hlen⟩ := S0.out.cells
  have RS := Lib.hid hr
  clear hr hx0 hS hT hA hM
  rw [← HN.out] at hlen
  subst hlen
  go_enter Tryz.func15, Tryz.ntmps15
  go_wp2_with fail
  refine (C1.out _).mono ?_
  rintro e w' ⟨rfl, rfl⟩
  go_wp2_with fail
  refine (C2.out _).mono ?_
  rintro e w' ⟨rfl, rfl⟩
  go_wp2_with fail
  refine (CF.out _ (T0.out _ (Below.refl _ _))).mono ?_
  rintro e w5 ⟨rfl, hb5⟩
  have B5 := Lib.hid hb5
  clear hb5
  go_wp2_with fail
  go_ret
  exact ⟨rfl, S0.out.below B5.out, gr_of_below B5.out⟩
set_option maxHeartbeats 4000000 in
set_option maxRecDepth 8000 in
theorem exec_what (w : World) (g : Nat) (st : St) (x : ByteArray) (hS : SesAt 35 w g st) (hx : x.size ≤ 1048576) (hT : ∀ w1, Below w.heap.size w w1 → TB w1) (hA : AT w) (hM : ML w) (h1 : isW x = false) (h2 : isN x = false) (h3 : ¬ x = baL tFill) (h4 : ¬ x = baL tEnds) (h5 : ¬ x = baL tCost) (h6 : ¬ x = baL tCount) :
    Calls Tryz.prog 15 #[.pointer (some ⟨g, 0, none⟩), .string x] w (Stepped 35 w g (sstep st x)) := by
  rw [step_what h1 h2 h3 h4 h5 h6]
  have S0 := Lib.hid hS
  have C1 := Lib.hid (fun w1 => cut_no x (⟨#[119, 111, 114, 100, 115, 32]⟩ : ByteArray) h1 w1)
  have C2 := Lib.hid (fun w1 => cut_no x (⟨#[119, 105, 100, 116, 104, 32]⟩ : ByteArray) h2 w1)
  have s11 := str_otherL h3
  have q11 : (x.toList == (⟨#[102, 105, 108, 108]⟩ : ByteArray).toList) = false := str_parts h3
  unfold tFill at s11
  clear h3
  have s12 := str_otherL h4
  have q12 : (x.toList == (⟨#[101, 110, 100, 115]⟩ : ByteArray).toList) = false := str_parts h4
  unfold tEnds at s12
  clear h4
  have s13 := str_otherL h5
  have q13 : (x.toList == (⟨#[99, 111, 115, 116]⟩ : ByteArray).toList) = false := str_parts h5
  unfold tCost at s13
  clear h5
  have s14 := str_otherL h6
  have q14 : (x.toList == (⟨#[99, 111, 117, 110, 116]⟩ : ByteArray).toList) = false := str_parts h6
  unfold tCount at s14
  clear h6
  clear h1 h2 hS hT hA hM
  go_enter Tryz.func15, Tryz.ntmps15
  go_wp2_with fail
  refine (C1.out _).mono ?_
  rintro e w' ⟨rfl, rfl⟩
  go_wp2_with fail
  refine (C2.out _).mono ?_
  rintro e w' ⟨rfl, rfl⟩
  go_wp2_with fail
  go_ret
  exact ⟨rfl, S0.out, World.grownBy.refl _ _⟩

theorem execute_any (w : World) (g : Nat) (st : St) (x : ByteArray) (hS : SesAt 35 w g st) (hx : x.size ≤ 1048576) (hT : ∀ w1, Below w.heap.size w w1 → TB w1) (hA : AT w) (hM : ML w) :
    Calls Tryz.prog 15 #[.pointer (some ⟨g, 0, none⟩), .string x] w (Stepped 35 w g (sstep st x)) := by
  cases h1 : isW x
  · cases h2 : isN x
    · by_cases h3 : x = baL tFill
      · exact exec_fill w g st x hS hx hT hA hM h3
      by_cases h4 : x = baL tEnds
      · exact exec_ends w g st x hS hx hT hA hM h4
      by_cases h5 : x = baL tCost
      · exact exec_cost w g st x hS hx hT hA hM h5
      by_cases h6 : x = baL tCount
      · exact exec_count w g st x hS hx hT hA hM h6
      exact exec_what w g st x hS hx hT hA hM h1 h2 h3 h4 h5 h6
    · exact exec_width w g st x hS hx hT hA hM h1 h2
  · exact exec_words w g st x hS hx hT hA hM h1
end Go.Proofs.YtmljofijeladoaaGreatDoor
