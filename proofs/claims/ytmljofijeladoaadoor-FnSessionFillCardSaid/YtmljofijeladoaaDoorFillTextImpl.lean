/-
  Contract of the program's FillText.
-/
import Derived.Test.YtmljofijeladoaaDoorFillText
import Derived.Test.YtmljofijeladoaaDoorShelf
import Derived.Lib.Join
namespace Go.Proofs.YtmljofijeladoaaDoor
open Go.RowKit
set_option linter.unusedVariables false

theorem jfold_tail : ∀ (xs : List ByteArray) (st : Nat × ByteArray), 0 < st.1 → (xs.foldl jstep st).2.data.toList = st.2.data.toList ++ Lib.joinTail [32] (xs.map (·.data.toList))
  | [], st, _ => by simp [Lib.joinTail]
  | x :: xs, st, h => by
    rw [List.foldl_cons, jfold_tail xs (jstep st x) (by unfold jstep; simp)]
    unfold jstep
    simp only [if_pos h]
    rw [ByteArray.data_append, ByteArray.data_append, Array.toList_append, Array.toList_append]
    simp [Lib.joinTail]
theorem jw_join (xs : List ByteArray) : (jw xs).data.toList = Lib.join (xs.map (·.data.toList)) [32] := by
  cases xs with
  | nil => rfl
  | cons x xs =>
    rw [List.map_cons, Lib.join_cons]
    unfold jw jfold
    rw [List.foldl_cons, jfold_tail xs (jstep (0, ⟨#[]⟩) x) (by unfold jstep; simp)]
    unfold jstep
    simp [ByteArray.data_append]
theorem jw_join' (xs : List ByteArray) : (⟨(Lib.join (xs.map (·.data.toList)) [32]).toArray⟩ : ByteArray) = jw xs := by
  rw [← jw_join]

def FtRelI (l : List ByteArray) (wd : Int) (w : World) (B : Option Addr) (d : Nat) (es : List Nat) (i v f : Value) (wr : World) : Prop :=
  ∃ (k fr m : Nat) (ys : List ByteArray), k ≤ es.length ∧ i = .int .i64 (k : Int) ∧ f = .int .i64 (fr : Int) ∧ m = k ∧ fr ≤ l.length ∧ (es.drop k = [] ∨ (vWrap l wd = true ∧ okE (sizes l) wd fr (es.drop k))) ∧ ftL l wd 0 es = ys ++ ftL l wd fr (es.drop k) ∧
    wr.ownsRow w.heap.size 9 1 v m (strs' ys) ∧ Below w.heap.size w wr ∧ wr.ownsRow w.heap.size 3 1 (.slice B es.length d) es.length (ints (es.map fun x : Nat => (x : Int)))

set_option maxHeartbeats 8000000 in
theorem implFillText_any (A : Option Addr) (n c : Nat) (l : List ByteArray) (wd : Int) (w : World) (hx : Rd w 1 A n (strs' l)) (hn : n ≤ 1048576) (hnc : n ≤ c) (hz : ∀ s ∈ l, s.size ≤ 9223372036854775807) :
    Calls Tryd.prog 6 #[.slice A n c, .int .i64 wd] w (FtRes l wd w) := by
  have C1 := Lib.hid (implWords_any A n c l wd w hx hn hnc hz)
  have HX := Lib.hid hx
  have HL := Lib.hid hx.slen
  have Z := Lib.hid hz
  clear hx hz
  obtain ⟨es, he1, he2, he3, hel⟩ : ∃ es : List Nat, wEnds l wd = es.map (fun x : Nat => (x : Int)) ∧ fillT l wd = ftL l wd 0 es ∧ (es = [] ∨ (vWrap l wd = true ∧ okE (sizes l) wd 0 es)) ∧ es.length ≤ 40 := by
    have hlen := wEnds_len l wd
    by_cases hv : vWrap l wd = true
    · refine ⟨wends (sizes l) wd, wEnds_good hv, if_pos hv, .inr ⟨hv, okE_wends hv⟩, ?_⟩
      rw [wEnds_good hv, List.length_map] at hlen
      exact hlen
    · refine ⟨[], ?_, ?_, .inl rfl, by simp⟩
      · unfold wEnds; rw [if_neg hv]; rfl
      · unfold fillT; rw [if_neg hv]; rfl
  rw [he1] at C1
  have HFT := Lib.hid he2
  have HOK := Lib.hid he3
  clear he1 he2 he3
  go_enter Tryd.func6, Tryd.ntmps6
  go_wp2_with fail
  refine C1.out.mono ?_
  rintro e w1 ⟨B, k0, d, rfl, ho, hb⟩
  have hk0 : k0 = es.length := by have h := (Rd.own ho).len; rw [← h]; simp
  subst hk0
  have SO1 := Lib.hid ho
  have B1 := Lib.hid hb
  clear ho hb C1
  go_wp2_with fail
  go_loopw [13, 5, 6] (FtRelI l wd w B d es) (fun i _ _ _ => es.length - (intOf i).toNat)
  case atStart => exact ⟨0, 0, 0, [], Nat.zero_le _, rfl, rfl, rfl, Nat.zero_le _, HOK.out, rfl, World.ownsRow_nil _ _ _ _, B1.out, SO1.out⟩
  case round =>
    clear B1 SO1
    obtain ⟨k, fr, m, ys, hk, rfl, rfl, hmk, hfr, hok, hft, hown, hbel, hso⟩ := hrel
    subst hmk
    obtain ⟨L5, d5, e5, hd5⟩ := own_shape hown
    subst e5
    have O3 := Lib.hid hown
    have B3 := Lib.hid hbel
    have SO := Lib.hid hso
    have FT := Lib.hid hft
    clear hown hbel hso hft
    by_cases hlt : m < es.length
    case neg =>
      obtain rfl : m = es.length := by omega
      have HF : Hid (fillT l wd = ys) := by
        show fillT l wd = ys
        rw [HFT.out, FT.out, List.drop_of_length_le (Nat.le_refl _), ftL, List.append_nil]
      clear hok
      go_wp2_with fail
      go_ret
      exact ⟨L5, _, d5, rfl, by rw [HF.out]; exact O3.out, B3.out⟩
    have hes : es[m]? = some (es[m]'hlt) := List.getElem?_eq_getElem _
    obtain ⟨e, ee⟩ : ∃ e, es[m]? = some e := ⟨_, hes⟩
    rw [drop_of_get ee] at hok
    obtain ⟨hv, hok⟩ : vWrap l wd = true ∧ okE (sizes l) wd fr (e :: es.drop (m + 1)) := by
      rcases hok with h | h
      · cases h
      · exact h
    have HV := Lib.hid hv
    obtain ⟨h1, h2, h3, h4, _⟩ := ft_next hok
    have HFT2 : Hid (ftL l wd 0 es = ys ++ ftL l wd fr (e :: es.drop (m + 1))) := by show _ = _; rw [FT.out, drop_of_get ee]
    have OK2 := Lib.hid h4
    have HSG := Lib.hid (fillL_seg hv h1 h2 h3)
    have hls := wseg_length (i := fr) h2
    rw [HL.out] at h2 hfr
    obtain ⟨b, o, rfl, _⟩ := HX.out.2 (by omega)
    have RS := Lib.hid ((HX.out.slice (Nat.le_of_lt h1) h2).below B3.out)
    obtain ⟨g, o2, x, rfl, ex, hcx⟩ := (Rd.own SO.out).int_at hlt
    rw [List.getElem?_map, ee] at ex
    injection ex with ex
    subst ex
    have hne : (fr : Int) ≤ (e : Int) := by omega
    have hec : (e : Int) ≤ (c : Int) := by omega
    have hfr0 : (0 : Int) ≤ (fr : Int) := by omega
    have hme : (m : Int) < (es.length : Int) := by omega
    have hcf : ¬ c = fr := by omega
    have hsz2 : ∀ s ∈ wseg l fr e, s.size ≤ 9223372036854775807 := fun s hs => Z.out s (List.mem_of_mem_drop (List.mem_of_mem_take hs))
    by_cases hen : e < n
    case pos =>
      have hen' : (e : Int) < (n : Int) := by omega
      have CF := Lib.hid (implFill_any (some ⟨b, o + fr, none⟩) (e - fr) (c - fr) (wseg l fr e) wd wr RS.out (by omega) hsz2)
      rw [HSG.out] at CF
      have H6 : Hid ((if e < l.length then fillW (wseg l fr e) wd else jw (wseg l fr e)) = fillW (wseg l fr e) wd) := if_pos (by rw [HL.out]; exact hen)
      obtain ⟨F, hF⟩ : ∃ F, F = (if e < l.length then fillW (wseg l fr e) wd else jw (wseg l fr e)) := ⟨_, rfl⟩
      rw [← H6.out, ← hF] at CF
      replace H6 := Lib.hid hF.symm
      clear hF ee hok h1 h3 h4 hls HSG hv hsz2 hes
      go_wp2_with fail
      refine CF.out.mono ?_
      rintro e1 w3 ⟨rfl, hb⟩
      have O3b := Lib.hid (own_below O3.out hb)
      have SOb := Lib.hid (own_below SO.out hb)
      have B3b := Lib.hid (B3.out.trans (hb.mono B3.out.size))
      have hszq := B3b.out.size
      clear hb CF
      go_wp2_with (at_builtin; refine app_lit elemStr rfl _ _ rfl O3b.out _ _ [.string F] rfl rfl rfl (by simp [Value.oneCell']) (by omega) hszq ?_; intro v2 w2 ho hg; have O4 := Lib.hid ho; have B4 := Lib.hid (below_app (B3b.out.alloc hszq _) hg O3b.out (Nat.le_refl _)); have SO4 := Lib.hid (own_types O3b.out SOb.out (by decide) _ hg); clear ho hg)
      go_roundw
      case rel => exact ⟨m + 1, e, m + 1, ys ++ [F], by omega, by go_num, rfl, rfl, by rw [HL.out]; omega, .inr ⟨HV.out, OK2.out⟩, by rw [HFT2.out, ftL, H6.out]; simp, by simpa [strs'] using O4.out, B4.out, SO4.out⟩
      case measure => simp [intOf] <;> omega
    have hen' : ¬ (e : Int) < (n : Int) := by omega
    have hsz20 := (vWrap_words hv).2.1
    have H6 : Hid ((if e < l.length then fillW (wseg l fr e) wd else jw (wseg l fr e)) = jw (wseg l fr e)) := if_neg (by rw [HL.out]; exact hen)
    have hjb : (jw (wseg l fr e)).size ≤ 2000 := jw_bound (n := 40) (by rw [hls]; have := (vWrap_words hv).1; rw [HL.out] at this; omega) (fun s hs => by have := hsz20 s (List.mem_of_mem_drop (List.mem_of_mem_take hs)); omega) (by omega)
    have hj0 := Tryd.strings_Join b (o + fr) (c - fr) (wseg l fr e) ⟨#[32]⟩ wr (fun j x hx => by
      obtain ⟨b2, o3, e3, hc3⟩ := RS.out.2 (by omega)
      injection e3 with e3
      injection e3 with e3 e4
      subst e3; subst e4
      have hjl := (List.getElem?_eq_some_iff.1 hx).1
      rw [hc3 j (by rw [hls] at hjl; omega)]
      unfold strs'
      rw [List.getElem?_map]
      show Option.map Value.string ((wseg l fr e)[j]?) = _
      rw [hx]; rfl) (by
      obtain ⟨b2, o3, e3, hc3⟩ := RS.out.2 (by omega)
      injection e3 with e3
      injection e3 with e3 e4
      subst e3; subst e4
      have h9 := hc3 0 (by omega)
      rw [List.getElem?_eq_getElem (by rw [RS.out.1]; omega)] at h9
      exact World.block_lt_of_cell? wr _ h9) (by omega) (by omega) (by
      have h10 := jw_join (wseg l fr e)
      have h11 : (jw (wseg l fr e)).data.toList.length = (jw (wseg l fr e)).size := by simp
      show (Lib.join ((wseg l fr e).map (·.data.toList)) [32]).length ≤ _
      rw [← h10, h11]
      omega)
    rw [hls] at hj0
    have CF := Lib.hid hj0
    have HJ := jw_join' (wseg l fr e)
    obtain ⟨F, hF⟩ : ∃ F, F = jw (wseg l fr e) := ⟨_, rfl⟩
    rw [← hF] at HJ
    replace H6 := Lib.hid (H6.out.trans hF.symm)
    have CF2 : Hid (Calls Tryd.prog 18 #[.slice (some ⟨b, o + fr, none⟩) (e - fr) (c - fr), .string ⟨#[32]⟩] wr fun e w' => e = .returned (.string F) ∧ Below wr.heap.size wr w') := by
      have h := CF.out
      rw [← HJ]
      exact h
    clear CF hj0 HJ hF hjb ee hok h1 h3 h4 hls HSG hv hsz2 hes hsz20
    have CF := CF2
    go_wp2_with fail
    refine CF.out.mono ?_
    rintro e1 w3 ⟨rfl, hb⟩
    have O3b := Lib.hid (own_below O3.out hb)
    have SOb := Lib.hid (own_below SO.out hb)
    have B3b := Lib.hid (B3.out.trans (hb.mono B3.out.size))
    have hszq := B3b.out.size
    clear hb CF
    go_wp2_with (at_builtin; refine app_lit elemStr rfl _ _ rfl O3b.out _ _ [.string F] rfl rfl rfl (by simp [Value.oneCell']) (by omega) hszq ?_; intro v2 w2 ho hg; have O4 := Lib.hid ho; have B4 := Lib.hid (below_app (B3b.out.alloc hszq _) hg O3b.out (Nat.le_refl _)); have SO4 := Lib.hid (own_types O3b.out SOb.out (by decide) _ hg); clear ho hg)
    go_roundw
    case rel => exact ⟨m + 1, e, m + 1, ys ++ [F], by omega, by go_num, rfl, rfl, by rw [HL.out]; omega, .inr ⟨HV.out, OK2.out⟩, by rw [HFT2.out, ftL, H6.out]; simp, by simpa [strs'] using O4.out, B4.out, SO4.out⟩
    case measure => simp [intOf] <;> omega
end Go.Proofs.YtmljofijeladoaaDoor
