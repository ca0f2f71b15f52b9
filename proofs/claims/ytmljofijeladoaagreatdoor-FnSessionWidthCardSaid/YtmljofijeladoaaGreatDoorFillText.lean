/-
  Contracts of FillText, the program's and the reference's (the reference's under way).
-/
import Derived.Test.YtmljofijeladoaaGreatDoorFillTextPlain
import Derived.Test.YtmljofijeladoaaGreatDoorFillImpl
import Derived.Test.YtmljofijeladoaaGreatDoorWrapWords
import Derived.Test.YtmljofijeladoaaGreatDoorWrapEnds
namespace Go.Proofs.YtmljofijeladoaaGreatDoor
open Go.RowKit
set_option linter.unusedVariables false

theorem own_types {w w' : World} {base n base2 n2 : Nat} {v v2 : Value} {xs xs2 : List Value} {E E2 : TypeId} (ho : w.ownsRow base E 1 v n xs) (h2 : w.ownsRow base2 E2 1 v2 n2 xs2) (hE : E2 ≠ E) (o : Obj)
    (hg : (w.alloc o).grownBy w' v.ownBlock) : w'.ownsRow base2 E2 1 v2 n2 xs2 := by
  refine (h2.alloc o).kept hg ?_
  rcases h2.2 with ⟨hv, _⟩ | ⟨g, cap, cur, hv, _, hh, _⟩
  · left; rw [hv]; rfl
  · right
    rw [hv]
    exact fun e => Lib.ownBlock_ne ho hh hE e.symm
def FtRes (l : List ByteArray) (wd : Int) (w : World) (e : Ending) (w' : World) : Prop :=
  ∃ B k d, e = .returned (.slice B k d) ∧ w'.ownsRow w.heap.size 9 1 (.slice B k d) k (strs' (fillT l wd)) ∧ Below w.heap.size w w'
theorem FtRes.no {l : List ByteArray} {wd : Int} {w w' : World} (h : ¬ vWrap l wd = true) (hb : Below w.heap.size w w') : FtRes l wd w (.returned (.slice none 0 0)) w' := by
  have e : fillT l wd = [] := if_neg h
  exact ⟨none, 0, 0, rfl, by rw [e]; exact World.ownsRow_nil _ _ _ _, hb⟩
/-- The reference's loop: the lines up to end k are made. -/
def FtRel (l : List ByteArray) (wd : Int) (w : World) (B : Option Addr) (d : Nat) (es : List Nat) (v f i : Value) (wr : World) : Prop :=
  ∃ (k fr m : Nat) (ys : List ByteArray), k ≤ es.length ∧ i = .int .i64 (k : Int) ∧ f = .int .i64 (fr : Int) ∧ m = k ∧ fr ≤ l.length ∧ okE (sizes l) wd fr (es.drop k) ∧ ftL l wd 0 es = ys ++ ftL l wd fr (es.drop k) ∧
    wr.ownsRow w.heap.size 9 1 v m (strs' ys) ∧ Below w.heap.size w wr ∧ wr.ownsRow w.heap.size 3 1 (.slice B es.length d) es.length (ints (es.map fun x : Nat => (x : Int)))
theorem ft_next {l : List ByteArray} {wd : Int} {fr e : Nat} {es : List Nat} (h : okE (sizes l) wd fr (e :: es)) : fr < e ∧ e ≤ l.length ∧ 0 ≤ wrest (sizes l) wd fr e ∧ okE (sizes l) wd e es ∧
    (if e < l.length then fillW (wseg l fr e) wd else jw (wseg l fr e)) = fillW (wseg l fr e) (if es = [] then lineLen (sizes (wseg l fr e)) else wd) := by
  have h2 := okE_last h
  obtain ⟨a1, a2, a3, a4⟩ := h
  rw [sizes_length] at a2 h2
  refine ⟨a1, a2, a3, a4, ?_⟩
  by_cases he : es = []
  · rw [if_pos he, if_neg (by have := h2.1 he; omega), fillW_line (by rw [wseg_length a2]; omega)]
  · rw [if_neg he, if_pos (by
      rcases Nat.lt_or_ge e l.length with h3 | h3
      · exact h3
      · exact absurd (h2.2 (by omega)) he)]

theorem ends_cell {w : World} {base d g o2 m e : Nat} {es : List Nat} (h : w.ownsRow base 3 1 (.slice (some ⟨g, o2, none⟩) es.length d) es.length (ints (es.map fun x : Nat => (x : Int)))) (hm : m < es.length) (he : es[m]? = some e) :
    w.cell? ⟨g, o2 + m, none⟩ = some (.int .i64 (e : Int)) := by
  obtain ⟨g', o', x, e1, ex, hc⟩ := (Rd.own h).int_at hm
  injection e1 with e1
  injection e1 with e1 e2
  subst e1; subst e2
  rw [List.getElem?_map, he] at ex
  injection ex with ex
  rw [hc, ← ex]
set_option maxHeartbeats 8000000 in
theorem specFillText_any (A : Option Addr) (n c : Nat) (l : List ByteArray) (wd : Int) (w : World) (hx : Rd w 1 A n (strs' l)) (hn : n ≤ 1048576) (hnc : n ≤ c) (hz : ∀ s ∈ l, s.size ≤ 9223372036854775807) :
    Calls Tryz.prog 34 #[.slice A n c, .int .i64 wd] w (FtRes l wd w) := by
  have BA := Lib.hid ((Below.refl w.heap.size w).alloc (Nat.le_refl _) (.cells #[] 9))
  have ON : Hid ((w.alloc (.cells #[] 9)).ownsRow w.heap.size 9 1 (.slice (some ⟨w.heap.size, 0, none⟩) 0 0) 0 (strs' [])) :=
    ⟨by simp [strs'], .inr ⟨w.heap.size, 0, #[], rfl, Nat.le_refl _, heap_alloc_new w _, Nat.le_refl _, by unfold maxLen; omega, rfl, rfl⟩⟩
  have X1 := Lib.hid (hx.below BA.out)
  have C1 := Lib.hid (specWords_any A n c l _ X1.out hn hz)
  have HL := Lib.hid hx.slen
  have HX := Lib.hid hx
  clear hx
  cases hv : vWords l
  · rw [hv] at C1
    have HE : Hid (¬ vWrap l wd = true) := fun h => by rw [vWrap_parts, hv] at h; exact absurd h.1 (by simp)
    clear hv hz
    go_enter Tryz.func34, Tryz.ntmps34
    go_wp2_with fail
    refine C1.out.mono ?_
    rintro e w' ⟨rfl, rfl⟩
    go_wp2_with fail
    go_ret
    exact FtRes.no HE.out BA.out
  rw [hv] at C1
  cases hb : inB 20 60 wd
  · have HB := Lib.hid hb
    have HE : Hid (¬ vWrap l wd = true) := fun h => by rw [vWrap_parts, hb] at h; exact absurd h.2 (by simp)
    clear hv hz hb
    go_enter Tryz.func34, Tryz.ntmps34
    go_wp2_with fail
    refine C1.out.mono ?_
    rintro e w' ⟨rfl, rfl⟩
    go_wp2_with fail
    refine (inRange_any _ _ _ _ HB.out _).mono ?_
    rintro e w' ⟨rfl, rfl⟩
    go_wp2_with fail
    go_ret
    exact FtRes.no HE.out BA.out
  have HV : Hid (vWrap l wd = true) := vWrap_parts.2 ⟨hv, hb⟩
  have HB := Lib.hid hb
  have hwd := inB_iff.1 hb
  obtain ⟨hw0, hw1⟩ := hwd
  have HSZ : Hid (∀ s ∈ l, s.size ≤ 20) := fun s hs => ((vWrap_words HV.out).2.1 s hs).2
  have hn40 : n ≤ 40 := by rw [← HL.out]; exact (vWrap_words HV.out).1
  have CE := Lib.hid (wrapEnds_any A n c l wd _ X1.out hnc HV.out)
  rw [wEnds_good HV.out] at CE
  have HOK := Lib.hid (okE_wends HV.out)
  have HFT : Hid (fillT l wd = ftL l wd 0 (wends (sizes l) wd)) := if_pos HV.out
  obtain ⟨es, hes⟩ : ∃ es, es = wends (sizes l) wd := ⟨_, rfl⟩
  have hel : es.length ≤ 40 := by have h := wends_length (sizes l) wd; rw [← hes, sizes_length, HL.out] at h; omega
  rw [← hes] at CE HOK HFT
  clear hes hv hb hz
  go_enter Tryz.func34, Tryz.ntmps34
  go_wp2_with fail
  refine C1.out.mono ?_
  rintro e w' ⟨rfl, rfl⟩
  go_wp2_with fail
  refine (inRange_any _ _ _ _ HB.out _).mono ?_
  rintro e w' ⟨rfl, rfl⟩
  go_wp2_with fail
  refine CE.out.mono ?_
  rintro e w1 ⟨B, k0, d, rfl, ho, hb⟩
  have hk0 : k0 = es.length := by have h := (Rd.own ho).len; rw [← h]; simp
  subst hk0
  have SO1 := Lib.hid (own_base ho BA.out.size)
  have ON1 := Lib.hid (own_below ON.out hb)
  have B1 := Lib.hid (BA.out.trans (hb.mono BA.out.size))
  clear ho hb CE C1 ON X1
  go_wp2_with fail
  go_loopw [5, 7, 8] (FtRel l wd w B d es) (fun _ _ i _ => es.length - (intOf i).toNat)
  case atStart => exact ⟨0, 0, 0, [], Nat.zero_le _, rfl, rfl, rfl, Nat.zero_le _, HOK.out, rfl, ON1.out, B1.out, SO1.out⟩
  case round =>
    clear ON1 B1 SO1
    obtain ⟨k, fr, m, ys, hk, rfl, rfl, hmk, hfr, hok, hft, hown, hbel, hso⟩ := hrel
    subst hmk
    obtain ⟨L5, d5, e5, hd5⟩ := own_shape hown
    subst e5
    have O3 := Lib.hid hown
    have B3 := Lib.hid hbel
    have SO := Lib.hid hso
    have FT := Lib.hid hft
    clear hown hbel hso hft
    by_cases hlt : m < es.length
    case neg =>
      obtain rfl : m = es.length := by omega
      have HF : Hid (fillT l wd = ys) := by
        show fillT l wd = ys
        rw [HFT.out, FT.out, List.drop_of_length_le (Nat.le_refl _), ftL, List.append_nil]
      clear hok
      go_wp2_with fail
      go_ret
      exact ⟨L5, _, d5, rfl, by rw [HF.out]; exact O3.out, B3.out⟩
    have hes : es[m]? = some (es[m]'hlt) := List.getElem?_eq_getElem _
    obtain ⟨e, ee⟩ : ∃ e, es[m]? = some e := ⟨_, hes⟩
    rw [drop_of_get ee] at hok
    have hnx := ft_next hok
    have HFT2 : Hid (ftL l wd 0 es = ys ++ ftL l wd fr (e :: es.drop (m + 1))) := by show _ = _; rw [FT.out, drop_of_get ee]
    obtain ⟨h1, h2, h3, h4, h5⟩ := hnx
    have OK2 := Lib.hid h4
    have H5 := Lib.hid h5
    have hl3 : lineLen (sizes (wseg l fr e)) ≤ wd := by rw [wseg_sizes]; unfold wrest at h3; omega
    rw [HL.out] at h2 hfr
    obtain ⟨b, o, rfl, _⟩ := HX.out.2 (by omega)
    have RS := Lib.hid ((HX.out.slice (Nat.le_of_lt h1) h2).below B3.out)
    obtain ⟨g, o2, x, rfl, ex, hcx⟩ := (Rd.own SO.out).int_at hlt
    rw [List.getElem?_map, ee] at ex
    injection ex with ex
    subst ex
    have hsz2 : ∀ s ∈ wseg l fr e, s.size ≤ 20 := fun s hs => HSZ.out s (List.mem_of_mem_drop (List.mem_of_mem_take hs))
    have hsz := B3.out.size
    have hne : (fr : Int) ≤ (e : Int) := by omega
    have hec : (e : Int) ≤ (c : Int) := by omega
    have hfr0 : (0 : Int) ≤ (fr : Int) := by omega
    have hm0 : (0 : Int) ≤ (m : Int) := by omega
    have hme : (m : Int) < (es.length : Int) := by omega
    have hcf : ¬ c = fr := by omega
    by_cases hlast : m + 1 = es.length
    case pos =>
      have hlb : ((m : Int) == (es.length : Int) - 1) = true := by simp; omega
      have H6 : Hid ((if e < l.length then fillW (wseg l fr e) wd else jw (wseg l fr e)) = fillW (wseg l fr e) (lineLen (sizes (wseg l fr e)))) := by
        show _ = _
        rw [H5.out, if_pos (List.eq_nil_of_length_eq_zero (by rw [List.length_drop]; omega))]
      have CJ := Lib.hid (specLen_any (some ⟨b, o + fr, none⟩) (e - fr) (c - fr) (wseg l fr e) wr RS.out (by omega) (by omega) hsz2)
      have hL0 : lineLen (sizes (wseg l fr e)) ≤ 1000 := by omega
      obtain ⟨LL, hLL⟩ : ∃ LL, LL = lineLen (sizes (wseg l fr e)) := ⟨_, rfl⟩
      have CF := Lib.hid (fillLine_any (some ⟨b, o + fr, none⟩) (e - fr) (c - fr) (wseg l fr e) LL wr RS.out (by omega) (by omega) hsz2 (by rw [hLL]; exact Int.le_refl _) (by omega))
      rw [← hLL] at CJ H6
      have EE := Lib.hid ee
      clear ee hok hlast h1 h3 h4 h5 hl3 hLL hL0
      go_wp2_with fail
      refine CJ.out.mono ?_
      rintro e1 w' ⟨rfl, rfl⟩
      go_wp2_with fail
      refine CF.out.mono ?_
      rintro e1 w' ⟨rfl, q, rfl⟩
      obtain ⟨F, hF⟩ : ∃ F, F = fillW (wseg l fr e) LL := ⟨_, rfl⟩
      have HFq := Lib.hid hF
      rw [← hF]
      clear hF CF
      have hszq : w.heap.size ≤ (wr.drewN q).heap.size := hsz
      go_wp2_with (at_builtin; refine app_lit elemStr rfl _ _ rfl (own_drewN O3.out q) _ _ [.string F] rfl rfl rfl (by simp [Value.oneCell']) (by omega) hszq ?_; intro v2 w2 ho hg; have O4 := Lib.hid ho; have B4 := Lib.hid (below_app ((below_drewN' B3.out q).alloc hszq _) hg O3.out (Nat.le_refl _)); have SO4 := Lib.hid (own_types (own_drewN O3.out q) (own_drewN SO.out q) (by decide) _ hg); have hcx2 := ends_cell SO4.out hlt EE.out; clear ho hg)
      go_roundw
      case rel => exact ⟨m + 1, e, m + 1, ys ++ [F], by omega, by go_num, rfl, rfl, by rw [HL.out]; omega, OK2.out, by rw [HFT2.out, ftL, H6.out, ← HFq.out]; simp, by simpa [strs'] using O4.out, B4.out, SO4.out⟩
      case measure => simp [intOf] <;> omega
    have hlb : ((m : Int) == (es.length : Int) - 1) = false := by simp; omega
    have H6 : Hid ((if e < l.length then fillW (wseg l fr e) wd else jw (wseg l fr e)) = fillW (wseg l fr e) wd) := by
      show _ = _
      rw [H5.out, if_neg (fun h => hlast (by
        have h7 : (es.drop (m + 1)).length = 0 := by rw [h]; rfl
        rw [List.length_drop] at h7
        omega))]
    have CF := Lib.hid (fillLine_any (some ⟨b, o + fr, none⟩) (e - fr) (c - fr) (wseg l fr e) wd wr RS.out (by omega) (by omega) hsz2 hl3 (by omega))
    have EE := Lib.hid ee
    clear ee hok hlast h1 h3 h4 h5 hl3
    go_wp2_with fail
    refine CF.out.mono ?_
    rintro e1 w' ⟨rfl, q, rfl⟩
    obtain ⟨F, hF⟩ : ∃ F, F = fillW (wseg l fr e) wd := ⟨_, rfl⟩
    have HFq := Lib.hid hF
    rw [← hF]
    clear hF CF
    have hszq : w.heap.size ≤ (wr.drewN q).heap.size := hsz
    go_wp2_with (at_builtin; refine app_lit elemStr rfl _ _ rfl (own_drewN O3.out q) _ _ [.string F] rfl rfl rfl (by simp [Value.oneCell']) (by omega) hszq ?_; intro v2 w2 ho hg; have O4 := Lib.hid ho; have B4 := Lib.hid (below_app ((below_drewN' B3.out q).alloc hszq _) hg O3.out (Nat.le_refl _)); have SO4 := Lib.hid (own_types (own_drewN O3.out q) (own_drewN SO.out q) (by decide) _ hg); have hcx2 := ends_cell SO4.out hlt EE.out; clear ho hg)
    go_roundw
    case rel => exact ⟨m + 1, e, m + 1, ys ++ [F], by omega, by go_num, rfl, rfl, by rw [HL.out]; omega, OK2.out, by rw [HFT2.out, ftL, H6.out, ← HFq.out]; simp, by simpa [strs'] using O4.out, B4.out, SO4.out⟩
    case measure => simp [intOf] <;> omega
end Go.Proofs.YtmljofijeladoaaGreatDoor
