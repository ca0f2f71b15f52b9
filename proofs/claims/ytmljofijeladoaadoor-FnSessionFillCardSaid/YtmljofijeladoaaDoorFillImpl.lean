/-
  Contract of the program's FillLine.
-/
import Derived.Test.YtmljofijeladoaaDoorFill
import Derived.Test.YtmljofijeladoaaDoorShelf
namespace Go.Proofs.YtmljofijeladoaaDoor
open Go.RowKit
set_option linter.unusedVariables false

theorem strCells_app (a b : ByteArray) : Lib.strCells (a ++ b) = Lib.strCells a ++ Lib.strCells b := by
  rw [Lib.strCells_eq, Lib.strCells_eq, Lib.strCells_eq, ← Lib.byteCells_append, ByteArray.data_append, Array.toList_append]
theorem strCells_len (a : ByteArray) : (Lib.strCells a).length = a.size := by rw [Lib.strCells_eq, Lib.byteCells_length]; rfl
def FiRel (l : List ByteArray) (R G : Nat) (w : World) (i : Value) (wr : World) : Prop :=
  ∃ k : Nat, k ≤ G ∧ i = .int .i64 ((k + 1 : Nat) : Int) ∧ Lib.IsBuilder 43 5 w.heap.size w.heap.size (Lib.strCells (fillUp l R k)) wr ∧ Below w.heap.size w wr

set_option maxHeartbeats 8000000 in
theorem implFill_any (A : Option Addr) (n c : Nat) (l : List ByteArray) (wd : Int) (w : World) (hx : Rd w 1 A n (strs' l)) (hn : n ≤ 1048576) (hz : ∀ s ∈ l, s.size ≤ 9223372036854775807) :
    Calls Tryd.prog 17 #[.slice A n c, .int .i64 wd] w fun e w' => e = .returned (.string (fillL l wd)) ∧ Below w.heap.size w w' := by
  have C1 := Lib.hid (implWrap_any A n c l wd w hx hn hz)
  cases hv : vWrap l wd
  · rw [hv] at C1
    have HE : Hid (fillL l wd = ⟨#[]⟩) := fillL_no (fun h => by rw [hv] at h; exact absurd h.1 (by simp))
    clear hx hz hv
    go_enter Tryd.func17, Tryd.ntmps17
    go_wp2_with fail
    refine C1.out.mono ?_
    rintro e w' ⟨rfl, rfl⟩
    go_wp2_with fail
    go_ret
    exact ⟨ret_str HE.out.symm, Below.refl _ _⟩
  rw [hv] at C1
  obtain ⟨hl40, hsz, hw0, hw1⟩ := vWrap_words hv
  have HL := Lib.hid hx.slen
  by_cases hn0 : n = 0
  · subst hn0
    have HE : Hid (fillL l wd = ⟨#[]⟩) := fillL_no (fun h => by have := h.2.1; have := HL.out; omega)
    clear hx hz
    go_enter Tryd.func17, Tryd.ntmps17
    go_wp2_with fail
    refine C1.out.mono ?_
    rintro e w' ⟨rfl, rfl⟩
    go_wp2_with fail
    go_ret
    exact ⟨ret_str HE.out.symm, Below.refl _ _⟩
  have hn40 : n ≤ 40 := by rw [← HL.out]; exact hl40
  have CJ := Lib.hid (implLen_any A n c l w hx (by omega) hn40 (fun s hs => (hsz s hs).2))
  have hn0' : ((n : Int) == 0) = false := by simp; omega
  by_cases hlw : lineLen (sizes l) ≤ wd
  case neg =>
    have HE : Hid (fillL l wd = ⟨#[]⟩) := fillL_no (fun h => hlw h.2.2)
    obtain ⟨LL, hLL⟩ : ∃ LL, LL = lineLen (sizes l) := ⟨_, rfl⟩
    rw [← hLL] at CJ hlw
    have hlw' : wd < LL := by omega
    clear hx hz hLL hlw hsz
    go_enter Tryd.func17, Tryd.ntmps17
    go_wp2_with fail
    refine C1.out.mono ?_
    rintro e w' ⟨rfl, rfl⟩
    go_wp2_with fail
    refine CJ.out.mono ?_
    rintro e w' ⟨rfl, rfl⟩
    go_wp2_with fail
    go_ret
    exact ⟨ret_str HE.out.symm, Below.refl _ _⟩
  have HE : Hid (fillL l wd = fillW l wd) := fillL_yes hv (by rw [HL.out]; omega) hlw
  obtain ⟨LL, hLL⟩ : ∃ LL, LL = lineLen (sizes l) := ⟨_, rfl⟩
  rw [← hLL] at CJ hlw
  obtain ⟨R, hR⟩ : ∃ R : Nat, (R : Int) = wd - LL := ⟨(wd - LL).toNat, by omega⟩
  obtain ⟨G, hG⟩ : ∃ G : Nat, G = n - 1 := ⟨_, rfl⟩
  have HF : Hid (fillL l wd = fillUp l R G) := by
    show fillL l wd = fillUp l R G
    rw [HE.out]
    unfold fillW
    rw [← hLL, HL.out, ← hG]
    congr 1
    omega
  have hLL0 : 0 ≤ LL := by rw [hLL]; unfold lineLen; rw [sizes_length, HL.out]; omega
  have hRb : R ≤ 60 := by omega
  have hR' : wd - LL = (R : Int) := hR.symm
  have hG' : (n : Int) - 1 = (G : Int) := by omega
  have HG := Lib.hid hG
  have HX := Lib.hid hx
  have Z : Hid (∀ s ∈ l, s.size ≤ 20) := fun s hs => (hsz s hs).2
  obtain ⟨b, o, s0, rfl, e0, hc00⟩ := hx.str_at (k := 0) (by omega)
  have E0 : Hid (s0 = fillUp l R 0) := by show s0 = fillUp l R 0; rw [fillUp, wAt_get e0]
  have hs0 := Z.out s0 (List.mem_of_getElem? e0)
  clear hx hz hsz hLL hR hG hv e0 HE hn0
  rw [Nat.add_zero] at hc00
  have hn0 : (0 : Int) < (n : Int) := by omega
  have BA := Lib.hid ((Below.refl w.heap.size w).alloc (Nat.le_refl _) (.cells #[.pointer none, .slice none 0 0] 43))
  have CW := Lib.hid (writeString_any w.heap.size w.heap.size [] s0 _ (builder_new w) (by simp; omega) BA.out.size)
  have hc01 := cell_below BA.out hc00
  go_enter Tryd.func17, Tryd.ntmps17
  go_wp2_with fail
  refine C1.out.mono ?_
  rintro e w' ⟨rfl, rfl⟩
  go_wp2_with fail
  refine CJ.out.mono ?_
  rintro e w' ⟨rfl, rfl⟩
  go_wp2_with fail
  refine CJ.out.mono ?_
  rintro e w' ⟨rfl, rfl⟩
  go_wp2_with fail
  refine CW.out.mono ?_
  rintro e w1 ⟨rfl, hu, hb⟩
  have U1 : Hid (Lib.IsBuilder 43 5 w.heap.size w.heap.size (Lib.strCells (fillUp l R 0)) w1) := .inr (by rw [← E0.out]; simpa using hu)
  have B1 := Lib.hid (BA.out.trans hb)
  clear hu hb BA CW CJ C1
  go_wp2_with fail
  go_loopw [8] (FiRel l R G w) (fun i _ => n - (intOf i).toNat)
  case atStart => exact ⟨0, Nat.zero_le _, rfl, U1.out, B1.out⟩
  case round =>
    clear U1 B1
    obtain ⟨k, hk, rfl, hbu, hbel⟩ := hrel
    have U3 := Lib.hid hbu
    have B3 := Lib.hid hbel
    clear hbu hbel
    by_cases hkG : k < G
    case neg =>
      obtain rfl : k = G := by omega
      have hle : ¬ ((k + 1 : Nat) : Int) ≤ (k : Int) := by omega
      have hst := Tryd.Builder_String_any w.heap.size w.heap.size (fillUp l R k).data.toList wr (by have h := U3.out; rwa [Lib.strCells_eq] at h) B3.out.size
      have HST := Lib.hid hst
      obtain ⟨I, hI⟩ : ∃ I : Int, I = ((k + 1 : Nat) : Int) := ⟨_, rfl⟩
      rw [← hI] at hle ⊢
      clear hst hI
      go_wp2_with fail
      refine HST.out.mono ?_
      rintro e w5 ⟨rfl, hb5⟩
      have B5 := Lib.hid (B3.out.trans hb5)
      clear hb5
      go_wp2_with fail
      go_ret
      exact ⟨ret_str (by rw [HF.out]), B5.out⟩
    obtain ⟨I, q1, q0, hI, hI1, hq1, hq0, hqq, hq1b, hgp, hb1, hb2, hb3, hb4⟩ := gap_nums (R := R) (by omega) hkG (by omega) (by omega)
    have hkn : k + 1 < n := by omega
    obtain ⟨b', o', s, e1, es, hcs⟩ := HX.out.str_at hkn
    injection e1 with e1
    injection e1 with e1 e2
    subst e1; subst e2
    have hss := Z.out s (List.mem_of_getElem? es)
    obtain ⟨gp, hge⟩ : ∃ gp, gp = gapN R G k := ⟨_, rfl⟩
    rw [← hge] at hgp
    have hgp100 : gp ≤ 100 := by
      have h1 := gap_le R G k (by omega) hkG
      have h2 : R * (k + 1) / G - R * k / G ≤ R := Nat.le_trans (Nat.sub_le _ _) h1
      rw [hge]
      exact Nat.le_trans (Nat.add_le_add_left h2 1) (by omega)
    have hgp2 : 1 + (q1 : Int) - (q0 : Int) = (gp : Int) := by omega
    obtain ⟨F0, hF0⟩ : ∃ F, F = fillUp l R k := ⟨_, rfl⟩
    have hF0s : F0.size ≤ 5000 := by rw [hF0]; exact fillUp_le Z.out (by rw [HL.out]; exact hn40) (by omega) (by rw [HL.out]; omega)
    have HF2 : Hid (Lib.strCells F0 ++ Lib.strCells (spB gp) ++ Lib.strCells s = Lib.strCells (fillUp l R (k + 1))) := by
      show Lib.strCells F0 ++ Lib.strCells (spB gp) ++ Lib.strCells s = Lib.strCells (fillUp l R (k + 1))
      rw [fillUp, ← hF0, wAt_get es, HL.out, ← HG.out, ← hge, strCells_app, strCells_app]
    rw [← hF0] at U3
    have L1 : (Lib.strCells F0).length + (spB gp).size ≤ 1000000 := by rw [strCells_len, spB_size]; omega
    have L2 : (Lib.strCells F0 ++ Lib.strCells (spB gp)).length + s.size ≤ 1000000 := by rw [List.length_append, strCells_len, strCells_len, spB_size]; omega
    have REP := Lib.hid (fun w => repeat_space gp hgp100 w)
    obtain ⟨SP, hSP⟩ : ∃ SP, SP = spB gp := ⟨_, rfl⟩
    rw [← hSP] at HF2 L1 L2 REP
    have HL2 := Lib.hid L2
    have HL3 := HL2
    have hsz := B3.out.size
    have HWS := Lib.hid (writeString_any w.heap.size w.heap.size _ SP wr.drew U3.out L1 hsz)
    clear hSP L2
    obtain ⟨spn, hspn⟩ : ∃ spn : Int, spn = (SP.size : Int) := ⟨_, rfl⟩
    rw [← hspn] at HWS
    clear hspn
    rw [← hI]
    have hIt : I.toNat = k + 1 := by rw [hI]; rfl
    have hIn : I < (n : Int) := by omega
    have hIG : I ≤ (G : Int) := by omega
    have hI0 : (0 : Int) ≤ I := by omega
    have HI : Hid (I = ((k + 1 : Nat) : Int)) := hI
    have hG0 : ¬ (G : Int) = 0 := by omega
    have hG00 : ((G : Int) == 0) = false := by simp; omega
    have hwa : IntKind.i64.wrap (1 + (q1 : Int)) = 1 + (q1 : Int) := by rw [IntKind.wrap_i64]; omega
    have hwc : IntKind.i64.wrap (q1 : Int) = (q1 : Int) := by rw [IntKind.wrap_i64]; omega
    have hwb : IntKind.i64.wrap (q0 : Int) = (q0 : Int) := by rw [IntKind.wrap_i64]; omega
    have hwg : IntKind.i64.wrap (gp : Int) = (gp : Int) := by rw [IntKind.wrap_i64]; omega
    clear hI hF0 hge es hgp L1
    go_wp2_with fail
    go_region_with (first
      | (go_at_call 33; with_reducible refine (REP.out _).mono ?_; rintro e w' ⟨rfl, hww⟩; subst hww)
      | (go_at_call 24; refine HWS.out.mono ?_; rintro e w4 ⟨rfl, hu, hb⟩; have U4 := Lib.hid hu; have B4 := Lib.hid (B3.out.drew.trans hb); clear hu hb hgp2 hwc hwa hwb hwg hq1 hq0 hI1 hgp100 HWS REP U3 HL2 hc01 hb1 hb2 hb3 hb4))
    all_goals
      have CW2 := Lib.hid (writeString_any w.heap.size w.heap.size _ s w4 (.inr U4.out) HL3.out B4.out.size)
      have hcs2 := cell_below B4.out hcs
      go_wp2_with fail
      refine CW2.out.mono ?_
      rintro e w5 ⟨rfl, hu, hb⟩
      have U5 := Lib.hid hu
      have B5 := Lib.hid (B4.out.trans hb)
      clear hu hb
      go_wp2_with fail
      go_roundw
      case rel => exact ⟨k + 1, by omega, by have h := HI.out; first | (congr 1; omega) | go_num, .inr (by rw [← HF2.out]; exact U5.out), B5.out⟩
      case measure => have h := HI.out; simp [intOf] <;> omega
end Go.Proofs.YtmljofijeladoaaDoor
