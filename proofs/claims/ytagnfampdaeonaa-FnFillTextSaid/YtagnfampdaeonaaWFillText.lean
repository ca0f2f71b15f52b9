/-
  The walk of FnFillText: without their spaces the lines of a filled text have the letters of the words, and all but the last with several words have the width.
-/
import Derived.Test.YtagnfampdaeonaaFillTextImpl
import Derived.Test.YtagnfampdaeonaaDrawWords
import Derived.Test.YtagnfampdaeonaaLetters
namespace Go.Proofs.Ytagnfampdaeonaa
open Go.RowKit
set_option linter.unusedVariables false

theorem fillT_le40 (l : List ByteArray) (wd : Int) : (fillT l wd).length ≤ 40 := by
  by_cases hv : vWrap l wd = true
  · have h2 := wEnds_len l wd
    rw [wEnds_good hv, List.length_map] at h2
    rw [show fillT l wd = _ from if_pos hv, ftL_length]
    exact h2
  · rw [show fillT l wd = [] from if_neg hv]
    exact Nat.zero_le _
def LtIn (V : List ByteArray) (i : Nat) (s : ByteArray) (u : World) (v sp k : Value) (wr : World) : Prop :=
  ∃ m q : Nat, m ≤ s.size ∧ v = .string (letB V i s m) ∧ sp = .int .i64 (spTo s m : Nat) ∧ k = .int .i64 (m : Int) ∧ wr = u.drewN q
def LtOut (V : List ByteArray) (u : World) (v i : Value) (wr : World) : Prop :=
  ∃ m q : Nat, m ≤ V.length ∧ v = .string (letB V m ⟨#[]⟩ 0) ∧ i = .int .i64 (m : Int) ∧ wr = u.drewN q
def AllWRel (l : List ByteArray) (u : World) (v i : Value) (wr : World) : Prop :=
  ∃ m q : Nat, m ≤ l.length ∧ v = .string (wordB l m) ∧ i = .int .i64 (m : Int) ∧ wr = u.drewN q
set_option maxHeartbeats 1000000 in
theorem DrawFillText_any (w : World) (a : Option Addr) (n c : Nat) (zs : List Int) (h : InBytes w a n c zs) :
    Calls Try.prog 39 #[.slice a n c] w (WordsW w) := by
  have HD := Lib.hid (DrawWrapWords_any w a n c zs h)
  clear h
  go_enter Try.func39, Try.ntmps39
  go_wp2_with fail
  refine HD.out.mono ?_
  rintro e w1 ⟨L, m, d, xs, wd, rfl, hm, hmd, hx, hxs, hw0, hw1, hB⟩
  have R := Lib.hid (And.intro hx (And.intro hxs hB))
  clear hx hxs hB HD
  go_wp2_with fail
  go_ret2
  exact ⟨L, m, d, xs, wd, rfl, hm, hmd, R.out.1, R.out.2.1, hw0, hw1, R.out.2.2⟩
set_option maxRecDepth 8000 in
set_option maxHeartbeats 8000000 in
theorem FnFillText_walk (w : World) (a0 : Option Addr) (n0 c0 : Nat) (x0 : List Int) (h0 : InBytes w a0 n0 c0 x0) :
    Calls Try.prog 14 #[.slice a0 n0 c0] w fun e w' => e = .returned (.bool true) ∧ Below w.heap.size w w' := by
  have HD := Lib.hid (DrawFillText_any w a0 n0 c0 x0 h0)
  clear h0
  by_cases g0 : n0 ≤ 1048576
  case neg =>
    go_enter Try.func14, Try.ntmps14
    go_wp2
    go_ret
    exact ⟨rfl, Below.refl _ _⟩
  go_enter Try.func14, Try.ntmps14
  go_wp2_with fail
  refine HD.out.mono ?_
  rintro e w1 ⟨L, m, d, xs, wd, rfl, hm, hmd, hx, hxs, hw0, hw1, hB⟩
  have B0 := Lib.hid hB
  have X0 := Lib.hid hx
  have XL := Lib.hid hx.slen
  have XS := Lib.hid hxs
  have Z0 : Hid (∀ s ∈ xs, s.size ≤ 9223372036854775807) := fun s hs => by have := hxs s hs; omega
  clear hB hx hxs HD
  have HP := Lib.hid (@fillT_keep xs wd (by omega))
  have HV40 : (fillT xs wd).length ≤ 40 := fillT_le40 xs wd
  obtain ⟨V, hV⟩ : ∃ V, V = fillT xs wd := ⟨_, rfl⟩
  have CI := Lib.hid (fun w (h : Rd w 1 L m (strs' xs)) => implFillText_any L m d xs wd w h (by omega) hmd Z0.out)
  have CS := Lib.hid (fun w (h : Rd w 1 L m (strs' xs)) => specFillText_any L m d xs wd w h (by omega) hmd Z0.out)
  unfold FtRes at CI CS
  rw [← hV] at HP CI CS HV40
  clear hV
  go_wp2_with fail
  refine (CI.out _ X0.out).mono ?_
  rintro e wa ⟨Ag, kg, dg, rfl, ho, hb⟩
  have Og := Lib.hid ho
  have B1 := Lib.hid hb
  have Kg := Lib.hid (Rd.own ho).slen
  clear ho hb
  go_wp2_with fail
  have hkl : V.length = kg := Kg.out
  refine (CS.out _ (X0.out.below B1.out)).mono ?_
  rintro e wc ⟨As, ks, ds, rfl, ho, hb⟩
  have hks : ks = kg := by have h := (Rd.own ho).slen; rw [← h, Kg.out]
  subst hks
  have Os := Lib.hid ho
  have Og3 := Lib.hid (own_below Og.out hb)
  have B3 := Lib.hid (below_step B1.out hb)
  clear ho hb
  go_wp2_with fail
  refine (equalTexts_any Ag As ks ks dg ds V V _ (Rd.own Og3.out) (Rd.own Os.out) (by omega) (by omega)).mono ?_
  rintro e wd2 ⟨rfl, hb⟩
  have B4 := Lib.hid (below_step B3.out (below_of_drew (B := wc.heap.size) hb))
  have Og4 := Lib.hid (own_below Og3.out (below_of_drew (B := wc.heap.size) hb))
  clear hb
  by_cases hk0 : ks = 0
  case pos =>
    have hk' : ((ks : Int) == 0) = true := by simp [hk0]
    clear hk0
    go_wp2_with fail
    refine (CS.out _ (X0.out.below B4.out)).mono ?_
    rintro e we ⟨At, kt, dt, rfl, ho, hb⟩
    have hkt : kt = ks := by have h := (Rd.own ho).slen; rw [← h, Kg.out]
    subst hkt
    have Ot := Lib.hid ho
    have Og5 := Lib.hid (own_below Og4.out hb)
    have B5 := Lib.hid (below_step B4.out hb)
    clear ho hb
    go_wp2_with fail
    refine (equalTexts_any Ag At kt kt dg dt V V _ (Rd.own Og5.out) (Rd.own Ot.out) (by omega) (by omega)).mono ?_
    rintro e wf ⟨rfl, hb⟩
    have B6 := Lib.hid (below_step B5.out (below_of_drew (B := we.heap.size) hb))
    clear hb
    go_wp2_with fail
    go_ret
    exact ⟨ret_bool (by simp), below_step B0.out B6.out⟩
  have hk' : ((ks : Int) == 0) = false := by simp; omega
  have hkp := HP.out (by omega)
  have HALL := Lib.hid hkp.1
  have HLN := Lib.hid hkp.2
  have HV61 : Hid (∀ t ∈ V, t.size ≤ 61) := fun t ht => by obtain ⟨k, hk⟩ := List.mem_iff_getElem?.1 ht; exact (HLN.out k t hk).2.1
  clear hkp
  have X4 := Lib.hid (X0.out.below B4.out)
  go_wp2_with fail
  go_loopw [6, 7] (LtOut V wd2) (fun _ i _ => V.length - (intOf i).toNat)
  case atStart => exact ⟨0, 0, Nat.zero_le _, rfl, rfl, rfl⟩
  case round =>
    obtain ⟨i, q, hi, rfl, rfl, rfl⟩ := hrel
    by_cases hlt : i < V.length
    case neg =>
      have hil : i = V.length := by omega
      have hik : i = ks := by omega
      have HE : Hid (letB V i ⟨#[]⟩ 0 = wordB xs xs.length) := by
        show letB V i ⟨#[]⟩ 0 = _
        rw [hil, letB_all, HALL.out]
        unfold wordB
        rw [List.take_length]
      subst hik
      clear hil hlt
      go_wp2_with fail
      go_loopw [10, 11] (AllWRel xs wd2) (fun _ i _ => xs.length - (intOf i).toNat)
      case atStart => exact ⟨0, q, Nat.zero_le _, rfl, rfl, rfl⟩
      case round =>
        obtain ⟨j, q2, hj, rfl, rfl, rfl⟩ := hrel
        by_cases hlt : j < xs.length
        case neg =>
          have hjl : j = xs.length := by omega
          have hjm : j = m := by rw [hjl, XL.out]
          have hee : ((letB V i ⟨#[]⟩ 0).toList == (wordB xs j).toList) = true := by rw [HE.out, hjl]; simp
          subst hjm
          clear hlt hjl
          go_wp2_with fail
          go_ret
          exact ⟨ret_bool (by simp), below_step B0.out (below_drewN' B4.out _)⟩
        have hjm : j < m := by rw [← XL.out]; exact hlt
        obtain ⟨b, o, s, rfl, ex, hcx⟩ := (X4.out.drewN q2).str_at hjm
        have hsz : s.size ≤ 30 := XS.out s (List.mem_of_getElem? ex)
        have hwz := wordB_size XS.out j
        have HN := Lib.hid (wordB_next ex)
        obtain ⟨T, hT⟩ : ∃ T, T = wordB xs j := ⟨_, rfl⟩
        rw [← hT] at HN hwz
        rw [← hT]
        have hadd : ∀ W : World, (Op.stringOp .add T s).run Try.prog W = .ok (.string (T ++ s)) W := fun W => run_string_add_sum W _ _ (by omega)
        clear ex hT hlt
        go_wp2_with fail
        go_roundw
        case rel => exact ⟨j + 1, q2, by have := XL.out; omega, by rw [← HN.out], by go_num, rfl⟩
        case measure => have := XL.out; simp [intOf] <;> omega
    have hiks : i < ks := by omega
    obtain ⟨b1, o1, s, eA, ex, hcl⟩ := (Rd.own Og4.out).str_at (k := i) hiks
    subst eA
    have hln := HLN.out i s ex
    obtain ⟨hln1, hln2, hln3⟩ := hln
    have LN3 := Lib.hid hln3
    have HEND := Lib.hid (letB_end (t := ⟨#[]⟩) ex)
    have hi0 : (0 : Int) ≤ (i : Int) := by omega
    have hi1 : (i : Int) < (ks : Int) := by omega
    clear hln3 ex hlt
    go_wp2_with fail
    go_loopw [6, 8, 9] (LtIn V i s wd2) (fun _ _ k _ => s.size - (intOf k).toNat)
    case atStart => exact ⟨0, q, Nat.zero_le _, by rw [letB_zero V i _ s], rfl, rfl, rfl⟩
    case round =>
      obtain ⟨k, q2, hk, rfl, rfl, rfl, rfl⟩ := hrel
      by_cases hlt : k < s.size
      case neg =>
        have hks2 : k = s.size := by omega
        subst hks2
        rw [HEND.out]
        have hsa := spTo_all (s := s)
        obtain ⟨sp, hspE⟩ : ∃ sp, sp = spTo s s.size := ⟨_, rfl⟩
        rw [← hspE] at hsa
        rw [← hspE]
        obtain ⟨T, hT⟩ : ∃ T, T = letB V (i + 1) ⟨#[]⟩ 0 := ⟨_, rfl⟩
        rw [← hT]
        have hA : ¬ wd < (s.size : Int) := by omega
        have ENDR : Hid (LtOut V wd2 (.string T) (.int .i64 ((i : Int) + 1)) (wd2.drewN q2)) := ⟨i + 1, q2, by omega, by rw [hT], by go_num, rfl⟩
        clear hspE hT hlt
        by_cases hB : i + 1 < ks
        case neg =>
          have hB1 : ¬ (i : Int) + 1 < (ks : Int) := by omega
          clear hsa hi hB
          go_wp2_with fail
          go_roundw
          case rel => exact ENDR.out
          case measure => simp [intOf] <;> omega
        have hB1 : (i : Int) + 1 < (ks : Int) := by omega
        by_cases hC : 0 < sp
        case neg =>
          have hC1 : ¬ 0 < (sp : Int) := by omega
          clear hsa hi hB hC
          go_wp2_with fail
          go_roundw
          case rel => exact ENDR.out
          case measure => simp [intOf] <;> omega
        have hC1 : 0 < (sp : Int) := by omega
        have hD : ((s.size : Int) != wd) = false := by
          have := LN3.out (by omega) (by omega)
          simp [this]
        clear hsa hi hB hC
        go_wp2_with fail
        go_roundw
        case rel => exact ENDR.out
        case measure => simp [intOf] <;> omega
      have hlt' : (k : Int) < (s.size : Int) := by omega
      have hk0 : (0 : Int) ≤ (k : Int) := by omega
      by_cases hc : s[k] = 32
      case pos =>
        have hcv : (s[k].toNat : Int) = 32 := by rw [hc]; rfl
        have HN := Lib.hid (letB_sp (V := V) (i := i) hlt hc)
        have hsp := spTo_le s k
        clear hc
        go_wp2_with fail
        go_roundw
        case rel => exact ⟨k + 1, q2, by omega, by rw [HN.out.1], by rw [HN.out.2]; go_num, by go_num, rfl⟩
        case measure => simp [intOf] <;> omega
      have hcv : ((s[k].toNat : Int) == 32) = false := by
        simp only [beq_eq_false_iff_ne]
        intro h
        exact hc (by apply UInt8.toNat.inj; show s[k].toNat = 32; omega)
      have HN := Lib.hid (letB_no (V := V) (i := i) hlt hc)
      have he : (s.extract k (k + 1)).size = 1 := by rw [ext_one hlt]; rfl
      have hlz := letB_size (s := s) HV61.out i k
      obtain ⟨T, hT⟩ : ∃ T, T = letB V i s k := ⟨_, rfl⟩
      rw [← hT] at HN hlz
      rw [← hT]
      have hadd : ∀ W : World, (Op.stringOp .add T (s.extract k (k + 1))).run Try.prog W = .ok (.string (T ++ s.extract k (k + 1))) W := fun W => run_string_add_sum W _ _ (by omega)
      clear hT hc he
      go_wp2_with fail
      go_roundw
      case rel => exact ⟨k + 1, q2, by omega, by rw [HN.out.1], by rw [HN.out.2], by go_num, rfl⟩
      case measure => simp [intOf] <;> omega
end Go.Proofs.Ytagnfampdaeonaa
