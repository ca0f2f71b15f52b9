/-
  The walk of FnTrimDraw: nothing is left of a drawing that is trimmed exactly if it has only spaces.
-/
import Derived.Test.YtigcbnehcofbcaaDoorTrim
import Derived.Test.YtigcbnehcofbcaaDoorBlank
import Derived.Test.YtigcbnehcofbcaaDoorDrawRef
import Derived.Test.YtigcbnehcofbcaaDoorDrawPlaced2
namespace Go.Proofs.YtigcbnehcofbcaaDoor
open Go.RowKit
set_option linter.unusedVariables false

def TdOut (V : List ByteArray) (u : World) (v i : Value) (wr : World) : Prop :=
  ∃ m q : Nat, m ≤ V.length ∧ v = .bool ((V.take m).all spc) ∧ i = .int .i64 (m : Int) ∧ wr = u.drewN q
def TdIn (s : ByteArray) (b : Bool) (u : World) (v k : Value) (wr : World) : Prop :=
  ∃ m q : Nat, m ≤ s.size ∧ v = .bool (b && spL (s.data.toList.take m)) ∧ k = .int .i64 (m : Int) ∧ wr = u.drewN q
theorem all_next {V : List ByteArray} {i : Nat} {s : ByteArray} (h : V[i]? = some s) : (V.take (i + 1)).all spc = ((V.take i).all spc && spc s) := by
  rw [List.take_add_one, h, List.all_append]
  simp
theorem spL_next {s : ByteArray} {k : Nat} (h : k < s.size) : spL (s.data.toList.take (k + 1)) = (spL (s.data.toList.take k) && decide (s[k] = 32)) := by
  unfold spL
  rw [List.take_add_one, byte_at h, List.all_append]
  simp
set_option maxRecDepth 8000 in
set_option maxHeartbeats 8000000 in
theorem FnTrimDraw_walk (w : World) (a0 : Option Addr) (n0 c0 : Nat) (x0 : List Int) (h0 : InBytes w a0 n0 c0 x0) :
    Calls Tryd.prog 6 #[.slice a0 n0 c0] w fun e w' => e = .returned (.bool true) ∧ Below w.heap.size w w' := by
  have HD := Lib.hid (DrawDraw_any w a0 n0 c0 x0 h0)
  clear h0
  by_cases g0 : n0 ≤ 1048576
  case neg =>
    go_enter Tryd.func6, Tryd.ntmps6
    go_wp2
    go_ret
    exact ⟨rfl, Below.refl _ _⟩
  go_enter Tryd.func6, Tryd.ntmps6
  go_wp2_with fail
  refine HD.out.mono ?_
  rintro e w1 ⟨L, m, d, xs, pw, ph, rfl, hm, hmd, hx, hxs, hw0, hw1, hh0, hh1, hB⟩
  have B0 := Lib.hid hB
  have X0 := Lib.hid hx
  have XL := Lib.hid hx.placed_len
  have Z0 : Hid (∀ p ∈ xs, p.t.size ≤ 1048576) := fun s hs => by have := hxs s hs; omega
  clear hB hx hxs HD
  have hV60 : (drawP xs pw ph).length ≤ 60 := drawP_bound.1
  have hz60 : ∀ s ∈ drawP xs pw ph, s.size ≤ 60 := drawP_bound.2
  have hTB := trimT_blank (@drawP_rows xs pw ph)
  obtain ⟨V, hV⟩ : ∃ V, V = drawP xs pw ph := ⟨_, rfl⟩
  have CI := Lib.hid (fun w (h : Rd w 3 L m (placeds xs)) => implDraw_any L m d xs pw ph w h (by omega) Z0.out)
  have CS := Lib.hid (fun w (h : Rd w 3 L m (placeds xs)) => specDraw_any L m d xs pw ph w h (by omega) Z0.out)
  unfold DrRes at CI CS
  rw [← hV] at CI CS hV60 hz60 hTB
  have HZ := Lib.hid hz60
  have HTB := Lib.hid hTB
  clear hV hz60 hTB
  go_wp2_with fail
  refine (CI.out _ X0.out).mono ?_
  rintro e wa ⟨Ag, kg, dg, rfl, ho, hb⟩
  have Og := Lib.hid ho
  have B1 := Lib.hid hb
  have Kg := Lib.hid (Rd.own ho).slen
  clear ho hb
  go_wp2_with fail
  have hkl : V.length = kg := Kg.out
  refine (CS.out _ (X0.out.below B1.out)).mono ?_
  rintro e wc ⟨As, ks, ds, rfl, ho, hb⟩
  have hks : ks = kg := by have h := (Rd.own ho).slen; rw [← h, Kg.out]
  subst hks
  have Os := Lib.hid ho
  have Og3 := Lib.hid (own_below Og.out hb)
  have B3 := Lib.hid (below_step B1.out hb)
  clear ho hb
  go_wp2_with fail
  refine (equalTexts_any Ag As ks ks dg ds V V _ (Rd.own Og3.out) (Rd.own Os.out) (by omega) (by omega)).mono ?_
  rintro e wd2 ⟨rfl, hb⟩
  have B4 := Lib.hid (below_step B3.out (below_of_drew (B := wc.heap.size) hb))
  have Og4 := Lib.hid (own_below Og3.out (below_of_drew (B := wc.heap.size) hb))
  clear hb
  by_cases hk0 : ks = 0
  case pos =>
    have hk' : ((ks : Int) == 0) = true := by simp [hk0]
    clear hk0
    go_wp2_with fail
    refine (CS.out _ (X0.out.below B4.out)).mono ?_
    rintro e we ⟨At, kt, dt, rfl, ho, hb⟩
    have hkt : kt = ks := by have h := (Rd.own ho).slen; rw [← h, Kg.out]
    subst hkt
    have Ot := Lib.hid ho
    have Og5 := Lib.hid (own_below Og4.out hb)
    have B5 := Lib.hid (below_step B4.out hb)
    clear ho hb
    go_wp2_with fail
    refine (equalTexts_any Ag At kt kt dg dt V V _ (Rd.own Og5.out) (Rd.own Ot.out) (by omega) (by omega)).mono ?_
    rintro e wf ⟨rfl, hb⟩
    have B6 := Lib.hid (below_step B5.out (below_of_drew (B := we.heap.size) hb))
    clear hb
    go_wp2_with fail
    go_ret
    exact ⟨ret_bool (by simp), below_step B0.out B6.out⟩
  have hk' : ((ks : Int) == 0) = false := by simp; omega
  go_wp2_with fail
  go_loopw [7, 8] (TdOut V wd2) (fun _ i _ => V.length - (intOf i).toNat)
  case atStart => exact ⟨0, 0, Nat.zero_le _, rfl, rfl, rfl⟩
  case round =>
    obtain ⟨i, q, hi, rfl, rfl, rfl⟩ := hrel
    by_cases hlt : i < V.length
    case neg =>
      have hik : i = ks := by omega
      have hvi : V.take i = V := List.take_of_length_le (by omega)
      rw [hvi]
      obtain ⟨bl, hbl⟩ : ∃ bl, bl = V.all spc := ⟨_, rfl⟩
      rw [← hbl]
      have HBL := Lib.hid hbl
      have PG : Hid (Rd (wd2.drewN q) 1 Ag ks (strs' V)) := (Rd.own Og4.out).drewN q
      have CT := Lib.hid (implTrim_any Ag ks dg V (wd2.drewN q) PG.out (by omega) (fun s hs => by have := HZ.out s hs; omega))
      unfold TrRes at CT
      have B5 := Lib.hid (below_drewN' B4.out q)
      subst hik
      clear hvi hbl hlt hi
      go_wp2_with fail
      refine CT.out.mono ?_
      rintro e wf ⟨Ai, ki, ci, Ni, Ci, zs, rfl, ho, hiN, hzs, hb⟩
      have hki := (pre_rd ho hiN hzs).slen
      have hev : ((ki : Int) == 0) = bl := by
        cases hbb : bl with
        | true =>
          have h1 := HTB.out.2 (by rw [← HBL.out]; exact hbb)
          simp
          omega
        | false =>
          have h1 : ¬ (trimT V).length = 0 := fun h => by
            have h2 := HTB.out.1 h
            rw [← HBL.out, hbb] at h2
            cases h2
          simp
          omega
      have B7 := Lib.hid (below_step B5.out hb)
      have HEV := Lib.hid hev
      clear ho hzs hb hki hev
      go_wp2_with fail
      go_ret
      exact ⟨ret_bool (by rw [HEV.out]; simp), below_step B0.out B7.out⟩
    obtain ⟨b1, o1, s, eA, es, hcs⟩ := (Rd.own Og4.out).str_at (k := i) (by omega)
    have hs60 : s.size ≤ 60 := HZ.out s (List.mem_of_getElem? es)
    have hcs' : wd2.cell? ⟨b1, o1 + i, none⟩ = some (.string s) := hcs
    have hik' : (i : Int) < (ks : Int) := by omega
    have hi0 : (0 : Int) ≤ (i : Int) := by omega
    have HNX := Lib.hid (all_next es)
    subst eA
    obtain ⟨b0, hb0⟩ : ∃ b0, b0 = (V.take i).all spc := ⟨_, rfl⟩
    rw [← hb0] at HNX
    rw [← hb0]
    clear es hcs hlt hb0
    go_wp2_with fail
    go_loopw [7, 9] (TdIn s b0 wd2) (fun _ k _ => s.size - (intOf k).toNat)
    case atStart => exact ⟨0, q, Nat.zero_le _, by simp [spL], rfl, rfl⟩
    case round =>
      obtain ⟨k, q2, hk, rfl, rfl, rfl⟩ := hrel
      by_cases hlt : k < s.size
      case neg =>
        have hks : k = s.size := by omega
        have hks2 : ¬ (k : Int) < (s.size : Int) := by omega
        have hall : spL (s.data.toList.take k) = spc s := by rw [hks]; unfold spc; rw [List.take_of_length_le (l := s.data.toList) (i := s.size) (Nat.le_refl _)]
        rw [hall]
        obtain ⟨bz, hbz⟩ : ∃ bz, bz = (b0 && spc s) := ⟨_, rfl⟩
        rw [← hbz] at HNX
        rw [← hbz]
        clear hbz hall hlt hks
        go_wp2_with fail
        go_roundw
        case rel => exact ⟨i + 1, q2, by omega, by rw [HNX.out], by go_num, rfl⟩
        case measure => simp [intOf] <;> omega
      have hk' : (k : Int) < (s.size : Int) := by omega
      have hk0 : (0 : Int) ≤ (k : Int) := by omega
      have HN := Lib.hid (spL_next hlt)
      obtain ⟨bk, hbk⟩ : ∃ bk, bk = (b0 && spL (s.data.toList.take k)) := ⟨_, rfl⟩
      have HBK := Lib.hid hbk
      rw [← hbk]
      clear hbk
      cases bk
      case false =>
        go_wp2_with fail
        go_roundw
        case rel => exact ⟨k + 1, q2, by omega, by rw [HN.out, ← Bool.and_assoc, ← HBK.out]; rfl, by go_num, rfl⟩
        case measure => simp [intOf] <;> omega
      by_cases hc : s[k] = 32
      case pos =>
        have hcv : (s[k].toNat : Int) = 32 := by rw [hc]; rfl
        have hd : decide (s[k] = 32) = true := decide_eq_true hc
        rw [hd] at HN
        clear hc hd
        go_wp2_with fail
        go_roundw
        case rel => exact ⟨k + 1, q2, by omega, by rw [HN.out, ← Bool.and_assoc, ← HBK.out]; rfl, by go_num, rfl⟩
        case measure => simp [intOf] <;> omega
      have hcv : ((s[k].toNat : Int) == 32) = false := by
        simp only [beq_eq_false_iff_ne]
        intro h
        exact hc (by apply UInt8.toNat.inj; show s[k].toNat = 32; omega)
      have hd : decide (s[k] = 32) = false := decide_eq_false hc
      rw [hd] at HN
      clear hc hd
      go_wp2_with fail
      go_roundw
      case rel => exact ⟨k + 1, q2, by omega, by rw [HN.out, ← Bool.and_assoc, ← HBK.out]; rfl, by go_num, rfl⟩
      case measure => simp [intOf] <;> omega
end Go.Proofs.YtigcbnehcofbcaaDoor
