/-
  The walk of FnSessionPrefix: what the first lines print is a beginning of what all print; lines behind the thirtieth print nothing.
-/
import Derived.Test.YtmljofijeladoaaGreatDoorSesLaws
import Derived.Test.YtmljofijeladoaaGreatDoorDrawSes
import Derived.Test.YtmljofijeladoaaGreatDoorTxtLaid2
namespace Go.Proofs.YtmljofijeladoaaGreatDoor
open Go.RowKit
set_option linter.unusedVariables false

theorem pre_extract {a b r : List UInt8} (h : b = a ++ r) : (baL b).extract 0 (baL a).size = baL a := by
  apply ba_ext
  rw [ext_toList, h, baL_list, baL_list, List.drop_zero]
  show (a ++ r).take (a.length - 0) = a
  rw [Nat.sub_zero, List.take_left]
theorem strs_take (xs : List ByteArray) (k : Nat) : (strs' xs).take (k * 1) = strs' (xs.take k) := by rw [Nat.mul_one, strs', strs', List.map_take]
set_option maxHeartbeats 4000000 in
theorem FnSessionPrefix_walk (w : World) (a0 : Option Addr) (n0 c0 : Nat) (x0 : List Int) (h0 : InBytes w a0 n0 c0 x0) (a1 : Option Addr) (n1 c1 : Nat) (x1 : List Int) (h1 : InBytes w a1 n1 c1 x1) (ht : TB w) (ha : AT w) (hm : ML w) :
    Calls Tryz.prog 4 #[.slice a0 n0 c0, .slice a1 n1 c1] w fun e w' => e = .returned (.bool true) ∧ Below w.heap.size w w' := by
  have HD := Lib.hid (drawSes_any w a0 n0 c0 x0 h0)
  have IR := Lib.hid (fun A n c l w1 (hb : Below w.heap.size w w1) hx (hn : n ≤ 1048576) (hz : ∀ t ∈ l, t.size ≤ 1048576) => implRun_any A n c l w1 hx hn hz (ht.below hb) (ha.below hb) (hm.below hb))
  clear h0 h1 ht ha hm
  by_cases g0 : n0 ≤ 1048576
  case neg =>
    go_enter Tryz.func4, Tryz.ntmps4
    go_wp2
    go_ret
    exact ⟨rfl, Below.refl _ _⟩
  by_cases g1 : n1 ≤ 1048576
  case neg =>
    go_enter Tryz.func4, Tryz.ntmps4
    go_wp2
    go_ret
    exact ⟨rfl, Below.refl _ _⟩
  go_enter Tryz.func4, Tryz.ntmps4
  go_wp2_with fail
  refine HD.out.mono ?_
  rintro e w1 ⟨L, m, d, xs, rfl, hm, ho, hz, hb⟩
  have O1 := Lib.hid (Rd.own ho)
  have hmd : m ≤ d := by
    obtain ⟨A', c', e, hc⟩ := own_shape ho
    injection e with _ _ e
    omega
  have B1 := Lib.hid hb
  have Z1 : Hid (∀ t ∈ xs, t.size ≤ 1048576) := fun t h => by have := hz t h; omega
  clear hb ho hz HD
  obtain ⟨k, hk, hkm⟩ : ∃ k : Nat, (n1 : Int) % ((m : Int) + 1) = (k : Int) ∧ k ≤ m := ⟨n1 % (m + 1), by simp, Nat.lt_succ_iff.1 (Nat.mod_lt n1 (Nat.succ_pos m))⟩
  have hkd : k ≤ d := by omega
  obtain ⟨r, hr⟩ := sess_take xs k
  have PX := Lib.hid (pre_extract hr)
  have PL : Hid ((baL (sess (xs.take k))).size ≤ (baL (sess xs)).size) := by
    show (sess (xs.take k)).length ≤ (sess xs).length
    rw [hr, List.length_append]; omega
  clear hr
  have CK := Lib.hid (fun w2 hb hx => IR.out L k d (xs.take k) w2 hb hx (by omega) (fun t h => Z1.out t (List.mem_of_mem_take h)))
  have CT := Lib.hid (fun w2 hb hx (h : 30 ≤ m) => IR.out L 30 d (xs.take 30) w2 hb hx (by omega) (fun t h => Z1.out t (List.mem_of_mem_take h)))
  rw [sess_thirty] at CT
  have CI := Lib.hid (fun w2 hb hx => IR.out L m d xs w2 hb hx (by omega) Z1.out)
  have CS := Lib.hid (fun w2 hx => specRun_any L m d xs w2 hx (by omega) (fun t h => by have := Z1.out t h; omega))
  obtain ⟨E, hE⟩ : ∃ E, E = baL (sess xs) := ⟨_, rfl⟩
  obtain ⟨P, hP⟩ : ∃ P, P = baL (sess (xs.take k)) := ⟨_, rfl⟩
  rw [← hE] at CI CS CT PX PL
  rw [← hP] at CK PX PL
  have cm : (E.toList != E.toList) = false := by simp
  have cm2 : (E.toList == E.toList) = true := by simp
  have hpl := PL.out
  have px : ((E.extract 0 P.size).toList == P.toList) = true := str_same PX.out
  clear hE hP
  go_wp2_with fail
  refine (CI.out _ B1.out O1.out).mono ?_
  rintro e w2 ⟨rfl, hb⟩
  have B2 := Lib.hid (below_step B1.out hb)
  have O2 := Lib.hid (O1.out.below hb)
  clear hb
  go_wp2_with fail
  refine (CS.out _ O2.out).mono ?_
  rintro e w3 ⟨rfl, hb⟩
  have B3 := Lib.hid (below_step B2.out hb)
  have O3 := Lib.hid (O2.out.below hb)
  clear hb
  have OK := O3.out.take hkm
  rw [strs_take] at OK
  have OK := Lib.hid OK
  go_wp2_with fail
  refine (CK.out _ B3.out OK.out).mono ?_
  rintro e w4 ⟨rfl, hb⟩
  have B4 := Lib.hid (below_step B3.out hb)
  have O4 := Lib.hid (O3.out.below hb)
  clear hb
  by_cases h30 : 30 < m
  · have OT := O4.out.take (k := 30) (by omega)
    rw [strs_take] at OT
    have OT := Lib.hid OT
    have h30d : 30 ≤ d := by omega
    go_wp2_with fail
    refine (CT.out _ B4.out OT.out (by omega)).mono ?_
    rintro e w5 ⟨rfl, hb⟩
    have B5 := Lib.hid (below_step B4.out hb)
    clear hb
    go_wp2_with fail
    go_ret
    exact ⟨rfl, B5.out⟩
  · go_wp2_with fail
    refine (CI.out _ B4.out O4.out).mono ?_
    rintro e w5 ⟨rfl, hb⟩
    have B5 := Lib.hid (below_step B4.out hb)
    clear hb
    go_wp2_with fail
    go_ret
    exact ⟨rfl, B5.out⟩
end Go.Proofs.YtmljofijeladoaaGreatDoor
