/-
  The walk of FnShowText: shown texts have all characters, in the order of OrderOf.
-/
import Derived.Test.YtonkminebememaaShowLaws
namespace Go.Proofs.Ytonkminebememaa
open Go.RowKit
set_option linter.unusedVariables false


set_option maxHeartbeats 8000000 in
theorem FnShowText_walk (w : World) (a0 : Option Addr) (n0 c0 : Nat) (x0 : List Int) (h0 : InBytes w a0 n0 c0 x0) :
    Calls Try.prog 8 #[.slice a0 n0 c0] w fun e w' => e = .returned (.bool true) ∧ Below w.heap.size w w' := by
  have HD := Lib.hid (DrawShowText_any w a0 n0 c0 x0 h0)
  clear h0
  by_cases g0 : n0 ≤ 1048576
  case neg =>
    go_enter Try.func8, Try.ntmps8
    go_wp2
    go_ret
    exact ⟨rfl, Below.refl _ _⟩
  go_enter Try.func8, Try.ntmps8
  go_wp2_with fail
  refine HD.out.mono ?_
  rintro e w1 ⟨s, b, rfl, hs, hb0, hb1, hB⟩
  have B0 := Lib.hid hB
  clear hB HD
  have HNE := Lib.hid (@show_ne s b)
  have HSZ := Lib.hid (@showL_size s b)
  obtain ⟨S, hS⟩ : ∃ S, S = showL s b := ⟨_, rfl⟩
  have C2 := Lib.hid (fun w => implShow_any s b w (by omega))
  have C1 := Lib.hid (fun w => specShow_any s b w (by omega))
  rw [← hS] at C1 C2 HNE HSZ
  have HS := Lib.hid hS
  clear hS
  have hne : (S.toList != S.toList) = false := by simp
  go_wp2_with fail
  refine (C2.out _).mono ?_
  rintro e wa ⟨rfl, hb⟩
  have B1 := Lib.hid (below_step B0.out hb)
  clear hb
  go_wp2_with fail
  refine (C1.out _).mono ?_
  rintro e wb ⟨rfl, hb⟩
  have B2 := Lib.hid (below_step B1.out hb)
  clear hb
  by_cases hz : S = ⟨#[]⟩
  case pos =>
    subst hz
    go_wp2_with fail
    refine (C1.out _).mono ?_
    rintro e wc ⟨rfl, hb⟩
    have B3 := Lib.hid (below_step B2.out hb)
    clear hb
    go_wp2_with fail
    go_ret
    exact ⟨rfl, B3.out⟩
  have hz' : (S.toList == []) = false := str_no hz
  obtain ⟨hvt, hv0, hv1, hle, hlen⟩ := HNE.out hz
  have hSs : S.size = s.size := by rw [HSZ.out, hlen]
  have hl60 := lvls_le s b
  have HBD := Lib.hid (@lvls_bd s b)
  have HGT := Lib.hid (fun k x h hx hk => @show_get s b k x h hx hk)
  have LV := Lib.hid (fun w => implLevels_any s b w (by omega))
  unfold LevRes at LV
  rw [← HS.out] at HGT
  clear hz hvt hle HNE HSZ
  obtain ⟨ls, hls⟩ : ∃ ls, ls = lvls s b := ⟨_, rfl⟩
  rw [← hls] at hlen hl60 HBD HGT LV
  have HLN := Lib.hid hlen
  clear hls hlen HS
  go_wp2_with fail
  refine (LV.out _).mono ?_
  rintro e wc ⟨A, n, c, rfl, hk, ho, hb⟩
  have HK := Lib.hid hk
  have hn60 : n ≤ 60 := by omega
  clear hk
  have O1 := Lib.hid ho
  have B3 := Lib.hid (below_step B2.out hb)
  clear ho hb
  have CO := Lib.hid (implOrder_any A n c ls wc (Rd.own O1.out) hn60 HBD.out)
  unfold OrdRes at CO
  go_wp2_with fail
  refine CO.out.mono ?_
  rintro e wd ⟨A2, n2, c2, rfl, hk2, ho2, hb2⟩
  have B4 := Lib.hid (below_step B3.out hb2)
  have O2 := Lib.hid ho2
  have hn2 : n2 = s.size := by rw [hk2, HLN.out]
  have HOL : Hid ((ordL ls).length = n2) := by show (ordL ls).length = n2; rw [ordL_length, hk2]
  have HOM : Hid (∀ x ∈ ordL ls, x < s.size) := fun x hx => by rw [← HLN.out]; exact ordL_lt hx
  clear ho2 hb2 hk2 hl60
  subst hn2
  obtain ⟨o, hoo⟩ : ∃ o, o = ordL ls := ⟨_, rfl⟩
  rw [← hoo] at O2 HOL HOM HGT
  clear hoo
  go_wp2_with fail
  go_loopw [7] (fun i wr => ∃ k q : Nat, k ≤ s.size ∧ i = .int .i64 (k : Int) ∧ wr = wd.drewN q) (fun i _ => s.size - (intOf i).toNat)
  case atStart => exact ⟨0, 0, Nat.zero_le _, rfl, rfl⟩
  case round =>
    obtain ⟨k, q, hk, rfl, rfl⟩ := hrel
    by_cases hlt : k < s.size
    case neg =>
      obtain rfl : k = s.size := by omega
      go_wp2_with fail
      go_ret
      exact ⟨rfl, below_drewN' B4.out q⟩
    have hlt' : (k : Int) < (s.size : Int) := by omega
    have hk0 : (0 : Int) ≤ (k : Int) := by omega
    have hok : o[k]? = some (o[k]'(by rw [HOL.out]; exact hlt)) := List.getElem?_eq_getElem _
    obtain ⟨x, ex⟩ : ∃ x, o[k]? = some x := ⟨_, hok⟩
    clear hok
    have hx := HOM.out x (List.mem_of_getElem? ex)
    have hx' : (x : Int) < (s.size : Int) := by omega
    have hx0 : (0 : Int) ≤ (x : Int) := by omega
    obtain ⟨b2, o2, y, eA, ey, hcy⟩ := (Rd.own O2.out).int_at hlt
    rw [nats_get ex] at ey
    injection ey with ey
    subst ey
    subst eA
    have hkS : k < S.size := by omega
    have hkS' : (k : Int) < (S.size : Int) := by omega
    have hnb : ((S[k].toNat : Int) != (s[x].toNat : Int)) = false := by rw [HGT.out k x ex hx hkS]; simp
    clear ex
    go_wp2_with fail
    go_quiet (fail)
    go_wp2_with fail
    go_roundw
    case rel => exact ⟨k + 1, _, by omega, by go_num, rfl⟩
    case measure => simp [intOf] <;> omega
end Go.Proofs.Ytonkminebememaa
