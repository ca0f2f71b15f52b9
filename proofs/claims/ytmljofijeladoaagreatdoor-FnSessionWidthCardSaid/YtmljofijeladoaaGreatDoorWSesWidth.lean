/-
  The walk of FnSessionWidth: commands that fail change nothing.
-/
import Derived.Test.YtmljofijeladoaaGreatDoorSesLaws
import Derived.Test.YtmljofijeladoaaGreatDoorDrawSes
import Derived.Test.YtmljofijeladoaaGreatDoorTxtLaid2
import Derived.IntWalk
namespace Go.Proofs.YtmljofijeladoaaGreatDoor
open Go.RowKit
set_option linter.unusedVariables false

theorem pre_extract2 {a r : List UInt8} : (baL (a ++ r)).extract 0 (baL a).size = baL a := by
  apply ba_ext
  rw [ext_toList, baL_list, baL_list, List.drop_zero]
  show (a ++ r).take (a.length - 0) = a
  rw [Nat.sub_zero, List.take_left]
theorem mid_extract {a l r : List UInt8} (hl : l.length = 6) : (baL (a ++ (l ++ r))).extract (baL a).size ((baL a).size + 6) = baL l := by
  apply ba_ext
  rw [ext_toList, baL_list, baL_list]
  show ((a ++ (l ++ r)).drop a.length).take (a.length + 6 - a.length) = l
  rw [List.drop_left, show a.length + 6 - a.length = l.length by omega, List.take_left]
theorem end_extract {a l r : List UInt8} (hl : l.length = 6) : (baL (a ++ (l ++ r))).extract ((baL a).size + 6) (baL (a ++ (l ++ r))).size = (baL (a ++ r)).extract (baL a).size (baL (a ++ r)).size := by
  apply ba_ext
  rw [ext_toList, ext_toList, baL_list, baL_list]
  show ((a ++ (l ++ r)).drop (a.length + 6)).take ((a ++ (l ++ r)).length - (a.length + 6)) = ((a ++ r).drop a.length).take ((a ++ r).length - a.length)
  rw [List.drop_left, show a.length + 6 = (a ++ l).length by rw [List.length_append, hl], ← List.append_assoc, List.drop_left, List.length_append (bs := r), List.length_append (bs := r)]
  rw [Nat.add_sub_cancel_left, Nat.add_sub_cancel_left]
theorem own_zero {w : World} {b n : Nat} {v : Value} {xs : List ByteArray} (h : w.ownsRow b 9 1 v (0 + n) (strs' [] ++ strs' xs)) : w.ownsRow b 9 1 v n (strs' xs) := by
  simpa [strs'] using h
theorem own_three {w : World} {b : Nat} {v : Value} {m : Nat} {out : List ByteArray} (h : w.ownsRow b 9 1 v (m + 3) (strs' out ++ [.string ⟨#[119, 105, 100, 116, 104, 32, 49, 57]⟩, .string ⟨#[119, 111, 114, 100, 115, 32, 65]⟩, .string ⟨#[102, 105, 108, 108]⟩])) :
    w.ownsRow b 9 1 v (m + 3) (strs' (out ++ [xW19, xWA, baL tFill])) := by
  have e : strs' (out ++ [xW19, xWA, baL tFill]) = strs' out ++ [.string ⟨#[119, 105, 100, 116, 104, 32, 49, 57]⟩, .string ⟨#[119, 111, 114, 100, 115, 32, 65]⟩, .string ⟨#[102, 105, 108, 108]⟩] := by
    simp [strs', xW19, xWA, tFill, baL]
  rw [e]; exact h
set_option maxHeartbeats 8000000 in
set_option maxRecDepth 8000 in
theorem FnSessionWidth_walk (w : World) (a0 : Option Addr) (n0 c0 : Nat) (x0 : List Int) (h0 : InBytes w a0 n0 c0 x0) (ht : TB w) (ha : AT w) (hm : ML w) :
    Calls Tryz.prog 5 #[.slice a0 n0 c0] w fun e w' => e = .returned (.bool true) ∧ Below w.heap.size w w' := by
  have HD := Lib.hid (drawSes_any w a0 n0 c0 x0 h0)
  have IR := Lib.hid (fun A n c l w1 (hb : Below w.heap.size w w1) hx (hn : n ≤ 1048576) (hz : ∀ t ∈ l, t.size ≤ 1048576) => implRun_any A n c l w1 hx hn hz (ht.below hb) (ha.below hb) (hm.below hb))
  clear h0 ht ha hm
  by_cases g0 : n0 ≤ 1048576
  case neg =>
    go_enter Tryz.func5, Tryz.ntmps5
    go_wp2
    go_ret
    exact ⟨rfl, Below.refl _ _⟩
  go_enter Tryz.func5, Tryz.ntmps5
  go_wp2_with fail
  refine HD.out.mono ?_
  rintro e w1 ⟨L, m, d, xs, rfl, hm, ho, hz, hb⟩
  have hlx : xs.length = m := own_len ho
  have O1 := Lib.hid (Rd.own ho)
  have B1 := Lib.hid hb
  have Z1 : Hid (∀ t ∈ xs, t.size ≤ 1048576) := fun t h => by have := hz t h; omega
  clear hb ho hz HD
  have CI := Lib.hid (fun w2 hb hx => IR.out L m d xs w2 hb hx (by omega) Z1.out)
  have CS := Lib.hid (fun w2 hx => specRun_any L m d xs w2 hx (by omega) (fun t h => by have := Z1.out t h; omega))
  have HL := Lib.hid hlx
  clear hlx
  obtain ⟨E, hE⟩ : ∃ E, E = baL (sess xs) := ⟨_, rfl⟩
  rw [← hE] at CI CS
  have cm : (E.toList != E.toList) = false := by simp
  have cm2 : (E.toList == E.toList) = true := by simp
  have HE := Lib.hid hE
  clear hE
  by_cases h30 : 30 < m + 3
  · have h30' : (30 : Int) < (m : Int) + 3 := by omega
    go_wp2_with fail
    refine (CI.out _ B1.out O1.out).mono ?_
    rintro e w2 ⟨rfl, hb⟩
    have B2 := Lib.hid (below_step B1.out hb)
    have O2 := Lib.hid (O1.out.below hb)
    clear hb
    go_wp2_with fail
    refine (CS.out _ O2.out).mono ?_
    rintro e w3 ⟨rfl, hb⟩
    have B3 := Lib.hid (below_step B2.out hb)
    have O3 := Lib.hid (O2.out.below hb)
    clear hb
    go_wp2_with fail
    refine (CS.out _ O3.out).mono ?_
    rintro e w4 ⟨rfl, hb⟩
    have B4 := Lib.hid (below_step B3.out hb)
    clear hb
    go_wp2_with fail
    go_ret
    exact ⟨rfl, B4.out⟩
  have h30' : ¬ (30 : Int) < (m : Int) + 3 := by omega
  have hm27 : m ≤ 27 := by omega
  go_wp2_with fail
  refine (CI.out _ B1.out O1.out).mono ?_
  rintro e w2 ⟨rfl, hb⟩
  have B2 := Lib.hid (below_step B1.out hb)
  have O2 := Lib.hid (O1.out.below hb)
  clear hb
  go_wp2_with fail
  refine (CS.out _ O2.out).mono ?_
  rintro e w3 ⟨rfl, hb⟩
  have B3 := Lib.hid (below_step B2.out hb)
  have O3 := Lib.hid (O2.out.below hb)
  clear hb
  have hs3 := B3.out.size
  have ON := Lib.hid (str_nil w3)
  have OA := Lib.hid (O3.out.below ((Below.refl _ _).alloc (Nat.le_refl _) (.cells #[] 9)))
  have BA := Lib.hid ((Below.refl w3.heap.size w3).alloc (Nat.le_refl _) (.cells #[] 9))
  have hl27 := HL.out
  have WA := Lib.hid (fun A c w4 hb (hx : Rd w4 1 A (m + 1) (strs' (xs ++ [baL tFill]))) => IR.out A (m + 1) c (xs ++ [baL tFill]) w4 hb hx (by omega) (fun t ht => by
    rcases List.mem_append.1 ht with h | h
    · exact Z1.out t h
    · obtain rfl := List.mem_singleton.1 h; decide))
  have WB := Lib.hid (fun A c w4 hb (hx : Rd w4 1 A (m + 3) (strs' (xs ++ [xW19, xWA, baL tFill]))) => IR.out A (m + 3) c (xs ++ [xW19, xWA, baL tFill]) w4 hb hx (by omega) (fun t ht => by
    rcases List.mem_append.1 ht with h | h
    · exact Z1.out t h
    · simp only [List.mem_cons, List.not_mem_nil, or_false] at h
      rcases h with rfl | rfl | rfl <;> decide))
  rw [sess_fill (by omega)] at WA
  rw [sess_fail (by omega)] at WB
  obtain ⟨f, hf⟩ : ∃ f, f = srun (send st0 xs) [baL tFill] := ⟨_, rfl⟩
  rw [← hf] at WA WB
  have X1 := pre_extract2 (a := sess xs) (r := f)
  have X2 := pre_extract2 (a := sess xs) (r := [110, 111, 10, 110, 111, 10] ++ f)
  have X3 := mid_extract (a := sess xs) (l := [110, 111, 10, 110, 111, 10]) (r := f) rfl
  have X4 := end_extract (a := sess xs) (l := [110, 111, 10, 110, 111, 10]) (r := f) rfl
  have hES : (baL (sess xs)).size ≤ 90000 := sess_len xs
  have S1 : (baL (sess xs ++ f)).size = (baL (sess xs)).size + f.length := List.length_append
  have S2 : (baL (sess xs ++ ([110, 111, 10, 110, 111, 10] ++ f))).size = (baL (sess xs)).size + (6 + f.length) := by
    show (sess xs ++ ([110, 111, 10, 110, 111, 10] ++ f)).length = (sess xs).length + (6 + f.length)
    simp; omega
  rw [← HE.out] at X1 X2 X3 X4 S1 S2 hES
  obtain ⟨TA, hTA⟩ : ∃ TA, TA = baL (sess xs ++ f) := ⟨_, rfl⟩
  obtain ⟨TB', hTB⟩ : ∃ TB', TB' = baL (sess xs ++ ([110, 111, 10, 110, 111, 10] ++ f)) := ⟨_, rfl⟩
  rw [← hTA] at WA X1 X4 S1
  rw [← hTB] at WB X2 X3 X4 S2
  have t1 : ((TA.extract 0 E.size).toList == E.toList) = true := str_same X1
  have t2 : ((TB'.extract 0 E.size).toList == E.toList) = true := str_same X2
  have t3 := str_sameL X3
  have t3' : ((TB'.extract E.size (E.size + 6)).toList == (⟨#[110, 111, 10, 110, 111, 10]⟩ : ByteArray).toList) = true := str_same X3
  have t4 : ((TB'.extract (E.size + 6) TB'.size).toList == (TA.extract E.size TA.size).toList) = true := str_same X4
  have k1 : E.size ≤ TA.size := by omega
  have k2 : E.size + 6 ≤ TB'.size := by omega
  clear X1 X2 X3 X4 S1 S2 hTA hTB hf HE hl27
  go_wp2_with (first
    | (at_builtin
       refine app_rd elemStr rfl (.tmp 29) (.tmp 30) rfl ON.out _ OA.out rfl rfl (strs_one _) (by omega) (by simp) ?_
       intro v4 w4 ho hg
       have OW4 := Lib.hid (own_zero ho)
       have D4 := Lib.hid (below_app BA.out hg ON.out (Nat.le_refl _))
       have hs4 : w3.heap.size ≤ w4.heap.size := by have := hg.size; simp at this; omega
       clear ho hg)
    | (at_builtin
       refine app_lit elemStr rfl (.tmp 31) (.tmp 32) rfl OW4.out _ _ [.string ⟨#[102, 105, 108, 108]⟩] rfl rfl rfl (by simp [Value.oneCell']) (by omega) hs4 ?_
       intro v5 w5 ho hg
       have OW5 := Lib.hid (own_strs ho)
       have D5 := Lib.hid (below_app (D4.out.alloc hs4 _) hg OW4.out (Nat.le_refl _))
       obtain ⟨A5, c5, e5, hc5⟩ := own_shape OW5.out
       subst e5
       clear ho hg))
  refine (WA.out A5 c5 _ (below_step B3.out D5.out) (Rd.own OW5.out)).mono ?_
  rintro e w6 ⟨rfl, hb⟩
  have D6 := Lib.hid (below_step D5.out hb)
  have B6 := Lib.hid (below_step B3.out D6.out)
  have O6 := Lib.hid (O3.out.below D6.out)
  clear hb
  have ON6 := Lib.hid (str_nil w6)
  have OA6 := Lib.hid (O6.out.below ((Below.refl _ _).alloc (Nat.le_refl _) (.cells #[] 9)))
  have BA6 := Lib.hid ((Below.refl w6.heap.size w6).alloc (Nat.le_refl _) (.cells #[] 9))
  go_wp2_with (first
    | (at_builtin
       refine app_rd elemStr rfl (.tmp 35) (.tmp 36) rfl ON6.out _ OA6.out rfl rfl (strs_one _) (by omega) (by simp) ?_
       intro v7 w7 ho hg
       have OW7 := Lib.hid (own_zero ho)
       have D7 := Lib.hid (below_app BA6.out hg ON6.out (Nat.le_refl _))
       have hs7 : w6.heap.size ≤ w7.heap.size := by have := hg.size; simp at this; omega
       clear ho hg)
    | (at_builtin
       refine app_lit elemStr rfl (.tmp 37) (.tmp 38) rfl OW7.out _ _ [.string ⟨#[119, 105, 100, 116, 104, 32, 49, 57]⟩, .string ⟨#[119, 111, 114, 100, 115, 32, 65]⟩, .string ⟨#[102, 105, 108, 108]⟩] rfl rfl rfl (by simp [Value.oneCell']) (by omega) hs7 ?_
       intro v8 w8 ho hg
       have OW8 := Lib.hid (own_three ho)
       have D8 := Lib.hid (below_app (D7.out.alloc hs7 _) hg OW7.out (Nat.le_refl _))
       obtain ⟨A8, c8, e8, hc8⟩ := own_shape OW8.out
       subst e8
       clear ho hg))
  refine (WB.out A8 c8 _ (below_step B6.out D8.out) (Rd.own OW8.out)).mono ?_
  rintro e w9 ⟨rfl, hb⟩
  have B9 := Lib.hid (below_step (below_step B6.out D8.out) hb)
  clear hb
  go_wp2_with fail
  have i1 : IntKind.i64.wrap ((E.size : Int) + 6) = (E.size : Int) + 6 := IntWalk.i64_in _ (by omega)
  have i2 : (0 : Int) ≤ (E.size : Int) + 6 := by omega
  have i3 : ((E.size : Int) + 6).toNat = E.size + 6 := by omega
  have i4 : (E.size : Int) + 6 ≤ (TB'.size : Int) := by omega
  have i5 : (E.size : Int) ≤ (TA.size : Int) := by omega
  have i6 : (E.size : Int) ≤ (TB'.size : Int) := by omega
  have i7 : E.size ≤ TB'.size := by omega
  go_quiet (fail)
  go_wp2_with fail
  go_ret
  exact ⟨rfl, below_drewN' B9.out _⟩
end Go.Proofs.YtmljofijeladoaaGreatDoor
