/-
  The walk of FnSessionEmpty: an empty session prints nothing; before words count prints 0 and fill nothing.
-/
import Derived.Test.YtmljofijeladoaaGreatDoorSesLaws
import Derived.Test.YtmljofijeladoaaGreatDoorDrawSes
import Derived.Test.YtmljofijeladoaaGreatDoorTxtLaid2
namespace Go.Proofs.YtmljofijeladoaaGreatDoor
open Go.RowKit
set_option linter.unusedVariables false

set_option maxHeartbeats 4000000 in
theorem FnSessionEmpty_walk (w : World) (a0 : Option Addr) (n0 c0 : Nat) (x0 : List Int) (h0 : InBytes w a0 n0 c0 x0) (ht : TB w) (ha : AT w) (hm : ML w) :
    Calls Tryz.prog 3 #[.slice a0 n0 c0] w fun e w' => e = .returned (.bool true) ∧ Below w.heap.size w w' := by
  have HD := Lib.hid (drawSes_any w a0 n0 c0 x0 h0)
  have IR := Lib.hid (fun A n c l w1 (hb : Below w.heap.size w w1) hx (hn : n ≤ 1048576) (hz : ∀ t ∈ l, t.size ≤ 1048576) => implRun_any A n c l w1 hx hn hz (ht.below hb) (ha.below hb) (hm.below hb))
  clear h0 ht ha hm
  by_cases g0 : n0 ≤ 1048576
  case neg =>
    go_enter Tryz.func3, Tryz.ntmps3
    go_wp2
    go_ret
    exact ⟨rfl, Below.refl _ _⟩
  go_enter Tryz.func3, Tryz.ntmps3
  go_wp2_with fail
  refine HD.out.mono ?_
  rintro e w1 ⟨L, m, d, xs, rfl, hm, ho, hz, hb⟩
  have O1 := Lib.hid (Rd.own ho)
  have B1 := Lib.hid hb
  have Z1 := Lib.hid hz
  clear hb ho hz HD
  obtain ⟨E, hE⟩ : ∃ E, E = baL (sess xs) := ⟨_, rfl⟩
  have CI := Lib.hid (IR.out L m d xs w1 B1.out O1.out (by omega) (fun t h => by have := Z1.out t h; omega))
  have CS := Lib.hid (fun w2 hx => specRun_any L m d xs w2 hx (by omega) (fun t h => by have := Z1.out t h; omega))
  rw [← hE] at CI CS
  have cm : (E.toList != E.toList) = false := by simp
  have cm2 : (E.toList == E.toList) = true := by simp
  clear hE
  go_wp2_with fail
  refine CI.out.mono ?_
  rintro e w2 ⟨rfl, hb⟩
  have B2 := Lib.hid (below_step B1.out hb)
  have O2 := Lib.hid (O1.out.below hb)
  clear hb
  go_wp2_with fail
  refine (CS.out _ O2.out).mono ?_
  rintro e w3 ⟨rfl, hb⟩
  have B3 := Lib.hid (below_step B2.out hb)
  clear hb CI CS cm cm2
  obtain ⟨F0, hF0⟩ : ∃ F0, F0 = baL [] := ⟨_, rfl⟩
  obtain ⟨F5, hF5⟩ : ∃ F5, F5 = baL [48, 10, 10, 48, 10, 119, 104, 97, 116, 10] := ⟨_, rfl⟩
  have B4 := Lib.hid (B3.out.alloc B3.out.size (.cells #[] 9))
  have CE := IR.out (some ⟨w3.heap.size, 0, none⟩) 0 0 [] _ B4.out (Rd.nil _ _ _) (by omega) (fun t h => by cases h)
  rw [sess_nil, ← hF0] at CE
  have CE := Lib.hid CE
  have s0 := str_sameL hF0
  have q0 : (F0.toList == (⟨#[]⟩ : ByteArray).toList) = true := str_same hF0
  have s5 := str_sameL hF5
  have q5 : (F5.toList == (⟨#[48, 10, 10, 48, 10, 119, 104, 97, 116, 10]⟩ : ByteArray).toList) = true := str_same hF5
  have C5 : Hid (∀ w1 d, Below w.heap.size w w1 → Calls Tryz.prog 7 #[.slice (some ⟨w1.heap.size, 0, none⟩) 5 d] (w1.alloc (.cells #[.string ⟨#[99, 111, 117, 110, 116]⟩, .string ⟨#[102, 105, 108, 108]⟩, .string ⟨#[101, 110, 100, 115]⟩, .string ⟨#[99, 111, 115, 116]⟩, .string ⟨#[104, 101, 108, 112]⟩] 9)) fun e w' => e = .returned (.string F5) ∧ Below w.heap.size w w') := fun w1 d hb => by
    have h := IR.out (some ⟨w1.heap.size, 0, none⟩) 5 d [baL tCount, baL tFill, baL tEnds, baL tCost, baL tHelp] (w1.alloc (.cells #[.string ⟨#[99, 111, 117, 110, 116]⟩, .string ⟨#[102, 105, 108, 108]⟩, .string ⟨#[101, 110, 100, 115]⟩, .string ⟨#[99, 111, 115, 116]⟩, .string ⟨#[104, 101, 108, 112]⟩] 9)) (hb.alloc hb.size _)
      (lit_rdS (E := 9) rfl rfl (heap_alloc_new w1 _)) (by omega) (fun t ht => by
        simp only [List.mem_cons, List.not_mem_nil, or_false] at ht
        rcases ht with rfl | rfl | rfl | rfl | rfl <;> decide)
    rw [sess_five, ← hF5] at h
    refine h.mono ?_
    rintro e w' ⟨rfl, h2⟩
    exact ⟨rfl, below_step (hb.alloc hb.size _) h2⟩
  clear hF0 hF5
  go_wp2_with fail
  refine CE.out.mono ?_
  rintro e w4 ⟨rfl, hb⟩
  have B5 := Lib.hid (below_step B4.out hb)
  clear hb
  go_wp2_with fail
  refine (C5.out w4 _ B5.out).mono ?_
  rintro e w5 ⟨rfl, hb⟩
  have B6 := Lib.hid hb
  clear hb
  go_wp2_with fail
  go_ret
  exact ⟨rfl, B6.out⟩
end Go.Proofs.YtmljofijeladoaaGreatDoor
