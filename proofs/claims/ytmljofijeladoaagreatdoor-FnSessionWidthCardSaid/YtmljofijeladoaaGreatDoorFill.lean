/-
  Contracts of FillLine, the program's and the reference's.
-/
import Derived.Test.YtmljofijeladoaaGreatDoorRepeat
import Derived.Test.YtmljofijeladoaaGreatDoorFillPlain
import Derived.Test.YtmljofijeladoaaGreatDoorWrapFacts
import Derived.Laws.IdiomStrings
import Derived.Laws.Concat
namespace Go.Proofs.YtmljofijeladoaaGreatDoor
open Go.RowKit
set_option linter.unusedVariables false

theorem spB_next (k : Nat) : spB k ++ ⟨#[32]⟩ = spB (k + 1) := by
  apply ByteArray.ext
  rw [ByteArray.data_append]
  show (List.replicate k 32).toArray ++ [32].toArray = (List.replicate (k + 1) 32).toArray
  rw [List.replicate_succ', List.append_toArray]
set_option maxHeartbeats 1000000 in
theorem spaces_any (n : Nat) (w : World) (hn : n ≤ 2000) :
    Calls Tryz.prog 66 #[.int .i64 (n : Int)] w fun e w' => e = .returned (.string (spB n)) ∧ w = w' := by
  go_enter Tryz.func66, Tryz.ntmps66
  go_wp2_with fail
  go_loop [3, 4] (fun v i => ∃ k : Nat, k ≤ n ∧ i = .int .i64 (k : Int) ∧ v = .string (spB k)) (fun _ i => n - (intOf i).toNat)
  case atStart => exact ⟨0, Nat.zero_le _, rfl, rfl⟩
  case round =>
    obtain ⟨k, hk, rfl, rfl⟩ := hrel
    by_cases hlt : k < n
    case neg =>
      obtain rfl : k = n := by omega
      go_wp2_with fail
      go_ret
      exact ⟨rfl, rfl⟩
    have hlt' : (k : Int) < (n : Int) := by omega
    have hadd : ∀ W : World, (Op.stringOp .add (spB k) ⟨#[32]⟩).run Tryz.prog W = .ok (.string (spB (k + 1))) W := fun W => by
      rw [← spB_next]
      exact run_string_add_sum W _ _ (by rw [spB_size]; have h : (⟨#[32]⟩ : ByteArray).size = 1 := rfl; omega)
    go_wp2_with fail
    go_round
    case rel => exact ⟨k + 1, by omega, by go_num, rfl⟩
    case measure => simp [intOf] <;> omega

def FlRel (l : List ByteArray) (R G : Nat) (v i : Value) : Prop := ∃ k : Nat, k ≤ G ∧ i = .int .i64 ((k + 1 : Nat) : Int) ∧ v = .string (fillUp l R k)
/-- What a round reckons: the spaces before word k + 1. -/
theorem gap_nums {R G k : Nat} (hG : 0 < G) (hk : k < G) (hR : R ≤ 1000) (hG40 : G ≤ 40) : ∃ (I : Int) (q1 q0 : Nat), I = ((k + 1 : Nat) : Int) ∧ I - 1 = (k : Int) ∧ ((R : Int) * I).tdiv (G : Int) = (q1 : Int) ∧ ((R : Int) * (k : Int)).tdiv (G : Int) = (q0 : Int) ∧ q0 ≤ q1 ∧ q1 ≤ 1000 ∧
    1 + ((q1 : Int) - (q0 : Int)) = ((gapN R G k : Nat) : Int) ∧ 0 ≤ (R : Int) * I ∧ (R : Int) * I ≤ 41000 ∧ 0 ≤ (R : Int) * (k : Int) ∧ (R : Int) * (k : Int) ≤ 41000 := by
  refine ⟨((k + 1 : Nat) : Int), R * (k + 1) / G, R * k / G, rfl, by omega, ?_, ?_, gap_mono R G k, ?_, ?_, ?_, ?_, ?_, ?_⟩
  · rw [← Int.natCast_mul, Int.ofNat_tdiv]
  · rw [← Int.natCast_mul, Int.ofNat_tdiv]
  · exact Nat.le_trans (gap_le R G k hG hk) hR
  · have := gap_mono R G k
    unfold gapN
    omega
  · rw [← Int.natCast_mul]; exact Int.natCast_nonneg _
  · rw [← Int.natCast_mul]
    have : R * (k + 1) ≤ 1000 * 41 := Nat.mul_le_mul hR (by omega)
    omega
  · rw [← Int.natCast_mul]; exact Int.natCast_nonneg _
  · rw [← Int.natCast_mul]
    have : R * k ≤ 1000 * 41 := Nat.mul_le_mul hR (by omega)
    omega
theorem fillUp_le {l : List ByteArray} {R k : Nat} (hz : ∀ s ∈ l, s.size ≤ 20) (hl : l.length ≤ 40) (hR : R ≤ 1000) (h : k < l.length) : (fillUp l R k).size ≤ 5000 := by
  rw [fillUp_size h]
  have h1 := sum_bound (L := sizes l) (B := 20) (fun x hx => by obtain ⟨s, hs, rfl⟩ := List.mem_map.1 hx; exact hz s hs) (k + 1)
  have h2 : R * k / (l.length - 1) ≤ R := by
    rcases Nat.eq_zero_or_pos k with h0 | h0
    · subst h0; simp
    · have h3 := gap_le R (l.length - 1) (k - 1) (by omega) (by omega)
      rwa [show k - 1 + 1 = k from by omega] at h3
  omega

set_option maxHeartbeats 4000000 in
theorem fillLine_any (A : Option Addr) (n c : Nat) (l : List ByteArray) (wd : Int) (w : World) (hx : Rd w 1 A n (strs' l)) (hn1 : 1 ≤ n) (hn : n ≤ 40) (hz : ∀ s ∈ l, s.size ≤ 20) (hW : lineLen (sizes l) ≤ wd) (hW2 : wd ≤ 1000) :
    Calls Tryz.prog 54 #[.slice A n c, .int .i64 wd] w fun e w' => e = .returned (.string (fillW l wd)) ∧ ∃ q, w' = w.drewN q := by
  have HC := Lib.hid (specLen_any A n c l w hx hn1 hn hz)
  obtain ⟨LL, hLL⟩ : ∃ LL, LL = lineLen (sizes l) := ⟨_, rfl⟩
  rw [← hLL] at HC hW
  obtain ⟨R, hR⟩ : ∃ R : Nat, (R : Int) = wd - LL := ⟨(wd - LL).toNat, by omega⟩
  have HL := Lib.hid hx.slen
  have HF : Hid (fillW l wd = fillUp l R (n - 1)) := by
    show fillW l wd = fillUp l R (n - 1)
    unfold fillW
    rw [← hLL, HL.out]
    congr 1
    omega
  have hLL0 : 0 ≤ LL := by rw [hLL]; unfold lineLen; rw [sizes_length, HL.out]; omega
  have HRR : Hid ((R : Int) = wd - LL) := hR
  have hRb : R ≤ 1000 := by omega
  clear hLL
  obtain ⟨b, o, rfl, hc0⟩ := hx.2 (by omega)
  have HX := Lib.hid hx
  have Z := Lib.hid hz
  have hc00 := hc0 0 (by omega)
  have hl0 : l[0]? = some (l[0]'(by rw [HL.out]; omega)) := List.getElem?_eq_getElem _
  obtain ⟨s0, e0⟩ : ∃ s, l[0]? = some s := ⟨_, hl0⟩
  rw [strs', List.getElem?_map, e0] at hc00
  have E0 : Hid (s0 = fillUp l R 0) := by show s0 = fillUp l R 0; rw [fillUp, wAt_get e0]
  clear hx hz hc0 hl0 e0
  rw [Nat.add_zero] at hc00
  have hn0 : (0 : Int) < (n : Int) := by omega
  go_enter Tryz.func54, Tryz.ntmps54
  go_wp2_with fail
  refine HC.out.mono ?_
  rintro e w' ⟨rfl, rfl⟩
  have hR' : wd - LL = (R : Int) := hR.symm
  obtain ⟨G, hG⟩ : ∃ G : Nat, G = n - 1 := ⟨_, rfl⟩
  have hG' : (n : Int) - 1 = (G : Int) := by omega
  have HG := Lib.hid hG
  clear hR hG
  go_wp2_with fail
  go_loopw [5, 8] (fun v i wr => FlRel l R G v i ∧ ∃ q, wr = w.drewN q) (fun _ i _ => n - (intOf i).toNat)
  case atStart => exact ⟨⟨0, Nat.zero_le _, rfl, by rw [← E0.out]⟩, 0, rfl⟩
  case round =>
    obtain ⟨⟨k, hk, rfl, rfl⟩, q, rfl⟩ := hrel
    by_cases hkG : k < G
    case neg =>
      obtain rfl : k = G := by omega
      have hlt' : ¬ ((k + 1 : Nat) : Int) < (n : Int) := by omega
      have HFF : Hid (fillW l wd = fillUp l R k) := by show fillW l wd = fillUp l R k; rw [HF.out, HG.out]
      obtain ⟨I, hI⟩ : ∃ I : Int, I = ((k + 1 : Nat) : Int) := ⟨_, rfl⟩
      rw [← hI] at hlt' ⊢
      clear hI
      go_wp2_with fail
      go_ret
      exact ⟨ret_str HFF.out.symm, q, rfl⟩
    obtain ⟨I, q1, q0, hI, hI1, hq1, hq0, hqq, hq1b, hgp, hb1, hb2, hb3, hb4⟩ := gap_nums (by omega) hkG hRb (by omega)
    have hkn : k + 1 < n := by omega
    obtain ⟨b', o', s, e1, es, hcs⟩ := HX.out.str_at hkn
    injection e1 with e1
    injection e1 with e1 e2
    subst e1; subst e2
    have hss := Z.out s (List.mem_of_getElem? es)
    obtain ⟨gp, hge⟩ : ∃ gp, gp = gapN R G k := ⟨_, rfl⟩
    rw [← hge] at hgp
    have hgpb : gp ≤ 1001 := by omega
    obtain ⟨F0, hF0⟩ : ∃ F, F = fillUp l R k := ⟨_, rfl⟩
    have hF0s : F0.size ≤ 5000 := by rw [hF0]; exact fillUp_le Z.out (by rw [HL.out]; exact hn) hRb (by rw [HL.out]; omega)
    have HF2 : Hid ((F0 ++ spB gp) ++ s = fillUp l R (k + 1)) := by
      show (F0 ++ spB gp) ++ s = fillUp l R (k + 1)
      rw [fillUp, ← hF0, wAt_get es, HL.out, ← HG.out, ← hge]
    have hadd1 : ∀ W : World, (Op.stringOp .add F0 (spB gp)).run Tryz.prog W = .ok (.string (F0 ++ spB gp)) W := fun W => run_string_add_sum W _ _ (by rw [spB_size]; omega)
    have hadd2 : ∀ W : World, (Op.stringOp .add (F0 ++ spB gp) s).run Tryz.prog W = .ok (.string ((F0 ++ spB gp) ++ s)) W := fun W => run_string_add_sum W _ _ (by rw [sz_app, spB_size]; omega)
    rw [← hI, ← hF0]
    have hIt : I.toNat = k + 1 := by rw [hI]; rfl
    have hIn : I < (n : Int) := by omega
    have hI0 : (0 : Int) ≤ I := by omega
    have HI : Hid (I = ((k + 1 : Nat) : Int)) := hI
    have hG0 : ¬ (G : Int) = 0 := by omega
    have hG00 : ((G : Int) == 0) = false := by simp; omega
    clear hI hF0 hge es
    go_wp2_with fail
    go_quiet (fail)
    go_wp2_with fail
    have hwg : IntKind.i64.wrap (gp : Int) = (gp : Int) := by rw [IntKind.wrap_i64]; omega
    go_region_with (first | (go_at_call 66; refine (spaces_any gp _ (Nat.le_trans hgpb (by decide))).mono ?_; rintro e w' ⟨rfl, hww⟩; subst hww))
    all_goals
      go_wp2_with fail
      go_roundw
      case rel => exact ⟨⟨k + 1, by omega, by have h := HI.out; first | (congr 1; omega) | go_num, by rw [← HF2.out]⟩, _, rfl⟩
      case measure => have h := HI.out; simp [intOf] <;> omega

theorem fillL_no {l : List ByteArray} {wd : Int} (h : ¬ (vWrap l wd = true ∧ 0 < l.length ∧ lineLen (sizes l) ≤ wd)) : fillL l wd = ⟨#[]⟩ := if_neg h
theorem fillL_yes {l : List ByteArray} {wd : Int} (h1 : vWrap l wd = true) (h2 : 0 < l.length) (h3 : lineLen (sizes l) ≤ wd) : fillL l wd = fillW l wd := if_pos ⟨h1, h2, h3⟩
theorem vWrap_parts {l : List ByteArray} {wd : Int} : vWrap l wd = true ↔ vWords l = true ∧ inB 20 60 wd = true := by unfold vWrap; rw [Bool.and_eq_true]

end Go.Proofs.YtmljofijeladoaaGreatDoor
