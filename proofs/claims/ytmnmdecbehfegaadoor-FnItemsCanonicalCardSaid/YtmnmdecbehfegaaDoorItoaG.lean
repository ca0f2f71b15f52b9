/-
  Contracts of the reference's decimal texts and of strconv.Itoa at numbers of every size that occurs here (less than 10^12), and below 0.
-/
import Derived.Test.YtmnmdecbehfegaaDoorTxtRead
import Derived.Test.YtmnmdecbehfegaaDoorStrs
import Derived.Laws.IdiomStrings
import Derived.Laws.Concat
namespace Go.Proofs.YtmnmdecbehfegaaDoor
open Go.RowKit
set_option linter.unusedVariables false

theorem byte_convV (x : Int) (h0 : 0 ≤ x) (h1 : x ≤ 255) (W : World) (g : Nat) (hc : W.cell? ⟨g, 0, none⟩ = some (.int .u8 x)) :
    (convert 39 9 (.slice (some ⟨g, 0, none⟩) 1 1)).run Tryd.prog W = .ok (.string ⟨#[UInt8.ofNat x.toNat]⟩) W := by
  obtain ⟨d, hd⟩ : ∃ d, d = UInt8.ofNat x.toNat := ⟨_, rfl⟩
  have hdn : (d.toNat : Int) = x := by rw [hd, UInt8.toNat_ofNat']; omega
  rw [← hd]
  refine run_convert_bytes_back _ _ _ 5 ⟨g, 0, none⟩ 1 [d] Tryd.underlying39 Tryd.underlying5 Tryd.underlying9 (fun i hi => ?_)
  obtain rfl : i = 0 := by simp at hi; omega
  rw [Addr.add_lit, Nat.zero_add, hc]
  simp [hdn]
theorem byte_new (W : World) (x : Int) : (W.alloc (.cells #[.int .u8 x] 5)).cell? ⟨W.heap.size, 0, none⟩ = some (.int .u8 x) := by
  rw [cell_of_row _ W.heap.size 0 _ 5 (0, 0) (heap_alloc_new W _)]
  rfl

theorem itoaB_small {n : Nat} (h : n < 10) : itoaB (n : Int) = ⟨#[UInt8.ofNat (48 + (n : Int)).toNat]⟩ := by
  unfold itoaB Lib.itoa
  rw [if_neg (by omega), show ((n : Int)).toNat = n from by omega, Lib.decDigits, dif_pos h, show (48 + (n : Int)).toNat = 48 + n from by omega]
theorem itoaB_big {n : Nat} (h : ¬ n < 10) : itoaB (n : Int) = itoaB ((n / 10 : Nat) : Int) ++ ⟨#[UInt8.ofNat (48 + (n : Int) % 10).toNat]⟩ := by
  apply ba_ext
  rw [app_toList]
  unfold itoaB Lib.itoa
  rw [if_neg (by omega), if_neg (by omega), show ((n : Int)).toNat = n from by omega, show (((n / 10 : Nat) : Int)).toNat = n / 10 from by omega, show (48 + (n : Int) % 10).toNat = 48 + n % 10 from by omega]
  conv => lhs; rw [Lib.decDigits, dif_neg h]
theorem itoaB_neg {n : Nat} (h : 0 < n) : itoaB (-(n : Int)) = ⟨#[45]⟩ ++ itoaB (n : Int) := by
  apply ba_ext
  rw [app_toList]
  unfold itoaB Lib.itoa
  rw [if_pos (by omega), if_neg (by omega), show (-(n : Int)).natAbs = n from by omega, show ((n : Int)).toNat = n from by omega]
  rfl
theorem itoaB_size {n : Nat} (h : n < 1000000000000) : (itoaB (n : Int)).size ≤ 12 := by
  have h1 : (itoaB (n : Int)).size = (Lib.itoa (n : Int)).length := rfl
  rw [h1]
  unfold Lib.itoa
  rw [if_neg (by omega), show ((n : Int)).toNat = n from by omega]
  exact decDigits_len (by omega) (by omega)
theorem itoaB_sizeZ {n : Int} (h1 : -1000000000000 < n) (h2 : n < 1000000000000) : (itoaB n).size ≤ 13 := by
  by_cases h : 0 ≤ n
  · have := itoaB_size (n := n.toNat) (by omega)
    rw [show ((n.toNat : Nat) : Int) = n by omega] at this
    omega
  · have h3 : (itoaB n).size = (Lib.itoa n).length := rfl
    rw [h3]
    unfold Lib.itoa
    rw [if_pos (by omega)]
    have := decDigits_len (u := n.natAbs) (k := 12) (by omega) (by omega)
    simp; omega

theorem formatInt_digit (n : Nat) (w : World) (hn : n < 10) :
    Calls Tryd.prog 55 #[.int .i64 (n : Int)] w fun e w' => e = .returned (.string (itoaB (n : Int))) ∧ Below w.heap.size w w' := by
  have hE : Hid (itoaB (n : Int) = ⟨#[UInt8.ofNat (48 + (n : Int)).toNat]⟩) := itoaB_small hn
  have hcv := fun W => byte_convV (48 + (n : Int)) (by omega) (by omega) _ W.heap.size (byte_new W (48 + (n : Int)))
  obtain ⟨b, hb⟩ : ∃ b, b = UInt8.ofNat (48 + (n : Int)).toNat := ⟨_, rfl⟩
  rw [← hb] at hE hcv
  clear hb
  have h1 : ¬ (n : Int) < -9223372036854775807 := by omega
  have h2 : ¬ (n : Int) < 0 := by omega
  have h3 : (n : Int) < 10 := by omega
  go_enter Tryd.func55, Tryd.ntmps55
  go_wp2_with fail
  go_ret
  exact ⟨congrArg (fun z => Ending.returned (.string z)) hE.out.symm, (Below.refl _ _).alloc (Nat.le_refl _) _⟩
set_option maxHeartbeats 1000000 in
set_option maxRecDepth 8000 in
theorem formatNat_any : ∀ (n : Nat) (w : World), n < 1000000000000 →
    Calls Tryd.prog 55 #[.int .i64 (n : Int)] w fun e w' => e = .returned (.string (itoaB (n : Int))) ∧ Below w.heap.size w w' := by
  intro n
  induction n using Nat.strongRecOn with
  | _ n ih =>
  intro w hn
  by_cases h10 : n < 10
  · exact formatInt_digit n w h10
  have CO : Hid (∀ w', Calls Tryd.prog 55 #[.int .i64 ((n : Int) / 10)] w' fun e w'' => e = .returned (.string (itoaB ((n / 10 : Nat) : Int))) ∧ Below w'.heap.size w' w'') := fun w' => by
    have h := ih (n / 10) (by omega) w' (by omega)
    rwa [show ((n / 10 : Nat) : Int) = (n : Int) / 10 from by omega] at h ⊢
  have hE : Hid (itoaB (n : Int) = itoaB ((n / 10 : Nat) : Int) ++ ⟨#[UInt8.ofNat (48 + (n : Int) % 10).toNat]⟩) := itoaB_big h10
  have hcw := byte_convV (48 + (n : Int) % 10) (by omega) (by omega)
  have hcv := fun W => byte_convV (48 + (n : Int) % 10) (by omega) (by omega) _ W.heap.size (byte_new W (48 + (n : Int) % 10))
  have hnew : ∀ W : World, ((W.alloc (.cells #[.int .u8 (48 + (n : Int) % 10)] 5)).drew).cell? ⟨W.heap.size, 0, none⟩ = some (.int .u8 (48 + (n : Int) % 10)) := fun W => by rw [World.cell?_drew]; exact byte_new W _
  have hsz := itoaB_size (n := n / 10) (by omega)
  obtain ⟨b, hb⟩ : ∃ b, b = UInt8.ofNat (48 + (n : Int) % 10).toNat := ⟨_, rfl⟩
  rw [← hb] at hE hcw hcv
  clear hb ih
  have h1 : ¬ (n : Int) < -9223372036854775807 := by omega
  have h2 : ¬ (n : Int) < 0 := by omega
  have h3 : ¬ (n : Int) < 10 := by omega
  have hwd : IntKind.i64.wrap ((n : Int) / 10) = (n : Int) / 10 := IntWalk.i64_in _ (by omega)
  have hwm : IntKind.i64.wrap ((n : Int) % 10) = (n : Int) % 10 := IntWalk.i64_in _ (by omega)
  have hwa : IntKind.i64.wrap (48 + (n : Int) % 10) = 48 + (n : Int) % 10 := IntWalk.i64_in _ (by omega)
  have hwu : IntKind.u8.wrap (48 + (n : Int) % 10) = 48 + (n : Int) % 10 := IntWalk.u8_in _ (by omega)
  obtain ⟨D, hD⟩ : ∃ D, D = itoaB ((n / 10 : Nat) : Int) := ⟨_, rfl⟩
  rw [← hD] at hE CO hsz
  have hadd : ∀ W : World, (Op.stringOp .add D ⟨#[b]⟩).run Tryd.prog W = .ok (.string (D ++ ⟨#[b]⟩)) W := fun W => run_string_add_sum W _ _ (by have h : (⟨#[b]⟩ : ByteArray).size = 1 := rfl; omega)
  have hmod : (n : Int).tmod 10 = (n : Int) % 10 := Int.tmod_eq_emod_of_nonneg (by omega)
  clear hD
  go_enter Tryd.func55, Tryd.ntmps55
  go_wp2_with fail
  go_region_with (first | (go_at_call 55; with_reducible refine (CO.out _).mono ?_; rintro e w1 ⟨rfl, hb1⟩; (try (have hcx := hcw w1 w.heap.size (cell_below hb1 (hnew w))))))
  all_goals (
    have hbw : Below w.heap.size w w1 := by
      first
        | exact (below_drewN (w := w) 1).trans hb1
        | exact below_step (below_drewN' ((Below.refl w.heap.size w).alloc (Nat.le_refl _) _) 1) hb1
    have HBW := Lib.hid hbw
    clear hb1 hbw
    go_simp
    go_wp2
    go_ret
    exact ⟨congrArg (fun z => Ending.returned (.string z)) hE.out.symm, by
      first
        | exact HBW.out
        | exact HBW.out.alloc HBW.out.size _
        | exact below_drewN' HBW.out 1
        | exact below_drewN' (HBW.out.alloc HBW.out.size _) 1⟩)
theorem formatInt_any (n : Int) (w : World) (h1 : -1000000000000 < n) (h2 : n < 1000000000000) :
    Calls Tryd.prog 55 #[.int .i64 n] w fun e w' => e = .returned (.string (itoaB n)) ∧ Below w.heap.size w w' := by
  by_cases h : 0 ≤ n
  · have hn := formatNat_any n.toNat w (by omega)
    rwa [show ((n.toNat : Nat) : Int) = n by omega] at hn
  · obtain ⟨m, hm⟩ : ∃ m : Nat, (m : Int) = -n := ⟨(-n).toNat, by omega⟩
    have hn : n = -(m : Int) := by omega
    subst hn
    have CO := Lib.hid (fun w1 => formatNat_any m w1 (by omega))
    have hE : Hid (itoaB (-(m : Int)) = ⟨#[45]⟩ ++ itoaB (m : Int)) := itoaB_neg (by omega)
    have hsz := itoaB_size (n := m) (by omega)
    obtain ⟨D, hD⟩ : ∃ D, D = itoaB (m : Int) := ⟨_, rfl⟩
    rw [← hD] at hE CO hsz
    have hadd : ∀ W : World, (Op.stringOp .add ⟨#[45]⟩ D).run Tryd.prog W = .ok (.string (⟨#[45]⟩ ++ D)) W := fun W => run_string_add_sum W _ _ (by have h : (⟨#[45]⟩ : ByteArray).size = 1 := rfl; omega)
    have h3 : ¬ -(m : Int) < -9223372036854775807 := by omega
    have h4 : -(m : Int) < 0 := by omega
    have h5 : - -(m : Int) = m := by omega
    clear hD hm
    go_enter Tryd.func55, Tryd.ntmps55
    go_wp2_with (go_at_call 55; refine (CO.out _).mono ?_; rintro e w1 ⟨rfl, hb1⟩; have B1 := Lib.hid hb1; clear hb1)
    go_ret
    exact ⟨congrArg (fun z => Ending.returned (.string z)) hE.out.symm, B1.out⟩
end Go.Proofs.YtmnmdecbehfegaaDoor
