/-
  Contracts of strconv.Itoa and of the reference's decimal texts, at small numbers.
-/
import Derived.Test.YtdgmienljhaipaaDoorNumPlain
import Derived.Test.YtdgmienljhaipaaDoorShelf
import Derived.Test.YtdgmienljhaipaaDoorStrs
import Derived.Laws.IdiomStrings
import Derived.Laws.Concat
namespace Go.Proofs.YtdgmienljhaipaaDoor
open Go.RowKit
set_option linter.unusedVariables false

theorem byte_convN (x : Int) (h0 : 0 ≤ x) (h1 : x ≤ 255) (W : World) :
    (convert 22 9 (.slice (some ⟨W.heap.size, 0, none⟩) 1 1)).run Tryd.prog (W.alloc (.cells #[.int .u8 x] 5)) = .ok (.string ⟨#[UInt8.ofNat x.toNat]⟩) (W.alloc (.cells #[.int .u8 x] 5)) := by
  obtain ⟨d, hd⟩ : ∃ d, d = UInt8.ofNat x.toNat := ⟨_, rfl⟩
  have hdn : (d.toNat : Int) = x := by rw [hd, UInt8.toNat_ofNat']; omega
  rw [← hd]
  refine run_convert_bytes_back _ _ _ 5 ⟨W.heap.size, 0, none⟩ 1 [d] Tryd.underlying22 Tryd.underlying5 Tryd.underlying9 (fun i hi => ?_)
  obtain rfl : i = 0 := by simp at hi; omega
  rw [Addr.add_lit, Nat.zero_add, cell_of_row _ W.heap.size 0 _ 5 (0, 0) (heap_alloc_new W _)]
  simp [hdn]

theorem byte_convG (x : Int) (h0 : 0 ≤ x) (h1 : x ≤ 255) (W : World) (g : Nat) (hc : W.cell? ⟨g, 0, none⟩ = some (.int .u8 x)) :
    (convert 22 9 (.slice (some ⟨g, 0, none⟩) 1 1)).run Tryd.prog W = .ok (.string ⟨#[UInt8.ofNat x.toNat]⟩) W := by
  obtain ⟨d, hd⟩ : ∃ d, d = UInt8.ofNat x.toNat := ⟨_, rfl⟩
  have hdn : (d.toNat : Int) = x := by rw [hd, UInt8.toNat_ofNat']; omega
  rw [← hd]
  refine run_convert_bytes_back _ _ _ 5 ⟨g, 0, none⟩ 1 [d] Tryd.underlying22 Tryd.underlying5 Tryd.underlying9 (fun i hi => ?_)
  obtain rfl : i = 0 := by simp at hi; omega
  rw [Addr.add_lit, Nat.zero_add, hc]
  simp [hdn]
theorem formatInt_one (n : Nat) (w : World) (hn : n < 10) :
    Calls Tryd.prog 34 #[.int .i64 (n : Int)] w fun e w' => e = .returned (.string (decB n)) ∧ w' = w.alloc (.cells #[.int .u8 (48 + (n : Int))] 5) := by
  have hE : Hid (decB n = ⟨#[UInt8.ofNat (48 + (n : Int)).toNat]⟩) := by
    show decB n = _
    unfold decB dec
    rw [if_pos hn, show (48 + (n : Int)).toNat = 48 + n from by omega]
  have hcv := byte_convN (48 + (n : Int)) (by omega) (by omega)
  obtain ⟨b, hb⟩ : ∃ b, b = UInt8.ofNat (48 + (n : Int)).toNat := ⟨_, rfl⟩
  rw [← hb] at hE hcv
  clear hb
  have h1 : ¬ (n : Int) < -9223372036854775807 := by omega
  have h2 : ¬ (n : Int) < 0 := by omega
  have h3 : (n : Int) < 10 := by omega
  go_enter Tryd.func34, Tryd.ntmps34
  go_wp2_with fail
  go_ret
  exact ⟨congrArg (fun z => Ending.returned (.string z)) hE.out.symm, rfl⟩
set_option maxHeartbeats 1000000 in
theorem formatInt_any (n : Nat) (w : World) (hn : n < 100) :
    Calls Tryd.prog 34 #[.int .i64 (n : Int)] w fun e w' => e = .returned (.string (decB n)) ∧ Below w.heap.size w w' := by
  by_cases h10 : n < 10
  · exact (formatInt_one n w h10).mono fun e w' ⟨h1, h2⟩ => ⟨h1, by rw [h2]; exact (Below.refl _ _).alloc (Nat.le_refl _) _⟩
  have hE : Hid (decB n = decB (n / 10) ++ ⟨#[UInt8.ofNat (48 + (n : Int) % 10).toNat]⟩) := by
    show decB n = _
    have e1 : decB n = ⟨#[UInt8.ofNat (48 + n / 10), UInt8.ofNat (48 + n % 10)]⟩ := by
      unfold decB dec
      rw [if_neg h10]
    have e2 : decB (n / 10) = ⟨#[UInt8.ofNat (48 + n / 10)]⟩ := by
      unfold decB dec
      rw [if_pos (by omega)]
    rw [e1, e2, show (48 + (n : Int) % 10).toNat = 48 + n % 10 from by omega]
    rfl
  have hcw : ∀ (W : World) (g : Nat), W.cell? ⟨g, 0, none⟩ = some (.int .u8 (48 + (n : Int) % 10)) → (convert 22 9 (.slice (some ⟨g, 0, none⟩) 1 1)).run Tryd.prog W = .ok (.string ⟨#[UInt8.ofNat (48 + (n : Int) % 10).toNat]⟩) W := byte_convG (48 + (n : Int) % 10) (by omega) (by omega)
  have hcv := byte_convN (48 + (n : Int) % 10) (by omega) (by omega)
  obtain ⟨b, hb⟩ : ∃ b, b = UInt8.ofNat (48 + (n : Int) % 10).toNat := ⟨_, rfl⟩
  rw [← hb] at hE hcw hcv
  clear hb
  have h1 : ¬ (n : Int) < -9223372036854775807 := by omega
  have h2 : ¬ (n : Int) < 0 := by omega
  have h3 : ¬ (n : Int) < 10 := by omega
  have CO := Lib.hid (fun w => formatInt_one (n / 10) w (by omega))
  have hdv : ((n / 10 : Nat) : Int) = (n : Int) / 10 := by omega
  have hwd : IntKind.i64.wrap ((n : Int) / 10) = (n : Int) / 10 := IntWalk.i64_in _ (by omega)
  have hwm : IntKind.i64.wrap ((n : Int) % 10) = (n : Int) % 10 := IntWalk.i64_in _ (by omega)
  have hwa : IntKind.i64.wrap (48 + (n : Int) % 10) = 48 + (n : Int) % 10 := IntWalk.i64_in _ (by omega)
  rw [hdv] at CO
  have hsz : (decB (n / 10)).size = 1 := by unfold decB dec; rw [if_pos (by omega)]; rfl
  have hwu : IntKind.u8.wrap (48 + (n : Int) % 10) = 48 + (n : Int) % 10 := IntWalk.u8_in _ (by omega)
  obtain ⟨D, hD⟩ : ∃ D, D = decB (n / 10) := ⟨_, rfl⟩
  rw [← hD] at hE CO hsz
  have hadd : ∀ W : World, (Op.stringOp .add D ⟨#[b]⟩).run Tryd.prog W = .ok (.string (D ++ ⟨#[b]⟩)) W := fun W => run_string_add_sum W _ _ (by have h : (⟨#[b]⟩ : ByteArray).size = 1 := rfl; omega)
  have hmod : (n : Int).tmod 10 = (n : Int) % 10 := Int.tmod_eq_emod_of_nonneg (by omega)
  clear hdv hD
  go_enter Tryd.func34, Tryd.ntmps34
  go_wp2_with fail
  go_region_with (first | (go_at_call 34; with_reducible refine (CO.out _).mono ?_; rintro e w1 ⟨rfl, rfl⟩))
  all_goals
    go_simp
    go_wp2
    go_ret
    exact ⟨congrArg (fun z => Ending.returned (.string z)) hE.out.symm, (((Below.refl w.heap.size w).alloc (Nat.le_refl _) _).alloc (by rw [World.size_alloc]; omega) _).drew⟩
theorem dec_digits : ∀ i : Nat, i < 100 → Lib.decDigits i = dec i := by
  intro i hi
  rw [Lib.decDigits]
  unfold dec
  by_cases h : i < 10
  · rw [dif_pos h, if_pos h]
  · rw [dif_neg h, if_neg h, Lib.decDigits, dif_pos (show i / 10 < 10 by omega)]
    rfl
theorem itoa_any (i : Nat) (hi : i < 100) (w : World) : Calls Tryd.prog 29 #[.int .i64 (i : Int)] w fun e w' => e = .returned (.string (decB i)) ∧ w' = w :=
  (Tryd.strconv_Itoa_small i hi w).mono fun e w' ⟨h1, h2⟩ => ⟨by rw [h1, dec_digits i hi]; rfl, h2⟩
end Go.Proofs.YtdgmienljhaipaaDoor
