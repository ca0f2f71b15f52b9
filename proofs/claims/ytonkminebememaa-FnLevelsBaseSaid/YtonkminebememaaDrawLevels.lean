/-
  Contracts of the reference's generators of texts: someText, DrawLevelsOf.
-/
import Derived.Test.YtonkminebememaaReader
import Derived.Laws.IdiomStrings
import Derived.Laws.Concat
namespace Go.Proofs.Ytonkminebememaa
open Go.RowKit
set_option linter.unusedVariables false

theorem byte_conv (x : Int) (h0 : 0 ≤ x) (h1 : x ≤ 255) (W : World) :
    (convert 22 9 (.slice (some ⟨W.heap.size, 0, none⟩) 1 1)).run Try.prog (W.alloc (.cells #[.int .u8 x] 5)) = .ok (.string ⟨#[UInt8.ofNat x.toNat]⟩) (W.alloc (.cells #[.int .u8 x] 5)) := by
  obtain ⟨d, hd⟩ : ∃ d, d = UInt8.ofNat x.toNat := ⟨_, rfl⟩
  have hdn : (d.toNat : Int) = x := by rw [hd, UInt8.toNat_ofNat']; omega
  rw [← hd]
  refine run_convert_bytes_back _ _ _ 5 ⟨W.heap.size, 0, none⟩ 1 [d] Try.underlying22 Try.underlying5 Try.underlying9 (fun i hi => ?_)
  obtain rfl : i = 0 := by simp at hi; omega
  rw [Addr.add_lit, Nat.zero_add, cell_of_row _ W.heap.size 0 _ 5 (0, 0) (heap_alloc_new W _)]
  simp [hdn]
theorem size_app (a b : ByteArray) : (a ++ b).size = a.size + b.size := ByteArray.size_append
/-- A text of at most 'most' bytes; the reader has gone on by at most K. -/
def MadeStr (w : World) (B g : Nat) (A : Option Addr) (n c : Nat) (bs : List Int) (p K most : Nat) (e : Ending) (w' : World) : Prop :=
  ∃ s p', e = .returned (.string s) ∧ s.size ≤ most ∧ p' ≤ p + K ∧ RdrAt w' B g A n c bs p' ∧ w.grownBy w' (some g)
def TxRel (w : World) (B g : Nat) (A : Option Addr) (n c : Nat) (bs : List Int) (p : Nat) (v i : Value) (wr : World) : Prop :=
  ∃ (k : Nat) (s : ByteArray) (p' : Nat), i = .int .i64 (k : Int) ∧ v = .string s ∧ s.size + k ≤ 13 ∧ p' + k ≤ p + 14 ∧ RdrAt wr B g A n c bs p' ∧ w.grownBy wr (some g)
theorem txt_one {s : ByteArray} (h : s ∈ ([⟨#[97]⟩, ⟨#[98]⟩, ⟨#[65]⟩, ⟨#[66]⟩, ⟨#[67]⟩, ⟨#[49]⟩, ⟨#[50]⟩, ⟨#[32]⟩, ⟨#[32]⟩, ⟨#[45]⟩, ⟨#[46]⟩] : List ByteArray)) : s.size = 1 := by
  simp only [List.mem_cons, List.not_mem_nil, or_false] at h
  rcases h with rfl | rfl | rfl | rfl | rfl | rfl | rfl | rfl | rfl | rfl | rfl <;> rfl

set_option maxHeartbeats 2000000 in
theorem someText_any (w : World) (B g : Nat) (A : Option Addr) (n c : Nat) (bs : List Int) (p : Nat) (hr : RdrAt w B g A n c bs p) (hp : p ≤ 900000) :
    Calls Try.prog 18 #[.pointer (some ⟨g, 0, none⟩)] w (MadeStr w B g A n c bs p 16 14) := by
  have HR := Lib.hid hr
  clear hr
  go_enter Try.func18, Try.ntmps18
  go_wp2_with fail
  refine (pick_gr _ B g A n c bs p 14 HR.out (by omega) (by omega)).mono ?_
  rintro e w1 ⟨v, rfl, hv0, hv1, _, hR, hG⟩
  have hv1' := hv1 (by omega)
  obtain ⟨v0, rfl⟩ := Int.eq_ofNat_of_zero_le hv0
  have R1 := Lib.hid hR
  have G1 := Lib.hid hG
  clear hR hG hv1
  go_wp2_with fail
  go_loopw [3, 4] (TxRel w B g A n c bs p) (fun _ i _ => (intOf i).toNat)
  case atStart => exact ⟨v0, ⟨#[]⟩, p + 1, rfl, rfl, by show 0 + v0 ≤ 13; omega, by omega, R1.out, G1.out⟩
  case round =>
    obtain ⟨k, s, p', rfl, rfl, hs, hp', hR, hG⟩ := hrel
    have R2 := Lib.hid hR
    have G2 := Lib.hid hG
    clear hR hG
    by_cases hk : 0 < k
    · have hk' : (0 : Int) < (k : Int) := by omega
      go_wp2_with fail
      refine (of_lit wr B g A n c bs p' [⟨#[97]⟩, ⟨#[98]⟩, ⟨#[65]⟩, ⟨#[66]⟩, ⟨#[67]⟩, ⟨#[49]⟩, ⟨#[50]⟩, ⟨#[32]⟩, ⟨#[32]⟩, ⟨#[45]⟩, ⟨#[46]⟩] _ 11 11 rfl R2.out (by omega) rfl (by omega) (by omega) _).mono ?_
      rintro e w2 ⟨t, rfl, ht, hR, hG⟩
      have hts := txt_one ht
      have R3 := Lib.hid hR
      have G3 := Lib.hid (gr_trans G2.out hG)
      clear hR hG ht
      have hadd : ∀ W : World, (Op.stringOp .add s t).run Try.prog W = .ok (.string (s ++ t)) W := fun W => run_string_add_sum W _ _ (by omega)
      go_wp2_with fail
      go_roundw
      case rel => exact ⟨k - 1, _, p' + 1, by rw [show ((k - 1 : Nat) : Int) = (k : Int) - 1 from by omega], rfl, by rw [size_app]; omega, by omega, R3.out, G3.out⟩
      case measure => simp [intOf] <;> omega
    · obtain rfl : k = 0 := by omega
      go_wp2_with fail
      refine (pick_gr _ B g A n c bs p' 16 R2.out (by omega) (by omega)).mono ?_
      rintro e w2 ⟨v, rfl, hv0, _, _, hR, hG⟩
      have R3 := Lib.hid hR
      have G3 := Lib.hid (gr_trans G2.out hG)
      clear hR hG
      by_cases h0 : v = 0
      · subst h0
        go_wp2_with fail
        refine (one_lit w2 B g A n c bs (p' + 1) [10, 127, 200] _ 3 3 rfl R3.out (by omega) rfl (by omega) (by omega) _).mono ?_
        rintro e w3 ⟨u, rfl, hu, hR, hG⟩
        have hu2 : 0 ≤ u ∧ u ≤ 255 := by
          simp only [List.mem_cons, List.not_mem_nil, or_false] at hu
          omega
        obtain ⟨hu0, hu1⟩ := hu2
        have R4 := Lib.hid hR
        have G4 := Lib.hid (gr_trans G3.out hG)
        clear hR hG hu
        have hcv := byte_conv u (by omega) (by omega)
        have hadd : ∀ W : World, (Op.stringOp .add s ⟨#[UInt8.ofNat u.toNat]⟩).run Try.prog W = .ok (.string (s ++ ⟨#[UInt8.ofNat u.toNat]⟩)) W := fun W => run_string_add_sum W _ _ (by have h : (⟨#[UInt8.ofNat u.toNat]⟩ : ByteArray).size = 1 := rfl; omega)
        go_wp2_with fail
        go_ret
        exact ⟨_, p' + 2, rfl, by rw [size_app]; have h : (⟨#[UInt8.ofNat u.toNat]⟩ : ByteArray).size = 1 := rfl; omega, by omega, R4.out.alloc _, gr_alloc G4.out _⟩
      · have h0' : (v == 0) = false := by simpa using h0
        go_wp2_with fail
        go_ret
        exact ⟨s, p' + 1, rfl, by omega, by omega, R3.out, G3.out⟩

/-- A text of at most 14 bytes and a base level between -1 and 2. -/
def TextBase (w : World) (e : Ending) (w' : World) : Prop :=
  ∃ (s : ByteArray) (b : Int), e = .returned (.tuple #[.string s, .int .i64 b]) ∧ s.size ≤ 14 ∧ -1 ≤ b ∧ b ≤ 2 ∧ Below w.heap.size w w'
set_option maxHeartbeats 2000000 in
theorem DrawLevelsOf_any (w : World) (a : Option Addr) (n c : Nat) (zs : List Int) (h : InBytes w a n c zs) :
    Calls Try.prog 9 #[.slice a n c] w (TextBase w) := by
  have HN := Lib.hid (newReader_any w a n c zs h)
  clear h
  go_enter Try.func9, Try.ntmps9
  go_wp2_with fail
  refine HN.out.mono ?_
  rintro e w1 ⟨A, rn, rc, bs, rfl, hR1, hB1⟩
  have R1 := Lib.hid hR1
  have B1 := Lib.hid hB1
  clear hR1 hB1 HN
  go_wp2_with fail
  refine (someText_any w1 _ _ A rn rc bs 0 R1.out (by omega)).mono ?_
  rintro e w2 ⟨s, p2, rfl, hs, hp2, hR2, hG2⟩
  have R2 := Lib.hid hR2
  have B2 := Lib.hid (below_gr B1.out hG2 (Nat.le_refl _))
  clear hR2 hG2
  go_wp2_with fail
  refine (one_lit w2 _ _ A rn rc bs p2 [0, 1, 0, 1, 2, -1] _ 6 6 rfl R2.out (by omega) rfl (by omega) (by omega) _).mono ?_
  rintro e w3 ⟨u, rfl, hu, hR3, hG3⟩
  have hu2 : -1 ≤ u ∧ u ≤ 2 := by
    simp only [List.mem_cons, List.not_mem_nil, or_false] at hu
    omega
  have B3 := Lib.hid (below_gr B2.out hG3 (Nat.le_refl _))
  clear hR3 hG3 hu
  go_wp2_with fail
  go_ret2
  exact ⟨s, u, rfl, hs, hu2.1, hu2.2, B3.out⟩
end Go.Proofs.Ytonkminebememaa
