/-
  Contract of strings.Repeat of a space.
-/
import Derived.Test.YtmljofijeladoaaDoorBuilder
import Derived.Test.YtmljofijeladoaaDoorFillPlain
namespace Go.Proofs.YtmljofijeladoaaDoor
open Go.RowKit
set_option linter.unusedVariables false

/-- The spaces that the library has at hand. -/
def sp128 : ByteArray := ⟨#[32, 32, 32, 32, 32, 32, 32, 32, 32, 32, 32, 32, 32, 32, 32, 32, 32, 32, 32, 32, 32, 32, 32, 32, 32, 32, 32, 32, 32, 32, 32, 32, 32, 32, 32, 32, 32, 32, 32, 32, 32, 32, 32, 32, 32, 32, 32, 32, 32, 32, 32, 32, 32, 32, 32, 32, 32, 32, 32, 32, 32, 32, 32, 32, 32, 32, 32, 32, 32, 32, 32, 32, 32, 32, 32, 32, 32, 32, 32, 32, 32, 32, 32, 32, 32, 32, 32, 32, 32, 32, 32, 32, 32, 32, 32, 32, 32, 32, 32, 32, 32, 32, 32, 32, 32, 32, 32, 32, 32, 32, 32, 32, 32, 32, 32, 32, 32, 32, 32, 32, 32, 32, 32, 32, 32, 32, 32, 32]⟩
set_option maxRecDepth 100000 in
theorem sp128_eq : sp128 = spB 128 := rfl
theorem spB_extract {n c : Nat} (h : c ≤ n) : (spB n).extract 0 c = spB c := by
  apply ByteArray.ext
  rw [ByteArray.data_extract]
  simp [spB, List.take_replicate, Nat.min_eq_left h]
theorem sp_extract (c : Nat) (hc : c ≤ 128) : sp128.extract 0 c = spB c := by
  rw [sp128_eq]
  exact spB_extract hc

set_option maxHeartbeats 2000000 in
set_option maxRecDepth 100000 in
theorem repeat_space (c : Nat) (hc : c ≤ 100) (w : World) :
    Calls Tryd.prog 33 #[.string ⟨#[32]⟩, .int .i64 (c : Int)] w fun e w' => e = .returned (.string (spB c)) ∧ w' = w := by
  by_cases h0 : c = 0
  · subst h0
    go_enter Tryd.func33, Tryd.ntmps33
    go_wp2
    go_ret
    exact ⟨rfl, rfl⟩
  have h0' : ((c : Int) == 0) = false := by simp; omega
  by_cases h1 : c = 1
  · subst h1
    go_enter Tryd.func33, Tryd.ntmps33
    go_wp2
    go_ret
    exact ⟨rfl, rfl⟩
  have h1' : ((c : Int) == 1) = false := by simp; omega
  have hm := Tryd.bits_Mul 1 c (by omega) (by omega) w
  rw [Nat.one_mul, Nat.div_eq_of_lt (by omega), Nat.mod_eq_of_lt (by omega)] at hm
  have HM := Lib.hid hm
  clear hm
  go_enter Tryd.func33, Tryd.ntmps33
  go_wp2_with fail
  refine (HM.out).mono ?_
  rintro e w1 ⟨rfl, rfl⟩
  have hc2 : (c : Int) ≤ 128 := by omega
  have hc3 : (c : Int) ≤ 9223372036854775807 := by omega
  have hc0 : (0 : Int) ≤ (c : Int) := by omega
  have hb32 : ((((⟨#[32]⟩ : ByteArray)[0]'(by decide)).toNat : Int) == 32) = true := rfl
  have hpre : ((sp128.extract 0 1).toList == (⟨#[32]⟩ : ByteArray).toList) = true := by rw [ByteArray.toList_eq, ByteArray.toList_eq]; rfl
  have hpre2 : ((sp128.extract 0 1).toList == [32]) = true := by rw [ByteArray.toList_eq]; rfl
  unfold sp128 at hpre hpre2
  go_wp2
  go_ret
  have hx := sp_extract c (by omega)
  unfold sp128 at hx
  exact ⟨congrArg (fun z => Ending.returned (.string z)) hx, rfl⟩
end Go.Proofs.YtmljofijeladoaaDoor
