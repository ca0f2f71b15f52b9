/-
  Contract of bytes.Repeat of one byte, and rows of bytes cell by cell.
-/
import Derived.Shelf.Spec.SlicesInsert
import Derived.Lib.MakeNoZero
import Derived.Laws.Externs
import Derived.Deep.RegionLaw
import Derived.Test.YtigcbnehcofbcaaDoorShelf
import Derived.Test.YtigcbnehcofbcaaDoorRowPlain
import Derived.Test.YtigcbnehcofbcaaDoorCells
namespace Go.Proofs.YtigcbnehcofbcaaDoor
open Go.RowKit
set_option linter.unusedVariables false

def u8v (x : UInt8) : Value := .int .u8 (x.toNat : Int)
/-- A row of bytes, cell by cell. -/
structure RowB (w : World) (g W : Nat) (s : List UInt8) : Prop where
  there : ∀ j, j < W → (w.cell? ⟨g, j, none⟩).isSome = true
  free : ∀ j, j < W → w.frozen? ⟨g, j, none⟩ = false
  holds : ∀ (j : Nat) (x : UInt8), s[j]? = some x → w.cell? ⟨g, j, none⟩ = some (u8v x)
  fits : s.length ≤ W
theorem u8v_one (l : List UInt8) : ∀ v ∈ l.map u8v, v.oneCell' = true := by
  intro v hv
  obtain ⟨x, _, rfl⟩ := List.mem_map.1 hv
  rfl
/-- Bytes put behind those that are there. -/
theorem RowB.more {w : World} {g W : Nat} {s : List UInt8} (h : RowB w g W s) (t : List UInt8) (hf : s.length + t.length ≤ W) : RowB (w.setCells g s.length (t.map u8v)) g W (s ++ t) := by
  have hl : (t.map u8v).length = t.length := List.length_map _
  have hin := World.cell?_setCells_in g (t.map u8v) s.length w (fun j hj => h.there _ (by omega))
  have hout := World.cell?_setCells_out g (t.map u8v) s.length w
  refine ⟨fun j hj => isSome_setCells g _ _ w (fun i hi => h.there _ (by omega)) j (h.there j hj), fun j hj => by rw [World.frozen?_setCells]; exact h.free j hj, fun j x hx => ?_, by rw [List.length_append]; exact hf⟩
  by_cases h1 : j < s.length
  · rw [List.getElem?_append_left h1] at hx
    rw [hout ⟨g, j, none⟩ (fun _ _ => Or.inl h1)]
    exact h.holds j x hx
  · rw [List.getElem?_append_right (by omega)] at hx
    obtain ⟨d, rfl⟩ : ∃ d, j = s.length + d := ⟨j - s.length, by omega⟩
    rw [Nat.add_sub_cancel_left] at hx
    have hd := (List.getElem?_eq_some_iff.1 hx)
    obtain ⟨hd, hx⟩ := hd
    rw [hin d (by omega), List.getElem_map, hx]
theorem RowB.of_cells {w w' : World} {g W : Nat} {s : List UInt8} (h : RowB w g W s) (hc : ∀ j, w'.cell? ⟨g, j, none⟩ = w.cell? ⟨g, j, none⟩) (hf : ∀ j, w'.frozen? ⟨g, j, none⟩ = w.frozen? ⟨g, j, none⟩) : RowB w' g W s :=
  ⟨fun j hj => by rw [hc]; exact h.there j hj, fun j hj => by rw [hf]; exact h.free j hj, fun j x hx => by rw [hc]; exact h.holds j x hx, h.fits⟩

/-- 'bytealg.MakeNoZero': a new row of whatever bytes. -/
theorem makeNoZero_row (w : World) (cs : Array Value) (n : Nat) (hn : n ≤ cs.size) : RowB ((w.alloc (.cells cs 5)).drewN 2) w.heap.size n [] :=
  ⟨fun j hj => by
    rw [World.cell?_drewN, World.cell?_alloc_mark, Array.getElem?_eq_getElem (by omega)]
    rfl, fun j hj => by
    rw [World.frozen?_drewN]
    have := World.frozen?_alloc_mark w cs 5 0 0 j
    rw [this]
    simp, fun j x hx => by simp at hx, Nat.zero_le _⟩
def BrRel (w : World) (n : Nat) (x : UInt8) (v : Value) (wr : World) : Prop :=
  ∃ k : Nat, 1 ≤ k ∧ k ≤ n ∧ v = .int .i64 (k : Int) ∧ RowB wr w.heap.size n (List.replicate k x) ∧ Below w.heap.size w wr ∧ w.heap.size < wr.heap.size
set_option maxHeartbeats 4000000 in
theorem bRepeat_any (w : World) (g o c : Nat) (x : UInt8) (hx : w.cell? ⟨g, o, none⟩ = some (u8v x)) (n : Nat) (hn0 : 1 ≤ n) (hn : n ≤ 100) :
    Calls Tryd.prog 29 #[.slice (some ⟨g, o, none⟩) 1 c, .int .i64 (n : Int)] w fun e w' => e = .returned (.slice (some ⟨w.heap.size, 0, none⟩) n n) ∧ RowB w' w.heap.size n (List.replicate n x) ∧ Below w.heap.size w w' ∧ w.heap.size < w'.heap.size := by
  have hm := Tryd.bits_Mul 1 n (by omega) (by omega) w
  rw [Nat.one_mul, Nat.div_eq_of_lt (by omega), Nat.mod_eq_of_lt (by omega)] at hm
  have HM := Lib.hid hm
  clear hm
  obtain ⟨cs, hrunM, hle, _⟩ := Lib.run_makeNoZero (P := Tryd.prog) w #[3] 22 5 Tryd.underlying22 n (by omega)
  have hcall : (callFunc 40 #[.int .i64 (n : Int)]).run Tryd.prog w = .ok (.value (.slice (some ⟨w.heap.size, 0, none⟩) n cs.size)) ((w.alloc (.cells cs 5)).drewN 2) := by
    rw [run_callFunc_extern Tryd.func40 (by kernel_rfl) (by kernel_rfl) (by kernel_rfl) (e := Extern.BytealgMakeNoZero.makeNoZero #[3] #[22]) (by kernel_rfl), hrunM]
    rfl
  clear hrunM
  have h0 : ((n : Int) == 0) = false := by simp; omega
  have h1 : ¬ (n : Int) < 0 := by omega
  have h2 : ¬ (8192 : Int) < (n : Int) := by omega
  have hnn : (n : Int) ≤ (cs.size : Int) := by omega
  have hn0' : (0 : Int) ≤ (n : Int) := by omega
  have hn63 : (n : Int) ≤ 9223372036854775807 := by omega
  have R0 := Lib.hid (makeNoZero_row w cs n hle)
  have hglt : g < w.heap.size := World.block_lt_of_cell? w ⟨g, o, none⟩ hx
  have B0 : Hid (Below w.heap.size w ((w.alloc (.cells cs 5)).drewN 2)) := below_drewN' ((Below.refl w.heap.size w).alloc (Nat.le_refl _) _) 2
  obtain ⟨W0, hW0⟩ : ∃ W0, W0 = (w.alloc (.cells cs 5)).drewN 2 := ⟨_, rfl⟩
  have hs0 : w.heap.size < W0.heap.size := by rw [hW0]; show w.heap.size < (w.heap.push _).size; simp
  rw [← hW0] at R0 B0 hcall
  have hcx : W0.cell? ⟨g, o, none⟩ = some (u8v x) := by rw [B0.out.cell hglt]; exact hx
  have hcp : (Builtin.copy_ #[22, 22] 3 #[.slice (some ⟨w.heap.size, 0, none⟩) n n, .slice (some ⟨g, o, none⟩) 1 c]).run Tryd.prog W0 = .ok (.int .i64 1) (W0.setCells w.heap.size 0 [u8v x]) :=
    run_copy_cells (P := Tryd.prog) W0 22 22 3 5 w.heap.size 0 n n ⟨g, o, none⟩ 1 c [u8v x] Tryd.underlying22 (by kernel_rfl) (by show 1 = Nat.min 1 n; exact (Nat.min_eq_left hn0).symm)
      (fun j v hj => by
        match j, hj with
        | 0, hj => injection hj with hj; subst hj; exact hcx)
      (fun j hj => R0.out.there _ (by simp at hj; omega)) (fun j hj => R0.out.free _ (by simp at hj; omega)) (fun v hv => by simp at hv; subst hv; rfl)
  have R1 : Hid (RowB (W0.setCells w.heap.size 0 [u8v x]) w.heap.size n (List.replicate 1 x)) := R0.out.more [x] (by simp; omega)
  have B1 : Hid (Below w.heap.size w (W0.setCells w.heap.size 0 [u8v x])) := below_setCells B0.out (Nat.le_refl _) B0.out.size _ _
  obtain ⟨W1, hW1⟩ : ∃ W1, W1 = W0.setCells w.heap.size 0 [u8v x] := ⟨_, rfl⟩
  have hs1 : w.heap.size < W1.heap.size := Nat.lt_of_lt_of_le hs0 (by rw [hW1]; exact (setCells_grown _ _ _ _).size)
  rw [← hW1] at R1 B1 hcp
  clear hW1 hW0 hcx hx hs0
  go_enter Tryd.func29, Tryd.ntmps29
  go_wp2_with fail
  refine HM.out.mono ?_
  rintro e w1 ⟨rfl, rfl⟩
  go_wp2_with (at_builtin; refine wpList_copy_runI _ rfl _ _ 22 22 rfl _ _ rfl rfl hcp ?_)
  go_loopw [10] (BrRel w1 n x) (fun v _ => n - (intOf v).toNat)
  case atStart => exact ⟨1, Nat.le_refl _, hn0, rfl, R1.out, B1.out, hs1⟩
  case round =>
    clear R1 B1 hs1 hcp R0 B0 hcall HM
    obtain ⟨k, hk1, hkn, rfl, hR, hB, hs⟩ := hrel
    have RK := Lib.hid hR
    have BK := Lib.hid hB
    clear hR hB
    by_cases hlt : k < n
    case neg =>
      obtain rfl : k = n := by omega
      go_wp2_with fail
      go_ret
      exact ⟨rfl, RK.out, BK.out, hs⟩
    obtain ⟨M, hM⟩ : ∃ M, M = Nat.min k (n - k) := ⟨_, rfl⟩
    have hM1 : 1 ≤ M := by rw [hM]; exact Nat.le_min.2 ⟨hk1, by omega⟩
    have hMl : M ≤ k := by rw [hM]; exact Nat.min_le_left _ _
    have hMr : M ≤ n - k := by rw [hM]; exact Nat.min_le_right _ _
    have hM2 : k + M ≤ n := by omega
    have hcq : ∀ q, (Builtin.copy_ #[22, 22] 3 #[.slice (some ⟨w1.heap.size, k, none⟩) (n - k) (n - k), .slice (some ⟨w1.heap.size, 0, none⟩) k n]).run Tryd.prog (wr.drewN q) = .ok (.int .i64 (M : Int)) ((wr.drewN q).setCells w1.heap.size k ((List.replicate M x).map u8v)) := by
      intro q
      have h := run_copy_cells (P := Tryd.prog) (wr.drewN q) 22 22 3 5 w1.heap.size k (n - k) (n - k) ⟨w1.heap.size, 0, none⟩ k n ((List.replicate M x).map u8v) Tryd.underlying22 (by kernel_rfl) (by rw [List.length_map, List.length_replicate]; exact hM)
        (fun j v hj => by
          rw [List.getElem?_map] at hj
          obtain ⟨y, hy, rfl⟩ := Option.map_eq_some_iff.1 hj
          have hjM : j < M := by have := (List.getElem?_eq_some_iff.1 hy).1; simpa using this
          rw [List.getElem?_replicate, if_pos hjM] at hy
          injection hy with hy
          subst hy
          have h2 := RK.out.holds j x (by rw [List.getElem?_replicate, if_pos (by omega)])
          rw [Addr.add_lit, Nat.zero_add]
          exact h2)
        (fun j hj => RK.out.there _ (by simp at hj; omega)) (fun j hj => RK.out.free _ (by simp at hj; omega)) (u8v_one _)
      rw [List.length_map, List.length_replicate] at h
      exact h
    have RN : Hid (∀ q, RowB ((wr.drewN q).setCells w1.heap.size k ((List.replicate M x).map u8v)) w1.heap.size n (List.replicate (k + M) x)) := fun q => by
      have h1 : RowB (wr.drewN q) w1.heap.size n (List.replicate k x) := RK.out.of_cells (fun _ => rfl) (fun _ => rfl)
      have h := h1.more (List.replicate M x) (by simp; omega)
      rw [List.length_replicate, List.replicate_append_replicate] at h
      exact h
    have BN : Hid (∀ q, Below w1.heap.size w1 ((wr.drewN q).setCells w1.heap.size k ((List.replicate M x).map u8v)) ∧ w1.heap.size < ((wr.drewN q).setCells w1.heap.size k ((List.replicate M x).map u8v)).heap.size) := fun q =>
      ⟨below_setCells (below_drewN' BK.out q) (Nat.le_refl _) (Nat.le_of_lt hs) _ _, Nat.lt_of_lt_of_le (show w1.heap.size < (wr.drewN q).heap.size from hs) (setCells_grown _ _ _ _).size⟩
    have hkm : min (k : Int) (n : Int) = (k : Int) := by omega
    have hk0 : (0 : Int) ≤ (k : Int) := by omega
    have hkn' : (k : Int) ≤ (n : Int) := by omega
    have hne : ¬ n = k := by omega
    have hrep : (List.replicate M x).map u8v = List.replicate M (u8v x) := List.map_replicate
    rw [hrep] at hcq RN BN
    have hwr : IntKind.i64.wrap ((k : Int) + (M : Int)) = (k : Int) + (M : Int) := by rw [IntKind.wrap_i64]; omega
    clear hM hrep
    go_wp2_with fail
    go_region_law (refine step_copy_runI rfl _ _ 22 22 rfl _ _ (by simp [Act.eval, Act.put]) (by simp [Act.eval, Act.put]) (hcq _) ?_)
    go_simp
    go_wp2
    go_roundw
    case rel => exact ⟨k + M, by omega, hM2, by go_num, RN.out _, (BN.out _).1, (BN.out _).2⟩
    case measure => simp [intOf] <;> omega
end Go.Proofs.YtigcbnehcofbcaaDoor
