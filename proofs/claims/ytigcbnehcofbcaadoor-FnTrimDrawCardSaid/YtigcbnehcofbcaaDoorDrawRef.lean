/-
  Contract of Draw, the reference's.
-/
import Derived.Test.YtigcbnehcofbcaaDoorDrawImpl
namespace Go.Proofs.YtigcbnehcofbcaaDoor
open Go.RowKit
set_option linter.unusedVariables false

set_option maxHeartbeats 1000000 in
theorem spaces_any (n : Nat) (w : World) (hn : n ≤ 2000) :
    Calls Tryd.prog 42 #[.int .i64 (n : Int)] w fun e w' => e = .returned (.string (spB n)) ∧ w = w' := by
  go_enter Tryd.func42, Tryd.ntmps42
  go_wp2_with fail
  go_loop [3, 4] (fun v i => ∃ k : Nat, k ≤ n ∧ i = .int .i64 (k : Int) ∧ v = .string (spB k)) (fun _ i => n - (intOf i).toNat)
  case atStart => exact ⟨0, Nat.zero_le _, rfl, rfl⟩
  case round =>
    obtain ⟨k, hk, rfl, rfl⟩ := hrel
    by_cases hlt : k < n
    case neg =>
      obtain rfl : k = n := by omega
      go_wp2_with fail
      go_ret
      exact ⟨rfl, rfl⟩
    have hlt' : (k : Int) < (n : Int) := by omega
    have hadd : ∀ W : World, (Op.stringOp .add (spB k) ⟨#[32]⟩).run Tryd.prog W = .ok (.string (spB (k + 1))) W := fun W => by
      rw [← spB_next]
      exact run_string_add_sum W _ _ (by rw [spB_size]; have h : (⟨#[32]⟩ : ByteArray).size = 1 := rfl; omega)
    go_wp2_with fail
    go_round
    case rel => exact ⟨k + 1, by omega, by go_num, rfl⟩
    case measure => simp [intOf] <;> omega
def SdOut (w : World) (l : List Pl) (W N : Nat) (v i : Value) (wr : World) : Prop :=
  ∃ y m : Nat, y ≤ N ∧ m = y ∧ i = .int .i64 (y : Int) ∧ wr.ownsRow w.heap.size 9 1 v m (strs' ((List.range y).map (rowP l W))) ∧ Below w.heap.size w wr
def SdIn (u : World) (l : List Pl) (W y : Nat) (v i : Value) (wr : World) : Prop :=
  ∃ k q : Nat, k ≤ l.length ∧ i = .int .i64 (k : Int) ∧ v = .string (rowP (l.take k) W y) ∧ wr = u.drewN q
theorem range_next (f : Nat → ByteArray) (y : Nat) : (List.range (y + 1)).map f = (List.range y).map f ++ [f y] := by
  rw [List.range_succ, List.map_append]
  rfl
theorem ext_size (s : ByteArray) (a b : Nat) (hb : b ≤ s.size) : (s.extract a b).size = b - a := by
  rw [ByteArray.size_extract]
  omega
set_option maxHeartbeats 8000000 in
theorem specdraw_any (A : Option Addr) (n c : Nat) (l : List Pl) (W N : Nat) (w : World) (hx : Rd w 3 A n (placeds l)) (hv : vPlaced l (W : Int) (N : Int) = true) :
    Calls Tryd.prog 31 #[.slice A n c, .int .i64 (W : Int), .int .i64 (N : Int)] w (DrRes l (W : Int) (N : Int) w) := by
  have HL := Lib.hid hx.placed_len
  have HV := Lib.hid hv
  have hvp := vPlaced_parts hv
  obtain ⟨hw0, hw1, hh0, hh1, hl60, hall⟩ := hvp
  have ALL := Lib.hid hall
  have HX := Lib.hid hx
  have hn60 : n ≤ 60 := by rw [← HL.out]; exact hl60
  clear hx hv hall
  have CS := Lib.hid (fun w => spaces_any W w (by omega))
  go_enter Tryd.func31, Tryd.ntmps31
  go_wp2_with fail
  go_loopw [7, 8] (SdOut w l W N) (fun _ i _ => N - (intOf i).toNat)
  case atStart =>
    refine ⟨0, 0, Nat.zero_le _, rfl, rfl, ?_, (Below.refl _ _).alloc (Nat.le_refl _) _⟩
    exact ⟨by simp [strs'], .inr ⟨w.heap.size, 0, #[], rfl, Nat.le_refl _, heap_alloc_new w _, Nat.le_refl _, by unfold maxLen; omega, rfl, rfl⟩⟩
  case round =>
    obtain ⟨y, m, hy, hmy, rfl, hown, hbel⟩ := hrel
    subst hmy
    obtain ⟨L5, d5, e5, hd5⟩ := own_shape hown
    subst e5
    have OW := Lib.hid hown
    have BW := Lib.hid hbel
    clear hown hbel
    by_cases hlt : m < N
    case neg =>
      obtain rfl : m = N := by omega
      have HF : Hid (drawP l (W : Int) (m : Int) = (List.range m).map (rowP l W)) := by
        show _ = _
        rw [drawP_good HV.out]
        rfl
      go_wp2_with fail
      go_ret
      exact ⟨L5, m, d5, rfl, by rw [HF.out]; exact OW.out, BW.out⟩
    have hlt' : (m : Int) < (N : Int) := by omega
    go_wp2_with fail
    refine (CS.out _).mono ?_
    rintro e w' ⟨rfl, rfl⟩
    go_wp2_with fail
    go_loopw [9, 10] (SdIn wr l W m) (fun _ i _ => l.length - (intOf i).toNat)
    case atStart => exact ⟨0, 0, Nat.zero_le _, rfl, rfl, rfl⟩
    case round =>
      obtain ⟨k, q, hk, rfl, rfl, rfl⟩ := hrel
      by_cases hlt2 : k < l.length
      case neg =>
        have hkn : ¬ (k : Int) < (n : Int) := by have := HL.out; omega
        have hkl : l.take k = l := List.take_of_length_le (by omega)
        rw [hkl]
        obtain ⟨F, hF⟩ : ∃ F, F = rowP l W m := ⟨_, rfl⟩
        have HFq := Lib.hid hF
        rw [← hF]
        have hszq : w.heap.size ≤ (wr.drewN q).heap.size := BW.out.size
        clear hF hkl hlt2
        go_wp2_with (at_builtin; refine app_lit elemStr rfl _ _ rfl (own_drewN OW.out q) _ _ [.string F] rfl rfl rfl (by simp [Value.oneCell']) (by omega) hszq ?_; intro v2 w2 ho hg; have O4 := Lib.hid ho; have B4 := Lib.hid (below_app ((below_drewN' BW.out q).alloc hszq _) hg OW.out (Nat.le_refl _)); clear ho hg)
        go_roundw
        case rel => exact ⟨m + 1, m + 1, by omega, rfl, by go_num, by rw [range_next, ← HFq.out]; simpa [strs'] using O4.out, B4.out⟩
        case measure => simp [intOf] <;> omega
      have hkn : k < n := by have := HL.out; omega
      obtain ⟨b, o, p, rfl, ep, hc0, hc1, hc2⟩ := (HX.out.below BW.out).placed_at hkn
      have hpl := vPl_parts (ALL.out p (List.mem_of_getElem? ep))
      obtain ⟨_, hp0, hpx0, hpx1, hpy0, hpy1⟩ := hpl
      have HN := Lib.hid (rowP_next (W := W) (y := m) ep)
      have hrs := rowP_size (l := l.take k) (w := (W : Int)) (h := (N : Int)) (fun p hp => ALL.out p (List.mem_of_mem_take hp)) (by omega) m
      rw [Int.toNat_natCast] at hrs
      obtain ⟨s, hs⟩ : ∃ s, s = rowP (l.take k) W m := ⟨_, rfl⟩
      rw [← hs] at hrs HN
      rw [← hs]
      have hk' : (k : Int) < (n : Int) := by omega
      have hk0 : (0 : Int) ≤ (k : Int) := by omega
      clear ep hs hlt2
      unfold onRow at HN
      by_cases hyy : p.y = (m : Int)
      case neg =>
        have hyb : (p.y == (m : Int)) = false := by simpa using hyy
        rw [if_neg hyy] at HN
        go_wp2_with fail
        go_roundw
        case rel => exact ⟨k + 1, q, by have := HL.out; omega, by go_num, by rw [HN.out], rfl⟩
        case measure => have := HL.out; simp [intOf] <;> omega
      rw [if_pos hyy] at HN
      have hyb : (p.y == (m : Int)) = true := by simpa using hyy
      obtain ⟨⟨px, py, t⟩, hpE⟩ : ∃ p', p' = p := ⟨_, rfl⟩
      subst hpE
      obtain ⟨x, hx⟩ := Int.eq_ofNat_of_zero_le hpx0
      replace hx : px = (x : Int) := hx
      subst hx
      replace hc0 : wr.cell? ⟨b, o + k * 3, none⟩ = some (.int .i64 (x : Int)) := hc0
      replace hc2 : wr.cell? ⟨b, o + k * 3 + 2, none⟩ = some (.string t) := hc2
      replace hyb : (py == (m : Int)) = true := hyb
      replace hc1 : wr.cell? ⟨b, o + k * 3 + 1, none⟩ = some (.int .i64 py) := hc1
      replace hpx1 : (x : Int) + (t.size : Int) ≤ (W : Int) := hpx1
      replace HN : Hid (rowP (l.take (k + 1)) W m = (s.extract 0 x ++ t) ++ s.extract (x + t.size) s.size) := HN
      have e1 : (s.extract 0 x).size = x := by rw [ext_size _ _ _ (by omega)]; omega
      have e2 : (s.extract (x + t.size) s.size).size = s.size - (x + t.size) := ext_size _ _ _ (Nat.le_refl _)
      have hadd1 : ∀ W : World, (Op.stringOp .add (s.extract 0 x) t).run Tryd.prog W = .ok (.string (s.extract 0 x ++ t)) W := fun W => run_string_add_sum W _ _ (by omega)
      have hadd2 : ∀ W : World, (Op.stringOp .add (s.extract 0 x ++ t) (s.extract (x + t.size) s.size)).run Tryd.prog W = .ok (.string (s.extract 0 x ++ t ++ s.extract (x + t.size) s.size)) W := fun W => run_string_add_sum W _ _ (by rw [ByteArray.size_append]; omega)
      have hx0 : (0 : Int) ≤ (x : Int) := by omega
      have hxs : (x : Int) ≤ (s.size : Int) := by omega
      have hxt : ((x : Int) + (t.size : Int)) ≤ (s.size : Int) := by omega
      have hxt0 : (0 : Int) ≤ (x : Int) + (t.size : Int) := by omega
      have htn : ((x : Int) + (t.size : Int)).toNat = x + t.size := by rw [← Int.natCast_add, Int.toNat_natCast]
      replace hp0 : 0 < t.size := hp0
      clear e1 e2 hyy hpx0 hpy0 hpy1 hp0
      go_wp2_with fail
      go_quiet (fail)
      go_wp2_with fail
      go_roundw
      case rel => exact ⟨k + 1, _, by have := HL.out; omega, by go_num, by rw [HN.out], rfl⟩
      case measure => have := HL.out; simp [intOf] <;> omega
set_option maxHeartbeats 2000000 in
theorem specDraw_any (A : Option Addr) (n c : Nat) (l : List Pl) (pw ph : Int) (w : World) (hx : Rd w 3 A n (placeds l)) (hn : n ≤ 1048576) (hz : ∀ p ∈ l, p.t.size ≤ 1048576) :
    Calls Tryd.prog 18 #[.slice A n c, .int .i64 pw, .int .i64 ph] w (DrRes l pw ph w) := by
  have HC := Lib.hid (specPlaced_any A n c l w pw ph hx hn hz)
  cases hv : vPlaced l pw ph
  · have HV : Hid (¬ vPlaced l pw ph = true) := fun h => by rw [hv] at h; cases h
    rw [hv] at HC
    clear hx hv hz
    go_enter Tryd.func18, Tryd.ntmps18
    go_wp2_with fail
    refine HC.out.mono ?_
    rintro e w1 ⟨rfl, hb⟩
    have B1 := Lib.hid hb
    clear hb HC
    go_wp2_with fail
    go_ret
    exact ⟨none, 0, 0, rfl, by rw [drawP_no HV.out]; exact World.ownsRow_nil _ _ _ _, B1.out⟩
  have HV := Lib.hid hv
  have hvp := vPlaced_parts hv
  obtain ⟨W, rfl⟩ := Int.eq_ofNat_of_zero_le (show 0 ≤ pw by omega)
  obtain ⟨N, rfl⟩ := Int.eq_ofNat_of_zero_le (show 0 ≤ ph by omega)
  have CD := Lib.hid (fun w' (h : Rd w' 3 A n (placeds l)) => specdraw_any A n c l W N w' h HV.out)
  have HX := Lib.hid hx
  rw [hv] at HC
  clear hv hz hvp hx
  go_enter Tryd.func18, Tryd.ntmps18
  go_wp2_with fail
  refine HC.out.mono ?_
  rintro e w1 ⟨rfl, hb⟩
  have B1 := Lib.hid hb
  clear hb HC
  go_wp2_with fail
  refine (CD.out _ (HX.out.below B1.out)).mono ?_
  rintro e w2 ⟨B, k, d, rfl, ho, hb⟩
  have O2 := Lib.hid ho
  have B2 := Lib.hid (below_step B1.out hb)
  clear ho hb CD
  go_wp2_with fail
  go_ret
  exact ⟨B, k, d, rfl, own_base O2.out B1.out.size, B2.out⟩
end Go.Proofs.YtigcbnehcofbcaaDoor
