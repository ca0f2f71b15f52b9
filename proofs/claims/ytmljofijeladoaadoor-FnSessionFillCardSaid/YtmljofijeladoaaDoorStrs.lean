/-
  Contracts of the small functions on []string that the statements use: they compare two lists, measure one and copy one.
-/
import Derived.Test.YtmljofijeladoaaDoorProg
import Derived.Test.YtmljofijeladoaaDoorBase
namespace Go.Proofs.YtmljofijeladoaaDoor
open Go.RowKit
set_option linter.unusedVariables false

theorem str_parts {s t : ByteArray} (h : ¬ s = t) : (s.toList == t.toList) = false := by
  rw [beq_eq_false_iff_ne, ByteArray.toList_eq, ByteArray.toList_eq]
  intro e
  apply h
  obtain ⟨⟨a⟩⟩ := s
  obtain ⟨⟨b⟩⟩ := t
  simp at e
  rw [e]

theorem own_le {w : World} {base : Nat} {E : TypeId} {size : Nat} {L : Option Addr} {n c : Nat} {xs : List Value} (h : w.ownsRow base E size (.slice L n c) n xs) : n ≤ c := by
  obtain ⟨A, c', e, hn⟩ := own_shape h
  injection e with _ _ e
  omega
theorem own_head {w : World} {base : Nat} {E : TypeId} {size : Nat} {L : Option Addr} {n c : Nat} {xs : List Value} (h : w.ownsRow base E size (.slice L n c) n xs) (hn : 0 < n) :
    ∃ g, L = some ⟨g, 0, none⟩ ∧ base ≤ g ∧ n ≤ c ∧ c ≤ maxLen := by
  rcases h.2 with ⟨_, h1⟩ | ⟨g', cap, cur, hv, hg, hh, hn', hc, hz, hx⟩
  · omega
  · injection hv with h1 h2 h3
    subst h1; subst h3
    exact ⟨g', rfl, hg, hn', hc⟩
theorem strs_length (l : List ByteArray) : (strs' l).length = l.length := by simp [strs']
theorem strs_one (l : List ByteArray) : ∀ u ∈ strs' l, u.oneCell' = true := by
  intro u hu
  obtain ⟨_, _, rfl⟩ := List.mem_map.1 hu
  rfl
theorem Rd.slen {w : World} {A : Option Addr} {n : Nat} {xs : List ByteArray} (h : Rd w 1 A n (strs' xs)) : xs.length = n := by
  have := h.1; simpa [strs'] using this
theorem Rd.str_at {w : World} {A : Option Addr} {n : Nat} {xs : List ByteArray} (h : Rd w 1 A n (strs' xs)) {k : Nat} (hk : k < n) :
    ∃ b o s, A = some ⟨b, o, none⟩ ∧ xs[k]? = some s ∧ w.cell? ⟨b, o + k, none⟩ = some (.string s) := by
  obtain ⟨b, o, e, hc⟩ := h.2 (by omega)
  have hl := h.slen
  have hk' : k < xs.length := by omega
  refine ⟨b, o, xs[k], e, List.getElem?_eq_getElem hk', ?_⟩
  rw [hc k (by omega)]
  simp [strs', hk']

set_option maxHeartbeats 1000000 in
theorem eqStringS_any (A B : Option Addr) (n m c d : Nat) (xs ys : List ByteArray) (w : World) (hx : Rd w 1 A n (strs' xs)) (hy : Rd w 1 B m (strs' ys)) (hn : n ≤ 1048576) (hm : m ≤ 1048576) :
    Calls Tryd.prog 14 #[.slice A n c, .slice B m d] w fun e w' => e = .returned (.bool (decide (xs = ys))) ∧ ∃ q, w' = w.drewN q := by
  have HLx := Lib.hid hx.slen
  have HLy := Lib.hid hy.slen
  by_cases hne : n = m
  case neg =>
    have hb : ((n : Int) != (m : Int)) = true := by simp; omega
    clear hx hy
    go_enter Tryd.func14, Tryd.ntmps14
    go_wp2
    go_ret
    refine ⟨ret_bool ?_, 0, rfl⟩
    have : xs ≠ ys := fun e => hne (by rw [← HLx.out, ← HLy.out, e])
    simp [this]
  subst hne
  go_enter Tryd.func14, Tryd.ntmps14
  go_wp2
  go_loopw [5] (fun i wr => ∃ k q : Nat, k ≤ n ∧ i = .int .i64 k ∧ (∀ j, j < k → xs[j]? = ys[j]?) ∧ wr = w.drewN q) (fun i _ => n - (intOf i).toNat)
  case atStart => exact ⟨0, 0, Nat.zero_le _, rfl, fun j h => absurd h (by omega), rfl⟩
  case round =>
    obtain ⟨k, q, hk, rfl, hpre, rfl⟩ := hrel
    have HP := Lib.hid hpre; clear hpre
    have hk0 : (0 : Int) ≤ (k : Int) := by omega
    by_cases hlt : k < n
    · have hlt' : (k : Int) < (n : Int) := by omega
      obtain ⟨b, o, x, rfl, ex, hcx⟩ := hx.str_at hlt
      obtain ⟨b', o', y, rfl, ey, hcy⟩ := hy.str_at hlt
      clear hx hy
      have EX := Lib.hid ex; clear ex
      have EY := Lib.hid ey; clear ey
      by_cases hxy : x = y
      · subst hxy
        go_wp2
        go_quiet (fail)
        go_wp2
        go_roundw
        case rel => exact ⟨k + 1, _, by omega, by go_num, upto_succ HP.out (by rw [EX.out, EY.out]), rfl⟩
        case measure => simp [intOf] <;> omega
      · have HB := Lib.hid hxy
        have hne := str_parts hxy
        clear hxy
        go_wp2
        go_quiet (fail)
        go_wp2
        go_ret
        refine ⟨ret_bool ?_, q + nq, by rw [World.drewN_drewN]⟩
        have : xs ≠ ys := fun e => by
          have h := EX.out
          rw [e, EY.out] at h
          injection h with h
          exact HB.out h.symm
        simp [this]
    · obtain rfl : k = n := by omega
      clear hx hy
      go_wp2
      go_ret
      refine ⟨ret_bool ?_, q, rfl⟩
      simp [ext_upto HLx.out HLy.out HP.out]
set_option maxHeartbeats 1000000 in
theorem equalTexts_any (A B : Option Addr) (n m c d : Nat) (xs ys : List ByteArray) (w : World) (hx : Rd w 1 A n (strs' xs)) (hy : Rd w 1 B m (strs' ys)) (hn : n ≤ 1048576) (hm : m ≤ 1048576) :
    Calls Tryd.prog 7 #[.slice A n c, .slice B m d] w fun e w' => e = .returned (.bool (decide (xs = ys))) ∧ ∃ q, w' = w.drewN q := by
  have HLx := Lib.hid hx.slen
  have HLy := Lib.hid hy.slen
  by_cases hne : n = m
  case neg =>
    have hb : ((n : Int) != (m : Int)) = true := by simp; omega
    clear hx hy
    go_enter Tryd.func7, Tryd.ntmps7
    go_wp2
    go_ret
    refine ⟨ret_bool ?_, 0, rfl⟩
    have : xs ≠ ys := fun e => hne (by rw [← HLx.out, ← HLy.out, e])
    simp [this]
  subst hne
  go_enter Tryd.func7, Tryd.ntmps7
  go_wp2
  go_loopw [5] (fun i wr => ∃ k q : Nat, k ≤ n ∧ i = .int .i64 k ∧ (∀ j, j < k → xs[j]? = ys[j]?) ∧ wr = w.drewN q) (fun i _ => n - (intOf i).toNat)
  case atStart => exact ⟨0, 0, Nat.zero_le _, rfl, fun j h => absurd h (by omega), rfl⟩
  case round =>
    obtain ⟨k, q, hk, rfl, hpre, rfl⟩ := hrel
    have HP := Lib.hid hpre; clear hpre
    have hk0 : (0 : Int) ≤ (k : Int) := by omega
    by_cases hlt : k < n
    · have hlt' : (k : Int) < (n : Int) := by omega
      obtain ⟨b, o, x, rfl, ex, hcx⟩ := hx.str_at hlt
      obtain ⟨b', o', y, rfl, ey, hcy⟩ := hy.str_at hlt
      clear hx hy
      have EX := Lib.hid ex; clear ex
      have EY := Lib.hid ey; clear ey
      by_cases hxy : x = y
      · subst hxy
        go_wp2
        go_quiet (fail)
        go_wp2
        go_roundw
        case rel => exact ⟨k + 1, _, by omega, by go_num, upto_succ HP.out (by rw [EX.out, EY.out]), rfl⟩
        case measure => simp [intOf] <;> omega
      · have HB := Lib.hid hxy
        have hne := str_parts hxy
        clear hxy
        go_wp2
        go_quiet (fail)
        go_wp2
        go_ret
        refine ⟨ret_bool ?_, q + nq, by rw [World.drewN_drewN]⟩
        have : xs ≠ ys := fun e => by
          have h := EX.out
          rw [e, EY.out] at h
          injection h with h
          exact HB.out h.symm
        simp [this]
    · obtain rfl : k = n := by omega
      clear hx hy
      go_wp2
      go_ret
      refine ⟨ret_bool ?_, q, rfl⟩
      simp [ext_upto HLx.out HLy.out HP.out]

/-- What the measure says: not negative only where there are few elements and all texts are short. -/
def SzStr (w : World) (n : Nat) (xs : List ByteArray) (e : Ending) (w' : World) : Prop :=
  ∃ r : Int, e = .returned (.int .i64 r) ∧ (0 ≤ r → n ≤ 1048576 ∧ ∀ s ∈ xs, s.size ≤ 1048576) ∧ ∃ q, w' = w.drewN q

def SzStrRel (w : World) (n : Nat) (xs : List ByteArray) (i v : Value) (wr : World) : Prop :=
  ∃ (k q : Nat) (r : Int), k ≤ n ∧ i = .int .i64 k ∧ v = .int .i64 r ∧ 0 ≤ r ∧ r ≤ 1048576 ∧ (∀ j s, j < k → xs[j]? = some s → s.size ≤ 1048576) ∧ wr = w.drewN q

theorem strs_small {xs : List ByteArray} {n : Nat} (hl : xs.length = n) (h : ∀ j s, j < n → xs[j]? = some s → s.size ≤ 1048576) : ∀ s ∈ xs, s.size ≤ 1048576 := by
  intro s hs
  obtain ⟨j, hj, rfl⟩ := List.getElem_of_mem hs
  exact h j _ (by omega) (List.getElem?_eq_getElem hj)
theorem strs_step {xs : List ByteArray} {k : Nat} {x : ByteArray} (hs : xs[k]? = some x) (hb : x.size ≤ 1048576) (h : ∀ j s, j < k → xs[j]? = some s → s.size ≤ 1048576) : ∀ j s, j < k + 1 → xs[j]? = some s → s.size ≤ 1048576 := by
  intro j s' hj hs'
  rcases Nat.lt_or_ge j k with h1 | h1
  · exact h j s' h1 hs'
  · obtain rfl : j = k := by omega
    rw [hs] at hs'
    injection hs' with hs'
    rw [← hs']; exact hb

set_option maxHeartbeats 2000000 in
theorem szStringS_any (A : Option Addr) (n c : Nat) (xs : List ByteArray) (w : World) (left : Int) (hx : Rd w 1 A n (strs' xs)) (hn : n ≤ 9223372036854775807) (hz : ∀ s ∈ xs, s.size ≤ 9223372036854775807) (h0 : 0 ≤ left) (h1 : left ≤ 1048576) :
    Calls Tryd.prog 11 #[.slice A n c, .int .i64 left] w (SzStr w n xs) := by
  have HL := Lib.hid hx.slen
  have HZ := Lib.hid hz
  clear hz
  by_cases h2 : left < n
  · have h2' : left - n < 0 := by omega
    clear hx
    go_enter Tryd.func11, Tryd.ntmps11
    go_wp2_with fail
    go_ret
    exact ⟨-1, rfl, fun h => by omega, 0, rfl⟩
  have h2' : ¬ left - n < 0 := by omega
  go_enter Tryd.func11, Tryd.ntmps11
  go_wp2_with fail
  go_loopw [5, 1] (SzStrRel w n xs) (fun i _ _ => n - (intOf i).toNat)
  case atStart => exact ⟨0, 0, left - n, Nat.zero_le _, rfl, rfl, by omega, by omega, fun j s h => absurd h (by omega), rfl⟩
  case round =>
    obtain ⟨k, q, r, hk, rfl, rfl, hr0, hr1, hs, rfl⟩ := hrel
    have HS := Lib.hid hs
    clear hs
    by_cases hlt : k < n
    · obtain ⟨b, o, s, rfl, ex, hc0⟩ := hx.str_at hlt
      have hsz := HZ.out s (List.mem_of_getElem? ex)
      have EX := Lib.hid ex
      clear hx ex
      by_cases hrp : r < s.size
      · have h3 : r - s.size < 0 := by omega
        go_wp2_with fail
        go_ret
        exact ⟨-1, rfl, fun h => by omega, q, rfl⟩
      · have h3 : ¬ r - s.size < 0 := by omega
        go_wp2_with fail
        go_roundw
        case rel => exact ⟨k + 1, q, r - s.size, by omega, by go_num, rfl, by omega, by omega, strs_step EX.out (by omega) HS.out, rfl⟩
        case measure => simp [intOf] <;> omega
    · have hkn : k = n := by omega
      subst hkn
      clear hx
      go_wp2_with fail
      go_ret
      exact ⟨r, rfl, fun _ => ⟨by omega, strs_small HL.out HS.out⟩, q, rfl⟩

theorem infoStr : (Tryd.prog.info? 9).map (fun i => (i.zero, i.size, i.bytes)) = some (some (.string ⟨#[]⟩), 1, 16) := by kernel_rfl
theorem elemStr : ElemT Tryd.prog 23 9 1 := ElemT.of Tryd.underlying23 infoStr rfl (by omega) (by omega)

def Str.cell (s : ByteArray) : List Value := [.string s]
theorem str_flat (l : List ByteArray) : l.flatMap Str.cell = strs' l := by
  induction l with
  | nil => rfl
  | cons x l ih => simp only [List.flatMap_cons, ih]; rfl

set_option maxHeartbeats 1000000 in
theorem toStringS_any (A : Option Addr) (n c : Nat) (xs : List ByteArray) (w : World) (hx : Rd w 1 A n (strs' xs)) (hn : n ≤ 1048576) :
    Calls Tryd.prog 13 #[.slice A n c] w fun e w' => ∃ B d, e = .returned (.slice B n d) ∧ w'.ownsRow w.heap.size 9 1 (.slice B n d) n (strs' xs) ∧ Below w.heap.size w w' := by
  have HL := Lib.hid hx.slen
  obtain ⟨i0, hi, hz0, hz1, hz2⟩ := info_parts infoStr
  have hmk := fun W => run_makeN (P := Tryd.prog) 23 9 i0 _ 1 16 Tryd.underlying23 hi hz0 hz1 hz2 n W (by omega)
  go_enter Tryd.func13, Tryd.ntmps13
  go_wp2_with fail
  go_loopw [4] (FillRel Str.cell w 9 1 ⟨#[]⟩ xs n) (fun i _ => n - (intOf i).toNat)
  case atStart =>
    refine ⟨0, Nat.zero_le _, rfl, ?_, (Below.refl _ _).alloc (Nat.le_refl _) _⟩
    have h := World.ownsRow_lit (base := w.heap.size) (e := 9) (size := 1) w (madeCells #[.string ⟨#[]⟩] (n * 1)) n (Nat.le_refl _) (by unfold maxLen; omega) (by rw [size_madeCells])
    rw [made_flat Str.cell 1 (fun _ => rfl) (by omega) ⟨#[]⟩ _ rfl] at h
    simpa [HL.out] using h
  case round =>
    obtain ⟨k, hk, rfl, hown, hbel⟩ := hrel
    clear hmk
    have HO := Lib.hid hown
    have HB := Lib.hid hbel
    clear hown hbel
    by_cases hlt : k < n
    · obtain ⟨b, o, s, rfl, ex, hc0⟩ := (hx.below HB.out).str_at hlt
      have HF := Lib.hid (fill_cells Str.cell 1 (fun _ => rfl) xs ⟨#[]⟩ k (by rw [HL.out]; exact hlt))
      have EX := Lib.hid ex
      clear hx ex
      have d0 : wr.cell? ⟨w.heap.size, k, none⟩ = some (.string ⟨#[]⟩) := by rw [HO.out.cellAt _ (by omega)]; have h := HF.out 0 (by omega); rw [Nat.mul_one, Nat.add_zero] at h; exact h
      have f0 := HO.out.frozenAt k
      have ST := Lib.hid (HO.out.stored k (.string s)).1
      have hlt' : (k : Int) < (n : Int) := by omega
      go_wp2_with fail
      go_roundw
      case rel =>
        refine ⟨k + 1, by omega, by go_num, ?_, HB.out.setCell (Nat.le_refl _) _⟩
        have h := ST.out
        rw [str_flat, strs', ← List.map_set, fill_set xs _ s k EX.out] at h
        rw [str_flat]
        exact h
      case measure => simp [intOf] <;> omega
    · have hkn : k = n := by omega
      subst hkn
      clear hx
      go_wp2_with fail
      go_ret
      refine ⟨_, _, rfl, ?_, HB.out⟩
      have h := HO.out
      rw [← HL.out, fill_end, HL.out, str_flat] at h
      exact h
end Go.Proofs.YtmljofijeladoaaDoor
