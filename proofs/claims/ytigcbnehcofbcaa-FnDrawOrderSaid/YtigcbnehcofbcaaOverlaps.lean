/-
  Contracts of Overlaps, the program's and the reference's: the first pair of texts that have a common place.
-/
import Derived.Test.YtigcbnehcofbcaaPlaced2
namespace Go.Proofs.Ytigcbnehcofbcaa
open Go.RowKit
set_option linter.unusedVariables false

def ovB (p q : Pl) : Prop := p.y = q.y ∧ p.x < q.x + q.t.size ∧ q.x < p.x + p.t.size
def ovP (l : List Pl) (i k : Nat) : Prop := i < k ∧ ∃ p q, l[i]? = some p ∧ l[k]? = some q ∧ ovB p q

/-- What Overlaps says of texts: the first pair, or none. -/
def OvRes (l : List Pl) (i k : Int) (b : Bool) : Prop :=
  (b = true ∧ ∃ i' k' : Nat, i = i' ∧ k = k' ∧ ovP l i' k' ∧ (∀ a c, a < i' → ¬ ovP l a c) ∧ ∀ c, c < k' → ¬ ovP l i' c) ∨
  (b = false ∧ i = -1 ∧ k = -1 ∧ ∀ a c, ¬ ovP l a c)

def OvSays (l : List Pl) (pw ph : Int) (i k : Int) (b : Bool) : Prop :=
  (vPlaced l pw ph = true ∧ OvRes l i k b) ∨ (vPlaced l pw ph = false ∧ i = -1 ∧ k = -1 ∧ b = false)

theorem OvRes.uniq {l : List Pl} {i k i' k' : Int} {b b' : Bool} (h : OvRes l i k b) (h' : OvRes l i' k' b') : i = i' ∧ k = k' ∧ b = b' := by
  rcases h with ⟨rfl, a, c, rfl, rfl, h1, h2, h3⟩ | ⟨rfl, rfl, rfl, h1⟩
  · rcases h' with ⟨rfl, a', c', rfl, rfl, g1, g2, g3⟩ | ⟨rfl, rfl, rfl, g1⟩
    · have ha : a = a' := by
        rcases Nat.lt_trichotomy a a' with h | h | h
        · exact absurd h1 (g2 a c h)
        · exact h
        · exact absurd g1 (h2 a' c' h)
      subst ha
      have hc : c = c' := by
        rcases Nat.lt_trichotomy c c' with h | h | h
        · exact absurd h1 (g3 c h)
        · exact h
        · exact absurd g1 (h3 c' h)
      subst hc
      exact ⟨rfl, rfl, rfl⟩
    · exact absurd h1 (g1 a c)
  · rcases h' with ⟨rfl, a', c', rfl, rfl, g1, g2, g3⟩ | ⟨rfl, rfl, rfl, g1⟩
    · exact absurd g1 (h1 a' c')
    · exact ⟨rfl, rfl, rfl⟩

theorem OvSays.uniq {l : List Pl} {pw ph i k i' k' : Int} {b b' : Bool} (h : OvSays l pw ph i k b) (h' : OvSays l pw ph i' k' b') : i = i' ∧ k = k' ∧ b = b' := by
  rcases h with ⟨hv, h⟩ | ⟨hv, rfl, rfl, rfl⟩
  · rcases h' with ⟨_, h'⟩ | ⟨hv', _⟩
    · exact h.uniq h'
    · rw [hv] at hv'; cases hv'
  · rcases h' with ⟨hv', _⟩ | ⟨_, rfl, rfl, rfl⟩
    · rw [hv] at hv'; cases hv'
    · exact ⟨rfl, rfl, rfl⟩

def OvEnd (w : World) (l : List Pl) (pw ph : Int) (e : Ending) (w' : World) : Prop :=
  ∃ i k b, e = .returned (.tuple #[.int .i64 i, .int .i64 k, .bool b]) ∧ OvSays l pw ph i k b ∧ Below w.heap.size w w'

def OvOut (w : World) (l : List Pl) (n : Nat) (i : Value) (wr : World) : Prop :=
  ∃ a : Nat, a ≤ n ∧ i = .int .i64 a ∧ (∀ a' c, a' < a → ¬ ovP l a' c) ∧ Below w.heap.size w wr

def OvIn (W : World) (l : List Pl) (n a : Nat) (k : Value) (wr : World) : Prop :=
  ∃ c : Nat, a + 1 ≤ c ∧ c ≤ n ∧ k = .int .i64 c ∧ (∀ c', c' < c → ¬ ovP l a c') ∧ Below W.heap.size W wr

theorem ov_first {l : List Pl} {a : Nat} : ∀ c', c' < a + 1 → ¬ ovP l a c' := fun c' h ho => by have := ho.1; omega
theorem ov_next {l : List Pl} {a c : Nat} {p q : Pl} (hp : l[a]? = some p) (hq : l[c]? = some q) (hn : ¬ ovB p q) (h : ∀ c', c' < c → ¬ ovP l a c') : ∀ c', c' < c + 1 → ¬ ovP l a c' := by
  intro c' hc ho
  rcases Nat.lt_or_ge c' c with h1 | h1
  · exact h c' h1 ho
  · obtain rfl : c' = c := by omega
    obtain ⟨_, p', q', e1, e2, ho⟩ := ho
    rw [hp] at e1; rw [hq] at e2
    injection e1 with e1; injection e2 with e2
    subst e1; subst e2
    exact hn ho
theorem ov_row {l : List Pl} {a n : Nat} (hl : l.length = n) (h : ∀ c', c' < n → ¬ ovP l a c') (hp : ∀ a' c, a' < a → ¬ ovP l a' c) : ∀ a' c, a' < a + 1 → ¬ ovP l a' c := by
  intro a' c ha ho
  rcases Nat.lt_or_ge a' a with h1 | h1
  · exact hp a' c h1 ho
  · obtain rfl : a' = a := by omega
    obtain ⟨_, p, q, _, e2, _⟩ := id ho
    exact h c (by have := (List.getElem?_eq_some_iff.1 e2).1; omega) ho
theorem ov_none {l : List Pl} {n : Nat} (hl : l.length = n) (h : ∀ a' c, a' < n → ¬ ovP l a' c) : ∀ a c, ¬ ovP l a c := by
  intro a c ho
  obtain ⟨_, p, q, e1, _, _⟩ := id ho
  exact h a c (by have := (List.getElem?_eq_some_iff.1 e1).1; omega) ho

/-- What is known of a text of valid ones. -/
theorem placed_small {l : List Pl} {pw ph : Int} (h : vPlaced l pw ph = true) {k : Nat} {p : Pl} (hp : l[k]? = some p) : 0 ≤ p.x ∧ p.x ≤ 60 ∧ p.t.size ≤ 60 := by
  simp only [vPlaced, Bool.and_eq_true, List.all_eq_true, vPl] at h
  obtain ⟨⟨⟨hw, _⟩, _⟩, ha⟩ := h
  obtain ⟨⟨⟨ht, _⟩, hx⟩, _⟩ := ha p (List.mem_of_getElem? hp)
  have h1 := inB_iff.1 hw
  have h2 := inB_iff.1 hx
  exact ⟨h2.1, by omega, vText_le ht⟩

set_option maxHeartbeats 4000000 in
theorem implOverlaps_any (A : Option Addr) (n c : Nat) (l : List Pl) (w : World) (pw ph : Int) (hx : Rd w 3 A n (placeds l)) (hn : n ≤ 1048576) (hz : ∀ p ∈ l, p.t.size ≤ 1048576) :
    Calls Try.prog 17 #[.slice A n c, .int .i64 pw, .int .i64 ph] w (OvEnd w l pw ph) := by
  have HL := Lib.hid hx.placed_len
  have HC := Lib.hid (implValidPlaced_any A n c l w pw ph hx hn hz)
  cases hv : vPlaced l pw ph
  · have HV := Lib.hid hv
    rw [hv] at HC
    clear hx hv hz
    go_enter Try.func17, Try.ntmps17
    go_wp2_with (go_at_call 13; refine HC.out.mono ?_; rintro e w1 ⟨rfl, hb⟩; have B1 := Lib.hid hb; clear hb)
    go_ret3
    exact ⟨-1, -1, false, rfl, .inr ⟨HV.out, rfl, rfl, rfl⟩, B1.out⟩
  have HV := Lib.hid hv
  rw [hv] at HC
  clear hv hz
  go_enter Try.func17, Try.ntmps17
  go_wp2_with (go_at_call 13; refine HC.out.mono ?_; rintro e w1 ⟨rfl, hb⟩; have B1 := Lib.hid hb; clear hb)
  clear HC
  go_loopw [20] (OvOut w l n) (fun i _ => n - (intOf i).toNat)
  case atStart => exact ⟨0, Nat.zero_le _, rfl, fun a' c h => absurd h (by omega), B1.out⟩
  case round =>
    obtain ⟨a, ha, rfl, hpre, hb⟩ := hrel
    have HP := Lib.hid hpre
    have HB := Lib.hid hb
    clear hpre hb
    by_cases hlt : a < n
    · obtain ⟨b, o, p, rfl, ep, hc0, hc1, hc2⟩ := (hx.below HB.out).placed_at hlt
      have EP := Lib.hid ep
      have hps := placed_small HV.out ep
      have X1 := Lib.hid hx
      clear hx ep
      go_wp2_with fail
      have HBA := Lib.hid (HB.out.alloc HB.out.size (.cells #[.int .i64 p.x, .int .i64 p.y, .string p.t] 36))
      have P0 : (wr.alloc (.cells #[.int .i64 p.x, .int .i64 p.y, .string p.t] 36)).cell? ⟨wr.heap.size, 0, none⟩ = some (.int .i64 p.x) := cell_of_row _ _ 0 _ _ (0, 0) (heap_alloc_new wr _)
      have P1 : (wr.alloc (.cells #[.int .i64 p.x, .int .i64 p.y, .string p.t] 36)).cell? ⟨wr.heap.size, 1, none⟩ = some (.int .i64 p.y) := cell_of_row _ _ 1 _ _ (0, 0) (heap_alloc_new wr _)
      have P2 : (wr.alloc (.cells #[.int .i64 p.x, .int .i64 p.y, .string p.t] 36)).cell? ⟨wr.heap.size, 2, none⟩ = some (.string p.t) := cell_of_row _ _ 2 _ _ (0, 0) (heap_alloc_new wr _)
      obtain ⟨W1, hW1⟩ : ∃ W1, W1 = wr.alloc (.cells #[.int .i64 p.x, .int .i64 p.y, .string p.t] 36) := ⟨_, rfl⟩
      rw [← hW1] at P0 P1 P2 HBA ⊢
      clear hW1
      go_loopw [11] (OvIn W1 l n a) (fun k _ => n - (intOf k).toNat)
      case atStart => exact ⟨a + 1, Nat.le_refl _, by omega, by go_num, ov_first, Below.refl _ _⟩
      case round =>
        rename_i wi
        obtain ⟨c', hc1, hc2, rfl, hpi, hbi⟩ := hrel
        have HPI := Lib.hid hpi
        have HI := Lib.hid hbi
        clear hpi hbi
        by_cases hlt2 : c' < n
        · obtain ⟨b', o', q, e1, eq, hd0, hd1, hd2⟩ := (X1.out.below (below_step HBA.out HI.out)).placed_at hlt2
          injection e1 with e1
          injection e1 with e1 e2
          subst e1; subst e2
          have EQ := Lib.hid eq
          have hqs := placed_small HV.out eq
          clear eq
          have p0 := cell_alloc (cell_below HI.out P0)
          have p1 := cell_alloc (cell_below HI.out P1)
          have p2 := cell_alloc (cell_below HI.out P2)
          by_cases t1 : p.y = q.y
          case neg =>
            have t1' : (p.y == q.y) = false := by simpa using t1
            have HN : Hid (¬ ovB p q) := fun h => t1 h.1
            clear t1
            go_wp2_with fail
            go_roundw
            case rel => exact ⟨c' + 1, by omega, by omega, by go_num, ov_next EP.out EQ.out HN.out HPI.out, HI.out.alloc HI.out.size _⟩
            case measure => simp [intOf] <;> omega
          have t1' : (p.y == q.y) = true := by simpa using t1
          by_cases t2 : p.x < q.x + q.t.size
          case neg =>
            have HN : Hid (¬ ovB p q) := fun h => t2 h.2.1
            have t2' : decide (p.x < q.x + q.t.size) = false := decide_eq_false t2
            clear t1 t2
            go_wp2_with fail
            go_roundw
            case rel => exact ⟨c' + 1, by omega, by omega, by go_num, ov_next EP.out EQ.out HN.out HPI.out, HI.out.alloc HI.out.size _⟩
            case measure => simp [intOf] <;> omega
          by_cases t3 : q.x < p.x + p.t.size
          case neg =>
            have HN : Hid (¬ ovB p q) := fun h => t3 h.2.2
            have t3' : decide (q.x < p.x + p.t.size) = false := decide_eq_false t3
            clear t1 t3
            go_wp2_with fail
            go_roundw
            case rel => exact ⟨c' + 1, by omega, by omega, by go_num, ov_next EP.out EQ.out HN.out HPI.out, HI.out.alloc HI.out.size _⟩
            case measure => simp [intOf] <;> omega
          have HY : Hid (ovP l a c') := ⟨by omega, p, q, EP.out, EQ.out, t1, t2, t3⟩
          clear t1
          go_wp2_with fail
          go_ret3
          exact ⟨a, c', true, rfl, .inl ⟨HV.out, .inl ⟨rfl, a, c', rfl, rfl, HY.out, HP.out, HPI.out⟩⟩, (below_step HBA.out HI.out).alloc (below_step HBA.out HI.out).size _⟩
        · have hcn : c' = n := by omega
          subst hcn
          have HR := Lib.hid (ov_row HL.out HPI.out HP.out)
          go_wp2_with fail
          go_roundw
          case rel => exact ⟨a + 1, by omega, by go_num, HR.out, below_step HBA.out HI.out⟩
          case measure => simp [intOf] <;> omega
    · have han : a = n := by omega
      subst han
      have HR := Lib.hid (ov_none HL.out HP.out)
      clear hx
      go_wp2_with fail
      go_ret3
      exact ⟨-1, -1, false, rfl, .inl ⟨HV.out, .inr ⟨rfl, rfl, rfl, HR.out⟩⟩, HB.out⟩

set_option maxHeartbeats 4000000 in
theorem specOverlaps_any (A : Option Addr) (n c : Nat) (l : List Pl) (w : World) (pw ph : Int) (hx : Rd w 3 A n (placeds l)) (hn : n ≤ 1048576) (hz : ∀ p ∈ l, p.t.size ≤ 1048576) :
    Calls Try.prog 16 #[.slice A n c, .int .i64 pw, .int .i64 ph] w (OvEnd w l pw ph) := by
  have HL := Lib.hid hx.placed_len
  have HC := Lib.hid (specPlaced_any A n c l w pw ph hx hn hz)
  cases hv : vPlaced l pw ph
  · have HV := Lib.hid hv
    rw [hv] at HC
    clear hx hv hz
    go_enter Try.func16, Try.ntmps16
    go_wp2_with (go_at_call 28; refine HC.out.mono ?_; rintro e w1 ⟨rfl, hb⟩; have B1 := Lib.hid hb; clear hb)
    go_ret3
    exact ⟨-1, -1, false, rfl, .inr ⟨HV.out, rfl, rfl, rfl⟩, B1.out⟩
  have HV := Lib.hid hv
  rw [hv] at HC
  clear hv hz
  go_enter Try.func16, Try.ntmps16
  go_wp2_with (go_at_call 28; refine HC.out.mono ?_; rintro e w1 ⟨rfl, hb⟩; have B1 := Lib.hid hb; clear hb)
  clear HC
  go_loopw [9] (OvOut w l n) (fun i _ => n - (intOf i).toNat)
  case atStart => exact ⟨0, Nat.zero_le _, rfl, fun a' c h => absurd h (by omega), B1.out⟩
  case round =>
    obtain ⟨a, ha, rfl, hpre, hb⟩ := hrel
    have HP := Lib.hid hpre
    have HB := Lib.hid hb
    clear hpre hb
    by_cases hlt : a < n
    · obtain ⟨b, o, p, rfl, ep, hc0, hc1, hc2⟩ := (hx.below HB.out).placed_at hlt
      have EP := Lib.hid ep
      have hps := placed_small HV.out ep
      have X1 := Lib.hid hx
      clear hx ep
      go_wp2_with fail
      obtain ⟨W1, hW1⟩ : ∃ W1, W1 = wr := ⟨_, rfl⟩
      rw [← hW1] at hc0 hc1 hc2 HB ⊢
      clear hW1
      have HBA := HB
      go_loopw [10] (OvIn W1 l n a) (fun k _ => n - (intOf k).toNat)
      case atStart => exact ⟨a + 1, Nat.le_refl _, by omega, by go_num, ov_first, Below.refl _ _⟩
      case round =>
        obtain ⟨c', hk1, hk2, rfl, hpi, hbi⟩ := hrel
        have HPI := Lib.hid hpi
        have HI := Lib.hid hbi
        clear hpi hbi
        by_cases hlt2 : c' < n
        · obtain ⟨b', o', q, e1, eq, hd0, hd1, hd2⟩ := (X1.out.below (below_step HBA.out HI.out)).placed_at hlt2
          injection e1 with e1
          injection e1 with e1 e2
          subst e1; subst e2
          have EQ := Lib.hid eq
          have hqs := placed_small HV.out eq
          clear eq
          have d0 := cell_alloc hd0
          have d1 := cell_alloc hd1
          have d2 := cell_alloc hd2
          have p0 := cell_below HI.out hc0
          have p1 := cell_below HI.out hc1
          have p2 := cell_below HI.out hc2
          by_cases t1 : p.y = q.y
          case neg =>
            have t1' : (p.y == q.y) = false := by simpa using t1
            have HN : Hid (¬ ovB p q) := fun h => t1 h.1
            clear t1
            go_wp2_with fail
            go_roundw
            case rel => exact ⟨c' + 1, by omega, by omega, by go_num, ov_next EP.out EQ.out HN.out HPI.out, (HI.out.alloc HI.out.size _).alloc (by have := HI.out.size; simp; omega) _⟩
            case measure => simp [intOf] <;> omega
          have t1' : (p.y == q.y) = true := by simpa using t1
          by_cases t2 : p.x < q.x + q.t.size
          case neg =>
            have HN : Hid (¬ ovB p q) := fun h => t2 h.2.1
            have t2' : decide (p.x < q.x + q.t.size) = false := decide_eq_false t2
            clear t1 t2
            go_wp2_with fail
            go_roundw
            case rel => exact ⟨c' + 1, by omega, by omega, by go_num, ov_next EP.out EQ.out HN.out HPI.out, (HI.out.alloc HI.out.size _).alloc (by have := HI.out.size; simp; omega) _⟩
            case measure => simp [intOf] <;> omega
          by_cases t3 : q.x < p.x + p.t.size
          case neg =>
            have HN : Hid (¬ ovB p q) := fun h => t3 h.2.2
            have t3' : decide (q.x < p.x + p.t.size) = false := decide_eq_false t3
            clear t1 t3
            go_wp2_with fail
            go_roundw
            case rel => exact ⟨c' + 1, by omega, by omega, by go_num, ov_next EP.out EQ.out HN.out HPI.out, (HI.out.alloc HI.out.size _).alloc (by have := HI.out.size; simp; omega) _⟩
            case measure => simp [intOf] <;> omega
          have HY : Hid (ovP l a c') := ⟨by omega, p, q, EP.out, EQ.out, t1, t2, t3⟩
          clear t1
          go_wp2_with fail
          go_ret3
          exact ⟨a, c', true, rfl, .inl ⟨HV.out, .inl ⟨rfl, a, c', rfl, rfl, HY.out, HP.out, HPI.out⟩⟩, below_step HBA.out ((HI.out.alloc HI.out.size _).alloc (by have := HI.out.size; simp; omega) _)⟩
        · have hcn : c' = n := by omega
          subst hcn
          have HR := Lib.hid (ov_row HL.out HPI.out HP.out)
          go_wp2_with fail
          go_roundw
          case rel => exact ⟨a + 1, by omega, by go_num, HR.out, below_step HBA.out HI.out⟩
          case measure => simp [intOf] <;> omega
    · have han : a = n := by omega
      subst han
      have HR := Lib.hid (ov_none HL.out HP.out)
      clear hx
      go_wp2_with fail
      go_ret3
      exact ⟨-1, -1, false, rfl, .inl ⟨HV.out, .inr ⟨rfl, rfl, rfl, HR.out⟩⟩, HB.out⟩
end Go.Proofs.Ytigcbnehcofbcaa
