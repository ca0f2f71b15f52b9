/-
  What the ends with the least sum of squares keep: they are accepted, no ends have a lower sum, and the ends behind a line are those of the words behind it. No program occurs here.
-/
import Derived.Test.YtmljofijeladoaaDoorWrapPlain
namespace Go.Proofs.YtmljofijeladoaaDoor
set_option linter.unusedVariables false

/-! ### The finished table -/
theorem wtab_stable {L : List Nat} {W : Int} {k j : Nat} (hj : L.length ≤ j + k) : ∀ m, k + m ≤ L.length → wtab L W (k + m) j = wtab L W k j
  | 0, _ => rfl
  | m + 1, h => by
    rw [← Nat.add_assoc, wtab, if_neg (by omega)]
    exact wtab_stable hj m (by omega)

def wT (L : List Nat) (W : Int) (j : Nat) : Int × Nat := wtab L W L.length j

theorem wT_of {L : List Nat} {W : Int} {k j : Nat} (hk : k ≤ L.length) (hj : L.length ≤ j + k) : wtab L W k j = wT L W j := by
  have h := wtab_stable (W := W) hj (L.length - k) (by omega)
  rw [show k + (L.length - k) = L.length from by omega] at h
  exact h.symm

theorem wtab_big (L : List Nat) (W : Int) : ∀ (k j : Nat), L.length ≤ j → k ≤ L.length → wtab L W k j = (0, 0)
  | 0, _, _, _ => rfl
  | k + 1, j, h, hk => by rw [wtab, if_neg (by omega)]; exact wtab_big L W k j h (by omega)
theorem wT_big {L : List Nat} {W : Int} {j : Nat} (h : L.length ≤ j) : wT L W j = (0, 0) := wtab_big L W _ j h (Nat.le_refl _)

theorem wcst_congr {L : List Nat} {W : Int} {C C' : Nat → Int} {i j : Nat} (h : C j = C' j) : wcst L W C i j = wcst L W C' i j := by unfold wcst; rw [h]
theorem wscan_congr {L : List Nat} {W : Int} {C C' : Nat → Int} {i : Nat} : ∀ (f j : Nat) (st : Int × Nat), (∀ x, j ≤ x → C x = C' x) → wscan L W C i f j st = wscan L W C' i f j st
  | 0, _, _, _ => rfl
  | f + 1, j, st, h => by
    rw [wscan, wscan]
    have e : wupd L W C i st j = wupd L W C' i st j := by unfold wupd; rw [wcst_congr (h j (Nat.le_refl _))]
    rw [e, wscan_congr f (j + 1) _ (fun x hx => h x (by omega))]

theorem wT_eq {L : List Nat} {W : Int} {i : Nat} (hi : i < L.length) : wT L W i = wscanJ L W (fun x => (wT L W x).1) i (i + 1) (0, 0) := by
  have e : L.length - i = (L.length - i - 1) + 1 := by omega
  rw [← wT_of (k := L.length - i) (by omega) (by omega), e, wtab, if_pos (by omega)]
  unfold wscanJ
  apply wscan_congr
  intro x hx
  rw [wT_of (by omega) (by omega)]

/-! ### What is left for longer lines is less -/
theorem wrest_succ {L : List Nat} {W : Int} {i j : Nat} (hij : i < j) (hj : j < L.length) : wrest L W i (j + 1) < wrest L W i j := by
  have e : seg L i (j + 1) = seg L i j ++ [L[j]] := by
    unfold seg
    rw [show j + 1 - i = (j - i) + 1 from by omega, List.take_add_one]
    congr 1
    rw [List.getElem?_drop, show i + (j - i) = j from by omega, List.getElem?_eq_getElem hj]
    rfl
  unfold wrest lineLen
  rw [e]
  simp
  omega

theorem wrest_anti {L : List Nat} {W : Int} {i j : Nat} (hij : i < j) : ∀ m, j + m ≤ L.length → wrest L W i (j + m) ≤ wrest L W i j
  | 0, _ => Int.le_refl _
  | m + 1, h => by
    have h1 := wrest_anti (L := L) (W := W) hij m (by omega)
    have h2 := wrest_succ (W := W) (i := i) (j := j + m) (L := L) (by omega) (by omega)
    rw [← Nat.add_assoc]
    omega

/-! ### The scan finds the least -/
/-- What the state of a scan at i says, all ends below j having been looked at. -/
def wmin (L : List Nat) (W : Int) (C : Nat → Int) (i j : Nat) (st : Int × Nat) : Prop :=
  (st.2 ≠ 0 → i < st.2 ∧ st.2 ≤ L.length ∧ 0 ≤ wrest L W i st.2 ∧ st.1 = wcst L W C i st.2) ∧ ∀ x, i < x → x < j → x ≤ L.length → 0 ≤ wrest L W i x → st.2 ≠ 0 ∧ st.1 ≤ wcst L W C i x

theorem wmin_upd {L : List Nat} {W : Int} {C : Nat → Int} {i j : Nat} {st : Int × Nat} (hij : i < j) (hj : j ≤ L.length) (hr : 0 ≤ wrest L W i j) (h : wmin L W C i j st) : wmin L W C i (j + 1) (wupd L W C i st j) := by
  obtain ⟨h1, h2⟩ := h
  unfold wupd
  split
  · rename_i hc
    refine ⟨fun _ => ⟨hij, hj, hr, rfl⟩, fun x hx1 hx2 hx3 hx4 => ⟨by show j ≠ 0; omega, ?_⟩⟩
    show wcst L W C i j ≤ wcst L W C i x
    rcases Nat.lt_or_ge x j with hlt | hge
    · have := h2 x hx1 hlt hx3 hx4
      rcases hc with hc | hc
      · exact absurd hc this.1
      · omega
    · rw [show x = j from by omega]; exact Int.le_refl _
  · rename_i hc
    have hne : st.2 ≠ 0 := fun e => hc (.inl e)
    have hle : ¬ wcst L W C i j < st.1 := fun e => hc (.inr e)
    refine ⟨h1, fun x hx1 hx2 hx3 hx4 => ⟨hne, ?_⟩⟩
    rcases Nat.lt_or_ge x j with hlt | hge
    · exact (h2 x hx1 hlt hx3 hx4).2
    · rw [show x = j from by omega]; omega

theorem wscan_min {L : List Nat} {W : Int} {C : Nat → Int} {i : Nat} : ∀ (f j : Nat) (st : Int × Nat), f = L.length + 1 - j → i < j → wmin L W C i j st → wmin L W C i (L.length + 1) (wscan L W C i f j st)
  | 0, j, st, hf, hij, h => ⟨h.1, fun x h1 h2 h3 h4 => h.2 x h1 (by omega) h3 h4⟩
  | f + 1, j, st, hf, hij, h => by
    rw [wscan]
    split
    · rename_i hr
      exact wscan_min f (j + 1) _ (by omega) (by omega) (wmin_upd hij (by omega) hr h)
    · rename_i hr
      refine ⟨h.1, fun x h1 h2 h3 h4 => ?_⟩
      rcases Nat.lt_or_ge x j with hlt | hge
      · exact h.2 x h1 hlt h3 h4
      · have := wrest_anti (W := W) (L := L) hij (x - j) (by omega)
        rw [show j + (x - j) = x from by omega] at this
        omega

theorem wT_min {L : List Nat} {W : Int} {i : Nat} (hi : i < L.length) : wmin L W (fun x => (wT L W x).1) i (L.length + 1) (wT L W i) := by
  have h := wscan_min (L := L) (W := W) (C := fun x => (wT L W x).1) (i := i) (L.length + 1 - (i + 1)) (i + 1) (0, 0) rfl (by omega) ⟨fun h => absurd rfl h, fun x h1 h2 => by omega⟩
  rw [wT_eq hi]
  exact h

theorem wnext_ok {L : List Nat} {W : Int} (hW : W ≤ 60) (hL : ∀ x ∈ L, (x : Int) ≤ W) {i : Nat} (hi : i < L.length) : i < wnext L W i ∧ wnext L W i ≤ L.length := wtab_next L W hW hL L.length i hi (by omega)

/-! ### Costs of given ends -/
def wcost (L : List Nat) (W : Int) : Nat → List Int → Option Int
  | i, [] => if i = L.length then some 0 else none
  | i, e :: es => if e ≤ (i : Int) ∨ (L.length : Int) < e ∨ wrest L W i e.toNat < 0 then none
    else (wcost L W e.toNat es).map fun s => (if e < (L.length : Int) then wrest L W i e.toNat * wrest L W i e.toNat else 0) + s

theorem wcost_end {L : List Nat} {W : Int} {es : List Int} {s : Int} (h : wcost L W L.length es = some s) : es = [] ∧ s = 0 := by
  cases es with
  | nil => rw [wcost, if_pos rfl] at h; exact ⟨rfl, by injection h with h; exact h.symm⟩
  | cons e es =>
    rw [wcost] at h
    split at h
    · cases h
    · rename_i hc; omega

theorem wcost_least {L : List Nat} {W : Int} : ∀ (es : List Int) (i : Nat) (s : Int), i ≤ L.length → wcost L W i es = some s → (wT L W i).1 ≤ s
  | [], i, s, hi, h => by
    rw [wcost] at h
    split at h
    · rename_i e
      injection h with h
      rw [wT_big (by omega)]
      show (0 : Int) ≤ s
      omega
    · cases h
  | e :: es, i, s, hi, h => by
    rw [wcost] at h
    split at h
    · cases h
    · rename_i hc
      have h1 : (i : Int) < e := by omega
      have h2 : e ≤ (L.length : Int) := by omega
      have h3 : 0 ≤ wrest L W i e.toNat := by omega
      cases hs : wcost L W e.toNat es with
      | none => rw [hs] at h; cases h
      | some s' =>
        rw [hs] at h
        simp only [Option.map_some, Option.some.injEq] at h
        have ih := wcost_least es e.toNat s' (by omega) hs
        have hm := ((wT_min (W := W) (L := L) (i := i) (by omega)).2 e.toNat (by omega) (by omega) (by omega) h3).2
        refine Int.le_trans hm ?_
        show (if e.toNat = L.length then (0 : Int) else wrest L W i e.toNat * wrest L W i e.toNat + (wT L W e.toNat).1) ≤ s
        split
        · rename_i en
          have := wcost_end (by rw [← en]; exact hs)
          rw [if_neg (by omega)] at h
          omega
        · rw [if_pos (by omega)] at h
          omega

theorem wcost_chain {L : List Nat} {W : Int} (hW : W ≤ 60) (hL : ∀ x ∈ L, (x : Int) ≤ W) : ∀ (f i : Nat), i + f = L.length → wcost L W i ((wchainI (wnext L W) L.length i).map fun x : Nat => (x : Int)) = some (wT L W i).1 := by
  intro f
  induction f using Nat.strongRecOn with
  | _ f ih =>
    intro i hf
    rcases Nat.lt_or_ge i L.length with hi | hi
    · have hn := wnext_ok hW hL hi
      rw [wchainI_step (fun i hi => (wnext_ok hW hL hi).1) hi, List.map_cons, wcost]
      have hm := (wT_min (W := W) hi).1 (by show (wtab L W L.length i).2 ≠ 0; have := hn.1; unfold wnext at this; omega)
      have e : (wT L W i).2 = wnext L W i := rfl
      rw [e] at hm
      obtain ⟨h1, h2, h3, h4⟩ := hm
      rw [if_neg (by simp only [Int.toNat_natCast]; omega), Int.toNat_natCast, ih (L.length - wnext L W i) (by omega) (wnext L W i) (by omega), h4]
      simp only [Option.map_some, Option.some.injEq]
      unfold wcst
      by_cases en : wnext L W i = L.length
      · rw [if_neg (show ¬ ((wnext L W i : Int) < (L.length : Int)) from by omega), if_pos en, wT_big (by omega)]
        rfl
      · rw [if_pos (show (wnext L W i : Int) < (L.length : Int) from by omega), if_neg en]
    · rw [wchainI_end hi, List.map_nil, wcost, if_pos (by omega), wT_big hi]

/-- The ends are accepted, with the sum of the table. -/
theorem wcost_ends {L : List Nat} {W : Int} (hW : W ≤ 60) (hL : ∀ x ∈ L, (x : Int) ≤ W) : wcost L W 0 ((wends L W).map fun x : Nat => (x : Int)) = some (wT L W 0).1 := wcost_chain hW hL L.length 0 (by omega)
theorem wT_pos (L : List Nat) (W : Int) (hW : W ≤ 60) (i : Nat) : 0 ≤ (wT L W i).1 := (wtab_ok L W hW L.length i).1
theorem wT_one {L : List Nat} {W : Int} (hn : 0 < L.length) (h : lineLen L ≤ W) : (wT L W 0).1 ≤ 0 := by
  have e : seg L 0 L.length = L := by simp [seg]
  have h3 : 0 ≤ wrest L W 0 L.length := by rw [wrest, e]; omega
  have := ((wT_min (W := W) (L := L) (i := 0) hn).2 L.length hn (by omega) (by omega) h3).2
  unfold wcst at this
  rwa [if_pos rfl] at this
theorem wcost_one {L : List Nat} {W : Int} (hn : 0 < L.length) (h : lineLen L ≤ W) : wcost L W 0 [(L.length : Int)] = some 0 := by
  have e : seg L 0 L.length = L := by simp [seg]
  have h3 : 0 ≤ wrest L W 0 L.length := by rw [wrest, e]; omega
  rw [wcost, if_neg (by simp only [Int.toNat_natCast]; omega), Int.toNat_natCast, wcost, if_pos rfl, if_neg (by omega)]
  rfl

/-! ### The last end, and how many -/
theorem wchain_ne {L : List Nat} {W : Int} (hW : W ≤ 60) (hL : ∀ x ∈ L, (x : Int) ≤ W) : ∀ (f i : Nat), i + f = L.length → i < L.length → (wchainI (wnext L W) L.length i).getLast? = some L.length := by
  intro f
  induction f using Nat.strongRecOn with
  | _ f ih =>
    intro i hf hi
    have hn := wnext_ok hW hL hi
    rw [wchainI_step (fun i hi => (wnext_ok hW hL hi).1) hi]
    rcases Nat.lt_or_ge (wnext L W i) L.length with h | h
    · rw [List.getLast?_cons, ih (L.length - wnext L W i) (by omega) (wnext L W i) (by omega) h]
      rfl
    · rw [wchainI_end h, show wnext L W i = L.length from by omega]
      rfl
theorem wends_last {L : List Nat} {W : Int} (hW : W ≤ 60) (hL : ∀ x ∈ L, (x : Int) ≤ W) (h : 0 < L.length) : (wends L W).getLast? = some L.length := wchain_ne hW hL L.length 0 (by omega) h

theorem wchain_length {nx : Nat → Nat} {n : Nat} : ∀ (f i : Nat), (wchain nx n f i).length ≤ f
  | 0, _ => Nat.le_refl _
  | f + 1, i => by
    rw [wchain]
    split
    · have := wchain_length (nx := nx) (n := n) f (nx i); simp; omega
    · simp
theorem wends_length (L : List Nat) (W : Int) : (wends L W).length ≤ L.length := by
  have := wchain_length (nx := wnext L W) (n := L.length) (L.length - 0) 0
  unfold wends wchainI; omega

/-! ### The words behind a line -/
theorem seg_drop (L : List Nat) (d i j : Nat) : seg (L.drop d) i j = seg L (i + d) (j + d) := by
  unfold seg
  rw [List.drop_drop, show j + d - (i + d) = j - i from by omega, Nat.add_comm d i]
theorem wrest_drop (L : List Nat) (W : Int) (d i j : Nat) : wrest (L.drop d) W i j = wrest L W (i + d) (j + d) := by rw [wrest, wrest, seg_drop]

def wsh (d : Nat) (st : Int × Nat) : Int × Nat := (st.1, if st.2 = 0 then 0 else st.2 - d)

theorem wscan_drop {L : List Nat} {W : Int} {C C' : Nat → Int} {d i : Nat} (hd : d ≤ L.length) (hC : ∀ x, C' x = C (x + d)) : ∀ (f j : Nat) (st : Int × Nat), 0 < j → (st.2 = 0 ∨ d < st.2) → wscan (L.drop d) W C' i f j (wsh d st) = wsh d (wscan L W C (i + d) f (j + d) st)
  | 0, _, _, _, _ => rfl
  | f + 1, j, st, hj, hst => by
    rw [wscan, wscan, wrest_drop]
    split
    · have hc : wcst (L.drop d) W C' i j = wcst L W C (i + d) (j + d) := by
        unfold wcst
        rw [wrest_drop, hC, List.length_drop]
        by_cases h : j = L.length - d
        · rw [if_pos h, if_pos (by omega)]
        · rw [if_neg h, if_neg (by omega)]
      have e : wupd (L.drop d) W C' i (wsh d st) j = wsh d (wupd L W C (i + d) st (j + d)) := by
        unfold wupd
        rw [hc]
        have h2 : ((wsh d st).2 = 0 ↔ st.2 = 0) := by
          unfold wsh
          rcases hst with h | h
          · simp [h]
          · simp; omega
        by_cases h : st.2 = 0 ∨ wcst L W C (i + d) (j + d) < st.1
        · rw [if_pos h, if_pos (by rw [h2]; exact h)]
          unfold wsh
          simp
          omega
        · rw [if_neg h, if_neg (by rw [h2]; exact h)]
      rw [e, show j + d + 1 = (j + 1) + d from by omega]
      refine wscan_drop hd hC f (j + 1) _ (by omega) ?_
      unfold wupd
      split
      · right; show d < j + d; omega
      · exact hst
    · rfl

theorem wT_drop {L : List Nat} {W : Int} {d : Nat} (hd : d ≤ L.length) : ∀ (f i : Nat), i + f = L.length - d → wT (L.drop d) W i = wsh d (wT L W (i + d)) := by
  intro f
  induction f using Nat.strongRecOn with
  | _ f ih =>
    intro i hf
    rcases Nat.lt_or_ge (i + d) L.length with hi | hi
    · have hl : (L.drop d).length = L.length - d := List.length_drop
      rw [wT_eq (by omega), wT_eq hi]
      unfold wscanJ
      rw [hl, show L.length + 1 - (i + d + 1) = L.length - d + 1 - (i + 1) from by omega, show i + d + 1 = (i + 1) + d from by omega]
      have h0 : ((0, 0) : Int × Nat) = wsh d (0, 0) := rfl
      have hC : ∀ x, i + 1 ≤ x → (fun x => (wT (L.drop d) W x).1) x = (fun x => (wT L W (x + d)).1) x := by
        intro x hx
        rcases Nat.lt_or_ge (L.length - d) x with h | h
        · show (wT (L.drop d) W x).1 = (wT L W (x + d)).1
          rw [wT_big (by omega), wT_big (by omega)]
        · show (wT (L.drop d) W x).1 = (wT L W (x + d)).1
          rw [ih (L.length - d - x) (by omega) x (by omega)]
          rfl
      rw [wscan_congr (C' := fun x => (wT L W (x + d)).1) _ _ _ hC, h0]
      exact wscan_drop (C := fun x => (wT L W x).1) (C' := fun x => (wT L W (x + d)).1) hd (fun _ => rfl) _ _ _ (by omega) (.inl rfl)
    · rw [wT_big (by rw [List.length_drop]; omega), wT_big hi]
      rfl

theorem wchain_drop {nx nx' : Nat → Nat} {n d : Nat} (hd : d ≤ n) (h : ∀ i, i + d < n → nx (i + d) = nx' i + d) : ∀ (f i : Nat), wchain nx n f (i + d) = (wchain nx' (n - d) f i).map (· + d)
  | 0, _ => rfl
  | f + 1, i => by
    rw [wchain, wchain]
    by_cases hi : i + d < n
    · rw [if_pos hi, if_pos (by omega), h i hi, List.map_cons, wchain_drop hd h f (nx' i)]
    · rw [if_neg hi, if_neg (by omega)]; rfl

theorem wends_drop {L : List Nat} {W : Int} (hW : W ≤ 60) (hL : ∀ x ∈ L, (x : Int) ≤ W) {d : Nat} {es : List Nat} (h : wends L W = d :: es) : d ≤ L.length ∧ es = (wends (L.drop d) W).map (· + d) := by
  rcases Nat.lt_or_ge 0 L.length with h0 | h0
  · have hn := wnext_ok hW hL h0
    rw [wends, wchainI_step (fun i hi => (wnext_ok hW hL hi).1) h0] at h
    injection h with h1 h2
    subst h1
    refine ⟨hn.2, ?_⟩
    rw [← h2, wends, wchainI, wchainI, List.length_drop]
    have hx := wchain_drop (nx := wnext L W) (nx' := wnext (L.drop (wnext L W 0)) W) (n := L.length) (d := wnext L W 0) hn.2 (fun i hi => by
      have hT := wT_drop (W := W) hn.2 (L.length - wnext L W 0 - i) i (by omega)
      have hk := wnext_ok hW hL hi
      have e : wnext (L.drop (wnext L W 0)) W i = (wsh (wnext L W 0) (wT L W (i + wnext L W 0))).2 := by rw [← hT]; rfl
      rw [e]
      show wnext L W (i + wnext L W 0) = (if wnext L W (i + wnext L W 0) = 0 then 0 else wnext L W (i + wnext L W 0) - wnext L W 0) + wnext L W 0
      rw [if_neg (by omega)]
      omega) (L.length - wnext L W 0) 0
    rw [Nat.zero_add] at hx
    exact hx
  · rw [wends, wchainI_end (by omega)] at h
    cases h
end Go.Proofs.YtmljofijeladoaaDoor
