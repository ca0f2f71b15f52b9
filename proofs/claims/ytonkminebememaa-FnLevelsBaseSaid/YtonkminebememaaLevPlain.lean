/-
  The plain law of levels of characters: what they are, and what the statements ask of them.
-/
import Derived.Test.YtonkminebememaaText
namespace Go.Proofs.Ytonkminebememaa
open Go.RowKit
set_option linter.unusedVariables false

/-- The class of a character: small letter, capital letter, digit, or other. -/
def cls (c : UInt8) : Nat :=
  if 97 ≤ c.toNat ∧ c.toNat ≤ 122 then 1 else if 65 ≤ c.toNat ∧ c.toNat ≤ 90 then 2 else if 48 ≤ c.toNat ∧ c.toNat ≤ 57 then 3 else 0
def clsAt (s : ByteArray) (k : Nat) : Nat := if h : k < s.size then cls s[k] else 0
theorem clsAt_eq {s : ByteArray} {k : Nat} (h : k < s.size) : clsAt s k = cls s[k] := dif_pos h
theorem cls_le (c : UInt8) : cls c ≤ 3 := by unfold cls; split; omega; split; omega; split <;> omega
theorem clsAt_le (s : ByteArray) (k : Nat) : clsAt s k ≤ 3 := by unfold clsAt; split; exact cls_le _; omega

/-- Is the last letter before an index a capital one? -/
def upAt (s : ByteArray) : Nat → Bool
  | 0 => false
  | k + 1 => if clsAt s k = 1 then false else if clsAt s k = 2 then true else upAt s k
/-- The level of a letter or a digit. -/
def strL (s : ByteArray) (base : Int) (k : Nat) : Int :=
  if clsAt s k = 1 then 2 * base else if clsAt s k = 2 then 1 else if base = 1 ∨ upAt s k = true then 2 else 0
/-- The level before an index. -/
def bef (s : ByteArray) (base : Int) : Nat → Int
  | 0 => base
  | k + 1 => if clsAt s k = 0 then bef s base k else strL s base k
def aft' (s : ByteArray) (base : Int) : Nat → Int
  | 0 => base
  | m + 1 => if clsAt s (s.size - (m + 1)) = 0 then aft' s base m else strL s base (s.size - (m + 1))
/-- The level behind an index. -/
def aft (s : ByteArray) (base : Int) (k : Nat) : Int := aft' s base (s.size - k)
/-- The level of another character between two levels. -/
def neuL (b a base : Int) : Int := if base = 0 ∧ b.tmod 2 = 1 ∧ a.tmod 2 = 1 then 1 else if base = 1 ∧ b.tmod 2 = 0 ∧ a.tmod 2 = 0 then 2 else base
def levAt (s : ByteArray) (base : Int) (k : Nat) : Int := if clsAt s k = 0 then neuL (bef s base k) (aft s base k) base else strL s base k
def levels (s : ByteArray) (base : Int) : List Int := (List.range s.size).map (levAt s base)
def lvls (s : ByteArray) (base : Int) : List Int := if (vText s && inB 0 1 base) = true then levels s base else []

theorem levels_length (s : ByteArray) (base : Int) : (levels s base).length = s.size := by simp [levels]
theorem levels_get {s : ByteArray} {base : Int} {k : Nat} (h : k < s.size) : (levels s base)[k]? = some (levAt s base k) := by simp [levels, h]

theorem aft_end (s : ByteArray) (base : Int) : aft s base s.size = base := by unfold aft; rw [Nat.sub_self]; rfl
theorem aft_step {s : ByteArray} (base : Int) {k : Nat} (h : k < s.size) : aft s base k = if clsAt s k = 0 then aft s base (k + 1) else strL s base k := by
  unfold aft
  obtain ⟨m, hm⟩ : ∃ m, s.size - k = m + 1 := ⟨s.size - k - 1, by omega⟩
  rw [hm, aft', show s.size - (m + 1) = k from by omega, show s.size - (k + 1) = m from by omega]
theorem bef_run {s : ByteArray} (base : Int) {i : Nat} : ∀ {k : Nat}, i ≤ k → (∀ j, i ≤ j → j < k → clsAt s j = 0) → bef s base k = bef s base i
  | 0, h, _ => by obtain rfl : i = 0 := by omega
                  rfl
  | k + 1, h, hn => by
    rcases Nat.lt_or_ge k i with h1 | h1
    · obtain rfl : i = k + 1 := by omega
      rfl
    · rw [bef, if_pos (hn k h1 (by omega)), bef_run base h1 (fun j h2 h3 => hn j h2 (by omega))]
theorem aft_run {s : ByteArray} (base : Int) : ∀ {d i k : Nat}, k = i + d → k ≤ s.size → (∀ j, i ≤ j → j < k → clsAt s j = 0) → aft s base i = aft s base k
  | 0, i, k, h, _, _ => by rw [h]; rfl
  | d + 1, i, k, h, hk, hn => by
    rw [aft_step base (show i < s.size by omega), if_pos (hn i (Nat.le_refl _) (by omega)), aft_run base (d := d) (show k = (i + 1) + d by omega) hk (fun j h1 h2 => hn j (by omega) h2)]

theorem strL_bd {s : ByteArray} {base : Int} (h0 : 0 ≤ base) (h1 : base ≤ 1) (k : Nat) : 0 ≤ strL s base k ∧ strL s base k ≤ 2 := by
  unfold strL; split; omega; split; omega; split <;> omega
theorem bef_bd {s : ByteArray} {base : Int} (h0 : 0 ≤ base) (h1 : base ≤ 1) : ∀ k : Nat, 0 ≤ bef s base k ∧ bef s base k ≤ 2
  | 0 => by unfold bef; omega
  | k + 1 => by
    unfold bef
    split
    · exact bef_bd h0 h1 k
    · exact strL_bd h0 h1 k
theorem aft_bd {s : ByteArray} {base : Int} (h0 : 0 ≤ base) (h1 : base ≤ 1) (k : Nat) : 0 ≤ aft s base k ∧ aft s base k ≤ 2 := by
  unfold aft
  generalize s.size - k = m
  induction m with
  | zero => unfold aft'; omega
  | succ m ih => unfold aft'; split; exact ih; exact strL_bd h0 h1 _
theorem levAt_bd {s : ByteArray} {base : Int} (h0 : 0 ≤ base) (h1 : base ≤ 1) (k : Nat) : 0 ≤ levAt s base k ∧ levAt s base k ≤ 2 := by
  unfold levAt
  split
  · unfold neuL; split; omega; split <;> omega
  · exact strL_bd h0 h1 k

/-- Before a run of other characters: the level of the character before it. -/
theorem bef_prev {s : ByteArray} (base : Int) {k : Nat} (hk : clsAt s k ≠ 0) : bef s base (k + 1) = levAt s base k := by
  rw [bef, if_neg hk, levAt, if_neg hk]
theorem aft_next {s : ByteArray} (base : Int) {k : Nat} (h : k < s.size) (hk : clsAt s k ≠ 0) : aft s base k = levAt s base k := by
  rw [aft_step base h, if_neg hk, levAt, if_neg hk]
theorem levAt_neu {s : ByteArray} (base : Int) {i j k : Nat} (hij : i ≤ j) (hjk : j < k) (hk : k ≤ s.size) (hn : ∀ x, i ≤ x → x < k → clsAt s x = 0) :
    levAt s base j = neuL (bef s base i) (aft s base k) base := by
  rw [levAt, if_pos (hn j hij hjk), bef_run base hij (fun x h1 h2 => hn x h1 (by omega)), aft_run base (d := k - j) (by omega) hk (fun x h1 h2 => hn x (by omega) h2)]

/-- All characters before 'i' and all letters and digits have their levels. -/
def Done (s : ByteArray) (base : Int) (i : Nat) (xs : List Int) : Prop := ∀ j, j < s.size → (j < i ∨ clsAt s j ≠ 0) → xs[j]? = some (levAt s base j)
theorem Done.all {s : ByteArray} {base : Int} {xs : List Int} (h : Done s base s.size xs) (hl : xs.length = s.size) : xs = levels s base :=
  ext_upto hl (levels_length s base) (fun j hj => by rw [h j hj (.inl hj), levels_get hj])
theorem Done.skip {s : ByteArray} {base : Int} {i : Nat} {xs : List Int} (h : Done s base i xs) (hc : clsAt s i ≠ 0) : Done s base (i + 1) xs := by
  intro j hj hd
  rcases hd with hd | hd
  · rcases Nat.lt_or_ge j i with h1 | h1
    · exact h j hj (.inl h1)
    · obtain rfl : j = i := by omega
      exact h j hj (.inr hc)
  · exact h j hj (.inr hd)
theorem Done.set {s : ByteArray} {base : Int} {i : Nat} {xs : List Int} (h : Done s base i xs) (hl : xs.length = s.size) {v : Int} (hv : v = levAt s base i) : Done s base (i + 1) (xs.set i v) := by
  intro j hj hd
  rcases Nat.decEq i j with hij | hij
  · rw [List.getElem?_set_ne hij]
    rcases hd with hd | hd
    · exact h j hj (.inl (by omega))
    · exact h j hj (.inr hd)
  · subst hij
    rw [List.getElem?_set_self (by omega), hv]

/-- The program's first pass: letters and digits before 'i' are done, the rest is zero. -/
def Pass1 (s : ByteArray) (base : Int) (i : Nat) (xs : List Int) : Prop := (∀ j, j < i → clsAt s j ≠ 0 → xs[j]? = some (strL s base j)) ∧ ∀ j, i ≤ j → j < s.size → xs[j]? = some 0
theorem Pass1.set {s : ByteArray} {base : Int} {i : Nat} {xs : List Int} (h : Pass1 s base i xs) (hl : xs.length = s.size) (hi : i < s.size) {v : Int} (hv : v = strL s base i) : Pass1 s base (i + 1) (xs.set i v) := by
  refine ⟨fun j hj hc => ?_, fun j hj h2 => ?_⟩
  · rcases Nat.decEq i j with hij | hij
    · rw [List.getElem?_set_ne hij]; exact h.1 j (by omega) hc
    · subst hij; rw [List.getElem?_set_self (by omega), hv]
  · rw [List.getElem?_set_ne (by omega)]; exact h.2 j (by omega) h2
theorem Pass1.keep {s : ByteArray} {base : Int} {i : Nat} {xs : List Int} (h : Pass1 s base i xs) (hi : i < s.size) (hv : clsAt s i ≠ 0 → strL s base i = 0) : Pass1 s base (i + 1) xs := by
  refine ⟨fun j hj hc => ?_, fun j hj h2 => h.2 j (by omega) h2⟩
  rcases Nat.lt_or_ge j i with h1 | h1
  · exact h.1 j h1 hc
  · obtain rfl : j = i := by omega
    rw [hv hc]; exact h.2 j h1 hi
theorem Pass1.done {s : ByteArray} {base : Int} {xs : List Int} (h : Pass1 s base s.size xs) : Done s base 0 xs := by
  intro j hj hd
  rcases hd with hd | hd
  · omega
  · rw [h.1 j hj hd, levAt, if_neg hd]

/-- The reference's first levels. -/
def lev0 (s : ByteArray) (base : Int) (k : Nat) : Int := if clsAt s k = 2 then 1 else if clsAt s k = 1 ∨ clsAt s k = 3 then 2 * base else base
/-- The reference's second pass: the last level of a letter decides on a digit. -/
def Pass2 (s : ByteArray) (base : Int) (i : Nat) (last : Int) (xs : List Int) : Prop :=
  (∀ j, j < i → clsAt s j ≠ 0 → xs[j]? = some (strL s base j)) ∧ (∀ j, i ≤ j → j < s.size → xs[j]? = some (lev0 s base j)) ∧ (base = 1 ∨ (last = 1 ↔ upAt s i = true))
theorem Pass2.done {s : ByteArray} {base last : Int} {xs : List Int} (h : Pass2 s base s.size last xs) : Done s base 0 xs := by
  intro j hj hd
  rcases hd with hd | hd
  · omega
  · rw [h.1 j hj hd, levAt, if_neg hd]
theorem Pass2.letter {s : ByteArray} {base last : Int} {i : Nat} {xs : List Int} (h : Pass2 s base i last xs) (hb0 : 0 ≤ base) (hb1 : base ≤ 1) (hi : i < s.size) (hc : clsAt s i = 1 ∨ clsAt s i = 2) : Pass2 s base (i + 1) (lev0 s base i) xs := by
  have hs : strL s base i = lev0 s base i := by
    unfold strL lev0
    rcases hc with hc | hc <;> simp [hc]
  refine ⟨fun j hj hcj => ?_, fun j hj h2 => h.2.1 j (by omega) h2, ?_⟩
  · rcases Nat.lt_or_ge j i with h1 | h1
    · exact h.1 j h1 hcj
    · obtain rfl : j = i := by omega
      rw [hs]; exact h.2.1 j h1 hi
  · by_cases hb : base = 1
    · exact .inl hb
    · right
      have h0 : base = 0 := by omega
      subst h0
      unfold lev0 upAt
      rcases hc with hc | hc <;> simp [hc]
theorem Pass2.other {s : ByteArray} {base last : Int} {i : Nat} {xs : List Int} (h : Pass2 s base i last xs) (hc : clsAt s i = 0) : Pass2 s base (i + 1) last xs := by
  refine ⟨fun j hj hcj => ?_, fun j hj h2 => h.2.1 j (by omega) h2, ?_⟩
  · rcases Nat.lt_or_ge j i with h1 | h1
    · exact h.1 j h1 hcj
    · obtain rfl : j = i := by omega
      exact absurd hc hcj
  · unfold upAt; simpa [hc] using h.2.2
theorem Pass2.digit {s : ByteArray} {base last : Int} {i : Nat} {xs : List Int} (h : Pass2 s base i last xs) (hb0 : 0 ≤ base) (hb1 : base ≤ 1) (hl : xs.length = s.size) (hi : i < s.size) (hc : clsAt s i = 3) :
    Pass2 s base (i + 1) last (if last = 1 then xs.set i 2 else xs) := by
  have hup : base = 1 ∨ (last = 1 ↔ upAt s (i + 1) = true) := by unfold upAt; simpa [hc] using h.2.2
  have hs : strL s base i = if last = 1 then 2 else lev0 s base i := by
    have hu := h.2.2
    unfold strL lev0
    simp only [hc]
    by_cases hb : base = 1
    · subst hb; simp
    · have h0 : base = 0 := by omega
      subst h0
      have hu' : last = 1 ↔ upAt s i = true := by simpa using hu
      by_cases hla : last = 1
      · simp [hla, hu'.1 hla]
      · have : ¬ upAt s i = true := fun e => hla (hu'.2 e)
        simp [hla, this]
  refine ⟨fun j hj hcj => ?_, fun j hj h2 => ?_, hup⟩
  · rcases Nat.lt_or_ge j i with h1 | h1
    · split
      · rw [List.getElem?_set_ne (by omega)]; exact h.1 j h1 hcj
      · exact h.1 j h1 hcj
    · obtain rfl : j = i := by omega
      rw [hs]
      split
      · rw [List.getElem?_set_self (by omega)]
      · exact h.2.1 j h1 hi
  · split
    · rw [List.getElem?_set_ne (by omega)]; exact h.2.1 j (by omega) h2
    · exact h.2.1 j (by omega) h2

theorem levAt_upper {s : ByteArray} {base : Int} {k : Nat} (h : clsAt s k = 2) : levAt s base k = 1 := by simp [levAt, strL, h]
theorem levAt_lower {s : ByteArray} {base : Int} {k : Nat} (h : clsAt s k = 1) : levAt s base k = 2 * base := by simp [levAt, strL, h]
theorem levAt_digit {s : ByteArray} {base : Int} {k : Nat} (h : clsAt s k = 3) : levAt s base k = if base = 1 ∨ upAt s k = true then 2 else 0 := by simp [levAt, strL, h]
theorem levAt_digits {s : ByteArray} {base : Int} {k : Nat} (h : clsAt s k = 3) (h' : clsAt s (k + 1) = 3) : levAt s base (k + 1) = levAt s base k := by
  rw [levAt_digit h, levAt_digit h', upAt]; simp [h]
theorem lvls_ok {s : ByteArray} {base : Int} (hv : vText s = true) (hb : inB 0 1 base = true) : lvls s base = levels s base := by simp [lvls, hv, hb]
theorem lvls_text {s : ByteArray} {base : Int} (hv : vText s = false) : lvls s base = [] := by simp [lvls, hv]
theorem lvls_base {s : ByteArray} {base : Int} (hb : inB 0 1 base = false) : lvls s base = [] := by simp [lvls, hb]
theorem lvls_ne {s : ByteArray} {base : Int} (h : (lvls s base).length ≠ 0) : vText s = true ∧ 0 ≤ base ∧ base ≤ 1 ∧ lvls s base = levels s base ∧ (lvls s base).length = s.size := by
  by_cases hc : (vText s && inB 0 1 base) = true
  · have hc' := hc
    simp only [Bool.and_eq_true, inB_iff] at hc'
    have e : lvls s base = levels s base := by unfold lvls; rw [if_pos hc]
    exact ⟨hc'.1, hc'.2.1, hc'.2.2, e, by rw [e, levels_length]⟩
  · exfalso; apply h; unfold lvls; rw [if_neg hc]; rfl
theorem vText_size {s : ByteArray} (h : vText s = true) : s.size ≤ 60 := by
  simp only [vText, Bool.and_eq_true, decide_eq_true_eq] at h
  exact h.2
end Go.Proofs.Ytonkminebememaa
