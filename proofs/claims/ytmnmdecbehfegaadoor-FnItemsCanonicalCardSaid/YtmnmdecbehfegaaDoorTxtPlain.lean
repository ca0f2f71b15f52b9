/-
  The texts of items in plain words: what a number looks like and how it is read again, how a text is cut at a byte, and that an item's text says which item it is.
-/
import Derived.Test.YtmnmdecbehfegaaDoorItems2
import Derived.Lib.AtoiAll
import Derived.Lib.ItoaNum
import Derived.Lib.SplitLaws
import Derived.Lib.Join
namespace Go.Proofs.YtmnmdecbehfegaaDoor
open Go.RowKit
set_option linter.unusedVariables false

/-! ### Numbers -/
def itoaB (n : Int) : ByteArray := ⟨(Lib.itoa n).toArray⟩
theorem itoaB_list (n : Int) : (itoaB n).data.toList = Lib.itoa n := rfl

/-- Is it a digit? -/
def dig (b : UInt8) : Prop := 48 ≤ b.toNat ∧ b.toNat ≤ 57
theorem dig_of {d : Nat} (h : d < 10) : (UInt8.ofNat (48 + d)).toNat = 48 + d := by
  rw [UInt8.toNat_ofNat']; omega
theorem decDigits_dig : ∀ (u : Nat), ∀ b ∈ Lib.decDigits u, dig b := by
  intro u
  induction u using Nat.strongRecOn with
  | _ u ih =>
    intro b hb
    rw [Lib.decDigits] at hb
    split at hb
    · rename_i h
      simp only [List.mem_singleton] at hb
      subst hb
      rw [dig, dig_of h]; omega
    · rename_i h
      rw [List.mem_append] at hb
      rcases hb with hb | hb
      · exact ih (u / 10) (by omega) b hb
      · simp only [List.mem_singleton] at hb
        subst hb
        rw [dig, dig_of (by omega)]; omega
theorem decDigits_ne (u : Nat) : Lib.decDigits u ≠ [] := by
  rw [Lib.decDigits]
  split
  · simp
  · simp
theorem itoa_ne (n : Int) : Lib.itoa n ≠ [] := by
  unfold Lib.itoa
  split
  · simp
  · exact decDigits_ne _
theorem decDigits_len {u : Nat} : ∀ {k : Nat}, 1 ≤ k → u < 10 ^ k → (Lib.decDigits u).length ≤ k := by
  intro k hk h
  induction k generalizing u with
  | zero => omega
  | succ k ih =>
    rw [Lib.decDigits]
    split
    · simp
    · rename_i h1
      rw [List.length_append]
      have h2 : u / 10 < 10 ^ k := by
        rw [Nat.pow_succ] at h
        exact Nat.div_lt_of_lt_mul (by omega)
      cases k with
      | zero => simp at h2; omega
      | succ k =>
        have := ih (by omega) h2
        simp; omega
/-- A number of at most four digits with its sign has at most five bytes. -/
theorem itoa_len {n : Int} (h1 : -10000 < n) (h2 : n < 10000) : (Lib.itoa n).length ≤ 5 := by
  unfold Lib.itoa
  split
  · have := decDigits_len (u := n.natAbs) (k := 4) (by omega) (by omega)
    simp; omega
  · have := decDigits_len (u := n.toNat) (k := 4) (by omega) (by omega)
    omega
theorem itoa_byte (n : Int) : ∀ b ∈ Lib.itoa n, dig b ∨ b = 45 := by
  intro b hb
  unfold Lib.itoa at hb
  split at hb
  · rcases List.mem_cons.1 hb with h | h
    · exact .inr h
    · exact .inl (decDigits_dig _ b h)
  · exact .inl (decDigits_dig _ b hb)
theorem itoa_no {n : Int} {c : UInt8} (h1 : ¬ dig c) (h2 : c ≠ 45) : c ∉ Lib.itoa n := by
  intro h
  rcases itoa_byte n c h with h | h
  · exact h1 h
  · exact h2 h

/-! Reading a number again, the library's way -/
theorem parse_app : ∀ (l : List UInt8) (acc : Nat) (d : UInt8) (m : Nat), Lib.parseUint10 acc l = .ok m → dig d → m < 1000000000 → Lib.parseUint10 acc (l ++ [d]) = .ok (m * 10 + (d.toNat - 48))
  | [], acc, d, m, h, hd, hm => by
    simp only [Lib.parseUint10] at h
    injection h with h
    subst h
    simp only [List.nil_append, Lib.parseUint10]
    rw [if_pos (show 48 ≤ d.toNat ∧ d.toNat ≤ 57 from hd), if_neg (by omega), if_neg (by have := hd.2; omega)]
  | c :: r, acc, d, m, h, hd, hm => by
    rw [List.cons_append, Lib.parseUint10]
    rw [Lib.parseUint10] at h
    by_cases h1 : 48 ≤ c.toNat ∧ c.toNat ≤ 57
    · rw [if_pos h1] at h ⊢
      by_cases h2 : 1844674407370955162 ≤ acc
      · rw [if_pos h2] at h; cases h
      · rw [if_neg h2] at h ⊢
        by_cases h3 : 18446744073709551616 ≤ acc * 10 + (c.toNat - 48)
        · rw [if_pos h3] at h; cases h
        · rw [if_neg h3] at h ⊢
          exact parse_app r _ d m h hd hm
    · rw [if_neg h1] at h; cases h
theorem parse_dec : ∀ (u : Nat), u < 1000000000 → Lib.parseUint10 0 (Lib.decDigits u) = .ok u := by
  intro u
  induction u using Nat.strongRecOn with
  | _ u ih =>
    intro hu
    rw [Lib.decDigits]
    split
    · rename_i h
      rw [Lib.parseUint10, dig_of h, if_pos (by omega), if_neg (by omega), if_neg (by omega)]
      simp [Lib.parseUint10]
    · rename_i h
      have e := parse_app (Lib.decDigits (u / 10)) 0 (UInt8.ofNat (48 + u % 10)) (u / 10) (ih (u / 10) (by omega) (by omega)) (by rw [dig, dig_of (by omega)]; omega) (by omega)
      rw [e, dig_of (by omega)]
      congr 1
      omega
theorem atoi_itoa {n : Int} (h1 : -1000000000 < n) (h2 : n < 1000000000) : Lib.atoiAll (Lib.itoa n) = .ok n := by
  unfold Lib.itoa
  split
  · rename_i h
    rw [Lib.atoiAll]
    have h45 : (45 : UInt8).toNat = 45 := rfl
    simp only [h45]
    rw [if_pos (.inr trivial), Lib.parseMag, if_neg (decDigits_ne _), parse_dec _ (by omega)]
    simp only
    rw [if_neg (by omega), if_neg (by omega)]
    simp only [if_true]
    congr 1
    omega
  · rename_i h
    have hd := decDigits_dig n.toNat
    have hp := parse_dec n.toNat (by omega)
    cases hl : Lib.decDigits n.toNat with
    | nil => exact absurd hl (decDigits_ne _)
    | cons c r =>
      rw [hl] at hd hp
      have hc := hd c (by simp)
      unfold dig at hc
      rw [Lib.atoiAll]
      rw [if_neg (by omega), Lib.parseMag, if_neg (by simp), hp]
      simp only
      rw [if_neg (by omega), if_neg (by omega), if_neg (by omega)]
      congr 1
      omega

/-! ### Cutting a text at a byte, at most n times -/
def cutG (b : UInt8) : Nat → List UInt8 → List UInt8 → List (List UInt8)
  | _, cur, [] => [cur]
  | 0, cur, c :: r => [cur ++ c :: r]
  | n + 1, cur, c :: r => if c = b then cur :: cutG b n [] r else cutG b (n + 1) (cur ++ [c]) r

theorem cutG_zero (b : UInt8) (cur s : List UInt8) : cutG b 0 cur s = [cur ++ s] := by
  cases s with
  | nil => simp [cutG]
  | cons c r => rfl
theorem cutG_none (b : UInt8) : ∀ (s : List UInt8) (n : Nat) (cur : List UInt8), b ∉ s → cutG b n cur s = [cur ++ s]
  | [], n, cur, _ => by simp [cutG]
  | c :: r, 0, cur, _ => rfl
  | c :: r, n + 1, cur, h => by
    simp only [List.mem_cons, not_or] at h
    rw [cutG, if_neg (Ne.symm h.1), cutG_none b r (n + 1) (cur ++ [c]) h.2]
    simp
theorem cutG_part (b : UInt8) : ∀ (p : List UInt8) (n : Nat) (cur s : List UInt8), b ∉ p → cutG b (n + 1) cur (p ++ b :: s) = (cur ++ p) :: cutG b n [] s
  | [], n, cur, s, _ => by simp [cutG]
  | c :: p, n, cur, s, h => by
    simp only [List.mem_cons, not_or] at h
    rw [List.cons_append, cutG, if_neg (Ne.symm h.1), cutG_part b p n (cur ++ [c]) s h.2]
    simp
theorem cutG_ne (b : UInt8) : ∀ (s : List UInt8) (n : Nat) (cur : List UInt8), cutG b n cur s ≠ []
  | [], n, cur => by simp [cutG]
  | c :: r, 0, cur => by simp [cutG]
  | c :: r, n + 1, cur => by
    rw [cutG]
    split
    · simp
    · exact cutG_ne b r (n + 1) _
theorem cutG_len (b : UInt8) : ∀ (s : List UInt8) (n : Nat) (cur : List UInt8), (cutG b n cur s).length ≤ n + 1
  | [], n, cur => by simp [cutG]
  | c :: r, 0, cur => by simp [cutG]
  | c :: r, n + 1, cur => by
    rw [cutG]
    split
    · have := cutG_len b r n []; simp; omega
    · exact cutG_len b r (n + 1) _
/-- Where there are no more separators than cuts, more cuts change nothing. -/
theorem cutG_more (b : UInt8) : ∀ (s : List UInt8) (n m : Nat) (cur : List UInt8), s.count b ≤ n → s.count b ≤ m → cutG b n cur s = cutG b m cur s
  | [], n, m, cur, _, _ => by simp [cutG]
  | c :: r, n, m, cur, h1, h2 => by
    by_cases h : c = b
    · subst h
      rw [List.count_cons_self] at h1 h2
      obtain ⟨n', rfl⟩ : ∃ n', n = n' + 1 := ⟨n - 1, by omega⟩
      obtain ⟨m', rfl⟩ : ∃ m', m = m' + 1 := ⟨m - 1, by omega⟩
      rw [cutG, cutG, if_pos rfl, if_pos rfl, cutG_more c r n' m' [] (by omega) (by omega)]
    · have hc : (c :: r).count b = r.count b := List.count_cons_of_ne h
      rw [hc] at h1 h2
      by_cases h0 : r.count b = 0
      · have hn : b ∉ c :: r := by
          rw [List.mem_cons, not_or]
          exact ⟨Ne.symm h, List.count_eq_zero.1 h0⟩
        rw [cutG_none b (c :: r) n cur hn, cutG_none b (c :: r) m cur hn]
      · obtain ⟨n', rfl⟩ : ∃ n', n = n' + 1 := ⟨n - 1, by omega⟩
        obtain ⟨m', rfl⟩ : ∃ m', m = m' + 1 := ⟨m - 1, by omega⟩
        rw [cutG, cutG, if_neg h, if_neg h]
        exact cutG_more b r (n' + 1) (m' + 1) _ h1 h2
theorem cutG_full (b : UInt8) : ∀ (s : List UInt8) (n : Nat) (cur : List UInt8), s.count b ≤ n → (cutG b n cur s).length = s.count b + 1
  | [], n, cur, _ => by simp [cutG]
  | c :: r, n, cur, h1 => by
    by_cases h : c = b
    · subst h
      rw [List.count_cons_self] at h1 ⊢
      obtain ⟨n', rfl⟩ : ∃ n', n = n' + 1 := ⟨n - 1, by omega⟩
      rw [cutG, if_pos rfl, List.length_cons, cutG_full c r n' [] (by omega)]
    · have hc : (c :: r).count b = r.count b := List.count_cons_of_ne h
      rw [hc] at h1 ⊢
      by_cases h0 : r.count b = 0
      · have hn : b ∉ c :: r := by
          rw [List.mem_cons, not_or]
          exact ⟨Ne.symm h, List.count_eq_zero.1 h0⟩
        rw [cutG_none b (c :: r) n cur hn, h0]; rfl
      · obtain ⟨n', rfl⟩ : ∃ n', n = n' + 1 := ⟨n - 1, by omega⟩
        rw [cutG, if_neg h]
        exact cutG_full b r (n' + 1) _ h1
/-- Parts without the separator come back. -/
theorem cutG_join (b : UInt8) : ∀ (ps : List (List UInt8)) (p : List UInt8) (n : Nat), (∀ q ∈ p :: ps, b ∉ q) → ps.length ≤ n → cutG b n [] (p ++ Lib.joinTail [b] ps) = p :: ps
  | [], p, n, h, _ => by
    simp only [Lib.joinTail, List.map_nil, List.flatten_nil, List.append_nil]
    rw [cutG_none b p n [] (h p (by simp))]; rfl
  | q :: ps, p, n, h, hn => by
    obtain ⟨n', rfl⟩ : ∃ n', n = n' + 1 := ⟨n - 1, by simp at hn; omega⟩
    have e : Lib.joinTail [b] (q :: ps) = b :: (q ++ Lib.joinTail [b] ps) := by simp [Lib.joinTail]
    rw [e, cutG_part b p n' [] _ (h p (by simp)), List.nil_append,
      cutG_join b ps q n' (fun x hx => h x (List.mem_cons_of_mem _ hx)) (by simp at hn; omega)]
theorem count_join (b : UInt8) : ∀ (ps : List (List UInt8)) (p : List UInt8), (∀ q ∈ p :: ps, b ∉ q) → (p ++ Lib.joinTail [b] ps).count b = ps.length
  | [], p, h => by
    simp only [Lib.joinTail, List.map_nil, List.flatten_nil, List.append_nil, List.length_nil]
    exact List.count_eq_zero.2 (h p (by simp))
  | q :: ps, p, h => by
    have e : Lib.joinTail [b] (q :: ps) = b :: (q ++ Lib.joinTail [b] ps) := by simp [Lib.joinTail]
    rw [e, List.count_append, List.count_eq_zero.2 (h p (by simp)), List.count_cons_self, count_join b ps q (fun x hx => h x (List.mem_cons_of_mem _ hx))]
    simp

/-! ### The text of an item -/
def tBox : List UInt8 := [98, 111, 120]
def tGlue : List UInt8 := [103, 108, 117, 101]
def tPlus : List UInt8 := [112, 108, 117, 115]
def tMinus : List UInt8 := [109, 105, 110, 117, 115]
def tPen : List UInt8 := [112, 101, 110, 97, 108, 116, 121]
def tWidth : List UInt8 := [119, 105, 100, 116, 104]
def tFlag : List UInt8 := [102, 108, 97, 103, 103, 101, 100]

/-- Its words behind the first one. -/
def iws (x : It) : List (List UInt8) :=
  if x.k = 1 then [Lib.itoa x.w]
  else if x.k = 2 then [Lib.itoa x.w, tPlus, Lib.itoa x.st, tMinus, Lib.itoa x.sh]
  else [Lib.itoa x.p, tWidth, Lib.itoa x.w] ++ (if x.f then [tFlag] else [])
def iw0 (x : It) : List UInt8 := if x.k = 1 then tBox else if x.k = 2 then tGlue else tPen
def itxt (x : It) : List UInt8 := iw0 x ++ Lib.joinTail [32] (iws x)
def itxtB (x : It) : ByteArray := ⟨(itxt x).toArray⟩

theorem iws_no (x : It) : ∀ q ∈ iw0 x :: iws x, (32 : UInt8) ∉ q := by
  have hi : ∀ n : Int, (32 : UInt8) ∉ Lib.itoa n := fun n => itoa_no (by unfold dig; decide) (by decide)
  intro q hq
  rcases List.mem_cons.1 hq with rfl | hq
  · unfold iw0
    split
    · decide
    · split
      · decide
      · decide
  · unfold iws at hq
    split at hq
    · simp only [List.mem_singleton] at hq
      subst hq; exact hi _
    · split at hq
      · simp only [List.mem_cons, List.not_mem_nil, or_false] at hq
        rcases hq with rfl | rfl | rfl | rfl | rfl
        · exact hi _
        · decide
        · exact hi _
        · decide
        · exact hi _
      · split at hq
        · simp only [List.cons_append, List.nil_append, List.mem_cons, List.not_mem_nil, or_false] at hq
          rcases hq with rfl | rfl | rfl | rfl
          · exact hi _
          · decide
          · exact hi _
          · decide
        · simp only [List.append_nil, List.mem_cons, List.not_mem_nil, or_false] at hq
          rcases hq with rfl | rfl | rfl
          · exact hi _
          · decide
          · exact hi _
theorem iws_len (x : It) : (iws x).length ≤ 5 := by
  unfold iws
  split
  · simp
  · split
    · simp
    · split <;> simp

/-- The words of an item's text, however many cuts from five on. -/
theorem words_of (x : It) {n : Nat} (hn : 5 ≤ n) : cutG 32 n [] (itxt x) = iw0 x :: iws x :=
  cutG_join 32 (iws x) (iw0 x) n (iws_no x) (Nat.le_trans (iws_len x) hn)
theorem words_all (x : It) : cutG 32 ((itxt x).count 32) [] (itxt x) = iw0 x :: iws x :=
  cutG_join 32 (iws x) (iw0 x) _ (iws_no x) (by rw [itxt, count_join 32 (iws x) (iw0 x) (iws_no x)]; exact Nat.le_refl _)

theorem vIt_num {x : It} (h : vIt x = true) : (-1000 ≤ x.w ∧ x.w ≤ 1000) ∧ (-1000 ≤ x.st ∧ x.st ≤ 1000) ∧ (-1000 ≤ x.sh ∧ x.sh ≤ 1000) ∧ (-1000 ≤ x.p ∧ x.p ≤ 1000) := by
  simp only [vIt, Bool.or_eq_true, Bool.and_eq_true, beq_iff_eq, inB_iff] at h
  rcases h with (h | h) | h <;> omega
theorem vIt_kind {x : It} (h : vIt x = true) : (x.k = 1 ∧ x = ⟨1, x.w, 0, 0, 0, false⟩) ∨ (x.k = 2 ∧ x = ⟨2, x.w, x.st, x.sh, 0, false⟩) ∨ (x.k = 3 ∧ x = ⟨3, x.w, 0, 0, x.p, x.f⟩) := by
  obtain ⟨k, w, st, sh, p, f⟩ := x
  simp only [vIt, Bool.or_eq_true, Bool.and_eq_true, beq_iff_eq, Bool.not_eq_true'] at h
  rcases h with (h | h) | h
  · obtain ⟨⟨⟨⟨⟨rfl, _⟩, rfl⟩, rfl⟩, rfl⟩, rfl⟩ := h
    exact .inl ⟨rfl, rfl⟩
  · obtain ⟨⟨⟨⟨⟨rfl, _⟩, _⟩, _⟩, rfl⟩, rfl⟩ := h
    exact .inr (.inl ⟨rfl, rfl⟩)
  · obtain ⟨⟨⟨⟨rfl, _⟩, rfl⟩, rfl⟩, _⟩ := h
    exact .inr (.inr ⟨rfl, rfl⟩)

/-- Two valid items with the same text are the same. -/
theorem itoa_inj {n m : Int} (h1 : -1000 ≤ n ∧ n ≤ 1000) (h2 : -1000 ≤ m ∧ m ≤ 1000) (h : Lib.itoa n = Lib.itoa m) : n = m := by
  have e1 := atoi_itoa (n := n) (by omega) (by omega)
  rw [h, atoi_itoa (n := m) (by omega) (by omega)] at e1
  injection e1 with e1
  exact e1.symm
theorem itxt_inj {x y : It} (hx : vIt x = true) (hy : vIt y = true) (h : itxt x = itxt y) : x = y := by
  have e1 := words_of x (n := 5) (Nat.le_refl _)
  rw [h, words_of y (n := 5) (Nat.le_refl _)] at e1
  injection e1 with e0 e1
  have nx := vIt_num hx
  have ny := vIt_num hy
  rcases vIt_kind hx with ⟨kx, ex⟩ | ⟨kx, ex⟩ | ⟨kx, ex⟩ <;> rcases vIt_kind hy with ⟨ky, ey⟩ | ⟨ky, ey⟩ | ⟨ky, ey⟩ <;> simp only [iw0, iws, kx, ky] at e0 e1
  · simp at e1
    rw [ex, ey, itoa_inj ny.1 nx.1 e1]
  · simp [tBox, tGlue] at e0
  · simp [tBox, tPen] at e0
  · simp [tBox, tGlue] at e0
  · simp at e1
    rw [ex, ey, itoa_inj ny.1 nx.1 e1.1, itoa_inj ny.2.1 nx.2.1 e1.2.1, itoa_inj ny.2.2.1 nx.2.2.1 e1.2.2]
  · simp [tPen, tGlue] at e0
  · simp [tBox, tPen] at e0
  · simp [tPen, tGlue] at e0
  · simp at e1
    obtain ⟨e2, e3, e4⟩ := e1
    have ef : x.f = y.f := by
      cases hf : x.f <;> cases hg : y.f <;> simp [hf, hg] at e4 <;> rfl
    rw [ex, ey, ef, itoa_inj ny.2.2.2 nx.2.2.2 e2, itoa_inj ny.1 nx.1 e3]

/-- What reading gives: the valid item whose text it is, if there is one. -/
noncomputable def decI (s : List UInt8) : It × Bool := by
  classical
  exact if h : ∃ x, vIt x = true ∧ itxt x = s then (h.choose, true) else (⟨0, 0, 0, 0, 0, false⟩, false)
theorem decI_some {x : It} (h : vIt x = true) : decI (itxt x) = (x, true) := by
  have h1 : ∃ y, vIt y = true ∧ itxt y = itxt x := ⟨x, h, rfl⟩
  rw [decI, dif_pos h1, itxt_inj h1.choose_spec.1 h h1.choose_spec.2]
theorem decI_none {s : List UInt8} (h : ∀ x, vIt x = true → itxt x ≠ s) : decI s = (⟨0, 0, 0, 0, 0, false⟩, false) := by
  have h1 : ¬ ∃ y, vIt y = true ∧ itxt y = s := fun ⟨y, hy, e⟩ => h y hy e
  rw [decI, dif_neg h1]
theorem decI_true {s : List UInt8} {x : It} (h : decI s = (x, true)) : vIt x = true ∧ itxt x = s := by
  by_cases h1 : ∃ y, vIt y = true ∧ itxt y = s
  · obtain ⟨y, hy, rfl⟩ := h1
    rw [decI_some hy] at h
    injection h with h _
    subst h
    exact ⟨hy, rfl⟩
  · rw [decI, dif_neg h1] at h
    injection h with _ h
    cases h
/-- Whatever was read out of a text that is an item's is that item: then reading succeeds just where writing gives the text again. -/
theorem decI_of {s : List UInt8} {x : It} (h : ∀ y, vIt y = true → itxt y = s → x = y) : decI s = if vIt x = true ∧ itxt x = s then (x, true) else (⟨0, 0, 0, 0, 0, false⟩, false) := by
  by_cases h1 : vIt x = true ∧ itxt x = s
  · rw [if_pos h1, ← h1.2, decI_some h1.1]
  · rw [if_neg h1]
    refine decI_none fun y hy e => h1 ?_
    have := h y hy e
    subst this
    exact ⟨hy, e⟩
/-- The text of an item; "" if it is invalid. -/
def etxt (x : It) : List UInt8 := if vIt x = true then itxt x else []
def etxtB (x : It) : ByteArray := ⟨(etxt x).toArray⟩
end Go.Proofs.YtmnmdecbehfegaaDoor
