/-
  A session in plain words: what a command prints and what it makes of the words and the width; how a text is cut by the reference and by the program comes to the same; bounds.
-/
import Derived.Test.YtmljofijeladoaaDoorTxtSplitI
import Derived.Test.YtmljofijeladoaaDoorFillTextPlain
import Derived.Test.YtmljofijeladoaaDoorWrapCost
namespace Go.Proofs.YtmljofijeladoaaDoor
open Go.RowKit
set_option linter.unusedVariables false

structure St where
  ws : List ByteArray
  wd : Int
def cWords : List UInt8 := [119, 111, 114, 100, 115, 32]
def cWidth : List UInt8 := [119, 105, 100, 116, 104, 32]
/-- Lines, each with its newline. -/
def nlL (l : List ByteArray) : List UInt8 := l.flatMap (fun t => t.data.toList ++ [10])
def numsB (es : List Int) : ByteArray := jw (es.map itoaB)
def wOk (t : ByteArray) : Bool := inB 20 60 (pIntL t.data.toList) && decide (itoaB (pIntL t.data.toList) = t)
def aft (x : ByteArray) : ByteArray := baL (x.data.toList.drop 6)
def okT : ByteArray := ⟨#[111, 107, 10]⟩
def noT : ByteArray := ⟨#[110, 111, 10]⟩
def nlT : ByteArray := ⟨#[10]⟩
def whatT : ByteArray := ⟨#[119, 104, 97, 116, 10]⟩
def isW (x : ByteArray) : Bool := Lib.hasPrefix x.data.toList cWords
def isN (x : ByteArray) : Bool := Lib.hasPrefix x.data.toList cWidth
def tW : List UInt8 := [119, 111, 114, 100, 115]
def tN : List UInt8 := [119, 105, 100, 116, 104]
def tFill : List UInt8 := [102, 105, 108, 108]
def tEnds : List UInt8 := [101, 110, 100, 115]
def tCost : List UInt8 := [99, 111, 115, 116]
def tCount : List UInt8 := [99, 111, 117, 110, 116]
/-- The number of a wrapping's cost. -/
def costN (st : St) : Int := (wCost st.ws st.wd (wEnds st.ws st.wd)).1

def sstep (st : St) (x : ByteArray) : ByteArray × St :=
  if isW x = true then (if vWords (allB 32 (aft x)) = true then (okT, ⟨allB 32 (aft x), st.wd⟩) else (noT, st))
  else if isN x = true then (if wOk (aft x) = true then (okT, ⟨st.ws, pIntL (aft x).data.toList⟩) else (noT, st))
  else if x = baL tFill then (baL (nlL (fillT st.ws st.wd)), st)
  else if x = baL tEnds then (numsB (wEnds st.ws st.wd) ++ nlT, st)
  else if x = baL tCost then (itoaB (costN st) ++ nlT, st)
  else if x = baL tCount then (itoaB (st.ws.length : Int) ++ nlT, st)
  else (whatT, st)
def srun : St → List ByteArray → List UInt8
  | _, [] => []
  | st, x :: r => (sstep st x).1.data.toList ++ srun (sstep st x).2 r
def send : St → List ByteArray → St
  | st, [] => st
  | st, x :: r => send (sstep st x).2 r
def st0 : St := ⟨[], 60⟩
def sess (l : List ByteArray) : List UInt8 := srun st0 (l.take 30)
def okSt (st : St) : Prop := vWrap st.ws st.wd = true

/-! ### The words and the width stay valid -/
theorem wOk_range {t : ByteArray} (h : wOk t = true) : 20 ≤ pIntL t.data.toList ∧ pIntL t.data.toList ≤ 60 ∧ itoaB (pIntL t.data.toList) = t := by
  simp only [wOk, Bool.and_eq_true, inB_iff, decide_eq_true_eq] at h
  exact ⟨h.1.1, h.1.2, h.2⟩
theorem okSt_step {st : St} (h : okSt st) (x : ByteArray) : okSt (sstep st x).2 := by
  have hw := vWrap_words h
  have hv : vWords st.ws = true := by unfold okSt vWrap at h; exact (Bool.and_eq_true _ _ ▸ h).1
  unfold sstep
  split
  · split
    · rename_i h2
      show vWrap _ _ = true
      rw [vWrap, h2, inB_true hw.2.2.1 hw.2.2.2]; rfl
    · exact h
  · split
    · split
      · rename_i h2
        have := wOk_range h2
        show vWrap _ _ = true
        rw [vWrap, hv, inB_true this.1 this.2.1]; rfl
      · exact h
    · split
      · exact h
      · split
        · exact h
        · split
          · exact h
          · split
            · exact h
            · exact h
theorem okSt_zero : okSt st0 := rfl

/-! ### Cutting once at a space -/
theorem cut_one {l : List UInt8} : (32 ∉ l ∧ cutG 32 1 [] l = [l]) ∨ ∃ p r, l = p ++ 32 :: r ∧ 32 ∉ p ∧ cutG 32 1 [] l = [p, r] := by
  by_cases h : (32 : UInt8) ∈ l
  · obtain ⟨p, r, rfl, hp⟩ := List.eq_append_cons_of_mem h
    refine .inr ⟨p, r, rfl, hp, ?_⟩
    rw [cutG_part 32 p 0 [] r hp, cutG_zero]; rfl
  · exact .inl ⟨h, by rw [cutG_none 32 l 1 [] h]; rfl⟩
theorem pre_split {l w : List UInt8} (hw : (32 : UInt8) ∉ w) : Lib.hasPrefix l (w ++ [32]) = true ↔ ∃ r, l = w ++ 32 :: r := by
  unfold Lib.hasPrefix
  rw [List.isPrefixOf_iff_prefix]
  constructor
  · rintro ⟨r, e⟩; exact ⟨r, by rw [← e]; simp⟩
  · rintro ⟨r, e⟩; exact ⟨r, by rw [e]; simp⟩
/-- The reference's test for a command with an argument, and the argument. -/
theorem cut_word {l w : List UInt8} (hw : (32 : UInt8) ∉ w) :
    (Lib.hasPrefix l (w ++ [32]) = true ∧ cutG 32 1 [] l = [w, l.drop (w.length + 1)]) ∨ (Lib.hasPrefix l (w ++ [32]) = false ∧ ¬ ((cutG 32 1 [] l)[0]? = some w ∧ (cutG 32 1 [] l).length = 2)) := by
  cases h : Lib.hasPrefix l (w ++ [32])
  · refine .inr ⟨rfl, ?_⟩
    rintro ⟨h0, h1⟩
    rcases cut_one (l := l) with ⟨_, e⟩ | ⟨p, r, e1, _, e⟩
    · rw [e] at h1; simp at h1
    · rw [e] at h0
      simp at h0
      subst h0
      rw [(pre_split hw).2 ⟨r, e1⟩] at h
      cases h
  · refine .inl ⟨rfl, ?_⟩
    obtain ⟨r, rfl⟩ := (pre_split hw).1 h
    rw [cutG_part 32 w 0 [] r hw, cutG_zero]
    have : (w ++ 32 :: r).drop (w.length + 1) = r := by
      rw [show w ++ 32 :: r = (w ++ [32]) ++ r by simp, List.drop_left' (by simp)]
    rw [this]; rfl

/-! ### Words: forty cuts are enough -/
theorem cutG_over (b : UInt8) : ∀ (s : List UInt8) (n : Nat) (cur : List UInt8), n ≤ s.count b → (cutG b n cur s).length = n + 1
  | [], n, cur, h => by
    simp at h; subst h; simp [cutG]
  | c :: r, 0, cur, _ => by simp [cutG]
  | c :: r, n + 1, cur, h => by
    by_cases hc : c = b
    · subst hc
      rw [List.count_cons_self] at h
      rw [cutG, if_pos rfl, List.length_cons, cutG_over c r n [] (by omega)]
    · rw [List.count_cons_of_ne hc] at h
      rw [cutG, if_neg hc]
      exact cutG_over b r (n + 1) _ h
theorem vWords_long {l : List ByteArray} (h : 40 < l.length) : vWords l = false := by
  rw [vWords, decide_eq_false (by omega), Bool.and_false]
theorem cut40 (t : ByteArray) : vWords (cutB 32 40 t) = vWords (allB 32 t) ∧ (vWords (allB 32 t) = true → cutB 32 40 t = allB 32 t) := by
  by_cases h : t.data.toList.count 32 ≤ 40
  · have e : cutB 32 40 t = allB 32 t := by rw [cutB, allB, cutB, cutG_more 32 _ 40 _ [] h (Nat.le_refl _)]
    exact ⟨by rw [e], fun _ => e⟩
  · have h1 : vWords (cutB 32 40 t) = false := vWords_long (by rw [cutB_length, cutG_over 32 _ 40 [] (by omega)]; omega)
    have h2 : vWords (allB 32 t) = false := vWords_long (by rw [allB, cutB_length, cutG_full 32 _ _ [] (Nat.le_refl _)]; omega)
    exact ⟨by rw [h1, h2], fun h3 => by rw [h2] at h3; cases h3⟩

/-! ### The width -/
theorem wOk_of {t : ByteArray} {n : Int} (h1 : 20 ≤ n) (h2 : n ≤ 60) (h3 : itoaB n = t) : wOk t = true ∧ pIntL t.data.toList = n := by
  have e : pIntL t.data.toList = n := by rw [← h3]; exact pInt_itoa (by omega) (by omega)
  refine ⟨?_, e⟩
  rw [wOk, e, inB_true h1 h2, decide_eq_true h3]; rfl
theorem wOk_atoi {t : ByteArray} (h : wOk t = true) : Lib.atoiAll t.data.toList = .ok (pIntL t.data.toList) := by
  obtain ⟨h1, h2, h3⟩ := wOk_range h
  have e : t.data.toList = Lib.itoa (pIntL t.data.toList) := by
    conv => lhs; rw [← h3]
    rfl
  rw [e, pInt_itoa (by omega) (by omega)]
  exact atoi_itoa (by omega) (by omega)
theorem wOk_err {t : ByteArray} (h : ∀ v, Lib.atoiAll t.data.toList ≠ .ok v) : wOk t = false := by
  cases hw : wOk t
  · rfl
  · exact absurd (wOk_atoi hw) (h _)
theorem wOk_val {t : ByteArray} {v : Int} (h : Lib.atoiAll t.data.toList = .ok v) : wOk t = (inB 20 60 v && decide (itoaB v = t)) ∧ (wOk t = true → pIntL t.data.toList = v) := by
  cases hw : wOk t
  · refine ⟨?_, fun h => by cases h⟩
    cases hb : inB 20 60 v
    · rfl
    · by_cases hi : itoaB v = t
      · have := (inB_iff.1 hb)
        rw [(wOk_of this.1 this.2 hi).1] at hw; cases hw
      · rw [decide_eq_false hi]; rfl
  · have e := wOk_atoi hw
    rw [h] at e
    injection e with e
    obtain ⟨h1, h2, h3⟩ := wOk_range hw
    rw [← e] at h1 h2 h3
    exact ⟨by rw [inB_true h1 h2, decide_eq_true h3]; rfl, fun _ => e.symm⟩

/-! ### Bounds -/
theorem fillW_le {ws : List ByteArray} {W : Int} (h : 0 < ws.length) (hW : lineLen (sizes ws) ≤ W) : ((fillW ws W).size : Int) ≤ W := by
  rcases Nat.lt_or_ge 1 ws.length with h2 | h2
  · exact Int.le_of_eq (fillW_size h2 hW)
  · have hl : ws.length = 1 := by omega
    unfold fillW
    rw [hl, show (1 : Nat) - 1 = 0 from rfl, fillUp_size (k := 0) h]
    unfold lineLen at hW
    rw [sizes_length, hl] at hW
    have : ((sizes ws).take (0 + 1)).sum ≤ (sizes ws).sum := by
      have e : (sizes ws).length = 1 := by rw [sizes_length, hl]
      rw [List.take_of_length_le (by omega)]; exact Nat.le_refl _
    simp only [Nat.mul_zero, Nat.zero_div, Nat.add_zero]
    omega
theorem ftL_sizes {l : List ByteArray} {W : Int} : ∀ (es : List Nat) (i : Nat), okE (sizes l) W i es → ∀ t ∈ ftL l W i es, (t.size : Int) ≤ W
  | [], _, _, t, ht => by cases ht
  | e :: es, i, h, t, ht => by
    obtain ⟨h1, h2, h3, h4⟩ := h
    rw [sizes_length] at h2
    have hl : 0 < (wseg l i e).length := by rw [wseg_length h2]; omega
    have hL : lineLen (sizes (wseg l i e)) ≤ W := by rw [wseg_sizes]; unfold wrest at h3; omega
    rw [ftL] at ht
    rcases List.mem_cons.1 ht with rfl | ht
    · split
      · exact fillW_le hl hL
      · rw [jw_size hl]; exact hL
    · exact ftL_sizes es e h4 t ht
theorem fillT_sizes (l : List ByteArray) (W : Int) : (fillT l W).length ≤ 40 ∧ ∀ t ∈ fillT l W, t.size ≤ 60 := by
  unfold fillT
  split
  · rename_i h
    have hE := wEnds_len l W
    rw [wEnds, if_pos h, List.length_map] at hE
    refine ⟨by rw [ftL_length]; exact hE, fun t ht => ?_⟩
    have := ftL_sizes _ _ (okE_wends h) t ht
    have := (vWrap_words h).2.2.2
    omega
  · exact ⟨by simp, fun t ht => by cases ht⟩
theorem nlL_len : ∀ (l : List ByteArray), (∀ t ∈ l, t.size ≤ 60) → (nlL l).length ≤ 61 * l.length
  | [], _ => by simp [nlL]
  | t :: r, h => by
    have h1 := h t (by simp)
    have h2 := nlL_len r (fun s hs => h s (by simp [hs]))
    have e : t.data.toList.length = t.size := rfl
    rw [nlL, List.flatMap_cons, List.length_append, List.length_append]
    rw [nlL] at h2
    simp only [List.length_cons, List.length_nil]
    omega
theorem nlL_snoc (l : List ByteArray) (k : Nat) (t : ByteArray) (h : l[k]? = some t) : nlL (l.take (k + 1)) = nlL (l.take k) ++ (t.data.toList ++ [10]) := by
  rw [List.take_add_one, h]
  simp [nlL]
theorem okE_le {L : List Nat} {W : Int} : ∀ (es : List Nat) (i : Nat), okE L W i es → ∀ e ∈ es, e ≤ L.length
  | [], _, _, e, he => by cases he
  | f :: es, i, h, e, he => by
    rcases List.mem_cons.1 he with rfl | he
    · exact h.2.1
    · exact okE_le es f h.2.2.2 e he
theorem wEnds_each {l : List ByteArray} {W : Int} : ∀ e ∈ wEnds l W, 0 ≤ e ∧ e ≤ 40 := by
  intro e he
  unfold wEnds at he
  split at he
  · rename_i h
    obtain ⟨x, hx, rfl⟩ := List.mem_map.1 he
    have h1 := okE_le _ _ (okE_wends h) x hx
    have h2 := (vWrap_words h).1
    rw [sizes_length] at h1
    omega
  · cases he
theorem itoaB_short {n : Int} (h1 : -10000 < n) (h2 : n < 10000) : (itoaB n).size ≤ 5 := itoa_len h1 h2
theorem numsB_size {es : List Int} (h : es.length ≤ 40) (h2 : ∀ e ∈ es, 0 ≤ e ∧ e ≤ 40) : (numsB es).size ≤ 2000 := by
  unfold numsB
  refine jw_bound (n := 40) (by rw [List.length_map]; exact h) (fun s hs => ?_) (by omega)
  obtain ⟨e, he, rfl⟩ := List.mem_map.1 hs
  have := h2 e he
  have := itoaB_short (n := e) (by omega) (by omega)
  omega
theorem costN_bound {st : St} (h : okSt st) : 0 ≤ costN st ∧ costN st ≤ 144000 := by
  obtain ⟨h1, hsz, hw0, hw1⟩ := vWrap_words h
  have hc := wcost_ends (L := sizes st.ws) (W := st.wd) hw1 (fun x hx => by
    obtain ⟨s, hs, rfl⟩ := List.mem_map.1 hx
    have := (hsz s hs).2
    omega)
  have e : costN st = (wT (sizes st.ws) st.wd 0).1 := by
    unfold costN
    rw [show wEnds st.ws st.wd = (wends (sizes st.ws) st.wd).map (fun x : Nat => (x : Int)) from by rw [wEnds, if_pos (show vWrap st.ws st.wd = true from h)], wCost_some h hc]
  have b := wtab_ok (sizes st.ws) st.wd hw1 (sizes st.ws).length 0
  rw [e]
  rw [sizes_length] at b
  unfold wT
  rw [sizes_length]
  omega
theorem itoa_long {n : Int} (h1 : 0 ≤ n) (h2 : n < 1000000) : (itoaB n).size ≤ 6 := by
  show (Lib.itoa n).length ≤ 6
  unfold Lib.itoa
  rw [if_neg (by omega)]
  exact decDigits_len (by omega) (by omega)
theorem sz_two (a b : ByteArray) : (a ++ b).size = a.size + b.size := ByteArray.size_append
theorem sstep_size {st : St} (h : okSt st) (x : ByteArray) : (sstep st x).1.size ≤ 3000 := by
  have h1 := vWrap_words h
  have hc := costN_bound h
  have n1 : nlT.size = 1 := rfl
  unfold sstep
  split
  · split <;> first | exact (show okT.size ≤ 3000 by decide) | exact (show noT.size ≤ 3000 by decide)
  · split
    · split <;> first | exact (show okT.size ≤ 3000 by decide) | exact (show noT.size ≤ 3000 by decide)
    · split
      · have hf := fillT_sizes st.ws st.wd
        have := nlL_len _ hf.2
        show (nlL _).length ≤ 3000
        omega
      · split
        · have := numsB_size (wEnds_len st.ws st.wd) wEnds_each
          simp only [sz_two]; omega
        · split
          · have := itoa_long (n := costN st) hc.1 (by omega)
            simp only [sz_two]; omega
          · split
            · have := itoa_long (n := (st.ws.length : Int)) (by omega) (by omega)
              simp only [sz_two]; omega
            · exact (show whatT.size ≤ 3000 by decide)
theorem numsB_next {es : List Int} {k : Nat} {e : Int} (h : es[k]? = some e) : numsB (es.take (k + 1)) = (if 0 < k then numsB (es.take k) ++ ⟨#[32]⟩ else numsB (es.take k)) ++ itoaB e := by
  unfold numsB
  rw [List.map_take, List.map_take]
  exact jw_next (by rw [List.getElem?_map, h]; rfl)
end Go.Proofs.YtmljofijeladoaaDoor
