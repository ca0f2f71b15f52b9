/-
  Reading in plain words: pieces of a text as texts, the reference's way of reading a number, and the items that the program and the reference read.
-/
import Derived.Test.YtmljofijeladoaaGreatDoorTxtPlain
namespace Go.Proofs.YtmljofijeladoaaGreatDoor
open Go.RowKit
set_option linter.unusedVariables false

def baL (l : List UInt8) : ByteArray := ⟨l.toArray⟩
theorem baL_list (l : List UInt8) : (baL l).data.toList = l := rfl
theorem ba_ext {a b : ByteArray} (h : a.data.toList = b.data.toList) : a = b := by
  obtain ⟨a⟩ := a
  obtain ⟨b⟩ := b
  have : a = b := Array.toList_inj.1 h
  rw [this]
theorem baL_of (s : ByteArray) : baL s.data.toList = s := ba_ext rfl
theorem baL_eq {l : List UInt8} {s : ByteArray} (h : s.data.toList = l) : s = baL l := ba_ext h
theorem baL_inj {l m : List UInt8} (h : baL l = baL m) : l = m := congrArg (fun s : ByteArray => s.data.toList) h
theorem ba_len (s : ByteArray) : s.data.toList.length = s.size := rfl
theorem ext_toList (s : ByteArray) (a b : Nat) : (s.extract a b).data.toList = (s.data.toList.drop a).take (b - a) := by
  rw [ByteArray.data_extract, Array.toList_extract, List.extract_eq_take_drop]
theorem app_toList (s t : ByteArray) : (s ++ t).data.toList = s.data.toList ++ t.data.toList := by
  rw [ByteArray.data_append, Array.toList_append]
theorem at_toList (s : ByteArray) {k : Nat} (h : k < s.size) : s.data.toList[k]? = some s[k] := by
  rw [List.getElem?_eq_getElem (by simpa using h)]
  rfl

/-! ### The pieces of a text -/
def cutB (b : UInt8) (n : Nat) (s : ByteArray) : List ByteArray := (cutG b n [] s.data.toList).map baL
theorem cutB_length (b : UInt8) (n : Nat) (s : ByteArray) : (cutB b n s).length = (cutG b n [] s.data.toList).length := by simp [cutB]
theorem cutB_pos (b : UInt8) (n : Nat) (s : ByteArray) : 1 ≤ (cutB b n s).length := by
  rw [cutB_length]
  have := cutG_ne b s.data.toList n []
  cases h : cutG b n [] s.data.toList with
  | nil => exact absurd h this
  | cons x r => simp
theorem cutB_le (b : UInt8) (n : Nat) (s : ByteArray) : (cutB b n s).length ≤ n + 1 := by
  rw [cutB_length]; exact cutG_len b _ n []

structure CutInv (s : ByteArray) (b : UInt8) (N : Nat) (out : List ByteArray) (f i : Nat) : Prop where
  eq : cutG b N [] s.data.toList = out.map (fun t => t.data.toList) ++ cutG b (N - out.length) ((s.data.toList.drop f).take (i - f)) (s.data.toList.drop i)
  fi : f ≤ i
  il : i ≤ s.size
  le : out.length ≤ N
theorem CutInv.start (s : ByteArray) (b : UInt8) (N : Nat) : CutInv s b N [] 0 0 := ⟨by simp, Nat.le_refl _, Nat.zero_le _, Nat.zero_le _⟩
theorem CutInv.hit {s : ByteArray} {b : UInt8} {N : Nat} {out : List ByteArray} {f i : Nat} (h : CutInv s b N out f i) (hi : i < s.size) (hb : s[i] = b) (hn : out.length < N) :
    CutInv s b N (out ++ [s.extract f i]) (i + 1) (i + 1) := by
  have hi' : i < s.data.toList.length := hi
  refine ⟨?_, Nat.le_refl _, hi, by simp; omega⟩
  obtain ⟨k, hk⟩ : ∃ k, N - out.length = k + 1 := ⟨N - out.length - 1, by omega⟩
  have hk2 : N - (out ++ [s.extract f i]).length = k := by simp; omega
  rw [h.eq, hk, hk2, List.drop_eq_getElem_cons hi', cutG, if_pos (show s.data.toList[i] = b from hb), Nat.sub_self, List.take_zero, List.map_append]
  simp only [List.map_cons, List.map_nil, List.append_assoc, List.cons_append, List.nil_append]
  rw [ext_toList]
theorem CutInv.miss {s : ByteArray} {b : UInt8} {N : Nat} {out : List ByteArray} {f i : Nat} (h : CutInv s b N out f i) (hi : i < s.size) (hb : s[i] ≠ b) (hn : out.length < N) :
    CutInv s b N out f (i + 1) := by
  have hi' : i < s.data.toList.length := hi
  have hfi := h.fi
  refine ⟨?_, by omega, hi, h.le⟩
  obtain ⟨k, hk⟩ : ∃ k, N - out.length = k + 1 := ⟨N - out.length - 1, by omega⟩
  rw [h.eq, hk, List.drop_eq_getElem_cons hi', cutG, if_neg (show ¬ s.data.toList[i] = b from hb)]
  congr 2
  have e1 : i + 1 - f = (i - f) + 1 := by omega
  rw [e1, List.take_add_one, List.getElem?_drop, show f + (i - f) = i by omega, List.getElem?_eq_getElem hi']
  rfl
theorem CutInv.done {s : ByteArray} {b : UInt8} {N : Nat} {out : List ByteArray} {f i : Nat} (h : CutInv s b N out f i) (hi : s.size ≤ i ∨ N ≤ out.length) :
    cutB b N s = out ++ [s.extract f s.size] := by
  have hfi := h.fi
  have hil := h.il
  have e : cutG b (N - out.length) ((s.data.toList.drop f).take (i - f)) (s.data.toList.drop i) = [s.data.toList.drop f] := by
    have e1 : (s.data.toList.drop f).take (i - f) ++ s.data.toList.drop i = s.data.toList.drop f := by
      have := List.take_append_drop (i - f) (s.data.toList.drop f)
      rwa [List.drop_drop, show f + (i - f) = i by omega] at this
    rcases hi with hi | hi
    · have e2 : s.data.toList.drop i = [] := List.drop_eq_nil_of_le hi
      rw [e2, List.append_nil] at e1
      rw [e2, cutG, e1]
    · rw [Nat.sub_eq_zero_of_le hi, cutG_zero, e1]
  rw [cutB, h.eq, e, List.map_append, List.map_map]
  congr 1
  · conv => rhs; rw [← List.map_id out]
    apply List.map_congr_left
    intro t _
    exact baL_of t
  · simp only [List.map_cons, List.map_nil]
    congr 1
    apply ba_ext
    rw [ext_toList, baL_list, List.take_of_length_le]
    rw [List.length_drop]; exact Nat.le_refl _

/-! ### Reading a number, the reference's way -/
def psum (l : List UInt8) : Int := l.foldl (fun a b => 10 * a + (b.toNat : Int) - 48) 0
theorem psum_snoc (l : List UInt8) (b : UInt8) : psum (l ++ [b]) = 10 * psum l + (b.toNat : Int) - 48 := by simp [psum]
theorem psum_next {l : List UInt8} {k : Nat} {b : UInt8} (h : l[k]? = some b) : psum (l.take (k + 1)) = 10 * psum (l.take k) + (b.toNat : Int) - 48 := by
  rw [List.take_add_one, h, ← psum_snoc]; rfl
theorem psum_take_bound (l : List UInt8) : ∀ k, k ≤ 9 → -(30 * ((10 ^ k : Nat) : Int)) + 30 ≤ psum (l.take k) ∧ psum (l.take k) ≤ 30 * ((10 ^ k : Nat) : Int) - 30
  | 0, _ => by simp [psum]
  | k + 1, hk => by
    have ih := psum_take_bound l k (by omega)
    have e : ((10 ^ (k + 1) : Nat) : Int) = 10 * ((10 ^ k : Nat) : Int) := by rw [Nat.pow_succ]; omega
    have hp : 1 ≤ ((10 ^ k : Nat) : Int) := by have := Nat.pow_pos (n := k) (show 0 < 10 by omega); omega
    cases h : l[k]? with
    | none =>
      have : l.take (k + 1) = l.take k := by rw [List.take_add_one, h]; simp
      rw [this, e]; omega
    | some b =>
      rw [psum_next h, e]
      have := b.toNat_lt
      omega
theorem psum_bound {l : List UInt8} {k : Nat} (hk : k ≤ 9) : -30000000000 ≤ psum (l.take k) ∧ psum (l.take k) ≤ 30000000000 := by
  have h := psum_take_bound l k hk
  have h1 : 10 ^ k ≤ 10 ^ 9 := Nat.pow_le_pow_right (by omega) hk
  have h2 : (10 : Nat) ^ 9 = 1000000000 := by decide
  omega
theorem psum_dec : ∀ (u : Nat), psum (Lib.decDigits u) = u := by
  intro u
  induction u using Nat.strongRecOn with
  | _ u ih =>
    rw [Lib.decDigits]
    split
    · rename_i h
      have := psum_snoc [] (UInt8.ofNat (48 + u))
      rw [List.nil_append] at this
      rw [this, dig_of h]
      simp [psum]; omega
    · rename_i h
      rw [psum_snoc, ih (u / 10) (by omega), dig_of (by omega)]
      omega
/-- What stands behind the sign, and the sign. -/
def unsign (l : List UInt8) : List UInt8 := match l with | [] => [] | b :: r => if b = 45 then r else b :: r
def signOf (l : List UInt8) : Int := match l with | [] => 1 | b :: _ => if b = 45 then -1 else 1
def pIntL (l : List UInt8) : Int := signOf l * psum ((unsign l).take 9)
theorem pInt_itoa {n : Int} (h1 : -10000 < n) (h2 : n < 10000) : pIntL (Lib.itoa n) = n := by
  unfold Lib.itoa
  split
  · have hl := decDigits_len (u := n.natAbs) (k := 4) (by omega) (by omega)
    rw [pIntL, unsign, signOf]
    simp only [if_true]
    rw [List.take_of_length_le (by omega), psum_dec]
    omega
  · have hl := decDigits_len (u := n.toNat) (k := 4) (by omega) (by omega)
    have hd := decDigits_dig n.toNat
    have hp := psum_dec n.toNat
    cases hc : Lib.decDigits n.toNat with
    | nil => exact absurd hc (decDigits_ne _)
    | cons c r =>
      rw [hc] at hl hd hp
      have hcd := hd c (by simp)
      have hne : c ≠ 45 := by rintro rfl; unfold dig at hcd; simp at hcd
      rw [pIntL, unsign, signOf]
      simp only [if_neg hne]
      rw [List.take_of_length_le (by omega), hp]
      omega

/-! ### The item that the reference reads -/
def wordB (l : List ByteArray) (i : Nat) : ByteArray := (l[i]?).getD ⟨#[]⟩
def pItemW (w : List ByteArray) : It :=
  if wordB w 0 = baL tBox then ⟨1, pIntL (wordB w 1).data.toList, 0, 0, 0, false⟩
  else if wordB w 0 = baL tGlue then ⟨2, pIntL (wordB w 1).data.toList, pIntL (wordB w 3).data.toList, pIntL (wordB w 5).data.toList, 0, false⟩
  else ⟨3, pIntL (wordB w 3).data.toList, 0, 0, pIntL (wordB w 1).data.toList, decide (w.length = 5)⟩
def pItem (s : ByteArray) : It := pItemW (cutB 32 6 s)

theorem glue_ne_box : ¬ baL tGlue = baL tBox := fun h => by have := baL_inj h; simp [tGlue, tBox] at this
theorem pen_ne_box : ¬ baL tPen = baL tBox := fun h => by have := baL_inj h; simp [tPen, tBox] at this
theorem pen_ne_glue : ¬ baL tPen = baL tGlue := fun h => by have := baL_inj h; simp [tPen, tGlue] at this

theorem iw_1 {y : It} (k : y.k = 1) : iw0 y = tBox ∧ iws y = [Lib.itoa y.w] := by simp [iw0, iws, k]
theorem iw_2 {y : It} (k : y.k = 2) : iw0 y = tGlue ∧ iws y = [Lib.itoa y.w, tPlus, Lib.itoa y.st, tMinus, Lib.itoa y.sh] := by simp [iw0, iws, k]
theorem iw_3 {y : It} (k : y.k = 3) : iw0 y = tPen ∧ iws y = [Lib.itoa y.p, tWidth, Lib.itoa y.w] ++ (if y.f then [tFlag] else []) := by simp [iw0, iws, k]
theorem pItemW_box (l : List ByteArray) : pItemW (baL tBox :: l) = ⟨1, pIntL (wordB (baL tBox :: l) 1).data.toList, 0, 0, 0, false⟩ := if_pos rfl
theorem pItemW_glue (l : List ByteArray) : pItemW (baL tGlue :: l) = ⟨2, pIntL (wordB (baL tGlue :: l) 1).data.toList, pIntL (wordB (baL tGlue :: l) 3).data.toList, pIntL (wordB (baL tGlue :: l) 5).data.toList, 0, false⟩ := by
  rw [pItemW, if_neg (show ¬ wordB (baL tGlue :: l) 0 = baL tBox from glue_ne_box), if_pos (show wordB (baL tGlue :: l) 0 = baL tGlue from rfl)]
theorem pItemW_pen (l : List ByteArray) : pItemW (baL tPen :: l) = ⟨3, pIntL (wordB (baL tPen :: l) 3).data.toList, 0, 0, pIntL (wordB (baL tPen :: l) 1).data.toList, decide ((baL tPen :: l).length = 5)⟩ := by
  rw [pItemW, if_neg (show ¬ wordB (baL tPen :: l) 0 = baL tBox from pen_ne_box), if_neg (show ¬ wordB (baL tPen :: l) 0 = baL tGlue from pen_ne_glue)]
theorem pItemW_of {y : It} (hy : vIt y = true) : pItemW ((iw0 y :: iws y).map baL) = y := by
  have n := vIt_num hy
  have r1 : pIntL (Lib.itoa y.w) = y.w := pInt_itoa (by omega) (by omega)
  have r2 : pIntL (Lib.itoa y.st) = y.st := pInt_itoa (by omega) (by omega)
  have r3 : pIntL (Lib.itoa y.sh) = y.sh := pInt_itoa (by omega) (by omega)
  have r4 : pIntL (Lib.itoa y.p) = y.p := pInt_itoa (by omega) (by omega)
  rcases vIt_kind hy with ⟨k, e⟩ | ⟨k, e⟩ | ⟨k, e⟩
  · rw [(iw_1 k).1, (iw_1 k).2, List.map_cons, pItemW_box]
    simp only [List.map_cons, List.map_nil, wordB, List.getElem?_cons_succ, List.getElem?_cons_zero, Option.getD_some, baL_list, r1]
    exact e.symm
  · rw [(iw_2 k).1, (iw_2 k).2, List.map_cons, pItemW_glue]
    simp only [List.map_cons, List.map_nil, wordB, List.getElem?_cons_succ, List.getElem?_cons_zero, Option.getD_some, baL_list, r1, r2, r3]
    exact e.symm
  · rw [(iw_3 k).1, (iw_3 k).2, List.map_cons, pItemW_pen]
    simp only [List.map_cons, List.cons_append, wordB, List.getElem?_cons_succ, List.getElem?_cons_zero, Option.getD_some, baL_list, r1, r4]
    conv => rhs; rw [e]
    congr 1
    cases y.f <;> simp
theorem pItem_of {s : ByteArray} : ∀ y, vIt y = true → itxt y = s.data.toList → pItem s = y := by
  intro y hy h
  rw [pItem, cutB, ← h, words_of y (by omega)]
  exact pItemW_of hy

/-! ### The item that the program reads -/
def atoiV (l : List UInt8) : Int := match Lib.atoiAll l with | .ok v => v | .range => Lib.atoiSat l | _ => 0
theorem atoiV_itoa {n : Int} (h1 : -10000 < n) (h2 : n < 10000) : atoiV (Lib.itoa n) = n := by
  rw [atoiV, atoi_itoa (by omega) (by omega)]
def numB (l : List ByteArray) (i : Nat) : Int := if l.length ≤ i then 0 else atoiV (wordB l i).data.toList
theorem numB_at {l : List ByteArray} {i : Nat} {t : ByteArray} (h : l[i]? = some t) : numB l i = atoiV t.data.toList := by
  have hi := (List.getElem?_eq_some_iff.1 h).1
  rw [numB, if_neg (by omega), wordB, h]; rfl
def rItemW (w : List ByteArray) : It :=
  if wordB w 0 = baL tBox then ⟨1, numB w 1, 0, 0, 0, false⟩
  else if wordB w 0 = baL tGlue then ⟨2, numB w 1, numB w 3, numB w 5, 0, false⟩
  else if wordB w 0 = baL tPen then ⟨3, numB w 3, 0, 0, numB w 1, decide (4 < w.length)⟩
  else ⟨0, 0, 0, 0, 0, false⟩
/-- All pieces of a text. -/
def allB (b : UInt8) (s : ByteArray) : List ByteArray := cutB b (s.data.toList.count b) s
def rItem (s : ByteArray) : It := rItemW (allB 32 s)
theorem rItemW_box (l : List ByteArray) : rItemW (baL tBox :: l) = ⟨1, numB (baL tBox :: l) 1, 0, 0, 0, false⟩ := if_pos rfl
theorem rItemW_glue (l : List ByteArray) : rItemW (baL tGlue :: l) = ⟨2, numB (baL tGlue :: l) 1, numB (baL tGlue :: l) 3, numB (baL tGlue :: l) 5, 0, false⟩ := by
  rw [rItemW, if_neg (show ¬ wordB (baL tGlue :: l) 0 = baL tBox from glue_ne_box), if_pos (show wordB (baL tGlue :: l) 0 = baL tGlue from rfl)]
theorem rItemW_pen (l : List ByteArray) : rItemW (baL tPen :: l) = ⟨3, numB (baL tPen :: l) 3, 0, 0, numB (baL tPen :: l) 1, decide (4 < (baL tPen :: l).length)⟩ := by
  rw [rItemW, if_neg (show ¬ wordB (baL tPen :: l) 0 = baL tBox from pen_ne_box), if_neg (show ¬ wordB (baL tPen :: l) 0 = baL tGlue from pen_ne_glue), if_pos (show wordB (baL tPen :: l) 0 = baL tPen from rfl)]
theorem rItemW_of {y : It} (hy : vIt y = true) : rItemW ((iw0 y :: iws y).map baL) = y := by
  have n := vIt_num hy
  have r1 : atoiV (Lib.itoa y.w) = y.w := atoiV_itoa (by omega) (by omega)
  have r2 : atoiV (Lib.itoa y.st) = y.st := atoiV_itoa (by omega) (by omega)
  have r3 : atoiV (Lib.itoa y.sh) = y.sh := atoiV_itoa (by omega) (by omega)
  have r4 : atoiV (Lib.itoa y.p) = y.p := atoiV_itoa (by omega) (by omega)
  rcases vIt_kind hy with ⟨k, e⟩ | ⟨k, e⟩ | ⟨k, e⟩
  · rw [(iw_1 k).1, (iw_1 k).2, List.map_cons, rItemW_box, numB_at (i := 1) (t := baL (Lib.itoa y.w)) rfl, baL_list, r1]
    exact e.symm
  · rw [(iw_2 k).1, (iw_2 k).2, List.map_cons, rItemW_glue, numB_at (i := 1) (t := baL (Lib.itoa y.w)) rfl, numB_at (i := 3) (t := baL (Lib.itoa y.st)) rfl, numB_at (i := 5) (t := baL (Lib.itoa y.sh)) rfl, baL_list, baL_list, baL_list, r1, r2, r3]
    exact e.symm
  · rw [(iw_3 k).1, (iw_3 k).2, List.map_cons, rItemW_pen, numB_at (i := 1) (t := baL (Lib.itoa y.p)) rfl, numB_at (i := 3) (t := baL (Lib.itoa y.w)) rfl, baL_list, baL_list, r1, r4]
    conv => rhs; rw [e]
    congr 1
    cases y.f <;> simp
theorem rItem_of {s : ByteArray} : ∀ y, vIt y = true → itxt y = s.data.toList → rItem s = y := by
  intro y hy h
  rw [rItem, allB, cutB, ← h, words_all y]
  exact rItemW_of hy
theorem zero_no : vIt ⟨0, 0, 0, 0, 0, false⟩ = false := rfl
end Go.Proofs.YtmljofijeladoaaGreatDoor
