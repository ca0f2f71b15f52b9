/-
  Contract of the reference's DecodeItem.
-/
import Derived.Test.YtmnmdecbehfegaaDoorTxtParse
namespace Go.Proofs.YtmnmdecbehfegaaDoor
open Go.RowKit
set_option linter.unusedVariables false

theorem cutG_small (b : UInt8) : ∀ (s : List UInt8) (n : Nat) (cur p : List UInt8), p ∈ cutG b n cur s → p.length ≤ cur.length + s.length
  | [], n, cur, p, h => by
    simp only [cutG, List.mem_singleton] at h
    subst h; simp
  | c :: r, 0, cur, p, h => by
    simp only [cutG, List.mem_singleton] at h
    subst h; simp
  | c :: r, n + 1, cur, p, h => by
    rw [cutG] at h
    split at h
    · rcases List.mem_cons.1 h with h | h
      · subst h; omega
      · have := cutG_small b r n [] p h
        simp at this ⊢; omega
    · have := cutG_small b r (n + 1) (cur ++ [c]) p h
      simp at this ⊢; omega
theorem cutB_small {b : UInt8} {n : Nat} {s t : ByteArray} (h : t ∈ cutB b n s) : t.size ≤ s.size := by
  rw [cutB, List.mem_map] at h
  obtain ⟨p, hp, rfl⟩ := h
  have := cutG_small b _ n [] p hp
  simp at this
  exact this
theorem wordB_small {b : UInt8} {n : Nat} {s : ByteArray} (i : Nat) : (wordB (cutB b n s) i).size ≤ s.size := by
  rw [wordB]
  cases h : (cutB b n s)[i]? with
  | none => exact Nat.zero_le _
  | some t => exact cutB_small (List.mem_of_getElem? h)
theorem str_same {s t : ByteArray} (h : s = t) : (s.toList == t.toList) = true := by rw [h]; simp
theorem str_sameL {s : ByteArray} {l : List UInt8} (h : s = baL l) : (s.toList == l) = true := by rw [h, ByteArray.toList_eq]; simp [baL]
theorem str_otherL {s : ByteArray} {l : List UInt8} (h : ¬ s = baL l) : (s.toList == l) = false := by
  rw [beq_eq_false_iff_ne]
  intro e
  rw [ByteArray.toList_eq] at e
  exact h (baL_eq e)

def ItemIs (w : World) (x : It) (e : Ending) (w' : World) : Prop :=
  e = .returned (.agg #[.int .i64 x.k, .int .i64 x.w, .int .i64 x.st, .int .i64 x.sh, .int .i64 x.p, .bool x.f]) ∧ Below w.heap.size w w'
def ReadIs (w : World) (r : It × Bool) (e : Ending) (w' : World) : Prop :=
  e = .returned (.tuple #[.agg #[.int .i64 r.1.k, .int .i64 r.1.w, .int .i64 r.1.st, .int .i64 r.1.sh, .int .i64 r.1.p, .bool r.1.f], .bool r.2]) ∧ Below w.heap.size w w'

set_option maxHeartbeats 8000000 in
set_option maxRecDepth 8000 in
theorem parseItem_any (s : ByteArray) (w : World) (hs : s.size ≤ 4294967280) : Calls Tryd.prog 46 #[.string s] w (ItemIs w (pItem s)) := by
  have SP : Hid (∀ w1, Calls Tryd.prog 49 #[.string s, .int .u8 32, .int .i64 6] w1 (MadeS w1 (cutB 32 6 s))) := fun w1 => split_any s 32 6 w1 hs (by omega)
  have hpos := cutB_pos 32 6 s
  have hle := cutB_le 32 6 s
  have hw := fun i => wordB_small (b := 32) (n := 6) (s := s) i
  have HP := Lib.hid (show pItem s = pItemW (cutB 32 6 s) from rfl)
  obtain ⟨l, hl⟩ : ∃ l, l = cutB 32 6 s := ⟨_, rfl⟩
  rw [← hl] at SP hpos hle hw HP
  clear hl
  have PI := fun i => Lib.hid (fun w1 => parseInt_any (wordB l i) w1 (by have := hw i; omega))
  have P1 := PI 1
  have P3 := PI 3
  have P5 := PI 5
  have WD := fun i (hi : i ≤ 1000) => Lib.hid (fun A c w1 h => word_any A l.length c i l w1 h (by omega) hi)
  have W1 := WD 1 (by omega)
  have W3 := WD 3 (by omega)
  have W5 := WD 5 (by omega)
  clear PI WD hw
  have HP1 := Lib.hid (pItemW_box (l.drop 1))
  have HP2 := Lib.hid (pItemW_glue (l.drop 1))
  have E0 : Hid (∀ t, l[0]? = some t → wordB l 0 = t) := fun t h => by rw [wordB, h]; rfl
  have HPW : Hid (pItemW l = if wordB l 0 = baL tBox then ⟨1, pIntL (wordB l 1).data.toList, 0, 0, 0, false⟩
    else if wordB l 0 = baL tGlue then ⟨2, pIntL (wordB l 1).data.toList, pIntL (wordB l 3).data.toList, pIntL (wordB l 5).data.toList, 0, false⟩
    else ⟨3, pIntL (wordB l 3).data.toList, 0, 0, pIntL (wordB l 1).data.toList, decide (l.length = 5)⟩) := rfl
  clear HP1 HP2
  obtain ⟨t1, ht1⟩ : ∃ t, t = wordB l 1 := ⟨_, rfl⟩
  obtain ⟨t3, ht3⟩ : ∃ t, t = wordB l 3 := ⟨_, rfl⟩
  obtain ⟨t5, ht5⟩ : ∃ t, t = wordB l 5 := ⟨_, rfl⟩
  rw [← ht1] at P1 W1 HPW
  rw [← ht3] at P3 W3 HPW
  rw [← ht5] at P5 W5 HPW
  clear ht1 ht3 ht5
  obtain ⟨n1, hn1⟩ : ∃ n, n = pIntL t1.data.toList := ⟨_, rfl⟩
  obtain ⟨n3, hn3⟩ : ∃ n, n = pIntL t3.data.toList := ⟨_, rfl⟩
  obtain ⟨n5, hn5⟩ : ∃ n, n = pIntL t5.data.toList := ⟨_, rfl⟩
  rw [← hn1] at P1
  rw [← hn3] at P3
  rw [← hn5] at P5
  rw [← hn1, ← hn3, ← hn5] at HPW
  clear hn1 hn3 hn5
  obtain ⟨n, hn⟩ : ∃ n, n = l.length := ⟨_, rfl⟩
  rw [← hn] at hpos hle HPW W1 W3 W5
  have HN := Lib.hid hn
  clear hn
  go_enter Tryd.func46, Tryd.ntmps46
  go_wp2_with fail
  refine (SP.out _).mono ?_
  rintro e w1 ⟨v, rfl, ho, hb⟩
  obtain ⟨hk, hb'⟩ := box_at hb
  rw [← HN.out] at ho
  have O1 := Lib.hid ho
  have B1 := Lib.hid hb'
  have c0 := hk.cell 0
  have c1 := hk.cell 1
  have c2 := hk.cell 2
  have c3 := hk.cell 3
  have c4 := hk.cell 4
  have c5 := hk.cell 5
  have f0 := hk.free 0
  have f1 := hk.free 1
  have f2 := hk.free 2
  have f3 := hk.free 3
  have f4 := hk.free 4
  have f5 := hk.free 5
  simp only [List.getElem?_toArray, List.getElem?_cons_zero, List.getElem?_cons_succ] at c0 c1 c2 c3 c4 c5
  clear hb hb' hk ho
  obtain ⟨L, d, hsh, hmd⟩ := own_shape O1.out
  subst hsh
  have R1 := Lib.hid (Rd.own O1.out)
  obtain ⟨b0, o0, t0, rfl, et, hct⟩ := R1.out.str_at (k := 0) (by omega)
  rw [Nat.add_zero] at hct
  have hw0 := E0.out t0 et
  rw [hw0] at HPW
  clear E0 et hw0
  by_cases h1 : t0 = baL tBox
  · have EQ : Hid (pItemW l = ⟨1, n1, 0, 0, 0, false⟩) := by show _ = _; rw [HPW.out, if_pos h1]
    have s1 := str_sameL h1
    have s2 : (t0.toList == (⟨#[98, 111, 120]⟩ : ByteArray).toList) = true := str_same h1
    unfold tBox at s1
    clear h1
    go_wp2_with (first | (go_at_call 65; refine (W1.out _ _ _ R1.out).mono ?_; rintro e w' ⟨rfl, rfl⟩) | (go_at_call 64; refine (P1.out _).mono ?_; rintro e w' ⟨rfl, rfl⟩))
    refine bodyPost_ret (v := .agg #[.int .i64 1, .int .i64 n1, .int .i64 0, .int .i64 0, .int .i64 0, .bool false]) ?_ rfl ⟨by rw [HP.out, EQ.out], ?_⟩
    · simp only [results, Tryd.results46]
      go_simp
    · repeat (first | (with_reducible exact B1.out) | refine Below.setCell ?_ (by simp <;> omega) _)
  have s1 := str_otherL h1
  have s2 : (t0.toList == (⟨#[98, 111, 120]⟩ : ByteArray).toList) = false := str_parts h1
  unfold tBox at s1
  by_cases h2 : t0 = baL tGlue
  · have EQ : Hid (pItemW l = ⟨2, n1, n3, n5, 0, false⟩) := by show _ = _; rw [HPW.out, if_neg h1, if_pos h2]
    have s3 := str_sameL h2
    have s4 : (t0.toList == (⟨#[103, 108, 117, 101]⟩ : ByteArray).toList) = true := str_same h2
    unfold tGlue at s3
    clear h1 h2
    go_wp2_with (first | (go_at_call_of 65 (1 : Int); refine (W1.out _ _ _ R1.out).mono ?_; rintro e w' ⟨rfl, rfl⟩) | (go_at_call_of 65 (3 : Int); refine (W3.out _ _ _ R1.out).mono ?_; rintro e w' ⟨rfl, rfl⟩) | (go_at_call_of 65 (5 : Int); refine (W5.out _ _ _ R1.out).mono ?_; rintro e w' ⟨rfl, rfl⟩) | (go_at_call_of 64 t1; refine (P1.out _).mono ?_; rintro e w' ⟨rfl, rfl⟩) | (go_at_call_of 64 t3; refine (P3.out _).mono ?_; rintro e w' ⟨rfl, rfl⟩) | (go_at_call_of 64 t5; refine (P5.out _).mono ?_; rintro e w' ⟨rfl, rfl⟩))
    refine bodyPost_ret (v := .agg #[.int .i64 2, .int .i64 n1, .int .i64 n3, .int .i64 n5, .int .i64 0, .bool false]) ?_ rfl ⟨by rw [HP.out, EQ.out], ?_⟩
    · simp only [results, Tryd.results46]
      go_simp
    · repeat (first | (with_reducible exact B1.out) | refine Below.setCell ?_ (by simp <;> omega) _)
  have s3 := str_otherL h2
  have s4 : (t0.toList == (⟨#[103, 108, 117, 101]⟩ : ByteArray).toList) = false := str_parts h2
  unfold tGlue at s3
  have EQ : Hid (pItemW l = ⟨3, n3, 0, 0, n1, decide (n = 5)⟩) := by show _ = _; rw [HPW.out, if_neg h1, if_neg h2]
  clear h1 h2
  have hd5 : ((n : Int) == 5) = decide (n = 5) := by by_cases h : n = 5 <;> simp [h] <;> omega
  go_wp2_with (first | (go_at_call_of 65 (1 : Int); refine (W1.out _ _ _ R1.out).mono ?_; rintro e w' ⟨rfl, rfl⟩) | (go_at_call_of 65 (3 : Int); refine (W3.out _ _ _ R1.out).mono ?_; rintro e w' ⟨rfl, rfl⟩) | (go_at_call_of 64 t1; refine (P1.out _).mono ?_; rintro e w' ⟨rfl, rfl⟩) | (go_at_call_of 64 t3; refine (P3.out _).mono ?_; rintro e w' ⟨rfl, rfl⟩))
  refine bodyPost_ret (v := .agg #[.int .i64 3, .int .i64 n3, .int .i64 0, .int .i64 0, .int .i64 n1, .bool (decide (n = 5))]) ?_ rfl ⟨by rw [HP.out, EQ.out], ?_⟩
  · simp only [results, Tryd.results46]
    go_simp
  · repeat (first | (with_reducible exact B1.out) | refine Below.setCell ?_ (by simp <;> omega) _)
end Go.Proofs.YtmnmdecbehfegaaDoor
