/-
  The walk of FnReplaceBack: replacing can be undone.
-/
import Derived.Test.YtjkmjgjpkneckaaReplaceSpec
import Derived.Test.YtjkmjgjpkneckaaDrawReplace
namespace Go.Proofs.Ytjkmjgjpkneckaa
open Go.RowKit
set_option linter.unusedVariables false

theorem repl_back {xs ys : List It} {f t : Nat} (hf : f ≤ t) (ht : t ≤ xs.length) : repl (repl xs ys f t) ((xs.drop f).take (t - f)) f ((f + ys.length : Nat) : Int) = xs := by
  have h1 : (xs.take f).length = f := by simp; omega
  unfold repl
  rw [Int.toNat_natCast, Int.toNat_natCast, Int.toNat_natCast]
  have e1 : (xs.take f ++ ys ++ xs.drop t).take f = xs.take f := by
    rw [List.append_assoc, List.take_append_of_le_length (by omega), List.take_of_length_le (by omega)]
  have e2 : (xs.take f ++ ys ++ xs.drop t).drop (f + ys.length) = xs.drop t := by
    rw [List.drop_append_of_le_length (by simp; omega), List.drop_of_length_le (by simp; omega), List.nil_append]
  rw [e1, e2]
  have e3 : xs.drop t = (xs.drop f).drop (t - f) := by rw [List.drop_drop, show f + (t - f) = t from by omega]
  rw [e3, List.append_assoc, List.take_append_drop, List.take_append_drop]

theorem rI_back {xs ys : List It} {f t : Int} (h : (rI xs ys f t).2 = true) :
    ∃ f' t' : Nat, f = f' ∧ t = t' ∧ f' ≤ t' ∧ t' ≤ xs.length ∧ xs.length ≤ 60 ∧ 1 ≤ xs.length ∧ (rI xs ys f t).1 = repl xs ys f' t' ∧ (repl xs ys f' t').length ≤ 60 ∧ rI (repl xs ys f' t') ((xs.drop f').take (t' - f')) f' ((f' + ys.length : Nat) : Int) = (xs, true) := by
  have hr : rOk xs ys f t = true := by
    cases hr : rOk xs ys f t
    · rw [rI_no hr] at h; cases h
    · rfl
  rw [rI_yes hr]
  have hk := hr
  simp only [rOk, Bool.and_eq_true, decide_eq_true_eq] at hk
  obtain ⟨⟨⟨⟨⟨h1, h2⟩, h3⟩, h4⟩, h5⟩, h6⟩ := hk
  obtain ⟨f', rfl⟩ := Int.eq_ofNat_of_zero_le h2
  obtain ⟨t', rfl⟩ := Int.eq_ofNat_of_zero_le (show 0 ≤ t by omega)
  have b1 := h1
  have b6 := h6
  simp only [vItems, Bool.and_eq_true, inB_iff] at b1 b6
  have hl := repl_len (xs := xs) (ys := ys) (f := f') (t := t') (by omega) (by omega)
  refine ⟨f', t', rfl, rfl, by omega, by omega, by omega, by omega, rfl, by omega, ?_⟩
  have hb := repl_back (xs := xs) (ys := ys) (f := f') (t := t') (by omega) (by omega)
  have ho : rOk (repl xs ys f' t') ((xs.drop f').take (t' - f')) f' ((f' + ys.length : Nat) : Int) = true := by
    rw [rOk, hb, h6, h1, decide_eq_true (show (0 : Int) ≤ (f' : Int) by omega), decide_eq_true (show (f' : Int) ≤ ((f' + ys.length : Nat) : Int) by omega), decide_eq_true (show ((f' + ys.length : Nat) : Int) ≤ ((repl xs ys f' t').length : Int) by omega)]
    have hln : ((xs.drop f').take (t' - f')).length ≤ 60 := by simp; omega
    rw [decide_eq_true hln]
    rfl
  rw [rI_yes ho, hb]

theorem rI_len {xs ys : List It} {f t : Int} {zs : List It} {b : Bool} (h : (zs, b) = rI xs ys f t) : zs.length ≤ 60 := by
  unfold rI at h
  split at h
  · rename_i hr
    injection h with h _
    subst h
    simp only [rOk, Bool.and_eq_true] at hr
    have h6 := hr.2
    simp only [vItems, Bool.and_eq_true, inB_iff] at h6
    omega
  · injection h with h _
    subst h
    simp

theorem repl_ret {w w' : World} {xs ys : List It} {f t : Int} {e : Ending} {zs : List It} {b : Bool} (hz : rI xs ys f t = (zs, b)) (h : ReplRes w xs ys f t e w') :
    ∃ A k c, e = .returned (.tuple #[.slice A k c, .bool b]) ∧ w'.ownsRow w.heap.size 58 6 (.slice A k c) k (items zs) ∧ Below w.heap.size w w' := by
  unfold ReplRes at h
  rw [hz] at h
  exact h

set_option maxHeartbeats 4000000 in
theorem FnReplaceBack_walk (w : World) (a0 : Option Addr) (n0 c0 : Nat) (x0 : List Int) (h0 : InBytes w a0 n0 c0 x0) :
    Calls Try.prog 7 #[.slice a0 n0 c0] w fun e w' => e = .returned (.bool true) ∧ Below w.heap.size w w' := by
  have HD := Lib.hid (DrawReplaceItems_any w a0 n0 c0 x0 h0)
  clear h0
  by_cases g0 : n0 ≤ 1048576
  case neg =>
    go_enter Try.func7, Try.ntmps7
    go_wp2
    go_ret
    exact ⟨rfl, Below.refl _ _⟩
  go_enter Try.func7, Try.ntmps7
  go_wp2_with fail
  refine HD.out.mono ?_
  rintro e w1 ⟨L, m, d, xs, f, t, L', m', d', ys, rfl, hm, hm', hmd, hmd', hx, hy, hf0, hf1, ht0, ht1, hB⟩
  have B1 := Lib.hid hB
  have X1 := Lib.hid hx
  have Y1 := Lib.hid hy
  have HLx := Lib.hid hx.item_len
  have HLy := Lib.hid hy.item_len
  clear hB hx hy HD
  obtain ⟨⟨zs, ok⟩, hz⟩ : ∃ p, p = rI xs ys f t := ⟨_, rfl⟩
  have HZ := Lib.hid hz
  clear hz
  go_wp2_with fail
  refine (implReplace_any L L' m m' d d' xs ys f t w1 X1.out Y1.out (by omega) (by omega) hmd hmd').mono ?_
  intro e w2 hres
  obtain ⟨A1, k1, c1, rfl, ho, hb⟩ := repl_ret HZ.out.symm hres
  have O2 := Lib.hid ho
  have B2 := Lib.hid hb
  clear hres ho hb
  go_wp2_with fail
  refine (specReplace_any L L' m m' d d' xs ys f t w2 (X1.out.below B2.out) (Y1.out.below B2.out) (by omega) (by omega) hmd hmd').mono ?_
  intro e w3 hres
  obtain ⟨A2, k2, c2, rfl, ho, hb⟩ := repl_ret HZ.out.symm hres
  have O3 := Lib.hid ho
  have B3 := Lib.hid hb
  have O2a := Lib.hid (own_below O2.out hb)
  have X3 := Lib.hid ((X1.out.below B2.out).below hb)
  have Y3 := Lib.hid ((Y1.out.below B2.out).below hb)
  have HB := Lib.hid (below_step (below_step B1.out B2.out) hb)
  clear hres ho hb
  have hlz := rI_len HZ.out
  have hk1 : k1 ≤ 1048576 := by have := (Rd.own O2.out).item_len; omega
  have hk2 : k2 ≤ 1048576 := by have := (Rd.own O3.out).item_len; omega
  cases ok
  · clear hlz
    go_wp2_with fail
    refine (equalItems_any A1 A2 k1 k2 c1 c2 zs zs w3 (Rd.own O2a.out) (Rd.own O3.out) hk1 hk2).mono ?_
    rintro e w4 ⟨rfl, hb⟩
    have B4 := Lib.hid (below_of_drew (B := w3.heap.size) hb); clear hb
    go_wp2_with fail
    refine (equalItems_any A1 A2 k1 k2 c1 c2 zs zs w4 (Rd.own (own_below O2a.out B4.out)) (Rd.own (own_below O3.out B4.out)) hk1 hk2).mono ?_
    rintro e w5 ⟨rfl, hb⟩
    have B5 := Lib.hid (below_of_drew (B := w4.heap.size) hb); clear hb
    go_wp2_with fail
    go_ret
    exact ⟨by first | rfl | simp, below_step (below_step HB.out B4.out) B5.out⟩
  obtain ⟨f', t', rfl, rfl, hft, htn, hn60, hn1, hzs, hzl, hback⟩ := rI_back (xs := xs) (ys := ys) (f := f) (t := t) (by rw [← HZ.out])
  rw [← HZ.out] at hzs
  have hzs' : zs = repl xs ys f' t' := hzs
  subst hzs'
  rw [HLx.out] at htn hn60 hn1
  rw [HLy.out] at hback
  have HBK := Lib.hid hback
  clear hback hzs hlz hzl
  go_wp2_with fail
  refine (equalItems_any A1 A2 k1 k2 c1 c2 _ _ w3 (Rd.own O2a.out) (Rd.own O3.out) hk1 hk2).mono ?_
  rintro e w4 ⟨rfl, hb⟩
  have B4 := Lib.hid (below_of_drew (B := w3.heap.size) hb); clear hb
  have X4 := Lib.hid (X3.out.below B4.out)
  have O4 := Lib.hid (Rd.own (own_below O2a.out B4.out))
  have hkc : k1 ≤ c1 := own_slice0 O2.out
  obtain ⟨b, o, eL, _⟩ := X4.out.2 (by omega)
  subst eL
  have p1 : (f' : Int) ≤ (t' : Int) := by omega
  have p2 : (t' : Int) ≤ (d : Int) := by omega
  have p3 : (0 : Int) ≤ (f' : Int) := by omega
  have p4 : ((f' + m' : Nat) : Int) = (f' : Int) + (m' : Int) := by omega
  rcases Nat.lt_or_ge f' d with hfd | hfd
  · have hne : ¬ d = f' := by omega
    have hseg : Rd w4 6 (some ⟨b, o + f' * 6, none⟩) (t' - f') (items ((xs.drop f').take (t' - f'))) := by
      have h := (X4.out.cutI (k := f') (c := d) (by omega) hmd).takeI (k := t' - f') (by omega)
      rw [if_neg hne] at h
      simpa [Addr.add_lit] using h
    have CB := Lib.hid (implReplace_any A1 (some ⟨b, o + f' * 6, none⟩) k1 (t' - f') c1 (d - f') (repl xs ys f' t') ((xs.drop f').take (t' - f')) f' ((f' + m' : Nat) : Int) w4 O4.out hseg hk1 (by omega) hkc (by omega))
    rw [p4] at CB HBK
    clear hseg p4
    go_wp2_with fail
    refine CB.out.mono ?_
    intro e w5 hres
    obtain ⟨A5, k5, c5, rfl, ho, hb⟩ := repl_ret HBK.out hres
    have O5 := Lib.hid ho
    have B5 := Lib.hid hb
    clear hres ho hb
    have hk5 : k5 ≤ 1048576 := by have := (Rd.own O5.out).item_len; have := HLx.out; omega
    go_wp2_with fail
    refine (equalItems_any A5 (some ⟨b, o, none⟩) k5 m c5 d xs xs w5 (Rd.own O5.out) (X4.out.below B5.out) hk5 (by omega)).mono ?_
    rintro e w6 ⟨rfl, hb⟩
    have B6 := Lib.hid (below_of_drew (B := w5.heap.size) hb); clear hb
    go_wp2_with fail
    go_ret
    exact ⟨by first | rfl | simp, below_step (below_step (below_step HB.out B4.out) B5.out) B6.out⟩
  · have e1 : f' = d := by omega
    have e2 : t' = d := by omega
    have e3 : m = d := by omega
    have hseg : Rd w4 6 (some ⟨b, o, none⟩) 0 (items ((xs.drop f').take (t' - f'))) := by
      have h := (X4.out.cutI (k := f') (c := d) (by omega) hmd).takeI (k := t' - f') (by omega)
      rw [if_pos e1.symm, show t' - f' = 0 from by omega] at h
      rw [show t' - f' = 0 from by omega]
      exact h
    have CB := Lib.hid (implReplace_any A1 (some ⟨b, o, none⟩) k1 0 c1 0 (repl xs ys f' t') ((xs.drop f').take (t' - f')) f' ((f' + m' : Nat) : Int) w4 O4.out hseg hk1 (by omega) hkc (by omega))
    rw [p4] at CB HBK
    clear hseg p4 hfd
    subst e1
    subst e2
    subst e3
    go_wp2_with fail
    refine CB.out.mono ?_
    intro e w5 hres
    obtain ⟨A5, k5, c5, rfl, ho, hb⟩ := repl_ret HBK.out hres
    have O5 := Lib.hid ho
    have B5 := Lib.hid hb
    clear hres ho hb
    have hk5 : k5 ≤ 1048576 := by have := (Rd.own O5.out).item_len; have := HLx.out; omega
    go_wp2_with fail
    refine (equalItems_any A5 (some ⟨b, o, none⟩) k5 _ c5 _ xs xs w5 (Rd.own O5.out) (X4.out.below B5.out) hk5 (by omega)).mono ?_
    rintro e w6 ⟨rfl, hb⟩
    have B6 := Lib.hid (below_of_drew (B := w5.heap.size) hb); clear hb
    go_wp2_with fail
    go_ret
    exact ⟨by first | rfl | simp, below_step (below_step (below_step HB.out B4.out) B5.out) B6.out⟩
end Go.Proofs.Ytjkmjgjpkneckaa
