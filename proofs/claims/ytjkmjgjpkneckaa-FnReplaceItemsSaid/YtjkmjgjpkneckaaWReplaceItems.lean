/-
  The walk of FnReplaceItems: replaced paragraphs keep the rest.
-/
import Derived.Test.YtjkmjgjpkneckaaWReplaceBack
import Derived.IntWalk
namespace Go.Proofs.Ytjkmjgjpkneckaa
open Go.RowKit
set_option linter.unusedVariables false

theorem repl_parts {xs ys : List It} {f t : Nat} (hf : f ≤ t) (ht : t ≤ xs.length) :
    (repl xs ys f t).take f = xs.take f ∧ (repl xs ys f t).drop (f + ys.length) = xs.drop t ∧ ((repl xs ys f t).drop f).take ys.length = ys := by
  have h1 : (xs.take f).length = f := by simp; omega
  unfold repl
  rw [Int.toNat_natCast, Int.toNat_natCast]
  refine ⟨?_, ?_, ?_⟩
  · rw [List.append_assoc, List.take_append_of_le_length (by omega), List.take_of_length_le (by omega)]
  · rw [List.drop_append_of_le_length (by simp; omega), List.drop_of_length_le (by simp; omega), List.nil_append]
  · rw [List.append_assoc, List.drop_append_of_le_length (by omega), List.drop_of_length_le (by omega), List.nil_append, List.take_append_of_le_length (by omega), List.take_of_length_le (by omega)]

theorem rI_pos {xs ys : List It} {f t : Int} {zs : List It} (h : (zs, true) = rI xs ys f t) : 1 ≤ zs.length := by
  unfold rI at h
  split at h
  · rename_i hr
    injection h with h _
    subst h
    simp only [rOk, Bool.and_eq_true] at hr
    have h6 := hr.2
    simp only [vItems, Bool.and_eq_true, inB_iff] at h6
    omega
  · injection h with _ h
    cases h

theorem equal_true {A B : Option Addr} {n m c d : Nat} {xs ys : List It} {w : World} (hx : Rd w 6 A n (items xs)) (hy : Rd w 6 B m (items ys)) (hn : n ≤ 1048576) (hnm : n = m) (e : xs = ys) :
    Calls Try.prog 25 #[.slice A n c, .slice B m d] w fun e w' => e = .returned (.bool true) ∧ ∃ q, w' = w.drewN q := by
  subst e
  subst hnm
  have h := equalItems_any A B n n c d xs xs w hx hy hn hn
  simpa using h

set_option maxHeartbeats 4000000 in
theorem FnReplaceItems_walk (w : World) (a0 : Option Addr) (n0 c0 : Nat) (x0 : List Int) (h0 : InBytes w a0 n0 c0 x0) :
    Calls Try.prog 8 #[.slice a0 n0 c0] w fun e w' => e = .returned (.bool true) ∧ Below w.heap.size w w' := by
  have HD := Lib.hid (DrawReplaceItems_any w a0 n0 c0 x0 h0)
  clear h0
  by_cases g0 : n0 ≤ 1048576
  case neg =>
    go_enter Try.func8, Try.ntmps8
    go_wp2
    go_ret
    exact ⟨rfl, Below.refl _ _⟩
  go_enter Try.func8, Try.ntmps8
  go_wp2_with fail
  refine HD.out.mono ?_
  rintro e w1 ⟨L, m, d, xs, f, t, L', m', d', ys, rfl, hm, hm', hmd, hmd', hx, hy, hf0, hf1, ht0, ht1, hB⟩
  have B1 := Lib.hid hB
  have X1 := Lib.hid hx
  have Y1 := Lib.hid hy
  have HLx := Lib.hid hx.item_len
  have HLy := Lib.hid hy.item_len
  clear hB hx hy HD
  obtain ⟨⟨zs, ok⟩, hz⟩ : ∃ p, p = rI xs ys f t := ⟨_, rfl⟩
  have HZ := Lib.hid hz
  clear hz
  go_wp2_with fail
  refine (implReplace_any L L' m m' d d' xs ys f t w1 X1.out Y1.out (by omega) (by omega) hmd hmd').mono ?_
  intro e w2 hres
  obtain ⟨A1, k1, c1, rfl, ho, hb⟩ := repl_ret HZ.out.symm hres
  have O2 := Lib.hid ho
  have B2 := Lib.hid hb
  clear hres ho hb
  go_wp2_with fail
  refine (specReplace_any L L' m m' d d' xs ys f t w2 (X1.out.below B2.out) (Y1.out.below B2.out) (by omega) (by omega) hmd hmd').mono ?_
  intro e w3 hres
  obtain ⟨A2, k2, c2, rfl, ho, hb⟩ := repl_ret HZ.out.symm hres
  have O3 := Lib.hid ho
  have B3 := Lib.hid hb
  have O2a := Lib.hid (own_below O2.out hb)
  have X3 := Lib.hid ((X1.out.below B2.out).below hb)
  have Y3 := Lib.hid ((Y1.out.below B2.out).below hb)
  have HB := Lib.hid (below_step (below_step B1.out B2.out) hb)
  clear hres ho hb
  have hlz := rI_len HZ.out
  have hk1 : k1 ≤ 1048576 := by have := (Rd.own O2.out).item_len; omega
  have hk2 : k2 ≤ 1048576 := by have := (Rd.own O3.out).item_len; omega
  cases ok
  · clear hlz
    go_wp2_with fail
    refine (equalItems_any A1 A2 k1 k2 c1 c2 zs zs w3 (Rd.own O2a.out) (Rd.own O3.out) hk1 hk2).mono ?_
    rintro e w4 ⟨rfl, hb⟩
    have B4 := Lib.hid (below_of_drew (B := w3.heap.size) hb); clear hb
    go_wp2_with fail
    refine (equalItems_any A1 A2 k1 k2 c1 c2 zs zs w4 (Rd.own (own_below O2a.out B4.out)) (Rd.own (own_below O3.out B4.out)) hk1 hk2).mono ?_
    rintro e w5 ⟨rfl, hb⟩
    have B5 := Lib.hid (below_of_drew (B := w4.heap.size) hb); clear hb
    go_wp2_with fail
    go_ret
    exact ⟨by first | rfl | simp, below_step (below_step HB.out B4.out) B5.out⟩
  have hpos := rI_pos HZ.out
  rw [(Rd.own O2.out).item_len] at hpos
  obtain ⟨f', t', rfl, rfl, hft, htn, hn60, hn1, hzs, hzl, _⟩ := rI_back (xs := xs) (ys := ys) (f := f) (t := t) (by rw [← HZ.out])
  rw [← HZ.out] at hzs
  have hzs' : zs = repl xs ys f' t' := hzs
  subst hzs'
  have hrl := repl_len (xs := xs) (ys := ys) (f := f') (t := t') hft htn
  have HP := Lib.hid (repl_parts (xs := xs) (ys := ys) (f := f') (t := t') hft htn)
  rw [HLy.out, HLx.out, (Rd.own O2.out).item_len] at hrl
  rw [HLy.out] at HP
  rw [HLx.out] at htn hn60 hn1
  have hkl : k1 = f' + m' + (m - t') := hrl
  have q1 : ((k1 : Int) == (m : Int) - ((t' : Int) - (f' : Int)) + (m' : Int)) = true := by simp; omega
  have hkf : f' + m' ≤ k1 := by omega
  have hkm : k1 - (f' + m') = m - t' := by omega
  have HKM := Lib.hid hkm
  clear hzs hlz hzl hrl hkl hkm
  go_wp2_with fail
  refine (equalItems_any A1 A2 k1 k2 c1 c2 _ _ w3 (Rd.own O2a.out) (Rd.own O3.out) hk1 hk2).mono ?_
  rintro e w4 ⟨rfl, hb⟩
  have B4 := Lib.hid (below_of_drew (B := w3.heap.size) hb); clear hb
  have X4 := Lib.hid (X3.out.below B4.out)
  have Y4 := Lib.hid (Y3.out.below B4.out)
  have O4 := Lib.hid (Rd.own (own_below O2a.out B4.out))
  have hkc : k1 ≤ c1 := own_slice0 O2.out
  obtain ⟨b, o, eL, _⟩ := X4.out.2 (by omega)
  subst eL
  obtain ⟨g, eA, _, _, _⟩ := own_addr O2.out (by omega)
  subst eA
  obtain ⟨P1, hP1⟩ : ∃ P, (if d = t' then some (⟨b, o, none⟩ : Addr) else some ⟨b, o + t' * 6, none⟩) = P := ⟨_, rfl⟩
  obtain ⟨P2, hP2⟩ : ∃ P, (if c1 = f' + m' then some (⟨g, 0, none⟩ : Addr) else some ⟨g, (f' + m') * 6, none⟩) = P := ⟨_, rfl⟩
  obtain ⟨P3, hP3⟩ : ∃ P, (if c1 = f' then some (⟨g, 0, none⟩ : Addr) else some ⟨g, f' * 6, none⟩) = P := ⟨_, rfl⟩
  have r1 := X4.out.cutI (k := t') (c := d) htn hmd
  have r2 := O4.out.cutI (k := f' + m') (c := c1) hkf hkc
  have r3 := (O4.out.cutI (k := f') (c := c1) (by omega) hkc).takeI (k := m') (by omega)
  have e1 : (if d = t' then some (⟨b, o, none⟩ : Addr) else (some (⟨b, o, none⟩ : Addr)).map (·.add (t' * 6))) = P1 := by rw [← hP1]; split <;> simp [Addr.add_lit]
  have e2 : (if c1 = f' + m' then some (⟨g, 0, none⟩ : Addr) else (some (⟨g, 0, none⟩ : Addr)).map (·.add ((f' + m') * 6))) = P2 := by rw [← hP2]; split <;> simp [Addr.add_lit]
  have e3 : (if c1 = f' then some (⟨g, 0, none⟩ : Addr) else (some (⟨g, 0, none⟩ : Addr)).map (·.add (f' * 6))) = P3 := by rw [← hP3]; split <;> simp [Addr.add_lit]
  rw [e1] at r1
  rw [e2] at r2
  rw [e3] at r3
  have Q1 := Lib.hid (fun q : Nat => equal_true (w := w4.drewN q) (c := c1) (d := d) (O4.out.takeI (k := f') (by omega)) (X4.out.takeI (k := f') (by omega)) (by omega) rfl HP.out.1)
  have Q2 := Lib.hid (fun q : Nat => equal_true (w := w4.drewN q) (c := c1 - (f' + m')) (d := d - t') r2 r1 (by omega) HKM.out HP.out.2.1)
  have Q3 := Lib.hid (fun q : Nat => equal_true (w := w4.drewN q) (c := c1 - f') (d := d') r3 Y4.out (by omega) rfl HP.out.2.2)
  clear e1 e2 e3 r1 r2 r3
  have p1 : (f' : Int) ≤ (t' : Int) := by omega
  have p2 : (t' : Int) ≤ (d : Int) := by omega
  have p3 : (0 : Int) ≤ (f' : Int) := by omega
  have p4 : (f' : Int) ≤ (c1 : Int) := by omega
  have p5 : (f' : Int) ≤ (d : Int) := by omega
  have p6 : (f' : Int) + (m' : Int) ≤ (k1 : Int) := by omega
  have p7 : (f' : Int) + (m' : Int) ≤ (c1 : Int) := by omega
  have p8 : (t' : Int) ≤ (m : Int) := by omega
  go_wp2_with fail
  have i1 : IntKind.i64.wrap ((m : Int) - ((t' : Int) - (f' : Int)) + (m' : Int) - (m : Int)) = (f' : Int) + (m' : Int) - (t' : Int) := by rw [IntWalk.i64_in _ (by omega)]; omega
  have i2 : IntKind.i64.wrap ((f' : Int) + (m' : Int) - (t' : Int) + (t' : Int)) = ((f' + m' : Nat) : Int) := by rw [IntWalk.i64_in _ (by omega)]; omega
  have i3 : IntKind.i64.wrap ((f' : Int) + (m' : Int)) = ((f' + m' : Nat) : Int) := by rw [IntWalk.i64_in _ (by omega)]; omega
  go_quiet ((first | (go_at_call_of 25 (Value.slice (some ⟨g, 0, none⟩) f' c1); exact Calls.quiet_of (Q1.out _)) | (go_at_call_of 25 (Value.slice P2 (k1 - (f' + m')) (c1 - (f' + m'))); exact Calls.quiet_of (Q2.out _)) | (go_at_call 25; exact Calls.quiet_of (Q3.out _))))
  all_goals
    clear i1 i2 i3 hP1 hP2 hP3
    go_wp2_with fail
    all_goals
      go_ret
      exact ⟨by first | rfl | simp, below_drewN' (below_step HB.out B4.out) _⟩
end Go.Proofs.Ytjkmjgjpkneckaa
