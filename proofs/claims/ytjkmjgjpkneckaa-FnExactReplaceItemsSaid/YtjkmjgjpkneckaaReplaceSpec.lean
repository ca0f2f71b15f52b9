/-
  Contract of the reference's ReplaceItems.
-/
import Derived.Test.YtjkmjgjpkneckaaReplace
namespace Go.Proofs.Ytjkmjgjpkneckaa
open Go.RowKit
set_option linter.unusedVariables false

theorem its_nil (w : World) : (w.alloc (.cells #[] 58)).ownsRow w.heap.size 58 6 (.slice (some ⟨w.heap.size, 0, none⟩) 0 0) 0 (items []) :=
  ⟨by simp [items], .inr ⟨w.heap.size, 0, #[], rfl, Nat.le_refl _, heap_alloc_new w _, Nat.le_refl _, by unfold maxLen; omega, rfl, rfl⟩⟩

set_option maxHeartbeats 8000000 in
theorem specReplace_any (A B : Option Addr) (n m c d : Nat) (xs ys : List It) (f t : Int) (w : World) (hx : Rd w 6 A n (items xs)) (hy : Rd w 6 B m (items ys)) (hn : n ≤ 1048576) (hm : m ≤ 1048576) (hnc : n ≤ c) (hmd : m ≤ d) :
    Calls Try.prog 28 #[.slice A n c, .int .i64 f, .int .i64 t, .slice B m d] w (ReplRes w xs ys f t) := by
  have X := Lib.hid hx
  have Y := Lib.hid hy
  have HLx := Lib.hid hx.item_len
  have HLy := Lib.hid hy.item_len
  have V1 := Lib.hid (specItems_any A n c xs w hx hn)
  clear hx hy
  have bad (w1 : World) (hb : Below w.heap.size w w1) (h : rOk xs ys f t = false) : ReplRes w xs ys f t (.returned (.tuple #[.slice none 0 0, .bool false])) w1 := repl_no h hb
  have BAD := Lib.hid bad
  clear bad
  cases hv : vItems xs
  · have HR : Hid (rOk xs ys f t = false) := by show _ = _; rw [rOk, hv]; rfl
    rw [hv] at V1
    clear hv
    go_enter Try.func28, Try.ntmps28
    go_wp2_with (go_at_call 39; refine V1.out.mono ?_; rintro e w1 ⟨rfl, hb⟩; have B1 := Lib.hid hb; clear hb)
    go_ret2
    exact BAD.out _ B1.out HR.out
  have HV := Lib.hid hv
  rw [hv] at V1
  clear hv
  by_cases h1 : f < 0
  · have HR : Hid (rOk xs ys f t = false) := by show _ = _; rw [rOk, HV.out, decide_eq_false (show ¬ 0 ≤ f from by omega)]; rfl
    go_enter Try.func28, Try.ntmps28
    go_wp2_with (go_at_call 39; refine V1.out.mono ?_; rintro e w1 ⟨rfl, hb⟩; have B1 := Lib.hid hb; clear hb)
    go_ret2
    exact BAD.out _ B1.out HR.out
  by_cases h2 : t < f
  · have HR : Hid (rOk xs ys f t = false) := by show _ = _; rw [rOk, HV.out, decide_eq_false (show ¬ f ≤ t from by omega)]; simp
    go_enter Try.func28, Try.ntmps28
    go_wp2_with (go_at_call 39; refine V1.out.mono ?_; rintro e w1 ⟨rfl, hb⟩; have B1 := Lib.hid hb; clear hb)
    go_ret2
    exact BAD.out _ B1.out HR.out
  by_cases h3 : (n : Int) < t
  · have HR : Hid (rOk xs ys f t = false) := by show _ = _; rw [rOk, HV.out, HLx.out, decide_eq_false (show ¬ t ≤ (n : Int) from by omega)]; simp
    go_enter Try.func28, Try.ntmps28
    go_wp2_with (go_at_call 39; refine V1.out.mono ?_; rintro e w1 ⟨rfl, hb⟩; have B1 := Lib.hid hb; clear hb)
    go_ret2
    exact BAD.out _ B1.out HR.out
  by_cases h3 : (60 : Int) < (m : Int)
  · have HR : Hid (rOk xs ys f t = false) := by show _ = _; rw [rOk, HV.out, HLy.out, decide_eq_false (show ¬ m ≤ 60 from by omega)]; simp
    go_enter Try.func28, Try.ntmps28
    go_wp2_with (go_at_call 39; refine V1.out.mono ?_; rintro e w1 ⟨rfl, hb⟩; have B1 := Lib.hid hb; clear hb)
    go_ret2
    exact BAD.out _ B1.out HR.out
  have hw60 : n ≤ 60 := by
    have h := HV.out
    simp only [vItems, Bool.and_eq_true, inB_iff] at h
    have := h.1.1
    have := HLx.out
    omega
  obtain ⟨f, rfl⟩ := Int.eq_ofNat_of_zero_le (show 0 ≤ f by omega)
  obtain ⟨t, rfl⟩ := Int.eq_ofNat_of_zero_le (show 0 ≤ t by omega)
  have hft : f ≤ t := by omega
  have htn : t ≤ n := by omega
  have hm60 : m ≤ 60 := by omega
  obtain ⟨b, o, rfl, _⟩ : ∃ b o, A = some ⟨b, o, none⟩ ∧ True := by
    have h := HV.out
    simp only [vItems, Bool.and_eq_true, inB_iff] at h
    have h1 := h.1.1
    have := HLx.out
    obtain ⟨b, o, e, _⟩ := X.out.2 (by omega)
    exact ⟨b, o, e, trivial⟩
  have h5 : (f : Int) ≤ (c : Int) := by omega
  have h6 : (t : Int) ≤ (n : Int) := by omega
  have h7 : (n : Int) ≤ (c : Int) := by omega
  have h8 : (0 : Int) ≤ (f : Int) := by omega
  have h9 : (0 : Int) ≤ (t : Int) := by omega
  have hrl := repl_len (xs := xs) (ys := ys) (f := f) (t := t) hft (by rw [HLx.out]; exact htn)
  rw [HLy.out, HLx.out] at hrl
  have HRL := Lib.hid hrl
  clear hrl
  have P1 : Hid (∀ w1, Below w.heap.size w w1 → Rd w1 6 (some ⟨b, o, none⟩) f (items (xs.take f))) := fun w1 hb => (X.out.below hb).takeI (by omega)
  have P2 : Hid (∀ w1, Below w.heap.size w w1 → Rd w1 6 B m (items ys)) := fun w1 hb => Y.out.below hb
  rcases Nat.lt_or_ge t c with hct | hct
  ·
    have hne : ¬ c = t := by omega
    have P3 : Hid (∀ w1, Below w.heap.size w w1 → Rd w1 6 (some ⟨b, o + t * 6, none⟩) (n - t) (items (xs.drop t))) := fun w1 hb => by
      have h := (X.out.below hb).cutI (k := t) (c := c) htn hnc
      rw [if_neg hne] at h
      simpa [Addr.add_lit] using h
    cases hvr : vItems (repl xs ys f t)
    · have HR : Hid (rOk xs ys f t = false) := by show _ = _; rw [rOk, hvr]; simp
      have HVR := Lib.hid hvr
      clear hvr
      go_enter Try.func28, Try.ntmps28
      go_wp2_with (first
        | (go_at_call_of 39 (Value.slice (some ⟨b, o, none⟩) n c)
           refine V1.out.mono ?_
           rintro e w1 ⟨rfl, hb⟩
           have B1 := Lib.hid hb
           have BA := Lib.hid (hb.alloc hb.size (.cells #[] 58))
           have ON := Lib.hid (its_nil w1)
           have z1 : w.heap.size ≤ w1.heap.size := hb.size
           clear hb)
        | (at_builtin
           refine app_rd elemItem rfl (.tmp 34) (.tmp 37) rfl ON.out _ (P1.out _ BA.out) rfl rfl (items_cells _) (by omega) (by simp) ?_
           intro v2 w2 ho hg
           have hb2 : Below w1.heap.size w1 w2 := below_app ((Below.refl _ _).alloc (Nat.le_refl _) (.cells #[] 58)) hg ON.out (Nat.le_refl _)
           have B2 := Lib.hid hb2
           have B2w := Lib.hid (below_step B1.out hb2)
           have z2 : w1.heap.size ≤ w2.heap.size := hb2.size
           have O2 := Lib.hid ho
           clear ho hg hb2)
        | (at_builtin
           refine app_rd elemItem rfl (.tmp 39) (.tmp 40) rfl O2.out _ (P2.out _ B2w.out) rfl rfl (items_cells _) (by omega) z2 ?_
           intro v3 w3 ho hg
           have hb3 : Below w1.heap.size w1 w3 := below_app B2.out hg O2.out (Nat.le_refl _)
           have B3 := Lib.hid hb3
           have B3w := Lib.hid (below_step B1.out hb3)
           have z3 : w1.heap.size ≤ w3.heap.size := hb3.size
           have O3 := Lib.hid ho
           clear ho hg hb3)
        | (at_builtin
           refine app_rd elemItem rfl (.tmp 42) (.tmp 45) rfl O3.out _ (P3.out _ B3w.out) rfl rfl (items_cells _) (by omega) z3 ?_
           intro v4 w4 ho hg
           have hb4 : Below w1.heap.size w1 w4 := below_app B3.out hg O3.out (Nat.le_refl _)
           have B4 := Lib.hid (below_step B1.out hb4)
           have O4 : Hid (w4.ownsRow w.heap.size 58 6 v4 (repl xs ys f t).length (items (repl xs ys f t))) := by
             show World.ownsRow _ _ _ _ _ _ _
             rw [HRL.out]
             have h := own_base ho z1
             simpa [repl, items_append, items] using h
           obtain ⟨Av, cv, ev, hkc⟩ := own_shape O4.out
           subst ev
           have hrb : (repl xs ys f t).length ≤ 1048576 := by rw [HRL.out]; omega
           have V2 := Lib.hid (specItems_any Av _ cv (repl xs ys f t) w4 (Rd.own O4.out) hrb)
           rw [HVR.out] at V2
           clear ho hg hb4)
        | (go_at_call 39
           refine V2.out.mono ?_
           rintro e w5 ⟨rfl, hb⟩
           have O5 := Lib.hid (own_below O4.out hb)
           have B5 := Lib.hid (below_step B4.out hb)
           clear hb))
      go_ret2
      exact BAD.out _ B5.out HR.out
    · have HR : Hid (rOk xs ys f t = true) := by show _ = _; rw [rOk, hvr, HV.out, HLx.out, HLy.out, decide_eq_true h8, decide_eq_true (show (f : Int) ≤ (t : Int) by omega), decide_eq_true h6, decide_eq_true hm60]; rfl
      have HVR := Lib.hid hvr
      clear hvr
      go_enter Try.func28, Try.ntmps28
      go_wp2_with (first
        | (go_at_call_of 39 (Value.slice (some ⟨b, o, none⟩) n c)
           refine V1.out.mono ?_
           rintro e w1 ⟨rfl, hb⟩
           have B1 := Lib.hid hb
           have BA := Lib.hid (hb.alloc hb.size (.cells #[] 58))
           have ON := Lib.hid (its_nil w1)
           have z1 : w.heap.size ≤ w1.heap.size := hb.size
           clear hb)
        | (at_builtin
           refine app_rd elemItem rfl (.tmp 34) (.tmp 37) rfl ON.out _ (P1.out _ BA.out) rfl rfl (items_cells _) (by omega) (by simp) ?_
           intro v2 w2 ho hg
           have hb2 : Below w1.heap.size w1 w2 := below_app ((Below.refl _ _).alloc (Nat.le_refl _) (.cells #[] 58)) hg ON.out (Nat.le_refl _)
           have B2 := Lib.hid hb2
           have B2w := Lib.hid (below_step B1.out hb2)
           have z2 : w1.heap.size ≤ w2.heap.size := hb2.size
           have O2 := Lib.hid ho
           clear ho hg hb2)
        | (at_builtin
           refine app_rd elemItem rfl (.tmp 39) (.tmp 40) rfl O2.out _ (P2.out _ B2w.out) rfl rfl (items_cells _) (by omega) z2 ?_
           intro v3 w3 ho hg
           have hb3 : Below w1.heap.size w1 w3 := below_app B2.out hg O2.out (Nat.le_refl _)
           have B3 := Lib.hid hb3
           have B3w := Lib.hid (below_step B1.out hb3)
           have z3 : w1.heap.size ≤ w3.heap.size := hb3.size
           have O3 := Lib.hid ho
           clear ho hg hb3)
        | (at_builtin
           refine app_rd elemItem rfl (.tmp 42) (.tmp 45) rfl O3.out _ (P3.out _ B3w.out) rfl rfl (items_cells _) (by omega) z3 ?_
           intro v4 w4 ho hg
           have hb4 : Below w1.heap.size w1 w4 := below_app B3.out hg O3.out (Nat.le_refl _)
           have B4 := Lib.hid (below_step B1.out hb4)
           have O4 : Hid (w4.ownsRow w.heap.size 58 6 v4 (repl xs ys f t).length (items (repl xs ys f t))) := by
             show World.ownsRow _ _ _ _ _ _ _
             rw [HRL.out]
             have h := own_base ho z1
             simpa [repl, items_append, items] using h
           obtain ⟨Av, cv, ev, hkc⟩ := own_shape O4.out
           subst ev
           have hrb : (repl xs ys f t).length ≤ 1048576 := by rw [HRL.out]; omega
           have V2 := Lib.hid (specItems_any Av _ cv (repl xs ys f t) w4 (Rd.own O4.out) hrb)
           rw [HVR.out] at V2
           clear ho hg hb4)
        | (go_at_call 39
           refine V2.out.mono ?_
           rintro e w5 ⟨rfl, hb⟩
           have O5 := Lib.hid (own_below O4.out hb)
           have B5 := Lib.hid (below_step B4.out hb)
           clear hb))
      go_ret2
      exact repl_yes HR.out O5.out B5.out
  ·
    have hte : c = t := by omega
    have hne : n = t := by omega
    have P3 : Hid (∀ w1, Below w.heap.size w w1 → Rd w1 6 (some ⟨b, o, none⟩) 0 (items (xs.drop t))) := fun w1 hb => by
      have h := (X.out.below hb).cutI (k := t) (c := c) htn hnc
      rw [if_pos hte, show n - t = 0 from by omega] at h
      exact h
    subst hte
    subst hne
    cases hvr : vItems (repl xs ys f n)
    · have HR : Hid (rOk xs ys f n = false) := by show _ = _; rw [rOk, hvr]; simp
      have HVR := Lib.hid hvr
      clear hvr
      go_enter Try.func28, Try.ntmps28
      go_wp2_with (first
        | (go_at_call_of 39 (Value.slice (some ⟨b, o, none⟩) n n)
           refine V1.out.mono ?_
           rintro e w1 ⟨rfl, hb⟩
           have B1 := Lib.hid hb
           have BA := Lib.hid (hb.alloc hb.size (.cells #[] 58))
           have ON := Lib.hid (its_nil w1)
           have z1 : w.heap.size ≤ w1.heap.size := hb.size
           clear hb)
        | (at_builtin
           refine app_rd elemItem rfl (.tmp 34) (.tmp 37) rfl ON.out _ (P1.out _ BA.out) rfl rfl (items_cells _) (by omega) (by simp) ?_
           intro v2 w2 ho hg
           have hb2 : Below w1.heap.size w1 w2 := below_app ((Below.refl _ _).alloc (Nat.le_refl _) (.cells #[] 58)) hg ON.out (Nat.le_refl _)
           have B2 := Lib.hid hb2
           have B2w := Lib.hid (below_step B1.out hb2)
           have z2 : w1.heap.size ≤ w2.heap.size := hb2.size
           have O2 := Lib.hid ho
           clear ho hg hb2)
        | (at_builtin
           refine app_rd elemItem rfl (.tmp 39) (.tmp 40) rfl O2.out _ (P2.out _ B2w.out) rfl rfl (items_cells _) (by omega) z2 ?_
           intro v3 w3 ho hg
           have hb3 : Below w1.heap.size w1 w3 := below_app B2.out hg O2.out (Nat.le_refl _)
           have B3 := Lib.hid hb3
           have B3w := Lib.hid (below_step B1.out hb3)
           have z3 : w1.heap.size ≤ w3.heap.size := hb3.size
           have O3 := Lib.hid ho
           clear ho hg hb3)
        | (at_builtin
           refine app_rd elemItem rfl (.tmp 42) (.tmp 45) rfl O3.out _ (P3.out _ B3w.out) rfl rfl (items_cells _) (by omega) z3 ?_
           intro v4 w4 ho hg
           have hb4 : Below w1.heap.size w1 w4 := below_app B3.out hg O3.out (Nat.le_refl _)
           have B4 := Lib.hid (below_step B1.out hb4)
           have O4 : Hid (w4.ownsRow w.heap.size 58 6 v4 (repl xs ys f n).length (items (repl xs ys f n))) := by
             show World.ownsRow _ _ _ _ _ _ _
             rw [HRL.out]
             have h := own_base ho z1
             simpa [repl, items_append, items] using h
           obtain ⟨Av, cv, ev, hkc⟩ := own_shape O4.out
           subst ev
           have hrb : (repl xs ys f n).length ≤ 1048576 := by rw [HRL.out]; omega
           have V2 := Lib.hid (specItems_any Av _ cv (repl xs ys f n) w4 (Rd.own O4.out) hrb)
           rw [HVR.out] at V2
           clear ho hg hb4)
        | (go_at_call 39
           refine V2.out.mono ?_
           rintro e w5 ⟨rfl, hb⟩
           have O5 := Lib.hid (own_below O4.out hb)
           have B5 := Lib.hid (below_step B4.out hb)
           clear hb))
      go_ret2
      exact BAD.out _ B5.out HR.out
    · have HR : Hid (rOk xs ys f n = true) := by show _ = _; rw [rOk, hvr, HV.out, HLx.out, HLy.out, decide_eq_true h8, decide_eq_true (show (f : Int) ≤ (n : Int) by omega), decide_eq_true h6, decide_eq_true hm60]; rfl
      have HVR := Lib.hid hvr
      clear hvr
      go_enter Try.func28, Try.ntmps28
      go_wp2_with (first
        | (go_at_call_of 39 (Value.slice (some ⟨b, o, none⟩) n n)
           refine V1.out.mono ?_
           rintro e w1 ⟨rfl, hb⟩
           have B1 := Lib.hid hb
           have BA := Lib.hid (hb.alloc hb.size (.cells #[] 58))
           have ON := Lib.hid (its_nil w1)
           have z1 : w.heap.size ≤ w1.heap.size := hb.size
           clear hb)
        | (at_builtin
           refine app_rd elemItem rfl (.tmp 34) (.tmp 37) rfl ON.out _ (P1.out _ BA.out) rfl rfl (items_cells _) (by omega) (by simp) ?_
           intro v2 w2 ho hg
           have hb2 : Below w1.heap.size w1 w2 := below_app ((Below.refl _ _).alloc (Nat.le_refl _) (.cells #[] 58)) hg ON.out (Nat.le_refl _)
           have B2 := Lib.hid hb2
           have B2w := Lib.hid (below_step B1.out hb2)
           have z2 : w1.heap.size ≤ w2.heap.size := hb2.size
           have O2 := Lib.hid ho
           clear ho hg hb2)
        | (at_builtin
           refine app_rd elemItem rfl (.tmp 39) (.tmp 40) rfl O2.out _ (P2.out _ B2w.out) rfl rfl (items_cells _) (by omega) z2 ?_
           intro v3 w3 ho hg
           have hb3 : Below w1.heap.size w1 w3 := below_app B2.out hg O2.out (Nat.le_refl _)
           have B3 := Lib.hid hb3
           have B3w := Lib.hid (below_step B1.out hb3)
           have z3 : w1.heap.size ≤ w3.heap.size := hb3.size
           have O3 := Lib.hid ho
           clear ho hg hb3)
        | (at_builtin
           refine app_rd elemItem rfl (.tmp 42) (.tmp 45) rfl O3.out _ (P3.out _ B3w.out) rfl rfl (items_cells _) (by omega) z3 ?_
           intro v4 w4 ho hg
           have hb4 : Below w1.heap.size w1 w4 := below_app B3.out hg O3.out (Nat.le_refl _)
           have B4 := Lib.hid (below_step B1.out hb4)
           have O4 : Hid (w4.ownsRow w.heap.size 58 6 v4 (repl xs ys f n).length (items (repl xs ys f n))) := by
             show World.ownsRow _ _ _ _ _ _ _
             rw [HRL.out]
             have h := own_base ho z1
             simpa [repl, items_append, items] using h
           obtain ⟨Av, cv, ev, hkc⟩ := own_shape O4.out
           subst ev
           have hrb : (repl xs ys f n).length ≤ 1048576 := by rw [HRL.out]; omega
           have V2 := Lib.hid (specItems_any Av _ cv (repl xs ys f n) w4 (Rd.own O4.out) hrb)
           rw [HVR.out] at V2
           clear ho hg hb4)
        | (go_at_call 39
           refine V2.out.mono ?_
           rintro e w5 ⟨rfl, hb⟩
           have O5 := Lib.hid (own_below O4.out hb)
           have B5 := Lib.hid (below_step B4.out hb)
           clear hb))
      go_ret2
      exact repl_yes HR.out O5.out B5.out
end Go.Proofs.Ytjkmjgjpkneckaa
