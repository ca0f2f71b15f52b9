/-
  Contracts of FirstFit: the breaks of a paragraph one after the other, for the program and for the reference.
-/
import Derived.Test.YtjkmjgjpkneckaaFitBreak
import Derived.Test.YtjkmjgjpkneckaaInts
namespace Go.Proofs.Ytjkmjgjpkneckaa
open Go.RowKit
set_option linter.unusedVariables false

def FFRel (w : World) (xs : List It) (wd : Int) (vo vf : Value) (wr : World) : Prop :=
  ∃ (out : List Int) (s m : Nat) (f : Int), vf = .int .i64 f ∧ f + 1 = (s : Int) ∧ Left xs wd out s ∧ out.length = m ∧ wr.ownsRow w.heap.size 3 1 vo m (ints out) ∧ Below w.heap.size w wr

def MadeFF (w : World) (l : List Int) (e : Ending) (w' : World) : Prop := ∃ v, e = .returned v ∧ w'.ownsRow w.heap.size 3 1 v l.length (ints l) ∧ Below w.heap.size w w'

theorem own_nil' (w : World) (b : Nat) (E : TypeId) : w.ownsRow b E 1 (.slice none 0 0) 0 (ints []) := ⟨by simp [ints], .inl ⟨rfl, rfl⟩⟩

theorem own_ints {w : World} {b : Nat} {E : TypeId} {v : Value} {m : Nat} {out : List Int} {z : Int} (h : w.ownsRow b E 1 v (m + 1) (ints out ++ [.int .i64 z])) : w.ownsRow b E 1 v (m + 1) (ints (out ++ [z])) := by
  simpa [ints] using h

set_option maxHeartbeats 4000000 in
theorem firstFitImpl_any (A : Option Addr) (n c : Nat) (wd : Int) (xs : List It) (w : World) (hx : Rd w 6 A n (items xs)) (hv : vItems xs = true) (hnc : n ≤ c) (hw : inB 1 10000 wd = true) :
    Calls Try.prog 34 #[.slice A n c, .int .i64 wd] w (MadeFF w (FF xs wd)) := by
  have hl := hx.item_len
  have hp := vItems_parts hv
  have hn : n ≤ 60 := by omega
  have hn0 : 1 ≤ n := by omega
  have hw' := inB_iff.1 hw
  have RW := Lib.hid hw
  have HL := Lib.hid hl
  have V := Lib.hid hv
  have X := Lib.hid hx
  have VI := Lib.hid (implItems_any A n c xs w hx (by omega))
  rw [hv] at VI
  have FB := Lib.hid (fun w1 (s : Nat) (f : Int) (hb : Below w.heap.size w w1) (hs : s < n) (hf : f + 1 = (s : Int)) => fitBreakImpl_any A n c s f wd xs w1 (hx.below hb) hv hs hnc hf hw')
  clear hl hp hv hx hw
  go_enter Try.func34, Try.ntmps34
  go_wp2_with fail
  refine VI.out.mono ?_
  rintro e w1 ⟨rfl, hb⟩
  have B1 := Lib.hid hb
  clear hb
  go_wp2_with (go_at_call 50; refine (within_any _ _ _ _ RW.out _).mono ?_; rintro e w' ⟨rfl, rfl⟩)
  go_loopw [5, 6] (FFRel w xs wd) (fun _ i _ => n - (intOf i + 1).toNat)
  case atStart => exact ⟨[], 0, 0, -1, rfl, by omega, Left.start xs wd, rfl, own_nil' _ _ _, B1.out⟩
  case round =>
    obtain ⟨out, s, m, f, rfl, hf, hleft, hm, hown, hb⟩ := hrel
    have hsn : s ≤ n := by
      obtain ⟨k, _, _, h, _⟩ := hleft
      rw [HL.out] at h; exact h
    have hm60 : m ≤ n := by have := hleft.short; rw [HL.out, hm] at this; exact this
    have F := Lib.hid hf
    have LF := Lib.hid hleft
    have OW := Lib.hid hown
    have HB := Lib.hid hb
    have HM := Lib.hid hm
    have hf1 : -1 ≤ f := by omega
    have hf2 : f < 1000 := by omega
    clear hf hleft hown hb hm
    by_cases hlt : s < n
    · have hfn : f < (n : Int) - 1 := by have := F.out; omega
      have hends := bst_ends (wd := wd) V.out (s := s) (by rw [HL.out]; exact hlt)
      rw [HL.out] at hends
      have CB := Lib.hid (FB.out wr s f HB.out hlt F.out)
      obtain ⟨t, ht⟩ := Int.eq_ofNat_of_zero_le (show 0 ≤ bst xs wd s n by omega)
      rw [ht] at hends CB
      have HT : Hid (bst xs wd s xs.length = t) := by show _ = _; rw [HL.out]; exact ht
      clear ht
      have hst : s ≤ t := by omega
      have htn : t < n := by omega
      clear hends
      go_wp2_with fail
      refine CB.out.mono ?_
      rintro e w2 ⟨rfl, hb2⟩
      have B2 := Lib.hid (below_step HB.out hb2)
      have O2 := Lib.hid (own_below OW.out hb2)
      clear hb2
      obtain ⟨L, d, hs, hmd⟩ := own_shape O2.out
      subst hs
      have hsz := B2.out.size
      go_wp2_with (at_builtin; refine app_lit elemInt rfl _ _ rfl O2.out _ _ [.int .i64 t] rfl rfl rfl (by simp [Value.oneCell']) (by omega) hsz ?_; intro v3 w3 ho3 hg3)
      have O3 := Lib.hid (own_ints ho3)
      have B3 := Lib.hid (below_app (B2.out.alloc hsz _) hg3 O2.out (Nat.le_refl _))
      clear ho3 hg3
      go_wp2_with fail
      go_roundw
      case rel => exact ⟨out ++ [(t : Int)], t + 1, m + 1, (t : Int), rfl, by omega, LF.out.step V.out (by rw [HL.out]; exact hlt) HT.out, by simp [HM.out], O3.out, B3.out⟩
      case measure => have := F.out; simp [intOf] <;> omega
    · have hfn : ¬ f < (n : Int) - 1 := by have := F.out; omega
      have hd := LF.out.done (by rw [HL.out]; omega)
      obtain ⟨L, d, hs, hmd⟩ := own_shape OW.out
      subst hs
      have OF := Lib.hid OW.out
      have HE := Lib.hid hd
      clear hd
      go_wp2_with fail
      go_ret
      refine ⟨_, rfl, ?_, HB.out⟩
      rw [← HE.out, HM.out]
      exact OF.out
end Go.Proofs.Ytjkmjgjpkneckaa
