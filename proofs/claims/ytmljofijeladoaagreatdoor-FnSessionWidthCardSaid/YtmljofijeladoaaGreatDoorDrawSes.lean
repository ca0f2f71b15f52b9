/-
  Contract of the reference's generator of sessions.
-/
import Derived.Test.YtmljofijeladoaaGreatDoorDrawWords
import Derived.Test.YtmljofijeladoaaGreatDoorSesRunI
namespace Go.Proofs.YtmljofijeladoaaGreatDoor
open Go.RowKit
set_option linter.unusedVariables false

/-- Lines of a session, in new memory. -/
def LinesW (w : World) (e : Ending) (w' : World) : Prop :=
  ∃ L m d xs, e = .returned (.slice L m d) ∧ m ≤ 33 ∧ w'.ownsRow 0 9 1 (.slice L m d) m (strs' xs) ∧ (∀ s ∈ xs, s.size ≤ 1000) ∧ Below w.heap.size w w'

def SnR (w : World) (B g : Nat) (A : Option Addr) (n c : Nat) (bs : List Int) (v i : Value) (wr : World) : Prop :=
  ∃ (k m : Nat) (xs : List ByteArray) (p' : Nat), i = .int .i64 (k : Int) ∧ m + k ≤ 33 ∧ wr.ownsRow w.heap.size 9 1 v m (strs' xs) ∧ (∀ s ∈ xs, s.size ≤ 1000) ∧ p' + 200 * k ≤ 7000 ∧ RdrAt wr B g A n c bs p' ∧ w.grownBy wr (some g)
def SnI (wo : World) (mm : Nat) (v i : Value) (wr : World) : Prop := ∃ (j : Nat) (t : ByteArray), i = .int .i64 (j : Int) ∧ j ≤ mm ∧ v = .string t ∧ t.size ≤ 10 + 31 * j ∧ wo = wr
theorem mem_snocK {xs : List ByteArray} {x : ByteArray} (h : ∀ s ∈ xs, s.size ≤ 1000) (hx : x.size ≤ 1000) : ∀ s ∈ xs ++ [x], s.size ≤ 1000 := by
  intro s hs
  rcases List.mem_append.1 hs with h1 | h1
  · exact h s h1
  · obtain rfl := List.mem_singleton.1 h1
    exact hx
theorem of_small2 {t : ByteArray} (h : t ∈ ([⟨#[50, 48]⟩, ⟨#[50, 53]⟩, ⟨#[54, 48]⟩, ⟨#[49, 57]⟩, ⟨#[54, 49]⟩, ⟨#[120]⟩, ⟨#[48, 50, 48]⟩] : List ByteArray)) : t.size ≤ 5 := by
  simp only [List.mem_cons, List.not_mem_nil, or_false] at h
  rcases h with rfl | rfl | rfl | rfl | rfl | rfl | rfl <;> decide
theorem of_small3 {t : ByteArray} (h : t ∈ ([⟨#[102, 105, 108, 108]⟩, ⟨#[101, 110, 100, 115]⟩, ⟨#[99, 111, 115, 116]⟩, ⟨#[99, 111, 117, 110, 116]⟩, ⟨#[104, 101, 108, 112]⟩, ⟨#[]⟩, ⟨#[119, 111, 114, 100, 115]⟩] : List ByteArray)) : t.size ≤ 5 := by
  simp only [List.mem_cons, List.not_mem_nil, or_false] at h
  rcases h with rfl | rfl | rfl | rfl | rfl | rfl | rfl <;> decide

set_option maxHeartbeats 8000000 in
set_option maxRecDepth 8000 in
theorem drawSes_any (w : World) (a : Option Addr) (n c : Nat) (zs : List Int) (h : InBytes w a n c zs) :
    Calls Tryz.prog 6 #[.slice a n c] w (LinesW w) := by
  have HN := Lib.hid (newReader_any w a n c zs h)
  clear h
  go_enter Tryz.func6, Tryz.ntmps6
  go_wp2_with fail
  refine HN.out.mono ?_
  rintro e w1 ⟨A, rn, rc, bs, rfl, hR, hb⟩
  have hgs : w.heap.size < w1.heap.size := hR.blk.lt
  have B1 := Lib.hid hb
  have Ra := Lib.hid (hR.alloc (.cells #[] 9))
  have Oa := Lib.hid (str_nil w1)
  have Ga := Lib.hid (gr_alloc (World.grownBy.refl w1 (some w.heap.size)) (.cells #[] 9))
  have hn1 := one_lit (w1.alloc (.cells #[] 9)) w1.heap.size w.heap.size A rn rc bs 0 [0, 2, 5, 9, 33] _ 5 5 rfl Ra.out (by omega) rfl (by omega) (by omega) 3
  rw [World.size_alloc] at hn1
  have HN1 := Lib.hid hn1
  clear hn1 hR hb HN
  go_wp2_with fail
  refine HN1.out.mono ?_
  rintro e w2 ⟨v, rfl, hv, hR, hG⟩
  have hv2 : 0 ≤ v ∧ v ≤ 33 := by
    simp at hv
    omega
  obtain ⟨hv0, hv1⟩ := hv2
  obtain ⟨v0, rfl⟩ := Int.eq_ofNat_of_zero_le hv0
  have Rb := Lib.hid hR
  have Ob := Lib.hid (own_gr Oa.out hG hgs)
  have Gb := Lib.hid (gr_trans Ga.out hG)
  clear hR hG hv Ra Oa Ga HN1
  go_wp2_with fail
  go_loopw [4, 5] (SnR w1 w1.heap.size w.heap.size A rn rc bs) (fun _ i _ => (intOf i).toNat)
  case atStart => exact ⟨v0, 0, [], 1, rfl, by omega, Ob.out, (fun s hs => by cases hs), by omega, Rb.out, Gb.out⟩
  case round =>
    obtain ⟨k, m, xs, p', rfl, hmk, hown, hxs, hp', hR, hG⟩ := hrel
    have Rc := Lib.hid hR
    have Oc := Lib.hid hown
    have Gc := Lib.hid hG
    have XS := Lib.hid hxs
    clear hR hown hG hxs Rb Ob Gb
    obtain ⟨L, d, hsh, hmd⟩ := own_shape Oc.out
    subst hsh
    by_cases hk : 0 < k
    · have hk' : (0 : Int) < (k : Int) := by omega
      go_wp2_with fail
      refine (pick_gr _ w1.heap.size w.heap.size A rn rc bs p' 5 Rc.out (by omega) (by omega)).mono ?_
      rintro e w3 ⟨v, rfl, _, _, _, hR, hG⟩
      have Rd3 := Lib.hid hR
      have Od3 := Lib.hid (own_gr Oc.out hG hgs)
      have Gd3 := Lib.hid (gr_trans Gc.out hG)
      clear hR hG
      by_cases hv0 : v = 0
      · subst hv0
        go_wp2_with fail
        refine (someWords_any w3 w1.heap.size w.heap.size A rn rc bs (p' + 1) Rd3.out (by omega)).mono ?_
        rintro e w4 ⟨L2, mm, d2, ys, p4, rfl, hmm, hoy, hys, hp4, hR, hG⟩
        have Rd4 := Lib.hid hR
        have Od4 := Lib.hid (own_gr Od3.out hG hgs)
        have Gd4 := Lib.hid (gr_trans Gd3.out hG)
        have YS := Lib.hid hys
        have YR := Lib.hid (Rd.own hoy)
        have hz4 := (gr_trans Gd3.out hG).size
        clear hR hG hys hoy
        go_wp2_with fail
        go_loopw [6, 8] (SnI w4 mm) (fun _ i _ => mm - (intOf i).toNat)
        case atStart => exact ⟨0, _, rfl, Nat.zero_le _, rfl, by decide, rfl⟩
        case round =>
          obtain ⟨j, t, rfl, hj, rfl, ht, rfl⟩ := hrel
          by_cases hjl : j < mm
          · obtain ⟨b0, o0, s, rfl, es, hc⟩ := YR.out.str_at hjl
            have hs := YS.out s (List.mem_of_getElem? es)
            clear es
            have r1 : ∀ W : World, (Op.stringOp .add t ⟨#[32]⟩).run Tryz.prog W = .ok (.string (t ++ ⟨#[32]⟩)) W := sum_run _ _ (by omega) (by decide)
            have e1 : (t ++ (⟨#[32]⟩ : ByteArray)).size = t.size + 1 := sz_two _ _
            have r2 : ∀ W : World, (Op.stringOp .add (t ++ ⟨#[32]⟩) s).run Tryz.prog W = .ok (.string ((t ++ ⟨#[32]⟩) ++ s)) W := sum_run _ _ (by omega) (by omega)
            have HE1 := Lib.hid e1
            clear e1
            go_wp2_with fail
            go_roundw
            case rel => exact ⟨j + 1, _, by go_num, by omega, rfl, by rw [sz_two, HE1.out]; omega, rfl⟩
            case measure => simp [intOf] <;> omega
          · go_wp2_with (at_builtin; refine app_lit elemStr rfl _ _ rfl Od4.out _ _ [.string t] rfl rfl rfl (by simp [Value.oneCell']) (by omega) hz4 ?_; intro v5 w5 ho5 hg5)
            have HE := Lib.hid (rel_appS hgs (Nat.le_refl _) Od4.out Rd4.out Gd4.out ho5 hg5)
            clear ho5 hg5
            go_wp2_with fail
            go_roundw
            case rel => exact ⟨k - 1, m + 1, xs ++ [t], p4, by rw [show ((k - 1 : Nat) : Int) = (k : Int) - 1 from by omega], by omega, HE.out.1, mem_snocK XS.out (by omega), by omega, HE.out.2.1, HE.out.2.2⟩
            case measure => simp [intOf] <;> omega
      by_cases hv1 : v = 1
      · subst hv1
        clear hv0
        go_wp2_with fail
        refine (of_lit w3 w1.heap.size w.heap.size A rn rc bs (p' + 1) [⟨#[50, 48]⟩, ⟨#[50, 53]⟩, ⟨#[54, 48]⟩, ⟨#[49, 57]⟩, ⟨#[54, 49]⟩, ⟨#[120]⟩, ⟨#[48, 50, 48]⟩] _ 7 7 rfl Rd3.out (by omega) rfl (by omega) (by omega) _).mono ?_
        rintro e w4 ⟨t, rfl, ht, hR, hG⟩
        have hts := of_small2 ht
        have Rd4 := Lib.hid hR
        have Od4 := Lib.hid (own_gr Od3.out hG hgs)
        have Gd4 := Lib.hid (gr_trans Gd3.out hG)
        have hz4 := (gr_trans Gd3.out hG).size
        clear hR hG ht
        have r1 : ∀ W : World, (Op.stringOp .add ⟨#[119, 105, 100, 116, 104, 32]⟩ t).run Tryz.prog W = .ok (.string ((⟨#[119, 105, 100, 116, 104, 32]⟩ : ByteArray) ++ t)) W := sum_run _ _ (by decide) (by omega)
        have e1 : ((⟨#[119, 105, 100, 116, 104, 32]⟩ : ByteArray) ++ t).size = 6 + t.size := sz_two _ _
        obtain ⟨T, hT⟩ : ∃ T, T = (⟨#[119, 105, 100, 116, 104, 32]⟩ : ByteArray) ++ t := ⟨_, rfl⟩
        rw [← hT] at r1 e1
        have hTs : T.size ≤ 11 := by omega
        clear hT e1
        go_wp2_with (at_builtin; refine app_lit elemStr rfl _ _ rfl Od4.out _ _ [.string T] rfl rfl rfl (by simp [Value.oneCell']) (by omega) hz4 ?_; intro v5 w5 ho5 hg5)
        have HE := Lib.hid (rel_appS hgs (Nat.le_refl _) Od4.out Rd4.out Gd4.out ho5 hg5)
        clear ho5 hg5
        go_wp2_with fail
        go_roundw
        case rel => exact ⟨k - 1, m + 1, xs ++ [T], p' + 1 + 1, by rw [show ((k - 1 : Nat) : Int) = (k : Int) - 1 from by omega], by omega, HE.out.1, mem_snocK XS.out (by omega), by omega, HE.out.2.1, HE.out.2.2⟩
        case measure => simp [intOf] <;> omega
      have hv0' : (v == 0) = false := by simpa using hv0
      have hv1' : (v == 1) = false := by simpa using hv1
      clear hv0 hv1
      go_wp2_with fail
      refine (of_lit w3 w1.heap.size w.heap.size A rn rc bs (p' + 1) [⟨#[102, 105, 108, 108]⟩, ⟨#[101, 110, 100, 115]⟩, ⟨#[99, 111, 115, 116]⟩, ⟨#[99, 111, 117, 110, 116]⟩, ⟨#[104, 101, 108, 112]⟩, ⟨#[]⟩, ⟨#[119, 111, 114, 100, 115]⟩] _ 7 7 rfl Rd3.out (by omega) rfl (by omega) (by omega) _).mono ?_
      rintro e w4 ⟨t, rfl, ht, hR, hG⟩
      have hts := of_small3 ht
      have Rd4 := Lib.hid hR
      have Od4 := Lib.hid (own_gr Od3.out hG hgs)
      have Gd4 := Lib.hid (gr_trans Gd3.out hG)
      have hz4 := (gr_trans Gd3.out hG).size
      clear hR hG ht
      go_wp2_with (at_builtin; refine app_lit elemStr rfl _ _ rfl Od4.out _ _ [.string t] rfl rfl rfl (by simp [Value.oneCell']) (by omega) hz4 ?_; intro v5 w5 ho5 hg5)
      have HE := Lib.hid (rel_appS hgs (Nat.le_refl _) Od4.out Rd4.out Gd4.out ho5 hg5)
      clear ho5 hg5
      go_wp2_with fail
      go_roundw
      case rel => exact ⟨k - 1, m + 1, xs ++ [t], p' + 1 + 1, by rw [show ((k - 1 : Nat) : Int) = (k : Int) - 1 from by omega], by omega, HE.out.1, mem_snocK XS.out (by omega), by omega, HE.out.2.1, HE.out.2.2⟩
      case measure => simp [intOf] <;> omega
    · obtain rfl : k = 0 := by omega
      go_wp2_with fail
      go_ret
      exact ⟨L, m, d, xs, rfl, by omega, own_base Oc.out (Nat.zero_le _), XS.out, below_gr B1.out Gc.out (Nat.le_refl _)⟩
end Go.Proofs.YtmljofijeladoaaGreatDoor
