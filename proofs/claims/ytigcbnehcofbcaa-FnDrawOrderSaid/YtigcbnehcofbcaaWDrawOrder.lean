/-
  The walk of FnDrawOrder: texts that do not overlap may be drawn in the opposite order.
-/
import Derived.Test.YtigcbnehcofbcaaDrawRef
import Derived.Test.YtigcbnehcofbcaaDrawPlaced2
import Derived.Test.YtigcbnehcofbcaaOverlaps
namespace Go.Proofs.Ytigcbnehcofbcaa
open Go.RowKit
set_option linter.unusedVariables false

theorem putS_get {s t : ByteArray} {x : Nat} (h : x + t.size ≤ s.size) (j : Nat) : (putS s x t).data.toList[j]? = if x ≤ j ∧ j < x + t.size then t.data.toList[j - x]? else s.data.toList[j]? := by
  have h1 : s.data.toList.length = s.size := rfl
  have h2 : t.data.toList.length = t.size := rfl
  have h3 : (s.data.toList.take x).length = x := by rw [List.length_take]; omega
  rw [putS_list]
  by_cases c1 : j < x
  · rw [List.getElem?_append_left (by omega), List.getElem?_take, if_pos c1, if_neg (by omega)]
  · rw [List.getElem?_append_right (by omega), h3]
    by_cases c2 : j < x + t.size
    · rw [List.getElem?_append_left (by omega), if_pos ⟨by omega, c2⟩]
    · rw [List.getElem?_append_right (by omega), List.getElem?_drop, if_neg (by omega), h2]
      congr 1
      omega
theorem putS_swap {s t u : ByteArray} {x y : Nat} (hx : x + t.size ≤ s.size) (hy : y + u.size ≤ s.size) (h : x + t.size ≤ y ∨ y + u.size ≤ x) : putS (putS s x t) y u = putS (putS s y u) x t := by
  apply ByteArray.ext
  apply Array.toList_inj.1
  apply List.ext_getElem?
  intro j
  rw [putS_get (by rw [putS_size hx]; exact hy), putS_get hx, putS_get (by rw [putS_size hy]; exact hx), putS_get hy]
  by_cases c1 : y ≤ j ∧ j < y + u.size
  · rw [if_pos c1, if_neg (by omega), if_pos c1]
  · rw [if_neg c1]
    by_cases c2 : x ≤ j ∧ j < x + t.size
    · rw [if_pos c2, if_pos c2]
    · rw [if_neg c2, if_neg c2, if_neg c1]
theorem onRow_swap {w h : Int} {p q : Pl} {y : Nat} {s : ByteArray} (hp : vPl w h p = true) (hq : vPl w h q = true) (hs : (s.size : Int) = w) (hn : ¬ ovB p q) : onRow y (onRow y s p) q = onRow y (onRow y s q) p := by
  have h1 := vPl_parts hp
  have h2 := vPl_parts hq
  unfold onRow
  by_cases c1 : p.y = (y : Int)
  · by_cases c2 : q.y = (y : Int)
    · rw [if_pos c1, if_pos c1, if_pos c2, if_pos c2]
      refine putS_swap (by omega) (by omega) ?_
      have h3 : ¬ (p.x < q.x + q.t.size ∧ q.x < p.x + p.t.size) := fun h => hn ⟨by omega, h.1, h.2⟩
      omega
    · simp only [if_neg c2]
  · simp only [if_neg c1]
theorem fold_move {w h : Int} {y : Nat} {p : Pl} (hp : vPl w h p = true) : ∀ (l : List Pl) (s : ByteArray), (∀ q ∈ l, vPl w h q = true ∧ ¬ ovB p q) → (s.size : Int) = w → l.foldl (onRow y) (onRow y s p) = onRow y (l.foldl (onRow y) s) p
  | [], s, _, _ => rfl
  | q :: l, s, hl, hs => by
    have hq := hl q (by simp)
    rw [List.foldl_cons, List.foldl_cons, onRow_swap hp hq.1 hs hq.2]
    exact fold_move hp l _ (fun r hr => hl r (by simp [hr])) (by rw [onRow_size hq.1 hs]; exact hs)
theorem fold_back {w h : Int} {y : Nat} : ∀ (l : List Pl) (s : ByteArray), (∀ q ∈ l, vPl w h q = true) → l.Pairwise (fun p q => ¬ ovB p q) → (s.size : Int) = w → l.reverse.foldl (onRow y) s = l.foldl (onRow y) s
  | [], s, _, _, _ => rfl
  | p :: l, s, hl, hpw, hs => by
    rw [List.pairwise_cons] at hpw
    rw [List.reverse_cons, List.foldl_append, fold_back l s (fun q hq => hl q (by simp [hq])) hpw.2 hs]
    exact (fold_move (hl p (by simp)) l s (fun q hq => ⟨hl q (by simp [hq]), hpw.1 q hq⟩) hs).symm
/-- The picture of texts that do not overlap does not depend on their order. -/
theorem drawP_back {l : List Pl} {pw ph i k : Int} (h : OvSays l pw ph i k false) : drawP l.reverse pw ph = drawP l pw ph := by
  have hvr : vPlaced l.reverse pw ph = vPlaced l pw ph := by
    unfold vPlaced
    rw [List.length_reverse, List.all_reverse]
  rcases h with ⟨hv, h⟩ | ⟨hv, _⟩
  · rcases h with ⟨h, _⟩ | ⟨_, _, _, hno⟩
    · cases h
    have hvp := vPlaced_parts hv
    rw [drawP_good hv, drawP_good (by rw [hvr]; exact hv)]
    apply List.map_congr_left
    intro y _
    unfold rowP
    refine fold_back l _ hvp.2.2.2.2.2 ?_ (by rw [spB_size]; omega)
    rw [List.pairwise_iff_getElem]
    intro a b ha hb hab ho
    exact hno a b ⟨hab, l[a], l[b], List.getElem?_eq_getElem ha, List.getElem?_eq_getElem hb, ho⟩
  · rw [drawP_no (show ¬ vPlaced l.reverse pw ph = true by rw [hvr, hv]; simp), drawP_no (show ¬ vPlaced l pw ph = true by rw [hv]; simp)]
theorem ov_not2 {l : List Pl} {pw ph i k : Int} (h : OvSays l pw ph i k false) : i = -1 ∧ k = -1 := by
  rcases h with ⟨_, h⟩ | ⟨_, h1, h2, _⟩
  · rcases h with ⟨h, _⟩ | ⟨_, h1, h2, _⟩
    · cases h
    · exact ⟨h1, h2⟩
  · exact ⟨h1, h2⟩
def BkRel (w : World) (l : List Pl) (v i : Value) (wr : World) : Prop :=
  ∃ j m : Nat, j ≤ l.length ∧ m = l.length - j ∧ i = .int .i64 ((j : Int) - 1) ∧ wr.ownsRow w.heap.size 36 3 v m (placeds (l.drop j).reverse) ∧ Below w.heap.size w wr
theorem back_step {l : List Pl} {j : Nat} {p : Pl} (h : l[j]? = some p) : placeds (l.drop j).reverse = placeds (l.drop (j + 1)).reverse ++ p.cells := by
  rw [drop_of_get h, List.reverse_cons]
  unfold placeds
  rw [List.flatMap_append, List.flatMap_singleton]

set_option maxHeartbeats 8000000 in
theorem FnDrawOrder_walk (w : World) (a0 : Option Addr) (n0 c0 : Nat) (x0 : List Int) (h0 : InBytes w a0 n0 c0 x0) :
    Calls Try.prog 8 #[.slice a0 n0 c0] w fun e w' => e = .returned (.bool true) ∧ Below w.heap.size w w' := by
  have HD := Lib.hid (DrawOverlaps_any w a0 n0 c0 x0 h0)
  clear h0
  by_cases g0 : n0 ≤ 1048576
  case neg =>
    go_enter Try.func8, Try.ntmps8
    go_wp2
    go_ret
    exact ⟨rfl, Below.refl _ _⟩
  go_enter Try.func8, Try.ntmps8
  go_wp2_with fail
  refine HD.out.mono ?_
  rintro e w1 ⟨L, m, d, xs, pw, ph, rfl, hm, hmd, hx, hxs, hw0, hw1, hh0, hh1, hB⟩
  have X1 := Lib.hid hx
  have HL := Lib.hid hx.placed_len
  have XS : Hid (∀ p ∈ xs, p.t.size ≤ 1048576) := fun p hp => by have := hxs p hp; omega
  have B1 := Lib.hid hB
  clear hx hxs hB HD
  go_wp2_with fail
  refine (implOverlaps_any L m d xs w1 pw ph X1.out (by omega) XS.out).mono ?_
  rintro e w2 ⟨i, k, b, rfl, hs, hb⟩
  have S1 := Lib.hid hs
  have B2 := Lib.hid hb
  clear hs hb
  go_wp2_with fail
  refine (specOverlaps_any L m d xs w2 pw ph (X1.out.below B2.out) (by omega) XS.out).mono ?_
  rintro e w3 ⟨i', k', b', rfl, hs, hb⟩
  obtain ⟨rfl, rfl, rfl⟩ := OvSays.uniq hs S1.out
  have B3 := Lib.hid hb
  clear hs hb
  have hii : (i' != i') = false := by simp
  have hkk : (k' != k') = false := by simp
  have C3 := Lib.hid (below_step B1.out (below_step B2.out B3.out))
  cases b'
  case true =>
    have hie : (i' == i') = true := by simp
    have hke : (k' == k') = true := by simp
    go_wp2_with fail
    go_ret
    exact ⟨ret_bool (by simp), C3.out⟩
  have X3 := Lib.hid ((X1.out.below B2.out).below B3.out)
  have HB := Lib.hid (drawP_back S1.out)
  obtain ⟨V, hV⟩ : ∃ V, V = drawP xs pw ph := ⟨_, rfl⟩
  have hV60 : V.length ≤ 60 := by rw [hV]; exact drawP_bound.1
  rw [← hV] at HB
  have HV := Lib.hid hV
  have BS : Hid (Below w3.heap.size w3 (w3.alloc (.cells #[] 36))) := (Below.refl _ _).alloc (Nat.le_refl _) _
  clear hV
  go_wp2_with fail
  go_loopw [12, 13] (BkRel w3 xs) (fun _ i _ => (intOf i + 1).toNat)
  case atStart =>
    refine ⟨xs.length, 0, Nat.le_refl _, by omega, ?_, ?_, BS.out⟩
    · rw [HL.out]
    · exact ⟨by rw [List.drop_length]; rfl, .inr ⟨w3.heap.size, 0, #[], rfl, Nat.le_refl _, heap_alloc_new w3 _, Nat.le_refl _, by unfold maxLen; omega, rfl, by rw [List.drop_length]; rfl⟩⟩
  case round =>
    obtain ⟨j, r, hj, hr, rfl, hown, hbel⟩ := hrel
    obtain ⟨L5, d5, e5, hd5⟩ := own_shape hown
    subst e5
    have OW := Lib.hid hown
    have BW := Lib.hid hbel
    have hl4 : xs.length ≤ 4 := by rw [HL.out]; exact hm
    clear hown hbel
    by_cases hj0 : j = 0
    case pos =>
      subst hj0
      rw [List.drop_zero] at OW
      have hneg : ¬ (0 : Int) ≤ ((0 : Nat) : Int) - 1 := by omega
      have ZR : Hid (∀ p ∈ xs.reverse, p.t.size ≤ 1048576) := fun p hp => XS.out p (List.mem_reverse.1 hp)
      have CB := Lib.hid (implDraw_any L5 r d5 xs.reverse pw ph wr (Rd.own OW.out) (by omega) ZR.out)
      have CL := Lib.hid (fun w (h : Rd w 3 L m (placeds xs)) => implDraw_any L m d xs pw ph w h (by omega) XS.out)
      unfold DrRes at CB CL
      rw [HB.out] at CB
      rw [← HV.out] at CL
      clear hr
      go_wp2_with fail
      refine CB.out.mono ?_
      rintro e w4 ⟨Ag, kg, dg, rfl, ho, hb⟩
      have Og := Lib.hid ho
      have B4 := Lib.hid (BW.out.trans (hb.mono BW.out.size))
      have hkg : kg = V.length := by have h := (Rd.own ho).slen; omega
      subst hkg
      clear ho hb
      go_wp2_with fail
      refine (CL.out _ (X3.out.below B4.out)).mono ?_
      rintro e w5 ⟨Ah, kh, dh, rfl, ho, hb⟩
      have Oh := Lib.hid ho
      have hkh : kh = V.length := by have h := (Rd.own ho).slen; omega
      subst hkh
      have Og2 := Lib.hid (own_below Og.out hb)
      have B5 := Lib.hid (B4.out.trans (hb.mono B4.out.size))
      clear ho hb
      go_wp2_with fail
      refine (equalTexts_any Ag Ah V.length V.length dg dh V V _ (Rd.own Og2.out) (Rd.own Oh.out) (by omega) (by omega)).mono ?_
      rintro e w6 ⟨rfl, hb⟩
      have B6 := Lib.hid (below_of_drew (B := w5.heap.size) hb)
      clear hb
      go_wp2_with fail
      go_ret
      exact ⟨ret_bool (by simp), below_step C3.out (B5.out.trans (B6.out.mono B5.out.size))⟩
    obtain ⟨j1, rfl⟩ : ∃ j1, j = j1 + 1 := ⟨j - 1, by omega⟩
    have hj1 : ((j1 + 1 : Nat) : Int) - 1 = (j1 : Int) := by omega
    rw [hj1]
    obtain ⟨b, o, p, rfl, ep, hc0, hc1, hc2⟩ := (X3.out.below BW.out).placed_at (k := j1) (by rw [← HL.out]; omega)
    have HST := Lib.hid (back_step ep)
    have hjm : (j1 : Int) < (m : Int) := by have := HL.out; omega
    have hj00 : (0 : Int) ≤ (j1 : Int) := by omega
    have hsz : w3.heap.size ≤ wr.heap.size := BW.out.size
    clear ep hj1 hj0
    go_wp2_with (at_builtin; refine app_lit elemPlaced rfl _ _ rfl OW.out _ _ [.int .i64 p.x, .int .i64 p.y, .string p.t] rfl rfl rfl (by simp [Value.oneCell']) (by omega) hsz ?_; intro v2 w2 ho hg; have O4 := Lib.hid ho; have B4 := Lib.hid (below_app (BW.out.alloc hsz _) hg OW.out (Nat.le_refl _)); clear ho hg)
    go_roundw
    case rel => exact ⟨j1, r + 1, by omega, by omega, by go_num, by rw [HST.out]; exact O4.out, B4.out⟩
    case measure => simp [intOf] <;> omega
end Go.Proofs.Ytigcbnehcofbcaa
