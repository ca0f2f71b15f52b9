/-
  Contract of the reference's DecodeItem.
-/
import Derived.Test.YtmnmdecbehfegaaDoorTxtDecI
namespace Go.Proofs.YtmnmdecbehfegaaDoor
open Go.RowKit
set_option linter.unusedVariables false

theorem decI_invalid {s : ByteArray} {x : It} (h : ∀ y, vIt y = true → itxt y = s.data.toList → x = y) (hv : vIt x = false) : decI s.data.toList = (⟨0, 0, 0, 0, 0, false⟩, false) := by
  rw [decI_of h, if_neg]
  rintro ⟨h1, _⟩
  rw [hv] at h1; cases h1
theorem decI_same {s : ByteArray} {x : It} (h : ∀ y, vIt y = true → itxt y = s.data.toList → x = y) (hv : vIt x = true) (he : itxtB x = s) : decI s.data.toList = (x, true) := by
  rw [decI_of h, if_pos ⟨hv, by rw [← he]; rfl⟩]
theorem decI_other {s : ByteArray} {x : It} (h : ∀ y, vIt y = true → itxt y = s.data.toList → x = y) (he : ¬ itxtB x = s) : decI s.data.toList = (⟨0, 0, 0, 0, 0, false⟩, false) := by
  rw [decI_of h, if_neg]
  rintro ⟨_, e⟩
  exact he (ba_ext e)

set_option maxHeartbeats 8000000 in
set_option maxRecDepth 8000 in
theorem decSpec_any (s : ByteArray) (w : World) (hs : s.size ≤ 4000000000) :
    Calls Tryd.prog 21 #[.string s] w (ReadIs w (decI s.data.toList)) := by
  have PA := Lib.hid (fun w1 => parseItem_any s w1 (by omega))
  have RI := Lib.hid (pItem_of (s := s))
  obtain ⟨x, hx⟩ : ∃ x, x = pItem s := ⟨_, rfl⟩
  rw [← hx] at PA RI
  clear hx
  have VI := Lib.hid (fun w1 => specItem_any x w1)
  cases hv : vIt x
  · have DE := Lib.hid (decI_invalid RI.out hv)
    rw [hv] at VI
    clear hv RI
    obtain ⟨k, a, b, c, p, f⟩ := x
    unfold ItemIs at PA
    simp only at PA VI
    go_enter Tryd.func21, Tryd.ntmps21
    go_wp2_with fail
    refine (PA.out _).mono ?_
    rintro e w1 ⟨rfl, hb1⟩
    obtain ⟨hk1, hb1'⟩ := box_at hb1
    have K1 := Lib.hid hk1
    have B1 := Lib.hid hb1'
    clear hb1 hk1 hb1'
    go_wp2_with fail
    refine (VI.out _).mono ?_
    rintro e w3 ⟨rfl, hb3⟩
    obtain ⟨hx3, hb3'⟩ := box_at hb3
    have hk3 := K1.out.belowE hb3'
    have B3 := Lib.hid (below_step B1.out hb3')
    have u0 := hx3.cell 0
    have u1 := hx3.cell 1
    have u2 := hx3.cell 2
    have u3 := hx3.cell 3
    have u4 := hx3.cell 4
    have u5 := hx3.cell 5
    have y0 := hk3.cell 0
    have zy0 := hk3.free 0
    have y1 := hk3.cell 1
    have zy1 := hk3.free 1
    have y2 := hk3.cell 2
    have zy2 := hk3.free 2
    have y3 := hk3.cell 3
    have zy3 := hk3.free 3
    have y4 := hk3.cell 4
    have zy4 := hk3.free 4
    have y5 := hk3.cell 5
    have zy5 := hk3.free 5
    simp only [List.getElem?_toArray, List.getElem?_cons_zero, List.getElem?_cons_succ] at u0 u1 u2 u3 u4 u5 y0 y1 y2 y3 y4 y5
    clear hb3 hb3' hx3 hk3
    go_wp2_with fail
    refine bodyPost_ret (v := .tuple #[.agg #[.int .i64 0, .int .i64 0, .int .i64 0, .int .i64 0, .int .i64 0, .bool false], .bool false]) ?_ rfl ⟨by rw [DE.out], ?_⟩
    · simp only [results, Tryd.results21]
      go_simp
    · repeat (first | (with_reducible exact B3.out) | refine Below.setCell ?_ (by simp <;> omega) _)
  rw [hv] at VI
  have FM := Lib.hid (fun w1 => fmtSpec_any x hv w1)
  by_cases he : itxtB x = s
  · have DE := Lib.hid (decI_same RI.out hv he)
    have cm : ((itxtB x).toList == s.toList) = true := str_same he
    have cm2 : (s.toList == (itxtB x).toList) = true := str_same he.symm
    clear he hv RI
    obtain ⟨E, hE⟩ : ∃ E, E = itxtB x := ⟨_, rfl⟩
    rw [← hE] at cm cm2 FM
    clear hE
    obtain ⟨k, a, b, c, p, f⟩ := x
    unfold ItemIs at PA
    simp only at PA VI FM
    go_enter Tryd.func21, Tryd.ntmps21
    go_wp2_with fail
    refine (PA.out _).mono ?_
    rintro e w1 ⟨rfl, hb1⟩
    obtain ⟨hk1, hb1'⟩ := box_at hb1
    have K1 := Lib.hid hk1
    have B1 := Lib.hid hb1'
    clear hb1 hk1 hb1'
    go_wp2_with fail
    refine (VI.out _).mono ?_
    rintro e w3 ⟨rfl, hb3⟩
    obtain ⟨hx3, hb3'⟩ := box_at hb3
    have K3 := Lib.hid (K1.out.belowE hb3')
    have X3 := Lib.hid hx3
    have B3 := Lib.hid (below_step B1.out hb3')
    have u0 := hx3.cell 0
    have u1 := hx3.cell 1
    have u2 := hx3.cell 2
    have u3 := hx3.cell 3
    have u4 := hx3.cell 4
    have u5 := hx3.cell 5
    simp only [List.getElem?_toArray, List.getElem?_cons_zero, List.getElem?_cons_succ] at u0 u1 u2 u3 u4 u5
    clear hb3 hb3' hx3
    go_wp2_with fail
    refine (FM.out _).mono ?_
    rintro e w4 ⟨rfl, hb4⟩
    have hx4 := X3.out.belowE hb4
    have hk4 := K3.out.belowE hb4
    have B4 := Lib.hid (below_step B3.out hb4)
    clear u0 u1 u2 u3 u4 u5
    have u0 := hx4.cell 0
    have u1 := hx4.cell 1
    have u2 := hx4.cell 2
    have u3 := hx4.cell 3
    have u4 := hx4.cell 4
    have u5 := hx4.cell 5
    have y0 := hk4.cell 0
    have zy0 := hk4.free 0
    have y1 := hk4.cell 1
    have zy1 := hk4.free 1
    have y2 := hk4.cell 2
    have zy2 := hk4.free 2
    have y3 := hk4.cell 3
    have zy3 := hk4.free 3
    have y4 := hk4.cell 4
    have zy4 := hk4.free 4
    have y5 := hk4.cell 5
    have zy5 := hk4.free 5
    simp only [List.getElem?_toArray, List.getElem?_cons_zero, List.getElem?_cons_succ] at u0 u1 u2 u3 u4 u5 y0 y1 y2 y3 y4 y5
    clear hb4 hx4 hk4
    go_wp2_with fail
    refine bodyPost_ret (v := .tuple #[.agg #[.int .i64 k, .int .i64 a, .int .i64 b, .int .i64 c, .int .i64 p, .bool f], .bool true]) ?_ rfl ⟨by rw [DE.out], ?_⟩
    · simp only [results, Tryd.results21]
      go_simp
    · repeat (first | (with_reducible exact B4.out) | refine Below.setCell ?_ (by simp <;> omega) _)
  · have DE := Lib.hid (decI_other RI.out he)
    have cm : ((itxtB x).toList == s.toList) = false := str_parts he
    have cm2 : (s.toList == (itxtB x).toList) = false := str_parts (fun h => he h.symm)
    clear he hv RI
    obtain ⟨E, hE⟩ : ∃ E, E = itxtB x := ⟨_, rfl⟩
    rw [← hE] at cm cm2 FM
    clear hE
    obtain ⟨k, a, b, c, p, f⟩ := x
    unfold ItemIs at PA
    simp only at PA VI FM
    go_enter Tryd.func21, Tryd.ntmps21
    go_wp2_with fail
    refine (PA.out _).mono ?_
    rintro e w1 ⟨rfl, hb1⟩
    obtain ⟨hk1, hb1'⟩ := box_at hb1
    have K1 := Lib.hid hk1
    have B1 := Lib.hid hb1'
    clear hb1 hk1 hb1'
    go_wp2_with fail
    refine (VI.out _).mono ?_
    rintro e w3 ⟨rfl, hb3⟩
    obtain ⟨hx3, hb3'⟩ := box_at hb3
    have K3 := Lib.hid (K1.out.belowE hb3')
    have X3 := Lib.hid hx3
    have B3 := Lib.hid (below_step B1.out hb3')
    have u0 := hx3.cell 0
    have u1 := hx3.cell 1
    have u2 := hx3.cell 2
    have u3 := hx3.cell 3
    have u4 := hx3.cell 4
    have u5 := hx3.cell 5
    simp only [List.getElem?_toArray, List.getElem?_cons_zero, List.getElem?_cons_succ] at u0 u1 u2 u3 u4 u5
    clear hb3 hb3' hx3
    go_wp2_with fail
    refine (FM.out _).mono ?_
    rintro e w4 ⟨rfl, hb4⟩
    have hx4 := X3.out.belowE hb4
    have hk4 := K3.out.belowE hb4
    have B4 := Lib.hid (below_step B3.out hb4)
    clear u0 u1 u2 u3 u4 u5
    have u0 := hx4.cell 0
    have u1 := hx4.cell 1
    have u2 := hx4.cell 2
    have u3 := hx4.cell 3
    have u4 := hx4.cell 4
    have u5 := hx4.cell 5
    have y0 := hk4.cell 0
    have zy0 := hk4.free 0
    have y1 := hk4.cell 1
    have zy1 := hk4.free 1
    have y2 := hk4.cell 2
    have zy2 := hk4.free 2
    have y3 := hk4.cell 3
    have zy3 := hk4.free 3
    have y4 := hk4.cell 4
    have zy4 := hk4.free 4
    have y5 := hk4.cell 5
    have zy5 := hk4.free 5
    simp only [List.getElem?_toArray, List.getElem?_cons_zero, List.getElem?_cons_succ] at u0 u1 u2 u3 u4 u5 y0 y1 y2 y3 y4 y5
    clear hb4 hx4 hk4
    go_wp2_with fail
    refine bodyPost_ret (v := .tuple #[.agg #[.int .i64 0, .int .i64 0, .int .i64 0, .int .i64 0, .int .i64 0, .bool false], .bool false]) ?_ rfl ⟨by rw [DE.out], ?_⟩
    · simp only [results, Tryd.results21]
      go_simp
    · repeat (first | (with_reducible exact B4.out) | refine Below.setCell ?_ (by simp <;> omega) _)
end Go.Proofs.YtmnmdecbehfegaaDoor
