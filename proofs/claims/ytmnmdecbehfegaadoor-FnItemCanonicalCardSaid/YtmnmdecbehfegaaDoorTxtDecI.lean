/-
  Contract of the program's DecodeItem.
-/
import Derived.Test.YtmnmdecbehfegaaDoorTxtPI
import Derived.Test.YtmnmdecbehfegaaDoorTxtSplitI
import Derived.Lib.AtoiErrMem
namespace Go.Proofs.YtmnmdecbehfegaaDoor
open Go.RowKit
set_option linter.unusedVariables false

/-- The library's two errors lie where they lie. -/
def AT (w : World) : Prop :=
  (∃ ev, w.cell? ⟨0, 0, none⟩ = some ev ∧ (ev = .nilIface ∨ ∃ te pe, ev = .iface te pe)) ∧ (∃ ev, w.cell? ⟨1, 0, none⟩ = some ev ∧ (ev = .nilIface ∨ ∃ te pe, ev = .iface te pe))
/-- The library's limit is some number. -/
def ML (w : World) : Prop := ∃ m : Int, w.cell? ⟨3, 0, none⟩ = some (.int .i64 m)
theorem AT.below {w w' : World} (h : AT w) (hb : Below w.heap.size w w') : AT w' := by
  obtain ⟨⟨e0, h0, k0⟩, ⟨e1, h1, k1⟩⟩ := h
  exact ⟨⟨e0, cell_below hb h0, k0⟩, ⟨e1, cell_below hb h1, k1⟩⟩
theorem ML.below {w w' : World} (h : ML w) (hb : Below w.heap.size w w') : ML w' := by
  obtain ⟨m, h⟩ := h
  exact ⟨m, cell_below hb h⟩
theorem BlkIs.belowE {w w' : World} {g : Nat} {t : TypeId} {cs : Array Value} (h : BlkIs w g t cs) (hb : Below w.heap.size w w') : BlkIs w' g t cs := by
  rw [BlkIs, hb.block g h.lt]; exact h

theorem atoi_any (s : ByteArray) (w : World) (hs : s.size ≤ 4294967280) (ha : AT w) :
    Calls Tryd.prog 45 #[.string s] w fun e w' => ∃ er, e = .returned (.tuple #[.int .i64 (atoiV s.data.toList), er]) ∧ Below w.heap.size w w' := by
  obtain ⟨⟨e0, h0, k0⟩, ⟨e1, h1, k1⟩⟩ := ha
  rcases h : Lib.atoiAll s.data.toList with v | _ | _
  · refine (Tryd.strconv_Atoi_ok s (by omega) v h w).mono ?_
    rintro e w' ⟨rfl, hw⟩
    refine ⟨_, by rw [atoiV, h], ?_⟩
    rcases hw with rfl | ⟨t, rfl⟩
    · exact Below.refl _ _
    · exact Lib.bytesWorld_below _ _ _
  · refine (Tryd.strconv_Atoi_syntax s (by omega) (fun v e => by rw [h] at e; cases e) (fun e => by rw [h] at e; cases e) e0 w h0 k0).mono ?_
    rintro e w' ⟨N, rfl, _, _, hb⟩
    exact ⟨_, by rw [atoiV, h], hb⟩
  · refine (Tryd.strconv_Atoi_range s (by omega) h e1 w h1 k1).mono ?_
    rintro e w' ⟨N, rfl, _, _, hb⟩
    exact ⟨_, by rw [atoiV, h], hb⟩

def IntIs (w : World) (z : Int) (e : Ending) (w' : World) : Prop := e = .returned (.int .i64 z) ∧ Below w.heap.size w w'

set_option maxHeartbeats 1000000 in
theorem number_any (A : Option Addr) (n c i B : Nat) (l : List ByteArray) (w : World) (hB : w.cell? ⟨B, 0, none⟩ = some (.slice A n c)) (hx : Rd w 1 A n (strs' l)) (hn : n ≤ 4294967290) (hi : i ≤ 1000) (hz : ∀ t ∈ l, t.size ≤ 4294967280) (ha : AT w) :
    Calls Tryd.prog 44 #[.int .i64 (i : Int), .pointer (some ⟨B, 0, none⟩)] w (IntIs w (numB l i)) := by
  have hl := hx.slen
  by_cases hlt : i < n
  · obtain ⟨b, o, t, rfl, et, hc⟩ := hx.str_at hlt
    have E : Hid (numB l i = atoiV t.data.toList) := by show _ = _; exact numB_at et
    have CA := Lib.hid (atoi_any t w (hz t (List.mem_of_getElem? et)) ha)
    obtain ⟨z, hzz⟩ : ∃ z, z = atoiV t.data.toList := ⟨_, rfl⟩
    rw [← hzz] at E CA
    clear hx et hz ha hzz
    go_enter Tryd.func44, Tryd.ntmps44
    go_wp2_with (go_at_call 45; refine CA.out.mono ?_; rintro e w1 ⟨er, rfl, hb⟩; have B1 := Lib.hid hb; clear hb)
    go_ret
    exact ⟨ret_int E.out.symm, B1.out⟩
  · have E : Hid (numB l i = 0) := by show _ = _; rw [numB, if_pos (by omega)]
    clear hx hz ha
    go_enter Tryd.func44, Tryd.ntmps44
    go_wp2
    go_ret
    exact ⟨ret_int E.out.symm, Below.refl _ _⟩

theorem splitLib_any (s : ByteArray) (b : UInt8) (w : World) (hs : s.size ≤ 4294967280) (hm : ML w) :
    Calls Tryd.prog 43 #[.string s, .string ⟨#[b]⟩] w fun e w' => e = .returned (.slice (some ⟨w.heap.size, 0, none⟩) (allB b s).length (allB b s).length) ∧ w' = w.alloc (.cells (strs' (allB b s)).toArray 9) := by
  obtain ⟨m, hm⟩ := hm
  have h := Tryd.strings_Split s ⟨#[b]⟩ m w (by omega) hm (Nat.le_refl _)
  rw [splitB_all', countB_one] at h
  exact h

theorem drew_then {w w' : World} (h : Below w.drew.heap.size w.drew w') : Below w.heap.size w w' := (Below.refl w.heap.size w).drew.trans h
theorem rd_fresh (w : World) (l : List ByteArray) : Rd (w.alloc (.cells (strs' l).toArray 9)) 1 (some ⟨w.heap.size, 0, none⟩) l.length (strs' l) := by
  refine ⟨by simp [strs'], fun _ => ⟨w.heap.size, 0, rfl, fun j hj => ?_⟩⟩
  rw [cell_of_row _ w.heap.size (0 + j) (strs' l).toArray 9 (0, 0) (heap_alloc_new w _)]
  simp
theorem decI_yes {s : ByteArray} {x : It} (h : ∀ y, vIt y = true → itxt y = s.data.toList → x = y) (h0 : ¬ s = baL []) (he : etxtB x = s) : decI s.data.toList = (x, true) := by
  rw [decI_of h, if_pos]
  by_cases hv : vIt x = true
  · rw [etxtB_ok hv] at he
    exact ⟨hv, by rw [← he]; rfl⟩
  · exfalso
    apply h0
    rw [← he, etxtB_no (by simpa using hv)]; rfl
theorem decI_not {s : ByteArray} {x : It} (h : ∀ y, vIt y = true → itxt y = s.data.toList → x = y) (he : ¬ etxtB x = s) : decI s.data.toList = (⟨0, 0, 0, 0, 0, false⟩, false) := by
  rw [decI_of h, if_neg]
  rintro ⟨hv, e⟩
  apply he
  rw [etxtB_ok hv]
  exact ba_ext e
theorem decI_empty {s : ByteArray} (h : s = baL []) : decI s.data.toList = (⟨0, 0, 0, 0, 0, false⟩, false) := by
  refine decI_none fun x hv e => ?_
  rw [h, baL_list] at e
  have : iw0 x = [] := (List.append_eq_nil_iff.1 e).1
  unfold iw0 at this
  split at this
  · cases this
  · split at this
    · cases this
    · cases this

set_option maxHeartbeats 8000000 in
set_option maxRecDepth 8000 in
theorem decImpl_Box (s : ByteArray) (w : World) (hs : s.size ≤ 4000000000) (ht : TB w) (ha : AT w) (hm : ML w) (h0 : wordB (allB 32 s) 0 = baL tBox) :
    Calls Tryd.prog 20 #[.string s] w (ReadIs w (decI s.data.toList)) := by
  have SP := Lib.hid (fun w1 h => splitLib_any s 32 w1 (by omega) h)
  have RI := Lib.hid (rItem_of (s := s))
  have hpos := cutB_pos 32 (s.data.toList.count 32) s
  have hlz : ∀ t ∈ allB 32 s, t.size ≤ 4294967280 := fun t h => by have := cutB_small h; omega
  have hln : (allB 32 s).length ≤ 4294967290 := by
    have h1 := cutB_le 32 (s.data.toList.count 32) s
    have h2 : s.data.toList.count 32 ≤ s.data.toList.length := List.count_le_length
    have h3 : s.data.toList.length = s.size := rfl
    show (cutB 32 (s.data.toList.count 32) s).length ≤ _
    omega
  rw [show rItem s = rItemW (allB 32 s) from rfl] at RI
  change 1 ≤ (allB 32 s).length at hpos
  obtain ⟨l, hl⟩ : ∃ l, l = allB 32 s := ⟨_, rfl⟩
  rw [← hl] at SP RI hpos hlz hln h0
  clear hl
  have NU := fun (i : Nat) (hi : i ≤ 1000) => Lib.hid (fun A c B w2 hB hx ha => number_any A l.length c i B l w2 hB hx hln hi hlz ha)
  have N1 := NU 1 (by omega)
  have N3 := NU 3 (by omega)
  have N5 := NU 5 (by omega)
  clear NU hlz
  have T := Lib.hid ht
  have AA := Lib.hid ha
  have MM := Lib.hid hm
  clear ht ha hm
  have E0 : Hid (∀ t, l[0]? = some t → wordB l 0 = t) := fun t h => by rw [wordB, h]; rfl
  have EQ : Hid (rItemW l = ⟨1, numB l 1, 0, 0, 0, false⟩) := by show _ = _; rw [rItemW, if_pos h0]
  obtain ⟨n1, hn1⟩ : ∃ z, z = numB l 1 := ⟨_, rfl⟩
  obtain ⟨n3, hn3⟩ : ∃ z, z = numB l 3 := ⟨_, rfl⟩
  obtain ⟨n5, hn5⟩ : ∃ z, z = numB l 5 := ⟨_, rfl⟩
  rw [← hn1] at N1
  rw [← hn3] at N3
  rw [← hn5] at N5
  rw [← hn1] at EQ
  clear hn1 hn3 hn5
  obtain ⟨n, hn⟩ : ∃ n, n = l.length := ⟨_, rfl⟩
  rw [← hn] at SP hpos hln N1 N3 N5
  have HN := Lib.hid hn
  clear hn
  rw [EQ.out] at RI
  clear EQ
  have BA0 := Lib.hid ((Below.refl w.heap.size w).alloc (Nat.le_refl _) (.cells #[.int .i64 0, .int .i64 0, .int .i64 0, .int .i64 0, .int .i64 0, .bool false] 29))
  go_enter Tryd.func20, Tryd.ntmps20
  go_wp2_with fail
  refine (SP.out _ (MM.out.below BA0.out)).mono ?_
  rintro e w1 ⟨rfl, hw1⟩
  have hb1 : Below (w.alloc (.cells #[.int .i64 0, .int .i64 0, .int .i64 0, .int .i64 0, .int .i64 0, .bool false] 29)).heap.size (w.alloc (.cells #[.int .i64 0, .int .i64 0, .int .i64 0, .int .i64 0, .int .i64 0, .bool false] 29)) w1 := by rw [hw1]; exact (Below.refl _ _).alloc (Nat.le_refl _) _
  have hrd : Rd w1 1 (some ⟨w.heap.size + 1, 0, none⟩) n (strs' l) := by
    rw [hw1]
    have h := rd_fresh (w.alloc (.cells #[.int .i64 0, .int .i64 0, .int .i64 0, .int .i64 0, .int .i64 0, .bool false] 29)) l
    rw [World.size_alloc, ← HN.out] at h
    exact h
  have hsz1 : w.heap.size + 2 ≤ w1.heap.size := by rw [hw1]; simp
  obtain ⟨hk, hb'⟩ := box_at hb1
  have B1 := Lib.hid hb'
  obtain ⟨b0, o0, t0, hA0, et, hct⟩ := hrd.str_at (k := 0) (by omega)
  injection hA0 with hA0
  injection hA0 with hA1 hA2
  subst hA1
  subst hA2
  have hw0 := E0.out t0 et
  rw [hw0] at h0
  have a0 : ∀ o o', ((w1.alloc o).alloc o').cell? ⟨w.heap.size + 1, 0, none⟩ = some (.string t0) := fun o o' => cell_alloc (cell_alloc hct o) o'
  have hbW : Below w1.heap.size w1 ((w1.alloc (.cells #[.slice (some ⟨w.heap.size + 1, 0, none⟩) n n] 55)).alloc (.cells #[.int .i64 0, .int .i64 0, .int .i64 0, .int .i64 0, .int .i64 0, .bool false] 29)) := ((Below.refl _ _).alloc (Nat.le_refl _) _).alloc (by simp) _
  have R3 := Lib.hid (hrd.below hbW)
  have K3 : Hid (BlkIs ((w1.alloc (.cells #[.slice (some ⟨w.heap.size + 1, 0, none⟩) n n] 55)).alloc (.cells #[.int .i64 0, .int .i64 0, .int .i64 0, .int .i64 0, .int .i64 0, .bool false] 29)) w.heap.size 29 #[.int .i64 0, .int .i64 0, .int .i64 0, .int .i64 0, .int .i64 0, .bool false]) := by
    show BlkIs _ _ _ _
    have := hbW.block w.heap.size (by omega)
    rw [BlkIs, this]; exact hk
  have X3 : Hid (BlkIs ((w1.alloc (.cells #[.slice (some ⟨w.heap.size + 1, 0, none⟩) n n] 55)).alloc (.cells #[.int .i64 0, .int .i64 0, .int .i64 0, .int .i64 0, .int .i64 0, .bool false] 29)) (w1.heap.size + 1) 29 #[.int .i64 0, .int .i64 0, .int .i64 0, .int .i64 0, .int .i64 0, .bool false]) := by
    show BlkIs _ _ _ _
    have h := heap_alloc_new (w1.alloc (.cells #[.slice (some ⟨w.heap.size + 1, 0, none⟩) n n] 55)) (.cells #[.int .i64 0, .int .i64 0, .int .i64 0, .int .i64 0, .int .i64 0, .bool false] 29)
    rw [World.size_alloc] at h
    exact h
  have C3 : Hid ((((w1.alloc (.cells #[.slice (some ⟨w.heap.size + 1, 0, none⟩) n n] 55)).alloc (.cells #[.int .i64 0, .int .i64 0, .int .i64 0, .int .i64 0, .int .i64 0, .bool false] 29))).cell? ⟨w1.heap.size, 0, none⟩ = some (.slice (some ⟨w.heap.size + 1, 0, none⟩) n n)) := by
    show _ = _
    refine cell_alloc ?_ _
    rw [cell_of_row _ w1.heap.size 0 _ 55 (0, 0) (heap_alloc_new w1 _)]
    rfl
  have B3 := Lib.hid (below_step B1.out hbW)
  have A3 := Lib.hid (AA.out.below B3.out)
  clear hw1 hb1 hk hb' hrd et hct hw0 E0 hbW
  have s0 := str_sameL h0
  have q0 : (t0.toList == (⟨#[98, 111, 120]⟩ : ByteArray).toList) = true := str_same h0
  unfold tBox at s0
  clear h0
  go_wp2_with fail
  refine (N1.out _ _ _ _ C3.out R3.out A3.out).mono ?_
  rintro e w4 ⟨rfl, hb4⟩
  have K4 := Lib.hid (K3.out.belowE hb4)
  have X4 := Lib.hid (X3.out.belowE hb4)
  have B4 := Lib.hid (below_step B3.out hb4)
  have hx4 := X4.out
  have hk4 := K4.out
  have hsz4 : w1.heap.size + 2 ≤ w4.heap.size := by have := hb4.size; simp at this; omega
  have u0 := hx4.cell 0
  have v0 := hx4.free 0
  have u1 := hx4.cell 1
  have v1 := hx4.free 1
  have u2 := hx4.cell 2
  have v2 := hx4.free 2
  have u3 := hx4.cell 3
  have v3 := hx4.free 3
  have u4 := hx4.cell 4
  have v4 := hx4.free 4
  have u5 := hx4.cell 5
  have v5 := hx4.free 5
  have y0 := hk4.cell 0
  have z0 := hk4.free 0
  have y1 := hk4.cell 1
  have z1 := hk4.free 1
  have y2 := hk4.cell 2
  have z2 := hk4.free 2
  have y3 := hk4.cell 3
  have z3 := hk4.free 3
  have y4 := hk4.cell 4
  have z4 := hk4.free 4
  have y5 := hk4.cell 5
  have z5 := hk4.free 5
  simp only [List.getElem?_toArray, List.getElem?_cons_zero, List.getElem?_cons_succ] at u0 u1 u2 u3 u4 u5 y0 y1 y2 y3 y4 y5
  clear hx4 hk4 hb4
  by_cases hs0 : s = baL []
  · have DE := Lib.hid (decI_empty hs0)
    have g1 := str_sameL hs0
    have g2 : (s.toList == (⟨#[]⟩ : ByteArray).toList) = true := str_same hs0
    clear hs0
    go_wp2_with fail
    refine bodyPost_ret (v := .tuple #[.agg #[.int .i64 0, .int .i64 0, .int .i64 0, .int .i64 0, .int .i64 0, .bool false], .bool false]) ?_ rfl ⟨by rw [DE.out], ?_⟩
    · simp only [results, Tryd.results20]
      go_simp
    · repeat (first | (with_reducible exact B4.out) | refine Below.setCell ?_ (by simp <;> omega) _)
  have g1 := str_otherL hs0
  have g2 : (s.toList == (⟨#[]⟩ : ByteArray).toList) = false := str_parts hs0
  have EN := Lib.hid (fun w5 h => encImpl_any ⟨1, n1, 0, 0, 0, false⟩ w5 h)
  simp only at EN
  by_cases he : etxtB ⟨1, n1, 0, 0, 0, false⟩ = s
  · have DE := Lib.hid (decI_yes RI.out hs0 he)
    have cm : ((etxtB ⟨1, n1, 0, 0, 0, false⟩).toList == s.toList) = true := str_same he
    have cm2 : (s.toList == (etxtB ⟨1, n1, 0, 0, 0, false⟩).toList) = true := str_same he.symm
    clear he hs0
    obtain ⟨E, hE⟩ : ∃ E, E = etxtB ⟨1, n1, 0, 0, 0, false⟩ := ⟨_, rfl⟩
    rw [← hE] at cm cm2 EN
    clear hE
    go_wp2_with fail
    have B5 : Hid (Below w.heap.size w ((((((w4.setCell ⟨w1.heap.size + 1, 0, none⟩ (.int .i64 1)).setCell ⟨w1.heap.size + 1, 1, none⟩ (.int .i64 n1)).setCell ⟨w1.heap.size + 1, 2, none⟩ (.int .i64 0)).setCell ⟨w1.heap.size + 1, 3, none⟩ (.int .i64 0)).setCell ⟨w1.heap.size + 1, 4, none⟩ (.int .i64 0)).setCell ⟨w1.heap.size + 1, 5, none⟩ (.bool false))) := by
      show Below _ _ _
      repeat (first | (with_reducible exact B4.out) | refine Below.setCell ?_ (by simp <;> omega) _)
    have K5 : Hid (BlkIs ((((((w4.setCell ⟨w1.heap.size + 1, 0, none⟩ (.int .i64 1)).setCell ⟨w1.heap.size + 1, 1, none⟩ (.int .i64 n1)).setCell ⟨w1.heap.size + 1, 2, none⟩ (.int .i64 0)).setCell ⟨w1.heap.size + 1, 3, none⟩ (.int .i64 0)).setCell ⟨w1.heap.size + 1, 4, none⟩ (.int .i64 0)).setCell ⟨w1.heap.size + 1, 5, none⟩ (.bool false)) w.heap.size 29 #[.int .i64 0, .int .i64 0, .int .i64 0, .int .i64 0, .int .i64 0, .bool false]) := by
      show BlkIs _ _ _ _
      rw [BlkIs]
      repeat rw [Below.heap_setCell _ _ _ _ (by simp <;> omega)]
      exact K4.out
    have X5 : Hid (BlkIs ((((((w4.setCell ⟨w1.heap.size + 1, 0, none⟩ (.int .i64 1)).setCell ⟨w1.heap.size + 1, 1, none⟩ (.int .i64 n1)).setCell ⟨w1.heap.size + 1, 2, none⟩ (.int .i64 0)).setCell ⟨w1.heap.size + 1, 3, none⟩ (.int .i64 0)).setCell ⟨w1.heap.size + 1, 4, none⟩ (.int .i64 0)).setCell ⟨w1.heap.size + 1, 5, none⟩ (.bool false)) (w1.heap.size + 1) 29 #[.int .i64 1, .int .i64 n1, .int .i64 0, .int .i64 0, .int .i64 0, .bool false]) := ((((((X4.out.store 0 (.int .i64 1)).store 1 (.int .i64 n1)).store 2 (.int .i64 0)).store 3 (.int .i64 0)).store 4 (.int .i64 0)).store 5 (.bool false))
    refine (EN.out _ (T.out.below B5.out)).mono ?_
    rintro e w6 ⟨rfl, hb6⟩
    have B6 := Lib.hid (below_step B5.out hb6)
    have hk6 := K5.out.belowE hb6
    have hx6 := X5.out.belowE hb6
    have x0 := hx6.cell 0
    have x1 := hx6.cell 1
    have x2 := hx6.cell 2
    have x3 := hx6.cell 3
    have x4 := hx6.cell 4
    have x5 := hx6.cell 5
    have y0 := hk6.cell 0
    have z0 := hk6.free 0
    have y1 := hk6.cell 1
    have z1 := hk6.free 1
    have y2 := hk6.cell 2
    have z2 := hk6.free 2
    have y3 := hk6.cell 3
    have z3 := hk6.free 3
    have y4 := hk6.cell 4
    have z4 := hk6.free 4
    have y5 := hk6.cell 5
    have z5 := hk6.free 5
    simp only [List.getElem?_toArray, List.getElem?_cons_zero, List.getElem?_cons_succ] at x0 x1 x2 x3 x4 x5 y0 y1 y2 y3 y4 y5
    clear hb6 hk6 hx6
    go_wp2_with fail
    refine bodyPost_ret (v := .tuple #[.agg #[.int .i64 1, .int .i64 n1, .int .i64 0, .int .i64 0, .int .i64 0, .bool false], .bool true]) ?_ rfl ⟨by rw [DE.out], ?_⟩
    · simp only [results, Tryd.results20]
      go_simp
    · repeat (first | (with_reducible exact B6.out) | refine Below.setCell ?_ (by simp <;> omega) _)
  · have DE := Lib.hid (decI_not RI.out he)
    have cm : ((etxtB ⟨1, n1, 0, 0, 0, false⟩).toList == s.toList) = false := str_parts he
    have cm2 : (s.toList == (etxtB ⟨1, n1, 0, 0, 0, false⟩).toList) = false := str_parts (fun h => he h.symm)
    clear he hs0
    obtain ⟨E, hE⟩ : ∃ E, E = etxtB ⟨1, n1, 0, 0, 0, false⟩ := ⟨_, rfl⟩
    rw [← hE] at cm cm2 EN
    clear hE
    go_wp2_with fail
    have B5 : Hid (Below w.heap.size w ((((((w4.setCell ⟨w1.heap.size + 1, 0, none⟩ (.int .i64 1)).setCell ⟨w1.heap.size + 1, 1, none⟩ (.int .i64 n1)).setCell ⟨w1.heap.size + 1, 2, none⟩ (.int .i64 0)).setCell ⟨w1.heap.size + 1, 3, none⟩ (.int .i64 0)).setCell ⟨w1.heap.size + 1, 4, none⟩ (.int .i64 0)).setCell ⟨w1.heap.size + 1, 5, none⟩ (.bool false))) := by
      show Below _ _ _
      repeat (first | (with_reducible exact B4.out) | refine Below.setCell ?_ (by simp <;> omega) _)
    have K5 : Hid (BlkIs ((((((w4.setCell ⟨w1.heap.size + 1, 0, none⟩ (.int .i64 1)).setCell ⟨w1.heap.size + 1, 1, none⟩ (.int .i64 n1)).setCell ⟨w1.heap.size + 1, 2, none⟩ (.int .i64 0)).setCell ⟨w1.heap.size + 1, 3, none⟩ (.int .i64 0)).setCell ⟨w1.heap.size + 1, 4, none⟩ (.int .i64 0)).setCell ⟨w1.heap.size + 1, 5, none⟩ (.bool false)) w.heap.size 29 #[.int .i64 0, .int .i64 0, .int .i64 0, .int .i64 0, .int .i64 0, .bool false]) := by
      show BlkIs _ _ _ _
      rw [BlkIs]
      repeat rw [Below.heap_setCell _ _ _ _ (by simp <;> omega)]
      exact K4.out
    have X5 : Hid (BlkIs ((((((w4.setCell ⟨w1.heap.size + 1, 0, none⟩ (.int .i64 1)).setCell ⟨w1.heap.size + 1, 1, none⟩ (.int .i64 n1)).setCell ⟨w1.heap.size + 1, 2, none⟩ (.int .i64 0)).setCell ⟨w1.heap.size + 1, 3, none⟩ (.int .i64 0)).setCell ⟨w1.heap.size + 1, 4, none⟩ (.int .i64 0)).setCell ⟨w1.heap.size + 1, 5, none⟩ (.bool false)) (w1.heap.size + 1) 29 #[.int .i64 1, .int .i64 n1, .int .i64 0, .int .i64 0, .int .i64 0, .bool false]) := ((((((X4.out.store 0 (.int .i64 1)).store 1 (.int .i64 n1)).store 2 (.int .i64 0)).store 3 (.int .i64 0)).store 4 (.int .i64 0)).store 5 (.bool false))
    refine (EN.out _ (T.out.below B5.out)).mono ?_
    rintro e w6 ⟨rfl, hb6⟩
    have B6 := Lib.hid (below_step B5.out hb6)
    have hk6 := K5.out.belowE hb6
    have hx6 := X5.out.belowE hb6
    have x0 := hx6.cell 0
    have x1 := hx6.cell 1
    have x2 := hx6.cell 2
    have x3 := hx6.cell 3
    have x4 := hx6.cell 4
    have x5 := hx6.cell 5
    have y0 := hk6.cell 0
    have z0 := hk6.free 0
    have y1 := hk6.cell 1
    have z1 := hk6.free 1
    have y2 := hk6.cell 2
    have z2 := hk6.free 2
    have y3 := hk6.cell 3
    have z3 := hk6.free 3
    have y4 := hk6.cell 4
    have z4 := hk6.free 4
    have y5 := hk6.cell 5
    have z5 := hk6.free 5
    simp only [List.getElem?_toArray, List.getElem?_cons_zero, List.getElem?_cons_succ] at x0 x1 x2 x3 x4 x5 y0 y1 y2 y3 y4 y5
    clear hb6 hk6 hx6
    go_wp2_with fail
    refine bodyPost_ret (v := .tuple #[.agg #[.int .i64 0, .int .i64 0, .int .i64 0, .int .i64 0, .int .i64 0, .bool false], .bool false]) ?_ rfl ⟨by rw [DE.out], ?_⟩
    · simp only [results, Tryd.results20]
      go_simp
    · repeat (first | (with_reducible exact B6.out) | refine Below.setCell ?_ (by simp <;> omega) _)

set_option maxHeartbeats 8000000 in
set_option maxRecDepth 8000 in
theorem decImpl_Glue (s : ByteArray) (w : World) (hs : s.size ≤ 4000000000) (ht : TB w) (ha : AT w) (hm : ML w) (h0 : wordB (allB 32 s) 0 = baL tGlue) :
    Calls Tryd.prog 20 #[.string s] w (ReadIs w (decI s.data.toList)) := by
  have SP := Lib.hid (fun w1 h => splitLib_any s 32 w1 (by omega) h)
  have RI := Lib.hid (rItem_of (s := s))
  have hpos := cutB_pos 32 (s.data.toList.count 32) s
  have hlz : ∀ t ∈ allB 32 s, t.size ≤ 4294967280 := fun t h => by have := cutB_small h; omega
  have hln : (allB 32 s).length ≤ 4294967290 := by
    have h1 := cutB_le 32 (s.data.toList.count 32) s
    have h2 : s.data.toList.count 32 ≤ s.data.toList.length := List.count_le_length
    have h3 : s.data.toList.length = s.size := rfl
    show (cutB 32 (s.data.toList.count 32) s).length ≤ _
    omega
  rw [show rItem s = rItemW (allB 32 s) from rfl] at RI
  change 1 ≤ (allB 32 s).length at hpos
  obtain ⟨l, hl⟩ : ∃ l, l = allB 32 s := ⟨_, rfl⟩
  rw [← hl] at SP RI hpos hlz hln h0
  clear hl
  have NU := fun (i : Nat) (hi : i ≤ 1000) => Lib.hid (fun A c B w2 hB hx ha => number_any A l.length c i B l w2 hB hx hln hi hlz ha)
  have N1 := NU 1 (by omega)
  have N3 := NU 3 (by omega)
  have N5 := NU 5 (by omega)
  clear NU hlz
  have T := Lib.hid ht
  have AA := Lib.hid ha
  have MM := Lib.hid hm
  clear ht ha hm
  have E0 : Hid (∀ t, l[0]? = some t → wordB l 0 = t) := fun t h => by rw [wordB, h]; rfl
  have EQ : Hid (rItemW l = ⟨2, numB l 1, numB l 3, numB l 5, 0, false⟩) := by show _ = _; rw [rItemW, if_neg (by rw [h0]; exact glue_ne_box), if_pos h0]
  obtain ⟨n1, hn1⟩ : ∃ z, z = numB l 1 := ⟨_, rfl⟩
  obtain ⟨n3, hn3⟩ : ∃ z, z = numB l 3 := ⟨_, rfl⟩
  obtain ⟨n5, hn5⟩ : ∃ z, z = numB l 5 := ⟨_, rfl⟩
  rw [← hn1] at N1
  rw [← hn3] at N3
  rw [← hn5] at N5
  rw [← hn1, ← hn3, ← hn5] at EQ
  clear hn1 hn3 hn5
  obtain ⟨n, hn⟩ : ∃ n, n = l.length := ⟨_, rfl⟩
  rw [← hn] at SP hpos hln N1 N3 N5
  have HN := Lib.hid hn
  clear hn
  rw [EQ.out] at RI
  clear EQ
  have BA0 := Lib.hid ((Below.refl w.heap.size w).alloc (Nat.le_refl _) (.cells #[.int .i64 0, .int .i64 0, .int .i64 0, .int .i64 0, .int .i64 0, .bool false] 29))
  go_enter Tryd.func20, Tryd.ntmps20
  go_wp2_with fail
  refine (SP.out _ (MM.out.below BA0.out)).mono ?_
  rintro e w1 ⟨rfl, hw1⟩
  have hb1 : Below (w.alloc (.cells #[.int .i64 0, .int .i64 0, .int .i64 0, .int .i64 0, .int .i64 0, .bool false] 29)).heap.size (w.alloc (.cells #[.int .i64 0, .int .i64 0, .int .i64 0, .int .i64 0, .int .i64 0, .bool false] 29)) w1 := by rw [hw1]; exact (Below.refl _ _).alloc (Nat.le_refl _) _
  have hrd : Rd w1 1 (some ⟨w.heap.size + 1, 0, none⟩) n (strs' l) := by
    rw [hw1]
    have h := rd_fresh (w.alloc (.cells #[.int .i64 0, .int .i64 0, .int .i64 0, .int .i64 0, .int .i64 0, .bool false] 29)) l
    rw [World.size_alloc, ← HN.out] at h
    exact h
  have hsz1 : w.heap.size + 2 ≤ w1.heap.size := by rw [hw1]; simp
  obtain ⟨hk, hb'⟩ := box_at hb1
  have B1 := Lib.hid hb'
  obtain ⟨b0, o0, t0, hA0, et, hct⟩ := hrd.str_at (k := 0) (by omega)
  injection hA0 with hA0
  injection hA0 with hA1 hA2
  subst hA1
  subst hA2
  have hw0 := E0.out t0 et
  rw [hw0] at h0
  have a0 : ∀ o o', ((w1.alloc o).alloc o').cell? ⟨w.heap.size + 1, 0, none⟩ = some (.string t0) := fun o o' => cell_alloc (cell_alloc hct o) o'
  have hbW : Below w1.heap.size w1 ((w1.alloc (.cells #[.slice (some ⟨w.heap.size + 1, 0, none⟩) n n] 55)).alloc (.cells #[.int .i64 0, .int .i64 0, .int .i64 0, .int .i64 0, .int .i64 0, .bool false] 29)) := ((Below.refl _ _).alloc (Nat.le_refl _) _).alloc (by simp) _
  have R3 := Lib.hid (hrd.below hbW)
  have K3 : Hid (BlkIs ((w1.alloc (.cells #[.slice (some ⟨w.heap.size + 1, 0, none⟩) n n] 55)).alloc (.cells #[.int .i64 0, .int .i64 0, .int .i64 0, .int .i64 0, .int .i64 0, .bool false] 29)) w.heap.size 29 #[.int .i64 0, .int .i64 0, .int .i64 0, .int .i64 0, .int .i64 0, .bool false]) := by
    show BlkIs _ _ _ _
    have := hbW.block w.heap.size (by omega)
    rw [BlkIs, this]; exact hk
  have X3 : Hid (BlkIs ((w1.alloc (.cells #[.slice (some ⟨w.heap.size + 1, 0, none⟩) n n] 55)).alloc (.cells #[.int .i64 0, .int .i64 0, .int .i64 0, .int .i64 0, .int .i64 0, .bool false] 29)) (w1.heap.size + 1) 29 #[.int .i64 0, .int .i64 0, .int .i64 0, .int .i64 0, .int .i64 0, .bool false]) := by
    show BlkIs _ _ _ _
    have h := heap_alloc_new (w1.alloc (.cells #[.slice (some ⟨w.heap.size + 1, 0, none⟩) n n] 55)) (.cells #[.int .i64 0, .int .i64 0, .int .i64 0, .int .i64 0, .int .i64 0, .bool false] 29)
    rw [World.size_alloc] at h
    exact h
  have C3 : Hid ((((w1.alloc (.cells #[.slice (some ⟨w.heap.size + 1, 0, none⟩) n n] 55)).alloc (.cells #[.int .i64 0, .int .i64 0, .int .i64 0, .int .i64 0, .int .i64 0, .bool false] 29))).cell? ⟨w1.heap.size, 0, none⟩ = some (.slice (some ⟨w.heap.size + 1, 0, none⟩) n n)) := by
    show _ = _
    refine cell_alloc ?_ _
    rw [cell_of_row _ w1.heap.size 0 _ 55 (0, 0) (heap_alloc_new w1 _)]
    rfl
  have B3 := Lib.hid (below_step B1.out hbW)
  have A3 := Lib.hid (AA.out.below B3.out)
  clear hw1 hb1 hk hb' hrd et hct hw0 E0 hbW
  have s0 := str_otherL (show ¬ t0 = baL tBox by rw [h0]; exact glue_ne_box)
  have q0 : (t0.toList == (⟨#[98, 111, 120]⟩ : ByteArray).toList) = false := str_parts (show ¬ t0 = baL tBox by rw [h0]; exact glue_ne_box)
  unfold tBox at s0
  have s1 := str_sameL h0
  have q1 : (t0.toList == (⟨#[103, 108, 117, 101]⟩ : ByteArray).toList) = true := str_same h0
  unfold tGlue at s1
  clear h0
  go_wp2_with fail
  refine (N1.out _ _ _ _ C3.out R3.out A3.out).mono ?_
  rintro e wa ⟨rfl, hba⟩
  have CA := Lib.hid (cell_below hba C3.out)
  have RA := Lib.hid (R3.out.below hba)
  have AAa := Lib.hid (A3.out.below hba)
  have BAa := Lib.hid hba
  clear hba
  go_wp2_with fail
  refine (N3.out _ _ _ _ CA.out RA.out AAa.out).mono ?_
  rintro e wb ⟨rfl, hbb⟩
  have CB := Lib.hid (cell_below hbb CA.out)
  have RB := Lib.hid (RA.out.below hbb)
  have AB := Lib.hid (AAa.out.below hbb)
  have BB := Lib.hid (below_step BAa.out hbb)
  clear hbb
  go_wp2_with fail
  refine (N5.out _ _ _ _ CB.out RB.out AB.out).mono ?_
  rintro e w4 ⟨rfl, hbc⟩
  have hb4 := below_step BB.out hbc
  clear hbc
  have K4 := Lib.hid (K3.out.belowE hb4)
  have X4 := Lib.hid (X3.out.belowE hb4)
  have B4 := Lib.hid (below_step B3.out hb4)
  have hx4 := X4.out
  have hk4 := K4.out
  have hsz4 : w1.heap.size + 2 ≤ w4.heap.size := by have := hb4.size; simp at this; omega
  have u0 := hx4.cell 0
  have v0 := hx4.free 0
  have u1 := hx4.cell 1
  have v1 := hx4.free 1
  have u2 := hx4.cell 2
  have v2 := hx4.free 2
  have u3 := hx4.cell 3
  have v3 := hx4.free 3
  have u4 := hx4.cell 4
  have v4 := hx4.free 4
  have u5 := hx4.cell 5
  have v5 := hx4.free 5
  have y0 := hk4.cell 0
  have z0 := hk4.free 0
  have y1 := hk4.cell 1
  have z1 := hk4.free 1
  have y2 := hk4.cell 2
  have z2 := hk4.free 2
  have y3 := hk4.cell 3
  have z3 := hk4.free 3
  have y4 := hk4.cell 4
  have z4 := hk4.free 4
  have y5 := hk4.cell 5
  have z5 := hk4.free 5
  simp only [List.getElem?_toArray, List.getElem?_cons_zero, List.getElem?_cons_succ] at u0 u1 u2 u3 u4 u5 y0 y1 y2 y3 y4 y5
  clear hx4 hk4 hb4
  by_cases hs0 : s = baL []
  · have DE := Lib.hid (decI_empty hs0)
    have g1 := str_sameL hs0
    have g2 : (s.toList == (⟨#[]⟩ : ByteArray).toList) = true := str_same hs0
    clear hs0
    go_wp2_with fail
    refine bodyPost_ret (v := .tuple #[.agg #[.int .i64 0, .int .i64 0, .int .i64 0, .int .i64 0, .int .i64 0, .bool false], .bool false]) ?_ rfl ⟨by rw [DE.out], ?_⟩
    · simp only [results, Tryd.results20]
      go_simp
    · repeat (first | (with_reducible exact B4.out) | refine Below.setCell ?_ (by simp <;> omega) _)
  have g1 := str_otherL hs0
  have g2 : (s.toList == (⟨#[]⟩ : ByteArray).toList) = false := str_parts hs0
  have EN := Lib.hid (fun w5 h => encImpl_any ⟨2, n1, n3, n5, 0, false⟩ w5 h)
  simp only at EN
  by_cases he : etxtB ⟨2, n1, n3, n5, 0, false⟩ = s
  · have DE := Lib.hid (decI_yes RI.out hs0 he)
    have cm : ((etxtB ⟨2, n1, n3, n5, 0, false⟩).toList == s.toList) = true := str_same he
    have cm2 : (s.toList == (etxtB ⟨2, n1, n3, n5, 0, false⟩).toList) = true := str_same he.symm
    clear he hs0
    obtain ⟨E, hE⟩ : ∃ E, E = etxtB ⟨2, n1, n3, n5, 0, false⟩ := ⟨_, rfl⟩
    rw [← hE] at cm cm2 EN
    clear hE
    go_wp2_with fail
    have B5 : Hid (Below w.heap.size w ((((((w4.setCell ⟨w1.heap.size + 1, 0, none⟩ (.int .i64 2)).setCell ⟨w1.heap.size + 1, 1, none⟩ (.int .i64 n1)).setCell ⟨w1.heap.size + 1, 2, none⟩ (.int .i64 n3)).setCell ⟨w1.heap.size + 1, 3, none⟩ (.int .i64 n5)).setCell ⟨w1.heap.size + 1, 4, none⟩ (.int .i64 0)).setCell ⟨w1.heap.size + 1, 5, none⟩ (.bool false))) := by
      show Below _ _ _
      repeat (first | (with_reducible exact B4.out) | refine Below.setCell ?_ (by simp <;> omega) _)
    have K5 : Hid (BlkIs ((((((w4.setCell ⟨w1.heap.size + 1, 0, none⟩ (.int .i64 2)).setCell ⟨w1.heap.size + 1, 1, none⟩ (.int .i64 n1)).setCell ⟨w1.heap.size + 1, 2, none⟩ (.int .i64 n3)).setCell ⟨w1.heap.size + 1, 3, none⟩ (.int .i64 n5)).setCell ⟨w1.heap.size + 1, 4, none⟩ (.int .i64 0)).setCell ⟨w1.heap.size + 1, 5, none⟩ (.bool false)) w.heap.size 29 #[.int .i64 0, .int .i64 0, .int .i64 0, .int .i64 0, .int .i64 0, .bool false]) := by
      show BlkIs _ _ _ _
      rw [BlkIs]
      repeat rw [Below.heap_setCell _ _ _ _ (by simp <;> omega)]
      exact K4.out
    have X5 : Hid (BlkIs ((((((w4.setCell ⟨w1.heap.size + 1, 0, none⟩ (.int .i64 2)).setCell ⟨w1.heap.size + 1, 1, none⟩ (.int .i64 n1)).setCell ⟨w1.heap.size + 1, 2, none⟩ (.int .i64 n3)).setCell ⟨w1.heap.size + 1, 3, none⟩ (.int .i64 n5)).setCell ⟨w1.heap.size + 1, 4, none⟩ (.int .i64 0)).setCell ⟨w1.heap.size + 1, 5, none⟩ (.bool false)) (w1.heap.size + 1) 29 #[.int .i64 2, .int .i64 n1, .int .i64 n3, .int .i64 n5, .int .i64 0, .bool false]) := ((((((X4.out.store 0 (.int .i64 2)).store 1 (.int .i64 n1)).store 2 (.int .i64 n3)).store 3 (.int .i64 n5)).store 4 (.int .i64 0)).store 5 (.bool false))
    refine (EN.out _ (T.out.below B5.out)).mono ?_
    rintro e w6 ⟨rfl, hb6⟩
    have B6 := Lib.hid (below_step B5.out hb6)
    have hk6 := K5.out.belowE hb6
    have hx6 := X5.out.belowE hb6
    have x0 := hx6.cell 0
    have x1 := hx6.cell 1
    have x2 := hx6.cell 2
    have x3 := hx6.cell 3
    have x4 := hx6.cell 4
    have x5 := hx6.cell 5
    have y0 := hk6.cell 0
    have z0 := hk6.free 0
    have y1 := hk6.cell 1
    have z1 := hk6.free 1
    have y2 := hk6.cell 2
    have z2 := hk6.free 2
    have y3 := hk6.cell 3
    have z3 := hk6.free 3
    have y4 := hk6.cell 4
    have z4 := hk6.free 4
    have y5 := hk6.cell 5
    have z5 := hk6.free 5
    simp only [List.getElem?_toArray, List.getElem?_cons_zero, List.getElem?_cons_succ] at x0 x1 x2 x3 x4 x5 y0 y1 y2 y3 y4 y5
    clear hb6 hk6 hx6
    go_wp2_with fail
    refine bodyPost_ret (v := .tuple #[.agg #[.int .i64 2, .int .i64 n1, .int .i64 n3, .int .i64 n5, .int .i64 0, .bool false], .bool true]) ?_ rfl ⟨by rw [DE.out], ?_⟩
    · simp only [results, Tryd.results20]
      go_simp
    · repeat (first | (with_reducible exact B6.out) | refine Below.setCell ?_ (by simp <;> omega) _)
  · have DE := Lib.hid (decI_not RI.out he)
    have cm : ((etxtB ⟨2, n1, n3, n5, 0, false⟩).toList == s.toList) = false := str_parts he
    have cm2 : (s.toList == (etxtB ⟨2, n1, n3, n5, 0, false⟩).toList) = false := str_parts (fun h => he h.symm)
    clear he hs0
    obtain ⟨E, hE⟩ : ∃ E, E = etxtB ⟨2, n1, n3, n5, 0, false⟩ := ⟨_, rfl⟩
    rw [← hE] at cm cm2 EN
    clear hE
    go_wp2_with fail
    have B5 : Hid (Below w.heap.size w ((((((w4.setCell ⟨w1.heap.size + 1, 0, none⟩ (.int .i64 2)).setCell ⟨w1.heap.size + 1, 1, none⟩ (.int .i64 n1)).setCell ⟨w1.heap.size + 1, 2, none⟩ (.int .i64 n3)).setCell ⟨w1.heap.size + 1, 3, none⟩ (.int .i64 n5)).setCell ⟨w1.heap.size + 1, 4, none⟩ (.int .i64 0)).setCell ⟨w1.heap.size + 1, 5, none⟩ (.bool false))) := by
      show Below _ _ _
      repeat (first | (with_reducible exact B4.out) | refine Below.setCell ?_ (by simp <;> omega) _)
    have K5 : Hid (BlkIs ((((((w4.setCell ⟨w1.heap.size + 1, 0, none⟩ (.int .i64 2)).setCell ⟨w1.heap.size + 1, 1, none⟩ (.int .i64 n1)).setCell ⟨w1.heap.size + 1, 2, none⟩ (.int .i64 n3)).setCell ⟨w1.heap.size + 1, 3, none⟩ (.int .i64 n5)).setCell ⟨w1.heap.size + 1, 4, none⟩ (.int .i64 0)).setCell ⟨w1.heap.size + 1, 5, none⟩ (.bool false)) w.heap.size 29 #[.int .i64 0, .int .i64 0, .int .i64 0, .int .i64 0, .int .i64 0, .bool false]) := by
      show BlkIs _ _ _ _
      rw [BlkIs]
      repeat rw [Below.heap_setCell _ _ _ _ (by simp <;> omega)]
      exact K4.out
    have X5 : Hid (BlkIs ((((((w4.setCell ⟨w1.heap.size + 1, 0, none⟩ (.int .i64 2)).setCell ⟨w1.heap.size + 1, 1, none⟩ (.int .i64 n1)).setCell ⟨w1.heap.size + 1, 2, none⟩ (.int .i64 n3)).setCell ⟨w1.heap.size + 1, 3, none⟩ (.int .i64 n5)).setCell ⟨w1.heap.size + 1, 4, none⟩ (.int .i64 0)).setCell ⟨w1.heap.size + 1, 5, none⟩ (.bool false)) (w1.heap.size + 1) 29 #[.int .i64 2, .int .i64 n1, .int .i64 n3, .int .i64 n5, .int .i64 0, .bool false]) := ((((((X4.out.store 0 (.int .i64 2)).store 1 (.int .i64 n1)).store 2 (.int .i64 n3)).store 3 (.int .i64 n5)).store 4 (.int .i64 0)).store 5 (.bool false))
    refine (EN.out _ (T.out.below B5.out)).mono ?_
    rintro e w6 ⟨rfl, hb6⟩
    have B6 := Lib.hid (below_step B5.out hb6)
    have hk6 := K5.out.belowE hb6
    have hx6 := X5.out.belowE hb6
    have x0 := hx6.cell 0
    have x1 := hx6.cell 1
    have x2 := hx6.cell 2
    have x3 := hx6.cell 3
    have x4 := hx6.cell 4
    have x5 := hx6.cell 5
    have y0 := hk6.cell 0
    have z0 := hk6.free 0
    have y1 := hk6.cell 1
    have z1 := hk6.free 1
    have y2 := hk6.cell 2
    have z2 := hk6.free 2
    have y3 := hk6.cell 3
    have z3 := hk6.free 3
    have y4 := hk6.cell 4
    have z4 := hk6.free 4
    have y5 := hk6.cell 5
    have z5 := hk6.free 5
    simp only [List.getElem?_toArray, List.getElem?_cons_zero, List.getElem?_cons_succ] at x0 x1 x2 x3 x4 x5 y0 y1 y2 y3 y4 y5
    clear hb6 hk6 hx6
    go_wp2_with fail
    refine bodyPost_ret (v := .tuple #[.agg #[.int .i64 0, .int .i64 0, .int .i64 0, .int .i64 0, .int .i64 0, .bool false], .bool false]) ?_ rfl ⟨by rw [DE.out], ?_⟩
    · simp only [results, Tryd.results20]
      go_simp
    · repeat (first | (with_reducible exact B6.out) | refine Below.setCell ?_ (by simp <;> omega) _)

set_option maxHeartbeats 8000000 in
set_option maxRecDepth 8000 in
theorem decImpl_Pen (s : ByteArray) (w : World) (hs : s.size ≤ 4000000000) (ht : TB w) (ha : AT w) (hm : ML w) (h0 : wordB (allB 32 s) 0 = baL tPen) :
    Calls Tryd.prog 20 #[.string s] w (ReadIs w (decI s.data.toList)) := by
  have SP := Lib.hid (fun w1 h => splitLib_any s 32 w1 (by omega) h)
  have RI := Lib.hid (rItem_of (s := s))
  have hpos := cutB_pos 32 (s.data.toList.count 32) s
  have hlz : ∀ t ∈ allB 32 s, t.size ≤ 4294967280 := fun t h => by have := cutB_small h; omega
  have hln : (allB 32 s).length ≤ 4294967290 := by
    have h1 := cutB_le 32 (s.data.toList.count 32) s
    have h2 : s.data.toList.count 32 ≤ s.data.toList.length := List.count_le_length
    have h3 : s.data.toList.length = s.size := rfl
    show (cutB 32 (s.data.toList.count 32) s).length ≤ _
    omega
  rw [show rItem s = rItemW (allB 32 s) from rfl] at RI
  change 1 ≤ (allB 32 s).length at hpos
  obtain ⟨l, hl⟩ : ∃ l, l = allB 32 s := ⟨_, rfl⟩
  rw [← hl] at SP RI hpos hlz hln h0
  clear hl
  have NU := fun (i : Nat) (hi : i ≤ 1000) => Lib.hid (fun A c B w2 hB hx ha => number_any A l.length c i B l w2 hB hx hln hi hlz ha)
  have N1 := NU 1 (by omega)
  have N3 := NU 3 (by omega)
  have N5 := NU 5 (by omega)
  clear NU hlz
  have T := Lib.hid ht
  have AA := Lib.hid ha
  have MM := Lib.hid hm
  clear ht ha hm
  have E0 : Hid (∀ t, l[0]? = some t → wordB l 0 = t) := fun t h => by rw [wordB, h]; rfl
  have EQ : Hid (rItemW l = ⟨3, numB l 3, 0, 0, numB l 1, decide (4 < l.length)⟩) := by show _ = _; rw [rItemW, if_neg (by rw [h0]; exact pen_ne_box), if_neg (by rw [h0]; exact pen_ne_glue), if_pos h0]
  obtain ⟨n1, hn1⟩ : ∃ z, z = numB l 1 := ⟨_, rfl⟩
  obtain ⟨n3, hn3⟩ : ∃ z, z = numB l 3 := ⟨_, rfl⟩
  obtain ⟨n5, hn5⟩ : ∃ z, z = numB l 5 := ⟨_, rfl⟩
  rw [← hn1] at N1
  rw [← hn3] at N3
  rw [← hn5] at N5
  rw [← hn1, ← hn3] at EQ
  clear hn1 hn3 hn5
  obtain ⟨n, hn⟩ : ∃ n, n = l.length := ⟨_, rfl⟩
  rw [← hn] at SP hpos hln N1 N3 N5 EQ
  have HN := Lib.hid hn
  clear hn
  obtain ⟨fb, hfb⟩ : ∃ fb, fb = decide (4 < n) := ⟨_, rfl⟩
  have hd4 : decide ((4 : Int) < (n : Int)) = fb := by rw [hfb]; simp only [decide_eq_decide]; omega
  rw [← hfb] at EQ
  clear hfb
  rw [EQ.out] at RI
  clear EQ
  have BA0 := Lib.hid ((Below.refl w.heap.size w).alloc (Nat.le_refl _) (.cells #[.int .i64 0, .int .i64 0, .int .i64 0, .int .i64 0, .int .i64 0, .bool false] 29))
  go_enter Tryd.func20, Tryd.ntmps20
  go_wp2_with fail
  refine (SP.out _ (MM.out.below BA0.out)).mono ?_
  rintro e w1 ⟨rfl, hw1⟩
  have hb1 : Below (w.alloc (.cells #[.int .i64 0, .int .i64 0, .int .i64 0, .int .i64 0, .int .i64 0, .bool false] 29)).heap.size (w.alloc (.cells #[.int .i64 0, .int .i64 0, .int .i64 0, .int .i64 0, .int .i64 0, .bool false] 29)) w1 := by rw [hw1]; exact (Below.refl _ _).alloc (Nat.le_refl _) _
  have hrd : Rd w1 1 (some ⟨w.heap.size + 1, 0, none⟩) n (strs' l) := by
    rw [hw1]
    have h := rd_fresh (w.alloc (.cells #[.int .i64 0, .int .i64 0, .int .i64 0, .int .i64 0, .int .i64 0, .bool false] 29)) l
    rw [World.size_alloc, ← HN.out] at h
    exact h
  have hsz1 : w.heap.size + 2 ≤ w1.heap.size := by rw [hw1]; simp
  obtain ⟨hk, hb'⟩ := box_at hb1
  have B1 := Lib.hid hb'
  obtain ⟨b0, o0, t0, hA0, et, hct⟩ := hrd.str_at (k := 0) (by omega)
  injection hA0 with hA0
  injection hA0 with hA1 hA2
  subst hA1
  subst hA2
  have hw0 := E0.out t0 et
  rw [hw0] at h0
  have a0 : ∀ o o', ((w1.alloc o).alloc o').cell? ⟨w.heap.size + 1, 0, none⟩ = some (.string t0) := fun o o' => cell_alloc (cell_alloc hct o) o'
  have hbW : Below w1.heap.size w1 ((w1.alloc (.cells #[.slice (some ⟨w.heap.size + 1, 0, none⟩) n n] 55)).alloc (.cells #[.int .i64 0, .int .i64 0, .int .i64 0, .int .i64 0, .int .i64 0, .bool false] 29)) := ((Below.refl _ _).alloc (Nat.le_refl _) _).alloc (by simp) _
  have R3 := Lib.hid (hrd.below hbW)
  have K3 : Hid (BlkIs ((w1.alloc (.cells #[.slice (some ⟨w.heap.size + 1, 0, none⟩) n n] 55)).alloc (.cells #[.int .i64 0, .int .i64 0, .int .i64 0, .int .i64 0, .int .i64 0, .bool false] 29)) w.heap.size 29 #[.int .i64 0, .int .i64 0, .int .i64 0, .int .i64 0, .int .i64 0, .bool false]) := by
    show BlkIs _ _ _ _
    have := hbW.block w.heap.size (by omega)
    rw [BlkIs, this]; exact hk
  have X3 : Hid (BlkIs ((w1.alloc (.cells #[.slice (some ⟨w.heap.size + 1, 0, none⟩) n n] 55)).alloc (.cells #[.int .i64 0, .int .i64 0, .int .i64 0, .int .i64 0, .int .i64 0, .bool false] 29)) (w1.heap.size + 1) 29 #[.int .i64 0, .int .i64 0, .int .i64 0, .int .i64 0, .int .i64 0, .bool false]) := by
    show BlkIs _ _ _ _
    have h := heap_alloc_new (w1.alloc (.cells #[.slice (some ⟨w.heap.size + 1, 0, none⟩) n n] 55)) (.cells #[.int .i64 0, .int .i64 0, .int .i64 0, .int .i64 0, .int .i64 0, .bool false] 29)
    rw [World.size_alloc] at h
    exact h
  have C3 : Hid ((((w1.alloc (.cells #[.slice (some ⟨w.heap.size + 1, 0, none⟩) n n] 55)).alloc (.cells #[.int .i64 0, .int .i64 0, .int .i64 0, .int .i64 0, .int .i64 0, .bool false] 29))).cell? ⟨w1.heap.size, 0, none⟩ = some (.slice (some ⟨w.heap.size + 1, 0, none⟩) n n)) := by
    show _ = _
    refine cell_alloc ?_ _
    rw [cell_of_row _ w1.heap.size 0 _ 55 (0, 0) (heap_alloc_new w1 _)]
    rfl
  have B3 := Lib.hid (below_step B1.out hbW)
  have A3 := Lib.hid (AA.out.below B3.out)
  clear hw1 hb1 hk hb' hrd et hct hw0 E0 hbW
  have s0 := str_otherL (show ¬ t0 = baL tBox by rw [h0]; exact pen_ne_box)
  have q0 : (t0.toList == (⟨#[98, 111, 120]⟩ : ByteArray).toList) = false := str_parts (show ¬ t0 = baL tBox by rw [h0]; exact pen_ne_box)
  unfold tBox at s0
  have s1 := str_otherL (show ¬ t0 = baL tGlue by rw [h0]; exact pen_ne_glue)
  have q1 : (t0.toList == (⟨#[103, 108, 117, 101]⟩ : ByteArray).toList) = false := str_parts (show ¬ t0 = baL tGlue by rw [h0]; exact pen_ne_glue)
  unfold tGlue at s1
  have s2 := str_sameL h0
  have q2 : (t0.toList == (⟨#[112, 101, 110, 97, 108, 116, 121]⟩ : ByteArray).toList) = true := str_same h0
  unfold tPen at s2
  clear h0
  have M3 : Hid (∀ W, Below (((w1.alloc (.cells #[.slice (some ⟨w.heap.size + 1, 0, none⟩) n n] 55)).alloc (.cells #[.int .i64 0, .int .i64 0, .int .i64 0, .int .i64 0, .int .i64 0, .bool false] 29))).heap.size ((w1.alloc (.cells #[.slice (some ⟨w.heap.size + 1, 0, none⟩) n n] 55)).alloc (.cells #[.int .i64 0, .int .i64 0, .int .i64 0, .int .i64 0, .int .i64 0, .bool false] 29)) W → Calls Tryd.prog 44 #[.int .i64 3, .pointer (some ⟨w1.heap.size, 0, none⟩)] W (IntIs W n3)) := fun W hb => N3.out _ _ _ _ (cell_below hb C3.out) (R3.out.below hb) (A3.out.below hb)
  have M1 : Hid (∀ W, Below (((w1.alloc (.cells #[.slice (some ⟨w.heap.size + 1, 0, none⟩) n n] 55)).alloc (.cells #[.int .i64 0, .int .i64 0, .int .i64 0, .int .i64 0, .int .i64 0, .bool false] 29))).heap.size ((w1.alloc (.cells #[.slice (some ⟨w.heap.size + 1, 0, none⟩) n n] 55)).alloc (.cells #[.int .i64 0, .int .i64 0, .int .i64 0, .int .i64 0, .int .i64 0, .bool false] 29)) W → Calls Tryd.prog 44 #[.int .i64 1, .pointer (some ⟨w1.heap.size, 0, none⟩)] W (IntIs W n1)) := fun W hb => N1.out _ _ _ _ (cell_below hb C3.out) (R3.out.below hb) (A3.out.below hb)
  have hc3 := C3.out
  go_wp2_with fail
  go_region_with (first | (go_at_call_of 44 (3 : Int); (refine (M3.out _ (Below.refl _ _).drew).mono ?_); rintro e wa ⟨rfl, hba⟩; have BA := Lib.hid (drew_then hba); have ca := cell_below BA.out C3.out; clear hba) | (go_at_call_of 44 (1 : Int); (refine (M1.out _ BA.out).mono ?_); rintro e w4 ⟨rfl, hbb⟩; have hb4 := below_step BA.out hbb; have cb := cell_below hb4 C3.out; have K4 := Lib.hid (K3.out.belowE hb4); have X4 := Lib.hid (X3.out.belowE hb4); have B4 := Lib.hid (below_step B3.out hb4); have hx4 := X4.out; have hk4 := K4.out; have hsz4 : w1.heap.size + 2 ≤ w4.heap.size := (by have := hb4.size; simp at this; omega); have u0 := hx4.cell 0; have u1 := hx4.cell 1; have u2 := hx4.cell 2; have u3 := hx4.cell 3; have u4 := hx4.cell 4; have u5 := hx4.cell 5; have v0 := hx4.free 0; have v1 := hx4.free 1; have v2 := hx4.free 2; have v3 := hx4.free 3; have v4 := hx4.free 4; have v5 := hx4.free 5; have y0 := hk4.cell 0; have y1 := hk4.cell 1; have y2 := hk4.cell 2; have y3 := hk4.cell 3; have y4 := hk4.cell 4; have y5 := hk4.cell 5; have z0 := hk4.free 0; have z1 := hk4.free 1; have z2 := hk4.free 2; have z3 := hk4.free 3; have z4 := hk4.free 4; have z5 := hk4.free 5; simp only [List.getElem?_toArray, List.getElem?_cons_zero, List.getElem?_cons_succ] at u0 u1 u2 u3 u4 u5 y0 y1 y2 y3 y4 y5; clear hx4 hk4 hb4 hbb))
  all_goals
    by_cases hs0 : s = baL []
    · have DE := Lib.hid (decI_empty hs0)
      have g1 := str_sameL hs0
      have g2 : (s.toList == (⟨#[]⟩ : ByteArray).toList) = true := str_same hs0
      clear hs0
      go_wp2_with fail
      refine bodyPost_ret (v := .tuple #[.agg #[.int .i64 0, .int .i64 0, .int .i64 0, .int .i64 0, .int .i64 0, .bool false], .bool false]) ?_ rfl ⟨by rw [DE.out], ?_⟩
      · simp only [results, Tryd.results20]
        go_simp
      · repeat (first | (with_reducible exact B4.out) | refine Below.setCell ?_ (by simp <;> omega) _)
    have g1 := str_otherL hs0
    have g2 : (s.toList == (⟨#[]⟩ : ByteArray).toList) = false := str_parts hs0
    have EN := Lib.hid (fun w5 h => encImpl_any ⟨3, n3, 0, 0, n1, fb⟩ w5 h)
    simp only at EN
    by_cases he : etxtB ⟨3, n3, 0, 0, n1, fb⟩ = s
    · have DE := Lib.hid (decI_yes RI.out hs0 he)
      have cm : ((etxtB ⟨3, n3, 0, 0, n1, fb⟩).toList == s.toList) = true := str_same he
      have cm2 : (s.toList == (etxtB ⟨3, n3, 0, 0, n1, fb⟩).toList) = true := str_same he.symm
      clear he hs0
      obtain ⟨E, hE⟩ : ∃ E, E = etxtB ⟨3, n3, 0, 0, n1, fb⟩ := ⟨_, rfl⟩
      rw [← hE] at cm cm2 EN
      clear hE
      go_wp2_with fail
      have B5 : Hid (Below w.heap.size w ((((((w4.setCell ⟨w1.heap.size + 1, 0, none⟩ (.int .i64 3)).setCell ⟨w1.heap.size + 1, 1, none⟩ (.int .i64 n3)).setCell ⟨w1.heap.size + 1, 2, none⟩ (.int .i64 0)).setCell ⟨w1.heap.size + 1, 3, none⟩ (.int .i64 0)).setCell ⟨w1.heap.size + 1, 4, none⟩ (.int .i64 n1)).setCell ⟨w1.heap.size + 1, 5, none⟩ (.bool fb))) := by
        show Below _ _ _
        repeat (first | (with_reducible exact B4.out) | refine Below.setCell ?_ (by simp <;> omega) _)
      have K5 : Hid (BlkIs ((((((w4.setCell ⟨w1.heap.size + 1, 0, none⟩ (.int .i64 3)).setCell ⟨w1.heap.size + 1, 1, none⟩ (.int .i64 n3)).setCell ⟨w1.heap.size + 1, 2, none⟩ (.int .i64 0)).setCell ⟨w1.heap.size + 1, 3, none⟩ (.int .i64 0)).setCell ⟨w1.heap.size + 1, 4, none⟩ (.int .i64 n1)).setCell ⟨w1.heap.size + 1, 5, none⟩ (.bool fb)) w.heap.size 29 #[.int .i64 0, .int .i64 0, .int .i64 0, .int .i64 0, .int .i64 0, .bool false]) := by
        show BlkIs _ _ _ _
        rw [BlkIs]
        repeat rw [Below.heap_setCell _ _ _ _ (by simp <;> omega)]
        exact K4.out
      have X5 : Hid (BlkIs ((((((w4.setCell ⟨w1.heap.size + 1, 0, none⟩ (.int .i64 3)).setCell ⟨w1.heap.size + 1, 1, none⟩ (.int .i64 n3)).setCell ⟨w1.heap.size + 1, 2, none⟩ (.int .i64 0)).setCell ⟨w1.heap.size + 1, 3, none⟩ (.int .i64 0)).setCell ⟨w1.heap.size + 1, 4, none⟩ (.int .i64 n1)).setCell ⟨w1.heap.size + 1, 5, none⟩ (.bool fb)) (w1.heap.size + 1) 29 #[.int .i64 3, .int .i64 n3, .int .i64 0, .int .i64 0, .int .i64 n1, .bool fb]) := ((((((X4.out.store 0 (.int .i64 3)).store 1 (.int .i64 n3)).store 2 (.int .i64 0)).store 3 (.int .i64 0)).store 4 (.int .i64 n1)).store 5 (.bool fb))
      refine (EN.out _ (T.out.below B5.out)).mono ?_
      rintro e w6 ⟨rfl, hb6⟩
      have B6 := Lib.hid (below_step B5.out hb6)
      have hk6 := K5.out.belowE hb6
      have hx6 := X5.out.belowE hb6
      have x0 := hx6.cell 0
      have x1 := hx6.cell 1
      have x2 := hx6.cell 2
      have x3 := hx6.cell 3
      have x4 := hx6.cell 4
      have x5 := hx6.cell 5
      have y0 := hk6.cell 0
      have z0 := hk6.free 0
      have y1 := hk6.cell 1
      have z1 := hk6.free 1
      have y2 := hk6.cell 2
      have z2 := hk6.free 2
      have y3 := hk6.cell 3
      have z3 := hk6.free 3
      have y4 := hk6.cell 4
      have z4 := hk6.free 4
      have y5 := hk6.cell 5
      have z5 := hk6.free 5
      simp only [List.getElem?_toArray, List.getElem?_cons_zero, List.getElem?_cons_succ] at x0 x1 x2 x3 x4 x5 y0 y1 y2 y3 y4 y5
      clear hb6 hk6 hx6
      go_wp2_with fail
      refine bodyPost_ret (v := .tuple #[.agg #[.int .i64 3, .int .i64 n3, .int .i64 0, .int .i64 0, .int .i64 n1, .bool fb], .bool true]) ?_ rfl ⟨by rw [DE.out], ?_⟩
      · simp only [results, Tryd.results20]
        go_simp
      · repeat (first | (with_reducible exact B6.out) | refine Below.setCell ?_ (by simp <;> omega) _)
    · have DE := Lib.hid (decI_not RI.out he)
      have cm : ((etxtB ⟨3, n3, 0, 0, n1, fb⟩).toList == s.toList) = false := str_parts he
      have cm2 : (s.toList == (etxtB ⟨3, n3, 0, 0, n1, fb⟩).toList) = false := str_parts (fun h => he h.symm)
      clear he hs0
      obtain ⟨E, hE⟩ : ∃ E, E = etxtB ⟨3, n3, 0, 0, n1, fb⟩ := ⟨_, rfl⟩
      rw [← hE] at cm cm2 EN
      clear hE
      go_wp2_with fail
      have B5 : Hid (Below w.heap.size w ((((((w4.setCell ⟨w1.heap.size + 1, 0, none⟩ (.int .i64 3)).setCell ⟨w1.heap.size + 1, 1, none⟩ (.int .i64 n3)).setCell ⟨w1.heap.size + 1, 2, none⟩ (.int .i64 0)).setCell ⟨w1.heap.size + 1, 3, none⟩ (.int .i64 0)).setCell ⟨w1.heap.size + 1, 4, none⟩ (.int .i64 n1)).setCell ⟨w1.heap.size + 1, 5, none⟩ (.bool fb))) := by
        show Below _ _ _
        repeat (first | (with_reducible exact B4.out) | refine Below.setCell ?_ (by simp <;> omega) _)
      have K5 : Hid (BlkIs ((((((w4.setCell ⟨w1.heap.size + 1, 0, none⟩ (.int .i64 3)).setCell ⟨w1.heap.size + 1, 1, none⟩ (.int .i64 n3)).setCell ⟨w1.heap.size + 1, 2, none⟩ (.int .i64 0)).setCell ⟨w1.heap.size + 1, 3, none⟩ (.int .i64 0)).setCell ⟨w1.heap.size + 1, 4, none⟩ (.int .i64 n1)).setCell ⟨w1.heap.size + 1, 5, none⟩ (.bool fb)) w.heap.size 29 #[.int .i64 0, .int .i64 0, .int .i64 0, .int .i64 0, .int .i64 0, .bool false]) := by
        show BlkIs _ _ _ _
        rw [BlkIs]
        repeat rw [Below.heap_setCell _ _ _ _ (by simp <;> omega)]
        exact K4.out
      have X5 : Hid (BlkIs ((((((w4.setCell ⟨w1.heap.size + 1, 0, none⟩ (.int .i64 3)).setCell ⟨w1.heap.size + 1, 1, none⟩ (.int .i64 n3)).setCell ⟨w1.heap.size + 1, 2, none⟩ (.int .i64 0)).setCell ⟨w1.heap.size + 1, 3, none⟩ (.int .i64 0)).setCell ⟨w1.heap.size + 1, 4, none⟩ (.int .i64 n1)).setCell ⟨w1.heap.size + 1, 5, none⟩ (.bool fb)) (w1.heap.size + 1) 29 #[.int .i64 3, .int .i64 n3, .int .i64 0, .int .i64 0, .int .i64 n1, .bool fb]) := ((((((X4.out.store 0 (.int .i64 3)).store 1 (.int .i64 n3)).store 2 (.int .i64 0)).store 3 (.int .i64 0)).store 4 (.int .i64 n1)).store 5 (.bool fb))
      refine (EN.out _ (T.out.below B5.out)).mono ?_
      rintro e w6 ⟨rfl, hb6⟩
      have B6 := Lib.hid (below_step B5.out hb6)
      have hk6 := K5.out.belowE hb6
      have hx6 := X5.out.belowE hb6
      have x0 := hx6.cell 0
      have x1 := hx6.cell 1
      have x2 := hx6.cell 2
      have x3 := hx6.cell 3
      have x4 := hx6.cell 4
      have x5 := hx6.cell 5
      have y0 := hk6.cell 0
      have z0 := hk6.free 0
      have y1 := hk6.cell 1
      have z1 := hk6.free 1
      have y2 := hk6.cell 2
      have z2 := hk6.free 2
      have y3 := hk6.cell 3
      have z3 := hk6.free 3
      have y4 := hk6.cell 4
      have z4 := hk6.free 4
      have y5 := hk6.cell 5
      have z5 := hk6.free 5
      simp only [List.getElem?_toArray, List.getElem?_cons_zero, List.getElem?_cons_succ] at x0 x1 x2 x3 x4 x5 y0 y1 y2 y3 y4 y5
      clear hb6 hk6 hx6
      go_wp2_with fail
      refine bodyPost_ret (v := .tuple #[.agg #[.int .i64 0, .int .i64 0, .int .i64 0, .int .i64 0, .int .i64 0, .bool false], .bool false]) ?_ rfl ⟨by rw [DE.out], ?_⟩
      · simp only [results, Tryd.results20]
        go_simp
      · repeat (first | (with_reducible exact B6.out) | refine Below.setCell ?_ (by simp <;> omega) _)

set_option maxHeartbeats 8000000 in
set_option maxRecDepth 8000 in
theorem decImpl_No (s : ByteArray) (w : World) (hs : s.size ≤ 4000000000) (ht : TB w) (ha : AT w) (hm : ML w) (h0 : ¬ wordB (allB 32 s) 0 = baL tBox ∧ ¬ wordB (allB 32 s) 0 = baL tGlue ∧ ¬ wordB (allB 32 s) 0 = baL tPen) :
    Calls Tryd.prog 20 #[.string s] w (ReadIs w (decI s.data.toList)) := by
  have SP := Lib.hid (fun w1 h => splitLib_any s 32 w1 (by omega) h)
  have RI := Lib.hid (rItem_of (s := s))
  have hpos := cutB_pos 32 (s.data.toList.count 32) s
  have hlz : ∀ t ∈ allB 32 s, t.size ≤ 4294967280 := fun t h => by have := cutB_small h; omega
  have hln : (allB 32 s).length ≤ 4294967290 := by
    have h1 := cutB_le 32 (s.data.toList.count 32) s
    have h2 : s.data.toList.count 32 ≤ s.data.toList.length := List.count_le_length
    have h3 : s.data.toList.length = s.size := rfl
    show (cutB 32 (s.data.toList.count 32) s).length ≤ _
    omega
  rw [show rItem s = rItemW (allB 32 s) from rfl] at RI
  change 1 ≤ (allB 32 s).length at hpos
  obtain ⟨l, hl⟩ : ∃ l, l = allB 32 s := ⟨_, rfl⟩
  rw [← hl] at SP RI hpos hlz hln h0
  clear hl
  have NU := fun (i : Nat) (hi : i ≤ 1000) => Lib.hid (fun A c B w2 hB hx ha => number_any A l.length c i B l w2 hB hx hln hi hlz ha)
  clear NU hlz
  have T := Lib.hid ht
  have AA := Lib.hid ha
  have MM := Lib.hid hm
  clear ht ha hm
  have E0 : Hid (∀ t, l[0]? = some t → wordB l 0 = t) := fun t h => by rw [wordB, h]; rfl
  have EQ : Hid (rItemW l = ⟨0, 0, 0, 0, 0, false⟩) := by show _ = _; rw [rItemW, if_neg h0.1, if_neg h0.2.1, if_neg h0.2.2]
  obtain ⟨n, hn⟩ : ∃ n, n = l.length := ⟨_, rfl⟩
  rw [← hn] at SP hpos hln
  have HN := Lib.hid hn
  clear hn
  rw [EQ.out] at RI
  clear EQ
  have BA0 := Lib.hid ((Below.refl w.heap.size w).alloc (Nat.le_refl _) (.cells #[.int .i64 0, .int .i64 0, .int .i64 0, .int .i64 0, .int .i64 0, .bool false] 29))
  go_enter Tryd.func20, Tryd.ntmps20
  go_wp2_with fail
  refine (SP.out _ (MM.out.below BA0.out)).mono ?_
  rintro e w1 ⟨rfl, hw1⟩
  have hb1 : Below (w.alloc (.cells #[.int .i64 0, .int .i64 0, .int .i64 0, .int .i64 0, .int .i64 0, .bool false] 29)).heap.size (w.alloc (.cells #[.int .i64 0, .int .i64 0, .int .i64 0, .int .i64 0, .int .i64 0, .bool false] 29)) w1 := by rw [hw1]; exact (Below.refl _ _).alloc (Nat.le_refl _) _
  have hrd : Rd w1 1 (some ⟨w.heap.size + 1, 0, none⟩) n (strs' l) := by
    rw [hw1]
    have h := rd_fresh (w.alloc (.cells #[.int .i64 0, .int .i64 0, .int .i64 0, .int .i64 0, .int .i64 0, .bool false] 29)) l
    rw [World.size_alloc, ← HN.out] at h
    exact h
  have hsz1 : w.heap.size + 2 ≤ w1.heap.size := by rw [hw1]; simp
  obtain ⟨hk, hb'⟩ := box_at hb1
  have B1 := Lib.hid hb'
  obtain ⟨b0, o0, t0, hA0, et, hct⟩ := hrd.str_at (k := 0) (by omega)
  injection hA0 with hA0
  injection hA0 with hA1 hA2
  subst hA1
  subst hA2
  have hw0 := E0.out t0 et
  rw [hw0] at h0
  have a0 : ∀ o o', ((w1.alloc o).alloc o').cell? ⟨w.heap.size + 1, 0, none⟩ = some (.string t0) := fun o o' => cell_alloc (cell_alloc hct o) o'
  have hbW : Below w1.heap.size w1 ((w1.alloc (.cells #[.slice (some ⟨w.heap.size + 1, 0, none⟩) n n] 55)).alloc (.cells #[.int .i64 0, .int .i64 0, .int .i64 0, .int .i64 0, .int .i64 0, .bool false] 29)) := ((Below.refl _ _).alloc (Nat.le_refl _) _).alloc (by simp) _
  have R3 := Lib.hid (hrd.below hbW)
  have K3 : Hid (BlkIs ((w1.alloc (.cells #[.slice (some ⟨w.heap.size + 1, 0, none⟩) n n] 55)).alloc (.cells #[.int .i64 0, .int .i64 0, .int .i64 0, .int .i64 0, .int .i64 0, .bool false] 29)) w.heap.size 29 #[.int .i64 0, .int .i64 0, .int .i64 0, .int .i64 0, .int .i64 0, .bool false]) := by
    show BlkIs _ _ _ _
    have := hbW.block w.heap.size (by omega)
    rw [BlkIs, this]; exact hk
  have X3 : Hid (BlkIs ((w1.alloc (.cells #[.slice (some ⟨w.heap.size + 1, 0, none⟩) n n] 55)).alloc (.cells #[.int .i64 0, .int .i64 0, .int .i64 0, .int .i64 0, .int .i64 0, .bool false] 29)) (w1.heap.size + 1) 29 #[.int .i64 0, .int .i64 0, .int .i64 0, .int .i64 0, .int .i64 0, .bool false]) := by
    show BlkIs _ _ _ _
    have h := heap_alloc_new (w1.alloc (.cells #[.slice (some ⟨w.heap.size + 1, 0, none⟩) n n] 55)) (.cells #[.int .i64 0, .int .i64 0, .int .i64 0, .int .i64 0, .int .i64 0, .bool false] 29)
    rw [World.size_alloc] at h
    exact h
  have C3 : Hid ((((w1.alloc (.cells #[.slice (some ⟨w.heap.size + 1, 0, none⟩) n n] 55)).alloc (.cells #[.int .i64 0, .int .i64 0, .int .i64 0, .int .i64 0, .int .i64 0, .bool false] 29))).cell? ⟨w1.heap.size, 0, none⟩ = some (.slice (some ⟨w.heap.size + 1, 0, none⟩) n n)) := by
    show _ = _
    refine cell_alloc ?_ _
    rw [cell_of_row _ w1.heap.size 0 _ 55 (0, 0) (heap_alloc_new w1 _)]
    rfl
  have B3 := Lib.hid (below_step B1.out hbW)
  have A3 := Lib.hid (AA.out.below B3.out)
  clear hw1 hb1 hk hb' hrd et hct hw0 E0 hbW
  have s0 := str_otherL h0.1
  have q0 : (t0.toList == (⟨#[98, 111, 120]⟩ : ByteArray).toList) = false := str_parts h0.1
  unfold tBox at s0
  have s1 := str_otherL h0.2.1
  have q1 : (t0.toList == (⟨#[103, 108, 117, 101]⟩ : ByteArray).toList) = false := str_parts h0.2.1
  unfold tGlue at s1
  have s2 := str_otherL h0.2.2
  have q2 : (t0.toList == (⟨#[112, 101, 110, 97, 108, 116, 121]⟩ : ByteArray).toList) = false := str_parts h0.2.2
  unfold tPen at s2
  clear h0
  have K4 := K3
  have X4 := X3
  have B4 := B3
  have hx4 := X4.out
  have hk4 := K4.out
  have u0 := hx4.cell 0
  have v0 := hx4.free 0
  have u1 := hx4.cell 1
  have v1 := hx4.free 1
  have u2 := hx4.cell 2
  have v2 := hx4.free 2
  have u3 := hx4.cell 3
  have v3 := hx4.free 3
  have u4 := hx4.cell 4
  have v4 := hx4.free 4
  have u5 := hx4.cell 5
  have v5 := hx4.free 5
  have y0 := hk4.cell 0
  have z0 := hk4.free 0
  have y1 := hk4.cell 1
  have z1 := hk4.free 1
  have y2 := hk4.cell 2
  have z2 := hk4.free 2
  have y3 := hk4.cell 3
  have z3 := hk4.free 3
  have y4 := hk4.cell 4
  have z4 := hk4.free 4
  have y5 := hk4.cell 5
  have z5 := hk4.free 5
  simp only [List.getElem?_toArray, List.getElem?_cons_zero, List.getElem?_cons_succ] at u0 u1 u2 u3 u4 u5 y0 y1 y2 y3 y4 y5
  clear hx4 hk4
  by_cases hs0 : s = baL []
  · have DE := Lib.hid (decI_empty hs0)
    have g1 := str_sameL hs0
    have g2 : (s.toList == (⟨#[]⟩ : ByteArray).toList) = true := str_same hs0
    clear hs0
    go_wp2_with fail
    refine bodyPost_ret (v := .tuple #[.agg #[.int .i64 0, .int .i64 0, .int .i64 0, .int .i64 0, .int .i64 0, .bool false], .bool false]) ?_ rfl ⟨by rw [DE.out], ?_⟩
    · simp only [results, Tryd.results20]
      go_simp
    · repeat (first | (with_reducible exact B4.out) | refine Below.setCell ?_ (by simp <;> omega) _)
  have g1 := str_otherL hs0
  have g2 : (s.toList == (⟨#[]⟩ : ByteArray).toList) = false := str_parts hs0
  have EN := Lib.hid (fun w5 h => encImpl_any ⟨0, 0, 0, 0, 0, false⟩ w5 h)
  simp only at EN
  by_cases he : etxtB ⟨0, 0, 0, 0, 0, false⟩ = s
  · have DE := Lib.hid (decI_yes RI.out hs0 he)
    have cm : ((etxtB ⟨0, 0, 0, 0, 0, false⟩).toList == s.toList) = true := str_same he
    have cm2 : (s.toList == (etxtB ⟨0, 0, 0, 0, 0, false⟩).toList) = true := str_same he.symm
    clear he hs0
    obtain ⟨E, hE⟩ : ∃ E, E = etxtB ⟨0, 0, 0, 0, 0, false⟩ := ⟨_, rfl⟩
    rw [← hE] at cm cm2 EN
    clear hE
    go_wp2_with fail
    have B5 : Hid (Below w.heap.size w ((w1.alloc (.cells #[.slice (some ⟨w.heap.size + 1, 0, none⟩) n n] 55)).alloc (.cells #[.int .i64 0, .int .i64 0, .int .i64 0, .int .i64 0, .int .i64 0, .bool false] 29))) := by
      show Below _ _ _
      repeat (first | (with_reducible exact B4.out) | refine Below.setCell ?_ (by simp <;> omega) _)
    have K5 : Hid (BlkIs ((w1.alloc (.cells #[.slice (some ⟨w.heap.size + 1, 0, none⟩) n n] 55)).alloc (.cells #[.int .i64 0, .int .i64 0, .int .i64 0, .int .i64 0, .int .i64 0, .bool false] 29)) w.heap.size 29 #[.int .i64 0, .int .i64 0, .int .i64 0, .int .i64 0, .int .i64 0, .bool false]) := by
      show BlkIs _ _ _ _
      rw [BlkIs]
      repeat rw [Below.heap_setCell _ _ _ _ (by simp <;> omega)]
      exact K4.out
    have X5 : Hid (BlkIs ((w1.alloc (.cells #[.slice (some ⟨w.heap.size + 1, 0, none⟩) n n] 55)).alloc (.cells #[.int .i64 0, .int .i64 0, .int .i64 0, .int .i64 0, .int .i64 0, .bool false] 29)) (w1.heap.size + 1) 29 #[.int .i64 0, .int .i64 0, .int .i64 0, .int .i64 0, .int .i64 0, .bool false]) := X4.out
    refine (EN.out _ (T.out.below B5.out)).mono ?_
    rintro e w6 ⟨rfl, hb6⟩
    have B6 := Lib.hid (below_step B5.out hb6)
    have hk6 := K5.out.belowE hb6
    have hx6 := X5.out.belowE hb6
    have x0 := hx6.cell 0
    have x1 := hx6.cell 1
    have x2 := hx6.cell 2
    have x3 := hx6.cell 3
    have x4 := hx6.cell 4
    have x5 := hx6.cell 5
    have y0 := hk6.cell 0
    have z0 := hk6.free 0
    have y1 := hk6.cell 1
    have z1 := hk6.free 1
    have y2 := hk6.cell 2
    have z2 := hk6.free 2
    have y3 := hk6.cell 3
    have z3 := hk6.free 3
    have y4 := hk6.cell 4
    have z4 := hk6.free 4
    have y5 := hk6.cell 5
    have z5 := hk6.free 5
    simp only [List.getElem?_toArray, List.getElem?_cons_zero, List.getElem?_cons_succ] at x0 x1 x2 x3 x4 x5 y0 y1 y2 y3 y4 y5
    clear hb6 hk6 hx6
    go_wp2_with fail
    refine bodyPost_ret (v := .tuple #[.agg #[.int .i64 0, .int .i64 0, .int .i64 0, .int .i64 0, .int .i64 0, .bool false], .bool true]) ?_ rfl ⟨by rw [DE.out], ?_⟩
    · simp only [results, Tryd.results20]
      go_simp
    · repeat (first | (with_reducible exact B6.out) | refine Below.setCell ?_ (by simp <;> omega) _)
  · have DE := Lib.hid (decI_not RI.out he)
    have cm : ((etxtB ⟨0, 0, 0, 0, 0, false⟩).toList == s.toList) = false := str_parts he
    have cm2 : (s.toList == (etxtB ⟨0, 0, 0, 0, 0, false⟩).toList) = false := str_parts (fun h => he h.symm)
    clear he hs0
    obtain ⟨E, hE⟩ : ∃ E, E = etxtB ⟨0, 0, 0, 0, 0, false⟩ := ⟨_, rfl⟩
    rw [← hE] at cm cm2 EN
    clear hE
    go_wp2_with fail
    have B5 : Hid (Below w.heap.size w ((w1.alloc (.cells #[.slice (some ⟨w.heap.size + 1, 0, none⟩) n n] 55)).alloc (.cells #[.int .i64 0, .int .i64 0, .int .i64 0, .int .i64 0, .int .i64 0, .bool false] 29))) := by
      show Below _ _ _
      repeat (first | (with_reducible exact B4.out) | refine Below.setCell ?_ (by simp <;> omega) _)
    have K5 : Hid (BlkIs ((w1.alloc (.cells #[.slice (some ⟨w.heap.size + 1, 0, none⟩) n n] 55)).alloc (.cells #[.int .i64 0, .int .i64 0, .int .i64 0, .int .i64 0, .int .i64 0, .bool false] 29)) w.heap.size 29 #[.int .i64 0, .int .i64 0, .int .i64 0, .int .i64 0, .int .i64 0, .bool false]) := by
      show BlkIs _ _ _ _
      rw [BlkIs]
      repeat rw [Below.heap_setCell _ _ _ _ (by simp <;> omega)]
      exact K4.out
    have X5 : Hid (BlkIs ((w1.alloc (.cells #[.slice (some ⟨w.heap.size + 1, 0, none⟩) n n] 55)).alloc (.cells #[.int .i64 0, .int .i64 0, .int .i64 0, .int .i64 0, .int .i64 0, .bool false] 29)) (w1.heap.size + 1) 29 #[.int .i64 0, .int .i64 0, .int .i64 0, .int .i64 0, .int .i64 0, .bool false]) := X4.out
    refine (EN.out _ (T.out.below B5.out)).mono ?_
    rintro e w6 ⟨rfl, hb6⟩
    have B6 := Lib.hid (below_step B5.out hb6)
    have hk6 := K5.out.belowE hb6
    have hx6 := X5.out.belowE hb6
    have x0 := hx6.cell 0
    have x1 := hx6.cell 1
    have x2 := hx6.cell 2
    have x3 := hx6.cell 3
    have x4 := hx6.cell 4
    have x5 := hx6.cell 5
    have y0 := hk6.cell 0
    have z0 := hk6.free 0
    have y1 := hk6.cell 1
    have z1 := hk6.free 1
    have y2 := hk6.cell 2
    have z2 := hk6.free 2
    have y3 := hk6.cell 3
    have z3 := hk6.free 3
    have y4 := hk6.cell 4
    have z4 := hk6.free 4
    have y5 := hk6.cell 5
    have z5 := hk6.free 5
    simp only [List.getElem?_toArray, List.getElem?_cons_zero, List.getElem?_cons_succ] at x0 x1 x2 x3 x4 x5 y0 y1 y2 y3 y4 y5
    clear hb6 hk6 hx6
    go_wp2_with fail
    refine bodyPost_ret (v := .tuple #[.agg #[.int .i64 0, .int .i64 0, .int .i64 0, .int .i64 0, .int .i64 0, .bool false], .bool false]) ?_ rfl ⟨by rw [DE.out], ?_⟩
    · simp only [results, Tryd.results20]
      go_simp
    · repeat (first | (with_reducible exact B6.out) | refine Below.setCell ?_ (by simp <;> omega) _)

theorem decImpl_any (s : ByteArray) (w : World) (hs : s.size ≤ 4000000000) (ht : TB w) (ha : AT w) (hm : ML w) :
    Calls Tryd.prog 20 #[.string s] w (ReadIs w (decI s.data.toList)) := by
  by_cases h1 : wordB (allB 32 s) 0 = baL tBox
  · exact decImpl_Box s w hs ht ha hm h1
  by_cases h2 : wordB (allB 32 s) 0 = baL tGlue
  · exact decImpl_Glue s w hs ht ha hm h2
  by_cases h3 : wordB (allB 32 s) 0 = baL tPen
  · exact decImpl_Pen s w hs ht ha hm h3
  exact decImpl_No s w hs ht ha hm ⟨h1, h2, h3⟩
end Go.Proofs.YtmnmdecbehfegaaDoor
