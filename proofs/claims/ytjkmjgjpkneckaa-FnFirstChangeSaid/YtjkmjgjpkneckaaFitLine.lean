/-
  Contracts of the program's functions on lines: how long one is, how it fits.
-/
import Derived.Test.YtjkmjgjpkneckaaFitImpl
namespace Go.Proofs.Ytjkmjgjpkneckaa
open Go.RowKit
set_option linter.unusedVariables false

/-- The round's state: the sum's block. -/
def SumRel (w : World) (G : Nat) (xs : List It) (L m : Nat) (i : Value) (wr : World) : Prop :=
  ∃ j : Nat, j ≤ m ∧ i = .int .i64 j ∧ BlkIs wr G 56 #[.int .i64 0, .int .i64 0, .int .i64 0] ∧
    BlkIs wr (G + 1) 56 #[.int .i64 (gl xs L (L + j)).w, .int .i64 (gl xs L (L + j)).st, .int .i64 (gl xs L (L + j)).sh] ∧ Below G w wr ∧ G + 2 ≤ wr.heap.size

theorem BlkIs.below {w w' : World} {g : Nat} {t : TypeId} {cs : Array Value} (h : BlkIs w g t cs) (hb : Below w.heap.size w w') : BlkIs w' g t cs := by
  rw [BlkIs, hb.block g h.lt]; exact h

def LineIs (w : World) (g : G3) (e : Ending) (w' : World) : Prop := e = .returned (.agg #[.int .i64 g.w, .int .i64 g.st, .int .i64 g.sh]) ∧ Below w.heap.size w w'

set_option maxHeartbeats 8000000 in
theorem lineImpl_any (A : Option Addr) (n c s t : Nat) (f : Int) (xs : List It) (w : World) (hx : Rd w 6 A n (items xs)) (hv : vItems xs = true) (hs : s ≤ t) (ht : t < n) (hnc : n ≤ c) (hf : f + 1 = (s : Int)) :
    Calls Try.prog 71 #[.slice A n c, .int .i64 f, .int .i64 t] w (LineIs w (line xs (lst xs s t) t)) := by
  have hl := hx.item_len
  have hp := vItems_parts hv
  have hn : n ≤ 60 := by omega
  have hnm : n ≤ maxLen := Nat.le_trans hn (by decide)
  have X := Lib.hid hx
  have V := Lib.hid hv
  have hf1 : -1 ≤ f := by omega
  have hf2 : f < 1000 := by omega
  have F := Lib.hid hf
  have hL1 : s ≤ lst xs s t := lgo_ge _ _ _ _
  have hL2 : lst xs s t ≤ t := by have := lgo_le notBox xs (t - s) s; rw [lst]; omega
  have HS := Lib.hid (fun w1 (hr : Rd w1 6 A n (items xs)) => startImpl_any A n c s t f xs w1 hr hs ht (by omega) hf)
  obtain ⟨L, hL⟩ : ∃ L, L = lst xs s t := ⟨_, rfl⟩
  rw [← hL] at hL1 hL2 HS ⊢
  clear hL hx hv hf hp hl
  obtain ⟨b, o, y, rfl, ey, hy0, hy1, _⟩ := X.out.item_at (k := t) ht
  have hbG : b < w.heap.size := World.block_lt_of_cell? w _ hy0
  have EY := Lib.hid ey
  clear ey hy0 hy1
  obtain ⟨G, hG⟩ : ∃ G, G = w.heap.size := ⟨_, rfl⟩
  have HG := Lib.hid hG
  clear hG
  go_enter Try.func71, Try.ntmps71
  go_wp2_with fail
  refine (HS.out _ ?_).mono ?_
  · exact X.out.below (((Below.refl _ _).alloc (Nat.le_refl _) _).alloc (by simp) _)
  rintro e w' ⟨rfl, rfl⟩
  go_wp2_with fail
  go_loopw [18] (SumRel w w.heap.size xs L (t - L)) (fun i _ => (t - L) - (intOf i).toNat)
  case atStart =>
    refine ⟨0, Nat.zero_le _, rfl, ?_, ?_, ((Below.refl _ _).alloc (Nat.le_refl _) _).alloc (by simp) _, by simp⟩
    · rw [BlkIs, Below.heap_alloc _ _ _ (by simp)]
      exact heap_alloc_new w _
    · rw [gl_zero (show L + 0 ≤ L from Nat.le_refl _), BlkIs]
      have := heap_alloc_new (w.alloc (.cells #[.int .i64 0, .int .i64 0, .int .i64 0] 56)) (.cells #[.int .i64 0, .int .i64 0, .int .i64 0] 56)
      simpa using this
  case round =>
    obtain ⟨j, hj, rfl, hr0, hr1, hb, hsz⟩ := hrel
    have R0 := Lib.hid hr0
    have R1 := Lib.hid hr1
    have HB := Lib.hid hb
    have c0 := hr1.cell 0
    have c1 := hr1.cell 1
    have c2 := hr1.cell 2
    simp only [List.getElem?_toArray, List.getElem?_cons_zero, List.getElem?_cons_succ] at c0 c1 c2
    have f0 := hr1.free 0
    have f1 := hr1.free 1
    have f2 := hr1.free 2
    have hbd := gl_bound V.out L (L + j)
    by_cases hlt : j < t - L
    · obtain ⟨b', o', x, eA, ex, hc0, hc1, hc2, hc3, hc4, hc5⟩ := (X.out.below HB.out).item_at (k := L + j) (by omega)
      injection eA with eA
      injection eA with e1 e2
      subst e1
      subst e2
      have eo : o + (L + j) * 6 = o + L * 6 + j * 6 := by omega
      rw [eo] at hc0 hc1 hc2 hc3 hc4 hc5
      have hvx := vIt_bound (vItems_at V.out ex)
      have ST := Lib.hid (gl_step (show L ≤ L + j by omega) ex)
      clear ex hb hr0 hr1 eo
      obtain ⟨gw, hgw⟩ : ∃ gw, gw = (gl xs L (L + j)).w := ⟨_, rfl⟩
      obtain ⟨gst, hgst⟩ : ∃ gst, gst = (gl xs L (L + j)).st := ⟨_, rfl⟩
      obtain ⟨gsh, hgsh⟩ : ∃ gsh, gsh = (gl xs L (L + j)).sh := ⟨_, rfl⟩
      have EW := Lib.hid hgw
      have ES := Lib.hid hgst
      have EH := Lib.hid hgsh
      rw [← hgw, ← hgst, ← hgsh] at hbd R1
      rw [← hgw] at c0
      rw [← hgst] at c1
      rw [← hgsh] at c2
      clear hgw hgst hgsh
      by_cases h3 : x.k = 3
      · have SK : Hid (gl xs L (L + (j + 1)) = gl xs L (L + j)) := by show _ = _; rw [← Nat.add_assoc, ST.out, gadd, if_pos h3]
        rw [h3] at hc0
        clear h3
        go_wp2_with fail
        go_roundw
        case rel =>
          refine ⟨j + 1, by omega, by go_num, R0.out.below ?_, ?_, ?_, ?_⟩
          · exact (Below.refl _ _).alloc (Nat.le_refl _) _
          · rw [SK.out, ← EW.out, ← ES.out, ← EH.out]
            exact R1.out.below ((Below.refl _ _).alloc (Nat.le_refl _) _)
          · exact HB.out.alloc HB.out.size _
          · simp; omega
        case measure => simp [intOf] <;> omega
      · have SK : Hid (gl xs L (L + (j + 1)) = ⟨gw + x.w, gst + x.st, gsh + x.sh⟩) := by
          show _ = _
          rw [← Nat.add_assoc, ST.out, gadd, if_neg h3, EW.out, ES.out, EH.out]
        have h3' : (x.k == 3) = false := by simpa using h3
        clear h3
        have a0 := cell_alloc c0
        have a1 := cell_alloc c1
        have a2 := cell_alloc c2
        go_wp2_with fail
        refine (g2Impl_any gw gst gsh x.w x.st x.sh _ (by omega) (by omega) (by omega) (by omega) (by omega) (by omega)).mono ?_
        rintro e w1 ⟨rfl, hb1⟩
        have hba := below_step ((Below.refl wr.heap.size wr).alloc (Nat.le_refl _) _) hb1
        have B1 := Lib.hid hba
        have T0 := Lib.hid (R0.out.below hba)
        have hq := R1.out.below hba
        have T1 := Lib.hid hq
        have d0 := hq.cell 0
        have d1 := hq.cell 1
        have d2 := hq.cell 2
        have g0 := hq.free 0
        have g1 := hq.free 1
        have g2 := hq.free 2
        simp only [List.getElem?_toArray, List.getElem?_cons_zero, List.getElem?_cons_succ] at d0 d1 d2
        have hsz1 := hba.size
        clear hb1 hba hq
        go_wp2_with fail
        go_roundw
        case rel =>
          refine ⟨j + 1, by omega, by go_num, ?_, ?_, ?_, ?_⟩
          · rw [BlkIs, Below.heap_setCell, Below.heap_setCell, Below.heap_setCell]
            · exact T0.out
            all_goals (simp <;> omega)
          · rw [SK.out]
            exact ((T1.out.store 0 _).store 1 _).store 2 _
          · refine Below.setCell ?_ (by simp <;> omega) _
            refine Below.setCell ?_ (by simp <;> omega) _
            refine Below.setCell ?_ (by simp <;> omega) _
            exact HB.out.trans (B1.out.mono HB.out.size)
          · simp; omega
        case measure => simp [intOf] <;> omega
    · have hjm : j = t - L := by omega
      have hLt : L + j = t := by omega
      rw [hLt] at R1 c0 c1 c2 hbd
      clear hjm hLt hb hr0 hr1
      obtain ⟨b', o', x, eA, ex, hc0, hc1, hc2, hc3, hc4, hc5⟩ := (X.out.below HB.out).item_at (k := t) (by omega)
      injection eA with eA
      injection eA with e1 e2
      subst e1
      subst e2
      have hvx := vIt_bound (vItems_at V.out ex)
      have EX := Lib.hid ex
      have z0 := R0.out.free 0
      have z1 := R0.out.free 1
      have z2 := R0.out.free 2
      have y0 := R0.out.cell 0
      have y1 := R0.out.cell 1
      have y2 := R0.out.cell 2
      simp only [List.getElem?_toArray, List.getElem?_cons_zero, List.getElem?_cons_succ] at y0 y1 y2
      obtain ⟨gw, hgw⟩ : ∃ gw, gw = (gl xs L t).w := ⟨_, rfl⟩
      obtain ⟨gst, hgst⟩ : ∃ gst, gst = (gl xs L t).st := ⟨_, rfl⟩
      obtain ⟨gsh, hgsh⟩ : ∃ gsh, gsh = (gl xs L t).sh := ⟨_, rfl⟩
      have EW := Lib.hid hgw
      have ES := Lib.hid hgst
      have EH := Lib.hid hgsh
      rw [← hgw, ← hgst, ← hgsh] at hbd R1
      rw [← hgw] at c0
      rw [← hgst] at c1
      rw [← hgsh] at c2
      clear hgw hgst hgsh ex
      by_cases h3 : x.k = 3
      · have SK : Hid (line xs L t = ⟨gw + x.w, gst, gsh⟩) := by
          show _ = _
          rw [line_3 EX.out h3, EW.out, ES.out, EH.out]
        rw [h3] at hc0
        clear h3
        go_wp2_with fail
        go_region
        go_wp2_with fail
        refine bodyPost_ret (v := .agg #[.int .i64 (gw + x.w), .int .i64 gst, .int .i64 gsh]) ?_ rfl ⟨?_, ?_⟩
        · simp only [results, Try.results71]
          go_simp
        · rw [SK.out]
        · refine below_drewN' (w := World.setCell _ _ _) ?_ 1
          refine Below.setCell ?_ (by simp <;> omega) _
          refine Below.setCell ?_ (by simp <;> omega) _
          refine Below.setCell ?_ (by simp <;> omega) _
          refine Below.setCell ?_ (by simp <;> omega) _
          exact HB.out
      · have SK : Hid (line xs L t = ⟨gw, gst, gsh⟩) := by
          show _ = _
          rw [line_no EX.out h3, EW.out, ES.out, EH.out]
        have h3' : (x.k == 3) = false := by simpa using h3
        clear h3
        go_wp2_with fail
        refine bodyPost_ret (v := .agg #[.int .i64 gw, .int .i64 gst, .int .i64 gsh]) ?_ rfl ⟨?_, ?_⟩
        · simp only [results, Try.results71]
          go_simp
        · rw [SK.out]
        · refine Below.setCell ?_ (by simp <;> omega) _
          refine Below.setCell ?_ (by simp <;> omega) _
          refine Below.setCell ?_ (by simp <;> omega) _
          exact HB.out

end Go.Proofs.Ytjkmjgjpkneckaa
