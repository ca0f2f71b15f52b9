/-
  Contract of Draw, the program's: the rows are blocks of bytes into which the texts are copied.
-/
import Derived.Lib.LazyBuf
import Derived.Test.YtigcbnehcofbcaaDoorRepeatB
import Derived.Test.YtigcbnehcofbcaaDoorStrs
namespace Go.Proofs.YtigcbnehcofbcaaDoor
open Go.RowKit
set_option linter.unusedVariables false

theorem RowB.of_block {w w' : World} {g W : Nat} {s : List UInt8} (h : RowB w g W s) (hb : w'.heap[g]? = w.heap[g]?) : RowB w' g W s := h.of_cells (fun j => World.cell?_of_block hb) (fun j => World.frozen?_of_block hb)
/-- Bytes put into a row. -/
theorem RowB.put {w : World} {g W : Nat} {s : List UInt8} (h : RowB w g W s) (x : Nat) (t : List UInt8) (hf : x + t.length ≤ s.length) : RowB (w.setCells g x (t.map u8v)) g W (s.take x ++ (t ++ s.drop (x + t.length))) := by
  have hl : (t.map u8v).length = t.length := List.length_map _
  have hW := h.fits
  have hin := World.cell?_setCells_in g (t.map u8v) x w (fun j hj => h.there _ (by omega))
  have hout := World.cell?_setCells_out g (t.map u8v) x w
  have htl : (s.take x).length = x := by rw [List.length_take]; omega
  refine ⟨fun j hj => isSome_setCells g _ _ w (fun i hi => h.there _ (by omega)) j (h.there j hj), fun j hj => by rw [World.frozen?_setCells]; exact h.free j hj, fun j y hy => ?_, by rw [List.length_append, List.length_append, htl, List.length_drop]; omega⟩
  by_cases h1 : j < x
  · rw [List.getElem?_append_left (by omega), List.getElem?_take, if_pos h1] at hy
    rw [hout ⟨g, j, none⟩ (fun _ _ => Or.inl h1)]
    exact h.holds j y hy
  · rw [List.getElem?_append_right (by omega), htl] at hy
    obtain ⟨d, rfl⟩ : ∃ d, j = x + d := ⟨j - x, by omega⟩
    rw [Nat.add_sub_cancel_left] at hy
    by_cases h2 : d < t.length
    · rw [List.getElem?_append_left h2, List.getElem?_eq_getElem h2] at hy
      injection hy with hy
      rw [hin d (by omega), List.getElem_map, hy]
    · rw [List.getElem?_append_right (by omega), List.getElem?_drop] at hy
      rw [hout ⟨g, x + d, none⟩ (fun _ _ => Or.inr (by show x + (t.map u8v).length ≤ x + d; omega))]
      refine h.holds (x + d) y ?_
      rw [← hy]
      congr 1
      omega
def rowV (W : Nat) (g : Nat) : Value := .slice (some ⟨g, 0, none⟩) W W
/-- The rows that are there: each has a block of its own behind block R. -/
structure Rows (wr : World) (R W : Nat) (gs : List Nat) (f : Nat → ByteArray) : Prop where
  beyond : ∀ (y g : Nat), gs[y]? = some g → R < g ∧ g < wr.heap.size
  apart : ∀ (i j g : Nat), gs[i]? = some g → gs[j]? = some g → i = j
  row : ∀ (y g : Nat), gs[y]? = some g → RowB wr g W (f y).data.toList
theorem Rows.keep {wr wr' : World} {R W : Nat} {gs : List Nat} {f : Nat → ByteArray} (h : Rows wr R W gs f) (hb : ∀ g, R < g → g < wr.heap.size → wr'.heap[g]? = wr.heap[g]?) (hs : wr.heap.size ≤ wr'.heap.size) : Rows wr' R W gs f :=
  ⟨fun y g hy => ⟨(h.beyond y g hy).1, Nat.lt_of_lt_of_le (h.beyond y g hy).2 hs⟩, h.apart, fun y g hy => (h.row y g hy).of_block (hb g (h.beyond y g hy).1 (h.beyond y g hy).2)⟩
theorem Rows.snoc {wr : World} {R W k g : Nat} {gs : List Nat} {f : Nat → ByteArray} {s : ByteArray} (h : Rows wr R W gs f) (hk : gs.length = k) (hR : R < g) (hg : g < wr.heap.size) (hn : ∀ (y g' : Nat), gs[y]? = some g' → g' ≠ g) (hf : f k = s) (hr : RowB wr g W s.data.toList) : Rows wr R W (gs ++ [g]) f := by
  have key : ∀ y g', (gs ++ [g])[y]? = some g' → gs[y]? = some g' ∨ (y = k ∧ g' = g) := by
    intro y g' hy
    rcases Nat.lt_or_ge y gs.length with hlt | hge
    · rw [List.getElem?_append_left hlt] at hy; exact .inl hy
    · rw [List.getElem?_append_right hge] at hy
      rcases Nat.eq_zero_or_pos (y - gs.length) with h0 | h0
      · rw [h0] at hy; injection hy with hy; exact .inr ⟨by omega, hy.symm⟩
      · rw [List.getElem?_eq_none (by simp; omega)] at hy; cases hy
  refine ⟨fun y g' hy => ?_, fun i j g' hi hj => ?_, fun y g' hy => ?_⟩
  · rcases key y g' hy with h1 | ⟨_, rfl⟩
    · exact h.beyond y g' h1
    · exact ⟨hR, hg⟩
  · rcases key i g' hi with h1 | ⟨e1, e2⟩
    · rcases key j g' hj with h2 | ⟨e3, e4⟩
      · exact h.apart i j g' h1 h2
      · exact absurd e4 (hn i g' h1)
    · rcases key j g' hj with h2 | ⟨e3, e4⟩
      · exact absurd e2 (hn j g' h2)
      · omega
  · rcases key y g' hy with h1 | ⟨rfl, rfl⟩
    · exact h.row y g' h1
    · rw [hf]; exact hr
/-- One text more. -/
theorem Rows.text {wr : World} {R W g x : Nat} {gs : List Nat} {l : List Pl} {k : Nat} {p : Pl} {y0 : Nat} (h : Rows wr R W gs (rowP (l.take k) W)) (hp : l[k]? = some p) (hy : p.y = (y0 : Int)) (hx : p.x = (x : Int)) (hg : gs[y0]? = some g) (hfit : x + p.t.size ≤ W)
    (hsz : (rowP (l.take k) W y0).size = W) : Rows (wr.setCells g x (p.t.data.toList.map u8v)) R W gs (rowP (l.take (k + 1)) W) := by
  have hs := (setCells_grown g (p.t.data.toList.map u8v) x wr)
  refine ⟨fun y g' hy' => ⟨(h.beyond y g' hy').1, Nat.lt_of_lt_of_le (h.beyond y g' hy').2 hs.size⟩, h.apart, fun y g' hy' => ?_⟩
  rw [rowP_next hp]
  unfold onRow
  by_cases e : p.y = (y : Int)
  · obtain rfl : y = y0 := by omega
    rw [if_pos e]
    rw [hg] at hy'
    injection hy' with hy'
    subst hy'
    have h1 := (h.row y g hg).put x p.t.data.toList (by show x + p.t.size ≤ (rowP (l.take k) W y).size; omega)
    rw [putS_list, hx, Int.toNat_natCast]
    exact h1
  · rw [if_neg e]
    have hne : g' ≠ g := by
      rintro rfl
      have := h.apart y y0 g' hy' hg
      omega
    exact (h.row y g' hy').of_block (hs.block g' (h.beyond y g' hy').2 (fun e => hne (by injection e with e)))

def rowsV (W n : Nat) (gs : List Nat) : List Value := gs.map (rowV W) ++ List.replicate (n - gs.length) (.slice none 0 0)
theorem rowsV_at {W n : Nat} {gs : List Nat} (h : gs.length < n) : (rowsV W n gs)[gs.length]? = some (.slice none 0 0) := by
  unfold rowsV
  rw [List.getElem?_append_right (by simp), List.length_map, Nat.sub_self, List.getElem?_replicate, if_pos (by omega)]
theorem rowsV_set {W n g : Nat} {gs : List Nat} (h : gs.length < n) : (rowsV W n gs).set gs.length (rowV W g) = rowsV W n (gs ++ [g]) := by
  unfold rowsV
  rw [List.set_append_right _ _ (by simp), List.length_map, Nat.sub_self, List.map_append, List.length_append, List.append_assoc, show n - gs.length = (n - (gs.length + 1)) + 1 from by omega, List.replicate_succ]
  rfl
theorem rowsV_full {W n y g : Nat} {gs : List Nat} (h : gs[y]? = some g) : (rowsV W n gs)[y]? = some (rowV W g) := by
  unfold rowsV
  have hlt := (List.getElem?_eq_some_iff.1 h).1
  rw [List.getElem?_append_left (by rw [List.length_map]; exact hlt), List.getElem?_map, h]
  rfl

theorem strs_at {xs : List ByteArray} {m : Nat} (h : m < xs.length) : (strs' (xs.take m ++ List.replicate (xs.length - m) ⟨#[]⟩))[m]? = some (.string ⟨#[]⟩) := by
  unfold strs'
  rw [List.getElem?_map, List.getElem?_append_right (by rw [List.length_take]; omega), List.getElem?_replicate, if_pos (by rw [List.length_take]; omega)]
  rfl
theorem strs_set {xs : List ByteArray} {m : Nat} {s : ByteArray} (h : xs[m]? = some s) : (strs' (xs.take m ++ List.replicate (xs.length - m) ⟨#[]⟩)).set m (.string s) = strs' (xs.take (m + 1) ++ List.replicate (xs.length - (m + 1)) ⟨#[]⟩) := by
  have hm := (List.getElem?_eq_some_iff.1 h).1
  have hl : (strs' (xs.take m)).length = m := by rw [strs_length, List.length_take]; omega
  have e1 : ∀ a b : List ByteArray, strs' (a ++ b) = strs' a ++ strs' b := fun a b => by simp [strs']
  have e2 : strs' (xs.take (m + 1)) = strs' (xs.take m) ++ [.string s] := by rw [List.take_add_one, h, e1]; rfl
  rw [e1, e1, List.set_append_right _ _ (by omega), hl, Nat.sub_self, e2, List.append_assoc, show xs.length - m = (xs.length - (m + 1)) + 1 from by omega, List.replicate_succ]
  rfl

/-- The rows of spaces. -/
def DwRel1 (w w1 : World) (W n : Nat) (i : Value) (wr : World) : Prop :=
  ∃ (k : Nat) (gs : List Nat), k ≤ n ∧ gs.length = k ∧ i = .int .i64 (k : Int) ∧ wr.ownsRow w1.heap.size 22 1 (.slice (some ⟨w1.heap.size, 0, none⟩) n n) n (rowsV W n gs) ∧ Rows wr w1.heap.size W gs (fun _ => spB W) ∧ Below w1.heap.size w1 wr
/-- The texts. -/
def DwRel2 (w1 : World) (l : List Pl) (W : Nat) (gs : List Nat) (i : Value) (wr : World) : Prop :=
  ∃ k : Nat, k ≤ l.length ∧ i = .int .i64 (k : Int) ∧ Rows wr w1.heap.size W gs (rowP (l.take k) W) ∧ (∀ y g, gs[y]? = some g → wr.cell? ⟨w1.heap.size, y, none⟩ = some (rowV W g)) ∧ Below w1.heap.size w1 wr
/-- The strings. -/
def DwRel3 (w1 w2 : World) (n : Nat) (xs : List ByteArray) (i : Value) (wr : World) : Prop :=
  ∃ k : Nat, k ≤ n ∧ i = .int .i64 (k : Int) ∧ wr.ownsRow w2.heap.size 9 1 (.slice (some ⟨w2.heap.size, 0, none⟩) n n) n (strs' (xs.take k ++ List.replicate (xs.length - k) ⟨#[]⟩)) ∧ Below w2.heap.size w2 wr
def DrRes (l : List Pl) (pw ph : Int) (w : World) (e : Ending) (w' : World) : Prop :=
  ∃ B k d, e = .returned (.slice B k d) ∧ w'.ownsRow w.heap.size 9 1 (.slice B k d) k (strs' (drawP l pw ph)) ∧ Below w.heap.size w w'
theorem infoRow : (Tryd.prog.info? 22).map (fun i => (i.zero, i.size, i.bytes)) = some (some (.slice none 0 0), 1, 24) := by kernel_rfl
set_option maxHeartbeats 8000000 in
theorem implDraw_any (A : Option Addr) (n c : Nat) (l : List Pl) (pw ph : Int) (w : World) (hx : Rd w 3 A n (placeds l)) (hn : n ≤ 1048576) (hz : ∀ p ∈ l, p.t.size ≤ 1048576) :
    Calls Tryd.prog 17 #[.slice A n c, .int .i64 pw, .int .i64 ph] w (DrRes l pw ph w) := by
  have HL := Lib.hid hx.placed_len
  have HC := Lib.hid (implValidPlaced_any A n c l w pw ph hx hn hz)
  cases hv : vPlaced l pw ph
  · have HV : Hid (¬ vPlaced l pw ph = true) := fun h => by rw [hv] at h; cases h
    rw [hv] at HC
    clear hx hv hz
    go_enter Tryd.func17, Tryd.ntmps17
    go_wp2_with (go_at_call 28; refine HC.out.mono ?_; rintro e w1 ⟨rfl, hb⟩; have B1 := Lib.hid hb; clear hb)
    go_ret
    exact ⟨none, 0, 0, rfl, by rw [drawP_no HV.out]; exact World.ownsRow_nil _ _ _ _, B1.out⟩
  have HV := Lib.hid hv
  have hvp := vPlaced_parts hv
  obtain ⟨hw0, hw1, hh0, hh1, hl60, hall⟩ := hvp
  have ALL := Lib.hid hall
  obtain ⟨W, rfl⟩ := Int.eq_ofNat_of_zero_le (show 0 ≤ pw by omega)
  obtain ⟨N, rfl⟩ := Int.eq_ofNat_of_zero_le (show 0 ≤ ph by omega)
  rw [hv] at HC
  clear hv hz hall
  have hmk := run_make_row' (P := Tryd.prog) 42 22 (.slice none 0 0) 24 Tryd.underlying42 infoRow rfl .i64 .i64 N (by omega) (by omega)
  have hmk2 := run_make_row' (P := Tryd.prog) 23 9 (.string ⟨#[]⟩) 16 Tryd.underlying23 infoStr rfl .i64 .i64 N (by omega) (by omega)
  have HX := Lib.hid hx
  clear hx
  go_enter Tryd.func17, Tryd.ntmps17
  go_wp2_with (go_at_call 28; refine HC.out.mono ?_; rintro e w1 ⟨rfl, hb⟩; have B1 := Lib.hid hb; clear hb)
  clear HC
  have X1 := Lib.hid (HX.out.below B1.out)
  go_loopw [23] (DwRel1 w w1 W N) (fun i _ => N - (intOf i).toNat)
  case atStart =>
    refine ⟨0, [], Nat.zero_le _, rfl, rfl, ?_, ⟨fun y g h => by simp at h, fun i j g h => by simp at h, fun y g h => by simp at h⟩, (Below.refl _ _).alloc (Nat.le_refl _) _⟩
    have h := World.ownsRow_lit (base := w1.heap.size) (e := 22) (size := 1) w1 (madeCells #[.slice none 0 0] N) N (Nat.le_refl _) (by unfold maxLen; omega) (by rw [size_madeCells]; omega)
    rw [toList_madeCells_one] at h
    exact h
  case round =>
    clear hmk
    obtain ⟨k, gs, hk, hgl, rfl, hown, hrows, hbel⟩ := hrel
    have OW := Lib.hid hown
    have RW := Lib.hid hrows
    have BW := Lib.hid hbel
    clear hown hrows hbel
    by_cases hlt : k < N
    case neg =>
      obtain rfl : k = N := by omega
      have CR0 : Hid (∀ y g, gs[y]? = some g → wr.cell? ⟨w1.heap.size, y, none⟩ = some (rowV W g)) := fun y g hy => by
        have hlt := (List.getElem?_eq_some_iff.1 hy).1
        rw [OW.out.cellAt y (by omega), rowsV_full hy]
      have hRlt := (OW.out.lt w1.heap.size rfl).2
      clear OW hlt hk
      go_wp2_with fail
      go_loopw [35] (DwRel2 w1 l W gs) (fun i _ => l.length - (intOf i).toNat)
      case atStart => exact ⟨0, Nat.zero_le _, rfl, RW.out, CR0.out, BW.out⟩
      case round =>
        clear CR0 RW BW hRlt
        obtain ⟨j, hj, rfl, hrows, hcr, hbel⟩ := hrel
        have RW := Lib.hid hrows
        have CR := Lib.hid hcr
        have BW := Lib.hid hbel
        clear hrows hcr hbel
        by_cases hlt : j < l.length
        case neg =>
          have hjn : ¬ (j : Int) < (n : Int) := by have := HL.out; omega
          rw [List.take_of_length_le (show l.length ≤ j by omega)] at RW
          obtain ⟨w2, hw2⟩ : ∃ w2, w2 = wr := ⟨_, rfl⟩
          rw [← hw2] at RW CR BW ⊢
          clear hw2 hlt hj
          obtain ⟨xs, hxs⟩ : ∃ xs, xs = drawP l (W : Int) (k : Int) := ⟨_, rfl⟩
          have hxl : xs.length = k := by rw [hxs, drawP_length HV.out]; rfl
          have HXS := Lib.hid hxs
          clear hxs
          go_wp2_with fail
          go_loopw [55] (DwRel3 w1 w2 k xs) (fun i _ => k - (intOf i).toNat)
          case atStart =>
            refine ⟨0, Nat.zero_le _, rfl, ?_, (Below.refl _ _).alloc (Nat.le_refl _) _⟩
            have h := World.ownsRow_lit (base := w2.heap.size) (e := 9) (size := 1) w2 (madeCells #[.string ⟨#[]⟩] k) k (Nat.le_refl _) (by unfold maxLen; omega) (by rw [size_madeCells]; omega)
            rw [toList_madeCells_one] at h
            simpa [strs', hxl] using h
          case round =>
            clear hmk2
            obtain ⟨m, hm, rfl, hown, hbel⟩ := hrel
            have OW := Lib.hid hown
            have BX := Lib.hid hbel
            clear hown hbel
            by_cases hlt : m < k
            case neg =>
              obtain rfl : m = k := by omega
              go_wp2_with fail
              go_ret
              refine ⟨_, _, _, rfl, ?_, B1.out.trans ((BW.out.mono (Nat.le_refl _)).trans (BX.out.mono BW.out.size) |>.mono B1.out.size)⟩
              have h := OW.out
              rw [← hxl, Nat.sub_self, List.take_length, List.replicate_zero, List.append_nil, hxl] at h
              rw [← HXS.out]
              exact own_base h (Nat.le_trans B1.out.size BW.out.size)
            obtain ⟨g, hg⟩ : ∃ g, gs[m]? = some g := ⟨_, List.getElem?_eq_getElem (by omega)⟩
            have hbey := RW.out.beyond m g hg
            have hc1 : wr.cell? ⟨w1.heap.size, m, none⟩ = some (.slice (some ⟨g, 0, none⟩) W W) := by
              rw [BX.out.cell (show w1.heap.size < w2.heap.size by omega)]
              exact CR.out m g hg
            have RG := Lib.hid ((RW.out.row m g hg).of_block (BX.out.block g hbey.2))
            have hrs := rowP_size (l := l) (w := (W : Int)) (h := (k : Int)) (fun p hp => ALL.out p hp) (by omega) m
            rw [Int.toNat_natCast] at hrs
            have hget : xs[m]? = some (rowP l W m) := by rw [HXS.out, drawP_get HV.out (by omega)]; rfl
            obtain ⟨s, hs⟩ : ∃ s, s = rowP l W m := ⟨_, rfl⟩
            rw [← hs] at RG hrs hget
            have hsl : s.data.toList.length = W := by show s.size = W; omega
            have hcv : (convert 22 9 (.slice (some ⟨g, 0, none⟩) W W)).run Tryd.prog wr = .ok (.string s) wr := by
              have h := run_convert_bytes_back wr 22 9 5 ⟨g, 0, none⟩ W s.data.toList Tryd.underlying22 Tryd.underlying5 Tryd.underlying9 (fun i hi => by
                rw [Addr.add_lit, Nat.zero_add]
                exact RG.out.holds i _ (List.getElem?_eq_getElem hi))
              rw [hsl] at h
              exact h
            have hc2 := OW.out.cellAt m (by omega)
            rw [strs_at (by omega)] at hc2
            have hf2 := OW.out.frozenAt m
            have HS := Lib.hid (OW.out.stored m (.string s)).1
            have HG := Lib.hid hget
            have hm' : (m : Int) < (k : Int) := by omega
            have hm0 : (0 : Int) ≤ (m : Int) := by omega
            clear hs hget hrs hsl hbey
            go_wp2_with fail
            go_roundw
            case rel => exact ⟨m + 1, by omega, by go_num, by rw [← strs_set HG.out]; exact HS.out, BX.out.setCell (Nat.le_refl _) _⟩
            case measure => simp [intOf] <;> omega
        have hlt' : j < n := by rw [← HL.out]; exact hlt
        obtain ⟨b, o, ⟨px, py, t⟩, rfl, ep, hc0, hc1, hc2⟩ := (X1.out.below BW.out).placed_at hlt'
        have hpl := vPl_parts (ALL.out _ (List.mem_of_getElem? ep))
        obtain ⟨_, hp0, hpx0, hpx1, hpy0, hpy1⟩ := hpl
        obtain ⟨x, hx⟩ := Int.eq_ofNat_of_zero_le hpx0
        obtain ⟨y, hy⟩ := Int.eq_ofNat_of_zero_le hpy0
        replace hx : px = (x : Int) := hx
        replace hy : py = (y : Int) := hy
        subst hx; subst hy
        replace hc0 : wr.cell? ⟨b, o + j * 3, none⟩ = some (.int .i64 (x : Int)) := hc0
        replace hc1 : wr.cell? ⟨b, o + j * 3 + 1, none⟩ = some (.int .i64 (y : Int)) := hc1
        replace hc2 : wr.cell? ⟨b, o + j * 3 + 2, none⟩ = some (.string t) := hc2
        replace hp0 : 0 < t.size := hp0
        replace hpx1 : (x : Int) + (t.size : Int) ≤ (W : Int) := hpx1
        replace hpy1 : (y : Int) < (k : Int) := hpy1
        clear hpx0 hpy0
        have EP := Lib.hid ep
        obtain ⟨g, hg⟩ : ∃ g, gs[y]? = some g := ⟨_, List.getElem?_eq_getElem (by omega)⟩
        have hbey := RW.out.beyond y g hg
        have hRl : w1.heap.size ≤ wr.heap.size := BW.out.size
        obtain ⟨WA, hWA⟩ : ∃ WA, WA = wr.alloc (.cells #[.int .i64 (x : Int), .int .i64 (y : Int), .string t] 45) := ⟨_, rfl⟩
        have KA : Hid (∀ g, g < wr.heap.size → WA.heap[g]? = wr.heap[g]?) := fun g hg => by rw [hWA]; exact heap_alloc_old wr _ hg
        have hAs : WA.heap.size = wr.heap.size + 1 := by rw [hWA]; simp
        have P0 : WA.cell? ⟨wr.heap.size, 0, none⟩ = some (.int .i64 (x : Int)) := by rw [hWA]; exact cell_of_row _ _ 0 _ _ (0, 0) (heap_alloc_new wr _)
        have P1 : WA.cell? ⟨wr.heap.size, 1, none⟩ = some (.int .i64 (y : Int)) := by rw [hWA]; exact cell_of_row _ _ 1 _ _ (0, 0) (heap_alloc_new wr _)
        have P2 : WA.cell? ⟨wr.heap.size, 2, none⟩ = some (.string t) := by rw [hWA]; exact cell_of_row _ _ 2 _ _ (0, 0) (heap_alloc_new wr _)
        have PR : WA.cell? ⟨w1.heap.size, y, none⟩ = some (.slice (some ⟨g, 0, none⟩) W W) := by
          rw [World.cell?_of_block (w := wr) (KA.out w1.heap.size (by omega))]
          exact CR.out y g hg
        have RA := Lib.hid (RW.out.keep (wr' := WA) (fun g _ h2 => KA.out g h2) (by omega))
        have BA : Hid (Below w1.heap.size w1 WA) := by rw [hWA]; exact BW.out.alloc hRl _
        have ROWg := Lib.hid (RA.out.row y g hg)
        have hrs := rowP_size (l := l.take j) (w := (W : Int)) (h := (k : Int)) (fun p hp => ALL.out p (List.mem_of_mem_take hp)) (by omega) y
        rw [Int.toNat_natCast] at hrs
        obtain ⟨C, hC⟩ : ∃ C, C = t.data.toList.map u8v := ⟨_, rfl⟩
        have hcq : ∀ q, (Builtin.copy_ #[22, 9] 3 #[.slice (some ⟨g, x, none⟩) (W - x) (W - x), .string t]).run Tryd.prog (WA.drewN q) = .ok (.int .i64 (t.size : Int)) ((WA.drewN q).setCells g x C) := by
          intro q
          rw [hC]
          exact run_copy_string (P := Tryd.prog) (WA.drewN q) 22 9 3 5 g x (W - x) (W - x) t Tryd.underlying22 (fun w => Tryd.sizeOf5 w) (by omega) (fun i hi => ROWg.out.there _ (by omega)) (fun i hi => ROWg.out.free _ (by omega))
        have RNX : Hid (∀ q, Rows ((WA.drewN q).setCells g x C) w1.heap.size W gs (rowP (l.take (j + 1)) W)) := fun q => by
          rw [hC]
          exact (RA.out.keep (wr' := WA.drewN q) (fun _ _ _ => rfl) (Nat.le_refl _)).text EP.out rfl rfl hg (by show x + t.size ≤ W; omega) (by omega)
        have CRX : Hid (∀ q y' g', gs[y']? = some g' → ((WA.drewN q).setCells g x C).cell? ⟨w1.heap.size, y', none⟩ = some (rowV W g')) := fun q y' g' h => by
          have hs := setCells_grown g C x (WA.drewN q)
          rw [World.cell?_of_block (w := WA.drewN q) (hs.block w1.heap.size (by show w1.heap.size < WA.heap.size; omega) (fun e => by injection e with e; omega))]
          show WA.cell? _ = _
          rw [World.cell?_of_block (w := wr) (KA.out w1.heap.size (by omega))]
          exact CR.out y' g' h
        have BNX : Hid (∀ q, Below w1.heap.size w1 ((WA.drewN q).setCells g x C)) := fun q => below_setCells (below_drewN' BA.out q) (by omega) (by show w1.heap.size ≤ WA.heap.size; omega) _ _
        have hx0 : (0 : Int) ≤ (x : Int) := by omega
        have hxW : (x : Int) ≤ (W : Int) := by omega
        have hy0 : (0 : Int) ≤ (y : Int) := by omega
        have hne : ¬ W = x := by omega
        clear hC ep hrs hbey
        go_wp2_with fail
        rw [← hWA]
        clear hWA hc0 hc1 hc2
        go_region_law (refine step_copy_runI rfl _ _ 22 9 rfl _ _ (by simp [Act.eval, Act.put]) (by simp [Act.eval, Act.put]) (hcq _) ?_)
        all_goals
          try go_simp
          go_wp2
          go_roundw
          case rel => exact ⟨j + 1, by omega, by go_num, RNX.out _, CRX.out _, BNX.out _⟩
          case measure => simp [intOf] <;> omega
    clear hmk2
    have hW1 : 1 ≤ W := by omega
    have hW2 : W ≤ 100 := by omega
    have hk' : (k : Int) < (N : Int) := by omega
    have hk0 : (0 : Int) ≤ (k : Int) := by omega
    obtain ⟨G, hG⟩ : ∃ G, G = (wr.alloc (.cells #[.int .u8 32] 5)).heap.size := ⟨_, rfl⟩
    have CA := Lib.hid (bRepeat_any (wr.alloc (.cells #[.int .u8 32] 5)) wr.heap.size 0 1 32 (cell_of_row _ _ 0 _ _ (0, 0) (heap_alloc_new wr _)) W hW1 hW2)
    rw [← hG] at CA
    have hAL : G = wr.heap.size + 1 := by rw [hG]; simp
    have OA := Lib.hid (OW.out.alloc (.cells #[.int .u8 32] 5))
    have hRlt := (OW.out.lt w1.heap.size rfl).2
    have BA := Lib.hid (BW.out.alloc (Nat.le_of_lt hRlt) (.cells #[.int .u8 32] 5))
    have KA : Hid (∀ g, g < wr.heap.size → (wr.alloc (.cells #[.int .u8 32] 5)).heap[g]? = wr.heap[g]?) := fun g hg => heap_alloc_old wr _ hg
    go_wp2_with fail
    refine CA.out.mono ?_
    rintro e w2 ⟨rfl, hrow, hb, hsz⟩
    have O2 := Lib.hid (own_below OA.out (by rw [← hG]; exact hb))
    have hc2 := O2.out.cellAt k (by omega)
    rw [← hgl, rowsV_at (by omega), hgl] at hc2
    have hf2 := O2.out.frozenAt k
    have HST := Lib.hid (O2.out.stored k (rowV W G)).1
    have BB := Lib.hid ((BA.out.trans (hb.mono (by omega))).setCell (p := ⟨w1.heap.size, k, none⟩) (Nat.le_refl _) (rowV W G))
    have KB : Hid (∀ g, w1.heap.size < g → g < wr.heap.size → (w2.setCell ⟨w1.heap.size, k, none⟩ (rowV W G)).heap[g]? = wr.heap[g]?) := fun g h1 h2 => by
      rw [Below.heap_setCell _ _ _ _ (show g ≠ w1.heap.size by omega), hb.block g (by omega)]
      exact KA.out g h2
    have RB : Hid (RowB (w2.setCell ⟨w1.heap.size, k, none⟩ (rowV W G)) G W (spB W).data.toList) := hrow.of_block (Below.heap_setCell _ _ _ _ (show G ≠ w1.heap.size by omega))
    have hsz2 : G < (w2.setCell ⟨w1.heap.size, k, none⟩ (rowV W G)).heap.size := by simp [World.setCell]; exact hsz
    have RN : Hid (Rows (w2.setCell ⟨w1.heap.size, k, none⟩ (rowV W G)) w1.heap.size W (gs ++ [G]) (fun _ => spB W)) :=
      (RW.out.keep KB.out (by omega)).snoc hgl (by omega) hsz2 (fun y g' hy => by have := (RW.out.beyond y g' hy).2; omega) rfl RB.out
    have OS : Hid ((w2.setCell ⟨w1.heap.size, k, none⟩ (rowV W G)).ownsRow w1.heap.size 22 1 (.slice (some ⟨w1.heap.size, 0, none⟩) N N) N (rowsV W N (gs ++ [G]))) := by
      have h := HST.out
      rw [← hgl, rowsV_set (by omega), hgl] at h
      exact h
    unfold rowV at OS RN BB
    clear hG hrow hb hsz
    subst hAL
    go_wp2_with fail
    go_roundw
    case rel => exact ⟨k + 1, gs ++ [_], by omega, by rw [List.length_append, hgl]; rfl, by go_num, OS.out, RN.out, BB.out⟩
    case measure => simp [intOf] <;> omega
end Go.Proofs.YtigcbnehcofbcaaDoor
