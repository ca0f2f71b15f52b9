/-
  A session in memory: the block of its fields and the row of its words; what keeps it; a written builder leaves rows of other kinds as they were.
-/
import Derived.Test.YtmljofijeladoaaDoorSesPlain
import Derived.Test.YtmljofijeladoaaDoorTxtDecI
import Derived.Test.YtmljofijeladoaaDoorBuilder
import Derived.Test.YtmljofijeladoaaDoorFillTextImpl
namespace Go.Proofs.YtmljofijeladoaaDoor
open Go.RowKit
set_option linter.unusedVariables false

/-- The session lies at block g, of type t. -/
def SesAt (t : TypeId) (w : World) (g : Nat) (st : St) : Prop :=
  okSt st ∧ ∃ A n c, BlkIs w g t #[.slice A n c, .int .i64 st.wd] ∧ w.ownsRow 0 9 1 (.slice A n c) n (strs' st.ws)
theorem SesAt.ok {t : TypeId} {w : World} {g : Nat} {st : St} (h : SesAt t w g st) : okSt st := h.1
theorem SesAt.below {t : TypeId} {w w' : World} {g : Nat} {st : St} (h : SesAt t w g st) (hb : Below w.heap.size w w') : SesAt t w' g st := by
  obtain ⟨h1, A, n, c, h2, h3⟩ := h
  exact ⟨h1, A, n, c, by rw [BlkIs, hb.block g h2.lt]; exact h2, own_below h3 hb⟩
theorem SesAt.lt {t : TypeId} {w : World} {g : Nat} {st : St} (h : SesAt t w g st) : g < w.heap.size := by
  obtain ⟨_, A, n, c, h2, _⟩ := h
  exact h2.lt
theorem own_len {w : World} {b : Nat} {A : Option Addr} {n c : Nat} {l : List ByteArray} (h : w.ownsRow b 9 1 (.slice A n c) n (strs' l)) : l.length = n := by
  have := h.1; simpa [strs'] using this
theorem SesAt.store {t : TypeId} {w : World} {g : Nat} {st : St} (ht : t ≠ 9) {A : Option Addr} {n c : Nat} (h2 : BlkIs w g t #[.slice A n c, .int .i64 st.wd]) (i : Nat) (u : Value) {A' : Option Addr} {n' c' : Nat} {ws : List ByteArray}
    (h3 : w.ownsRow 0 9 1 (.slice A' n' c') n' (strs' ws)) : (w.setCell ⟨g, i, none⟩ u).ownsRow 0 9 1 (.slice A' n' c') n' (strs' ws) :=
  h3.kept (gr_set0 w g i u) (.inr (Lib.ownBlock_ne h3 h2 ht))
theorem SesAt.setWords {t : TypeId} {w : World} {g : Nat} {st : St} (ht : t ≠ 9) (h : SesAt t w g st) {A' : Option Addr} {n' c' : Nat} {ws : List ByteArray} (hk : okSt ⟨ws, st.wd⟩)
    (h3 : w.ownsRow 0 9 1 (.slice A' n' c') n' (strs' ws)) : SesAt t (w.setCell ⟨g, 0, none⟩ (.slice A' n' c')) g ⟨ws, st.wd⟩ := by
  obtain ⟨_, A, n, c, h2, _⟩ := h
  exact ⟨hk, A', n', c', h2.store 0 _, SesAt.store ht h2 0 _ h3⟩
theorem SesAt.setWidth {t : TypeId} {w : World} {g : Nat} {st : St} (ht : t ≠ 9) (h : SesAt t w g st) {wd : Int} (hk : okSt ⟨st.ws, wd⟩) : SesAt t (w.setCell ⟨g, 1, none⟩ (.int .i64 wd)) g ⟨st.ws, wd⟩ := by
  obtain ⟨_, A, n, c, h2, h3⟩ := h
  exact ⟨hk, A, n, c, h2.store 1 _, SesAt.store ht h2 1 _ h3⟩
theorem SesAt.cells {t : TypeId} {w : World} {g : Nat} {st : St} (h : SesAt t w g st) :
    ∃ A n c, w.cell? ⟨g, 0, none⟩ = some (.slice A n c) ∧ w.cell? ⟨g, 1, none⟩ = some (.int .i64 st.wd) ∧ w.frozen? ⟨g, 0, none⟩ = false ∧ w.frozen? ⟨g, 1, none⟩ = false ∧ Rd w 1 A n (strs' st.ws) ∧ n ≤ c ∧ n ≤ 40 ∧ st.ws.length = n := by
  obtain ⟨h1, A, n, c, h2, h3⟩ := h
  have hl := own_len h3
  have hw := (vWrap_words h1).1
  obtain ⟨A', c', e, hc⟩ := own_shape h3
  injection e with _ _ e
  exact ⟨A, n, c, h2.cell 0, h2.cell 1, h2.free 0, h2.free 1, Rd.own h3, by omega, by omega, hl⟩
theorem SesAt.words {st : St} (h : okSt st) : ∀ s ∈ st.ws, s.size ≤ 9223372036854775807 := fun s hs => by
  have := ((vWrap_words h).2.1 s hs).2
  omega
/-- One command has been carried out. -/
def Stepped (t : TypeId) (w : World) (g : Nat) (r : ByteArray × St) (e : Ending) (w' : World) : Prop := e = .returned (.string r.1) ∧ SesAt t w' g r.2 ∧ w.grownBy w' (some g)
theorem gr_of_below {w w' : World} {g : Nat} (h : Below w.heap.size w w') : w.grownBy w' (some g) := gr_below (World.grownBy.refl w (some g)) h
/-- A row that has just been made whole. -/
theorem own_fresh (w : World) (l : List ByteArray) (hl : l.length ≤ 9223372036854775807) : (w.alloc (.cells (strs' l).toArray 9)).ownsRow w.heap.size 9 1 (.slice (some ⟨w.heap.size, 0, none⟩) l.length l.length) l.length (strs' l) :=
  ⟨by simp [strs'], .inr ⟨w.heap.size, l.length, (strs' l).toArray, rfl, Nat.le_refl _, heap_alloc_new w _, Nat.le_refl _, by unfold maxLen; exact hl, by simp [strs'], by simp [strs']; exact List.take_of_length_le (by simp)⟩⟩

/-! ### A builder that is written -/
theorem Keeps.app0 {a w w' : World} (h : Keeps a w) {base n : Nat} {v : Value} {xs : List Value} (ho : w.ownsRow base 5 1 v n xs) (hg : w.grownBy w' v.ownBlock) : Keeps a w' := fun k c T h1 h2 h3 => by
  have h4 := h k c T h1 h2 h3
  have hlt : k < w.heap.size := (Array.getElem?_eq_some_iff.1 h4).1
  rw [hg.block k hlt (fun e => Lib.ownBlock_ne ho h4 h2 e.symm)]
  exact h4
set_option maxRecDepth 8000 in
set_option maxHeartbeats 2000000 in
theorem writeString_keeps (B b : Nat) (bs : List Value) (s : ByteArray) (w : World) (h : Lib.IsBuilder 43 5 B b bs w) (hlen : bs.length + s.size ≤ 1000000) (hBw : B ≤ w.heap.size) :
    Calls Tryd.prog 24 #[.pointer (some ⟨b, 0, none⟩), .string s] w fun e w' => e = .returned (.tuple #[.int .i64 s.size, .nilIface]) ∧ (Lib.BuilderAt 43 5 B b (.pointer (some ⟨b, 0, none⟩)) (bs ++ Lib.strCells s) w' ∧ Below B w w') ∧ Keeps w w' := by
  obtain ⟨i0, hi, hz0, hz1, hz2⟩ := info_parts infoByte
  have HC := Lib.hid (copyCheck_keeps B b bs w h)
  clear h
  go_enter Tryd.func24, Tryd.ntmps24
  go_wp2_with fail
  refine HC.out.mono ?_
  rintro e w1 ⟨rfl, ⟨h1, hb1⟩, hk1⟩
  obtain ⟨hB, v, hbk, hown, hne⟩ := h1
  have c0 : w1.cell? ⟨b, 0, none⟩ = some (.pointer (some ⟨b, 0, none⟩)) := by rw [Lib.cell_of_heap hbk]; rfl
  have c1 : w1.cell? ⟨b, 1, none⟩ = some v := by rw [Lib.cell_of_heap hbk]; rfl
  go_wp2_with (at_builtin; refine Lib.wpList_append_own_string _ rfl _ _ 22 9 rfl B 5 i0 Tryd.underlying22 Tryd.underlying9 hi hz0 hz1 hz2 _ _ _ rfl hown s rfl ?c3 ?c4 ?c5 ?_)
  case c3 => unfold maxLen; omega
  case c4 => omega
  case c5 => have := hb1.size; omega
  intro v' w2 hown' hgrow _
  have hlt : b < w1.heap.size := by
    rcases Nat.lt_or_ge b w1.heap.size with h' | h'
    · exact h'
    · simp [Array.getElem?_eq_none h'] at hbk
  have hb2 : w2.heap[b]? = some (.cells #[.pointer (some ⟨b, 0, none⟩), v] 43 (0, 0)) := by
    rw [hgrow.block b hlt (fun e => hne e.symm)]
    exact hbk
  have d0 : w2.cell? ⟨b, 0, none⟩ = some (.pointer (some ⟨b, 0, none⟩)) := by rw [Lib.cell_of_heap hb2]; rfl
  have d1 : w2.cell? ⟨b, 1, none⟩ = some v := by rw [Lib.cell_of_heap hb2]; rfl
  have f1 : w2.frozen? ⟨b, 1, none⟩ = false := Lib.frozen_of_heap hb2 1
  obtain ⟨ao, n', cap, rfl⟩ : ∃ ao n' cap, v' = .slice ao n' cap := by
    rcases hown'.2 with ⟨hv, _⟩ | ⟨g, cap, cur, hv, _⟩
    · exact ⟨_, _, _, hv⟩
    · exact ⟨_, _, _, hv⟩
  go_wp2
  go_ret2
  refine ⟨rfl, ⟨?_, ?_⟩, (hk1.app0 hown hgrow).setBuilder hb2 1 _⟩
  · exact Lib.BuilderAt.put (T := 43) (e := 5) hB hb2 (bs' := bs ++ Lib.strCells s) (by simpa [Lib.strCells_length] using hown') (by decide)
  · exact (hb1.grown hgrow (by have := hb1.size; omega) (fun k hk => (hown.lt k hk).1)).setCell (p := ⟨b, 1, none⟩) hB _
theorem Keeps.ses {t : TypeId} {w w' : World} {g : Nat} {st : St} (hk : Keeps w w') (h1 : t ≠ 5) (h2 : t ≠ 43) (h : SesAt t w g st) : SesAt t w' g st := by
  obtain ⟨h0, A, n, c, hb, ho⟩ := h
  exact ⟨h0, A, n, c, hk g _ t hb h1 h2, hk.own ho (by decide) (by decide)⟩
/-- A builder stays where blocks from its base on stay. -/
theorem builder_kept {w w' : World} {B b g : Nat} {bs : List Value} (h : Lib.IsBuilder 43 5 B b bs w) (hg : w.grownBy w' (some g)) (hgB : g < B) : Lib.IsBuilder 43 5 B b bs w' := by
  have key : ∀ (addr : Value), Lib.BuilderAt 43 5 B b addr bs w → Lib.BuilderAt 43 5 B b addr bs w' := by
    rintro addr ⟨hB, v, hbk, hown, hne⟩
    have hlt : b < w.heap.size := by
      rcases Nat.lt_or_ge b w.heap.size with h' | h'
      · exact h'
      · simp [Array.getElem?_eq_none h'] at hbk
    refine ⟨hB, v, ?_, own_gr hown hg hgB, hne⟩
    rw [hg.block b hlt (fun e => by injection e with e; omega)]
    exact hbk
  rcases h with h | h
  · exact .inl (key _ h)
  · exact .inr (key _ h)
/-- What a written builder holds is its text. -/
theorem cells_app (l : List UInt8) (s : ByteArray) : Lib.byteCells l ++ Lib.strCells s = Lib.byteCells (l ++ s.data.toList) := by
  simp [Lib.byteCells, Lib.strCells]
end Go.Proofs.YtmljofijeladoaaDoor
