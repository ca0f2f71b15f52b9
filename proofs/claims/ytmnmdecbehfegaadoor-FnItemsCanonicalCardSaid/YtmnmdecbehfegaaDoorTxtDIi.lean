/-
  Contract of the program's DecodeItems.
-/
import Derived.RangeFuncNested
import Derived.RangeFuncBound
import Derived.Test.YtmnmdecbehfegaaDoorSeqRg
import Derived.Test.YtmnmdecbehfegaaDoorTxtDIp
namespace Go.Proofs.YtmnmdecbehfegaaDoor
open Go.RowKit Go.Shelf
set_option linter.unusedVariables false
attribute [local go_sem] Oper.semAt_some

theorem splitSeq_any (s t : ByteArray) (w : World) :
    Calls Tryd.prog 67 #[.string s, .string t, .int .i64 0] w fun e w' => e = .returned (.func (.func 80) #[] #[.pointer (some ⟨w.heap.size + 1, 0, none⟩), .pointer (some ⟨w.heap.size, 0, none⟩), .pointer (some ⟨w.heap.size + 1 + 1, 0, none⟩)]) ∧
      w' = ((w.alloc (.cells #[.string s] 9)).alloc (.cells #[.string t] 9)).alloc (.cells #[.int .i64 0] 3) := by
  go_enter Tryd.func67, Tryd.ntmps67
  go_wp2
  go_ret
  exact ⟨rfl, rfl⟩
theorem splitSeqP_any (s t : ByteArray) (w : World) :
    Calls Tryd.prog 50 #[.string s, .string t] w fun e w' => e = .returned (.func (.func 80) #[] #[.pointer (some ⟨w.heap.size + 1, 0, none⟩), .pointer (some ⟨w.heap.size, 0, none⟩), .pointer (some ⟨w.heap.size + 1 + 1, 0, none⟩)]) ∧
      w' = ((w.alloc (.cells #[.string s] 9)).alloc (.cells #[.string t] 9)).alloc (.cells #[.int .i64 0] 3) := by
  go_enter Tryd.func50, Tryd.ntmps50
  go_wp2_with (go_at_call 67; refine (splitSeq_any _ _ _).mono ?_; rintro e w' ⟨rfl, rfl⟩)
  go_ret
  exact ⟨rfl, rfl⟩
/-- The caller's variables between two rounds. -/
def DiV (w : World) (vo : Value) (v : ByteArray) (W : World) : Prop :=
  W.cell? ⟨w.heap.size, 0, none⟩ = some (.slice none 0 0) ∧ W.frozen? ⟨w.heap.size, 0, none⟩ = false ∧
  W.cell? ⟨w.heap.size + 1, 0, none⟩ = some (.bool false) ∧ W.frozen? ⟨w.heap.size + 1, 0, none⟩ = false ∧
  W.cell? ⟨w.heap.size + 1 + 1, 0, none⟩ = some vo ∧ W.frozen? ⟨w.heap.size + 1 + 1, 0, none⟩ = false ∧
  W.cell? ⟨w.heap.size + 1 + 1 + 1, 0, none⟩ = some (.string v) ∧ W.frozen? ⟨w.heap.size + 1 + 1 + 1, 0, none⟩ = false ∧
  W.cell? ⟨w.heap.size + 1 + 1 + 1 + 1, 0, none⟩ = some (.string ⟨#[59, 32]⟩) ∧ W.cell? ⟨w.heap.size + 1 + 1 + 1 + 1 + 1, 0, none⟩ = some (.int .i64 0)
def DiI (s : ByteArray) (w : World) (pre : List ByteArray) (v : ByteArray) (W : World) : Prop :=
  ∃ out vo, Sofar s out v ∧ out.length ≤ 60 ∧ v.size ≤ s.size ∧ DiV w vo v W ∧ W.ownsRow (w.heap.size + 1 + 1 + 1 + 1 + 1 + 1) 29 6 vo out.length (items out) ∧ Below w.heap.size w W
/-- All pieces are read. -/
def DiD (s : ByteArray) (w : World) (W : World) : Prop :=
  ∃ out vo, out.length ≤ 61 ∧ (decIs s.data.toList = if vItems out = true then (out, true) else ([], false)) ∧ (∃ v, DiV w vo v W) ∧ W.ownsRow (w.heap.size + 1 + 1 + 1 + 1 + 1 + 1) 29 6 vo out.length (items out) ∧ Below w.heap.size w W
/-- A piece was none, or one too many. -/
def DiX (s : ByteArray) (w : World) (W : World) : Prop :=
  decIs s.data.toList = ([], false) ∧ (∃ vo v, DiV w vo v W) ∧ Below w.heap.size w W
theorem DiV.keep {w : World} {vo : Value} {v : ByteArray} {W W' : World} {row : Option Nat} (h : DiV w vo v W) (hg : W.grownBy W' row) (hr : ∀ r, row = some r → ∃ o : Obj, W.heap[r]? = some o ∧ o.isCells = false) : DiV w vo v W' := by
  obtain ⟨a0, a1, b0, b1, c0, c1, d0, d1, e0, f0⟩ := h
  exact ⟨cell_kept a0 hg hr, (frozen_kept a0 hg hr).trans a1, cell_kept b0 hg hr, (frozen_kept b0 hg hr).trans b1, cell_kept c0 hg hr, (frozen_kept c0 hg hr).trans c1, cell_kept d0 hg hr, (frozen_kept d0 hg hr).trans d1, cell_kept e0 hg hr, cell_kept f0 hg hr⟩
theorem DiV.below {w : World} {vo : Value} {v : ByteArray} {W W' : World} (h : DiV w vo v W) (hb : Below W.heap.size W W') : DiV w vo v W' := by
  have key : ∀ {a : Addr} {u : Value}, W.cell? a = some u → a.block < W.heap.size := fun h => by obtain ⟨o, ho, _⟩ := cells_of_cell h; exact (Array.getElem?_eq_some_iff.1 ho).1
  obtain ⟨a0, a1, b0, b1, c0, c1, d0, d1, e0, f0⟩ := h
  exact ⟨(hb.cell (key a0)).trans a0, (hb.frozen (key a0)).trans a1, (hb.cell (key b0)).trans b0, (hb.frozen (key b0)).trans b1, (hb.cell (key c0)).trans c0, (hb.frozen (key c0)).trans c1, (hb.cell (key d0)).trans d0, (hb.frozen (key d0)).trans d1, (hb.cell (key e0)).trans e0, (hb.cell (key f0)).trans f0⟩
theorem DiV.lt {w : World} {vo : Value} {v : ByteArray} {W : World} (h : DiV w vo v W) : w.heap.size + 1 + 1 + 1 + 1 + 1 + 1 ≤ W.heap.size := by
  obtain ⟨a0, a1, b0, b1, c0, c1, d0, d1, e0, f0⟩ := h
  obtain ⟨o, ho, _⟩ := cells_of_cell f0
  exact (Array.getElem?_eq_some_iff.1 ho).1
theorem DiV.belowB {w : World} {vo : Value} {v : ByteArray} {W W' : World} (h : DiV w vo v W) (hb : Below (w.heap.size + 1 + 1 + 1 + 1 + 1 + 1) W W') : DiV w vo v W' := by
  obtain ⟨a0, a1, b0, b1, c0, c1, d0, d1, e0, f0⟩ := h
  exact ⟨(hb.cell (by simp only; omega)).trans a0, (hb.frozen (by simp only; omega)).trans a1, (hb.cell (by simp only; omega)).trans b0, (hb.frozen (by simp only; omega)).trans b1, (hb.cell (by simp only; omega)).trans c0, (hb.frozen (by simp only; omega)).trans c1, (hb.cell (by simp only; omega)).trans d0, (hb.frozen (by simp only; omega)).trans d1, (hb.cell (by simp only; omega)).trans e0, (hb.cell (by simp only; omega)).trans f0⟩
theorem DiV.grown {w : World} {vo : Value} {v : ByteArray} {W W' : World} {row : Option Nat} (h : DiV w vo v W) (hg : W.grownBy W' row) (hr : ∀ r, row = some r → w.heap.size + 1 + 1 + 1 + 1 + 1 + 1 ≤ r) : DiV w vo v W' :=
  h.belowB ((Below.refl _ _).grown hg h.lt hr)
theorem adr_ne {a b : Nat} (h : a ≠ b) : (⟨a, 0, none⟩ : Addr) ≠ ⟨b, 0, none⟩ := fun e => h (by injection e)
theorem DiV.set0 {w : World} {vo : Value} {v : ByteArray} {W : World} (h : DiV w vo v W) : DiV w vo v (W.setCell ⟨w.heap.size, 0, none⟩ (.slice none 0 0)) := by
  obtain ⟨a0, a1, b0, b1, c0, c1, d0, d1, e0, f0⟩ := h
  exact ⟨World.cell?_setCell_same _ _ _ a0, by rw [World.frozen?_setCell]; exact a1, (World.cell?_setCell_other _ _ _ _ (adr_ne (by omega))).trans b0, by rw [World.frozen?_setCell]; exact b1, (World.cell?_setCell_other _ _ _ _ (adr_ne (by omega))).trans c0, by rw [World.frozen?_setCell]; exact c1, (World.cell?_setCell_other _ _ _ _ (adr_ne (by omega))).trans d0, by rw [World.frozen?_setCell]; exact d1, (World.cell?_setCell_other _ _ _ _ (adr_ne (by omega))).trans e0, (World.cell?_setCell_other _ _ _ _ (adr_ne (by omega))).trans f0⟩
theorem DiV.set1 {w : World} {vo : Value} {v : ByteArray} {W : World} (h : DiV w vo v W) : DiV w vo v (W.setCell ⟨w.heap.size + 1, 0, none⟩ (.bool false)) := by
  obtain ⟨a0, a1, b0, b1, c0, c1, d0, d1, e0, f0⟩ := h
  exact ⟨(World.cell?_setCell_other _ _ _ _ (adr_ne (by omega))).trans a0, by rw [World.frozen?_setCell]; exact a1, World.cell?_setCell_same _ _ _ b0, by rw [World.frozen?_setCell]; exact b1, (World.cell?_setCell_other _ _ _ _ (adr_ne (by omega))).trans c0, by rw [World.frozen?_setCell]; exact c1, (World.cell?_setCell_other _ _ _ _ (adr_ne (by omega))).trans d0, by rw [World.frozen?_setCell]; exact d1, (World.cell?_setCell_other _ _ _ _ (adr_ne (by omega))).trans e0, (World.cell?_setCell_other _ _ _ _ (adr_ne (by omega))).trans f0⟩
theorem DiV.set2 {w : World} {vo : Value} {v : ByteArray} {W : World} (h : DiV w vo v W) (vo' : Value) : DiV w vo' v (W.setCell ⟨w.heap.size + 1 + 1, 0, none⟩ vo') := by
  obtain ⟨a0, a1, b0, b1, c0, c1, d0, d1, e0, f0⟩ := h
  exact ⟨(World.cell?_setCell_other _ _ _ _ (adr_ne (by omega))).trans a0, by rw [World.frozen?_setCell]; exact a1, (World.cell?_setCell_other _ _ _ _ (adr_ne (by omega))).trans b0, by rw [World.frozen?_setCell]; exact b1, World.cell?_setCell_same _ _ _ c0, by rw [World.frozen?_setCell]; exact c1, (World.cell?_setCell_other _ _ _ _ (adr_ne (by omega))).trans d0, by rw [World.frozen?_setCell]; exact d1, (World.cell?_setCell_other _ _ _ _ (adr_ne (by omega))).trans e0, (World.cell?_setCell_other _ _ _ _ (adr_ne (by omega))).trans f0⟩
theorem DiV.set3 {w : World} {vo : Value} {v : ByteArray} {W : World} (h : DiV w vo v W) (v' : ByteArray) : DiV w vo v' (W.setCell ⟨w.heap.size + 1 + 1 + 1, 0, none⟩ (.string v')) := by
  obtain ⟨a0, a1, b0, b1, c0, c1, d0, d1, e0, f0⟩ := h
  exact ⟨(World.cell?_setCell_other _ _ _ _ (adr_ne (by omega))).trans a0, by rw [World.frozen?_setCell]; exact a1, (World.cell?_setCell_other _ _ _ _ (adr_ne (by omega))).trans b0, by rw [World.frozen?_setCell]; exact b1, (World.cell?_setCell_other _ _ _ _ (adr_ne (by omega))).trans c0, by rw [World.frozen?_setCell]; exact c1, World.cell?_setCell_same _ _ _ d0, by rw [World.frozen?_setCell]; exact d1, (World.cell?_setCell_other _ _ _ _ (adr_ne (by omega))).trans e0, (World.cell?_setCell_other _ _ _ _ (adr_ne (by omega))).trans f0⟩
theorem own_set {B k : Nat} {E : TypeId} {vo u : Value} {m n : Nat} {xs : List Value} {W : World} (h : W.ownsRow B E m vo n xs) (hk : k < B) : (W.setCell ⟨k, 0, none⟩ u).ownsRow B E m vo n xs := by
  refine h.kept (grownBy_setCell' W k u) ?_
  cases hb : vo.ownBlock with
  | none => exact .inl rfl
  | some g => exact .inr (fun e => by injection e with e; have := (h.lt g hb).1; omega)
theorem below_set {w W : World} (h : Below w.heap.size w W) {k : Nat} (hk : w.heap.size ≤ k) (u : Value) : Below w.heap.size w (W.setCell ⟨k, 0, none⟩ u) := h.setCell hk u
theorem ko_below {W W' : World} (h : Below W.heap.size W W') : KeepsOthers W W' := ⟨h.size, fun k o hk _ => (h.block k (Array.getElem?_eq_some_iff.1 hk).1).trans hk⟩
theorem ko_own {W W' : World} {B : Nat} {E : TypeId} {vo : Value} {m n : Nat} {xs : List Value} (hg : W.grownBy W' vo.ownBlock) (h : W.ownsRow B E m vo n xs) : KeepsOthers W W' := by
  refine KeepsOthers.of_grownBy hg ?_
  intro j o hj ho
  rcases h.2 with ⟨rfl, _⟩ | ⟨g, cap, cur, rfl, _, hh, _⟩
  · cases hj
  · have e : g = j := by have := hj; simp [Value.ownBlock] at this; exact this
    subst e
    rw [hh] at ho; cases ho; rfl
/-- What is appended, in a round, has just been written out in a block of its own. -/
theorem app_litIn {F : Fence} {nn : Nat} {P : Program} {ops : Array Oper} {rest : List Oper} {o : Oper} {a : Act} {Q : Exit → Act → World → Prop} {w : World} {t E : TypeId} {size : Nat} (hT : ElemT P t E size) (hgd : o.guard = none) (s x : Operand)
    (ho : o.op = .call { callee := .builtin .append, args := #[s, x], argTypes := #[t, t] }) {base : Nat} {v : Value} {n : Nat} {xs : List Value} (hown : w.ownsRow base E size v n xs)
    (m c : Nat) (news : List Value) (hs : a.eval s = v) (hx : a.eval x = .slice (some ⟨w.heap.size, 0, none⟩) m c) (hl : news.length = m * size) (h1 : ∀ u ∈ news, u.oneCell' = true)
    (hb : n + m ≤ 1000000) (hbase : base ≤ w.heap.size)
    (h : ∀ v' w', w'.ownsRow base E size v' (n + m) (xs ++ news) → (w.alloc (.cells news.toArray E)).grownBy w' v.ownBlock → wpListIn F nn P ops Q rest (a.put o.dst v') w') :
    wpListIn F nn P ops Q (o :: rest) a (w.alloc (.cells news.toArray E)) := by
  obtain ⟨ht, i, z, bytes, hi, hz, hsz, hby, hzs, h0, hbb⟩ := hT
  have hm : (n + m) * bytes ≤ 1000000 * 1000 := Nat.mul_le_mul hb hbb
  refine wpListIn_append_own _ hgd s x t ho base E i z size bytes ht hi hz hsz hby hzs h0 v n xs hs (hown.alloc _) ⟨w.heap.size, 0, none⟩ m c news hx hl (fun j u hu => ?_) h1 (by unfold maxLen; omega) (by omega) (by simp; omega) (fun v' w' h2 h3 _ => h v' w' h2 h3)
  have e : (⟨w.heap.size, 0, none⟩ : Addr).add j = ⟨w.heap.size, j, none⟩ := by rw [Addr.add_lit, Nat.zero_add]
  rw [e, cell_of_row _ w.heap.size j news.toArray E (0, 0) (heap_alloc_new w _)]
  simpa using hu
theorem items_add (out : List It) (x : It) : items out ++ [.int .i64 x.k, .int .i64 x.w, .int .i64 x.st, .int .i64 x.sh, .int .i64 x.p, .bool x.f] = items (out ++ [x]) := by simp [items, It.cells]
/-- Behind a round that went well. -/
theorem diI_next {s : ByteArray} {w : World} {out : List It} {v : ByteArray} {W' : World} {vo' : Value} {x : It} {i : Nat} (pre' : List ByteArray) (h1 : Sofar s out v) (h3 : v.size ≤ s.size) (hix : Lib.index v.data.toList [59, 32] = (i : Int)) (hx : decI (v.extract 0 i).data.toList = (x, true)) (hlt : out.length < 60)
    (hv : DiV w vo' v W') (ho : W'.ownsRow (w.heap.size + 1 + 1 + 1 + 1 + 1 + 1) 29 6 vo' (out.length + 1) (items (out ++ [x]))) (hb : Below w.heap.size w W') :
    W'.cell? ⟨w.heap.size + 1 + 1 + 1, 0, none⟩ = some (.string v) ∧ W'.frozen? ⟨w.heap.size + 1 + 1 + 1, 0, none⟩ = false ∧ W'.cell? ⟨w.heap.size + 1 + 1 + 1 + 1, 0, none⟩ = some (.string ⟨#[59, 32]⟩) ∧ DiI s w pre' (v.extract (i + 2) v.size) (W'.setCell ⟨w.heap.size + 1 + 1 + 1, 0, none⟩ (.string (v.extract (i + 2) v.size))) := by
  obtain ⟨a0, a1, b0, b1, c0, c1, d0, d1, e0, f0⟩ := id hv
  refine ⟨d0, d1, e0, out ++ [x], vo', h1.next hix hx, by simp; omega, by rw [ByteArray.size_extract]; omega, hv.set3 _, ?_, below_set hb (by omega) _⟩
  rw [List.length_append]
  exact own_set ho (by omega)
theorem diD_last {s : ByteArray} {w : World} {out : List It} {v : ByteArray} {W' : World} {vo' : Value} {x : It} (h1 : Sofar s out v) (hix : Lib.index v.data.toList [59, 32] = -1) (hx : decI v.data.toList = (x, true)) (hlt : out.length < 60)
    (hv : DiV w vo' v W') (ho : W'.ownsRow (w.heap.size + 1 + 1 + 1 + 1 + 1 + 1) 29 6 vo' (out.length + 1) (items (out ++ [x]))) (hb : Below w.heap.size w W') : DiD s w W' := by
  refine ⟨out ++ [x], vo', by simp; omega, h1.last hix hx, ⟨v, hv⟩, ?_, hb⟩
  rw [List.length_append]
  exact ho
theorem DiV.alloc {w : World} {vo : Value} {v : ByteArray} {W : World} (h : DiV w vo v W) (o : Obj) : DiV w vo v (W.alloc o) := h.below ((Below.refl _ W).alloc (Nat.le_refl _) o)
theorem own_keep {a : Nat} {E : TypeId} {vo : Value} {n k : Nat} {xs : List Value} {W W' : World} {row : Option Nat} (h : W.ownsRow a E k vo n xs) (hg : W.grownBy W' row) (hr : ∀ r, row = some r → ∃ o : Obj, W.heap[r]? = some o ∧ o.isCells = false) : W'.ownsRow a E k vo n xs := by
  refine h.kept hg ?_
  rcases h.2 with ⟨rfl, _⟩ | ⟨g, cap, cur, rfl, _, hh, _⟩
  · exact .inl rfl
  · refine .inr ?_
    intro e
    obtain ⟨o, ho, hc⟩ := hr g (by rw [← e]; rfl)
    rw [hh] at ho; cases ho; cases hc
theorem below_keep {B : Nat} {w W W' : World} {row : Option Nat} (h : Below w.heap.size w W) (hn : w.heap.size ≤ B) (hg : W.grownBy W' row) (hr : ∀ r, row = some r → B ≤ r) : Below w.heap.size w W' :=
  h.grown hg h.size (fun k e => by have := hr k e; omega)
theorem diI_own (s : ByteArray) (w : World) (pre : List ByteArray) (v : ByteArray) {B : Nat} (hB : w.heap.size ≤ B) : OwnFrom B (fun (_ : Unit) => DiI s w pre v) := by
  rintro _ W W' row ⟨out, vo, h1, h2, h3, h4, h5, h6⟩ hg hr
  exact ⟨out, vo, h1, h2, h3, h4.keep hg (fun r e => (hr r e).2), own_keep h5 hg (fun r e => (hr r e).2), below_keep h6 hB hg (fun r e => (hr r e).1)⟩
theorem diD_own (s : ByteArray) (w : World) {B : Nat} (hB : w.heap.size ≤ B) : OwnFrom B (fun (_ : Unit) => DiD s w) := by
  rintro _ W W' row ⟨out, vo, h1, h2, ⟨v, h4⟩, h5, h6⟩ hg hr
  exact ⟨out, vo, h1, h2, ⟨v, h4.keep hg (fun r e => (hr r e).2)⟩, own_keep h5 hg (fun r e => (hr r e).2), below_keep h6 hB hg (fun r e => (hr r e).1)⟩
theorem diX_own (s : ByteArray) (w : World) {B : Nat} (hB : w.heap.size ≤ B) : OwnFrom B (fun (_ : Unit) => DiX s w) := by
  rintro _ W W' row ⟨h1, ⟨vo, v, h4⟩, h6⟩ hg hr
  exact ⟨h1, ⟨vo, v, h4.keep hg (fun r e => (hr r e).2)⟩, below_keep h6 hB hg (fun r e => (hr r e).1)⟩
theorem below_put {w W : World} {D : Nat} (h : Below w.heap.size w W) (hD : w.heap.size ≤ D) (o : Obj) : Below w.heap.size w (W.putObj D o) :=
  h.grown (grownBy_putObj' W D o) h.size (fun k e => by injection e with e; omega)
theorem own_put {B D m n : Nat} {E : TypeId} {vo : Value} {xs : List Value} {W : World} {d : Obj} (h : W.ownsRow B E m vo n xs) (hK : W.heap[D]? = some d) (hd : d.isCells = false) (o : Obj) : (W.putObj D o).ownsRow B E m vo n xs :=
  own_keep h (grownBy_putObj' W D o) (fun r e => by injection e with e; subst e; exact ⟨d, hK, hd⟩)
/-- The way out of impl.DecodeItems. -/
theorem decIs_end {w W : World} {r : List It × Bool} {tmps : Array Value} {D k c : Nat} {A : Option Addr} {b : Bool} (h2 : tmps[2]? = some (.pointer (some ⟨w.heap.size, 0, none⟩))) (h3 : tmps[3]? = some (.pointer (some ⟨w.heap.size + 1, 0, none⟩)))
    (c0 : W.cell? ⟨w.heap.size, 0, none⟩ = some (.slice A k c)) (c1 : W.cell? ⟨w.heap.size + 1, 0, none⟩ = some (.bool b)) (hK : W.heap[D]? = some (.deferred (some [])))
    (h : ReadsIs w r (.returned (.tuple #[.slice A k c, .bool b])) (W.putObj D (.deferred none))) :
    bodyPostM Fence.wide 4 Tryd.prog Tryd.f25 (ReadsIs w r) .ret { tmps, defers := [{ target := .collected D, args := #[] }] } W := by
  refine ⟨by simp, .inl ⟨_, _, rfl, run_takeDeferred hK, ?_⟩⟩
  have hrow : ∀ q, (some D : Option Nat) = some q → ∃ o : Obj, W.heap[q]? = some o ∧ o.isCells = false := fun q e => by injection e with e; subst e; exact ⟨_, hK, rfl⟩
  have e0 := cell_kept c0 (grownBy_putObj' W D (.deferred none)) hrow
  have e1 := cell_kept c1 (grownBy_putObj' W D (.deferred none)) hrow
  refine ⟨.tuple #[.slice A k c, .bool b], ?_, h⟩
  simp [results, Tryd.results25, go_sem, h2, h3, e0, e1]
set_option maxHeartbeats 4000000 in
set_option maxRecDepth 8000 in
theorem implDecs_any (s : ByteArray) (w : World) (hs : s.size ≤ 4000000000) (ht : TB w) (ha : AT w) (hm : ML w) : Calls Tryd.prog 25 #[.string s] w (ReadsIs w (decIs s.data.toList)) := by
  refine (callsIn_wide (n := 4)).1 ?_
  refine callsIn_of_wp_marks Tryd.func25 rfl trivial ?_ rfl
  simp only [Tryd.ntmps25, List.size_toArray, List.length_cons, List.length_nil, Nat.reduceAdd, Nat.reduceSub, Array.replicate_succ, Array.replicate_zero, List.push_toArray, List.append_toArray, List.nil_append, List.cons_append]
  gi_wp2_with (refine ⟨trivial, ?_⟩; gi_at_call 50; refine (callsIn_wide.2 (splitSeqP_any _ _ _)).mono ?_; rintro e w' ⟨rfl, rfl⟩)
  refine wpIn_rangeSplit (bs := w.heap.size + 1 + 1 + 1) (bp := w.heap.size + 1 + 1 + 1 + 1) (bv := w.heap.size + 1 + 1 + 1 + 1 + 1) (by simp [go_sem]) (by rfl) (DiI s w) (DiD s w) (DiX s w)
    (fun pre v => diI_own s w pre v (by simp <;> omega)) (diD_own s w (by simp <;> omega)) (diX_own s w (by simp <;> omega)) ?hC s ?h0 ?a1 ?hassign ?hY ?hL ?hI ?hdone ?hstop
  case hassign =>
    intro l x W K hK
    gi_wp2
    exact hK
  case hI =>
    intro v
    rcases index2_room v.data.toList with h | ⟨i, h1, h2, h3⟩
    · exact .inl h
    · exact .inr ⟨i, h1, by simpa using h2⟩
  case hC =>
    rintro pre v W ⟨out, vo, h1, h2, h3, ⟨a0, a1, b0, b1, c0, c1, d0, d1, e0, f0⟩, h5, h6⟩
    exact ⟨d0, d1, e0, f0, hm.below h6, by omega⟩
  case h0 =>
    refine ⟨[], .slice none 0 0, .start s, by simp, Nat.le_refl _, ⟨?_, ?_, ?_, ?_, ?_, ?_, ?_, ?_, ?_, ?_⟩, World.ownsRow_nil _ _ _ _, ?_⟩
    case refine_11 => repeat (first | exact Below.refl _ _ | refine Below.alloc ?_ (by simp <;> omega) _)
    all_goals (try go_simp)
  case' hY =>
    rintro l pre v W i ⟨out, vo, h1, h2, h3, hv, h5, h6⟩ hix hiv
    have GO := Lib.hid (fun (x : It) (hx : decI (v.extract 0 i).data.toList = (x, true)) (hlt : out.length < 60) (vo' : Value) (W' : World) (hv' : DiV w vo' v W') (ho : W'.ownsRow (w.heap.size + 1 + 1 + 1 + 1 + 1 + 1) 29 6 vo' (out.length + 1) (items (out ++ [x]))) (hb : Below w.heap.size w W') => diI_next (pre ++ [v.extract 0 i]) h1 h3 hix hx hlt hv' ho hb)
    have NO := Lib.hid (fun (hd : (decI (v.extract 0 i).data.toList).2 = false) => h1.bad (.inr ⟨i, hix, rfl⟩) hd)
    have DI := Lib.hid (fun W' (hb : Below w.heap.size w W') => decImpl_any (v.extract 0 i) W' (by rw [ByteArray.size_extract]; omega) (ht.below hb) (ha.below hb) (hm.below hb))
    obtain ⟨r, hr⟩ : ∃ r, r = decI (v.extract 0 i).data.toList := ⟨_, rfl⟩
    rw [← hr] at DI GO NO
    clear hr hix hiv
  case' hL =>
    rintro l pre v W ⟨out, vo, h1, h2, h3, hv, h5, h6⟩ hix
    have GO := Lib.hid (fun (x : It) (hx : decI v.data.toList = (x, true)) (hlt : out.length < 60) (vo' : Value) (W' : World) (hv' : DiV w vo' v W') (ho : W'.ownsRow (w.heap.size + 1 + 1 + 1 + 1 + 1 + 1) 29 6 vo' (out.length + 1) (items (out ++ [x]))) (hb : Below w.heap.size w W') => diD_last h1 hix hx hlt hv' ho hb)
    have NO := Lib.hid (fun (hd : (decI v.data.toList).2 = false) => h1.bad (.inl ⟨hix, rfl⟩) hd)
    have DI := Lib.hid (fun W' (hb : Below w.heap.size w W') => decImpl_any v W' (by omega) (ht.below hb) (ha.below hb) (hm.below hb))
    obtain ⟨r, hr⟩ : ∃ r, r = decI v.data.toList := ⟨_, rfl⟩
    rw [← hr] at DI GO NO
    clear hr hix
  case' hY | hL =>
    have FU := Lib.hid (fun hn => h1.full hn)
    clear h1 h3
    obtain ⟨A, cc, hsh, hcc⟩ := own_shape h5
    subst hsh
    have hsz := hv.lt
    have OW := Lib.hid h5
    have BW := Lib.hid h6
    have HV := Lib.hid hv
    clear h5 h6 hv
    obtain ⟨m, hm0⟩ : ∃ m, m = out.length := ⟨_, rfl⟩
    rw [← hm0] at h2 OW FU GO HV hcc
    clear hm0
    obtain ⟨⟨k, a, b, c, p, f⟩, ok⟩ := r
    unfold ReadIs at DI
    simp only at DI
    cases ok
    · have DX := Lib.hid (NO.out rfl)
      clear NO GO FU
      gi_wp2_with (refine ⟨trivial, ?_⟩; refine (CallsIn.inRound l (callsIn_wide.2 (DI.out _ BW.out))).mono ?_; rintro e w2 ⟨rfl, hb⟩; have HV2 := Lib.hid (HV.out.below hb); have O2 := Lib.hid (own_below OW.out hb); have B2 := Lib.hid (below_step BW.out hb); have KO := Lib.hid (ko_below hb); have hz2 := HV2.out.lt; have a0 := fun o => (HV2.out.alloc o).1; have a1 := fun o => (HV2.out.alloc o).2.1; have b0 := fun o => (HV2.out.alloc o).2.2.1; have b1 := fun o => (HV2.out.alloc o).2.2.2.1; have c0 := fun o => (HV2.out.alloc o).2.2.2.2.1; have c1 := fun o => (HV2.out.alloc o).2.2.2.2.2.1; clear hb)
      refine ⟨(KO.out.trans (KeepsOthers.alloc _ _)).trans ((KeepsOthers.setCell _ _ _).trans (KeepsOthers.setCell _ _ _)), DX.out, ⟨_, _, ((HV2.out.alloc _).set0).set1⟩, ?_⟩
      exact below_set (below_set (B2.out.alloc B2.out.size _) (Nat.le_refl _) _) (by omega) _
    clear NO
    by_cases h60 : m = 60
    · have DX := Lib.hid (FU.out (by omega))
      have hq : ((m : Int) == 60) = true := by simp [h60]
      have hq' : ((m : Int) = 60) := by omega
      clear GO FU h60
      gi_wp2_with (refine ⟨trivial, ?_⟩; refine (CallsIn.inRound l (callsIn_wide.2 (DI.out _ BW.out))).mono ?_; rintro e w2 ⟨rfl, hb⟩; have HV2 := Lib.hid (HV.out.below hb); have O2 := Lib.hid (own_below OW.out hb); have B2 := Lib.hid (below_step BW.out hb); have KO := Lib.hid (ko_below hb); have hz2 := HV2.out.lt; have a0 := fun o => (HV2.out.alloc o).1; have a1 := fun o => (HV2.out.alloc o).2.1; have b0 := fun o => (HV2.out.alloc o).2.2.1; have b1 := fun o => (HV2.out.alloc o).2.2.2.1; have c0 := fun o => (HV2.out.alloc o).2.2.2.2.1; have c1 := fun o => (HV2.out.alloc o).2.2.2.2.2.1; clear hb)
      refine ⟨(KO.out.trans (KeepsOthers.alloc _ _)).trans ((KeepsOthers.setCell _ _ _).trans (KeepsOthers.setCell _ _ _)), DX.out, ⟨_, _, ((HV2.out.alloc _).set0).set1⟩, ?_⟩
      exact below_set (below_set (B2.out.alloc B2.out.size _) (Nat.le_refl _) _) (by omega) _
    have GX := Lib.hid (GO.out _ rfl (by omega))
    have hq : ((m : Int) == 60) = false := by simpa using (by omega : ¬ (m : Int) = 60)
    have hq' : ¬ ((m : Int) = 60) := by omega
    have hm60 : m < 60 := by omega
    clear GO FU
    gi_wp2_with (first
      | (refine ⟨trivial, ?_⟩; refine (CallsIn.inRound l (callsIn_wide.2 (DI.out _ BW.out))).mono ?_; rintro e w2 ⟨rfl, hb⟩; have HV2 := Lib.hid (HV.out.below hb); have O2 := Lib.hid (own_below OW.out hb); have B2 := Lib.hid (below_step BW.out hb); have KO := Lib.hid (ko_below hb); have hz2 := HV2.out.lt; have a0 := fun o => (HV2.out.alloc o).1; have a1 := fun o => (HV2.out.alloc o).2.1; have b0 := fun o => (HV2.out.alloc o).2.2.1; have b1 := fun o => (HV2.out.alloc o).2.2.2.1; have c0 := fun o => (HV2.out.alloc o).2.2.2.2.1; have c1 := fun o => (HV2.out.alloc o).2.2.2.2.2.1; clear hb; have O3 := Lib.hid (O2.out.alloc (.cells #[.int .i64 k, .int .i64 a, .int .i64 b, .int .i64 c, .int .i64 p, .bool f] 29)); have hz3 : w.heap.size + 1 + 1 + 1 + 1 + 1 + 1 ≤ (w2.alloc (.cells #[.int .i64 k, .int .i64 a, .int .i64 b, .int .i64 c, .int .i64 p, .bool f] 29)).heap.size := (by simp only [World.size_alloc]; omega))
      | (gi_at_builtin; refine Hid.out ?_))
    refine Lib.hid ?_
    refine app_litIn elemItem (by rfl) (.tmp 23) (.tmp 25) (by rfl) O3.out 1 1 [.int .i64 k, .int .i64 a, .int .i64 b, .int .i64 c, .int .i64 p, .bool f] ?_ ?_ ?_ ?_ ?_ ?_ ?_
    case refine_1 => rfl
    case refine_2 => simp [go_sem]
    case refine_3 => rfl
    case refine_4 => simp [Value.oneCell']
    case refine_5 => omega
    case refine_6 => exact hz3
    intro v4 w4 ho hg
    obtain ⟨A4, c4, hsh, _⟩ := own_shape ho
    subst hsh
    have HV4 := Lib.hid ((HV2.out.alloc _).alloc _ |>.grown hg (fun r e => (O3.out.lt r e).1))
    have B4 := Lib.hid (below_app ((B2.out.alloc B2.out.size _).alloc (B2.out.alloc B2.out.size _).size _) hg O3.out (by omega))
    have K4 := Lib.hid ((KO.out.trans ((KeepsOthers.alloc _ _).trans (KeepsOthers.alloc _ _))).trans (ko_own hg (O3.out.alloc _)))
    rw [items_add out ⟨k, a, b, c, p, f⟩] at ho
    have O4 := Lib.hid ho
    clear ho hg a0 a1 b0 b1 c0 c1
    obtain ⟨a0, a1, b0, b1, c0, c1, d0, d1, e0, f0⟩ := id HV4.out
    gi_wp2
    exact ⟨K4.out.trans (KeepsOthers.setCell _ _ _), GX.out _ _ (HV4.out.set2 _) (own_set O4.out (by omega)) (below_set B4.out (by omega) _)⟩
  case hdone =>
    rintro D W hD ⟨out, vo, h1, h2, ⟨v, hv⟩, h5, h6⟩ hK
    have hD' : w.heap.size + 1 + 1 + 1 + 1 + 1 + 1 ≤ D := by simpa only [World.size_alloc] using hD
    obtain ⟨A, cc, hsh, hcc⟩ := own_shape h5
    subst hsh
    have VI := Lib.hid (implItems_any A out.length cc out W (Rd.own h5) (by omega))
    have OW := Lib.hid h5
    have BW := Lib.hid h6
    have HV := Lib.hid hv
    have KD := Lib.hid hK
    obtain ⟨m, hm0⟩ : ∃ m, m = out.length := ⟨_, rfl⟩
    rw [← hm0] at h1 OW VI HV hcc
    obtain ⟨a0, a1, b0, b1, c0, c1, d0, d1, e0, f0⟩ := id HV.out
    clear hm0 h5 h6 hv hK hD d0 d1 e0 f0
    cases hvi : vItems out
    · rw [hvi] at VI
      rw [hvi, if_neg (by decide)] at h2
      have DX := Lib.hid h2
      clear h2 hvi
      gi_wp2_with (refine ⟨trivial, ?_⟩; gi_at_call 31; refine (callsIn_wide.2 VI.out).mono ?_; rintro e w2 ⟨rfl, hb⟩; have HV2 := Lib.hid (HV.out.below hb); have B2 := Lib.hid (below_step BW.out hb); have KD2 := Lib.hid ((hb.block D (Array.getElem?_eq_some_iff.1 KD.out).1).trans KD.out); clear hb a0 a1 b0 b1 c0 c1; obtain ⟨a0, a1, b0, b1, c0, c1, d0, d1, e0, f0⟩ := id HV2.out)
      exact decIs_end rfl rfl (HV2.out.set0.set1).1 (HV2.out.set0.set1).2.2.1 ((KeepsOthers.setCell _ _ _).same _ _ ((KeepsOthers.setCell _ _ _).same _ _ KD2.out rfl) rfl)
        (ReadsIs.no DX.out (below_put (below_set (below_set B2.out (Nat.le_refl _) _) (by omega) _) (by omega) _))
    · rw [hvi] at VI
      rw [hvi, if_pos rfl] at h2
      have DX := Lib.hid h2
      clear h2 hvi
      gi_wp2_with (refine ⟨trivial, ?_⟩; gi_at_call 31; refine (callsIn_wide.2 VI.out).mono ?_; rintro e w2 ⟨rfl, hb⟩; have HV2 := Lib.hid (HV.out.below hb); have O2 := Lib.hid (own_below OW.out hb); have B2 := Lib.hid (below_step BW.out hb); have KD2 := Lib.hid ((hb.block D (Array.getElem?_eq_some_iff.1 KD.out).1).trans KD.out); clear hb a0 a1 b0 b1 c0 c1; obtain ⟨a0, a1, b0, b1, c0, c1, d0, d1, e0, f0⟩ := id HV2.out)
      refine decIs_end (A := A) (k := m) (c := cc) (b := true) rfl rfl ((World.cell?_setCell_other _ _ _ _ (adr_ne (by omega))).trans (World.cell?_setCell_same _ _ _ a0)) (World.cell?_setCell_same _ _ _ ((World.cell?_setCell_other _ _ _ _ (adr_ne (by omega))).trans b0)) ((KeepsOthers.setCell _ _ _).same _ _ ((KeepsOthers.setCell _ _ _).same _ _ KD2.out rfl) rfl) ?_
      exact ReadsIs.yes DX.out (own_base (own_put (own_set (own_set O2.out (by omega)) (by omega)) ((KeepsOthers.setCell _ _ _).same _ _ ((KeepsOthers.setCell _ _ _).same _ _ KD2.out rfl) rfl) rfl _) (by omega)) h1 (below_put (below_set (below_set B2.out (Nat.le_refl _) _) (by omega) _) (by omega) _)
  case hstop =>
    rintro D W hD ⟨h1, ⟨vo, v, hv⟩, h6⟩ hK
    have hD' : w.heap.size + 1 + 1 + 1 + 1 + 1 + 1 ≤ D := by simpa only [World.size_alloc] using hD
    have DX := Lib.hid h1
    clear h1 hD
    gi_wp2
    exact decIs_end rfl rfl hv.1 hv.2.2.1 hK (ReadsIs.no DX.out (below_put h6 (by omega) _))
end Go.Proofs.YtmnmdecbehfegaaDoor
