/-
  A range over the pieces of a text, for the caller: the invariant speaks of cells alone, and abides the iterator's own store.
-/
import Derived.RangeFuncNested
import Derived.RangeFuncBound
import Derived.RangeFuncFrom
import Derived.Test.YtmnmdecbehfegaaDoorSeqIt
namespace Go.Proofs.YtmnmdecbehfegaaDoor
open Go.RowKit Go.Shelf
set_option linter.unusedVariables false

/-- How the body of a round may be left. -/
def pieceX (bs bp : Nat) (v : ByteArray) (Go : World → Prop) (Ix : World → Prop) (W : World) : Exit → Act → World → Prop
  | .normal, _, W' => KeepsOthers W W' ∧ Go W'
  | .ret, _, W' => KeepsOthers W W' ∧ Ix W'
  | _, _, _ => False

theorem grow_swap (W : World) {b l : Nat} (o : Obj) (v : Value) (h : b ≠ l) : (W.setCell ⟨b, 0, none⟩ v).grownBy ((W.putObj l o).setCell ⟨b, 0, none⟩ v) (some l) := by
  refine ⟨rfl, rfl, rfl, by simp [World.setCell, World.putObj], fun k _ hk => ?_⟩
  have hk' : k ≠ l := fun e => hk (by rw [e])
  simp only [World.setCell, World.putObj]
  by_cases e : k = b
  · subst e
    rw [Array.getElem?_modify, Array.getElem?_modify, Array.getElem?_setIfInBounds_ne (Ne.symm hk')]
  · rw [Array.getElem?_modify, Array.getElem?_modify, Array.getElem?_setIfInBounds_ne (Ne.symm hk')]
theorem wpIn_rangeSplit {g : Operand} {ps : Array Tmp} {assign body : Code} {Q : Exit → Act → World → Prop} {a : Act} {w : World}
    {bs bp bv : Nat} (hg : a.eval g = .func (.func 80) #[] #[.pointer (some ⟨bp, 0, none⟩), .pointer (some ⟨bs, 0, none⟩), .pointer (some ⟨bv, 0, none⟩)]) (hps : ps.size = 1)
    (I : List ByteArray → ByteArray → World → Prop) (Id Ix : World → Prop)
    (oI : ∀ pre v, OwnFrom w.heap.size (fun (_ : Unit) => I pre v)) (oD : OwnFrom w.heap.size (fun (_ : Unit) => Id)) (oX : OwnFrom w.heap.size (fun (_ : Unit) => Ix))
    (hC : ∀ pre v W, I pre v W → W.cell? ⟨bs, 0, none⟩ = some (.string v) ∧ W.frozen? ⟨bs, 0, none⟩ = false ∧ W.cell? ⟨bp, 0, none⟩ = some (.string ⟨#[59, 32]⟩) ∧ W.cell? ⟨bv, 0, none⟩ = some (.int .i64 0) ∧ ML W ∧ v.size ≤ 4000000000)
    (s : ByteArray) (h0 : I [] s w) (a₁ : ByteArray → Act)
    (hassign : ∀ (l : Nat) (x : ByteArray) (W : World) (K : Act → World → Prop), K (a₁ x) W →
      assign.wpIn (Fence.wide.inRound l) 2 Tryd.prog (Exit.then K (fun _ _ _ => False)) { tmps := (ps.zip #[.string x]).foldl (fun t (p, v) => t.setIfInBounds p v) a.tmps, defers := [] } W)
    (hY : ∀ (l : Nat) pre v W (i : Nat), I pre v W → Lib.index v.data.toList [59, 32] = (i : Int) → i + 2 ≤ v.size → body.wpIn (Fence.wide.inRound l) 2 Tryd.prog (pieceX bs bp v (fun W' =>
      W'.cell? ⟨bs, 0, none⟩ = some (.string v) ∧ W'.frozen? ⟨bs, 0, none⟩ = false ∧ W'.cell? ⟨bp, 0, none⟩ = some (.string ⟨#[59, 32]⟩) ∧ I (pre ++ [v.extract 0 i]) (v.extract (i + 2) v.size) (W'.setCell ⟨bs, 0, none⟩ (.string (v.extract (i + 2) v.size)))) Ix W) (a₁ (v.extract 0 i)) W)
    (hL : ∀ (l : Nat) pre v W, I pre v W → Lib.index v.data.toList [59, 32] = -1 → body.wpIn (Fence.wide.inRound l) 2 Tryd.prog (pieceX bs bp v Id Ix W) (a₁ v) W)
    (hI : ∀ v : ByteArray, Lib.index v.data.toList [59, 32] = -1 ∨ ∃ i : Nat, Lib.index v.data.toList [59, 32] = (i : Int) ∧ i + 2 ≤ v.size)
    (hdone : ∀ (D : Nat) (W : World), w.heap.size ≤ D → Id W → W.heap[D]? = some (.deferred (some [])) → Q .normal { a with defers := { target := .collected D, args := #[] } :: a.defers } W)
    (hstop : ∀ (D : Nat) (W : World), w.heap.size ≤ D → Ix W → W.heap[D]? = some (.deferred (some [])) → Code.ret.wpIn Fence.wide 4 Tryd.prog Q { a with defers := { target := .collected D, args := #[] } :: a.defers } W) :
    (Code.rangeFunc g ps assign body).wpIn Fence.wide 4 Tryd.prog Q a w := by
  refine wpIn_rangeFunc ?_
  intro fn hfn
  obtain ⟨rec, hrec⟩ : ∃ rec : LoopState → Option Code → Loop, rec = fun st pe => { state := st, pending := pe, fn, tmps := a.tmps, params := ps, assign, body, defers := w.heap.size } := ⟨_, rfl⟩
  obtain ⟨W1, hW1⟩ : ∃ W1, (w.alloc (.deferred (some []))).alloc (.loop (rec .ready none)) = W1 := ⟨_, rfl⟩
  have hL1 : W1.heap[w.heap.size + 1]? = some (.loop (rec .ready none)) := by
    rw [← hW1]; have := World.alloc_heap_new (w.alloc (.deferred (some []))) (.loop (rec .ready none)); rwa [World.size_alloc] at this
  have hK1 : W1.heap[w.heap.size]? = some (.deferred (some [])) := by
    rw [← hW1]; exact (Below.heap_alloc _ _ _ (by simp)).trans (World.alloc_heap_new w _)
  have hI1 : I [] s W1 := by rw [← hW1]; exact (oI _ _).alloc (s := ()) _ ((oI _ _).alloc (s := ()) _ h0)
  refine ⟨w.heap.size + 1, [{ target := .collected w.heap.size, args := #[] }], W1, { target := .fn (.func 80) #[.pointer (some ⟨bp, 0, none⟩), .pointer (some ⟨bs, 0, none⟩), .pointer (some ⟨bv, 0, none⟩)], args := #[.func (.yield (w.heap.size + 1)) #[] #[]] }, W1, 80,
    #[.func (.yield (w.heap.size + 1)) #[] #[]] ++ #[.pointer (some ⟨bp, 0, none⟩), .pointer (some ⟨bs, 0, none⟩), .pointer (some ⟨bv, 0, none⟩)], W1, ?_, ?_, ?_, ?_, fun _ => by decide, ?_⟩
  · rw [← hW1, hrec]; exact run_enterLoop_outer _ _ _ _ _
  · simp only [resolve, hg]
    simp [go_sem]
  · intro f' hf'; trivial
  · simp [invoke, go_sem, enters_of]
  · refine (splitSeq_it (w.heap.size + 1) bs bp bv
      (fun pre v W => I pre v W ∧ W.heap[w.heap.size + 1]? = some (.loop (rec .ready none)) ∧ W.heap[w.heap.size]? = some (.deferred (some [])))
      (fun W => Id W ∧ W.heap[w.heap.size + 1]? = some (.loop (rec .ready none)) ∧ W.heap[w.heap.size]? = some (.deferred (some [])))
      (fun W => Ix W ∧ W.heap[w.heap.size + 1]? = some (.loop (rec .done (some .ret))) ∧ W.heap[w.heap.size]? = some (.deferred (some [])))
      (fun pre v W h => hC pre v W h.1) ?_ ?_ hI s W1 ⟨hI1, hL1, hK1⟩).mono ?_
    · rintro pre v W i ⟨hi, hl, hk⟩ hix hiv
      have hlt : w.heap.size + 1 < W.heap.size := (Array.getElem?_eq_some_iff.1 hl).1
      have hy := run_yield (P := Tryd.prog) (args := #[.string (v.extract 0 i)]) hl (by rw [hrec]; exact hps.symm)
      rw [hrec] at hy
      refine ⟨fn, _, assign, body, hy, roundIn_of_wpIn hfn (hassign _ (v.extract 0 i) W _ ⟨_, run_beginRound hl (by rw [hrec]), ?_⟩)⟩
      have hl2 : (W.putObj (w.heap.size + 1) (.loop { rec .ready none with state := .busy })).heap[w.heap.size + 1]? = some (.loop { rec .ready none with state := .busy }) := World.putObj_heap_same hlt
      have hk2 : (W.putObj (w.heap.size + 1) (.loop { rec .ready none with state := .busy })).heap[w.heap.size]? = some (.deferred (some [])) := (World.putObj_heap_other (by omega)).trans hk
      refine wpIn_mono (hY _ pre v _ i ((oI pre v).putObj (s := ()) _ hi (by omega) hl rfl) hix hiv) ?_
      have fin : ∀ (jump : Option Code) (W3 : World), KeepsOthers (W.putObj (w.heap.size + 1) (.loop { rec .ready none with state := .busy })) W3 →
          (Instr.endRound (w.heap.size + 1) jump).run Tryd.prog W3 = .ok (.bool jump.isNone) (W3.putObj (w.heap.size + 1) (.loop (rec (if jump.isNone then .ready else .done) jump))) ∧
          W3.heap[w.heap.size + 1]? = some (.loop { rec .ready none with state := .busy }) ∧
          (W3.putObj (w.heap.size + 1) (.loop (rec (if jump.isNone then .ready else .done) jump))).heap[w.heap.size + 1]? = some (.loop (rec (if jump.isNone then .ready else .done) jump)) ∧
          (W3.putObj (w.heap.size + 1) (.loop (rec (if jump.isNone then .ready else .done) jump))).heap[w.heap.size]? = some (.deferred (some [])) := fun jump W3 hk3 => by
        have hl3 := hk3.same _ _ hl2 rfl
        have := run_endRound (P := Tryd.prog) jump hl3
        rw [hrec] at this ⊢
        exact ⟨this, by rw [hrec] at hl3; exact hl3, World.putObj_heap_same (Array.getElem?_eq_some_iff.1 hl3).1, (World.putObj_heap_other (by omega)).trans (hk3.same _ _ hk2 rfl)⟩
      rintro e a3 W3 hp
      cases e with
      | normal =>
        obtain ⟨hk3, hi3⟩ := hp
        obtain ⟨hr, hl3, hl4, hk4⟩ := fin none W3 hk3
        obtain ⟨q0, q1, q2, q3⟩ := hi3
        have hgr : ∀ o' : Obj, W3.grownBy (W3.putObj (w.heap.size + 1) o') (some (w.heap.size + 1)) := fun o' => grownBy_putObj' W3 _ o'
        have hrow : ∀ r, (some (w.heap.size + 1) : Option Nat) = some r → ∃ o : Obj, W3.heap[r]? = some o ∧ o.isCells = false := fun r e => by cases e; exact ⟨_, hl3, rfl⟩
        obtain ⟨ob, hob, hobc⟩ := cells_of_cell q0
        have hne : bs ≠ w.heap.size + 1 := by
          rintro e
          have hob' : W3.heap[w.heap.size + 1]? = some ob := by rw [← e]; exact hob
          rw [hl3] at hob'; cases hob'; cases hobc
        have hlc : (W3.setCell ⟨bs, 0, none⟩ (.string (v.extract (i + 2) v.size))).heap[w.heap.size + 1]? = some (.loop { rec .ready none with state := .busy }) := (KeepsOthers.setCell W3 _ _).same _ _ hl3 rfl
        refine ⟨_, _, hr, .inl ⟨rfl, cell_kept q0 (hgr _) hrow, (frozen_kept q0 (hgr _) hrow).trans q1, cell_kept q2 (hgr _) hrow, ?_, ?_, ?_⟩⟩
        · exact oI _ _ () _ _ (some (w.heap.size + 1)) q3 (grow_swap W3 _ _ hne) (fun r e => by cases e; exact ⟨by omega, _, hlc, rfl⟩)
        · exact (KeepsOthers.setCell _ _ _).same _ _ hl4 rfl
        · exact (KeepsOthers.setCell _ _ _).same _ _ hk4 rfl
      | ret =>
        obtain ⟨hk3, hi3⟩ := hp
        obtain ⟨hr, hl3, hl4, hk4⟩ := fin (some .ret) W3 hk3
        exact ⟨_, _, hr, .inr ⟨rfl, oX.putObj (s := ()) _ hi3 (by omega) hl3 rfl, hl4, hk4⟩⟩
      | exit id => exact hp.elim
      | goto t => exact hp.elim
      | panic ch => exact hp.elim
      | outgrown => exact hp.elim
    · rintro pre v W ⟨hi, hl, hk⟩ hix
      have hlt : w.heap.size + 1 < W.heap.size := (Array.getElem?_eq_some_iff.1 hl).1
      have hy := run_yield (P := Tryd.prog) (args := #[.string v]) hl (by rw [hrec]; exact hps.symm)
      rw [hrec] at hy
      refine ⟨fn, _, assign, body, hy, roundIn_of_wpIn hfn (hassign _ v W _ ⟨_, run_beginRound hl (by rw [hrec]), ?_⟩)⟩
      have hl2 : (W.putObj (w.heap.size + 1) (.loop { rec .ready none with state := .busy })).heap[w.heap.size + 1]? = some (.loop { rec .ready none with state := .busy }) := World.putObj_heap_same hlt
      have hk2 : (W.putObj (w.heap.size + 1) (.loop { rec .ready none with state := .busy })).heap[w.heap.size]? = some (.deferred (some [])) := (World.putObj_heap_other (by omega)).trans hk
      refine wpIn_mono (hL _ pre v _ ((oI pre v).putObj (s := ()) _ hi (by omega) hl rfl) hix) ?_
      have fin : ∀ (jump : Option Code) (W3 : World), KeepsOthers (W.putObj (w.heap.size + 1) (.loop { rec .ready none with state := .busy })) W3 →
          (Instr.endRound (w.heap.size + 1) jump).run Tryd.prog W3 = .ok (.bool jump.isNone) (W3.putObj (w.heap.size + 1) (.loop (rec (if jump.isNone then .ready else .done) jump))) ∧
          W3.heap[w.heap.size + 1]? = some (.loop { rec .ready none with state := .busy }) ∧
          (W3.putObj (w.heap.size + 1) (.loop (rec (if jump.isNone then .ready else .done) jump))).heap[w.heap.size + 1]? = some (.loop (rec (if jump.isNone then .ready else .done) jump)) ∧
          (W3.putObj (w.heap.size + 1) (.loop (rec (if jump.isNone then .ready else .done) jump))).heap[w.heap.size]? = some (.deferred (some [])) := fun jump W3 hk3 => by
        have hl3 := hk3.same _ _ hl2 rfl
        have := run_endRound (P := Tryd.prog) jump hl3
        rw [hrec] at this ⊢
        exact ⟨this, by rw [hrec] at hl3; exact hl3, World.putObj_heap_same (Array.getElem?_eq_some_iff.1 hl3).1, (World.putObj_heap_other (by omega)).trans (hk3.same _ _ hk2 rfl)⟩
      rintro e a3 W3 hp
      cases e with
      | normal =>
        obtain ⟨hk3, hi3⟩ := hp
        obtain ⟨hr, hl3, hl4, hk4⟩ := fin none W3 hk3
        exact ⟨_, _, hr, .inl ⟨rfl, oD.putObj (s := ()) _ hi3 (by omega) hl3 rfl, hl4, hk4⟩⟩
      | ret =>
        obtain ⟨hk3, hi3⟩ := hp
        obtain ⟨hr, hl3, hl4, hk4⟩ := fin (some .ret) W3 hk3
        exact ⟨_, _, hr, .inr ⟨rfl, oX.putObj (s := ()) _ hi3 (by omega) hl3 rfl, hl4, hk4⟩⟩
      | exit id => exact hp.elim
      | goto t => exact hp.elim
      | panic ch => exact hp.elim
      | outgrown => exact hp.elim
    · rintro e W2 ⟨⟨v, rfl⟩, (⟨hi, hl, hk⟩ | ⟨hi, hl, hk⟩)⟩
      · exact ⟨none, _, by have := run_endLoop (P := Tryd.prog) hl (by rw [hrec]; simp); rw [hrec] at this; exact this, hdone _ _ (Nat.le_refl _) (oD.putObj (s := ()) _ hi (by omega) hl rfl) ((World.putObj_heap_other (by omega)).trans hk)⟩
      · exact ⟨some .ret, _, by have := run_endLoop (P := Tryd.prog) hl (by rw [hrec]; simp); rw [hrec] at this; exact this, hstop _ _ (Nat.le_refl _) (oX.putObj (s := ()) _ hi (by omega) hl rfl) ((World.putObj_heap_other (by omega)).trans hk)⟩
end Go.Proofs.YtmnmdecbehfegaaDoor
