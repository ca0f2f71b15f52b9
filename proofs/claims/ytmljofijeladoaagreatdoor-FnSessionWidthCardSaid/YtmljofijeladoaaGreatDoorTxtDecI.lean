/-
  Contract of the program's DecodeItem.
-/
import Derived.Test.YtmljofijeladoaaGreatDoorTxtPI
import Derived.Test.YtmljofijeladoaaGreatDoorTxtSplitI
import Derived.Lib.AtoiErrMem
namespace Go.Proofs.YtmljofijeladoaaGreatDoor
open Go.RowKit
set_option linter.unusedVariables false

/-- The library's two errors lie where they lie. -/
def AT (w : World) : Prop :=
  (∃ ev, w.cell? ⟨1, 0, none⟩ = some ev ∧ (ev = .nilIface ∨ ∃ te pe, ev = .iface te pe)) ∧ (∃ ev, w.cell? ⟨2, 0, none⟩ = some ev ∧ (ev = .nilIface ∨ ∃ te pe, ev = .iface te pe))
/-- The library's limit is some number. -/
def ML (w : World) : Prop := ∃ m : Int, w.cell? ⟨0, 0, none⟩ = some (.int .i64 m)
theorem AT.below {w w' : World} (h : AT w) (hb : Below w.heap.size w w') : AT w' := by
  obtain ⟨⟨e0, h0, k0⟩, ⟨e1, h1, k1⟩⟩ := h
  exact ⟨⟨e0, cell_below hb h0, k0⟩, ⟨e1, cell_below hb h1, k1⟩⟩
theorem ML.below {w w' : World} (h : ML w) (hb : Below w.heap.size w w') : ML w' := by
  obtain ⟨m, h⟩ := h
  exact ⟨m, cell_below hb h⟩
theorem BlkIs.belowE {w w' : World} {g : Nat} {t : TypeId} {cs : Array Value} (h : BlkIs w g t cs) (hb : Below w.heap.size w w') : BlkIs w' g t cs := by
  rw [BlkIs, hb.block g h.lt]; exact h

theorem atoi_any (s : ByteArray) (w : World) (hs : s.size ≤ 4294967280) (ha : AT w) :
    Calls Tryz.prog 43 #[.string s] w fun e w' => ∃ er, e = .returned (.tuple #[.int .i64 (atoiV s.data.toList), er]) ∧ Below w.heap.size w w' := by
  obtain ⟨⟨e0, h0, k0⟩, ⟨e1, h1, k1⟩⟩ := ha
  rcases h : Lib.atoiAll s.data.toList with v | _ | _
  · refine (Tryz.strconv_Atoi_ok s (by omega) v h w).mono ?_
    rintro e w' ⟨rfl, hw⟩
    refine ⟨_, by rw [atoiV, h], ?_⟩
    rcases hw with rfl | ⟨t, rfl⟩
    · exact Below.refl _ _
    · exact Lib.bytesWorld_below _ _ _
  · refine (Tryz.strconv_Atoi_syntax s (by omega) (fun v e => by rw [h] at e; cases e) (fun e => by rw [h] at e; cases e) e0 w h0 k0).mono ?_
    rintro e w' ⟨N, rfl, _, _, hb⟩
    exact ⟨_, by rw [atoiV, h], hb⟩
  · refine (Tryz.strconv_Atoi_range s (by omega) h e1 w h1 k1).mono ?_
    rintro e w' ⟨N, rfl, _, _, hb⟩
    exact ⟨_, by rw [atoiV, h], hb⟩

def IntIs (w : World) (z : Int) (e : Ending) (w' : World) : Prop := e = .returned (.int .i64 z) ∧ Below w.heap.size w w'


theorem splitLib_any (s : ByteArray) (b : UInt8) (w : World) (hs : s.size ≤ 4294967280) (hm : ML w) :
    Calls Tryz.prog 23 #[.string s, .string ⟨#[b]⟩] w fun e w' => e = .returned (.slice (some ⟨w.heap.size, 0, none⟩) (allB b s).length (allB b s).length) ∧ w' = w.alloc (.cells (strs' (allB b s)).toArray 9) := by
  obtain ⟨m, hm⟩ := hm
  have h := Tryz.strings_Split s ⟨#[b]⟩ m w (by omega) hm (Nat.le_refl _)
  rw [splitB_all', countB_one] at h
  exact h

theorem drew_then {w w' : World} (h : Below w.drew.heap.size w.drew w') : Below w.heap.size w w' := (Below.refl w.heap.size w).drew.trans h
theorem rd_fresh (w : World) (l : List ByteArray) : Rd (w.alloc (.cells (strs' l).toArray 9)) 1 (some ⟨w.heap.size, 0, none⟩) l.length (strs' l) := by
  refine ⟨by simp [strs'], fun _ => ⟨w.heap.size, 0, rfl, fun j hj => ?_⟩⟩
  rw [cell_of_row _ w.heap.size (0 + j) (strs' l).toArray 9 (0, 0) (heap_alloc_new w _)]
  simp
theorem decI_yes {s : ByteArray} {x : It} (h : ∀ y, vIt y = true → itxt y = s.data.toList → x = y) (h0 : ¬ s = baL []) (he : etxtB x = s) : decI s.data.toList = (x, true) := by
  rw [decI_of h, if_pos]
  by_cases hv : vIt x = true
  · rw [etxtB_ok hv] at he
    exact ⟨hv, by rw [← he]; rfl⟩
  · exfalso
    apply h0
    rw [← he, etxtB_no (by simpa using hv)]; rfl
theorem decI_not {s : ByteArray} {x : It} (h : ∀ y, vIt y = true → itxt y = s.data.toList → x = y) (he : ¬ etxtB x = s) : decI s.data.toList = (⟨0, 0, 0, 0, 0, false⟩, false) := by
  rw [decI_of h, if_neg]
  rintro ⟨hv, e⟩
  apply he
  rw [etxtB_ok hv]
  exact ba_ext e
theorem decI_empty {s : ByteArray} (h : s = baL []) : decI s.data.toList = (⟨0, 0, 0, 0, 0, false⟩, false) := by
  refine decI_none fun x hv e => ?_
  rw [h, baL_list] at e
  have : iw0 x = [] := (List.append_eq_nil_iff.1 e).1
  unfold iw0 at this
  split at this
  · cases this
  · split at this
    · cases this
    · cases this

end Go.Proofs.YtmljofijeladoaaGreatDoor
