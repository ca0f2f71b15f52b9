/-
  Contracts of the functions that write an item, the reference's and the program's.
-/
import Derived.Test.YtmljofijeladoaaDoorItoaG
import Derived.Test.YtmljofijeladoaaDoorShelf
import Derived.Test.YtmljofijeladoaaDoorReader
import Derived.Lib.SmallJoins
namespace Go.Proofs.YtmljofijeladoaaDoor
open Go.RowKit
set_option linter.unusedVariables false

def lBox : ByteArray := ⟨#[98, 111, 120, 32]⟩
def lGlue : ByteArray := ⟨#[103, 108, 117, 101, 32]⟩
def lPlus : ByteArray := ⟨#[32, 112, 108, 117, 115, 32]⟩
def lMinus : ByteArray := ⟨#[32, 109, 105, 110, 117, 115, 32]⟩
def lPen : ByteArray := ⟨#[112, 101, 110, 97, 108, 116, 121, 32]⟩
def lWidth : ByteArray := ⟨#[32, 119, 105, 100, 116, 104, 32]⟩
def lFlag : ByteArray := ⟨#[32, 102, 108, 97, 103, 103, 101, 100]⟩

theorem itxtB_list (x : It) : (itxtB x).data.toList = itxt x := rfl
theorem itxtB_1 (wd st sh p : Int) (f : Bool) : itxtB ⟨1, wd, st, sh, p, f⟩ = ⟨#[98, 111, 120, 32]⟩ ++ itoaB wd := by
  apply ba_ext
  rw [app_toList, itxtB_list, itoaB_list, itxt, (iw_1 rfl).1, (iw_1 rfl).2]
  simp [Lib.joinTail, tBox]
theorem itxtB_2 (wd st sh p : Int) (f : Bool) : itxtB ⟨2, wd, st, sh, p, f⟩ = (((⟨#[103, 108, 117, 101, 32]⟩ ++ itoaB wd) ++ ⟨#[32, 112, 108, 117, 115, 32]⟩) ++ itoaB st) ++ ⟨#[32, 109, 105, 110, 117, 115, 32]⟩ ++ itoaB sh := by
  apply ba_ext
  simp only [app_toList, itxtB_list, itoaB_list]
  rw [itxt, (iw_2 rfl).1, (iw_2 rfl).2]
  simp [Lib.joinTail, tGlue, tPlus, tMinus]
theorem itxtB_3 (wd st sh p : Int) : itxtB ⟨3, wd, st, sh, p, false⟩ = ((⟨#[112, 101, 110, 97, 108, 116, 121, 32]⟩ ++ itoaB p) ++ ⟨#[32, 119, 105, 100, 116, 104, 32]⟩) ++ itoaB wd := by
  apply ba_ext
  simp only [app_toList, itxtB_list, itoaB_list]
  rw [itxt, (iw_3 rfl).1, (iw_3 rfl).2]
  simp [Lib.joinTail, tPen, tWidth]
theorem itxtB_4 (wd st sh p : Int) : itxtB ⟨3, wd, st, sh, p, true⟩ = (((⟨#[112, 101, 110, 97, 108, 116, 121, 32]⟩ ++ itoaB p) ++ ⟨#[32, 119, 105, 100, 116, 104, 32]⟩) ++ itoaB wd) ++ ⟨#[32, 102, 108, 97, 103, 103, 101, 100]⟩ := by
  apply ba_ext
  simp only [app_toList, itxtB_list, itoaB_list]
  rw [itxt, (iw_3 rfl).1, (iw_3 rfl).2]
  simp [Lib.joinTail, tPen, tWidth, tFlag]
theorem itxtB_size {x : It} (hv : vIt x = true) : (itxtB x).size ≤ 70 := by
  have n := vIt_num hv
  have s1 := itoa_len (n := x.w) (by omega) (by omega)
  have s2 := itoa_len (n := x.st) (by omega) (by omega)
  have s3 := itoa_len (n := x.sh) (by omega) (by omega)
  have s4 := itoa_len (n := x.p) (by omega) (by omega)
  have e : (itxtB x).size = (itxt x).length := rfl
  rw [e, itxt]
  rcases vIt_kind hv with ⟨k, _⟩ | ⟨k, _⟩ | ⟨k, _⟩
  · rw [(iw_1 k).1, (iw_1 k).2]; simp [Lib.joinTail, tBox]; omega
  · rw [(iw_2 k).1, (iw_2 k).2]; simp [Lib.joinTail, tGlue, tPlus, tMinus]; omega
  · rw [(iw_3 k).1, (iw_3 k).2]; cases x.f <;> simp [Lib.joinTail, tPen, tWidth, tFlag] <;> omega

theorem sum_run (s t : ByteArray) (h : s.size ≤ 1000000) (h2 : t.size ≤ 1000000) (W : World) : (Op.stringOp .add s t).run Tryd.prog W = .ok (.string (s ++ t)) W :=
  run_string_add_sum W _ _ (by omega)
theorem size_app (s t : ByteArray) : (s ++ t).size = s.size + t.size := ByteArray.size_append ..

/-- A function that writes a number. -/
def Writes (f : FuncId) (ok : World → Prop) : Prop := ∀ (n : Int) (w : World), -1000000000000 < n → n < 1000000000000 → ok w → Calls Tryd.prog f #[.int .i64 n] w fun e w' => e = .returned (.string (itoaB n)) ∧ Below w.heap.size w w'

def TextIs (w : World) (s : ByteArray) (e : Ending) (w' : World) : Prop := e = .returned (.string s) ∧ Below w.heap.size w w'

/-- The library's table of powers of ten is laid. -/
def TB (w : World) : Prop := Lib.TabIs Tryd.prog w "internal/strconv.uint64pow10" .u64 Lib.pow10Tab
theorem TB.below {w w' : World} (h : TB w) (hb : Below w.heap.size w w') : TB w' := Joins.tab_stays (g := 3) (by kernel_rfl) h hb (Nat.le_refl _)
theorem below_grow {B : Nat} {w w' : World} (os : Array Obj) (h : Below B w w') (hs : B ≤ w'.heap.size) : Below B w (Go.Sort.grow w' os) :=
  h.trans ⟨rfl, rfl, rfl, by simp, fun k hk => by
    show (w'.heap ++ os)[k]? = w'.heap[k]?
    rw [Array.getElem?_append_left (by omega)]⟩
theorem writesImpl : Writes 42 TB := fun n w h1 h2 ht =>
  (Tryd.strconv_Itoa n (by omega) (by omega) w ht).mono fun e w' ⟨h, k, os, hw⟩ => ⟨h, by rw [hw]; exact below_grow os (below_drewN k) (Nat.le_refl _)⟩

theorem etxtB_ok {x : It} (hv : vIt x = true) : etxtB x = itxtB x := by rw [etxtB, etxt, if_pos hv]; rfl
theorem etxtB_no {x : It} (hv : vIt x = false) : etxtB x = ⟨#[]⟩ := by rw [etxtB, etxt, if_neg (by rw [hv]; decide)]
theorem box_at {w w1 : World} {cs : Array Value} {t : TypeId} (h : Below (w.alloc (.cells cs t)).heap.size (w.alloc (.cells cs t)) w1) : BlkIs w1 w.heap.size t cs ∧ Below w.heap.size w w1 := by
  refine ⟨?_, below_step ((Below.refl _ _).alloc (Nat.le_refl _) _) h⟩
  have := h.block w.heap.size (by simp)
  rw [BlkIs, this]
  exact heap_alloc_new w _


end Go.Proofs.YtmljofijeladoaaDoor
