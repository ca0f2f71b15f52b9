/-
  Contracts of the functions that write an item, the reference's and the program's.
-/
import Derived.Test.YtmnmdecbehfegaaDoorItoaG
import Derived.Test.YtmnmdecbehfegaaDoorShelf
import Derived.Test.YtmnmdecbehfegaaDoorReader
import Derived.Lib.SmallJoins
namespace Go.Proofs.YtmnmdecbehfegaaDoor
open Go.RowKit
set_option linter.unusedVariables false

def lBox : ByteArray := ⟨#[98, 111, 120, 32]⟩
def lGlue : ByteArray := ⟨#[103, 108, 117, 101, 32]⟩
def lPlus : ByteArray := ⟨#[32, 112, 108, 117, 115, 32]⟩
def lMinus : ByteArray := ⟨#[32, 109, 105, 110, 117, 115, 32]⟩
def lPen : ByteArray := ⟨#[112, 101, 110, 97, 108, 116, 121, 32]⟩
def lWidth : ByteArray := ⟨#[32, 119, 105, 100, 116, 104, 32]⟩
def lFlag : ByteArray := ⟨#[32, 102, 108, 97, 103, 103, 101, 100]⟩

theorem itxtB_list (x : It) : (itxtB x).data.toList = itxt x := rfl
theorem itxtB_1 (wd st sh p : Int) (f : Bool) : itxtB ⟨1, wd, st, sh, p, f⟩ = ⟨#[98, 111, 120, 32]⟩ ++ itoaB wd := by
  apply ba_ext
  rw [app_toList, itxtB_list, itoaB_list, itxt, (iw_1 rfl).1, (iw_1 rfl).2]
  simp [Lib.joinTail, tBox]
theorem itxtB_2 (wd st sh p : Int) (f : Bool) : itxtB ⟨2, wd, st, sh, p, f⟩ = (((⟨#[103, 108, 117, 101, 32]⟩ ++ itoaB wd) ++ ⟨#[32, 112, 108, 117, 115, 32]⟩) ++ itoaB st) ++ ⟨#[32, 109, 105, 110, 117, 115, 32]⟩ ++ itoaB sh := by
  apply ba_ext
  simp only [app_toList, itxtB_list, itoaB_list]
  rw [itxt, (iw_2 rfl).1, (iw_2 rfl).2]
  simp [Lib.joinTail, tGlue, tPlus, tMinus]
theorem itxtB_3 (wd st sh p : Int) : itxtB ⟨3, wd, st, sh, p, false⟩ = ((⟨#[112, 101, 110, 97, 108, 116, 121, 32]⟩ ++ itoaB p) ++ ⟨#[32, 119, 105, 100, 116, 104, 32]⟩) ++ itoaB wd := by
  apply ba_ext
  simp only [app_toList, itxtB_list, itoaB_list]
  rw [itxt, (iw_3 rfl).1, (iw_3 rfl).2]
  simp [Lib.joinTail, tPen, tWidth]
theorem itxtB_4 (wd st sh p : Int) : itxtB ⟨3, wd, st, sh, p, true⟩ = (((⟨#[112, 101, 110, 97, 108, 116, 121, 32]⟩ ++ itoaB p) ++ ⟨#[32, 119, 105, 100, 116, 104, 32]⟩) ++ itoaB wd) ++ ⟨#[32, 102, 108, 97, 103, 103, 101, 100]⟩ := by
  apply ba_ext
  simp only [app_toList, itxtB_list, itoaB_list]
  rw [itxt, (iw_3 rfl).1, (iw_3 rfl).2]
  simp [Lib.joinTail, tPen, tWidth, tFlag]
theorem itxtB_size {x : It} (hv : vIt x = true) : (itxtB x).size ≤ 70 := by
  have n := vIt_num hv
  have s1 := itoa_len (n := x.w) (by omega) (by omega)
  have s2 := itoa_len (n := x.st) (by omega) (by omega)
  have s3 := itoa_len (n := x.sh) (by omega) (by omega)
  have s4 := itoa_len (n := x.p) (by omega) (by omega)
  have e : (itxtB x).size = (itxt x).length := rfl
  rw [e, itxt]
  rcases vIt_kind hv with ⟨k, _⟩ | ⟨k, _⟩ | ⟨k, _⟩
  · rw [(iw_1 k).1, (iw_1 k).2]; simp [Lib.joinTail, tBox]; omega
  · rw [(iw_2 k).1, (iw_2 k).2]; simp [Lib.joinTail, tGlue, tPlus, tMinus]; omega
  · rw [(iw_3 k).1, (iw_3 k).2]; cases x.f <;> simp [Lib.joinTail, tPen, tWidth, tFlag] <;> omega

theorem sum_run (s t : ByteArray) (h : s.size ≤ 1000000) (h2 : t.size ≤ 1000000) (W : World) : (Op.stringOp .add s t).run Tryd.prog W = .ok (.string (s ++ t)) W :=
  run_string_add_sum W _ _ (by omega)
theorem size_app (s t : ByteArray) : (s ++ t).size = s.size + t.size := ByteArray.size_append ..

/-- A function that writes a number. -/
def Writes (f : FuncId) (ok : World → Prop) : Prop := ∀ (n : Int) (w : World), -1000000000000 < n → n < 1000000000000 → ok w → Calls Tryd.prog f #[.int .i64 n] w fun e w' => e = .returned (.string (itoaB n)) ∧ Below w.heap.size w w'

def TextIs (w : World) (s : ByteArray) (e : Ending) (w' : World) : Prop := e = .returned (.string s) ∧ Below w.heap.size w w'

theorem writesSpec : Writes 55 (fun _ => True) := fun n w h1 h2 _ => formatInt_any n w h1 h2
/-- The library's table of powers of ten is laid. -/
def TB (w : World) : Prop := Lib.TabIs Tryd.prog w "internal/strconv.uint64pow10" .u64 Lib.pow10Tab
theorem TB.below {w w' : World} (h : TB w) (hb : Below w.heap.size w w') : TB w' := Joins.tab_stays (g := 2) (by kernel_rfl) h hb (Nat.le_refl _)
theorem below_grow {B : Nat} {w w' : World} (os : Array Obj) (h : Below B w w') (hs : B ≤ w'.heap.size) : Below B w (Go.Sort.grow w' os) :=
  h.trans ⟨rfl, rfl, rfl, by simp, fun k hk => by
    show (w'.heap ++ os)[k]? = w'.heap[k]?
    rw [Array.getElem?_append_left (by omega)]⟩
theorem writesImpl : Writes 36 TB := fun n w h1 h2 ht =>
  (Tryd.strconv_Itoa n (by omega) (by omega) w ht).mono fun e w' ⟨h, k, os, hw⟩ => ⟨h, by rw [hw]; exact below_grow os (below_drewN k) (Nat.le_refl _)⟩
set_option maxHeartbeats 4000000 in
set_option maxRecDepth 8000 in
theorem fmtSpec_1 (wd st sh p : Int) (f : Bool) (w : World) (h1 : -1000 ≤ wd ∧ wd ≤ 1000) :
    Calls Tryd.prog 33 #[.agg #[.int .i64 1, .int .i64 wd, .int .i64 st, .int .i64 sh, .int .i64 p, .bool f]] w (TextIs w (itxtB ⟨1, wd, st, sh, p, f⟩)) := by
  have hE := Lib.hid (itxtB_1 wd st sh p f)
  have CW := Lib.hid (fun v => writesSpec wd v (by omega) (by omega) trivial)
  have z1 := itoaB_sizeZ (n := wd) (by omega) (by omega)
  obtain ⟨A, hA⟩ : ∃ A, A = itoaB wd := ⟨_, rfl⟩
  rw [← hA] at hE CW z1
  have a1 := sum_run ⟨#[98, 111, 120, 32]⟩ A (by decide) (by omega)
  clear hA
  go_enter Tryd.func33, Tryd.ntmps33
  go_wp2_with (go_at_call 55; refine (CW.out _).mono ?_; rintro e w1 ⟨rfl, hb1⟩; have B1 := Lib.hid (below_step ((Below.refl w.heap.size w).alloc (Nat.le_refl _) _) hb1); clear hb1)
  go_ret
  exact ⟨congrArg (fun z => Ending.returned (.string z)) hE.out.symm, B1.out⟩

set_option maxHeartbeats 4000000 in
set_option maxRecDepth 8000 in
theorem fmtSpec_2 (wd st sh p : Int) (f : Bool) (w : World) (h1 : -1000 ≤ wd ∧ wd ≤ 1000) (h2 : -1000 ≤ st ∧ st ≤ 1000) (h3 : -1000 ≤ sh ∧ sh ≤ 1000) :
    Calls Tryd.prog 33 #[.agg #[.int .i64 2, .int .i64 wd, .int .i64 st, .int .i64 sh, .int .i64 p, .bool f]] w (TextIs w (itxtB ⟨2, wd, st, sh, p, f⟩)) := by
  have hE := Lib.hid (itxtB_2 wd st sh p f)
  have CW := Lib.hid (fun v => writesSpec wd v (by omega) (by omega) trivial)
  have CS := Lib.hid (fun v => writesSpec st v (by omega) (by omega) trivial)
  have CH := Lib.hid (fun v => writesSpec sh v (by omega) (by omega) trivial)
  have z1 := itoaB_sizeZ (n := wd) (by omega) (by omega)
  have z2 := itoaB_sizeZ (n := st) (by omega) (by omega)
  have z3 := itoaB_sizeZ (n := sh) (by omega) (by omega)
  obtain ⟨A, hA⟩ : ∃ A, A = itoaB wd := ⟨_, rfl⟩
  rw [← hA] at hE CW z1
  obtain ⟨B, hB⟩ : ∃ B, B = itoaB st := ⟨_, rfl⟩
  rw [← hB] at hE CS z2
  obtain ⟨C, hC⟩ : ∃ C, C = itoaB sh := ⟨_, rfl⟩
  rw [← hC] at hE CH z3
  have l1 : (⟨#[103, 108, 117, 101, 32]⟩ : ByteArray).size = 5 := rfl
  have l2 : (⟨#[32, 112, 108, 117, 115, 32]⟩ : ByteArray).size = 6 := rfl
  have l3 : (⟨#[32, 109, 105, 110, 117, 115, 32]⟩ : ByteArray).size = 7 := rfl
  have a1 := sum_run ⟨#[103, 108, 117, 101, 32]⟩ A (by omega) (by omega)
  have a2 := sum_run (⟨#[103, 108, 117, 101, 32]⟩ ++ A) ⟨#[32, 112, 108, 117, 115, 32]⟩ (by rw [size_app]; omega) (by omega)
  have a3 := sum_run ((⟨#[103, 108, 117, 101, 32]⟩ ++ A) ++ ⟨#[32, 112, 108, 117, 115, 32]⟩) B (by rw [size_app, size_app]; omega) (by omega)
  have a4 := sum_run (((⟨#[103, 108, 117, 101, 32]⟩ ++ A) ++ ⟨#[32, 112, 108, 117, 115, 32]⟩) ++ B) ⟨#[32, 109, 105, 110, 117, 115, 32]⟩ (by rw [size_app, size_app, size_app]; omega) (by omega)
  have a5 := sum_run ((((⟨#[103, 108, 117, 101, 32]⟩ ++ A) ++ ⟨#[32, 112, 108, 117, 115, 32]⟩) ++ B) ++ ⟨#[32, 109, 105, 110, 117, 115, 32]⟩) C (by rw [size_app, size_app, size_app, size_app]; omega) (by omega)
  clear hA hB hC l1 l2 l3
  obtain ⟨wa, hwa⟩ : ∃ wa, wa = w.alloc (.cells #[.int .i64 2, .int .i64 wd, .int .i64 st, .int .i64 sh, .int .i64 p, .bool f] 29) := ⟨_, rfl⟩
  have hblk : BlkIs wa w.heap.size 29 #[.int .i64 2, .int .i64 wd, .int .i64 st, .int .i64 sh, .int .i64 p, .bool f] := by rw [hwa]; exact heap_alloc_new w _
  have c1 : ∀ n : Ext wa, n.val.cell? ⟨w.heap.size, 1, none⟩ = some (.int .i64 wd) := ext_cell (hblk.cell 1)
  have c2 : ∀ n : Ext wa, n.val.cell? ⟨w.heap.size, 2, none⟩ = some (.int .i64 st) := ext_cell (hblk.cell 2)
  have c3 : ∀ n : Ext wa, n.val.cell? ⟨w.heap.size, 3, none⟩ = some (.int .i64 sh) := ext_cell (hblk.cell 3)
  have BA : Hid (Below w.heap.size w wa) := by show Below _ _ _; rw [hwa]; exact (Below.refl w.heap.size w).alloc (Nat.le_refl _) _
  rw [hwa] at c1 c2 c3 BA
  clear hwa hblk
  go_enter Tryd.func33, Tryd.ntmps33
  go_wp2_with fail
  refine wp_region_ext (by kernel_rfl) (by kernel_rfl) ?_
  repeat (go_big_quiet_step ((first | (go_at_call_of 55 wd; exact ext_call (CW.out _)) | (go_at_call_of 55 st; exact ext_call (CS.out _)) | (go_at_call_of 55 sh; exact ext_call (CH.out _)))))
  refine wpQuiet_nil ?_
  intro w6 hw6
  have B6 := Lib.hid (below_step BA.out (ext_below hw6))
  clear hw6
  go_wp2_with fail
  go_ret
  exact ⟨congrArg (fun z => Ending.returned (.string z)) hE.out.symm, B6.out⟩

set_option maxHeartbeats 4000000 in
set_option maxRecDepth 8000 in
theorem fmtSpec_3 (wd st sh p : Int) (w : World) (h1 : -1000 ≤ wd ∧ wd ≤ 1000) (h2 : -1000 ≤ p ∧ p ≤ 1000) :
    Calls Tryd.prog 33 #[.agg #[.int .i64 3, .int .i64 wd, .int .i64 st, .int .i64 sh, .int .i64 p, .bool false]] w (TextIs w (itxtB ⟨3, wd, st, sh, p, false⟩)) := by
  have hE := Lib.hid (itxtB_3 wd st sh p)
  have CW := Lib.hid (fun v => writesSpec wd v (by omega) (by omega) trivial)
  have CP := Lib.hid (fun v => writesSpec p v (by omega) (by omega) trivial)
  have z1 := itoaB_sizeZ (n := wd) (by omega) (by omega)
  have z2 := itoaB_sizeZ (n := p) (by omega) (by omega)
  obtain ⟨A, hA⟩ : ∃ A, A = itoaB wd := ⟨_, rfl⟩
  rw [← hA] at hE CW z1
  obtain ⟨P, hP⟩ : ∃ P, P = itoaB p := ⟨_, rfl⟩
  rw [← hP] at hE CP z2
  have l1 : (⟨#[112, 101, 110, 97, 108, 116, 121, 32]⟩ : ByteArray).size = 8 := rfl
  have l2 : (⟨#[32, 119, 105, 100, 116, 104, 32]⟩ : ByteArray).size = 7 := rfl
  have l3 : (⟨#[32, 102, 108, 97, 103, 103, 101, 100]⟩ : ByteArray).size = 8 := rfl
  have a1 := sum_run ⟨#[112, 101, 110, 97, 108, 116, 121, 32]⟩ P (by omega) (by omega)
  have a2 := sum_run (⟨#[112, 101, 110, 97, 108, 116, 121, 32]⟩ ++ P) ⟨#[32, 119, 105, 100, 116, 104, 32]⟩ (by rw [size_app]; omega) (by omega)
  have a3 := sum_run ((⟨#[112, 101, 110, 97, 108, 116, 121, 32]⟩ ++ P) ++ ⟨#[32, 119, 105, 100, 116, 104, 32]⟩) A (by rw [size_app, size_app]; omega) (by omega)
  have a4 := sum_run (((⟨#[112, 101, 110, 97, 108, 116, 121, 32]⟩ ++ P) ++ ⟨#[32, 119, 105, 100, 116, 104, 32]⟩) ++ A) ⟨#[32, 102, 108, 97, 103, 103, 101, 100]⟩ (by rw [size_app, size_app, size_app]; omega) (by omega)
  clear hA hP l1 l2 l3
  obtain ⟨wa, hwa⟩ : ∃ wa, wa = w.alloc (.cells #[.int .i64 3, .int .i64 wd, .int .i64 st, .int .i64 sh, .int .i64 p, .bool false] 29) := ⟨_, rfl⟩
  have hblk : BlkIs wa w.heap.size 29 #[.int .i64 3, .int .i64 wd, .int .i64 st, .int .i64 sh, .int .i64 p, .bool false] := by rw [hwa]; exact heap_alloc_new w _
  have c1 : ∀ n : Ext wa, n.val.cell? ⟨w.heap.size, 1, none⟩ = some (.int .i64 wd) := ext_cell (hblk.cell 1)
  have c4 : ∀ n : Ext wa, n.val.cell? ⟨w.heap.size, 4, none⟩ = some (.int .i64 p) := ext_cell (hblk.cell 4)
  have CF : Hid (∀ n : Ext wa, n.val.cell? ⟨w.heap.size, 5, none⟩ = some (.bool false)) := ext_cell (hblk.cell 5)
  have BA : Hid (Below w.heap.size w wa) := by show Below _ _ _; rw [hwa]; exact (Below.refl w.heap.size w).alloc (Nat.le_refl _) _
  rw [hwa] at c1 c4 BA CF
  clear hwa hblk
  go_enter Tryd.func33, Tryd.ntmps33
  go_wp2_with fail
  refine wp_region_ext (by kernel_rfl) (by kernel_rfl) ?_
  repeat (go_big_quiet_step ((first | (go_at_call_of 55 wd; exact ext_call (CW.out _)) | (go_at_call_of 55 p; exact ext_call (CP.out _)))))
  refine wpQuiet_nil ?_
  intro w6 hw6
  have B6 := Lib.hid (below_step BA.out (ext_below hw6))
  have cf : w6.cell? ⟨w.heap.size, 5, none⟩ = some (.bool false) := by obtain ⟨n, rfl⟩ := hw6; exact CF.out n
  clear hw6 c1 c4
  go_wp2_with fail
  go_ret
  exact ⟨congrArg (fun z => Ending.returned (.string z)) hE.out.symm, B6.out⟩

set_option maxHeartbeats 4000000 in
set_option maxRecDepth 8000 in
theorem fmtSpec_4 (wd st sh p : Int) (w : World) (h1 : -1000 ≤ wd ∧ wd ≤ 1000) (h2 : -1000 ≤ p ∧ p ≤ 1000) :
    Calls Tryd.prog 33 #[.agg #[.int .i64 3, .int .i64 wd, .int .i64 st, .int .i64 sh, .int .i64 p, .bool true]] w (TextIs w (itxtB ⟨3, wd, st, sh, p, true⟩)) := by
  have hE := Lib.hid (itxtB_4 wd st sh p)
  have CW := Lib.hid (fun v => writesSpec wd v (by omega) (by omega) trivial)
  have CP := Lib.hid (fun v => writesSpec p v (by omega) (by omega) trivial)
  have z1 := itoaB_sizeZ (n := wd) (by omega) (by omega)
  have z2 := itoaB_sizeZ (n := p) (by omega) (by omega)
  obtain ⟨A, hA⟩ : ∃ A, A = itoaB wd := ⟨_, rfl⟩
  rw [← hA] at hE CW z1
  obtain ⟨P, hP⟩ : ∃ P, P = itoaB p := ⟨_, rfl⟩
  rw [← hP] at hE CP z2
  have l1 : (⟨#[112, 101, 110, 97, 108, 116, 121, 32]⟩ : ByteArray).size = 8 := rfl
  have l2 : (⟨#[32, 119, 105, 100, 116, 104, 32]⟩ : ByteArray).size = 7 := rfl
  have l3 : (⟨#[32, 102, 108, 97, 103, 103, 101, 100]⟩ : ByteArray).size = 8 := rfl
  have a1 := sum_run ⟨#[112, 101, 110, 97, 108, 116, 121, 32]⟩ P (by omega) (by omega)
  have a2 := sum_run (⟨#[112, 101, 110, 97, 108, 116, 121, 32]⟩ ++ P) ⟨#[32, 119, 105, 100, 116, 104, 32]⟩ (by rw [size_app]; omega) (by omega)
  have a3 := sum_run ((⟨#[112, 101, 110, 97, 108, 116, 121, 32]⟩ ++ P) ++ ⟨#[32, 119, 105, 100, 116, 104, 32]⟩) A (by rw [size_app, size_app]; omega) (by omega)
  have a4 := sum_run (((⟨#[112, 101, 110, 97, 108, 116, 121, 32]⟩ ++ P) ++ ⟨#[32, 119, 105, 100, 116, 104, 32]⟩) ++ A) ⟨#[32, 102, 108, 97, 103, 103, 101, 100]⟩ (by rw [size_app, size_app, size_app]; omega) (by omega)
  clear hA hP l1 l2 l3
  obtain ⟨wa, hwa⟩ : ∃ wa, wa = w.alloc (.cells #[.int .i64 3, .int .i64 wd, .int .i64 st, .int .i64 sh, .int .i64 p, .bool true] 29) := ⟨_, rfl⟩
  have hblk : BlkIs wa w.heap.size 29 #[.int .i64 3, .int .i64 wd, .int .i64 st, .int .i64 sh, .int .i64 p, .bool true] := by rw [hwa]; exact heap_alloc_new w _
  have c1 : ∀ n : Ext wa, n.val.cell? ⟨w.heap.size, 1, none⟩ = some (.int .i64 wd) := ext_cell (hblk.cell 1)
  have c4 : ∀ n : Ext wa, n.val.cell? ⟨w.heap.size, 4, none⟩ = some (.int .i64 p) := ext_cell (hblk.cell 4)
  have CF : Hid (∀ n : Ext wa, n.val.cell? ⟨w.heap.size, 5, none⟩ = some (.bool true)) := ext_cell (hblk.cell 5)
  have BA : Hid (Below w.heap.size w wa) := by show Below _ _ _; rw [hwa]; exact (Below.refl w.heap.size w).alloc (Nat.le_refl _) _
  rw [hwa] at c1 c4 BA CF
  clear hwa hblk
  go_enter Tryd.func33, Tryd.ntmps33
  go_wp2_with fail
  refine wp_region_ext (by kernel_rfl) (by kernel_rfl) ?_
  repeat (go_big_quiet_step ((first | (go_at_call_of 55 wd; exact ext_call (CW.out _)) | (go_at_call_of 55 p; exact ext_call (CP.out _)))))
  refine wpQuiet_nil ?_
  intro w6 hw6
  have B6 := Lib.hid (below_step BA.out (ext_below hw6))
  have cf : w6.cell? ⟨w.heap.size, 5, none⟩ = some (.bool true) := by obtain ⟨n, rfl⟩ := hw6; exact CF.out n
  clear hw6 c1 c4
  go_wp2_with fail
  go_ret
  exact ⟨congrArg (fun z => Ending.returned (.string z)) hE.out.symm, B6.out⟩

theorem fmtSpec_any (x : It) (hv : vIt x = true) (w : World) :
    Calls Tryd.prog 33 #[.agg #[.int .i64 x.k, .int .i64 x.w, .int .i64 x.st, .int .i64 x.sh, .int .i64 x.p, .bool x.f]] w (TextIs w (itxtB x)) := by
  have n := vIt_num hv
  obtain ⟨k, wd, st, sh, p, f⟩ := x
  rcases vIt_kind hv with ⟨h, _⟩ | ⟨h, _⟩ | ⟨h, _⟩
  · simp only at h n; subst h; exact fmtSpec_1 wd st sh p f w n.1
  · simp only at h n; subst h; exact fmtSpec_2 wd st sh p f w n.1 n.2.1 n.2.2.1
  · simp only at h n; subst h
    cases f
    · exact fmtSpec_3 wd st sh p w n.1 n.2.2.2
    · exact fmtSpec_4 wd st sh p w n.1 n.2.2.2

theorem etxtB_ok {x : It} (hv : vIt x = true) : etxtB x = itxtB x := by rw [etxtB, etxt, if_pos hv]; rfl
theorem etxtB_no {x : It} (hv : vIt x = false) : etxtB x = ⟨#[]⟩ := by rw [etxtB, etxt, if_neg (by rw [hv]; decide)]
theorem box_at {w w1 : World} {cs : Array Value} {t : TypeId} (h : Below (w.alloc (.cells cs t)).heap.size (w.alloc (.cells cs t)) w1) : BlkIs w1 w.heap.size t cs ∧ Below w.heap.size w w1 := by
  refine ⟨?_, below_step ((Below.refl _ _).alloc (Nat.le_refl _) _) h⟩
  have := h.block w.heap.size (by simp)
  rw [BlkIs, this]
  exact heap_alloc_new w _

set_option maxHeartbeats 1000000 in
theorem encSpec_any (x : It) (w : World) :
    Calls Tryd.prog 11 #[.agg #[.int .i64 x.k, .int .i64 x.w, .int .i64 x.st, .int .i64 x.sh, .int .i64 x.p, .bool x.f]] w (TextIs w (etxtB x)) := by
  have VI := Lib.hid (specItem_any x (w.alloc (.cells #[.int .i64 x.k, .int .i64 x.w, .int .i64 x.st, .int .i64 x.sh, .int .i64 x.p, .bool x.f] 29)))
  cases hv : vIt x
  · have E := Lib.hid (etxtB_no hv)
    rw [hv] at VI
    clear hv
    go_enter Tryd.func11, Tryd.ntmps11
    go_wp2_with fail
    refine VI.out.mono ?_
    rintro e w1 ⟨rfl, hb⟩
    have B1 := Lib.hid (box_at hb).2
    clear hb
    go_wp2_with fail
    go_ret
    exact ⟨congrArg (fun z => Ending.returned (.string z)) E.out.symm, B1.out⟩
  · have E := Lib.hid (etxtB_ok hv)
    have FM := Lib.hid (fun w1 => fmtSpec_any x hv w1)
    rw [hv] at VI
    clear hv
    obtain ⟨k, wd, st, sh, p, f⟩ := x
    go_enter Tryd.func11, Tryd.ntmps11
    go_wp2_with fail
    refine VI.out.mono ?_
    rintro e w1 ⟨rfl, hb⟩
    obtain ⟨hk, hb'⟩ := box_at hb
    have B1 := Lib.hid hb'
    have c0 := hk.cell 0
    have c1 := hk.cell 1
    have c2 := hk.cell 2
    have c3 := hk.cell 3
    have c4 := hk.cell 4
    have c5 := hk.cell 5
    simp only [List.getElem?_toArray, List.getElem?_cons_zero, List.getElem?_cons_succ] at c0 c1 c2 c3 c4 c5
    clear hb hb' hk
    go_wp2_with (go_at_call 33; refine (FM.out _).mono ?_; rintro e w2 ⟨rfl, hb2⟩; have B2 := Lib.hid (below_step B1.out hb2); clear hb2)
    go_ret
    exact ⟨congrArg (fun z => Ending.returned (.string z)) E.out.symm, B2.out⟩

set_option maxHeartbeats 4000000 in
set_option maxRecDepth 8000 in
theorem encImpl_1 (wd st sh p : Int) (f : Bool) (w : World) (hv : vIt ⟨1, wd, st, sh, p, f⟩ = true) (ht : TB w) :
    Calls Tryd.prog 13 #[.agg #[.int .i64 1, .int .i64 wd, .int .i64 st, .int .i64 sh, .int .i64 p, .bool f]] w (TextIs w (itxtB ⟨1, wd, st, sh, p, f⟩)) := by
  have n := vIt_num hv
  simp only at n
  obtain ⟨h1, h2, h3, h4⟩ := n
  have hE := Lib.hid (itxtB_1 wd st sh p f)
  have VI := Lib.hid (implItem_any ⟨1, wd, st, sh, p, f⟩ (w.alloc (.cells #[.int .i64 1, .int .i64 wd, .int .i64 st, .int .i64 sh, .int .i64 p, .bool f] 29)))
  rw [hv] at VI
  clear hv
  simp only at VI
  have CW := Lib.hid (fun v (hb : Below w.heap.size w v) => writesImpl wd v (by omega) (by omega) (ht.below hb))
  clear ht
  have z1 := itoaB_sizeZ (n := wd) (by omega) (by omega)
  obtain ⟨A, hA⟩ : ∃ A, A = itoaB wd := ⟨_, rfl⟩
  rw [← hA] at hE CW z1
  have a1 := sum_run ⟨#[98, 111, 120, 32]⟩ A (by decide) (by omega)
  clear hA
  go_enter Tryd.func13, Tryd.ntmps13
  go_wp2_with fail
  refine VI.out.mono ?_
  rintro e w1 ⟨rfl, hb⟩
  obtain ⟨hk, hb'⟩ := box_at hb
  have B1 := Lib.hid hb'
  have HK := Lib.hid hk
  have c0 := hk.cell 0
  have c1 := hk.cell 1
  simp only [List.getElem?_toArray, List.getElem?_cons_zero, List.getElem?_cons_succ] at c0 c1
  clear hb hb' hk
  go_wp2_with fail
  refine (CW.out w1 B1.out).mono ?_
  rintro e w2 ⟨rfl, hb2⟩
  have B2 := Lib.hid (below_step B1.out hb2)
  have hk2 : BlkIs w2 w.heap.size 29 #[.int .i64 1, .int .i64 wd, .int .i64 st, .int .i64 sh, .int .i64 p, .bool f] := by
    have := hb2.block w.heap.size HK.out.lt
    rw [BlkIs, this]; exact HK.out
  have d0 := hk2.cell 0
  have d2 := hk2.cell 2
  have d3 := hk2.cell 3
  have d4 := hk2.cell 4
  have d5 := hk2.cell 5
  simp only [List.getElem?_toArray, List.getElem?_cons_zero, List.getElem?_cons_succ] at d0 d2 d3 d4 d5
  clear hb2 c0 c1 hk2
  go_wp2_with fail
  go_ret
  exact ⟨congrArg (fun z => Ending.returned (.string z)) hE.out.symm, B2.out⟩

set_option maxHeartbeats 4000000 in
set_option maxRecDepth 8000 in
theorem encImpl_2 (wd st sh p : Int) (f : Bool) (w : World) (hv : vIt ⟨2, wd, st, sh, p, f⟩ = true) (ht : TB w) :
    Calls Tryd.prog 13 #[.agg #[.int .i64 2, .int .i64 wd, .int .i64 st, .int .i64 sh, .int .i64 p, .bool f]] w (TextIs w (itxtB ⟨2, wd, st, sh, p, f⟩)) := by
  have n := vIt_num hv
  simp only at n
  obtain ⟨h1, h2, h3, h4⟩ := n
  have hE := Lib.hid (itxtB_2 wd st sh p f)
  have VI := Lib.hid (implItem_any ⟨2, wd, st, sh, p, f⟩ (w.alloc (.cells #[.int .i64 2, .int .i64 wd, .int .i64 st, .int .i64 sh, .int .i64 p, .bool f] 29)))
  rw [hv] at VI
  clear hv
  simp only at VI
  have CW := Lib.hid (fun v (hb : Below w.heap.size w v) => writesImpl wd v (by omega) (by omega) (ht.below hb))
  have CS := Lib.hid (fun v (hb : Below w.heap.size w v) => writesImpl st v (by omega) (by omega) (ht.below hb))
  have CH := Lib.hid (fun v (hb : Below w.heap.size w v) => writesImpl sh v (by omega) (by omega) (ht.below hb))
  clear ht
  have z1 := itoaB_sizeZ (n := wd) (by omega) (by omega)
  have z2 := itoaB_sizeZ (n := st) (by omega) (by omega)
  have z3 := itoaB_sizeZ (n := sh) (by omega) (by omega)
  obtain ⟨A, hA⟩ : ∃ A, A = itoaB wd := ⟨_, rfl⟩
  rw [← hA] at hE CW z1
  obtain ⟨B, hB⟩ : ∃ B, B = itoaB st := ⟨_, rfl⟩
  rw [← hB] at hE CS z2
  obtain ⟨C, hC⟩ : ∃ C, C = itoaB sh := ⟨_, rfl⟩
  rw [← hC] at hE CH z3
  have l1 : (⟨#[103, 108, 117, 101, 32]⟩ : ByteArray).size = 5 := rfl
  have l2 : (⟨#[32, 112, 108, 117, 115, 32]⟩ : ByteArray).size = 6 := rfl
  have l3 : (⟨#[32, 109, 105, 110, 117, 115, 32]⟩ : ByteArray).size = 7 := rfl
  have a1 := sum_run ⟨#[103, 108, 117, 101, 32]⟩ A (by omega) (by omega)
  have a2 := sum_run (⟨#[103, 108, 117, 101, 32]⟩ ++ A) ⟨#[32, 112, 108, 117, 115, 32]⟩ (by rw [size_app]; omega) (by omega)
  have a3 := sum_run ((⟨#[103, 108, 117, 101, 32]⟩ ++ A) ++ ⟨#[32, 112, 108, 117, 115, 32]⟩) B (by rw [size_app, size_app]; omega) (by omega)
  have a4 := sum_run (((⟨#[103, 108, 117, 101, 32]⟩ ++ A) ++ ⟨#[32, 112, 108, 117, 115, 32]⟩) ++ B) ⟨#[32, 109, 105, 110, 117, 115, 32]⟩ (by rw [size_app, size_app, size_app]; omega) (by omega)
  have a5 := sum_run ((((⟨#[103, 108, 117, 101, 32]⟩ ++ A) ++ ⟨#[32, 112, 108, 117, 115, 32]⟩) ++ B) ++ ⟨#[32, 109, 105, 110, 117, 115, 32]⟩) C (by rw [size_app, size_app, size_app, size_app]; omega) (by omega)
  clear hA hB hC l1 l2 l3
  go_enter Tryd.func13, Tryd.ntmps13
  go_wp2_with fail
  refine VI.out.mono ?_
  rintro e w1 ⟨rfl, hb⟩
  obtain ⟨hk, hb'⟩ := box_at hb
  have B1 := Lib.hid hb'
  have HK := Lib.hid hk
  have c0 := hk.cell 0
  have c1 := hk.cell 1
  simp only [List.getElem?_toArray, List.getElem?_cons_zero, List.getElem?_cons_succ] at c0 c1
  clear hb hb' hk
  go_wp2_with fail
  refine (CW.out w1 B1.out).mono ?_
  rintro e w2 ⟨rfl, hb2⟩
  have B2 := Lib.hid (below_step B1.out hb2)
  have hk2 : BlkIs w2 w.heap.size 29 #[.int .i64 2, .int .i64 wd, .int .i64 st, .int .i64 sh, .int .i64 p, .bool f] := by
    have := hb2.block w.heap.size HK.out.lt
    rw [BlkIs, this]; exact HK.out
  have d0 := hk2.cell 0
  have d2 := hk2.cell 2
  have d3 := hk2.cell 3
  have d4 := hk2.cell 4
  have d5 := hk2.cell 5
  simp only [List.getElem?_toArray, List.getElem?_cons_zero, List.getElem?_cons_succ] at d0 d2 d3 d4 d5
  clear hb2 c0 c1 hk2
  have e2 := ext_cell d2
  have e3 := ext_cell d3
  have CS2 : Hid (∀ v : Ext w2, Calls Tryd.prog 36 #[.int .i64 st] v.val fun e w' => e = .returned (.string B) ∧ Below v.val.heap.size v.val w') := fun v => CS.out v.val (below_step B2.out v.property)
  have CH2 : Hid (∀ v : Ext w2, Calls Tryd.prog 36 #[.int .i64 sh] v.val fun e w' => e = .returned (.string C) ∧ Below v.val.heap.size v.val w') := fun v => CH.out v.val (below_step B2.out v.property)
  go_wp2_with fail
  refine wp_region_ext (by kernel_rfl) (by kernel_rfl) ?_
  repeat (go_big_quiet_step ((first | (go_at_call_of 36 st; exact ext_call (CS2.out _)) | (go_at_call_of 36 sh; exact ext_call (CH2.out _)))))
  refine wpQuiet_nil ?_
  intro w6 hw6
  have B6 := Lib.hid (below_step B2.out (ext_below hw6))
  clear hw6 e2 e3
  go_wp2_with fail
  go_ret
  exact ⟨congrArg (fun z => Ending.returned (.string z)) hE.out.symm, B6.out⟩

set_option maxHeartbeats 4000000 in
set_option maxRecDepth 8000 in
theorem encImpl_3 (wd st sh p : Int) (w : World) (hv : vIt ⟨3, wd, st, sh, p, false⟩ = true) (ht : TB w) :
    Calls Tryd.prog 13 #[.agg #[.int .i64 3, .int .i64 wd, .int .i64 st, .int .i64 sh, .int .i64 p, .bool false]] w (TextIs w (itxtB ⟨3, wd, st, sh, p, false⟩)) := by
  have n := vIt_num hv
  simp only at n
  obtain ⟨h1, h2, h3, h4⟩ := n
  have hE := Lib.hid (itxtB_3 wd st sh p)
  have VI := Lib.hid (implItem_any ⟨3, wd, st, sh, p, false⟩ (w.alloc (.cells #[.int .i64 3, .int .i64 wd, .int .i64 st, .int .i64 sh, .int .i64 p, .bool false] 29)))
  rw [hv] at VI
  clear hv
  simp only at VI
  have CW := Lib.hid (fun v (hb : Below w.heap.size w v) => writesImpl wd v (by omega) (by omega) (ht.below hb))
  have CP := Lib.hid (fun v (hb : Below w.heap.size w v) => writesImpl p v (by omega) (by omega) (ht.below hb))
  clear ht
  have z1 := itoaB_sizeZ (n := wd) (by omega) (by omega)
  have z2 := itoaB_sizeZ (n := p) (by omega) (by omega)
  obtain ⟨A, hA⟩ : ∃ A, A = itoaB wd := ⟨_, rfl⟩
  rw [← hA] at hE CW z1
  obtain ⟨P, hP⟩ : ∃ P, P = itoaB p := ⟨_, rfl⟩
  rw [← hP] at hE CP z2
  have l1 : (⟨#[112, 101, 110, 97, 108, 116, 121, 32]⟩ : ByteArray).size = 8 := rfl
  have l2 : (⟨#[32, 119, 105, 100, 116, 104, 32]⟩ : ByteArray).size = 7 := rfl
  have l3 : (⟨#[32, 102, 108, 97, 103, 103, 101, 100]⟩ : ByteArray).size = 8 := rfl
  have a1 := sum_run ⟨#[112, 101, 110, 97, 108, 116, 121, 32]⟩ P (by omega) (by omega)
  have a2 := sum_run (⟨#[112, 101, 110, 97, 108, 116, 121, 32]⟩ ++ P) ⟨#[32, 119, 105, 100, 116, 104, 32]⟩ (by rw [size_app]; omega) (by omega)
  have a3 := sum_run ((⟨#[112, 101, 110, 97, 108, 116, 121, 32]⟩ ++ P) ++ ⟨#[32, 119, 105, 100, 116, 104, 32]⟩) A (by rw [size_app, size_app]; omega) (by omega)
  have a4 := sum_run (((⟨#[112, 101, 110, 97, 108, 116, 121, 32]⟩ ++ P) ++ ⟨#[32, 119, 105, 100, 116, 104, 32]⟩) ++ A) ⟨#[32, 102, 108, 97, 103, 103, 101, 100]⟩ (by rw [size_app, size_app, size_app]; omega) (by omega)
  clear hA hP l1 l2 l3
  go_enter Tryd.func13, Tryd.ntmps13
  go_wp2_with fail
  refine VI.out.mono ?_
  rintro e w1 ⟨rfl, hb⟩
  obtain ⟨hk, hb'⟩ := box_at hb
  have B1 := Lib.hid hb'
  have HK := Lib.hid hk
  have c0 := hk.cell 0
  have c1 := hk.cell 1
  simp only [List.getElem?_toArray, List.getElem?_cons_zero, List.getElem?_cons_succ] at c0 c1
  clear hb hb' hk
  go_wp2_with fail
  refine (CW.out w1 B1.out).mono ?_
  rintro e w2 ⟨rfl, hb2⟩
  have B2 := Lib.hid (below_step B1.out hb2)
  have hk2 : BlkIs w2 w.heap.size 29 #[.int .i64 3, .int .i64 wd, .int .i64 st, .int .i64 sh, .int .i64 p, .bool false] := by
    have := hb2.block w.heap.size HK.out.lt
    rw [BlkIs, this]; exact HK.out
  have d0 := hk2.cell 0
  have d2 := hk2.cell 2
  have d3 := hk2.cell 3
  have d4 := hk2.cell 4
  have d5 := hk2.cell 5
  simp only [List.getElem?_toArray, List.getElem?_cons_zero, List.getElem?_cons_succ] at d0 d2 d3 d4 d5
  clear hb2 c0 c1 hk2
  go_wp2_with fail
  refine (CP.out w2 B2.out).mono ?_
  rintro e w3 ⟨rfl, hb3⟩
  have B3 := Lib.hid (below_step B2.out hb3)
  have g5 := cell_below hb3 d5
  clear hb3 d0 d2 d3 d4 d5
  go_wp2_with fail
  go_ret
  exact ⟨congrArg (fun z => Ending.returned (.string z)) hE.out.symm, B3.out⟩

set_option maxHeartbeats 4000000 in
set_option maxRecDepth 8000 in
theorem encImpl_4 (wd st sh p : Int) (w : World) (hv : vIt ⟨3, wd, st, sh, p, true⟩ = true) (ht : TB w) :
    Calls Tryd.prog 13 #[.agg #[.int .i64 3, .int .i64 wd, .int .i64 st, .int .i64 sh, .int .i64 p, .bool true]] w (TextIs w (itxtB ⟨3, wd, st, sh, p, true⟩)) := by
  have n := vIt_num hv
  simp only at n
  obtain ⟨h1, h2, h3, h4⟩ := n
  have hE := Lib.hid (itxtB_4 wd st sh p)
  have VI := Lib.hid (implItem_any ⟨3, wd, st, sh, p, true⟩ (w.alloc (.cells #[.int .i64 3, .int .i64 wd, .int .i64 st, .int .i64 sh, .int .i64 p, .bool true] 29)))
  rw [hv] at VI
  clear hv
  simp only at VI
  have CW := Lib.hid (fun v (hb : Below w.heap.size w v) => writesImpl wd v (by omega) (by omega) (ht.below hb))
  have CP := Lib.hid (fun v (hb : Below w.heap.size w v) => writesImpl p v (by omega) (by omega) (ht.below hb))
  clear ht
  have z1 := itoaB_sizeZ (n := wd) (by omega) (by omega)
  have z2 := itoaB_sizeZ (n := p) (by omega) (by omega)
  obtain ⟨A, hA⟩ : ∃ A, A = itoaB wd := ⟨_, rfl⟩
  rw [← hA] at hE CW z1
  obtain ⟨P, hP⟩ : ∃ P, P = itoaB p := ⟨_, rfl⟩
  rw [← hP] at hE CP z2
  have l1 : (⟨#[112, 101, 110, 97, 108, 116, 121, 32]⟩ : ByteArray).size = 8 := rfl
  have l2 : (⟨#[32, 119, 105, 100, 116, 104, 32]⟩ : ByteArray).size = 7 := rfl
  have l3 : (⟨#[32, 102, 108, 97, 103, 103, 101, 100]⟩ : ByteArray).size = 8 := rfl
  have a1 := sum_run ⟨#[112, 101, 110, 97, 108, 116, 121, 32]⟩ P (by omega) (by omega)
  have a2 := sum_run (⟨#[112, 101, 110, 97, 108, 116, 121, 32]⟩ ++ P) ⟨#[32, 119, 105, 100, 116, 104, 32]⟩ (by rw [size_app]; omega) (by omega)
  have a3 := sum_run ((⟨#[112, 101, 110, 97, 108, 116, 121, 32]⟩ ++ P) ++ ⟨#[32, 119, 105, 100, 116, 104, 32]⟩) A (by rw [size_app, size_app]; omega) (by omega)
  have a4 := sum_run (((⟨#[112, 101, 110, 97, 108, 116, 121, 32]⟩ ++ P) ++ ⟨#[32, 119, 105, 100, 116, 104, 32]⟩) ++ A) ⟨#[32, 102, 108, 97, 103, 103, 101, 100]⟩ (by rw [size_app, size_app, size_app]; omega) (by omega)
  clear hA hP l1 l2 l3
  go_enter Tryd.func13, Tryd.ntmps13
  go_wp2_with fail
  refine VI.out.mono ?_
  rintro e w1 ⟨rfl, hb⟩
  obtain ⟨hk, hb'⟩ := box_at hb
  have B1 := Lib.hid hb'
  have HK := Lib.hid hk
  have c0 := hk.cell 0
  have c1 := hk.cell 1
  simp only [List.getElem?_toArray, List.getElem?_cons_zero, List.getElem?_cons_succ] at c0 c1
  clear hb hb' hk
  go_wp2_with fail
  refine (CW.out w1 B1.out).mono ?_
  rintro e w2 ⟨rfl, hb2⟩
  have B2 := Lib.hid (below_step B1.out hb2)
  have hk2 : BlkIs w2 w.heap.size 29 #[.int .i64 3, .int .i64 wd, .int .i64 st, .int .i64 sh, .int .i64 p, .bool true] := by
    have := hb2.block w.heap.size HK.out.lt
    rw [BlkIs, this]; exact HK.out
  have d0 := hk2.cell 0
  have d2 := hk2.cell 2
  have d3 := hk2.cell 3
  have d4 := hk2.cell 4
  have d5 := hk2.cell 5
  simp only [List.getElem?_toArray, List.getElem?_cons_zero, List.getElem?_cons_succ] at d0 d2 d3 d4 d5
  clear hb2 c0 c1 hk2
  go_wp2_with fail
  refine (CP.out w2 B2.out).mono ?_
  rintro e w3 ⟨rfl, hb3⟩
  have B3 := Lib.hid (below_step B2.out hb3)
  have g5 := cell_below hb3 d5
  clear hb3 d0 d2 d3 d4 d5
  go_wp2_with fail
  go_ret
  exact ⟨congrArg (fun z => Ending.returned (.string z)) hE.out.symm, B3.out⟩
theorem encImpl_any (x : It) (w : World) (ht : TB w) :
    Calls Tryd.prog 13 #[.agg #[.int .i64 x.k, .int .i64 x.w, .int .i64 x.st, .int .i64 x.sh, .int .i64 x.p, .bool x.f]] w (TextIs w (etxtB x)) := by
  cases hv : vIt x
  · have E := Lib.hid (etxtB_no hv)
    have VI := Lib.hid (implItem_any x (w.alloc (.cells #[.int .i64 x.k, .int .i64 x.w, .int .i64 x.st, .int .i64 x.sh, .int .i64 x.p, .bool x.f] 29)))
    rw [hv] at VI
    clear hv
    go_enter Tryd.func13, Tryd.ntmps13
    go_wp2_with fail
    refine VI.out.mono ?_
    rintro e w1 ⟨rfl, hb⟩
    have B1 := Lib.hid (box_at hb).2
    clear hb
    go_wp2_with fail
    go_ret
    exact ⟨congrArg (fun z => Ending.returned (.string z)) E.out.symm, B1.out⟩
  · rw [etxtB_ok hv]
    obtain ⟨k, wd, st, sh, p, f⟩ := x
    rcases vIt_kind hv with ⟨h, _⟩ | ⟨h, _⟩ | ⟨h, _⟩
    · simp only at h; subst h; exact encImpl_1 wd st sh p f w hv ht
    · simp only at h; subst h; exact encImpl_2 wd st sh p f w hv ht
    · simp only at h; subst h
      cases f
      · exact encImpl_3 wd st sh p w hv ht
      · exact encImpl_4 wd st sh p w hv ht
end Go.Proofs.YtmnmdecbehfegaaDoor
