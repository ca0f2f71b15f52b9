/-
  Contracts of markText and of the functions that write texts as marks into a slice and ask for them again.
-/
import Derived.Test.YtdgmienljhaipaaDoorMarks
import Derived.Test.YtdgmienljhaipaaDoorStrs
import Derived.Laws.IdiomStrings
import Derived.Laws.Concat
namespace Go.Proofs.YtdgmienljhaipaaDoor
open Go.RowKit
set_option linter.unusedVariables false

/-- The decimal digits of k, ahead of 'acc'. -/
def mdig : Nat → Nat → ByteArray → ByteArray
  | 0, _, acc => acc
  | f + 1, k, acc => if k = 0 then acc else mdig f (k / 10) (⟨#[UInt8.ofNat (48 + k % 10)]⟩ ++ acc)
theorem mdig_zero : ∀ (f : Nat) (acc : ByteArray), mdig f 0 acc = acc
  | 0, _ => rfl
  | f + 1, acc => by rw [mdig, if_pos rfl]
theorem mdig_fuel : ∀ (f g k : Nat) (acc : ByteArray), k ≤ f → k ≤ g → mdig f k acc = mdig g k acc
  | 0, g, k, acc, h, _ => by obtain rfl : k = 0 := by omega
                             rw [mdig_zero, mdig_zero]
  | f + 1, 0, k, acc, _, h => by obtain rfl : k = 0 := by omega
                                 rw [mdig_zero, mdig_zero]
  | f + 1, g + 1, k, acc, h1, h2 => by
    rw [mdig, mdig]
    split
    · rfl
    · exact mdig_fuel f g _ _ (by omega) (by omega)
def mdigJ (k : Nat) (acc : ByteArray) : ByteArray := mdig k k acc
theorem mdigJ_step {k : Nat} (acc : ByteArray) (h : 0 < k) : mdigJ k acc = mdigJ (k / 10) (⟨#[UInt8.ofNat (48 + k % 10)]⟩ ++ acc) := by
  rw [mdigJ, show k = (k - 1) + 1 from by omega, mdig, if_neg (by omega), show k - 1 + 1 = k from by omega]
  exact mdig_fuel _ _ _ _ (by omega) (Nat.le_refl _)
def mtx (k : Nat) : ByteArray := ⟨#[109]⟩ ++ mdigJ k ⟨#[]⟩

def MtRel (w : World) (k : Nat) (s v : Value) (wr : World) : Prop :=
  ∃ (j : Nat) (acc : ByteArray), s = .int .i64 (j : Int) ∧ v = .string acc ∧ j ≤ k ∧ acc.size + j ≤ k ∧ mdigJ k ⟨#[]⟩ = mdigJ j acc ∧ Below w.heap.size w wr

theorem size_one_app (x : UInt8) (acc : ByteArray) : ((⟨#[x]⟩ : ByteArray) ++ acc).size = acc.size + 1 := by
  have h : (⟨#[x]⟩ : ByteArray).size = 1 := rfl
  rw [ByteArray.size_append, h]; omega

set_option maxHeartbeats 2000000 in
theorem markText_any (k : Nat) (w : World) (h1 : 1 ≤ k) (h2 : k ≤ 20000000) :
    Calls Tryd.prog 35 #[.int .i64 (k : Int)] w fun e w' => e = .returned (.string (mtx k)) ∧ Below w.heap.size w w' := by
  have hk0 : ¬ (k : Int) ≤ 0 := by omega
  go_enter Tryd.func35, Tryd.ntmps35
  go_wp2_with fail
  go_loopw [0, 3] (MtRel w k) (fun s _ _ => (intOf s).toNat)
  case atStart => exact ⟨k, ⟨#[]⟩, rfl, rfl, Nat.le_refl _, by show 0 + k ≤ k; omega, rfl, Below.refl _ _⟩
  case round =>
    obtain ⟨j, acc, rfl, rfl, hjk, hsz, hd, hb⟩ := hrel
    have HD := Lib.hid hd
    have HB := Lib.hid hb
    clear hd hb
    by_cases hj : 0 < j
    · have hj' : (0 : Int) < (j : Int) := by omega
      obtain ⟨d, hdd⟩ : ∃ d, d = UInt8.ofNat (48 + j % 10) := ⟨_, rfl⟩
      have hdn : (d.toNat : Int) = 48 + (j : Int) % 10 := by
        rw [hdd, UInt8.toNat_ofNat']
        omega
      have hcv : ∀ W : World, (convert 22 9 (.slice (some ⟨W.heap.size, 0, none⟩) 1 1)).run Tryd.prog (W.alloc (.cells #[.int .u8 (48 + (j : Int) % 10)] 5)) = .ok (.string ⟨#[d]⟩) (W.alloc (.cells #[.int .u8 (48 + (j : Int) % 10)] 5)) := fun W => by
        refine run_convert_bytes_back _ _ _ 5 ⟨W.heap.size, 0, none⟩ 1 [d] Tryd.underlying22 Tryd.underlying5 Tryd.underlying9 (fun i hi => ?_)
        obtain rfl : i = 0 := by simp at hi; omega
        rw [Addr.add_lit, Nat.zero_add, cell_of_row _ W.heap.size 0 _ 5 (0, 0) (heap_alloc_new W _)]
        simp [hdn]
      have hadd : ∀ W : World, (Op.stringOp .add ⟨#[d]⟩ acc).run Tryd.prog W = .ok (.string (⟨#[d]⟩ ++ acc)) W := fun W => run_string_add_sum W _ _ (by have h : (⟨#[d]⟩ : ByteArray).size = 1 := rfl; omega)
      have HDD := Lib.hid hdd
      have hm0 : 0 ≤ (j : Int) % 10 := by omega
      have hm1 : (j : Int) % 10 < 10 := by omega
      clear hdd hdn
      go_wp2_with fail
      go_roundw
      case rel =>
        refine ⟨j / 10, ⟨#[d]⟩ ++ acc, by rw [show ((j / 10 : Nat) : Int) = (j : Int) / 10 from by omega], rfl, by omega, ?_, ?_, HB.out.alloc HB.out.size _⟩
        · have := size_one_app d acc; omega
        · rw [HD.out, mdigJ_step acc hj, ← HDD.out]
      case measure => simp [intOf] <;> omega
    · obtain rfl : j = 0 := by omega
      have hadd : ∀ W : World, (Op.stringOp .add ⟨#[109]⟩ acc).run Tryd.prog W = .ok (.string (⟨#[109]⟩ ++ acc)) W := fun W => run_string_add_sum W _ _ (by have h : (⟨#[109]⟩ : ByteArray).size = 1 := rfl; omega)
      go_wp2_with fail
      go_ret
      refine ⟨?_, HB.out⟩
      rw [mtx, HD.out]
      rfl

def smarks (k n : Nat) : List ByteArray := (List.range n).map fun j => mtx (k + j)
theorem smarks_length (k n : Nat) : (smarks k n).length = n := by simp [smarks]
theorem smarks_get (k n j : Nat) (h : j < n) : (smarks k n)[j]? = some (mtx (k + j)) := by simp [smarks, h]
theorem strs_marks_set (k i : Nat) (xs : List ByteArray) (hi : i < xs.length) : (strs' (smarks k i ++ xs.drop i)).set i (.string (mtx (k + i))) = strs' (smarks k (i + 1) ++ xs.drop (i + 1)) := by
  unfold strs' smarks
  rw [← List.map_set, List.set_append_right _ _ (by simp)]
  have h1 : i - ((List.range i).map fun j => mtx (k + j)).length = 0 := by simp
  rw [h1, List.drop_eq_getElem_cons hi, List.set_cons_zero, List.range_succ, List.map_append]
  simp
theorem gr_below_own {w wr w' : World} {row : Option Nat} (h : w.grownBy wr row) (hb : Below wr.heap.size wr w') : w.grownBy w' row :=
  ⟨hb.os.trans h.os, hb.tape.trans h.tape, hb.output.trans h.output, Nat.le_trans h.size hb.size, fun k hk hne => (hb.block k (Nat.lt_of_lt_of_le hk h.size)).trans (h.block k hk hne)⟩

def MarkedS (w : World) (base : Nat) (v : Value) (n k : Nat) (e : Ending) (w' : World) : Prop :=
  e = .returned (.int .i64 ((k + n : Nat) : Int)) ∧ w'.ownsRow base 9 1 v n (strs' (smarks k n)) ∧ w.grownBy w' v.ownBlock
def MarkRelS (w : World) (base : Nat) (v : Value) (n k : Nat) (xs : List ByteArray) (s i : Value) (wr : World) : Prop :=
  ∃ j : Nat, j ≤ n ∧ s = .int .i64 ((k + j : Nat) : Int) ∧ i = .int .i64 (j : Int) ∧ wr.ownsRow base 9 1 v n (strs' (smarks k j ++ xs.drop j)) ∧ w.grownBy wr v.ownBlock

set_option maxHeartbeats 2000000 in
theorem markStringS_any (w : World) (base : Nat) (A : Option Addr) (n c k : Nat) (xs : List ByteArray) (hx : w.ownsRow base 9 1 (.slice A n c) n (strs' xs)) (hn : n ≤ 2097152) (hk0 : 1 ≤ k) (hk : k ≤ 10000000) :
    Calls Tryd.prog 22 #[.slice A n c, .int .i64 (k : Int)] w (MarkedS w base (.slice A n c) n k) := by
  have HL := Lib.hid (Rd.own hx).slen
  have HX := Lib.hid hx
  clear hx
  go_enter Tryd.func22, Tryd.ntmps22
  go_wp2_with fail
  go_loopw [1, 5] (MarkRelS w base (.slice A n c) n k xs) (fun _ i _ => n - (intOf i).toNat)
  case atStart => exact ⟨0, Nat.zero_le _, rfl, rfl, by simpa [smarks] using HX.out, gr_refl_own _ _⟩
  case round =>
    obtain ⟨j, hj, rfl, rfl, hown, hgr⟩ := hrel
    have HO := Lib.hid hown
    have HG := Lib.hid hgr
    clear hown hgr
    by_cases hlt : j < n
    · obtain ⟨g, rfl, hg, hgs, hnc, hc⟩ := own_cap HO.out (by omega)
      have HM := Lib.hid (markText_any (k + j) wr (by omega) (by omega))
      have hkj : ((k + j : Nat) : Int) = (k : Int) + (j : Int) := by omega
      rw [hkj] at HM
      have hkk : (0 : Int) ≤ (k : Int) + (j : Int) := by omega
      clear hkj
      go_wp2_with fail
      refine HM.out.mono ?_
      rintro e w1 ⟨rfl, hb⟩
      have HO1 := Lib.hid (own_below HO.out hb)
      have HG1 := Lib.hid (gr_below_own HG.out hb)
      have hs1 : wr.heap.size ≤ w1.heap.size := hb.size
      clear hb HM HO HG
      have hcell : ∃ u, w1.cell? ⟨g, j, none⟩ = some (.string u) := by
        have h := HO1.out.cellAt j (by omega)
        have hl : j < (smarks k j ++ xs.drop j).length := by simp [smarks_length]; have := HL.out; omega
        exact ⟨(smarks k j ++ xs.drop j)[j], by rw [h, strs', List.getElem?_map, List.getElem?_eq_getElem hl]; rfl⟩
      obtain ⟨u, hcell⟩ := hcell
      have hf := HO1.out.frozenAt j
      have ST := Lib.hid (HO1.out.stored j (.string (mtx (k + j)))).1
      have SG := Lib.hid (gr_set_own HG1.out j (.string (mtx (k + j))))
      clear HO1 HG1
      go_wp2_with fail
      go_roundw
      case rel =>
        refine ⟨j + 1, by omega, by rw [show ((k + (j + 1) : Nat) : Int) = (k : Int) + (j : Int) + 1 from by omega], by go_num, ?_, SG.out⟩
        rw [← strs_marks_set k j xs (by rw [HL.out]; exact hlt)]
        exact ST.out
      case measure => simp [intOf] <;> omega
    · obtain rfl : j = n := by omega
      go_wp2_with fail
      go_ret
      refine ⟨ret_int (by omega), ?_, HG.out⟩
      have h := HO.out
      rw [List.drop_of_length_le (by rw [HL.out]; exact Nat.le_refl _), List.append_nil] at h
      exact h

def HeldRelS (w : World) (n k : Nat) (s i : Value) (wr : World) : Prop :=
  ∃ j : Nat, j ≤ n ∧ s = .int .i64 ((k + j : Nat) : Int) ∧ i = .int .i64 (j : Int) ∧ Below w.heap.size w wr
set_option maxHeartbeats 2000000 in
theorem heldStringS_any (w : World) (A : Option Addr) (n c k : Nat) (hx : Rd w 1 A n (strs' (smarks k n))) (hn : n ≤ 2097152) (hk0 : 1 ≤ k) (hk : k ≤ 10000000) :
    Calls Tryd.prog 23 #[.slice A n c, .int .i64 (k : Int)] w fun e w' => e = .returned (.int .i64 ((k + n : Nat) : Int)) ∧ Below w.heap.size w w' := by
  go_enter Tryd.func23, Tryd.ntmps23
  go_wp2_with fail
  go_loopw [1, 5] (HeldRelS w n k) (fun _ i _ => n - (intOf i).toNat)
  case atStart => exact ⟨0, Nat.zero_le _, rfl, rfl, Below.refl _ _⟩
  case round =>
    obtain ⟨j, hj, rfl, rfl, hb⟩ := hrel
    have HB := Lib.hid hb
    clear hb
    by_cases hlt : j < n
    · obtain ⟨b, o, x, rfl, ex, hcx⟩ := (hx.below HB.out).str_at hlt
      rw [smarks_get k n j hlt] at ex
      injection ex with ex
      subst ex
      clear hx
      have fcx := ext_cell hcx
      clear hcx
      have HM := Lib.hid (fun W : World => markText_any (k + j) W (by omega) (by omega))
      have hkj : ((k + j : Nat) : Int) = (k : Int) + (j : Int) := by omega
      rw [hkj] at HM
      clear hkj
      have hkk : (0 : Int) ≤ (k : Int) + (j : Int) := by omega
      have hlt' : (j : Int) < (n : Int) := by omega
      have hj0 : (0 : Int) ≤ (j : Int) := by omega
      go_wp2_with fail
      refine wp_region_ext (by kernel_rfl) (by kernel_rfl) ?_
      repeat (go_big_quiet_step ((go_at_call 35; exact ext_call (HM.out _))))
      refine wpQuiet_nil ?_
      intro w1 hw1
      have HB1 := Lib.hid (below_step HB.out (ext_below hw1))
      clear hw1
      go_wp2_with fail
      go_roundw
      case rel => exact ⟨j + 1, by omega, by rw [show ((k + (j + 1) : Nat) : Int) = (k : Int) + (j : Int) + 1 from by omega], by go_num, HB1.out⟩
      case measure => simp [intOf] <;> omega
    · obtain rfl : j = n := by omega
      clear hx
      go_wp2_with fail
      go_ret
      exact ⟨ret_int (by omega), HB.out⟩

def MarkedS1 (w : World) (base : Nat) (v : Value) (n : Nat) (e : Ending) (w' : World) : Prop :=
  e = .returned (.int .i64 (1 + (n : Int))) ∧ w'.ownsRow base 9 1 v n (strs' (smarks 1 n)) ∧ w.grownBy w' v.ownBlock
theorem markStringS_1 (w : World) (base : Nat) (A : Option Addr) (n c : Nat) (xs : List ByteArray) (hx : w.ownsRow base 9 1 (.slice A n c) n (strs' xs)) (hn : n ≤ 2097152) :
    Calls Tryd.prog 22 #[.slice A n c, .int .i64 1] w (MarkedS1 w base (.slice A n c) n) :=
  (markStringS_any w base A n c 1 xs hx hn (by omega) (by omega)).mono fun e w' ⟨h1, h2, h3⟩ => ⟨h1.trans (ret_int (by omega)), h2, h3⟩
theorem heldStringS_1 (w : World) (A : Option Addr) (n c : Nat) (hx : Rd w 1 A n (strs' (smarks 1 n))) (hn : n ≤ 2097152) :
    Calls Tryd.prog 23 #[.slice A n c, .int .i64 1] w fun e w' => e = .returned (.int .i64 (1 + (n : Int))) ∧ Below w.heap.size w w' :=
  (heldStringS_any w A n c 1 hx hn (by omega) (by omega)).mono fun e w' ⟨h1, h2⟩ => ⟨h1.trans (ret_int (by omega)), h2⟩
end Go.Proofs.YtdgmienljhaipaaDoor
