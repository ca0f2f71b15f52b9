/-
  Contracts of the functions that write a paragraph, the reference's and the program's.
-/
import Derived.Test.YtmnmdecbehfegaaDoorTxtEnc
import Derived.Test.YtmnmdecbehfegaaDoorStrs
namespace Go.Proofs.YtmnmdecbehfegaaDoor
open Go.RowKit
set_option linter.unusedVariables false

/-- The text of a paragraph. -/
def jI (l : List It) : List UInt8 := Lib.join (l.map itxt) [59, 32]
def eits (l : List It) : List UInt8 := if vItems l = true then jI l else []
def eitsB (l : List It) : ByteArray := baL (eits l)
theorem jI_next {l : List It} {k : Nat} {x : It} (h : l[k]? = some x) : jI (l.take (k + 1)) = (if 0 < k then jI (l.take k) ++ [59, 32] else jI (l.take k)) ++ itxt x := by
  cases l with
  | nil => simp at h
  | cons y r =>
    cases k with
    | zero =>
      simp only [List.getElem?_cons_zero, Option.some.injEq] at h
      subst h
      simp [jI, Lib.join_one, Lib.join_nil]
    | succ k =>
      rw [if_pos (by omega)]
      simp only [List.getElem?_cons_succ] at h
      have hr : (r.map itxt)[k]? = some (itxt x) := by rw [List.getElem?_map, h]; rfl
      unfold jI
      rw [List.take_succ_cons, List.take_succ_cons, List.map_cons, List.map_cons, Lib.join_cons, Lib.join_cons, List.map_take, List.map_take, Lib.joinTail_take_succ [59, 32] (r.map itxt) k (itxt x) hr]
      simp [List.append_assoc]
theorem jI_len {l : List It} (h : ∀ x ∈ l, vIt x = true) : ∀ k, k ≤ l.length → (jI (l.take k)).length ≤ 72 * k
  | 0, _ => by simp [jI, Lib.join_nil]
  | k + 1, hk => by
    have ih := jI_len h k (by omega)
    have hx : l[k]? = some l[k] := List.getElem?_eq_getElem (by omega)
    have hz := itxtB_size (h l[k] (List.getElem_mem ..))
    have hz' : (itxt l[k]).length ≤ 70 := hz
    rw [jI_next hx, List.length_append]
    split
    · rw [List.length_append]; simp; omega
    · omega
theorem vItems_each {l : List It} (h : vItems l = true) : (∀ x ∈ l, vIt x = true) ∧ l.length ≤ 60 ∧ 1 ≤ l.length := by
  simp only [vItems, Bool.and_eq_true, inB_iff] at h
  exact ⟨fun x hx => List.all_eq_true.1 h.1.2 x hx, by omega, by omega⟩
theorem eitsB_ok {l : List It} (h : vItems l = true) : eitsB l = baL (jI l) := by rw [eitsB, eits, if_pos h]
theorem eitsB_no {l : List It} (h : vItems l = false) : eitsB l = ⟨#[]⟩ := by rw [eitsB, eits, if_neg (by rw [h]; decide)]; rfl
theorem baL_app (a b : List UInt8) : baL a ++ baL b = baL (a ++ b) := by
  apply ba_ext
  rw [app_toList]; rfl
theorem baL_size (l : List UInt8) : (baL l).size = l.length := rfl

def FiR (w : World) (l : List It) (n : Nat) (v i : Value) (wr : World) : Prop := ∃ k : Nat, k ≤ n ∧ v = .string (baL (jI (l.take k))) ∧ i = .int .i64 k ∧ Below w.heap.size w wr

set_option maxHeartbeats 4000000 in
theorem fmtsSpec_any (A : Option Addr) (n c : Nat) (l : List It) (w : World) (hx : Rd w 6 A n (items l)) (hv : ∀ x ∈ l, vIt x = true) (hn : n ≤ 100) :
    Calls Tryd.prog 38 #[.slice A n c] w (TextIs w (baL (jI l))) := by
  have hl := hx.item_len
  have HL := Lib.hid hl
  have X := Lib.hid hx
  have V := Lib.hid hv
  clear hx hv hl
  go_enter Tryd.func38, Tryd.ntmps38
  go_wp2_with fail
  go_loopw [3, 4] (FiR w l n) (fun _ i _ => n - (intOf i).toNat)
  case atStart => exact ⟨0, Nat.zero_le _, rfl, rfl, Below.refl _ _⟩
  case round =>
    obtain ⟨k, hk, rfl, rfl, hb⟩ := hrel
    have HB := Lib.hid hb
    clear hb
    have hlen := jI_len V.out k (by rw [HL.out]; exact hk)
    have hz1 : (baL (jI (l.take k))).size ≤ 7200 := by rw [baL_size]; omega
    by_cases hlt : k < n
    · obtain ⟨b, o, x, rfl, ex, hc0, hc1, hc2, hc3, hc4, hc5⟩ := (X.out.below HB.out).item_at hlt
      have hvx : vIt x = true := V.out x (List.mem_of_getElem? ex)
      have FM := Lib.hid (fun w1 => fmtSpec_any x hvx w1)
      have hz2 := itxtB_size hvx
      have EN := Lib.hid (jI_next ex)
      have hd1 : (⟨#[59, 32]⟩ : ByteArray).size = 2 := rfl
      obtain ⟨S, hS⟩ : ∃ S, S = baL (jI (l.take k)) := ⟨_, rfl⟩
      have HS := Lib.hid hS
      rw [← hS] at hz1 ⊢
      obtain ⟨D, hD⟩ : ∃ D, D = itxtB x := ⟨_, rfl⟩
      have HD := Lib.hid hD
      rw [← hD] at FM hz2
      clear ex hvx hS hD hlen
      by_cases h0 : k = 0
      · subst h0
        simp only [Nat.zero_mul, Nat.add_zero] at hc0 hc1 hc2 hc3 hc4 hc5
        have SK : Hid (S ++ D = baL (jI (l.take (0 + 1)))) := by
          show _ = _
          rw [HS.out, HD.out, EN.out, if_neg (by omega), show itxtB x = baL (itxt x) from rfl, baL_app]
        have a1 := sum_run S D (by omega) (by omega)
        go_wp2_with (go_at_call 33; refine (FM.out _).mono ?_; rintro e w2 ⟨rfl, hb2⟩; have B2 := Lib.hid (below_step HB.out hb2); clear hb2)
        go_roundw
        case rel => exact ⟨0 + 1, by omega, by rw [SK.out], by go_num, B2.out⟩
        case measure => simp [intOf] <;> omega
      · have hk0 : 0 < k := by omega
        have hki : (0 : Int) < (k : Int) := by omega
        have SK : Hid ((S ++ ⟨#[59, 32]⟩) ++ D = baL (jI (l.take (k + 1)))) := by
          show _ = _
          rw [HS.out, HD.out, EN.out, if_pos hk0, show itxtB x = baL (itxt x) from rfl, show (⟨#[59, 32]⟩ : ByteArray) = baL [59, 32] from rfl, baL_app, baL_app]
        have a1 := sum_run S ⟨#[59, 32]⟩ (by omega) (by omega)
        have a2 := sum_run (S ++ ⟨#[59, 32]⟩) D (by rw [size_app]; omega) (by omega)
        go_wp2_with (go_at_call 33; refine (FM.out _).mono ?_; rintro e w2 ⟨rfl, hb2⟩; have B2 := Lib.hid (below_step HB.out hb2); clear hb2)
        go_roundw
        case rel => exact ⟨k + 1, by omega, by rw [SK.out], by go_num, B2.out⟩
        case measure => simp [intOf] <;> omega
    · obtain rfl : k = n := by omega
      have ET : Hid (l.take k = l) := by show _ = _; rw [← HL.out, List.take_length]
      go_wp2_with fail
      go_ret
      exact ⟨congrArg (fun z => Ending.returned (.string (baL (jI z)))) ET.out, HB.out⟩

theorem encsSpec_any (A : Option Addr) (n c : Nat) (l : List It) (w : World) (hx : Rd w 6 A n (items l)) (hn : n ≤ 1048576) :
    Calls Tryd.prog 15 #[.slice A n c] w (TextIs w (eitsB l)) := by
  have VI := Lib.hid (specItems_any A n c l w hx hn)
  cases hv : vItems l
  · have E := Lib.hid (eitsB_no hv)
    rw [hv] at VI
    clear hv hx
    go_enter Tryd.func15, Tryd.ntmps15
    go_wp2_with (go_at_call 37; refine VI.out.mono ?_; rintro e w1 ⟨rfl, hb⟩; have B1 := Lib.hid hb; clear hb)
    go_ret
    exact ⟨congrArg (fun z => Ending.returned (.string z)) E.out.symm, B1.out⟩
  · have E := Lib.hid (eitsB_ok hv)
    have he := vItems_each hv
    have hl := hx.item_len
    have FM := Lib.hid (fun w1 hb => fmtsSpec_any A n c l w1 (hx.below hb) he.1 (by omega))
    rw [hv] at VI
    clear hv hx he hl
    go_enter Tryd.func15, Tryd.ntmps15
    go_wp2_with fail
    refine VI.out.mono ?_
    rintro e w1 ⟨rfl, hb⟩
    have B1 := Lib.hid hb
    clear hb
    go_wp2_with (go_at_call 38; refine (FM.out w1 B1.out).mono ?_; rintro e w2 ⟨rfl, hb2⟩; have B2 := Lib.hid (below_step B1.out hb2); clear hb2)
    go_ret
    exact ⟨congrArg (fun z => Ending.returned (.string z)) E.out.symm, B2.out⟩

theorem strs_atE {ts : List ByteArray} {k : Nat} (h : k < ts.length) : (strs' (ts.take k ++ List.replicate (ts.length - k) ⟨#[]⟩))[k]? = some (.string ⟨#[]⟩) := by
  unfold strs'
  rw [List.getElem?_map, List.getElem?_append_right (by simp; omega), List.length_take, Nat.min_eq_left (by omega), Nat.sub_self, List.getElem?_replicate, if_pos (by omega)]
  rfl
theorem strs_setE {ts : List ByteArray} {k : Nat} {t : ByteArray} (h : ts[k]? = some t) :
    (strs' (ts.take k ++ List.replicate (ts.length - k) ⟨#[]⟩)).set k (.string t) = strs' (ts.take (k + 1) ++ List.replicate (ts.length - (k + 1)) ⟨#[]⟩) := by
  have hk : k < ts.length := (List.getElem?_eq_some_iff.1 h).1
  unfold strs'
  obtain ⟨m, hm⟩ : ∃ m, ts.length - k = m + 1 := ⟨ts.length - k - 1, by omega⟩
  rw [hm, show ts.length - (k + 1) = m by omega, List.take_add_one, h, List.map_append, List.map_append, List.set_append_right _ _ (by simp; omega), List.length_map, List.length_take, Nat.min_eq_left (by omega), Nat.sub_self, List.replicate_succ]
  simp

def EiR (w1 : World) (ts : List ByteArray) (n : Nat) (i : Value) (wr : World) : Prop :=
  ∃ k : Nat, k ≤ n ∧ i = .int .i64 k ∧ wr.ownsRow w1.heap.size 9 1 (.slice (some ⟨w1.heap.size, 0, none⟩) n n) n (strs' (ts.take k ++ List.replicate (ts.length - k) ⟨#[]⟩)) ∧ Below w1.heap.size w1 wr

set_option maxHeartbeats 4000000 in
theorem encsImpl_any (A : Option Addr) (n c : Nat) (l : List It) (w : World) (hx : Rd w 6 A n (items l)) (hn : n ≤ 1048576) (ht : TB w) :
    Calls Tryd.prog 17 #[.slice A n c] w (TextIs w (eitsB l)) := by
  have VI := Lib.hid (implItems_any A n c l w hx hn)
  cases hv : vItems l
  · have E := Lib.hid (eitsB_no hv)
    rw [hv] at VI
    clear hv hx
    go_enter Tryd.func17, Tryd.ntmps17
    go_wp2_with (go_at_call 31; refine VI.out.mono ?_; rintro e w1 ⟨rfl, hb⟩; have B1 := Lib.hid hb; clear hb)
    go_ret
    exact ⟨congrArg (fun z => Ending.returned (.string z)) E.out.symm, B1.out⟩
  have E := Lib.hid (eitsB_ok hv)
  have he := vItems_each hv
  have hl := hx.item_len
  have hn60 : n ≤ 60 := by omega
  have hn1 : 1 ≤ n := by omega
  have HL := Lib.hid hl
  have V := Lib.hid he.1
  have X := Lib.hid hx
  have T := Lib.hid ht
  have JL := Lib.hid (jI_len he.1 l.length (Nat.le_refl _))
  obtain ⟨ts, hts⟩ : ∃ ts, ts = l.map itxtB := ⟨_, rfl⟩
  have HTS := Lib.hid hts
  have HTL : Hid (ts.length = n) := by show _ = _; rw [hts, List.length_map, hl]
  rw [hv] at VI
  clear hv hx he hl ht hts
  have hmk := run_make_row' (P := Tryd.prog) 55 9 (.string ⟨#[]⟩) 16 Tryd.underlying55 infoStr rfl .i64 .i64 n (by omega) (by omega)
  go_enter Tryd.func17, Tryd.ntmps17
  go_wp2_with fail
  refine VI.out.mono ?_
  rintro e w1 ⟨rfl, hb⟩
  have B1 := Lib.hid hb
  clear hb
  go_wp2_with fail
  go_loopw [14] (EiR w1 ts n) (fun i _ => n - (intOf i).toNat)
  case atStart =>
    refine ⟨0, Nat.zero_le _, rfl, ?_, (Below.refl _ _).alloc (Nat.le_refl _) _⟩
    have h := World.ownsRow_lit (base := w1.heap.size) (e := 9) (size := 1) w1 (madeCells #[.string ⟨#[]⟩] n) n (Nat.le_refl _) (by unfold maxLen; omega) (by rw [size_madeCells]; omega)
    rw [toList_madeCells_one] at h
    have hl := HTL.out
    simpa [strs', hl] using h
  case round =>
    clear hmk
    obtain ⟨k, hk, rfl, hown, hb⟩ := hrel
    have OX := Lib.hid hown
    have HB := Lib.hid hb
    have BA := Lib.hid (below_step B1.out hb)
    clear hown hb
    by_cases hlt : k < n
    · obtain ⟨b, o, x, rfl, ex, hc0, hc1, hc2, hc3, hc4, hc5⟩ := (X.out.below BA.out).item_at hlt
      have hvx : vIt x = true := V.out x (List.mem_of_getElem? ex)
      have hxj : ts[k]? = some (itxtB x) := by rw [HTS.out, List.getElem?_map, ex]; rfl
      have EI := Lib.hid (fun (w2 : World) (h : TB w2) => encImpl_any x w2 h)
      rw [etxtB_ok hvx] at EI
      have hsz := HB.out.size
      obtain ⟨D, hD⟩ : ∃ D, D = itxtB x := ⟨_, rfl⟩
      rw [← hD] at EI hxj
      have HXJ := Lib.hid hxj
      clear ex hvx hD hxj
      go_wp2_with fail
      refine (EI.out _ (T.out.below (BA.out.alloc BA.out.size _))).mono ?_
      rintro e w2 ⟨rfl, hb2⟩
      have O2 := Lib.hid (own_below (OX.out.alloc _) hb2)
      have B2 := Lib.hid (below_step (HB.out.alloc HB.out.size _) hb2)
      clear hb2
      have hc9 : w2.cell? ⟨w1.heap.size, k, none⟩ = some (.string ⟨#[]⟩) := by rw [O2.out.cellAt k (by omega)]; exact strs_atE (by have := HTL.out; omega)
      have hf9 := O2.out.frozenAt k
      have ST := Lib.hid (O2.out.stored k (.string D)).1
      rw [strs_setE HXJ.out] at ST
      go_wp2_with fail
      go_roundw
      case rel => exact ⟨k + 1, by omega, by go_num, ST.out, B2.out.setCell (Nat.le_refl _) _⟩
      case measure => simp [intOf] <;> omega
    · obtain rfl : k = n := by omega
      have RX : Hid (wr.ownsRow w1.heap.size 9 1 (.slice (some ⟨w1.heap.size, 0, none⟩) k k) k (strs' ts)) := by
        have h := OX.out
        rw [List.take_of_length_le (by have := HTL.out; omega), show ts.length - k = 0 from by have := HTL.out; omega, List.replicate_zero, List.append_nil] at h
        exact h
      have hlt5 : w1.heap.size < wr.heap.size := (RX.out.lt w1.heap.size rfl).2
      have hjl : Lib.join (ts.map fun s : ByteArray => s.data.toList) (⟨#[59, 32]⟩ : ByteArray).data.toList = jI l := by
        rw [HTS.out, List.map_map]; rfl
      have hj0 := Tryd.strings_Join w1.heap.size 0 k ts ⟨#[59, 32]⟩ wr (fun i s hs => by
        have hi := (List.getElem?_eq_some_iff.1 hs).1
        rw [Nat.zero_add, RX.out.cellAt i (by have := HTL.out; omega)]
        unfold strs'
        rw [List.getElem?_map, hs]
        rfl) hlt5 (by have := HTL.out; omega) (by have := HTL.out; omega) (by
        rw [hjl]
        have h := JL.out
        rw [List.take_length] at h
        have := HL.out
        omega)
      rw [HTL.out, hjl] at hj0
      have CJ : Hid (Calls Tryd.prog 39 #[.slice (some ⟨w1.heap.size, 0, none⟩) k k, .string ⟨#[59, 32]⟩] wr fun e w' => e = .returned (.string (baL (jI l))) ∧ Below wr.heap.size wr w') := hj0
      clear hj0 hjl hlt5
      go_wp2_with (go_at_call 39; refine CJ.out.mono ?_; rintro e w5 ⟨rfl, hb⟩; have B5 := Lib.hid (below_step BA.out hb); clear hb)
      go_ret
      exact ⟨congrArg (fun z => Ending.returned (.string z)) E.out.symm, B5.out⟩
end Go.Proofs.YtmnmdecbehfegaaDoor
