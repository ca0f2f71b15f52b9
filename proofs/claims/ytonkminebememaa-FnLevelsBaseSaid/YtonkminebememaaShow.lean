/-
  Contracts of ShowText, the program's and the reference's: the characters in the order in which they are shown.
-/
import Derived.Test.YtonkminebememaaOrderOf
import Derived.Test.YtonkminebememaaLevelsSpec
import Derived.Test.YtonkminebememaaBuilder
import Derived.Test.YtonkminebememaaShelf
import Derived.Laws.IdiomStrings
namespace Go.Proofs.Ytonkminebememaa
open Go.RowKit
set_option linter.unusedVariables false

theorem ret_str {a b : ByteArray} (h : a = b) : Ending.returned (.string a) = .returned (.string b) := by rw [h]
def chAt (s : ByteArray) (x : Nat) : UInt8 := (s.data[x]?).getD 0
theorem chAt_eq {s : ByteArray} {x : Nat} (h : x < s.size) : chAt s x = s[x] := by
  have h2 : x < s.data.size := h
  unfold chAt
  rw [Array.getElem?_eq_getElem h2]
  rfl
/-- The characters in an order. -/
def chars (s : ByteArray) (o : List Nat) : List UInt8 := o.map (chAt s)
def showL (s : ByteArray) (base : Int) : ByteArray := ⟨(chars s (ordL (lvls s base))).toArray⟩
theorem chars_get {s : ByteArray} {o : List Nat} {k x : Nat} (h : o[k]? = some x) : (chars s o)[k]? = some (chAt s x) := by simp [chars, h]
theorem showL_no {s : ByteArray} {base : Int} (h : lvls s base = []) : showL s base = ⟨#[]⟩ := by
  unfold showL
  rw [h]
  rfl
theorem lvls_bd {s : ByteArray} {base : Int} : ∀ l ∈ lvls s base, 0 ≤ l ∧ l ≤ 6 := by
  intro l hl
  by_cases hc : (vText s && inB 0 1 base) = true
  · have hc' := hc
    simp only [Bool.and_eq_true, inB_iff] at hc'
    unfold lvls at hl
    rw [if_pos hc] at hl
    unfold levels at hl
    obtain ⟨k, _, rfl⟩ := List.mem_map.1 hl
    have := levAt_bd (s := s) hc'.2.1 hc'.2.2 k
    omega
  · unfold lvls at hl
    rw [if_neg hc] at hl
    cases hl
theorem lvls_le (s : ByteArray) (base : Int) : (lvls s base).length ≤ 60 := by
  by_cases h : (lvls s base).length = 0
  · omega
  · obtain ⟨h1, _, _, _, h5⟩ := lvls_ne h
    have := vText_size h1
    omega
theorem lvls_len {s : ByteArray} {base : Int} : (lvls s base).length = 0 ∨ (lvls s base).length = s.size := by
  by_cases h : (lvls s base).length = 0
  · exact .inl h
  · exact .inr (lvls_ne h).2.2.2.2

def ShRel (s : ByteArray) (o : List Nat) (w : World) (A2 : Option Addr) (c2 : Nat) (v i : Value) (wr : World) : Prop :=
  ∃ k g d : Nat, k ≤ o.length ∧ i = .int .i64 (k : Int) ∧ v = .slice (some ⟨g, 0, none⟩) k d ∧ wr.ownsRow w.heap.size 5 1 v k (Lib.byteCells ((chars s o).take k)) ∧ Below w.heap.size w wr ∧ wr.ownsRow w.heap.size 3 1 (.slice A2 o.length c2) o.length (ints (nats o))
theorem byte_take {s : ByteArray} {o : List Nat} {k x : Nat} (h : o[k]? = some x) : Lib.byteCells ((chars s o).take (k + 1)) = Lib.byteCells ((chars s o).take k) ++ [.int .u8 ((chAt s x).toNat : Int)] := by
  rw [List.take_add_one, chars_get h]
  simp [Lib.byteCells]
theorem conv_row {g n d base : Nat} {l : List UInt8} {w : World} (h : w.ownsRow base 5 1 (.slice (some ⟨g, 0, none⟩) n d) n (Lib.byteCells l)) :
    (convert 22 9 (.slice (some ⟨g, 0, none⟩) n d)).run Try.prog w = .ok (.string ⟨l.toArray⟩) w := by
  have hl : l.length = n := by have := h.1; simpa [Lib.byteCells] using this
  subst hl
  refine run_convert_bytes_back _ _ _ 5 ⟨g, 0, none⟩ d l Try.underlying22 Try.underlying5 Try.underlying9 (fun j hj => ?_)
  rw [Addr.add_lit, Nat.zero_add, h.cellAt j (by omega)]
  simp [Lib.byteCells, hj]

set_option maxHeartbeats 8000000 in
theorem specShow_any (s : ByteArray) (base : Int) (w : World) (hs : s.size ≤ 1048576) :
    Calls Try.prog 13 #[.string s, .int .i64 base] w fun e w' => e = .returned (.string (showL s base)) ∧ Below w.heap.size w w' := by
  have HT := Lib.hid (specText_any s w (by omega))
  cases hv : vText s
  · rw [hv] at HT
    have HE := Lib.hid (showL_no (lvls_text (base := base) hv))
    clear hv
    go_enter Try.func13, Try.ntmps13
    go_wp2_with fail
    refine HT.out.mono ?_
    rintro e w' ⟨rfl, rfl⟩
    go_wp2_with fail
    go_ret
    exact ⟨ret_str HE.out.symm, Below.refl _ _⟩
  rw [hv] at HT
  have hs60 := vText_size hv
  cases hbb : inB 0 1 base
  · have HE := Lib.hid (showL_no (lvls_base (s := s) hbb))
    have HB := Lib.hid hbb
    clear hbb hv
    go_enter Try.func13, Try.ntmps13
    go_wp2_with fail
    refine HT.out.mono ?_
    rintro e w' ⟨rfl, rfl⟩
    go_wp2_with fail
    refine (inRange_any _ _ _ _ HB.out _).mono ?_
    rintro e w' ⟨rfl, rfl⟩
    go_wp2_with fail
    go_ret
    exact ⟨ret_str HE.out.symm, Below.refl _ _⟩
  have HE := Lib.hid (lvls_ok hv hbb)
  have HB := Lib.hid hbb
  obtain ⟨hb0, hb1⟩ := inB_iff.1 hbb
  clear hbb hv
  have LBD := Lib.hid (@lvls_bd s base)
  have hl60 := lvls_le s base
  obtain ⟨ls, hls⟩ : ∃ ls, ls = lvls s base := ⟨_, rfl⟩
  have HSL : Hid (showL s base = ⟨(chars s (ordL ls)).toArray⟩) := by show showL s base = _; rw [hls]; rfl
  have HLN : Hid (ls.length = s.size) := by show ls.length = s.size; rw [hls, HE.out, levels_length]
  rw [← hls] at LBD hl60
  have HLS := Lib.hid hls
  clear hls
  go_enter Try.func13, Try.ntmps13
  go_wp2_with fail
  refine HT.out.mono ?_
  rintro e w' ⟨rfl, rfl⟩
  go_wp2_with fail
  refine (inRange_any _ _ _ _ HB.out _).mono ?_
  rintro e w' ⟨rfl, rfl⟩
  have BA := Lib.hid ((Below.refl w.heap.size w).alloc (Nat.le_refl _) (.cells #[] 5))
  have ON : Hid ((w.alloc (.cells #[] 5)).ownsRow w.heap.size 5 1 (.slice (some ⟨w.heap.size, 0, none⟩) 0 0) 0 []) :=
    ⟨by simp, .inr ⟨w.heap.size, 0, #[], rfl, Nat.le_refl _, heap_alloc_new w _, Nat.le_refl _, by unfold maxLen; omega, rfl, rfl⟩⟩
  go_wp2_with fail
  refine (specLevels0_any s base _ hs60 hb0 hb1 HE.out).mono ?_
  rintro e w1 ⟨A, n, c, rfl, hk, ho, hb⟩
  rw [← HLS.out] at hk ho
  subst hk
  have O1 := Lib.hid ho
  have B1 := Lib.hid hb
  clear ho hb
  go_wp2_with fail
  refine (reorder_any A ls.length c ls w1 (Rd.own O1.out) hl60 LBD.out).mono ?_
  rintro e w2 ⟨A2, n2, c2, rfl, hk2, ho2, hb2⟩
  have hz1 : (w.alloc (.cells #[] 5)).heap.size ≤ w1.heap.size := B1.out.size
  have B2 := Lib.hid ((BA.out.trans (B1.out.mono BA.out.size)).trans (hb2.mono (Nat.le_trans BA.out.size hz1)))
  have ON2 := Lib.hid (own_below (own_below ON.out B1.out) hb2)
  subst hk2
  have O2 := Lib.hid ho2
  clear ho2 hb2
  obtain ⟨o, ho⟩ : ∃ o, o = ordL ls := ⟨_, rfl⟩
  have OL : Hid (o.length = ls.length) := by show o.length = ls.length; rw [ho, ordL_length]
  have OM : Hid (∀ x ∈ o, x < s.size) := fun x hx => by rw [← HLN.out]; exact ordL_lt (by rw [← ho]; exact hx)
  rw [← ho] at O2 HSL
  have HO := Lib.hid ho
  clear ho
  have hn60 : o.length ≤ 60 := by rw [OL.out]; exact hl60
  have hon : o.length = ls.length := OL.out
  rw [← hon] at O2 ⊢
  clear hon
  go_wp2_with fail
  have SO2 := Lib.hid (own_base O2.out (show w.heap.size ≤ w1.heap.size from Nat.le_trans BA.out.size hz1))
  clear O2
  go_loopw [5, 7] (ShRel s o w A2 c2) (fun _ i _ => o.length - (intOf i).toNat)
  case atStart => exact ⟨0, w.heap.size, 0, Nat.zero_le _, rfl, rfl, ON2.out, B2.out, SO2.out⟩
  case round =>
    clear SO2 ON2 B2
    obtain ⟨k, g, d, hk, rfl, rfl, hown, hbel, hso⟩ := hrel
    have O3 := Lib.hid hown
    have B3 := Lib.hid hbel
    have SO := Lib.hid hso
    clear hown hbel hso
    by_cases hlt : k < o.length
    case pos =>
      have hlt' : (k : Int) < (o.length : Int) := by omega
      have hk0 : (0 : Int) ≤ (k : Int) := by omega
      have hok : o[k]? = some (o[k]'hlt) := List.getElem?_eq_getElem _
      obtain ⟨x, ex⟩ : ∃ x, o[k]? = some x := ⟨_, hok⟩
      clear hok
      have hx := OM.out x (List.mem_of_getElem? ex)
      have hx' : (x : Int) < (s.size : Int) := by omega
      have hx0 : (0 : Int) ≤ (x : Int) := by omega
      obtain ⟨b2, o2, y, eA, ey, hcy⟩ := (Rd.own SO.out).int_at hlt
      rw [nats_get ex] at ey
      injection ey with ey
      subst ey
      subst eA
      have HBT := Lib.hid (byte_take (s := s) ex)
      rw [chAt_eq hx] at HBT
      obtain ⟨z, hz⟩ : ∃ z : Int, z = (s[x].toNat : Int) := ⟨_, rfl⟩
      rw [← hz] at HBT
      have hsz := B3.out.size
      obtain ⟨i0, hi, hz0, hz1, hz2⟩ := info_parts infoByte
      clear ex
      go_wp2_with (at_builtin; refine wpList_append_own _ rfl _ _ 22 rfl w.heap.size 5 i0 (.int .u8 0) 1 1 Try.underlying22 hi hz0 hz1 hz2 rfl (by decide) _ _ _ rfl (O3.out.alloc _) ⟨wr.heap.size, 0, none⟩ 1 1 [.int .u8 z] rfl rfl ?c1 ?c2 ?c3 ?c4 ?c5 ?_)
      case c1 =>
        intro j u hj
        match j, hj with
        | 0, hj =>
          simp at hj
          subst hj
          rw [hz]
          simp [Addr.add]
      case c2 => intro u hu; simp at hu; subst hu; rfl
      case c3 => unfold maxLen; omega
      case c4 => omega
      case c5 => simp; omega
      intro v' w2 hown' hgrow _
      obtain ⟨L', d', e', hd'⟩ := own_shape hown'
      subst e'
      obtain ⟨g', hL', _, _⟩ := own_headI hown' (by omega)
      subst hL'
      have SO' := Lib.hid (((Keeps.refl wr).app O3.out _ hgrow).own SO.out (by decide) (by decide))
      have B' := Lib.hid (below_app (B3.out.alloc hsz _) hgrow O3.out (Nat.le_refl _))
      have O' := Lib.hid hown'
      clear hown' hgrow
      go_wp2_with fail
      go_roundw
      case rel => exact ⟨k + 1, g', d', by omega, by go_num, rfl, by rw [HBT.out, hz]; exact O'.out, B'.out, SO'.out⟩
      case measure => simp [intOf] <;> omega
    case neg =>
      obtain rfl : k = o.length := by omega
      have hlt' : ¬ (o.length : Int) < (o.length : Int) := by omega
      have hcv := conv_row O3.out
      rw [List.take_of_length_le (by simp [chars])] at hcv
      go_wp2_with fail
      go_ret
      exact ⟨ret_str HSL.out.symm, B3.out⟩

def ShRelB (s : ByteArray) (o : List Nat) (w : World) (A2 : Option Addr) (c2 : Nat) (i : Value) (wr : World) : Prop :=
  ∃ k : Nat, k ≤ o.length ∧ i = .int .i64 (k : Int) ∧ Lib.IsBuilder 42 5 w.heap.size w.heap.size (Lib.byteCells ((chars s o).take k)) wr ∧ Below w.heap.size w wr ∧ wr.ownsRow w.heap.size 3 1 (.slice A2 o.length c2) o.length (ints (nats o))

theorem builder_below {T E : TypeId} {B b : Nat} {bs : List Value} {w w' : World} (h : Lib.IsBuilder T E B b bs w) (hb : Below w.heap.size w w') : Lib.IsBuilder T E B b bs w' := by
  rcases h with h | h
  · obtain ⟨h1, v, h2, h3, h4⟩ := h
    exact .inl ⟨h1, v, by rw [hb.block b (Array.getElem?_eq_some_iff.1 h2).1]; exact h2, own_below h3 hb, h4⟩
  · obtain ⟨h1, v, h2, h3, h4⟩ := h
    exact .inr ⟨h1, v, by rw [hb.block b (Array.getElem?_eq_some_iff.1 h2).1]; exact h2, own_below h3 hb, h4⟩
set_option maxHeartbeats 8000000 in
theorem implShow_any (s : ByteArray) (base : Int) (w : World) (hs : s.size ≤ 1048576) :
    Calls Try.prog 14 #[.string s, .int .i64 base] w fun e w' => e = .returned (.string (showL s base)) ∧ Below w.heap.size w w' := by
  have LBD := Lib.hid (@lvls_bd s base)
  have hl60 := lvls_le s base
  have HLN := Lib.hid (@lvls_len s base)
  have LV := Lib.hid (fun w => implLevels_any s base w hs)
  obtain ⟨ls, hls⟩ : ∃ ls, ls = lvls s base := ⟨_, rfl⟩
  have HSL : Hid (showL s base = ⟨(chars s (ordL ls)).toArray⟩) := by show showL s base = _; rw [hls]; rfl
  rw [← hls] at LBD hl60 HLN
  have HLS := Lib.hid hls
  clear hls
  have BA := Lib.hid ((Below.refl w.heap.size w).alloc (Nat.le_refl _) (.cells #[.pointer none, .slice none 0 0] 42))
  have BN := Lib.hid (builder_new w)
  go_enter Try.func14, Try.ntmps14
  go_wp2_with fail
  refine (LV.out _).mono ?_
  rintro e w1 ⟨A, n, c, rfl, hk, ho, hb⟩
  rw [← HLS.out] at hk ho
  subst hk
  have O1 := Lib.hid ho
  have B1 := Lib.hid hb
  clear ho hb
  go_wp2_with fail
  refine (implOrder_any A ls.length c ls w1 (Rd.own O1.out) hl60 LBD.out).mono ?_
  rintro e w2 ⟨A2, n2, c2, rfl, hk2, ho2, hb2⟩
  have hz1 : (w.alloc (.cells #[.pointer none, .slice none 0 0] 42)).heap.size ≤ w1.heap.size := B1.out.size
  have B2 := Lib.hid ((BA.out.trans (B1.out.mono BA.out.size)).trans (hb2.mono (Nat.le_trans BA.out.size hz1)))
  have BN2 := Lib.hid (builder_below (builder_below BN.out B1.out) hb2)
  subst hk2
  obtain ⟨o, ho⟩ : ∃ o, o = ordL ls := ⟨_, rfl⟩
  have OL : Hid (o.length = ls.length) := by show o.length = ls.length; rw [ho, ordL_length]
  have OM : Hid (∀ x ∈ o, x < s.size) := fun x hx => by
    have h1 := ordL_lt (show x ∈ ordL ls by rw [← ho]; exact hx)
    rcases HLN.out with h2 | h2 <;> omega
  rw [← ho] at ho2 HSL
  clear ho
  have hn60 : o.length ≤ 60 := by rw [OL.out]; exact hl60
  have hon : o.length = ls.length := OL.out
  rw [← hon] at ho2 ⊢
  clear hon
  have SO2 := Lib.hid (own_base ho2 (show w.heap.size ≤ w1.heap.size from Nat.le_trans BA.out.size hz1))
  clear ho2 hb2
  go_wp2_with fail
  go_loopw [13] (ShRelB s o w A2 c2) (fun i _ => o.length - (intOf i).toNat)
  case atStart => exact ⟨0, Nat.zero_le _, rfl, BN2.out, B2.out, SO2.out⟩
  case round =>
    clear SO2 BN2 B2 BN
    obtain ⟨k, hk, rfl, hbu, hbel, hso⟩ := hrel
    have U3 := Lib.hid hbu
    have B3 := Lib.hid hbel
    have SO := Lib.hid hso
    clear hbu hbel hso
    have hbl : (Lib.byteCells ((chars s o).take k)).length ≤ 100000 := by
      rw [Lib.byteCells_length, List.length_take]
      omega
    by_cases hlt : k < o.length
    case pos =>
      have hlt' : (k : Int) < (o.length : Int) := by omega
      have hk0 : (0 : Int) ≤ (k : Int) := by omega
      have hok : o[k]? = some (o[k]'hlt) := List.getElem?_eq_getElem _
      obtain ⟨x, ex⟩ : ∃ x, o[k]? = some x := ⟨_, hok⟩
      clear hok
      have hx := OM.out x (List.mem_of_getElem? ex)
      have hx' : (x : Int) < (s.size : Int) := by omega
      have hx0 : (0 : Int) ≤ (x : Int) := by omega
      obtain ⟨b2, o2, y, eA, ey, hcy⟩ := (Rd.own SO.out).int_at hlt
      rw [nats_get ex] at ey
      injection ey with ey
      subst ey
      subst eA
      have HBT := Lib.hid (byte_take (s := s) ex)
      rw [chAt_eq hx] at HBT
      have hsz := B3.out.size
      clear ex
      go_wp2_with fail
      refine (writeByte_any w.heap.size w.heap.size _ _ wr U3.out hbl hsz).mono ?_
      rintro e w4 ⟨rfl, ⟨hu, hb4⟩, hk4⟩
      have U4 := Lib.hid hu
      have B4 := Lib.hid (B3.out.trans hb4)
      have SO' := Lib.hid (hk4.own SO.out (by decide) (by decide))
      clear hu hb4 hk4
      go_wp2_with fail
      go_roundw
      case rel => exact ⟨k + 1, by omega, by go_num, .inr (by rw [HBT.out]; exact U4.out), B4.out, SO'.out⟩
      case measure => simp [intOf] <;> omega
    case neg =>
      obtain rfl : k = o.length := by omega
      have hst := Try.Builder_String_any w.heap.size w.heap.size ((chars s o).take o.length) wr U3.out B3.out.size
      rw [List.take_of_length_le (by simp [chars])] at hst
      have HST := Lib.hid hst
      clear hst
      go_wp2_with fail
      refine HST.out.mono ?_
      rintro e w5 ⟨rfl, hb5⟩
      have B5 := Lib.hid (B3.out.trans hb5)
      clear hb5
      go_wp2_with fail
      go_ret
      exact ⟨ret_str HSL.out.symm, B5.out⟩
end Go.Proofs.Ytonkminebememaa
