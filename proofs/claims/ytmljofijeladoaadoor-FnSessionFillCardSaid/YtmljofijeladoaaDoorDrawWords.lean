/-
  Contracts of the reference's generators of words and of the arguments of wrapping.
-/
import Derived.Test.YtmljofijeladoaaDoorReader
import Derived.Test.YtmljofijeladoaaDoorDrawEnds
import Derived.Test.YtmljofijeladoaaDoorWrapEnds
import Derived.Test.YtmljofijeladoaaDoorStrs
import Derived.Laws.IdiomStrings
import Derived.Laws.Concat
namespace Go.Proofs.YtmljofijeladoaaDoor
open Go.RowKit
set_option linter.unusedVariables false

theorem byte_conv (x : Int) (h0 : 0 ≤ x) (h1 : x ≤ 255) (W : World) :
    (convert 22 9 (.slice (some ⟨W.heap.size, 0, none⟩) 1 1)).run Tryd.prog (W.alloc (.cells #[.int .u8 x] 5)) = .ok (.string ⟨#[UInt8.ofNat x.toNat]⟩) (W.alloc (.cells #[.int .u8 x] 5)) := by
  obtain ⟨d, hd⟩ : ∃ d, d = UInt8.ofNat x.toNat := ⟨_, rfl⟩
  have hdn : (d.toNat : Int) = x := by rw [hd, UInt8.toNat_ofNat']; omega
  rw [← hd]
  refine run_convert_bytes_back _ _ _ 5 ⟨W.heap.size, 0, none⟩ 1 [d] Tryd.underlying22 Tryd.underlying5 Tryd.underlying9 (fun i hi => ?_)
  obtain rfl : i = 0 := by simp at hi; omega
  rw [Addr.add_lit, Nat.zero_add, cell_of_row _ W.heap.size 0 _ 5 (0, 0) (heap_alloc_new W _)]
  simp [hdn]

theorem size_appW (a b : ByteArray) : (a ++ b).size = a.size + b.size := ByteArray.size_append

/-- A text of at most 'most' bytes; the reader has gone on by at most K. -/
def MadeStr (w : World) (B g : Nat) (A : Option Addr) (n c : Nat) (bs : List Int) (p K most : Nat) (e : Ending) (w' : World) : Prop :=
  ∃ s p', e = .returned (.string s) ∧ s.size ≤ most ∧ p' ≤ p + K ∧ RdrAt w' B g A n c bs p' ∧ w.grownBy w' (some g)

def RwRel (w : World) (B g : Nat) (A : Option Addr) (n c : Nat) (bs : List Int) (p : Nat) (v i : Value) (wr : World) : Prop :=
  ∃ (k : Nat) (s : ByteArray) (p' : Nat), i = .int .i64 (k : Int) ∧ v = .string s ∧ s.size + k ≤ 7 ∧ p' + k ≤ p + 8 ∧ RdrAt wr B g A n c bs p' ∧ w.grownBy wr (some g)

set_option maxHeartbeats 2000000 in
theorem randomWord_any (w : World) (B g : Nat) (A : Option Addr) (n c : Nat) (bs : List Int) (p : Nat) (hr : RdrAt w B g A n c bs p) (hp : p ≤ 900000) :
    Calls Tryd.prog 52 #[.pointer (some ⟨g, 0, none⟩)] w (MadeStr w B g A n c bs p 8 7) := by
  have HR := Lib.hid hr
  clear hr
  go_enter Tryd.func52, Tryd.ntmps52
  go_wp2_with fail
  refine (pick_gr _ B g A n c bs p 7 HR.out (by omega) (by omega)).mono ?_
  rintro e w1 ⟨v, rfl, hv0, hv1, _, hR, hG⟩
  have hv1' := hv1 (by omega)
  obtain ⟨v0, rfl⟩ := Int.eq_ofNat_of_zero_le hv0
  have R1 := Lib.hid hR
  have G1 := Lib.hid hG
  clear hR hG hv1
  go_wp2_with fail
  go_loopw [3, 4] (RwRel w B g A n c bs p) (fun _ i _ => (intOf i).toNat)
  case atStart => exact ⟨v0 + 1, ⟨#[]⟩, p + 1, by rw [show ((v0 + 1 : Nat) : Int) = 1 + (v0 : Int) from by omega], rfl, by show 0 + (v0 + 1) ≤ 7; omega, by omega, R1.out, G1.out⟩
  case round =>
    obtain ⟨k, s, p', rfl, rfl, hs, hp', hR, hG⟩ := hrel
    have R2 := Lib.hid hR
    have G2 := Lib.hid hG
    clear hR hG
    by_cases hk : 0 < k
    · have hk' : (0 : Int) < (k : Int) := by omega
      go_wp2_with fail
      refine (pick_gr _ B g A n c bs p' 5 R2.out (by omega) (by omega)).mono ?_
      rintro e w2 ⟨v, rfl, hv0, hv1, _, hR, hG⟩
      have hv1' := hv1 (by omega)
      have R3 := Lib.hid hR
      have G3 := Lib.hid (gr_trans G2.out hG)
      clear hR hG hv1
      have hcv := byte_conv (97 + v) (by omega) (by omega)
      have hadd : ∀ W : World, (Op.stringOp .add s ⟨#[UInt8.ofNat (97 + v).toNat]⟩).run Tryd.prog W = .ok (.string (s ++ ⟨#[UInt8.ofNat (97 + v).toNat]⟩)) W := fun W => run_string_add_sum W _ _ (by have h : (⟨#[UInt8.ofNat (97 + v).toNat]⟩ : ByteArray).size = 1 := rfl; omega)
      go_wp2_with fail
      go_roundw
      case rel => exact ⟨k - 1, _, p' + 1, by rw [show ((k - 1 : Nat) : Int) = (k : Int) - 1 from by omega], rfl, by rw [size_appW]; have h : (⟨#[UInt8.ofNat (97 + v).toNat]⟩ : ByteArray).size = 1 := rfl; omega, by omega, R3.out.alloc _, gr_alloc G3.out _⟩
      case measure => simp [intOf] <;> omega
    · obtain rfl : k = 0 := by omega
      go_wp2_with fail
      go_ret
      exact ⟨s, p', rfl, by omega, by omega, R2.out, G2.out⟩

set_option maxHeartbeats 2000000 in
theorem anyWord_any (w : World) (B g : Nat) (A : Option Addr) (n c : Nat) (bs : List Int) (p : Nat) (hr : RdrAt w B g A n c bs p) (hp : p ≤ 800000) :
    Calls Tryd.prog 54 #[.pointer (some ⟨g, 0, none⟩)] w (MadeStr w B g A n c bs p 9 30) := by
  have HR := Lib.hid hr
  clear hr
  go_enter Tryd.func54, Tryd.ntmps54
  go_wp2_with fail
  refine (randomWord_any _ B g A n c bs p HR.out (by omega)).mono ?_
  rintro e w1 ⟨s, p1, rfl, hs, hp1, hR, hG⟩
  have R1 := Lib.hid hR
  have G1 := Lib.hid hG
  clear hR hG
  go_wp2_with fail
  refine (pick_gr _ B g A n c bs p1 14 R1.out (by omega) (by omega)).mono ?_
  rintro e w2 ⟨v, rfl, hv0, _, _, hR, hG⟩
  have R2 := Lib.hid hR
  have G2 := Lib.hid (gr_trans G1.out hG)
  clear hR hG
  by_cases h0 : v = 0
  · subst h0
    go_wp2_with fail
    go_ret
    exact ⟨_, p1 + 1, rfl, by show 0 ≤ 30; omega, by omega, R2.out, G2.out⟩
  have h0' : (v == 0) = false := by simpa using h0
  by_cases h1 : v = 1
  · subst h1
    have hadd : ∀ W : World, (Op.stringOp .add s ⟨#[65]⟩).run Tryd.prog W = .ok (.string (s ++ ⟨#[65]⟩)) W := fun W => run_string_add_sum W _ _ (by have h : (⟨#[65]⟩ : ByteArray).size = 1 := rfl; omega)
    go_wp2_with fail
    go_ret
    exact ⟨_, p1 + 1, rfl, by rw [size_appW]; have h : (⟨#[65]⟩ : ByteArray).size = 1 := rfl; omega, by omega, R2.out, G2.out⟩
  have h1' : (v == 1) = false := by simpa using h1
  by_cases h2 : v = 2
  · subst h2
    have hadd : ∀ W : World, (Op.stringOp .add s ⟨#[97, 97, 97, 97, 97, 97, 97, 97, 97, 97, 97, 97, 97, 97, 97, 97, 97, 97, 97, 97]⟩).run Tryd.prog W = .ok (.string (s ++ ⟨#[97, 97, 97, 97, 97, 97, 97, 97, 97, 97, 97, 97, 97, 97, 97, 97, 97, 97, 97, 97]⟩)) W := fun W => run_string_add_sum W _ _ (by have h : (⟨#[97, 97, 97, 97, 97, 97, 97, 97, 97, 97, 97, 97, 97, 97, 97, 97, 97, 97, 97, 97]⟩ : ByteArray).size = 20 := rfl; omega)
    go_wp2_with fail
    go_ret
    exact ⟨_, p1 + 1, rfl, by rw [size_appW]; have h : (⟨#[97, 97, 97, 97, 97, 97, 97, 97, 97, 97, 97, 97, 97, 97, 97, 97, 97, 97, 97, 97]⟩ : ByteArray).size = 20 := rfl; omega, by omega, R2.out, G2.out⟩
  have h2' : (v == 2) = false := by simpa using h2
  go_wp2_with fail
  go_ret
  exact ⟨s, p1 + 1, rfl, by omega, by omega, R2.out, G2.out⟩

/-- A list of at most 'most' texts of at most 30 bytes each, in new memory. -/
def MadeStrs (w : World) (B g : Nat) (A : Option Addr) (n c : Nat) (bs : List Int) (p K most : Nat) (e : Ending) (w' : World) : Prop :=
  ∃ L m d xs p', e = .returned (.slice L m d) ∧ m ≤ most ∧ w'.ownsRow w.heap.size 9 1 (.slice L m d) m (strs' xs) ∧ (∀ s ∈ xs, s.size ≤ 30) ∧ p' ≤ p + K ∧ RdrAt w' B g A n c bs p' ∧ w.grownBy w' (some g)

def SwRel (w : World) (B g : Nat) (A : Option Addr) (n c : Nat) (bs : List Int) (p : Nat) (v i : Value) (wr : World) : Prop :=
  ∃ (k m : Nat) (xs : List ByteArray) (p' : Nat), i = .int .i64 (k : Int) ∧ m + k ≤ 11 ∧ wr.ownsRow w.heap.size 9 1 v m (strs' xs) ∧ (∀ s ∈ xs, s.size ≤ 30) ∧ p' + 8 * k ≤ p + 89 ∧ RdrAt wr B g A n c bs p' ∧ w.grownBy wr (some g)

theorem rel_appS {w wr w1 : World} {B g : Nat} {A : Option Addr} {n c : Nat} {bs : List Int} {p' m : Nat} {v v' : Value} {xs : List ByteArray} {o : Obj} {x : ByteArray}
    (hgs : g < w.heap.size) (hB : B ≤ w.heap.size) (hown : wr.ownsRow w.heap.size 9 1 v m (strs' xs)) (hr : RdrAt wr B g A n c bs p') (hg : w.grownBy wr (some g))
    (h1 : w1.ownsRow w.heap.size 9 1 v' (m + 1) (strs' xs ++ [.string x])) (h2 : (wr.alloc o).grownBy w1 v.ownBlock) :
    w1.ownsRow w.heap.size 9 1 v' (m + 1) (strs' (xs ++ [x])) ∧ RdrAt w1 B g A n c bs p' ∧ w.grownBy w1 (some g) := by
  have hrow : ∀ k, v.ownBlock = some k → w.heap.size ≤ k := fun k hk => (hown.lt k hk).1
  exact ⟨by simpa [strs'] using h1, (hr.alloc o).grown h2 (fun k hk => Nat.le_trans hB (hrow k hk)), gr_own (gr_alloc hg o) h2 (fun k hk => .inl (hrow k hk))⟩

theorem mem_snoc {xs : List ByteArray} {x : ByteArray} (h : ∀ s ∈ xs, s.size ≤ 30) (hx : x.size ≤ 30) : ∀ s ∈ xs ++ [x], s.size ≤ 30 := by
  intro s hs
  rcases List.mem_append.1 hs with h1 | h1
  · exact h s h1
  · obtain rfl := List.mem_singleton.1 h1
    exact hx

theorem str_nil (w : World) : (w.alloc (.cells #[] 9)).ownsRow w.heap.size 9 1 (.slice (some ⟨w.heap.size, 0, none⟩) 0 0) 0 (strs' []) :=
  ⟨by simp [strs'], .inr ⟨w.heap.size, 0, #[], rfl, Nat.le_refl _, heap_alloc_new w _, Nat.le_refl _, by unfold maxLen; omega, rfl, rfl⟩⟩

theorem strs_set (xs : List ByteArray) (k : Nat) (s : ByteArray) : (strs' xs).set k (.string s) = strs' (xs.set k s) := by rw [strs', strs', List.map_set]

set_option maxHeartbeats 4000000 in
theorem someWords_any (w : World) (B g : Nat) (A : Option Addr) (n c : Nat) (bs : List Int) (p : Nat) (hr : RdrAt w B g A n c bs p) (hp : p ≤ 700000) :
    Calls Tryd.prog 29 #[.pointer (some ⟨g, 0, none⟩)] w (MadeStrs w B g A n c bs p 110 11) := by
  have hgs : g < w.heap.size := hr.blk.lt
  have hB := hr.size
  have Ra := Lib.hid (hr.alloc (.cells #[] 9))
  clear hr
  have Oa := Lib.hid (str_nil w)
  have Ga := Lib.hid (gr_alloc (World.grownBy.refl w (some g)) (.cells #[] 9))
  have hn1 := one_lit (w.alloc (.cells #[] 9)) B g A n c bs p [0, 1, 3, 5, 8, 11] _ 6 6 rfl Ra.out (by omega) rfl (by omega) (by omega) 3
  rw [World.size_alloc] at hn1
  have HN1 := Lib.hid hn1
  clear hn1
  go_enter Tryd.func29, Tryd.ntmps29
  go_wp2_with fail
  refine HN1.out.mono ?_
  rintro e w1 ⟨v, rfl, hv, hR, hG⟩
  have hv2 : 0 ≤ v ∧ v ≤ 11 := by
    simp at hv
    omega
  obtain ⟨hv0, hv1⟩ := hv2
  obtain ⟨v0, rfl⟩ := Int.eq_ofNat_of_zero_le hv0
  have Rb := Lib.hid hR
  have Ob := Lib.hid (own_gr Oa.out hG hgs)
  have Gb := Lib.hid (gr_trans Ga.out hG)
  clear hR hG hv Ra Oa Ga
  go_wp2_with fail
  go_loopw [3, 4] (SwRel w B g A n c bs p) (fun _ i _ => (intOf i).toNat)
  case atStart => exact ⟨v0, 0, [], p + 1, rfl, by omega, Ob.out, (fun s hs => by cases hs), by omega, Rb.out, Gb.out⟩
  case round =>
    obtain ⟨k, m, xs, p', rfl, hmk, hown, hxs, hp', hR, hG⟩ := hrel
    have Rc := Lib.hid hR
    have Oc := Lib.hid hown
    have Gc := Lib.hid hG
    have XS := Lib.hid hxs
    clear hR hown hG hxs Rb Ob Gb
    by_cases hk : 0 < k
    · have hk' : (0 : Int) < (k : Int) := by omega
      go_wp2_with fail
      refine (randomWord_any _ B g A n c bs p' Rc.out (by omega)).mono ?_
      rintro e w2 ⟨s, p2, rfl, hs, hp2, hR, hG⟩
      have Rq := Lib.hid hR
      have Od := Lib.hid (own_gr Oc.out hG hgs)
      have Gd := Lib.hid (gr_trans Gc.out hG)
      have hzd := (gr_trans Gc.out hG).size
      clear hR hG
      go_wp2_with (first
        | (at_builtin
           refine app_lit elemStr rfl (.tmp 13) (.tmp 16) rfl Od.out _ _ [.string s] rfl rfl rfl (by simp [Value.oneCell']) (by omega) hzd ?_
           intro v3 w3 ho hg
           have hrel := rel_appS hgs hB Od.out Rq.out Gd.out ho hg
           have HE := Lib.hid hrel
           clear hrel ho hg))
      go_roundw
      case rel => exact ⟨k - 1, m + 1, xs ++ [s], p2, by rw [show ((k - 1 : Nat) : Int) = (k : Int) - 1 from by omega], by omega, HE.out.1, mem_snoc XS.out (by omega), by omega, HE.out.2.1, HE.out.2.2⟩
      case measure => simp [intOf] <;> omega
    · obtain rfl : k = 0 := by omega
      obtain ⟨L, d, e, hmd⟩ := own_shape Oc.out
      subst e
      by_cases hm0 : 0 < m
      case neg =>
        have hm1 : decide ((0 : Int) < (m : Int)) = false := decide_eq_false (by omega)
        have hm2 : decide (0 < m) = false := decide_eq_false hm0
        go_wp2_with fail
        go_ret
        exact ⟨L, m, d, xs, p', rfl, by omega, Oc.out, XS.out, by omega, Rc.out, Gc.out⟩
      have hm1 : (0 : Int) < (m : Int) := by omega
      go_wp2_with fail
      refine (pick_gr _ B g A n c bs p' 14 Rc.out (by omega) (by omega)).mono ?_
      rintro e w2 ⟨v, rfl, _, _, _, hR, hG⟩
      have Rq := Lib.hid hR
      have Od := Lib.hid (own_gr Oc.out hG hgs)
      have Gd := Lib.hid (gr_trans Gc.out hG)
      clear hR hG
      by_cases hv : v = 0
      case neg =>
        have hv' : (v == 0) = false := by simpa using hv
        go_wp2_with fail
        go_ret
        exact ⟨L, m, d, xs, p' + 1, rfl, by omega, Od.out, XS.out, by omega, Rq.out, Gd.out⟩
      subst hv
      go_wp2_with fail
      refine (anyWord_any _ B g A n c bs (p' + 1) Rq.out (by omega)).mono ?_
      rintro e w3 ⟨s, p3, rfl, hs, hp3, hR, hG⟩
      obtain ⟨gl, rfl, hgl, hmd', hdm⟩ := own_head Od.out hm0
      have Re := Lib.hid hR
      have Oe := Lib.hid (own_gr Od.out hG hgs)
      have Ge := Lib.hid (gr_trans Gd.out hG)
      clear hR hG
      have hcell : ∃ u, w3.cell? ⟨gl, 0, none⟩ = some (.string u) := by
        have hl : 0 < xs.length := by rw [(Rd.own Oe.out).slen]; exact hm0
        exact ⟨xs[0], by rw [Oe.out.cellAt 0 (by omega), strs', List.getElem?_map, List.getElem?_eq_getElem hl]; rfl⟩
      obtain ⟨u, hcell⟩ := hcell
      have hf := Oe.out.frozenAt 0
      have ST := Lib.hid (Oe.out.stored 0 (.string s)).1
      have SR := Lib.hid (Re.out.grown (gr_set0 w3 gl 0 (.string s)) (fun k hk => by injection hk with hk; omega))
      have SG := Lib.hid (gr_own Ge.out (gr_set0 w3 gl 0 (.string s)) (fun k hk => .inl (by injection hk with hk; omega)))
      go_wp2_with fail
      go_ret
      refine ⟨_, m, d, xs.set 0 s, p3, rfl, by omega, ?_, ?_, by omega, SR.out, SG.out⟩
      · have h := ST.out
        rw [strs_set] at h
        exact h
      · intro t ht
        rcases List.mem_or_eq_of_mem_set ht with h | rfl
        · exact XS.out t h
        · exact hs

set_option maxHeartbeats 1000000 in
theorem textWidth_any (w : World) (B g : Nat) (A : Option Addr) (n c : Nat) (bs : List Int) (p : Nat) (hr : RdrAt w B g A n c bs p) (hp : p ≤ 900000) :
    Calls Tryd.prog 30 #[.pointer (some ⟨g, 0, none⟩)] w (fun e w' => OneG w B g A n c bs p [20, 20, 21, 25, 30, 60, 19, 61] e w') := by
  have HR := Lib.hid hr
  clear hr
  go_enter Tryd.func30, Tryd.ntmps30
  go_wp2_with fail
  refine (one_lit w B g A n c bs p [20, 20, 21, 25, 30, 60, 19, 61] _ 8 8 rfl HR.out (by omega) rfl (by omega) (by omega) _).mono ?_
  rintro e w1 ⟨v, rfl, hv, hR, hG⟩
  have H : Hid (OneG w B g A n c bs p [20, 20, 21, 25, 30, 60, 19, 61] (.returned (.int .i64 v)) w1) := ⟨v, rfl, hv, hR, hG⟩
  clear hv hR hG
  go_wp2_with fail
  go_ret
  exact H.out

/-- Words and a width, in new memory. -/
def WordsW (w : World) (e : Ending) (w' : World) : Prop :=
  ∃ L m d xs wd, e = .returned (.tuple #[.slice L m d, .int .i64 wd]) ∧ m ≤ 11 ∧ m ≤ d ∧ Rd w' 1 L m (strs' xs) ∧ (∀ s ∈ xs, s.size ≤ 30) ∧ 19 ≤ wd ∧ wd ≤ 61 ∧ Below w.heap.size w w'

set_option maxHeartbeats 1000000 in
theorem DrawWrapWords_any (w : World) (a : Option Addr) (n c : Nat) (zs : List Int) (h : InBytes w a n c zs) :
    Calls Tryd.prog 15 #[.slice a n c] w (WordsW w) := by
  have HN := Lib.hid (newReader_any w a n c zs h)
  clear h
  go_enter Tryd.func15, Tryd.ntmps15
  go_wp2_with fail
  refine HN.out.mono ?_
  rintro e w1 ⟨A, rn, rc, bs, rfl, hR, hB⟩
  have R1 := Lib.hid hR
  have B1 := Lib.hid hB
  clear hR hB HN
  have hg1 : w.heap.size < w1.heap.size := R1.out.blk.lt
  go_wp2_with fail
  refine (someWords_any w1 _ _ A rn rc bs 0 R1.out (by omega)).mono ?_
  rintro e w2 ⟨L, m, d, xs, p2, rfl, hm, ho, hxs, hp2, hR, hG⟩
  have R2 := Lib.hid hR
  have O2 := Lib.hid ho
  have XS := Lib.hid hxs
  have B2 := Lib.hid (below_gr B1.out hG (Nat.le_refl _))
  clear hR ho hG hxs
  go_wp2_with fail
  refine (textWidth_any w2 _ _ A rn rc bs p2 R2.out (by omega)).mono ?_
  rintro e w3 ⟨v, rfl, hv, hR, hG⟩
  have hv2 : 19 ≤ v ∧ v ≤ 61 := by simp at hv; omega
  have O3 := Lib.hid (own_gr O2.out hG hg1)
  have B3 := Lib.hid (below_gr B2.out hG (Nat.le_refl _))
  have hmd := own_le O2.out
  clear hR hG hv
  go_wp2_with fail
  go_ret2
  exact ⟨L, m, d, xs, v, rfl, hm, hmd, Rd.own O3.out, XS.out, hv2.1, hv2.2, B3.out⟩
end Go.Proofs.YtmljofijeladoaaDoor
