/-
  Contracts of the reference's reader of pseudo-random numbers: newReader, pick, one, of.
-/
import Derived.Test.YtmnmdecbehfegaaDoorProg
import Derived.Test.YtmnmdecbehfegaaDoorBase
namespace Go.Proofs.YtmnmdecbehfegaaDoor
open Go.RowKit
set_option linter.unusedVariables false

/-- A block that is known whole. -/
def BlkIs (w : World) (g : Nat) (t : TypeId) (cs : Array Value) : Prop := w.heap[g]? = some (.cells cs t (0, 0))

theorem BlkIs.lt {w : World} {g : Nat} {t : TypeId} {cs : Array Value} (h : BlkIs w g t cs) : g < w.heap.size := (Array.getElem?_eq_some_iff.1 h).1
theorem BlkIs.cell {w : World} {g : Nat} {t : TypeId} {cs : Array Value} (h : BlkIs w g t cs) (i : Nat) : w.cell? ⟨g, i, none⟩ = cs[i]? := cell_of_row w g i cs t (0, 0) h
theorem BlkIs.free {w : World} {g : Nat} {t : TypeId} {cs : Array Value} (h : BlkIs w g t cs) (i : Nat) : w.frozen? ⟨g, i, none⟩ = false := frozen_of_row w g i cs t h
theorem BlkIs.store {w : World} {g : Nat} {t : TypeId} {cs : Array Value} (h : BlkIs w g t cs) (i : Nat) (u : Value) : BlkIs (w.setCell ⟨g, i, none⟩ u) g t (cs.setIfInBounds i u) := heap_setCell_same w g i cs t u h

/-- The reader at block g: its bytes, and how many numbers have been taken. All of it lies below block B. -/
structure RdrAt (w : World) (B g : Nat) (A : Option Addr) (n c : Nat) (bs : List Int) (p : Nat) : Prop where
  gB : g < B
  size : B ≤ w.heap.size
  blk : BlkIs w g 81 #[.slice A n c, .int .i64 p]
  len : bs.length = n
  most : n ≤ 2000
  byte : ∀ z ∈ bs, 0 ≤ z ∧ z ≤ 255
  cells : 0 < n → ∃ b o, A = some ⟨b, o, none⟩ ∧ b < B ∧ b ≠ g ∧ ∀ j, j < n → w.cell? ⟨b, o + j, none⟩ = (bs[j]?).map (Value.int .u8)

theorem RdrAt.keep {w w' : World} {B g : Nat} {A : Option Addr} {n c : Nat} {bs : List Int} {p : Nat} (h : RdrAt w B g A n c bs p)
    (hb : ∀ k, k < B → w'.heap[k]? = w.heap[k]?) (hs : B ≤ w'.heap.size) : RdrAt w' B g A n c bs p := by
  refine ⟨h.gB, hs, ?_, h.len, h.most, h.byte, fun hn => ?_⟩
  · unfold BlkIs; rw [hb g h.gB]; exact h.blk
  · obtain ⟨b, o, e, h1, h2, h3⟩ := h.cells hn
    refine ⟨b, o, e, h1, h2, fun j hj => ?_⟩
    rw [← h3 j hj]
    exact World.cell?_of_block (hb b h1)

theorem RdrAt.drewN {w : World} {B g : Nat} {A : Option Addr} {n c : Nat} {bs : List Int} {p : Nat} (h : RdrAt w B g A n c bs p) (q : Nat) : RdrAt (w.drewN q) B g A n c bs p :=
  h.keep (fun _ _ => rfl) h.size

theorem RdrAt.more {w : World} {B B' g : Nat} {A : Option Addr} {n c : Nat} {bs : List Int} {p : Nat} (h : RdrAt w B g A n c bs p) (hB : B ≤ B') (hs : B' ≤ w.heap.size) : RdrAt w B' g A n c bs p := by
  refine ⟨Nat.lt_of_lt_of_le h.gB hB, hs, h.blk, h.len, h.most, h.byte, fun hn => ?_⟩
  obtain ⟨b, o, e, h1, h2, h3⟩ := h.cells hn
  exact ⟨b, o, e, Nat.lt_of_lt_of_le h1 hB, h2, h3⟩

theorem RdrAt.step {w : World} {B g : Nat} {A : Option Addr} {n c : Nat} {bs : List Int} {p : Nat} (h : RdrAt w B g A n c bs p) (q : Nat) :
    RdrAt ((w.setCell ⟨g, 1, none⟩ (.int .i64 ((p : Int) + 1))).drewN q) B g A n c bs (p + 1) := by
  have ep : (p : Int) + 1 = ((p + 1 : Nat) : Int) := by omega
  rw [ep]
  refine RdrAt.drewN ⟨h.gB, by simpa [World.setCell] using h.size, ?_, h.len, h.most, h.byte, fun hn => ?_⟩ q
  · exact h.blk.store 1 _
  · obtain ⟨b, o, e, h1, h2, h3⟩ := h.cells hn
    refine ⟨b, o, e, h1, h2, fun j hj => ?_⟩
    rw [← h3 j hj]
    exact World.cell?_of_block (Below.heap_setCell _ _ _ _ h2)

theorem RdrAt.byte_at {w : World} {B g : Nat} {A : Option Addr} {n c : Nat} {bs : List Int} {p : Nat} (h : RdrAt w B g A n c bs p) {k : Nat} (hk : k < n) :
    ∃ b o x, A = some ⟨b, o, none⟩ ∧ b ≠ g ∧ 0 ≤ x ∧ x ≤ 255 ∧ w.cell? ⟨b, o + k, none⟩ = some (.int .u8 x) := by
  obtain ⟨b, o, e, _, h2, h3⟩ := h.cells (by omega)
  have hl : k < bs.length := by rw [h.len]; exact hk
  have hx := h.byte bs[k] (List.getElem_mem hl)
  refine ⟨b, o, bs[k], e, h2, hx.1, hx.2, ?_⟩
  rw [h3 k hk, List.getElem?_eq_getElem hl]
  rfl

theorem i64_xor_shift (a : Nat) (ha : a < 4611686018427387904) : 0 ≤ bits .xor .i64 (a : Int) ((a : Int) / 64) ∧ bits .xor .i64 (a : Int) ((a : Int) / 64) < 9223372036854775807 := by
  have h1 : ((a : Int) / 64) = ((a / 64 : Nat) : Int) := by omega
  have hb : a / 64 < 2 ^ 62 := by omega
  have hx : a ^^^ (a / 64) < 2 ^ 62 := Nat.xor_lt_two_pow (by omega) hb
  rw [h1]
  have e : bits .xor .i64 (a : Int) ((a / 64 : Nat) : Int) = ((a ^^^ (a / 64) : Nat) : Int) := by
    show IntKind.i64.wrap ((BitVec.ofInt 64 (a : Int) ^^^ BitVec.ofInt 64 ((a / 64 : Nat) : Int)).toNat : Int) = _
    rw [BitVec.toNat_xor, BitVec.ofInt_natCast, BitVec.ofInt_natCast, BitVec.toNat_ofNat, BitVec.toNat_ofNat, Nat.mod_eq_of_lt (by omega), Nat.mod_eq_of_lt (by omega), IntKind.wrap_i64]
    omega
  rw [e]
  omega

theorem pick_val (z m : Int) (h0 : 0 ≤ z) (h1 : z < 4611686018427387904) (hm : 1 ≤ m) : 0 ≤ (bits .xor .i64 z (z / 64)).tmod m ∧ (bits .xor .i64 z (z / 64)).tmod m < m := by
  obtain ⟨a, rfl⟩ := Int.eq_ofNat_of_zero_le h0
  obtain ⟨h2, _⟩ := i64_xor_shift a (by omega)
  rw [Int.tmod_eq_emod_of_nonneg h2]
  exact ⟨Int.emod_nonneg _ (by omega), Int.emod_lt_of_pos _ (by omega)⟩

/-- What pick leaves: a number below m (0 where m is not positive); the reader has gone on by one. -/
def Picked (w : World) (g p : Nat) (m : Int) (e : Ending) (w' : World) : Prop :=
  ∃ v : Int, e = .returned (.int .i64 v) ∧ 0 ≤ v ∧ (1 ≤ m → v < m) ∧ (m < 1 → v = 0) ∧ ∃ q, w' = (w.setCell ⟨g, 1, none⟩ (.int .i64 ((p : Int) + 1))).drewN q

set_option maxHeartbeats 2000000 in
theorem pick_any (w : World) (B g : Nat) (A : Option Addr) (n c : Nat) (bs : List Int) (p : Nat) (m : Int) (hr : RdrAt w B g A n c bs p) (hp : p ≤ 1000000) (hm : m ≤ 1048576) :
    Calls Tryd.prog 42 #[.pointer (some ⟨g, 0, none⟩), .int .i64 m] w (Picked w g p m) := by
  have hc0 := hr.blk.cell 0
  have hc1 := hr.blk.cell 1
  have hf1 := hr.blk.free 1
  simp at hc0 hc1
  have hn := hr.most
  by_cases h1 : m < 1
  · clear hr
    go_enter Tryd.func42, Tryd.ntmps42
    go_wp2
    go_ret
    exact ⟨0, rfl, by omega, fun h => by omega, fun _ => rfl, 0, rfl⟩
  have h1' : decide (m < 1) = false := by simpa using h1
  by_cases h2 : n = 0
  · clear hr
    have h2' : ((n : Int) == 0) = true := by simp [h2]
    clear h2
    go_enter Tryd.func42, Tryd.ntmps42
    go_wp2
    go_ret
    exact ⟨0, rfl, by omega, fun h => by omega, fun _ => rfl, 0, rfl⟩
  have h2' : ((n : Int) == 0) = false := by simp; omega
  by_cases h3 : p < n
  · obtain ⟨b, o, x, rfl, hbg, hx0, hx1, hcx⟩ := hr.byte_at h3
    clear hr
    have hcx' : ∀ u, (w.setCell ⟨g, 1, none⟩ u).cell? ⟨b, o + p, none⟩ = some (.int .u8 x) := fun u => (World.cell?_of_block (Below.heap_setCell _ _ _ _ hbg)).trans hcx
    go_enter Tryd.func42, Tryd.ntmps42
    go_wp2
    have hv : 0 ≤ x % m ∧ x % m < m := ⟨Int.emod_nonneg _ (by omega), Int.emod_lt_of_pos _ (by omega)⟩
    go_ret
    exact ⟨x % m, rfl, hv.1, fun _ => hv.2, fun h => by omega, 0, rfl⟩
  · obtain ⟨b, o, x, e1, hbg, hx0, hx1, hcx⟩ := hr.byte_at (k := p % n) (Nat.mod_lt _ (by omega))
    obtain ⟨b', o', y, e2, _, hy0, hy1, hcy⟩ := hr.byte_at (k := (p * 7 + 3) % n) (Nat.mod_lt _ (by omega))
    subst e1
    injection e2 with e2
    injection e2 with e3 e4
    subst e3; subst e4
    clear hr
    have hcx' : ∀ u, (w.setCell ⟨g, 1, none⟩ u).cell? ⟨b, o + p % n, none⟩ = some (.int .u8 x) := fun u => (World.cell?_of_block (Below.heap_setCell _ _ _ _ hbg)).trans hcx
    have hcy' : ∀ u, (w.setCell ⟨g, 1, none⟩ u).cell? ⟨b, o + (p * 7 + 3) % n, none⟩ = some (.int .u8 y) := fun u => (World.cell?_of_block (Below.heap_setCell _ _ _ _ hbg)).trans hcy
    have hm1 : (p : Int) % (n : Int) < n := Int.emod_lt_of_pos _ (by omega)
    have hm2 : 0 ≤ (p : Int) % (n : Int) := Int.emod_nonneg _ (by omega)
    have hm3 : ((p : Int) * 7 + 3) % (n : Int) < n := Int.emod_lt_of_pos _ (by omega)
    have hm4 : 0 ≤ ((p : Int) * 7 + 3) % (n : Int) := Int.emod_nonneg _ (by omega)
    have hd1 : 0 ≤ (p : Int) / (n : Int) := Int.ediv_nonneg (by omega) (by omega)
    have hd2 : (p : Int) / (n : Int) ≤ p := Int.ediv_le_self _ (by omega)
    go_enter Tryd.func42, Tryd.ntmps42
    go_wp2
    go_quiet (fail)
    go_wp2
    have hv := pick_val (x * 131 + y * 1117 + (p : Int) * 29 + (p : Int) / (n : Int) * 53) m (by omega) (by omega) (by omega)
    go_ret
    exact ⟨_, rfl, hv.1, fun _ => hv.2, fun h => by omega, nq, rfl⟩
/-- What newReader leaves: a reader in a new block. -/
def Opened (w : World) (e : Ending) (w' : World) : Prop :=
  ∃ A n c bs, e = .returned (.pointer (some ⟨w.heap.size, 0, none⟩)) ∧ RdrAt w' w'.heap.size w.heap.size A n c bs 0 ∧ Below w.heap.size w w'

theorem rdr_new (w : World) (A : Option Addr) (n c : Nat) (bs : List Int) (hr : Rd w 1 A n (bs.map (Value.int .u8))) (hb : ∀ z ∈ bs, 0 ≤ z ∧ z ≤ 255) (hn : n ≤ 2000) :
    RdrAt (w.alloc (.cells #[.slice A n c, .int .i64 0] 81)) (w.alloc (.cells #[.slice A n c, .int .i64 0] 81)).heap.size w.heap.size A n c bs 0 := by
  refine ⟨by simp, Nat.le_refl _, heap_alloc_new w _, by simpa using hr.1, hn, hb, fun h0 => ?_⟩
  obtain ⟨b, o, e, hc⟩ := hr.2 h0
  have h1 := hc 0 (by omega)
  have hl : 0 < bs.length := by have := hr.1; simp at this; omega
  rw [List.getElem?_eq_getElem (by simpa using hl)] at h1
  have hlt : b < w.heap.size := World.block_lt_of_cell? w _ h1
  refine ⟨b, o, e, by simp; omega, by omega, fun j hj => ?_⟩
  rw [World.cell?_alloc_lt w _ ⟨b, o + j, none⟩ hlt, hc j (by omega), List.getElem?_map]

set_option maxHeartbeats 1000000 in
theorem newReader_any (w : World) (a : Option Addr) (n c : Nat) (xs : List Int) (h : InBytes w a n c xs) :
    Calls Tryd.prog 40 #[.slice a n c] w (Opened w) := by
  obtain ⟨hr, hb, hnc, hc⟩ := h
  have hc' : (n : Int) ≤ c := by omega
  unfold maxLen at hc
  have HR := Lib.hid hr
  clear hr
  by_cases h1 : n ≤ 2000
  · go_enter Tryd.func40, Tryd.ntmps40
    go_wp2
    go_ret
    exact ⟨a, n, c, xs, rfl, rdr_new w a n c xs HR.out hb h1, (Below.refl _ _).alloc (Nat.le_refl _) _⟩
  · go_enter Tryd.func40, Tryd.ntmps40
    go_wp2
    go_ret
    have hr' := HR.out.take (k := 2000) (by omega)
    rw [Nat.mul_one, ← List.map_take] at hr'
    exact ⟨a, 2000, c, xs.take 2000, rfl, rdr_new w a 2000 c _ hr' (fun z hz => hb z (List.mem_of_mem_take hz)) (by omega), (Below.refl _ _).alloc (Nat.le_refl _) _⟩

def OneOf (w : World) (g p : Nat) (xs : List Int) (e : Ending) (w' : World) : Prop :=
  ∃ v : Int, e = .returned (.int .i64 v) ∧ v ∈ xs ∧ ∃ q, w' = (w.setCell ⟨g, 1, none⟩ (.int .i64 ((p : Int) + 1))).drewN q

set_option maxHeartbeats 1000000 in
theorem one_any (w : World) (B g : Nat) (A : Option Addr) (n c : Nat) (bs : List Int) (p : Nat) (L : Option Addr) (m d : Nat) (xs : List Int) (hr : RdrAt w B g A n c bs p) (hp : p ≤ 1000000)
    (hx : Rd w 1 L m (ints xs)) (hL : ∀ b o, L = some ⟨b, o, none⟩ → b ≠ g) (hm : 1 ≤ m) (hm2 : m ≤ 1000) :
    Calls Tryd.prog 68 #[.pointer (some ⟨g, 0, none⟩), .slice L m d] w (OneOf w g p xs) := by
  have HC := Lib.hid (pick_any w B g A n c bs p (m : Int) hr hp (by omega))
  clear hr
  have HX := Lib.hid hx
  clear hx
  go_enter Tryd.func68, Tryd.ntmps68
  go_wp2_with fail
  refine HC.out.mono ?_
  rintro e w' ⟨v, rfl, h0, h1, _, q, rfl⟩
  have h1' := h1 (by omega)
  obtain ⟨k, rfl⟩ := Int.eq_ofNat_of_zero_le h0
  clear h1
  obtain ⟨b, o, x, rfl, ex, hcx⟩ := HX.out.int_at (k := k) (by omega)
  have hbg := hL b o rfl
  have hcx' : ∀ u, ((w.setCell ⟨g, 1, none⟩ u).drewN q).cell? ⟨b, o + k, none⟩ = some (.int .i64 x) := fun u => (World.cell?_of_block (Below.heap_setCell _ _ _ _ hbg)).trans hcx
  have EX := Lib.hid ex
  clear ex hcx
  go_wp2_with fail
  go_ret
  exact ⟨x, rfl, List.mem_of_getElem? EX.out, q, rfl⟩

/-! ### What has grown: new blocks, and writes to block g alone -/
theorem RdrAt.grown {w w' : World} {B g : Nat} {A : Option Addr} {n c : Nat} {bs : List Int} {p : Nat} {row : Option Nat} (h : RdrAt w B g A n c bs p) (hg : w.grownBy w' row) (hr : ∀ k, row = some k → B ≤ k) : RdrAt w' B g A n c bs p :=
  h.keep (fun k hk => hg.block k (Nat.lt_of_lt_of_le hk h.size) (fun e => by have := hr k e.symm; omega)) (Nat.le_trans h.size hg.size)
theorem RdrAt.alloc {w : World} {B g : Nat} {A : Option Addr} {n c : Nat} {bs : List Int} {p : Nat} (h : RdrAt w B g A n c bs p) (o : Obj) : RdrAt (w.alloc o) B g A n c bs p :=
  h.grown (World.grownBy_alloc w o none) (fun k hk => by cases hk)
theorem RdrAt.below {w w' : World} {B g : Nat} {A : Option Addr} {n c : Nat} {bs : List Int} {p : Nat} (h : RdrAt w B g A n c bs p) (hb : Below w.heap.size w w') : RdrAt w' B g A n c bs p :=
  h.keep (fun k hk => hb.block k (Nat.lt_of_lt_of_le hk h.size)) (Nat.le_trans h.size hb.size)

theorem gr_drewN {a w : World} {row : Option Nat} (h : a.grownBy w row) (q : Nat) : a.grownBy (w.drewN q) row := ⟨h.os, h.tape, h.output, h.size, h.block⟩
theorem gr_own {a w w' : World} {g : Nat} {row : Option Nat} (h : a.grownBy w (some g)) (h' : w.grownBy w' row) (hr : ∀ k, row = some k → a.heap.size ≤ k ∨ k = g) : a.grownBy w' (some g) :=
  ⟨h'.os.trans h.os, h'.tape.trans h.tape, h'.output.trans h.output, Nat.le_trans h.size h'.size, fun k hk hne =>
    (h'.block k (Nat.lt_of_lt_of_le hk h.size) (fun e => by
      rcases hr k e.symm with h1 | h1
      · omega
      · exact hne (by rw [h1]))).trans (h.block k hk hne)⟩
theorem gr_alloc {a w : World} {g : Nat} (h : a.grownBy w (some g)) (o : Obj) : a.grownBy (w.alloc o) (some g) := gr_own h (World.grownBy_alloc w o none) (fun k hk => by cases hk)
theorem gr_trans {a w w' : World} {g : Nat} (h : a.grownBy w (some g)) (h' : w.grownBy w' (some g)) : a.grownBy w' (some g) := gr_own h h' (fun k hk => .inr (by injection hk with hk; exact hk.symm))
theorem gr_below {a w w' : World} {g : Nat} (h : a.grownBy w (some g)) (h' : Below w.heap.size w w') : a.grownBy w' (some g) :=
  gr_own h (row := none) ⟨h'.os, h'.tape, h'.output, h'.size, fun k hk _ => h'.block k hk⟩ (fun k hk => by cases hk)
theorem below_gr {a w w' : World} {g : Nat} (h : Below a.heap.size a w) (h' : w.grownBy w' (some g)) (hg : a.heap.size ≤ g) : Below a.heap.size a w' :=
  h.trans ⟨h'.os, h'.tape, h'.output, h'.size, fun k hk => h'.block k (Nat.lt_of_lt_of_le hk h.size) (fun e => by injection e with e; omega)⟩
theorem own_gr {w w' : World} {base : Nat} {E : TypeId} {size : Nat} {v : Value} {n : Nat} {xs : List Value} {g : Nat} (h : w.ownsRow base E size v n xs) (hg : w.grownBy w' (some g)) (hb : g < base) : w'.ownsRow base E size v n xs :=
  h.kept hg (.inr (fun e => by have := (h.lt g e).1; omega))
theorem rd_gr {w w' : World} {size : Nat} {A : Option Addr} {n : Nat} {xs : List Value} {g : Nat} (h : Rd w size A n xs) (hg : w.grownBy w' (some g)) (hA : ∀ b o, A = some ⟨b, o, none⟩ → b ≠ g) : Rd w' size A n xs := by
  refine ⟨h.1, fun hn => ?_⟩
  obtain ⟨b, o, e, hc⟩ := h.2 hn
  refine ⟨b, o, e, fun j hj => ?_⟩
  have h1 := hc j hj
  rw [← h1]
  rw [List.getElem?_eq_getElem (by rw [h.1]; exact hj)] at h1
  exact World.cell?_of_block (hg.block b (World.block_lt_of_cell? w _ h1) (fun e' => hA b o e (by injection e')))

/-- What pick leaves, without the world's spelling. -/
def PickG (w : World) (B g : Nat) (A : Option Addr) (n c : Nat) (bs : List Int) (p : Nat) (m : Int) (e : Ending) (w' : World) : Prop :=
  ∃ v : Int, e = .returned (.int .i64 v) ∧ 0 ≤ v ∧ (1 ≤ m → v < m) ∧ (m < 1 → v = 0) ∧ RdrAt w' B g A n c bs (p + 1) ∧ w.grownBy w' (some g)

theorem gr_set0 (w : World) (g i : Nat) (u : Value) : w.grownBy (w.setCell ⟨g, i, none⟩ u) (some g) :=
  ⟨rfl, rfl, rfl, by simp [World.setCell], fun k _ hk => Below.heap_setCell _ _ _ _ (fun e => hk (congrArg some e))⟩
theorem gr_set1 (w : World) (g i : Nat) (u : Value) (q : Nat) : w.grownBy ((w.setCell ⟨g, i, none⟩ u).drewN q) (some g) := gr_drewN (gr_set0 w g i u) q

theorem pick_gr (w : World) (B g : Nat) (A : Option Addr) (n c : Nat) (bs : List Int) (p : Nat) (m : Int) (hr : RdrAt w B g A n c bs p) (hp : p ≤ 1000000) (hm : m ≤ 1048576) :
    Calls Tryd.prog 42 #[.pointer (some ⟨g, 0, none⟩), .int .i64 m] w (PickG w B g A n c bs p m) := by
  refine (pick_any w B g A n c bs p m hr hp hm).mono ?_
  rintro e w' ⟨v, h1, h2, h3, h4, q, rfl⟩
  exact ⟨v, h1, h2, h3, h4, hr.step q, gr_set1 w g 1 _ q⟩

def OneG (w : World) (B g : Nat) (A : Option Addr) (n c : Nat) (bs : List Int) (p : Nat) (xs : List Int) (e : Ending) (w' : World) : Prop :=
  ∃ v : Int, e = .returned (.int .i64 v) ∧ v ∈ xs ∧ RdrAt w' B g A n c bs (p + 1) ∧ w.grownBy w' (some g)

theorem one_gr (w : World) (B g : Nat) (A : Option Addr) (n c : Nat) (bs : List Int) (p : Nat) (L : Option Addr) (m d : Nat) (xs : List Int) (hr : RdrAt w B g A n c bs p) (hp : p ≤ 1000000)
    (hx : Rd w 1 L m (ints xs)) (hL : ∀ b o, L = some ⟨b, o, none⟩ → b ≠ g) (hm : 1 ≤ m) (hm2 : m ≤ 1000) :
    Calls Tryd.prog 68 #[.pointer (some ⟨g, 0, none⟩), .slice L m d] w (OneG w B g A n c bs p xs) := by
  refine (one_any w B g A n c bs p L m d xs hr hp hx hL hm hm2).mono ?_
  rintro e w' ⟨v, h1, h2, q, rfl⟩
  exact ⟨v, h1, h2, hr.step q, gr_set1 w g 1 _ q⟩

/-- The same of a list that is written out in the call. -/
theorem one_lit (w : World) (B g : Nat) (A : Option Addr) (n c : Nat) (bs : List Int) (p : Nat) (xs : List Int) (cs : Array Value) (m d : Nat) (hcs : cs = (ints xs).toArray) (hr : RdrAt w B g A n c bs p) (hp : p ≤ 1000000)
    (hm : xs.length = m) (hm1 : 1 ≤ m) (hm2 : m ≤ 1000) (E : TypeId) :
    Calls Tryd.prog 68 #[.pointer (some ⟨g, 0, none⟩), .slice (some ⟨w.heap.size, 0, none⟩) m d] (w.alloc (.cells cs E)) (OneG w B g A n c bs p xs) := by
  subst hcs
  have hlt := hr.blk.lt
  refine (one_gr (w.alloc (.cells (ints xs).toArray E)) B g A n c bs p (some ⟨w.heap.size, 0, none⟩) m d xs (hr.alloc _) hp ?_ (fun b o e => by injection e with e; injection e with e1 e2; omega) hm1 hm2).mono ?_
  · refine ⟨by simp [ints, hm], fun _ => ⟨w.heap.size, 0, rfl, fun j hj => ?_⟩⟩
    rw [cell_of_row _ w.heap.size (0 + j) (ints xs).toArray E (0, 0) (heap_alloc_new w _)]
    simp
  · rintro e w' ⟨v, h1, h2, h3, h4⟩
    exact ⟨v, h1, h2, h3, gr_trans (gr_alloc (World.grownBy.refl w (some g)) _) h4⟩

/-- One of the strings of a list that is written out in the call. -/
def OfG (w : World) (B g : Nat) (A : Option Addr) (n c : Nat) (bs : List Int) (p : Nat) (xs : List ByteArray) (e : Ending) (w' : World) : Prop :=
  ∃ v : ByteArray, e = .returned (.string v) ∧ v ∈ xs ∧ RdrAt w' B g A n c bs (p + 1) ∧ w.grownBy w' (some g)

set_option maxHeartbeats 1000000 in
theorem of_any (w : World) (B g : Nat) (A : Option Addr) (n c : Nat) (bs : List Int) (p : Nat) (L : Option Addr) (m d : Nat) (xs : List ByteArray) (hr : RdrAt w B g A n c bs p) (hp : p ≤ 1000000)
    (hx : Rd w 1 L m (strs' xs)) (hL : ∀ b o, L = some ⟨b, o, none⟩ → b ≠ g) (hm : 1 ≤ m) (hm2 : m ≤ 1000) :
    Calls Tryd.prog 66 #[.pointer (some ⟨g, 0, none⟩), .slice L m d] w (OfG w B g A n c bs p xs) := by
  have HC := Lib.hid (pick_any w B g A n c bs p (m : Int) hr hp (by omega))
  have R0 := Lib.hid hr
  have HX := Lib.hid hx
  clear hx hr
  go_enter Tryd.func66, Tryd.ntmps66
  go_wp2_with fail
  refine HC.out.mono ?_
  rintro e w' ⟨v, rfl, h0, h1, _, q, rfl⟩
  have h1' := h1 (by omega)
  obtain ⟨k, rfl⟩ := Int.eq_ofNat_of_zero_le h0
  clear h1
  obtain ⟨b, o, eL, hc⟩ := HX.out.2 (by omega)
  subst eL
  have hxl : xs.length = m := by have := HX.out.1; simpa [strs'] using this
  have hk : k < xs.length := by omega
  have hcx : w.cell? ⟨b, o + k, none⟩ = some (.string xs[k]) := by rw [hc k (by omega)]; simp [strs', hk]
  have hbg := hL b o rfl
  have hcx' : ∀ u, ((w.setCell ⟨g, 1, none⟩ u).drewN q).cell? ⟨b, o + k, none⟩ = some (.string xs[k]) := fun u => (World.cell?_of_block (Below.heap_setCell _ _ _ _ hbg)).trans hcx
  have HM := Lib.hid (List.getElem_mem hk)
  obtain ⟨s, hs⟩ : ∃ s, s = xs[k] := ⟨_, rfl⟩
  rw [← hs] at hcx' HM
  clear hs hcx hc hxl
  go_wp2_with fail
  go_ret
  exact ⟨s, rfl, HM.out, R0.out.step q, gr_set1 w g 1 _ q⟩

theorem of_lit (w : World) (B g : Nat) (A : Option Addr) (n c : Nat) (bs : List Int) (p : Nat) (xs : List ByteArray) (cs : Array Value) (m d : Nat) (hcs : cs = (strs' xs).toArray) (hr : RdrAt w B g A n c bs p) (hp : p ≤ 1000000)
    (hm : xs.length = m) (hm1 : 1 ≤ m) (hm2 : m ≤ 1000) (E : TypeId) :
    Calls Tryd.prog 66 #[.pointer (some ⟨g, 0, none⟩), .slice (some ⟨w.heap.size, 0, none⟩) m d] (w.alloc (.cells cs E)) (OfG w B g A n c bs p xs) := by
  subst hcs
  have hlt := hr.blk.lt
  refine (of_any (w.alloc (.cells (strs' xs).toArray E)) B g A n c bs p (some ⟨w.heap.size, 0, none⟩) m d xs (hr.alloc _) hp ?_ (fun b o e => by injection e with e; injection e with e1 e2; omega) hm1 hm2).mono ?_
  · refine ⟨by simp [strs', hm], fun _ => ⟨w.heap.size, 0, rfl, fun j hj => ?_⟩⟩
    rw [cell_of_row _ w.heap.size (0 + j) (strs' xs).toArray E (0, 0) (heap_alloc_new w _)]
    simp
  · rintro e w' ⟨v, h1, h2, h3, h4⟩
    exact ⟨v, h1, h2, h3, gr_trans (gr_alloc (World.grownBy.refl w (some g)) _) h4⟩
end Go.Proofs.YtmnmdecbehfegaaDoor
