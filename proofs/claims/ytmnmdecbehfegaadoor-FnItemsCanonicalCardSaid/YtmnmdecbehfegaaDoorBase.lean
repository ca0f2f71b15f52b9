/-
  Words for memory that every walk of this seat uses (slices that are read, slices that a call has made, what stays as it was), and small facts on lists; no function of the program occurs here.
-/
import Derived.WalkKit
import Derived.Outline
import Derived.BigQuiet
import Derived.Deep.QuietTactic
import Derived.Deep.RegionWith
import Derived.Deep.OwnRows
import Derived.Deep.Draws
import Derived.WalkLawsBesides
import Derived.WalkSpells
import Derived.Lib.Hide
namespace Go.Proofs.YtmnmdecbehfegaaDoor
open Go.RowKit

/-! ### Reading -/
def Rd (w : World) (size : Nat) (A : Option Addr) (n : Nat) (xs : List Value) : Prop :=
  xs.length = n * size ∧ (0 < n → ∃ b o, A = some ⟨b, o, none⟩ ∧ ∀ j, j < n * size → w.cell? ⟨b, o + j, none⟩ = xs[j]?)

def ints (l : List Int) : List Value := l.map (Value.int .i64)

/-- A slice of numbers of kind k that came in: it reads as xs, each fits its kind. -/
def InNums (k : IntKind) (w : World) (a : Option Addr) (n c : Nat) (xs : List Int) : Prop :=
  Rd w 1 a n (xs.map (Value.int k)) ∧ (∀ z ∈ xs, (Lit.int k z).wf = true) ∧ n ≤ c ∧ c ≤ maxLen

theorem InNums.rd {w : World} {a : Option Addr} {n c : Nat} {xs : List Int} (h : InNums .i64 w a n c xs) : Rd w 1 a n (ints xs) := h.1

/-- A slice of bytes that came in. -/
def InBytes (w : World) (a : Option Addr) (n c : Nat) (xs : List Int) : Prop :=
  Rd w 1 a n (xs.map (Value.int .u8)) ∧ (∀ z ∈ xs, 0 ≤ z ∧ z ≤ 255) ∧ n ≤ c ∧ c ≤ maxLen

def strs' (l : List ByteArray) : List Value := l.map Value.string

/-- A slice of strings that came in. -/
def InStrs (w : World) (a : Option Addr) (n c : Nat) (xs : List ByteArray) : Prop :=
  Rd w 1 a n (strs' xs) ∧ (∀ s ∈ xs, s.size ≤ maxLen) ∧ n ≤ c ∧ c ≤ maxLen

theorem ints_one (l : List Int) : ∀ u ∈ ints l, u.oneCell' = true := by
  intro u hu
  obtain ⟨_, _, rfl⟩ := List.mem_map.1 hu
  rfl

theorem ints_length (l : List Int) : (ints l).length = l.length := by simp [ints]

theorem Rd.nil (w : World) (size : Nat) (A : Option Addr) : Rd w size A 0 [] := ⟨by simp, fun h => absurd h (by omega)⟩

theorem Rd.keep {w w' : World} {size : Nat} {A : Option Addr} {n : Nat} {xs : List Value} (h : Rd w size A n xs)
    (hk : ∀ p v, w.cell? p = some v → w'.cell? p = some v) : Rd w' size A n xs := by
  refine ⟨h.1, fun hn => ?_⟩
  obtain ⟨b, o, e, hc⟩ := h.2 hn
  refine ⟨b, o, e, fun j hj => ?_⟩
  have hl : j < xs.length := by rw [h.1]; exact hj
  have h1 := hc j hj
  rw [List.getElem?_eq_getElem hl] at h1 ⊢
  exact hk _ _ h1

theorem cell_below {w w' : World} (hb : Below w.heap.size w w') {p : Addr} {v : Value} (h : w.cell? p = some v) : w'.cell? p = some v :=
  (hb.cell (World.block_lt_of_cell? w p h)).trans h

theorem cell_alloc {w : World} {p : Addr} {v : Value} (h : w.cell? p = some v) : ∀ o, (w.alloc o).cell? p = some v :=
  fun o => (World.cell?_alloc_lt w o p (World.block_lt_of_cell? w p h)).trans h

theorem Rd.below {w w' : World} {size : Nat} {A : Option Addr} {n : Nat} {xs : List Value} (h : Rd w size A n xs) (hb : Below w.heap.size w w') : Rd w' size A n xs :=
  h.keep fun _ _ hc => cell_below hb hc

theorem Rd.drewN {w : World} {size : Nat} {A : Option Addr} {n : Nat} {xs : List Value} (h : Rd w size A n xs) (q : Nat) : Rd (w.drewN q) size A n xs := h

theorem Rd.own {w : World} {base : Nat} {E : TypeId} {size : Nat} {A : Option Addr} {n c : Nat} {xs : List Value} (h : w.ownsRow base E size (.slice A n c) n xs) : Rd w size A n xs := by
  refine ⟨h.1, fun hn => ?_⟩
  rcases h.2 with ⟨_, h0⟩ | ⟨g, cap, cur, hv, _⟩
  · omega
  · injection hv with hA hn' hc
    subst hA
    exact ⟨g, 0, rfl, fun j hj => by rw [Nat.zero_add]; exact h.cellAt j hj⟩

theorem Rd.take {w : World} {size : Nat} {A : Option Addr} {n : Nat} {xs : List Value} (h : Rd w size A n xs) {k : Nat} (hk : k ≤ n) : Rd w size A k (xs.take (k * size)) := by
  have hm : k * size ≤ n * size := Nat.mul_le_mul_right _ hk
  refine ⟨by rw [List.length_take, h.1]; omega, fun h0 => ?_⟩
  obtain ⟨b, o, e, hc⟩ := h.2 (by omega)
  exact ⟨b, o, e, fun j hj => by rw [hc j (by omega), List.getElem?_take, if_pos hj]⟩

theorem Rd.cut {w : World} {size : Nat} {A : Option Addr} {n : Nat} {xs : List Value} (h : Rd w size A n xs) {lo cap : Nat} (hk : lo ≤ n) (hc : n ≤ cap) :
    Rd w size (if cap = lo then A else A.map (·.add (lo * size))) (n - lo) (xs.drop (lo * size)) := by
  refine ⟨by rw [List.length_drop, h.1, Nat.sub_mul], fun h0 => ?_⟩
  obtain ⟨b, o, rfl, hcell⟩ := h.2 (by omega)
  rw [if_neg (by omega)]
  refine ⟨b, o + lo * size, by simp [Addr.add_lit], fun j hj => ?_⟩
  have hm : lo * size ≤ n * size := Nat.mul_le_mul_right _ hk
  rw [Nat.sub_mul] at hj
  rw [Nat.add_assoc, hcell _ (by omega), List.getElem?_drop]

theorem Rd.int_at {w : World} {A : Option Addr} {n : Nat} {xs : List Int} (h : Rd w 1 A n (ints xs)) {k : Nat} (hk : k < n) :
    ∃ b o x, A = some ⟨b, o, none⟩ ∧ xs[k]? = some x ∧ w.cell? ⟨b, o + k, none⟩ = some (.int .i64 x) := by
  obtain ⟨b, o, e, hc⟩ := h.2 (by omega)
  have hl := h.1
  have hk' : k < xs.length := by simp [ints] at hl; omega
  refine ⟨b, o, xs[k], e, List.getElem?_eq_getElem hk', ?_⟩
  rw [hc k (by omega)]
  simp [ints, hk']

theorem Rd.len {w : World} {A : Option Addr} {n : Nat} {xs : List Int} (h : Rd w 1 A n (ints xs)) : xs.length = n := by
  have := h.1; simpa [ints] using this

/-! ### What stays -/
theorem below_drewN {B : Nat} {w : World} (q : Nat) : Below B w (w.drewN q) := ⟨rfl, rfl, rfl, Nat.le_refl _, fun _ _ => rfl⟩
theorem below_drewN' {B : Nat} {a w : World} (h : Below B a w) (q : Nat) : Below B a (w.drewN q) := h.trans (below_drewN q)
theorem below_then {B : Nat} {a w w' : World} (h : Below B a w) (hB : B ≤ w.heap.size) (h' : Below w.heap.size w w') : Below B a w' := h.trans (h'.mono hB)

theorem below_step {a w w' : World} (h : Below a.heap.size a w) (h' : Below w.heap.size w w') : Below a.heap.size a w' := h.trans (h'.mono h.size)

theorem own_below {w w' : World} {base : Nat} {E : TypeId} {size : Nat} {v : Value} {n : Nat} {xs : List Value} (h : w.ownsRow base E size v n xs) (hb : Below w.heap.size w w') : w'.ownsRow base E size v n xs := by
  refine ⟨h.1, ?_⟩
  rcases h.2 with h2 | ⟨g, cap, cur, hv, hg, hh, r⟩
  · exact .inl h2
  · refine .inr ⟨g, cap, cur, hv, hg, ?_, r⟩
    rw [hb.block g (Array.getElem?_eq_some_iff.1 hh).1]
    exact hh

/-- Behind an append onto a row in a block from the old heap's size on. -/
theorem below_app {w w1 w' : World} (h : Below w.heap.size w w1) {v : Value} (hg : w1.grownBy w' v.ownBlock) {base : Nat} {E : TypeId} {size n : Nat} {xs : List Value}
    {w2 : World} (ho : w2.ownsRow base E size v n xs) (hb : w.heap.size ≤ base) : Below w.heap.size w w' :=
  h.grown hg h.size (fun k hk => Nat.le_trans hb (ho.lt k hk).1)

theorem below_of_drew {B : Nat} {w w' : World} (h : ∃ q, w' = w.drewN q) : Below B w w' := by
  obtain ⟨q, rfl⟩ := h
  exact below_drewN q

theorem own_base {w : World} {base base' : Nat} {E : TypeId} {size : Nat} {v : Value} {n : Nat} {xs : List Value} (h : w.ownsRow base E size v n xs) (hb : base' ≤ base) : w.ownsRow base' E size v n xs := by
  refine ⟨h.1, ?_⟩
  rcases h.2 with h2 | ⟨g, cap, cur, hv, hg, r⟩
  · exact .inl h2
  · exact .inr ⟨g, cap, cur, hv, by omega, r⟩

theorem own_drewN {w : World} {base : Nat} {E : TypeId} {size : Nat} {v : Value} {n : Nat} {xs : List Value} (h : w.ownsRow base E size v n xs) (q : Nat) : (w.drewN q).ownsRow base E size v n xs := h

theorem own_shape {w : World} {base : Nat} {E : TypeId} {size : Nat} {v : Value} {n : Nat} {xs : List Value} (h : w.ownsRow base E size v n xs) :
    ∃ A c, v = .slice A n c ∧ n ≤ c := by
  rcases h.2 with ⟨h2, h3⟩ | ⟨g, cap, cur, hv, _, _, hn, _⟩
  · exact ⟨_, _, by rw [h2, h3], by omega⟩
  · exact ⟨_, _, hv, hn⟩

/-! ### A region that draws its order, whose calls make memory of their own but hand back plain values -/
/-- The worlds in which all that was in w is as it was. -/
def Ext (w : World) : Type := { w' : World // Below w.heap.size w w' }

instance ext_nonempty (w : World) : Nonempty (Ext w) := ⟨⟨w, Below.refl _ _⟩⟩

theorem wp_region_ext {P : Program} {id : Nat} {Q : Exit → Act → World → Prop} {a : Act} {w : World} {l : List Oper} (hm : P.follows .mixedOrders = true) (hB : Region.lexB .any l.toArray = true)
    (h : wpQuiet P l.toArray (fun w' => ∃ n : Ext w, w' = n.val) (fun a' => ∀ w', (∃ n : Ext w, w' = n.val) → Q .normal a' w') l a) : (Code.region id l.toArray true).wp P Q a w :=
  wp_region_quiet (C := fun w' => ∃ n : Ext w, w' = n.val) hm hB ⟨⟨_, (Below.refl _ w).drew⟩, rfl⟩ (by simpa using h)

theorem ext_below {w w' : World} (h : ∃ n : Ext w, w' = n.val) : Below w.heap.size w w' := by
  obtain ⟨n, rfl⟩ := h
  exact n.property

theorem ext_call {P : Program} {f : FuncId} {args : Array Value} {w : World} {n : Ext w} {v : Value}
    (h : Calls P f args n.val fun e w' => e = .returned v ∧ Below n.val.heap.size n.val w') : Calls P f args n.val fun e w'' => e = .returned v ∧ ∃ m : Ext w, w'' = m.val :=
  h.mono fun _ w' ⟨he, hb⟩ => ⟨he, ⟨w', below_step n.property hb⟩, rfl⟩

theorem ext_cell {w : World} {p : Addr} {v : Value} (h : w.cell? p = some v) : ∀ n : Ext w, n.val.cell? p = some v := fun n => cell_below n.property h

/-! ### append onto a row of the call's own -/
/-- Slice type t has elements E of 'size' cells. -/
def ElemT (P : Program) (t E : TypeId) (size : Nat) : Prop :=
  P.underlying t = some (.slice E) ∧ ∃ i z bytes, P.info? E = some i ∧ i.zero = some z ∧ i.size = size ∧ i.bytes = bytes ∧ z.cells.size = size ∧ 0 < size ∧ bytes ≤ 1000

theorem ElemT.of {P : Program} {t E : TypeId} {size bytes : Nat} {z : Value} (ht : P.underlying t = some (.slice E)) (h : (P.info? E).map (fun i => (i.zero, i.size, i.bytes)) = some (some z, size, bytes))
    (hz : z.cells.size = size) (h0 : 0 < size) (hb : bytes ≤ 1000) : ElemT P t E size := by
  obtain ⟨i, h1, h2, h3, h4⟩ := info_parts h
  exact ⟨ht, i, z, bytes, h1, h2, h3, h4, hz, h0, hb⟩

section
variable {P : Program} {ops : Array Oper} {rest : List Oper} {o : Oper} {a : Act} {Q : Exit → Act → World → Prop}

/-- What is appended has just been written out in a block of its own. -/
theorem app_lit {w : World} {t E : TypeId} {size : Nat} (hT : ElemT P t E size) (hgd : o.guard = none) (s x : Operand)
    (ho : o.op = .call { callee := .builtin .append, args := #[s, x], argTypes := #[t, t] }) {base : Nat} {v : Value} {n : Nat} {xs : List Value} (hown : w.ownsRow base E size v n xs)
    (m c : Nat) (news : List Value) (hs : a.eval s = v) (hx : a.eval x = .slice (some ⟨w.heap.size, 0, none⟩) m c) (hl : news.length = m * size) (h1 : ∀ u ∈ news, u.oneCell' = true)
    (hb : n + m ≤ 1000000) (hbase : base ≤ w.heap.size)
    (h : ∀ v' w', w'.ownsRow base E size v' (n + m) (xs ++ news) → (w.alloc (.cells news.toArray E)).grownBy w' v.ownBlock → wpList P ops Q rest (a.put o.dst v') w') :
    wpList P ops Q (o :: rest) a (w.alloc (.cells news.toArray E)) := by
  obtain ⟨ht, i, z, bytes, hi, hz, hsz, hby, hzs, h0, hbb⟩ := hT
  have hm : (n + m) * bytes ≤ 1000000 * 1000 := Nat.mul_le_mul hb hbb
  refine wpList_append_own _ hgd s x t ho base E i z size bytes ht hi hz hsz hby hzs h0 v n xs hs (hown.alloc _) ⟨w.heap.size, 0, none⟩ m c news hx hl (fun j u hu => ?_) h1 (by unfold maxLen; omega) (by omega) (by simp; omega) (fun v' w' h2 h3 _ => h v' w' h2 h3)
  have e : (⟨w.heap.size, 0, none⟩ : Addr).add j = ⟨w.heap.size, j, none⟩ := by rw [Addr.add_lit, Nat.zero_add]
  rw [e, cell_of_row _ w.heap.size j news.toArray E (0, 0) (heap_alloc_new w _)]
  simpa using hu

theorem run_app_none (w : World) (base : Nat) (t ty E : TypeId) (i : TypeInfo) (size : Nat) (ht : P.underlying t = some (.slice E)) (hi : P.info? E = some i)
    (v : Value) (n : Nat) (xs : List Value) (hown : w.ownsRow base E size v n xs) (c : Nat) : (Builtin.append_ #[t, t] ty #[v, .slice none 0 c]).run P w = .ok v w := by
  rcases hown.2 with ⟨rfl, rfl⟩ | ⟨g, cap, cur, rfl, _, _, hnc, _⟩
  all_goals simp [*, Builtin.append_, run_underlying ht, sizeOf, typeInfo, hi, Builtin.lenOf, Builtin.firstCells, storeCells]

/-- What is appended is a slice that reads as a list. -/
theorem app_rd {w : World} {t E : TypeId} {size : Nat} (hT : ElemT P t E size) (hgd : o.guard = none) (s x : Operand)
    (ho : o.op = .call { callee := .builtin .append, args := #[s, x], argTypes := #[t, t] }) {base : Nat} {v : Value} {n : Nat} {xs : List Value} (hown : w.ownsRow base E size v n xs)
    {A : Option Addr} {m : Nat} (c : Nat) {news : List Value} (hr : Rd w size A m news) (hs : a.eval s = v) (hx : a.eval x = .slice A m c) (h1 : ∀ u ∈ news, u.oneCell' = true)
    (hb : n + m ≤ 1000000) (hbase : base ≤ w.heap.size)
    (h : ∀ v' w', w'.ownsRow base E size v' (n + m) (xs ++ news) → w.grownBy w' v.ownBlock → wpList P ops Q rest (a.put o.dst v') w') :
    wpList P ops Q (o :: rest) a w := by
  obtain ⟨ht, i, z, bytes, hi, hz, hsz, hby, hzs, h0, hbb⟩ := hT
  have hm : (n + m) * bytes ≤ 1000000 * 1000 := Nat.mul_le_mul hb hbb
  rcases A with _ | ad
  · have hm0 : m = 0 := by
      rcases Nat.eq_zero_or_pos m with h0 | h0
      · exact h0
      · obtain ⟨b, o', e, _⟩ := hr.2 h0
        cases e
    subst hm0
    have hn : news = [] := List.eq_nil_of_length_eq_zero (by simpa using hr.1)
    subst hn
    refine wpList_plain hgd fun K hK => ?_
    have hrun := run_app_none (P := P) w base t o.type E i size ht hi v n xs hown c
    unfold Oper.wp
    simp [execOp, ho, resolve, invoke, builtin, hs, hx, hrun, Result.andThen]
    exact hK _ _ (h v w (by simpa using hown) (World.grownBy.refl _ _))
  · refine wpList_append_own _ hgd s x t ho base E i z size bytes ht hi hz hsz hby hzs h0 v n xs hs hown ad m c news hx hr.1 (fun j u hu => ?_) h1 (by unfold maxLen; omega) (by omega) hbase (fun v' w' h2 h3 _ => h v' w' h2 h3)
    have hj : j < m * size := by rw [← hr.1]; exact (List.getElem?_eq_some_iff.1 hu).1
    have hm0 : 0 < m := by
      rcases Nat.eq_zero_or_pos m with h0 | h0
      · subst h0; simp at hj
      · exact h0
    obtain ⟨b, o', e, hc⟩ := hr.2 hm0
    injection e with e
    subst e
    rw [Addr.add_lit, hc j hj, hu]
end

/-! ### Endings -/
theorem ret_bool {a b : Bool} (h : a = b) : Ending.returned (.bool a) = .returned (.bool b) := by rw [h]
theorem ret_int {a b : Int} (h : a = b) : Ending.returned (.int .i64 a) = .returned (.int .i64 b) := by rw [h]

/-! ### Lists -/
theorem ext_upto {α : Type} {xs ys : List α} {n : Nat} (hx : xs.length = n) (hy : ys.length = n) (h : ∀ j, j < n → xs[j]? = ys[j]?) : xs = ys := by
  apply List.ext_getElem?
  intro j
  rcases Nat.lt_or_ge j n with hj | hj
  · exact h j hj
  · rw [List.getElem?_eq_none (by omega), List.getElem?_eq_none (by omega)]

theorem upto_succ {α : Type} {xs ys : List α} {k : Nat} (h : ∀ j, j < k → xs[j]? = ys[j]?) (hk : xs[k]? = ys[k]?) : ∀ j, j < k + 1 → xs[j]? = ys[j]? := by
  intro j hj
  rcases Nat.lt_or_ge j k with h1 | h1
  · exact h j h1
  · obtain rfl : j = k := by omega
    exact hk

theorem fill_set {α : Type} (xs : List α) (z x : α) (k : Nat) (hx : xs[k]? = some x) :
    (xs.take k ++ List.replicate (xs.length - k) z).set k x = xs.take (k + 1) ++ List.replicate (xs.length - (k + 1)) z := by
  obtain ⟨hk, hxk⟩ := List.getElem?_eq_some_iff.1 hx
  have hl : (xs.take k).length = k := by simp; omega
  rw [List.set_append_right _ _ (by omega), hl, Nat.sub_self]
  obtain ⟨m, hm⟩ : ∃ m, xs.length - k = m + 1 := ⟨xs.length - k - 1, by omega⟩
  rw [hm, List.replicate_succ, List.set_cons_zero, List.take_add_one, hx]
  have : xs.length - (k + 1) = m := by omega
  rw [this]
  simp

theorem fill_at {α : Type} (xs : List α) (z : α) (k : Nat) (hk : k < xs.length) :
    (xs.take k ++ List.replicate (xs.length - k) z)[k]? = some z := by
  have hl : (xs.take k).length = k := by simp; omega
  rw [List.getElem?_append_right (by omega), hl, Nat.sub_self, List.getElem?_replicate, if_pos (by omega)]

theorem fill_end {α : Type} (xs : List α) (z : α) : xs.take xs.length ++ List.replicate (xs.length - xs.length) z = xs := by simp

theorem ints_fill_at (xs : List Int) (z : Int) (k : Nat) (hk : k < xs.length) : (ints (xs.take k ++ List.replicate (xs.length - k) z))[k]? = some (.int .i64 z) := by
  unfold ints; rw [List.getElem?_map, fill_at xs z k hk]; rfl

theorem ints_fill_set (xs : List Int) (z x : Int) (k : Nat) (hx : xs[k]? = some x) :
    (ints (xs.take k ++ List.replicate (xs.length - k) z)).set k (.int .i64 x) = ints (xs.take (k + 1) ++ List.replicate (xs.length - (k + 1)) z) := by
  unfold ints; rw [← fill_set xs z x k hx, List.map_set]

/-! ### Elements of several cells -/
theorem flat_length {α : Type} (f : α → List Value) (s : Nat) (hs : ∀ x, (f x).length = s) : ∀ l : List α, (l.flatMap f).length = l.length * s
  | [] => by simp
  | x :: l => by simp only [List.flatMap_cons, List.length_append, hs x, flat_length f s hs l, List.length_cons, Nat.add_mul]; omega
theorem flat_get {α : Type} (f : α → List Value) (s : Nat) (hs : ∀ x, (f x).length = s) : ∀ (l : List α) (k j : Nat) (x : α), l[k]? = some x → j < s → (l.flatMap f)[k * s + j]? = (f x)[j]?
  | [], k, j, x, hk, _ => by simp at hk
  | y :: l, 0, j, x, hk, hj => by
    simp at hk
    subst hk
    rw [Nat.zero_mul, Nat.zero_add, List.flatMap_cons, List.getElem?_append_left (by rw [hs]; exact hj)]
  | y :: l, k + 1, j, x, hk, hj => by
    have ih := flat_get f s hs l k j x (by simpa using hk) hj
    rw [List.flatMap_cons, List.getElem?_append_right (by rw [hs, Nat.add_mul]; omega), hs, show (k + 1) * s + j - s = k * s + j from by rw [Nat.add_mul]; omega]
    exact ih
theorem Rd.elem_len {α : Type} {f : α → List Value} {s : Nat} (hs : ∀ x, (f x).length = s) (h0 : 0 < s) {w : World} {A : Option Addr} {n : Nat} {l : List α} (h : Rd w s A n (l.flatMap f)) : l.length = n := by
  have := h.1
  rw [flat_length f s hs] at this
  exact Nat.eq_of_mul_eq_mul_right h0 this
theorem Rd.elem_at {α : Type} {f : α → List Value} {s : Nat} (hs : ∀ x, (f x).length = s) (h0 : 0 < s) {w : World} {A : Option Addr} {n : Nat} {l : List α} (h : Rd w s A n (l.flatMap f)) {k : Nat} (hk : k < n) :
    ∃ b o x, A = some ⟨b, o, none⟩ ∧ l[k]? = some x ∧ ∀ j, j < s → w.cell? ⟨b, o + k * s + j, none⟩ = (f x)[j]? := by
  obtain ⟨b, o, e, hc⟩ := h.2 (by omega)
  have hl := h.elem_len hs h0
  have hk' : k < l.length := by omega
  refine ⟨b, o, l[k], e, List.getElem?_eq_getElem hk', fun j hj => ?_⟩
  have hlt : k * s + j < n * s := by
    have : (k + 1) * s ≤ n * s := Nat.mul_le_mul_right _ hk
    rw [Nat.add_mul] at this; omega
  rw [Nat.add_assoc, hc _ hlt, flat_get f s hs l k j _ (List.getElem?_eq_getElem hk') hj]

theorem run_makeN {P : Program} (t E : TypeId) (i : TypeInfo) (z : Value) (size bytes : Nat) (ht : P.underlying t = some (.slice E)) (hi : P.info? E = some i) (hz : i.zero = some z) (hs : i.size = size) (hb : i.bytes = bytes)
    (n : Nat) (w : World) (hn : bytes * n ≤ 281474976710656 ∧ n ≤ 9223372036854775807) :
    (Instr.makeSlice t (.int .i64 (n : Int)) (.int .i64 (n : Int))).run P w = .ok (.slice (some ⟨w.heap.size, 0, none⟩) n n) (w.alloc (.cells (madeCells z.cells (n * size)) E)) := by
  subst hs
  subst hb
  have h1 : (i.bytes : Int) * (n : Int) ≤ 281474976710656 := by
    have h : ((i.bytes * n : Nat) : Int) ≤ 281474976710656 := by omega
    rwa [Int.natCast_mul] at h
  have hr := run_make (P := P) w t E i z ht hi hz .i64 .i64 (n : Int) (n : Int) (by omega) (by omega) h1 (by omega)
  simpa using hr

theorem made_flat {α : Type} (f : α → List Value) (s : Nat) (hs : ∀ x, (f x).length = s) (h0 : 0 < s) (z0 : α) (zc : Array Value) (hz : zc.toList = f z0) (n : Nat) :
    (madeCells zc (n * s)).toList = (List.replicate n z0).flatMap f := by
  have hzs : zc.size = s := by rw [← Array.length_toList, hz, hs]
  apply List.ext_getElem?
  intro i
  rcases Nat.lt_or_ge i (n * s) with hi | hi
  · have hk : i / s < n := (Nat.div_lt_iff_lt_mul h0).2 hi
    have hj : i % s < s := Nat.mod_lt _ h0
    have hr : (List.replicate n z0)[i / s]? = some z0 := by rw [List.getElem?_replicate, if_pos hk]
    have hfg := flat_get f s hs _ (i / s) (i % s) z0 hr hj
    have hdm : i / s * s + i % s = i := by rw [Nat.mul_comm]; exact Nat.div_add_mod i s
    rw [hdm] at hfg
    rw [hfg, ← hz]
    have hjz : i % s < zc.size := by omega
    simp [madeCells, hi, hzs]
    rw [getElem!_pos zc _ hjz, Array.getElem?_eq_getElem hjz]
  · rw [List.getElem?_eq_none (by simp [madeCells]; omega), List.getElem?_eq_none (by rw [flat_length f s hs, List.length_replicate]; omega)]

/-- The relation of a loop that copies a list, element by element, into a row that the call has made. -/
def FillRel {α : Type} (f : α → List Value) (w : World) (E : TypeId) (size : Nat) (z : α) (xs : List α) (n : Nat) (i : Value) (wr : World) : Prop :=
  ∃ k : Nat, k ≤ n ∧ i = .int .i64 k ∧ wr.ownsRow w.heap.size E size (.slice (some ⟨w.heap.size, 0, none⟩) n n) n ((xs.take k ++ List.replicate (xs.length - k) z).flatMap f) ∧ Below w.heap.size w wr

theorem fill_cells {α : Type} (f : α → List Value) (s : Nat) (hs : ∀ x, (f x).length = s) (xs : List α) (z : α) (k : Nat) (hk : k < xs.length) :
    ∀ j, j < s → ((xs.take k ++ List.replicate (xs.length - k) z).flatMap f)[k * s + j]? = (f z)[j]? :=
  fun j hj => flat_get f s hs _ k j z (fill_at xs z k hk) hj

theorem flat_set {α : Type} (f : α → List Value) (s : Nat) (hs : ∀ x, (f x).length = s) (h0 : 0 < s) (l : List α) (k : Nat) (x : α) (hk : k < l.length) (L : List Value) (hL : L.length = l.length * s)
    (h1 : ∀ i, i / s ≠ k → L[i]? = (l.flatMap f)[i]?) (h2 : ∀ j, j < s → L[k * s + j]? = (f x)[j]?) : L = (l.set k x).flatMap f := by
  apply List.ext_getElem?
  intro i
  rcases Nat.lt_or_ge i (l.length * s) with hi | hi
  · have hq : i / s < l.length := (Nat.div_lt_iff_lt_mul h0).2 hi
    have hj : i % s < s := Nat.mod_lt _ h0
    have hdm : i / s * s + i % s = i := by rw [Nat.mul_comm]; exact Nat.div_add_mod i s
    by_cases hqk : i / s = k
    · have hx : (l.set k x)[k]? = some x := by rw [List.getElem?_set_self hk]
      have h := flat_get f s hs _ k (i % s) x hx hj
      have h3 := h2 (i % s) hj
      rw [hqk] at hdm
      rw [hdm] at h h3
      rw [h, h3]
    · have hx : (l.set k x)[i / s]? = some l[i / s] := by rw [List.getElem?_set_ne (fun e => hqk e.symm), List.getElem?_eq_getElem hq]
      have ha := flat_get f s hs _ (i / s) (i % s) _ hx hj
      have hb := flat_get f s hs _ (i / s) (i % s) _ (List.getElem?_eq_getElem hq) hj
      rw [hdm] at ha hb
      rw [h1 i hqk, ha, hb]
  · rw [List.getElem?_eq_none (by omega), List.getElem?_eq_none (by rw [flat_length f s hs, List.length_set]; omega)]

theorem flat_set3 {α : Type} (f : α → List Value) (hs : ∀ x, (f x).length = 3) (l : List α) (k : Nat) (x : α) (hk : k < l.length) (v0 v1 v2 : Value) (hf : f x = [v0, v1, v2]) :
    (((l.flatMap f).set (k * 3) v0).set (k * 3 + 1) v1).set (k * 3 + 2) v2 = (l.set k x).flatMap f := by
  have hl := flat_length f 3 hs l
  refine flat_set f 3 hs (by omega) l k x hk _ (by simp [hl]) (fun i hi => ?_) (fun j hj => ?_)
  · rw [List.getElem?_set_ne (by omega), List.getElem?_set_ne (by omega), List.getElem?_set_ne (by omega)]
  · rw [hf]
    match j, hj with
    | 0, _ => rw [List.getElem?_set_ne (by omega), List.getElem?_set_ne (by omega), Nat.add_zero, List.getElem?_set_self (by rw [hl]; omega)]; rfl
    | 1, _ => rw [List.getElem?_set_ne (by omega), List.getElem?_set_self (by rw [List.length_set, hl]; omega)]; rfl
    | 2, _ => rw [List.getElem?_set_self (by rw [List.length_set, List.length_set, hl]; omega)]; rfl

theorem flat_set6 {α : Type} (f : α → List Value) (hs : ∀ x, (f x).length = 6) (l : List α) (k : Nat) (x : α) (hk : k < l.length) (v0 v1 v2 v3 v4 v5 : Value) (hf : f x = [v0, v1, v2, v3, v4, v5]) :
    ((((((l.flatMap f).set (k * 6) v0).set (k * 6 + 1) v1).set (k * 6 + 2) v2).set (k * 6 + 3) v3).set (k * 6 + 4) v4).set (k * 6 + 5) v5 = (l.set k x).flatMap f := by
  have hl := flat_length f 6 hs l
  refine flat_set f 6 hs (by omega) l k x hk _ (by simp [hl]) (fun i hi => ?_) (fun j hj => ?_)
  · rw [List.getElem?_set_ne (by omega), List.getElem?_set_ne (by omega), List.getElem?_set_ne (by omega), List.getElem?_set_ne (by omega), List.getElem?_set_ne (by omega), List.getElem?_set_ne (by omega)]
  · rw [hf]
    match j, hj with
    | 0, _ => repeat (rw [List.getElem?_set_ne (by omega)])
              rw [Nat.add_zero, List.getElem?_set_self (by rw [hl]; omega)]; rfl
    | 1, _ => repeat (rw [List.getElem?_set_ne (by omega)])
              rw [List.getElem?_set_self (by simp only [List.length_set]; rw [hl]; omega)]; rfl
    | 2, _ => repeat (rw [List.getElem?_set_ne (by omega)])
              rw [List.getElem?_set_self (by simp only [List.length_set]; rw [hl]; omega)]; rfl
    | 3, _ => repeat (rw [List.getElem?_set_ne (by omega)])
              rw [List.getElem?_set_self (by simp only [List.length_set]; rw [hl]; omega)]; rfl
    | 4, _ => repeat (rw [List.getElem?_set_ne (by omega)])
              rw [List.getElem?_set_self (by simp only [List.length_set]; rw [hl]; omega)]; rfl
    | 5, _ => rw [List.getElem?_set_self (by simp only [List.length_set]; rw [hl]; omega)]; rfl

theorem drop_of_get {α : Type} {xs : List α} {k : Nat} {x : α} (h : xs[k]? = some x) : xs.drop k = x :: xs.drop (k + 1) := by
  obtain ⟨hk, rfl⟩ := List.getElem?_eq_some_iff.1 h
  exact List.drop_eq_getElem_cons hk

/-- Is a number between two others? -/
def inB (lo hi a : Int) : Bool := decide (lo ≤ a) && decide (a ≤ hi)
theorem inB_true {lo hi a : Int} (h1 : lo ≤ a) (h2 : a ≤ hi) : inB lo hi a = true := by simp [inB, h1, h2]
theorem inB_iff {lo hi a : Int} : inB lo hi a = true ↔ lo ≤ a ∧ a ≤ hi := by simp [inB]
theorem inB_false {lo hi a : Int} (h : ¬ (lo ≤ a ∧ a ≤ hi)) : inB lo hi a = false := by
  rw [← Bool.not_eq_true, inB_iff]; exact h

/-- How many elements at the beginning two lists have in common. -/
def cpre {α : Type} [DecidableEq α] : List α → List α → Nat
  | x :: xs, y :: ys => if x = y then cpre xs ys + 1 else 0
  | _, _ => 0

theorem cpre_eq {α : Type} [DecidableEq α] : ∀ (k : Nat) (xs ys : List α), k ≤ xs.length → k ≤ ys.length → (∀ j, j < k → xs[j]? = ys[j]?) →
    (k = xs.length ∨ k = ys.length ∨ xs[k]? ≠ ys[k]?) → cpre xs ys = k
  | 0, xs, ys, _, _, _, h => by
    match xs, ys, h with
    | [], _, _ => simp [cpre]
    | x :: xs, [], _ => simp [cpre]
    | x :: xs, y :: ys, h =>
      have hne : x ≠ y := by
        rcases h with h | h | h
        · simp at h
        · simp at h
        · intro e; exact h (by simp [e])
      simp [cpre, hne]
  | k + 1, xs, ys, hx, hy, hp, h => by
    match xs, ys, hx, hy, hp, h with
    | x :: xs, y :: ys, hx, hy, hp, h =>
      have h0 : x = y := by simpa using hp 0 (by omega)
      have ih := cpre_eq k xs ys (by simpa using hx) (by simpa using hy) (fun j hj => by simpa using hp (j + 1) (by omega)) (by simpa using h)
      simp [cpre, h0, ih]

theorem cpre_comm {α : Type} [DecidableEq α] : ∀ (xs ys : List α), cpre xs ys = cpre ys xs
  | [], [] => rfl
  | [], _ :: _ => rfl
  | _ :: _, [] => rfl
  | x :: xs, y :: ys => by
    by_cases h : x = y
    · simp [cpre, h, cpre_comm xs ys]
    · have h' : ¬ y = x := fun e => h e.symm
      simp [cpre, h, h']
theorem cpre_self {α : Type} [DecidableEq α] : ∀ (xs : List α), cpre xs xs = xs.length
  | [] => rfl
  | x :: xs => by simp [cpre, cpre_self xs]
theorem cpre_le {α : Type} [DecidableEq α] : ∀ (xs ys : List α), cpre xs ys ≤ xs.length
  | [], [] => Nat.le_refl _
  | [], _ :: _ => Nat.le_refl _
  | _ :: _, [] => by simp [cpre]
  | x :: xs, y :: ys => by
    by_cases h : x = y
    · have := cpre_le xs ys
      simp [cpre, h]; omega
    · simp [cpre, h]
theorem cpre_le' {α : Type} [DecidableEq α] (xs ys : List α) : cpre xs ys ≤ ys.length := by rw [cpre_comm]; exact cpre_le ys xs
theorem cpre_take {α : Type} [DecidableEq α] : ∀ (xs ys : List α), xs.take (cpre xs ys) = ys.take (cpre xs ys)
  | [], [] => rfl
  | [], _ :: _ => by simp [cpre]
  | _ :: _, [] => by simp [cpre]
  | x :: xs, y :: ys => by
    by_cases h : x = y
    · have := cpre_take xs ys
      simp [cpre, h, this]
    · simp [cpre, h]
theorem cpre_next {α : Type} [DecidableEq α] : ∀ (xs ys : List α), cpre xs ys < xs.length → cpre xs ys < ys.length → xs[cpre xs ys]? ≠ ys[cpre xs ys]?
  | [], _, h, _ => by simp at h
  | _ :: _, [], _, h => by simp at h
  | x :: xs, y :: ys, h1, h2 => by
    by_cases h : x = y
    · have ih := cpre_next xs ys (by simpa [cpre, h] using h1) (by simpa [cpre, h] using h2)
      simpa [cpre, h] using ih
    · simp [cpre, h]
end Go.Proofs.YtmnmdecbehfegaaDoor
