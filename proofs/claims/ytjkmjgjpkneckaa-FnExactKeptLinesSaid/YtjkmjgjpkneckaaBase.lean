/-
  Words for memory that every walk of this seat uses (slices that are read, slices that a call has made, what stays as it was), and small facts on lists; no function of the program occurs here.
-/
import Derived.WalkKit
import Derived.Outline
import Derived.BigQuiet
import Derived.Deep.QuietTactic
import Derived.Deep.OwnRows
import Derived.Deep.Draws
import Derived.WalkLawsBesides
import Derived.WalkSpells
import Derived.Lib.Hide
namespace Go.Proofs.Ytjkmjgjpkneckaa
open Go.RowKit

/-! ### Reading -/
def Rd (w : World) (size : Nat) (A : Option Addr) (n : Nat) (xs : List Value) : Prop :=
  xs.length = n * size ∧ (0 < n → ∃ b o, A = some ⟨b, o, none⟩ ∧ ∀ j, j < n * size → w.cell? ⟨b, o + j, none⟩ = xs[j]?)

def ints (l : List Int) : List Value := l.map (Value.int .i64)

/-- A slice of numbers of kind k that came in: it reads as xs, each fits its kind. -/
def InNums (k : IntKind) (w : World) (a : Option Addr) (n c : Nat) (xs : List Int) : Prop :=
  Rd w 1 a n (xs.map (Value.int k)) ∧ (∀ z ∈ xs, (Lit.int k z).wf = true) ∧ n ≤ c ∧ c ≤ maxLen

theorem InNums.rd {w : World} {a : Option Addr} {n c : Nat} {xs : List Int} (h : InNums .i64 w a n c xs) : Rd w 1 a n (ints xs) := h.1

def strs' (l : List ByteArray) : List Value := l.map Value.string

/-- A slice of strings that came in. -/
def InStrs (w : World) (a : Option Addr) (n c : Nat) (xs : List ByteArray) : Prop :=
  Rd w 1 a n (strs' xs) ∧ (∀ s ∈ xs, s.size ≤ maxLen) ∧ n ≤ c ∧ c ≤ maxLen

theorem ints_length (l : List Int) : (ints l).length = l.length := by simp [ints]

theorem Rd.nil (w : World) (size : Nat) (A : Option Addr) : Rd w size A 0 [] := ⟨by simp, fun h => absurd h (by omega)⟩

theorem Rd.keep {w w' : World} {size : Nat} {A : Option Addr} {n : Nat} {xs : List Value} (h : Rd w size A n xs)
    (hk : ∀ p v, w.cell? p = some v → w'.cell? p = some v) : Rd w' size A n xs := by
  refine ⟨h.1, fun hn => ?_⟩
  obtain ⟨b, o, e, hc⟩ := h.2 hn
  refine ⟨b, o, e, fun j hj => ?_⟩
  have hl : j < xs.length := by rw [h.1]; exact hj
  have h1 := hc j hj
  rw [List.getElem?_eq_getElem hl] at h1 ⊢
  exact hk _ _ h1

theorem cell_below {w w' : World} (hb : Below w.heap.size w w') {p : Addr} {v : Value} (h : w.cell? p = some v) : w'.cell? p = some v :=
  (hb.cell (World.block_lt_of_cell? w p h)).trans h

theorem Rd.below {w w' : World} {size : Nat} {A : Option Addr} {n : Nat} {xs : List Value} (h : Rd w size A n xs) (hb : Below w.heap.size w w') : Rd w' size A n xs :=
  h.keep fun _ _ hc => cell_below hb hc

theorem Rd.drewN {w : World} {size : Nat} {A : Option Addr} {n : Nat} {xs : List Value} (h : Rd w size A n xs) (q : Nat) : Rd (w.drewN q) size A n xs := h

theorem Rd.own {w : World} {base : Nat} {E : TypeId} {size : Nat} {A : Option Addr} {n c : Nat} {xs : List Value} (h : w.ownsRow base E size (.slice A n c) n xs) : Rd w size A n xs := by
  refine ⟨h.1, fun hn => ?_⟩
  rcases h.2 with ⟨_, h0⟩ | ⟨g, cap, cur, hv, _⟩
  · omega
  · injection hv with hA hn' hc
    subst hA
    exact ⟨g, 0, rfl, fun j hj => by rw [Nat.zero_add]; exact h.cellAt j hj⟩

theorem Rd.int_at {w : World} {A : Option Addr} {n : Nat} {xs : List Int} (h : Rd w 1 A n (ints xs)) {k : Nat} (hk : k < n) :
    ∃ b o x, A = some ⟨b, o, none⟩ ∧ xs[k]? = some x ∧ w.cell? ⟨b, o + k, none⟩ = some (.int .i64 x) := by
  obtain ⟨b, o, e, hc⟩ := h.2 (by omega)
  have hl := h.1
  have hk' : k < xs.length := by simp [ints] at hl; omega
  refine ⟨b, o, xs[k], e, List.getElem?_eq_getElem hk', ?_⟩
  rw [hc k (by omega)]
  simp [ints, hk']

theorem Rd.len {w : World} {A : Option Addr} {n : Nat} {xs : List Int} (h : Rd w 1 A n (ints xs)) : xs.length = n := by
  have := h.1; simpa [ints] using this

/-! ### What stays -/
theorem below_drewN {B : Nat} {w : World} (q : Nat) : Below B w (w.drewN q) := ⟨rfl, rfl, rfl, Nat.le_refl _, fun _ _ => rfl⟩
theorem below_drewN' {B : Nat} {a w : World} (h : Below B a w) (q : Nat) : Below B a (w.drewN q) := h.trans (below_drewN q)
theorem below_then {B : Nat} {a w w' : World} (h : Below B a w) (hB : B ≤ w.heap.size) (h' : Below w.heap.size w w') : Below B a w' := h.trans (h'.mono hB)

theorem below_step {a w w' : World} (h : Below a.heap.size a w) (h' : Below w.heap.size w w') : Below a.heap.size a w' := h.trans (h'.mono h.size)

theorem own_below {w w' : World} {base : Nat} {E : TypeId} {size : Nat} {v : Value} {n : Nat} {xs : List Value} (h : w.ownsRow base E size v n xs) (hb : Below w.heap.size w w') : w'.ownsRow base E size v n xs := by
  refine ⟨h.1, ?_⟩
  rcases h.2 with h2 | ⟨g, cap, cur, hv, hg, hh, r⟩
  · exact .inl h2
  · refine .inr ⟨g, cap, cur, hv, hg, ?_, r⟩
    rw [hb.block g (Array.getElem?_eq_some_iff.1 hh).1]
    exact hh

theorem own_base {w : World} {base base' : Nat} {E : TypeId} {size : Nat} {v : Value} {n : Nat} {xs : List Value} (h : w.ownsRow base E size v n xs) (hb : base' ≤ base) : w.ownsRow base' E size v n xs := by
  refine ⟨h.1, ?_⟩
  rcases h.2 with h2 | ⟨g, cap, cur, hv, hg, r⟩
  · exact .inl h2
  · exact .inr ⟨g, cap, cur, hv, by omega, r⟩

theorem own_drewN {w : World} {base : Nat} {E : TypeId} {size : Nat} {v : Value} {n : Nat} {xs : List Value} (h : w.ownsRow base E size v n xs) (q : Nat) : (w.drewN q).ownsRow base E size v n xs := h

theorem own_shape {w : World} {base : Nat} {E : TypeId} {size : Nat} {v : Value} {n : Nat} {xs : List Value} (h : w.ownsRow base E size v n xs) :
    ∃ A c, v = .slice A n c ∧ n ≤ c := by
  rcases h.2 with ⟨h2, h3⟩ | ⟨g, cap, cur, hv, _, _, hn, _⟩
  · exact ⟨_, _, by rw [h2, h3], by omega⟩
  · exact ⟨_, _, hv, hn⟩

/-! ### Endings -/
theorem ret_bool {a b : Bool} (h : a = b) : Ending.returned (.bool a) = .returned (.bool b) := by rw [h]
theorem ret_int {a b : Int} (h : a = b) : Ending.returned (.int .i64 a) = .returned (.int .i64 b) := by rw [h]

/-! ### Lists -/
theorem ext_upto {α : Type} {xs ys : List α} {n : Nat} (hx : xs.length = n) (hy : ys.length = n) (h : ∀ j, j < n → xs[j]? = ys[j]?) : xs = ys := by
  apply List.ext_getElem?
  intro j
  rcases Nat.lt_or_ge j n with hj | hj
  · exact h j hj
  · rw [List.getElem?_eq_none (by omega), List.getElem?_eq_none (by omega)]

theorem upto_succ {α : Type} {xs ys : List α} {k : Nat} (h : ∀ j, j < k → xs[j]? = ys[j]?) (hk : xs[k]? = ys[k]?) : ∀ j, j < k + 1 → xs[j]? = ys[j]? := by
  intro j hj
  rcases Nat.lt_or_ge j k with h1 | h1
  · exact h j h1
  · obtain rfl : j = k := by omega
    exact hk

theorem fill_set {α : Type} (xs : List α) (z x : α) (k : Nat) (hx : xs[k]? = some x) :
    (xs.take k ++ List.replicate (xs.length - k) z).set k x = xs.take (k + 1) ++ List.replicate (xs.length - (k + 1)) z := by
  obtain ⟨hk, hxk⟩ := List.getElem?_eq_some_iff.1 hx
  have hl : (xs.take k).length = k := by simp; omega
  rw [List.set_append_right _ _ (by omega), hl, Nat.sub_self]
  obtain ⟨m, hm⟩ : ∃ m, xs.length - k = m + 1 := ⟨xs.length - k - 1, by omega⟩
  rw [hm, List.replicate_succ, List.set_cons_zero, List.take_add_one, hx]
  have : xs.length - (k + 1) = m := by omega
  rw [this]
  simp

theorem fill_at {α : Type} (xs : List α) (z : α) (k : Nat) (hk : k < xs.length) :
    (xs.take k ++ List.replicate (xs.length - k) z)[k]? = some z := by
  have hl : (xs.take k).length = k := by simp; omega
  rw [List.getElem?_append_right (by omega), hl, Nat.sub_self, List.getElem?_replicate, if_pos (by omega)]

theorem fill_end {α : Type} (xs : List α) (z : α) : xs.take xs.length ++ List.replicate (xs.length - xs.length) z = xs := by simp

theorem ints_fill_at (xs : List Int) (z : Int) (k : Nat) (hk : k < xs.length) : (ints (xs.take k ++ List.replicate (xs.length - k) z))[k]? = some (.int .i64 z) := by
  unfold ints; rw [List.getElem?_map, fill_at xs z k hk]; rfl

theorem ints_fill_set (xs : List Int) (z x : Int) (k : Nat) (hx : xs[k]? = some x) :
    (ints (xs.take k ++ List.replicate (xs.length - k) z)).set k (.int .i64 x) = ints (xs.take (k + 1) ++ List.replicate (xs.length - (k + 1)) z) := by
  unfold ints; rw [← fill_set xs z x k hx, List.map_set]

/-- How many elements at the beginning two lists have in common. -/
def cpre {α : Type} [DecidableEq α] : List α → List α → Nat
  | x :: xs, y :: ys => if x = y then cpre xs ys + 1 else 0
  | _, _ => 0

theorem cpre_eq {α : Type} [DecidableEq α] : ∀ (k : Nat) (xs ys : List α), k ≤ xs.length → k ≤ ys.length → (∀ j, j < k → xs[j]? = ys[j]?) →
    (k = xs.length ∨ k = ys.length ∨ xs[k]? ≠ ys[k]?) → cpre xs ys = k
  | 0, xs, ys, _, _, _, h => by
    match xs, ys, h with
    | [], _, _ => simp [cpre]
    | x :: xs, [], _ => simp [cpre]
    | x :: xs, y :: ys, h =>
      have hne : x ≠ y := by
        rcases h with h | h | h
        · simp at h
        · simp at h
        · intro e; exact h (by simp [e])
      simp [cpre, hne]
  | k + 1, xs, ys, hx, hy, hp, h => by
    match xs, ys, hx, hy, hp, h with
    | x :: xs, y :: ys, hx, hy, hp, h =>
      have h0 : x = y := by simpa using hp 0 (by omega)
      have ih := cpre_eq k xs ys (by simpa using hx) (by simpa using hy) (fun j hj => by simpa using hp (j + 1) (by omega)) (by simpa using h)
      simp [cpre, h0, ih]
end Go.Proofs.Ytjkmjgjpkneckaa
