/-
  The plain law of the numbers of headings: four counts, and the parts of them that make a number.
-/
import Derived.Lib.Join
import Derived.Test.YtdgmienljhaipaaDoorOutline
namespace Go.Proofs.YtdgmienljhaipaaDoor
open Go.RowKit
set_option linter.unusedVariables false

/-- A small number in decimal. -/
def dec (n : Nat) : List UInt8 := if n < 10 then [UInt8.ofNat (48 + n)] else [UInt8.ofNat (48 + n / 10), UInt8.ofNat (48 + n % 10)]
def decB (n : Nat) : ByteArray := ⟨(dec n).toArray⟩
structure N4 where
  a : Nat
  b : Nat
  c : Nat
  d : Nat
def N4.zero : N4 := ⟨0, 0, 0, 0⟩
/-- One heading of level v more. -/
def nst (q : N4) (v : Int) : N4 := if v = 1 then ⟨q.a + 1, 0, 0, 0⟩ else if v = 2 then ⟨q.a, q.b + 1, 0, 0⟩ else if v = 3 then ⟨q.a, q.b, q.c + 1, 0⟩ else ⟨q.a, q.b, q.c, q.d + 1⟩
def N4.list (q : N4) : List Nat := [q.a, q.b, q.c, q.d]
def parts (q : N4) (v : Int) : List Nat := q.list.take v.toNat
def njoin (l : List Nat) : List UInt8 := Lib.join (l.map dec) [46]
def ntext (q : N4) (v : Int) : ByteArray := ⟨(njoin (parts q v)).toArray⟩
/-- The numbers of headings, from these counts on. -/
def numF : N4 → List Int → List ByteArray
  | _, [] => []
  | q, v :: l => ntext (nst q v) v :: numF (nst q v) l
def numT (l : List Int) : List ByteArray := if vOutline l = true then numF N4.zero l else []
theorem numF_length : ∀ (l : List Int) (q : N4), (numF q l).length = l.length
  | [], _ => rfl
  | v :: l, q => by rw [numF, List.length_cons, List.length_cons, numF_length l]
/-- The counts after the first k headings. -/
def nsts (l : List Int) (k : Nat) : N4 := (l.take k).foldl nst N4.zero
theorem nsts_next {l : List Int} {k : Nat} {v : Int} (h : l[k]? = some v) : nsts l (k + 1) = nst (nsts l k) v := by
  unfold nsts
  rw [List.take_add_one, h, List.foldl_append]
  rfl
theorem numF_get : ∀ (l : List Int) (q : N4) (k : Nat) (v : Int), l[k]? = some v → (numF q l)[k]? = some (ntext ((l.take (k + 1)).foldl nst q) v)
  | [], q, k, v, h => by simp at h
  | x :: l, q, 0, v, h => by
    injection h with h
    subst h
    rfl
  | x :: l, q, k + 1, v, h => by
    rw [numF]
    show (numF (nst q x) l)[k]? = _
    rw [numF_get l (nst q x) k v h]
    rfl
theorem numT_get {l : List Int} (hv : vOutline l = true) {k : Nat} {v : Int} (h : l[k]? = some v) : (numT l)[k]? = some (ntext (nsts l (k + 1)) v) := by
  rw [numT, if_pos hv]
  exact numF_get l N4.zero k v h
theorem numT_len {l : List Int} (hv : vOutline l = true) : (numT l).length = l.length := by rw [numT, if_pos hv, numF_length]
theorem numT_no {l : List Int} (hv : ¬ vOutline l = true) : numT l = [] := if_neg hv
theorem vOut_at : ∀ (l : List Int) (last : Int) (k : Nat) (v : Int), vOut last l = true → l[k]? = some v → 1 ≤ v ∧ v ≤ 4 ∧ (k = 0 → v ≤ last + 1) ∧ (∀ u, 0 < k → l[k - 1]? = some u → v ≤ u + 1)
  | [], _, k, v, _, h => by simp at h
  | x :: l, last, 0, v, hv, h => by
    injection h with h
    subst h
    simp only [vOut, Bool.and_eq_true] at hv
    have h1 := inB_iff.1 hv.1
    exact ⟨h1.1, by omega, fun _ => by omega, fun u h => absurd h (by omega)⟩
  | x :: l, last, k + 1, v, hv, h => by
    simp only [vOut, Bool.and_eq_true] at hv
    have h2 := vOut_at l x k v hv.2 h
    refine ⟨h2.1, h2.2.1, fun h => by omega, fun u _ hu => ?_⟩
    rw [Nat.add_sub_cancel] at hu
    cases k with
    | zero =>
      injection hu with hu
      subst hu
      exact h2.2.2.1 rfl
    | succ k => exact h2.2.2.2 u (by omega) hu
theorem vOutline_at {l : List Int} (hv : vOutline l = true) {k : Nat} {v : Int} (h : l[k]? = some v) : 1 ≤ v ∧ v ≤ 4 ∧ (k = 0 → v ≤ 1) ∧ (∀ u, 0 < k → l[k - 1]? = some u → v ≤ u + 1) := by
  simp only [vOutline, Bool.and_eq_true] at hv
  have := vOut_at l 0 k v hv.1 h
  exact ⟨this.1, this.2.1, fun hk => by have := this.2.2.1 hk; omega, this.2.2.2⟩
theorem vOutline_len {l : List Int} (hv : vOutline l = true) : l.length ≤ 20 := by
  simp only [vOutline, Bool.and_eq_true, decide_eq_true_eq] at hv
  exact hv.2
theorem nst_bound {q : N4} {v : Int} {n : Nat} (h : q.a ≤ n ∧ q.b ≤ n ∧ q.c ≤ n ∧ q.d ≤ n) : (nst q v).a ≤ n + 1 ∧ (nst q v).b ≤ n + 1 ∧ (nst q v).c ≤ n + 1 ∧ (nst q v).d ≤ n + 1 := by
  unfold nst
  split
  · simp; omega
  split
  · simp; omega
  split
  · simp; omega
  · simp; omega
theorem nsts_bound (l : List Int) : ∀ k, (nsts l k).a ≤ k ∧ (nsts l k).b ≤ k ∧ (nsts l k).c ≤ k ∧ (nsts l k).d ≤ k
  | 0 => by simp [nsts, N4.zero]
  | k + 1 => by
    cases h : l[k]? with
    | none =>
      have h1 := nsts_bound l k
      have h2 : nsts l (k + 1) = nsts l k := by
        unfold nsts
        rw [List.take_add_one, h]
        simp
      rw [h2]
      omega
    | some v =>
      rw [nsts_next h]
      exact nst_bound (nsts_bound l k)
/-- One part more. -/
theorem njoin_next {l : List Nat} {k n : Nat} (h : l[k]? = some n) : njoin (l.take (k + 1)) = (if 0 < k then njoin (l.take k) ++ [46] else njoin (l.take k)) ++ dec n := by
  cases l with
  | nil => simp at h
  | cons x r =>
    cases k with
    | zero =>
      injection h with h
      subst h
      rw [if_neg (by omega)]
      show Lib.join [dec x] [46] = Lib.join [] [46] ++ dec x
      rw [Lib.join_one, Lib.join_nil, List.nil_append]
    | succ k =>
      rw [if_pos (by omega)]
      show Lib.join (dec x :: (r.take (k + 1)).map dec) [46] = (Lib.join (dec x :: (r.take k).map dec) [46] ++ [46]) ++ dec n
      have h1 : (r.map dec)[k]? = some (dec n) := by rw [List.getElem?_map, show r[k]? = some n from h]; rfl
      rw [Lib.join_cons, Lib.join_cons, List.map_take, List.map_take, Lib.joinTail_take_succ _ _ _ _ h1]
      simp [List.append_assoc]
theorem dec_len (n : Nat) : 1 ≤ (dec n).length ∧ (dec n).length ≤ 2 := by
  unfold dec
  split <;> simp
theorem njoin_len (l : List Nat) : ∀ k, (njoin (l.take k)).length ≤ 3 * k
  | 0 => by simp [njoin, Lib.join_nil]
  | k + 1 => by
    have h1 := njoin_len l k
    cases h : l[k]? with
    | none =>
      have h2 : l.take (k + 1) = l.take k := by rw [List.take_add_one, h]; simp
      rw [h2]; omega
    | some n =>
      have h3 := dec_len n
      rw [njoin_next h, List.length_append]
      split
      · rw [List.length_append, List.length_singleton]; omega
      · omega
theorem parts_len {q : N4} {v : Int} (h0 : 0 ≤ v) (h4 : v ≤ 4) : (parts q v).length = v.toNat := by
  unfold parts N4.list
  rw [List.length_take]
  simp
  omega
theorem ntext_size {q : N4} {v : Int} (h4 : v ≤ 4) : (ntext q v).size ≤ 12 := by
  have h := njoin_len q.list v.toNat
  show (njoin (parts q v)).length ≤ 12
  unfold parts
  omega
/-! ### The counts as a list of numbers -/
def natI (p : List Nat) : List Int := p.map fun x : Nat => (x : Int)
theorem natI_length (p : List Nat) : (natI p).length = p.length := by simp [natI]
theorem natI_get {p : List Nat} {k n : Nat} (h : p[k]? = some n) : (natI p)[k]? = some (n : Int) := by unfold natI; rw [List.getElem?_map, h]; rfl
/-- Behind level v all counts are 0. -/
def N4.still (q : N4) (v : Nat) : Prop := (v < 1 → q.a = 0) ∧ (v < 2 → q.b = 0) ∧ (v < 3 → q.c = 0) ∧ (v < 4 → q.d = 0)
theorem nst_still (q : N4) {x : Nat} (h1 : 1 ≤ x) (h4 : x ≤ 4) : (nst q (x : Int)).still x := by
  have hx : x = 1 ∨ x = 2 ∨ x = 3 ∨ x = 4 := by omega
  unfold N4.still
  rcases hx with rfl | rfl | rfl | rfl
  · exact ⟨fun h => by omega, fun _ => rfl, fun _ => rfl, fun _ => rfl⟩
  · exact ⟨fun h => by omega, fun h => by omega, fun _ => rfl, fun _ => rfl⟩
  · exact ⟨fun h => by omega, fun h => by omega, fun h => by omega, fun _ => rfl⟩
  · exact ⟨fun h => by omega, fun h => by omega, fun h => by omega, fun h => by omega⟩
theorem parts_more {q : N4} {v : Nat} (h : q.still v) (h4 : v < 4) : parts q ((v : Int) + 1) = parts q (v : Int) ++ [0] := by
  have hv : v = 0 ∨ v = 1 ∨ v = 2 ∨ v = 3 := by omega
  unfold N4.still at h
  unfold parts N4.list
  rcases hv with rfl | rfl | rfl | rfl
  · have := h.1 (by omega)
    show [q.a] = [0]
    rw [this]
  · have := h.2.1 (by omega)
    show [q.a, q.b] = [q.a] ++ [0]
    rw [this]
    rfl
  · have := h.2.2.1 (by omega)
    show [q.a, q.b, q.c] = [q.a, q.b] ++ [0]
    rw [this]
    rfl
  · have := h.2.2.2 (by omega)
    show [q.a, q.b, q.c, q.d] = [q.a, q.b, q.c] ++ [0]
    rw [this]
    rfl
theorem parts_take {q : N4} {x v : Nat} (h : x ≤ v) : (parts q (v : Int)).take x = parts q (x : Int) := by
  unfold parts
  rw [List.take_take]
  congr 1
  simp
  omega
theorem parts_step (q : N4) {x : Nat} (h1 : 1 ≤ x) (h4 : x ≤ 4) : ∃ n : Nat, (parts q (x : Int))[x - 1]? = some n ∧ (parts q (x : Int)).set (x - 1) (n + 1) = parts (nst q (x : Int)) (x : Int) ∧ (q.a ≤ 20 → q.b ≤ 20 → q.c ≤ 20 → q.d ≤ 20 → n ≤ 20) := by
  have hx : x = 1 ∨ x = 2 ∨ x = 3 ∨ x = 4 := by omega
  rcases hx with rfl | rfl | rfl | rfl
  · exact ⟨q.a, rfl, rfl, fun h _ _ _ => h⟩
  · exact ⟨q.b, rfl, rfl, fun _ h _ _ => h⟩
  · exact ⟨q.c, rfl, rfl, fun _ _ h _ => h⟩
  · exact ⟨q.d, rfl, rfl, fun _ _ _ h => h⟩
theorem numF_next {q : N4} {l : List Int} {k : Nat} {x : Int} (h : l[k]? = some x) : numF q (l.drop k) = ntext (nst q x) x :: numF (nst q x) (l.drop (k + 1)) := by
  rw [drop_of_get h, numF]
theorem parts_bound {q : N4} (h : q.a ≤ 20 ∧ q.b ≤ 20 ∧ q.c ≤ 20 ∧ q.d ≤ 20) (v : Int) {k n : Nat} (hn : (parts q v)[k]? = some n) : n ≤ 20 := by
  have h1 : n ∈ q.list := List.mem_of_mem_take (List.mem_of_getElem? hn)
  unfold N4.list at h1
  simp only [List.mem_cons, List.not_mem_nil, or_false] at h1
  omega
end Go.Proofs.YtdgmienljhaipaaDoor
