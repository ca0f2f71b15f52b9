/-
  Contracts of ReplaceItems, the program's and the reference's.
-/
import Derived.Test.YtjkmjgjpkneckaaConcatItem
import Derived.Test.YtjkmjgjpkneckaaDrawItems2
import Derived.Deep.RegionWith
namespace Go.Proofs.Ytjkmjgjpkneckaa
open Go.RowKit
set_option linter.unusedVariables false

def repl (xs ys : List It) (f t : Int) : List It := xs.take f.toNat ++ ys ++ xs.drop t.toNat
/-- May items be replaced? -/
def rOk (xs ys : List It) (f t : Int) : Bool :=
  vItems xs && decide (0 ≤ f) && decide (f ≤ t) && decide (t ≤ (xs.length : Int)) && decide (ys.length ≤ 60) && vItems (repl xs ys f t)
def rI (xs ys : List It) (f t : Int) : List It × Bool := if rOk xs ys f t = true then (repl xs ys f t, true) else ([], false)

theorem rI_no {xs ys : List It} {f t : Int} (h : rOk xs ys f t = false) : rI xs ys f t = ([], false) := by rw [rI, h]; rfl
theorem rI_yes {xs ys : List It} {f t : Int} (h : rOk xs ys f t = true) : rI xs ys f t = (repl xs ys f t, true) := by rw [rI, if_pos h]

def ReplRes (w : World) (xs ys : List It) (f t : Int) (e : Ending) (w' : World) : Prop :=
  ∃ A k c, e = .returned (.tuple #[.slice A k c, .bool (rI xs ys f t).2]) ∧ w'.ownsRow w.heap.size 58 6 (.slice A k c) k (items (rI xs ys f t).1) ∧ Below w.heap.size w w'

theorem repl_no {w w' : World} {xs ys : List It} {f t : Int} (h : rOk xs ys f t = false) (hb : Below w.heap.size w w') : ReplRes w xs ys f t (.returned (.tuple #[.slice none 0 0, .bool false])) w' := by
  refine ⟨none, 0, 0, by rw [rI_no h], ?_, hb⟩
  rw [rI_no h]
  exact World.ownsRow_nil _ _ _ _
theorem repl_yes {w w' : World} {xs ys : List It} {f t : Int} {A : Option Addr} {k c : Nat} (h : rOk xs ys f t = true) (ho : w'.ownsRow w.heap.size 58 6 (.slice A k c) k (items (repl xs ys f t))) (hb : Below w.heap.size w w') :
    ReplRes w xs ys f t (.returned (.tuple #[.slice A k c, .bool true])) w' := by
  refine ⟨A, k, c, by rw [rI_yes h], ?_, hb⟩
  rw [rI_yes h]
  exact ho

theorem items_append (a b : List It) : items (a ++ b) = items a ++ items b := by simp [items]
theorem Rd.takeI {w : World} {A : Option Addr} {n : Nat} {l : List It} (h : Rd w 6 A n (items l)) {k : Nat} (hk : k ≤ n) : Rd w 6 A k (items (l.take k)) := by
  have h1 := h.take hk
  rwa [items, flat_take It.cells 6 It.cells_length] at h1
theorem flat_drop {α : Type} (f : α → List Value) (s : Nat) (hs : ∀ x, (f x).length = s) : ∀ (l : List α) (k : Nat), (l.flatMap f).drop (k * s) = (l.drop k).flatMap f
  | [], k => by simp
  | x :: l, 0 => by simp
  | x :: l, k + 1 => by
    rw [List.flatMap_cons, List.drop_append, hs, List.drop_of_length_le (by rw [hs, Nat.add_mul]; omega), show (k + 1) * s - s = k * s from by rw [Nat.add_mul]; omega, flat_drop f s hs l k, List.drop_succ_cons]
    simp
theorem Rd.cutI {w : World} {A : Option Addr} {n : Nat} {l : List It} (h : Rd w 6 A n (items l)) {k c : Nat} (hk : k ≤ n) (hc : n ≤ c) : Rd w 6 (if c = k then A else A.map (·.add (k * 6))) (n - k) (items (l.drop k)) := by
  have h1 := h.cut hk hc
  rwa [items, flat_drop It.cells 6 It.cells_length] at h1

theorem repl_len {xs ys : List It} {f t : Nat} (hf : f ≤ t) (ht : t ≤ xs.length) : (repl xs ys f t).length = f + ys.length + (xs.length - t) := by
  simp [repl]; omega

theorem replace_concat (b o : Nat) (B : Option Addr) (n m c d f t : Nat) (xs ys : List It) (w w1 : World) (hb : Below w.heap.size w w1) (hx : Rd w 6 (some ⟨b, o, none⟩) n (items xs)) (hy : Rd w 6 B m (items ys))
    (At : Option Addr) (hAt : (if c = t then some ⟨b, o, none⟩ else some ⟨b, o + t * 6, none⟩) = At) (hft : f ≤ t) (htn : t ≤ n) (hnc : n ≤ c) (hm : m ≤ 60) (hn : n ≤ 60) :
    Calls Try.prog 47 #[.slice (some ⟨w1.heap.size, 0, none⟩) 3 3]
      (w1.alloc (.cells #[.slice (some ⟨b, o, none⟩) f c, .slice B m d, .slice At (n - t) (c - t)] 33)).drew
      fun e w' => ∃ v, e = .returned v ∧ w'.ownsRow w.heap.size 58 6 v (repl xs ys f t).length (items (repl xs ys f t)) ∧ Below w.heap.size w w' := by
  obtain ⟨W, hW⟩ : ∃ W, W = (w1.alloc (.cells #[.slice (some ⟨b, o, none⟩) f c, .slice B m d, .slice At (n - t) (c - t)] 33)).drew := ⟨_, rfl⟩
  have hbW : Below w.heap.size w W := by rw [hW]; exact (hb.alloc hb.size _).drew
  have hcell : ∀ j, W.cell? ⟨w1.heap.size, j, none⟩ = (#[Value.slice (some ⟨b, o, none⟩) f c, .slice B m d, .slice At (n - t) (c - t)] : Array Value)[j]? := fun j => by
    rw [hW]
    exact cell_of_row _ w1.heap.size j _ 33 (0, 0) (heap_alloc_new w1 _)
  rw [← hW]
  have h3 := (hx.below hbW).cutI (k := t) (c := c) htn hnc
  have eA : (if c = t then some ⟨b, o, none⟩ else (some (⟨b, o, none⟩ : Addr)).map (·.add (t * 6))) = At := by
    rw [← hAt]
    split
    · rfl
    · simp [Addr.add_lit]
  rw [eA] at h3
  have hlx := hx.item_len
  have hly := hy.item_len
  have hcnt : cntItem [⟨some ⟨b, o, none⟩, f, c, items (xs.take f)⟩, ⟨B, m, d, items ys⟩, ⟨At, n - t, c - t, items (xs.drop t)⟩] = (repl xs ys f t).length := by
    rw [repl_len hft (by omega)]
    simp [cntItem]
    omega
  have hall : allItem [⟨some ⟨b, o, none⟩, f, c, items (xs.take f)⟩, ⟨B, m, d, items ys⟩, ⟨At, n - t, c - t, items (xs.drop t)⟩] = items (repl xs ys f t) := by
    simp [allItem, repl, items_append]
  have hC := concatItem_any W w1.heap.size 0 3 3 [⟨some ⟨b, o, none⟩, f, c, items (xs.take f)⟩, ⟨B, m, d, items ys⟩, ⟨At, n - t, c - t, items (xs.drop t)⟩] rfl
    (fun k p hp => by
      rw [Nat.zero_add, hcell]
      match k, hp with
      | 0, hp => injection hp with hp; subst hp; rfl
      | 1, hp => injection hp with hp; subst hp; rfl
      | 2, hp => injection hp with hp; subst hp; rfl)
    (fun p hp => by
      simp only [List.mem_cons, List.not_mem_nil, or_false] at hp
      rcases hp with rfl | rfl | rfl
      · exact ⟨(hx.below hbW).takeI (show f ≤ n by omega), items_cells _⟩
      · exact ⟨hy.below hbW, items_cells _⟩
      · exact ⟨h3, items_cells _⟩)
    (by rw [hcnt, repl_len hft (by omega)]; omega) (by omega)
  rw [hcnt, hall] at hC
  refine hC.mono ?_
  rintro e w' ⟨v, rfl, ho, hb'⟩
  exact ⟨v, rfl, own_base ho hbW.size, hbW.trans (hb'.mono hbW.size)⟩

set_option maxHeartbeats 4000000 in
theorem implReplace_any (A B : Option Addr) (n m c d : Nat) (xs ys : List It) (f t : Int) (w : World) (hx : Rd w 6 A n (items xs)) (hy : Rd w 6 B m (items ys)) (hn : n ≤ 1048576) (hm : m ≤ 1048576) (hnc : n ≤ c) (hmd : m ≤ d) :
    Calls Try.prog 27 #[.slice A n c, .int .i64 f, .int .i64 t, .slice B m d] w (ReplRes w xs ys f t) := by
  have X := Lib.hid hx
  have Y := Lib.hid hy
  have HLx := Lib.hid hx.item_len
  have HLy := Lib.hid hy.item_len
  have V1 := Lib.hid (implItems_any A n c xs w hx hn)
  clear hx hy
  have bad (w1 : World) (hb : Below w.heap.size w w1) (h : rOk xs ys f t = false) : ReplRes w xs ys f t (.returned (.tuple #[.slice none 0 0, .bool false])) w1 := repl_no h hb
  have BAD := Lib.hid bad
  clear bad
  cases hv : vItems xs
  · have HR : Hid (rOk xs ys f t = false) := by show _ = _; rw [rOk, hv]; rfl
    rw [hv] at V1
    clear hv
    go_enter Try.func27, Try.ntmps27
    go_wp2_with (go_at_call 42; refine V1.out.mono ?_; rintro e w1 ⟨rfl, hb⟩; have B1 := Lib.hid hb; clear hb)
    go_ret2
    exact BAD.out _ B1.out HR.out
  have HV := Lib.hid hv
  rw [hv] at V1
  clear hv
  by_cases h1 : f < 0
  · have HR : Hid (rOk xs ys f t = false) := by show _ = _; rw [rOk, HV.out, decide_eq_false (show ¬ 0 ≤ f from by omega)]; rfl
    go_enter Try.func27, Try.ntmps27
    go_wp2_with (go_at_call 42; refine V1.out.mono ?_; rintro e w1 ⟨rfl, hb⟩; have B1 := Lib.hid hb; clear hb)
    go_ret2
    exact BAD.out _ B1.out HR.out
  by_cases h2 : t < f
  · have HR : Hid (rOk xs ys f t = false) := by show _ = _; rw [rOk, HV.out, decide_eq_false (show ¬ f ≤ t from by omega)]; simp
    go_enter Try.func27, Try.ntmps27
    go_wp2_with (go_at_call 42; refine V1.out.mono ?_; rintro e w1 ⟨rfl, hb⟩; have B1 := Lib.hid hb; clear hb)
    go_ret2
    exact BAD.out _ B1.out HR.out
  have hw60 : n ≤ 60 := by
    have h := HV.out
    simp only [vItems, Bool.and_eq_true, inB_iff] at h
    have := h.1.1
    have := HLx.out
    omega
  by_cases h3 : (n : Int) < t
  · have HR : Hid (rOk xs ys f t = false) := by show _ = _; rw [rOk, HV.out, HLx.out, decide_eq_false (show ¬ t ≤ (n : Int) from by omega)]; simp
    go_enter Try.func27, Try.ntmps27
    go_wp2_with (go_at_call 42; refine V1.out.mono ?_; rintro e w1 ⟨rfl, hb⟩; have B1 := Lib.hid hb; clear hb)
    go_ret2
    exact BAD.out _ B1.out HR.out
  by_cases h4 : (60 : Int) < (m : Int)
  · have HR : Hid (rOk xs ys f t = false) := by show _ = _; rw [rOk, HV.out, HLy.out, decide_eq_false (show ¬ m ≤ 60 from by omega)]; simp
    go_enter Try.func27, Try.ntmps27
    go_wp2_with (go_at_call 42; refine V1.out.mono ?_; rintro e w1 ⟨rfl, hb⟩; have B1 := Lib.hid hb; clear hb)
    go_ret2
    exact BAD.out _ B1.out HR.out
  obtain ⟨f, rfl⟩ := Int.eq_ofNat_of_zero_le (show 0 ≤ f by omega)
  obtain ⟨t, rfl⟩ := Int.eq_ofNat_of_zero_le (show 0 ≤ t by omega)
  have hft : f ≤ t := by omega
  have htn : t ≤ n := by omega
  have hm60 : m ≤ 60 := by omega
  obtain ⟨b, o, rfl, _⟩ : ∃ b o, A = some ⟨b, o, none⟩ ∧ True := by
    have h := HV.out
    simp only [vItems, Bool.and_eq_true, inB_iff] at h
    have h1 := h.1.1
    have := HLx.out
    obtain ⟨b, o, e, _⟩ := X.out.2 (by omega)
    exact ⟨b, o, e, trivial⟩
  have h5 : (f : Int) ≤ (c : Int) := by omega
  have h6 : (t : Int) ≤ (n : Int) := by omega
  have h7 : (n : Int) ≤ (c : Int) := by omega
  have h8 : (0 : Int) ≤ (f : Int) := by omega
  have h9 : (0 : Int) ≤ (t : Int) := by omega
  rcases Nat.lt_or_ge t c with hct | hct
  · have hne : ¬ c = t := by omega
    have hAt : (if c = t then some (⟨b, o, none⟩ : Addr) else some ⟨b, o + t * 6, none⟩) = some ⟨b, o + t * 6, none⟩ := if_neg hne
    have CC : Hid (∀ w1, Below w.heap.size w w1 → Calls Try.prog 47 #[.slice (some ⟨w1.heap.size, 0, none⟩) 3 3]
        (w1.alloc (.cells #[.slice (some ⟨b, o, none⟩) f c, .slice B m d, .slice (some ⟨b, o + t * 6, none⟩) (n - t) (c - t)] 33)).drew
        fun e w' => ∃ v, e = .returned v ∧ w'.ownsRow w.heap.size 58 6 v (repl xs ys f t).length (items (repl xs ys f t)) ∧ Below w.heap.size w w') := fun w1 hb =>
      replace_concat b o B n m c d f t xs ys w w1 hb X.out Y.out _ hAt hft htn hnc hm60 hw60
    go_enter Try.func27, Try.ntmps27
    go_wp2_with (first | (go_at_call 42; refine V1.out.mono ?_; rintro e w1 ⟨rfl, hb⟩; have B1 := Lib.hid hb; clear hb))
    go_region_with ((go_at_call 47; refine (CC.out _ B1.out).mono ?_; rintro e w2 ⟨v, rfl, ho, hb⟩; have O2 := Lib.hid ho; have B2 := Lib.hid hb; clear ho hb))
    all_goals
      obtain ⟨Av, cv, ev, hkc⟩ := own_shape O2.out
      subst ev
      have hrl := repl_len (xs := xs) (ys := ys) (f := f) (t := t) hft (by rw [HLx.out]; exact htn)
      have hrb : (repl xs ys f t).length ≤ 1048576 := by rw [hrl, HLy.out, HLx.out]; omega
      clear hrl
      have V2 := Lib.hid (implItems_any Av _ cv (repl xs ys f t) w2 (Rd.own O2.out) hrb)
      cases hvr : vItems (repl xs ys f t)
      · have HR : Hid (rOk xs ys f t = false) := by show _ = _; rw [rOk, hvr]; simp
        rw [hvr] at V2
        clear hvr
        go_wp2_with (first | (go_at_call 42; refine V2.out.mono ?_; rintro e w3 ⟨rfl, hb⟩; have B3 := Lib.hid (B2.out.trans (hb.mono B2.out.size)); clear hb))
        go_ret2
        exact BAD.out _ B3.out HR.out
      · have HR : Hid (rOk xs ys f t = true) := by show _ = _; rw [rOk, hvr, HV.out, HLx.out, HLy.out, decide_eq_true h8, decide_eq_true (show (f : Int) ≤ (t : Int) by omega), decide_eq_true h6, decide_eq_true hm60]; rfl
        rw [hvr] at V2
        clear hvr
        go_wp2_with (first | (go_at_call 42; refine V2.out.mono ?_; rintro e w3 ⟨rfl, hb⟩; have O3 := Lib.hid (own_below O2.out hb); have B3 := Lib.hid (B2.out.trans (hb.mono B2.out.size)); clear hb))
        go_ret2
        exact repl_yes HR.out O3.out B3.out
  · obtain rfl : c = t := by omega
    have hAt : (if c = c then some (⟨b, o, none⟩ : Addr) else some ⟨b, o + c * 6, none⟩) = some ⟨b, o, none⟩ := if_pos rfl
    have CC : Hid (∀ w1, Below w.heap.size w w1 → Calls Try.prog 47 #[.slice (some ⟨w1.heap.size, 0, none⟩) 3 3]
        (w1.alloc (.cells #[.slice (some ⟨b, o, none⟩) f c, .slice B m d, .slice (some ⟨b, o, none⟩) 0 0] 33)).drew
        fun e w' => ∃ v, e = .returned v ∧ w'.ownsRow w.heap.size 58 6 v (repl xs ys f c).length (items (repl xs ys f c)) ∧ Below w.heap.size w w') := fun w1 hb => by
      have h := replace_concat b o B n m c d f c xs ys w w1 hb X.out Y.out _ hAt hft htn hnc hm60 hw60
      rw [show n - c = 0 from by omega, show c - c = 0 from by omega] at h
      exact h
    go_enter Try.func27, Try.ntmps27
    go_wp2_with (first | (go_at_call 42; refine V1.out.mono ?_; rintro e w1 ⟨rfl, hb⟩; have B1 := Lib.hid hb; clear hb))
    go_region_with ((go_at_call 47; refine (CC.out _ B1.out).mono ?_; rintro e w2 ⟨v, rfl, ho, hb⟩; have O2 := Lib.hid ho; have B2 := Lib.hid hb; clear ho hb))
    all_goals
      obtain ⟨Av, cv, ev, hkc⟩ := own_shape O2.out
      subst ev
      have hrl := repl_len (xs := xs) (ys := ys) (f := f) (t := c) hft (by rw [HLx.out]; exact htn)
      have hrb : (repl xs ys f c).length ≤ 1048576 := by rw [hrl, HLy.out, HLx.out]; omega
      clear hrl
      have V2 := Lib.hid (implItems_any Av _ cv (repl xs ys f c) w2 (Rd.own O2.out) hrb)
      cases hvr : vItems (repl xs ys f c)
      · have HR : Hid (rOk xs ys f c = false) := by show _ = _; rw [rOk, hvr]; simp
        rw [hvr] at V2
        clear hvr
        go_wp2_with (first | (go_at_call 42; refine V2.out.mono ?_; rintro e w3 ⟨rfl, hb⟩; have B3 := Lib.hid (B2.out.trans (hb.mono B2.out.size)); clear hb))
        go_ret2
        exact BAD.out _ B3.out HR.out
      · have HR : Hid (rOk xs ys f c = true) := by show _ = _; rw [rOk, hvr, HV.out, HLx.out, HLy.out, decide_eq_true h8, decide_eq_true (show (f : Int) ≤ (c : Int) by omega), decide_eq_true h6, decide_eq_true hm60]; rfl
        rw [hvr] at V2
        clear hvr
        go_wp2_with (first | (go_at_call 42; refine V2.out.mono ?_; rintro e w3 ⟨rfl, hb⟩; have O3 := Lib.hid (own_below O2.out hb); have B3 := Lib.hid (B2.out.trans (hb.mono B2.out.size)); clear hb))
        go_ret2
        exact repl_yes HR.out O3.out B3.out
end Go.Proofs.Ytjkmjgjpkneckaa
