/-
  slices.Insert into a list of numbers, at this program: the kit's contracts, put together for a list that the call itself has made.
-/
import Derived.Shelf.Spec.SlicesInsertGrow
import Derived.Test.YtdgmienljhaipaaCells
namespace Go.Proofs.Ytdgmienljhaipaa
open Go.RowKit
set_option linter.unusedVariables false

def insRen : Go.Shelf.Ren := ⟨fun | 21 => 28 | 27 => 34 | 28 => 35 | 35 => 38 | 39 => 39 | n => n, fun | 22 => 22 | 3 => 3 | 4 => 4 | 0 => 0 | n => n, fun n => n⟩
theorem insLays : Lays2.n21 Try.prog insRen := {
  mixed := by kernel_rfl
  f21 := Try.func28.trans (congrArg some (by kernel_rfl))
  f27 := Try.func34.trans (congrArg some (by kernel_rfl))
  f28 := Try.func35.trans (congrArg some (by kernel_rfl))
  f35 := Try.func38.trans (congrArg some (by kernel_rfl))
  f39 := Try.func39.trans (congrArg some (by kernel_rfl))
  t0 := Try.underlying0
  a0 := Try.isAgg0
  z0 := Try.sizeOf0
  v0 := Try.zeroValue0
  t3 := Try.underlying3
  a3 := Try.isAgg3
  z3 := Try.sizeOf3
  v3 := Try.zeroValue3
  t4 := Try.underlying4
  a4 := Try.isAgg4
  z4 := Try.sizeOf4
  v4 := Try.zeroValue4
  t22 := Try.underlying22
  a22 := Try.isAgg22
  z22 := Try.sizeOf22
  v22 := Try.zeroValue22
  i3 := infoInt }

/-- What a row of the call's own gives. -/
theorem own_block {w : World} {base g n c : Nat} {E : TypeId} {xs : List Value} (h : w.ownsRow base E 1 (.slice (some ⟨g, 0, none⟩) n c) n xs) :
    ∃ cur : Array Value, w.heap[g]? = some (.cells cur E (0, 0)) ∧ cur.size = c ∧ base ≤ g ∧ n ≤ c ∧ c ≤ maxLen ∧ xs.length = n := by
  have hl := h.1
  rcases h.2 with ⟨hv, _⟩ | ⟨g', cap, cur, hv, hg, hh, hn', hc, hz, hx⟩
  · cases hv
  injection hv with h1 _ h3
  injection h1 with h1
  injection h1 with h1
  subst h1; subst h3
  exact ⟨cur, hh, by omega, hg, hn', hc, by omega⟩
theorem grownCap_row {w : World} {n c : Nat} (h : n ≤ 1000) : n ≤ grownCap w n c 3 ∧ grownCap w n c 3 ≤ maxLen := ⟨grownCap_ge w _ _ _, grownCap_le_maxLen w n c _ (by unfold maxLen; omega)⟩
def InsRes (w : World) (B r m p : Nat) (zs ps : List Int) (e : Ending) (w' : World) : Prop :=
  ∃ L d, e = .returned (.slice L (r + m) d) ∧ w'.ownsRow B 3 1 (.slice L (r + m) d) (r + m) (insL (ints zs) (ints ps) p) ∧ Below B w w'

theorem insert_any (w : World) (B g h r c m pd p : Nat) (zs ps : List Int) (hr : w.ownsRow B 3 1 (.slice (some ⟨g, 0, none⟩) r c) r (ints zs)) (hp : w.ownsRow B 3 1 (.slice (some ⟨h, 0, none⟩) m pd) m (ints ps))
    (hne : h ≠ g) (hpr : p ≤ r) (hr1 : 1 ≤ r) (hm1 : 1 ≤ m) (hsm : r + m ≤ 1000) (hB : B ≤ w.heap.size) :
    Calls Try.prog 28 #[.slice (some ⟨g, 0, none⟩) r c, .int .i64 (p : Int), .slice (some ⟨h, 0, none⟩) m pd] w (InsRes w B r m p zs ps) := by
  obtain ⟨curR, hhR, hzR, hgR, hrc, hcm, hlR⟩ := own_block hr
  obtain ⟨curP, hhP, hzP, hgP, hmc, hpm, hlP⟩ := own_block hp
  have hc63 : c ≤ 9223372036854775807 := by unfold maxLen at hcm; omega
  have cR : ∀ j v, (ints zs)[j]? = some v → w.cell? ⟨g, 0 + j, none⟩ = some v := fun j v hj => by
    rw [Nat.zero_add, hr.cellAt j (by have := (List.getElem?_eq_some_iff.1 hj).1; omega)]; exact hj
  have cP : ∀ j v, (ints ps)[j]? = some v → w.cell? ⟨h, 0 + j, none⟩ = some v := fun j v hj => by
    rw [Nat.zero_add, hp.cellAt j (by have := (List.getElem?_eq_some_iff.1 hj).1; omega)]; exact hj
  have sR : ∀ j, j < c → (w.cell? ⟨g, j, none⟩).isSome = true := fun j hj => by
    rw [cell_of_row w g j curR _ (0, 0) hhR, Array.getElem?_eq_getElem (by omega)]; rfl
  rcases Nat.lt_or_ge c (r + m) with hroom | hroom
  · rcases Nat.lt_or_ge p r with hi | hi
    · refine (Any2.slices_Insert_int_grow insLays g 0 r c p h 0 m pd (ints zs) (ints ps) w hi (by omega) hrc hroom (by omega) hlR hlP cR cP (ints_one zs) (ints_one ps)).mono ?_
      rintro e w' ⟨rfl, hw⟩
      have hG := grownCap_row (w := w) (n := r + m) (c := c) hsm
      rw [show insRen.t 3 = 3 from rfl] at hw ⊢
      obtain ⟨G, hGe⟩ : ∃ G, G = grownCap w (r + m) c 3 := ⟨_, rfl⟩
      rw [← hGe] at hw hG ⊢
      have hpl := hlP
      rw [← hpl] at hw hG ⊢
      have hz0 : (Value.int .i64 0).cells.size = 1 := rfl
      have ho := own_grow (w := w) (W := w') (n := r) (p := p) (G := G) (E := 3) (xs := ints zs) (vs := ints ps) hlR hpr hG.1 hG.2 (by simp [Builtin.zeroCells, hz0]; omega) (fun j hj => by
        rw [Array.getElem?_append_left (by simp [Builtin.zeroCells, hz0]; omega), Array.getElem?_append_left (by simp; omega), List.getElem?_toArray, List.getElem?_take, if_pos hj]) hw
      exact ⟨_, _, rfl, own_base ho.1 hB, ho.2.mono hB⟩
    · obtain rfl : p = r := by omega
      refine (Any2.slices_Insert_int_end_grow insLays (some ⟨g, 0, none⟩) p c h 0 m pd (ints zs) (ints ps) w (by omega) hrc hroom (by omega) hlR hlP (fun e => by cases e) (fun a e j v hj => by injection e with e; subst e; rw [Addr.add_lit]; exact cR j v hj) cP (ints_one ps)).mono ?_
      rintro e w' ⟨rfl, hw⟩
      have hG := grownCap_row (w := w) (n := p + m) (c := c) hsm
      rw [show insRen.t 3 = 3 from rfl] at hw ⊢
      obtain ⟨G, hGe⟩ : ∃ G, G = grownCap w (p + m) c 3 := ⟨_, rfl⟩
      rw [← hGe] at hw hG ⊢
      have hpl := hlP
      rw [← hpl] at hw hG ⊢
      have hz0 : (Value.int .i64 0).cells.size = 1 := rfl
      have ho := own_endgrow (w := w) (n := p) (G := G) (E := 3) (xs := ints zs) (vs := ints ps) hlR hG.1 hG.2 (cur0 := (ints zs ++ ints ps).toArray ++ Builtin.zeroCells (Value.int .i64 0).cells (G - (p + (ints ps).length))) (by simp [Builtin.zeroCells, hz0]; omega) (fun j hj => by
        rw [Array.getElem?_append_left (by simp; omega), List.getElem?_toArray])
      rw [hw]
      exact ⟨_, _, rfl, own_base ho.1 hB, ho.2.mono hB⟩
  · rcases Nat.lt_or_ge p r with hi | hi
    · refine (Any2.slices_Insert_int_shift insLays g 0 r c p h 0 m pd (ints zs) (ints ps) w hi (by omega) hroom hc63 hne hlR hlP cR (fun j hj => by rw [Nat.zero_add]; exact sR j (by omega)) (fun j _ => hr.frozenAt _) cP (ints_one zs) (ints_one ps) 3 3 curP.size curR.size (by simp [World.shape?, hhP]) (by simp [World.shape?, hhR]) (by omega) (hp.frozenAt _) (hp.frozenAt _)).mono ?_
      rintro e w' ⟨rfl, hw⟩
      rw [Nat.zero_add, Nat.zero_add, ← hlP] at hw
      have ho := own_shift hB hr hpr (by rw [hlP]; exact hroom) hw
      rw [hlP] at ho
      exact ⟨_, _, rfl, ho.1, (Below.refl _ _).grown ho.2 hB (fun k hk => by injection hk with hk; omega)⟩
    · obtain rfl : p = r := by omega
      refine (Any2.slices_Insert_int_end_room insLays g 0 p c h 0 m pd (ints ps) w (by omega) hroom hc63 hlP (fun j hj => by rw [Nat.zero_add]; exact sR _ (by omega)) (fun j _ => hr.frozenAt _) cP (ints_one ps)).mono ?_
      rintro e w' ⟨rfl, hw⟩
      rw [Nat.zero_add] at hw
      have ho := own_endroom hr (vs := ints ps) (by rw [hlP]; exact hroom)
      rw [hlP, ← hw] at ho
      exact ⟨_, _, rfl, ho.1, (Below.refl _ _).grown ho.2 hB (fun k hk => by injection hk with hk; omega)⟩
end Go.Proofs.Ytdgmienljhaipaa
