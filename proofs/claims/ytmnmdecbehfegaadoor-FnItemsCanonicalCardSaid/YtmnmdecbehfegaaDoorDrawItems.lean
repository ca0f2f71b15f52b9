/-
  Contracts of the reference's generators of paragraphs: randomItems, anyItems, DrawCommonItems.
-/
import Derived.Test.YtmnmdecbehfegaaDoorReader
import Derived.Test.YtmnmdecbehfegaaDoorItems4
import Derived.Test.YtmnmdecbehfegaaDoorInts
namespace Go.Proofs.YtmnmdecbehfegaaDoor
open Go.RowKit
set_option linter.unusedVariables false

/-- A list of items in new memory, of lo to hi items; the reader has gone on by at most K. -/
def MadeIts (w : World) (B g : Nat) (A : Option Addr) (n c : Nat) (bs : List Int) (p K lo hi : Nat) (e : Ending) (w' : World) : Prop :=
  ∃ L m d xs p', e = .returned (.slice L m d) ∧ lo ≤ m ∧ m ≤ hi ∧ w'.ownsRow w.heap.size 29 6 (.slice L m d) m (items xs) ∧ p' ≤ p + K ∧ RdrAt w' B g A n c bs p' ∧ w.grownBy w' (some g)

def ItsDraw (w : World) (B g : Nat) (A : Option Addr) (n c : Nat) (bs : List Int) (p : Nat) (v i : Value) (wr : World) : Prop :=
  ∃ (k m : Nat) (xs : List It) (p' : Nat), i = .int .i64 k ∧ m + 2 * k ≤ 20 ∧ wr.ownsRow w.heap.size 29 6 v m (items xs) ∧ p' + 6 * k ≤ p + 62 ∧ RdrAt wr B g A n c bs p' ∧ w.grownBy wr (some g)

theorem rel_appI {w wr w1 : World} {B g : Nat} {A : Option Addr} {n c : Nat} {bs : List Int} {p' m : Nat} {v v' : Value} {xs : List It} {o : Obj} {x : It}
    (hgs : g < w.heap.size) (hB : B ≤ w.heap.size) (hown : wr.ownsRow w.heap.size 29 6 v m (items xs)) (hr : RdrAt wr B g A n c bs p') (hg : w.grownBy wr (some g))
    (h1 : w1.ownsRow w.heap.size 29 6 v' (m + 1) (items xs ++ [.int .i64 x.k, .int .i64 x.w, .int .i64 x.st, .int .i64 x.sh, .int .i64 x.p, .bool x.f])) (h2 : (wr.alloc o).grownBy w1 v.ownBlock) :
    w1.ownsRow w.heap.size 29 6 v' (m + 1) (items (xs ++ [x])) ∧ RdrAt w1 B g A n c bs p' ∧ w.grownBy w1 (some g) := by
  have hrow : ∀ k, v.ownBlock = some k → w.heap.size ≤ k := fun k hk => (hown.lt k hk).1
  exact ⟨by simpa [items, It.cells] using h1, (hr.alloc o).grown h2 (fun k hk => Nat.le_trans hB (hrow k hk)), gr_own (gr_alloc hg o) h2 (fun k hk => .inl (hrow k hk))⟩

theorem rel_appI2 {w wr w1 : World} {B g : Nat} {A : Option Addr} {n c : Nat} {bs : List Int} {p' m : Nat} {v v' : Value} {xs : List It} {o : Obj} {x y : It}
    (hgs : g < w.heap.size) (hB : B ≤ w.heap.size) (hown : wr.ownsRow w.heap.size 29 6 v m (items xs)) (hr : RdrAt wr B g A n c bs p') (hg : w.grownBy wr (some g))
    (h1 : w1.ownsRow w.heap.size 29 6 v' (m + 2) (items xs ++ [.int .i64 x.k, .int .i64 x.w, .int .i64 x.st, .int .i64 x.sh, .int .i64 x.p, .bool x.f, .int .i64 y.k, .int .i64 y.w, .int .i64 y.st, .int .i64 y.sh, .int .i64 y.p, .bool y.f])) (h2 : (wr.alloc o).grownBy w1 v.ownBlock) :
    w1.ownsRow w.heap.size 29 6 v' (m + 2) (items (xs ++ [x, y])) ∧ RdrAt w1 B g A n c bs p' ∧ w.grownBy w1 (some g) := by
  have hrow : ∀ k, v.ownBlock = some k → w.heap.size ≤ k := fun k hk => (hown.lt k hk).1
  exact ⟨by simpa [items, It.cells] using h1, (hr.alloc o).grown h2 (fun k hk => Nat.le_trans hB (hrow k hk)), gr_own (gr_alloc hg o) h2 (fun k hk => .inl (hrow k hk))⟩

set_option maxHeartbeats 8000000 in
theorem randomItems_any (w : World) (B g : Nat) (A : Option Addr) (n c : Nat) (bs : List Int) (p : Nat) (hr : RdrAt w B g A n c bs p) (hp : p ≤ 900000) :
    Calls Tryd.prog 60 #[.pointer (some ⟨g, 0, none⟩)] w (MadeIts w B g A n c bs p 70 1 23) := by
  have hgs : g < w.heap.size := hr.blk.lt
  have hB := hr.size
  have Ra := Lib.hid (hr.alloc (.cells #[] 29))
  clear hr
  have Oa : Hid ((w.alloc (.cells #[] 29)).ownsRow w.heap.size 29 6 (.slice (some ⟨w.heap.size, 0, none⟩) 0 0) 0 (items [])) :=
    ⟨by simp [items], .inr ⟨w.heap.size, 0, #[], rfl, Nat.le_refl _, heap_alloc_new w _, Nat.le_refl _, by unfold maxLen; omega, rfl, rfl⟩⟩
  have Ga := Lib.hid (gr_alloc (World.grownBy.refl w (some g)) (.cells #[] 29))
  go_enter Tryd.func60, Tryd.ntmps60
  go_wp2_with fail
  refine (pick_gr _ B g A n c bs _ 11 Ra.out (by omega) (by omega)).mono ?_
  rintro e wb ⟨vb, rfl, hpb, hqb, _, hR, hG⟩
  have Rb := Lib.hid hR
  have Ob := Lib.hid (own_gr Oa.out hG hgs)
  have Gb := Lib.hid (gr_trans Ga.out hG)
  have hzb := (gr_trans Ga.out hG).size
  clear hR hG
  have hqb' := hqb (by omega)
  obtain ⟨k0, rfl⟩ := Int.eq_ofNat_of_zero_le hpb
  clear hqb
  go_wp2_with fail
  go_loopw [3, 4] (ItsDraw w B g A n c bs p) (fun _ i _ => (intOf i).toNat)
  case atStart => exact ⟨k0, 0, [], p + 1, rfl, by omega, Ob.out, by omega, Rb.out, Gb.out⟩
  case round =>
    obtain ⟨k, m, xs, p', rfl, hmk, hown, hp', hrr, hgr⟩ := hrel
    have Oc := Lib.hid hown
    have Rc := Lib.hid hrr
    have Gc := Lib.hid hgr
    clear hown hrr hgr Ra Oa Ga Rb Ob Gb
    by_cases hk : 0 < k
    case neg =>
      have hk' : ¬ (0 : Int) < (k : Int) := by omega
      go_wp2_with fail
      refine (pick_gr _ B g A n c bs _ 3 Rc.out (by omega) (by omega)).mono ?_
      rintro e wd ⟨vd, rfl, hpd, hqd, _, hR, hG⟩
      have Rd := Lib.hid hR
      have Od := Lib.hid (own_gr Oc.out hG hgs)
      have Gd := Lib.hid (gr_trans Gc.out hG)
      have hzd := (gr_trans Gc.out hG).size
      clear hR hG
      by_cases hv : 0 < vd
      · go_wp2_with (first
          | (at_builtin
             refine app_lit elemItem rfl (.tmp 65) (.tmp 69) rfl Od.out _ _ [.int .i64 3, .int .i64 0, .int .i64 0, .int .i64 0, .int .i64 1000, .bool false, .int .i64 2, .int .i64 0, .int .i64 1000, .int .i64 0, .int .i64 0, .bool false] rfl rfl rfl (by simp [Value.oneCell']) (by omega) hzd ?_
             intro ue xe ho hg
             have hrel := rel_appI2 (x := ⟨3, 0, 0, 0, 1000, false⟩) (y := ⟨2, 0, 1000, 0, 0, false⟩) hgs hB Od.out Rd.out Gd.out ho hg
             have Re := Lib.hid hrel.2.1
             have Oe := Lib.hid hrel.1
             have Ge := Lib.hid hrel.2.2
             have hze := hrel.2.2.size
             clear hrel ho hg)
          | (at_builtin
             refine app_lit elemItem rfl (.tmp 71) (.tmp 73) rfl Oe.out _ _ [.int .i64 3, .int .i64 0, .int .i64 0, .int .i64 0, .int .i64 (-1000), .bool false] rfl rfl rfl (by simp [Value.oneCell']) (by omega) hze ?_
             intro uf xf ho hg
             have hrel := rel_appI (x := ⟨3, 0, 0, 0, -1000, false⟩) hgs hB Oe.out Re.out Ge.out ho hg
             have Rf := Lib.hid hrel.2.1
             have Of := Lib.hid hrel.1
             have Gf := Lib.hid hrel.2.2
             clear hrel ho hg))
        obtain ⟨L, d, hs, hmd⟩ := own_shape Of.out
        subst hs
        go_ret
        exact ⟨L, _, d, _, _, rfl, by omega, by omega, Of.out, by omega, Rf.out, Gf.out⟩
      · go_wp2_with (at_builtin; refine app_lit elemItem rfl (.tmp 71) (.tmp 73) rfl Od.out _ _ [.int .i64 3, .int .i64 0, .int .i64 0, .int .i64 0, .int .i64 (-1000), .bool false] rfl rfl rfl (by simp [Value.oneCell']) (by omega) hzd ?_; intro uf xf ho hg)
        have hrel := rel_appI (x := ⟨3, 0, 0, 0, -1000, false⟩) hgs hB Od.out Rd.out Gd.out ho hg
        obtain ⟨L, d, hs, hmd⟩ := own_shape hrel.1
        subst hs
        have HF := Lib.hid hrel
        clear hrel ho hg
        go_wp2_with fail
        go_ret
        exact ⟨L, _, d, _, _, rfl, by omega, by omega, HF.out.1, by omega, HF.out.2.1, HF.out.2.2⟩
    have hk' : (0 : Int) < (k : Int) := by omega
    go_wp2_with fail
    refine (pick_gr _ B g A n c bs _ 12 Rc.out (by omega) (by omega)).mono ?_
    rintro e wd ⟨vd, rfl, hpd, hqd, _, hR, hG⟩
    have Rd := Lib.hid hR
    have Od := Lib.hid (own_gr Oc.out hG hgs)
    have Gd := Lib.hid (gr_trans Gc.out hG)
    have hzd := (gr_trans Gc.out hG).size
    clear hR hG
    have hqd' := hqd (by omega)
    clear hqd
    go_wp2_with (at_builtin; refine app_lit elemItem rfl _ _ rfl Od.out _ _ [.int .i64 ((1 : Int)), .int .i64 (2 + vd), .int .i64 (0), .int .i64 (0), .int .i64 (0), .bool (false)] rfl rfl rfl (by simp [Value.oneCell']) (by omega) hzd ?_; intro ue xe ho hg)
    have hrel := rel_appI (x := ⟨(1 : Int), 2 + vd, 0, 0, 0, false⟩) hgs hB Od.out Rd.out Gd.out ho hg
    have Re := Lib.hid hrel.2.1
    have Oe := Lib.hid hrel.1
    have Ge := Lib.hid hrel.2.2
    have hze := hrel.2.2.size
    clear hrel ho hg
    go_wp2_with fail
    refine (pick_gr _ B g A n c bs _ 8 Re.out (by omega) (by omega)).mono ?_
    rintro e wf ⟨vf, rfl, hpf, hqf, _, hR, hG⟩
    have Rf := Lib.hid hR
    have Of := Lib.hid (own_gr Oe.out hG hgs)
    have Gf := Lib.hid (gr_trans Ge.out hG)
    have hzf := (gr_trans Ge.out hG).size
    clear hR hG
    have hqf' := hqf (by omega)
    clear hqf
    by_cases s0 : vf = 0
    · subst s0
      go_wp2_with fail
      refine (pick_gr _ B g A n c bs _ 3 Rf.out (by omega) (by omega)).mono ?_
      rintro e wh ⟨vh, rfl, hph, hqh, _, hR, hG⟩
      have Rh := Lib.hid hR
      have Oh := Lib.hid (own_gr Of.out hG hgs)
      have Gh := Lib.hid (gr_trans Gf.out hG)
      have hzh := (gr_trans Gf.out hG).size
      clear hR hG
      go_wp2_with fail
      refine (one_lit _ B g A n c bs _ [50, 0, -50, 1000, 200] _ 5 5 rfl Rh.out (by omega) rfl (by omega) (by omega) _).mono ?_
      rintro e wi ⟨vi, rfl, _, hR, hG⟩
      have Ri := Lib.hid hR
      have Oi := Lib.hid (own_gr Oh.out hG hgs)
      have Gi := Lib.hid (gr_trans Gh.out hG)
      have hzi := (gr_trans Gh.out hG).size
      clear hR hG
      go_wp2_with fail
      refine (pick_gr _ B g A n c bs _ 2 Ri.out (by omega) (by omega)).mono ?_
      rintro e wj ⟨vj, rfl, hpj, hqj, _, hR, hG⟩
      have Rj := Lib.hid hR
      have Oj := Lib.hid (own_gr Oi.out hG hgs)
      have Gj := Lib.hid (gr_trans Gi.out hG)
      have hzj := (gr_trans Gi.out hG).size
      clear hR hG
      go_wp2_with (at_builtin; refine app_lit elemItem rfl _ _ rfl Oj.out _ _ [.int .i64 ((3 : Int)), .int .i64 (vh), .int .i64 (0), .int .i64 (0), .int .i64 (vi), .bool (vj == 0)] rfl rfl rfl (by simp [Value.oneCell']) (by omega) hzj ?_; intro ul xl ho hg)
      have hrel := rel_appI (x := ⟨(3 : Int), vh, 0, 0, vi, vj == 0⟩) hgs hB Oj.out Rj.out Gj.out ho hg
      have Rl := Lib.hid hrel.2.1
      have Ol := Lib.hid hrel.1
      have Gl := Lib.hid hrel.2.2
      have hzl := hrel.2.2.size
      clear hrel ho hg
      go_wp2_with fail
      go_roundw
      case rel => exact ⟨k - 1, _, _, _, by rw [show ((k - 1 : Nat) : Int) = (k : Int) - 1 from by omega], by omega, Ol.out, by omega, Rl.out, Gl.out⟩
      case measure => simp [intOf] <;> omega
    have s0' : (vf == 0) = false := by simpa using s0
    by_cases s1 : vf = 1
    · subst s1
      go_wp2_with fail
      refine (one_lit _ B g A n c bs _ [-1000, 1000, 10] _ 3 3 rfl Rf.out (by omega) rfl (by omega) (by omega) _).mono ?_
      rintro e wh ⟨vh, rfl, _, hR, hG⟩
      have Rh := Lib.hid hR
      have Oh := Lib.hid (own_gr Of.out hG hgs)
      have Gh := Lib.hid (gr_trans Gf.out hG)
      have hzh := (gr_trans Gf.out hG).size
      clear hR hG
      go_wp2_with (at_builtin; refine app_lit elemItem rfl _ _ rfl Oh.out _ _ [.int .i64 ((3 : Int)), .int .i64 (0), .int .i64 (0), .int .i64 (0), .int .i64 (vh), .bool (false)] rfl rfl rfl (by simp [Value.oneCell']) (by omega) hzh ?_; intro ul xl ho hg)
      have hrel := rel_appI (x := ⟨(3 : Int), 0, 0, 0, vh, false⟩) hgs hB Oh.out Rh.out Gh.out ho hg
      have Rl := Lib.hid hrel.2.1
      have Ol := Lib.hid hrel.1
      have Gl := Lib.hid hrel.2.2
      have hzl := hrel.2.2.size
      clear hrel ho hg
      go_wp2_with fail
      go_roundw
      case rel => exact ⟨k - 1, _, _, _, by rw [show ((k - 1 : Nat) : Int) = (k : Int) - 1 from by omega], by omega, Ol.out, by omega, Rl.out, Gl.out⟩
      case measure => simp [intOf] <;> omega
    have s1' : (vf == 1) = false := by simpa using s1
    clear s0 s1
    go_wp2_with fail
    refine (pick_gr _ B g A n c bs _ 3 Rf.out (by omega) (by omega)).mono ?_
    rintro e wh ⟨vh, rfl, hph, hqh, _, hR, hG⟩
    have Rh := Lib.hid hR
    have Oh := Lib.hid (own_gr Of.out hG hgs)
    have Gh := Lib.hid (gr_trans Gf.out hG)
    have hzh := (gr_trans Gf.out hG).size
    clear hR hG
    have hqh' := hqh (by omega)
    clear hqh
    go_wp2_with fail
    refine (pick_gr _ B g A n c bs _ 5 Rh.out (by omega) (by omega)).mono ?_
    rintro e wi ⟨vi, rfl, hpi, hqi, _, hR, hG⟩
    have Ri := Lib.hid hR
    have Oi := Lib.hid (own_gr Oh.out hG hgs)
    have Gi := Lib.hid (gr_trans Gh.out hG)
    have hzi := (gr_trans Gh.out hG).size
    clear hR hG
    go_wp2_with fail
    refine (pick_gr _ B g A n c bs _ _ Ri.out (by omega) (by omega)).mono ?_
    rintro e wj ⟨vj, rfl, hpj, hqj, _, hR, hG⟩
    have Rj := Lib.hid hR
    have Oj := Lib.hid (own_gr Oi.out hG hgs)
    have Gj := Lib.hid (gr_trans Gi.out hG)
    have hzj := (gr_trans Gi.out hG).size
    clear hR hG
    go_wp2_with (at_builtin; refine app_lit elemItem rfl _ _ rfl Oj.out _ _ [.int .i64 ((2 : Int)), .int .i64 (2 + vh), .int .i64 (vi), .int .i64 (vj), .int .i64 (0), .bool (false)] rfl rfl rfl (by simp [Value.oneCell']) (by omega) hzj ?_; intro ul xl ho hg)
    have hrel := rel_appI (x := ⟨(2 : Int), 2 + vh, vi, vj, 0, false⟩) hgs hB Oj.out Rj.out Gj.out ho hg
    have Rl := Lib.hid hrel.2.1
    have Ol := Lib.hid hrel.1
    have Gl := Lib.hid hrel.2.2
    have hzl := hrel.2.2.size
    clear hrel ho hg
    go_wp2_with fail
    go_roundw
    case rel => exact ⟨k - 1, _, _, _, by rw [show ((k - 1 : Nat) : Int) = (k : Int) - 1 from by omega], by omega, Ol.out, by omega, Rl.out, Gl.out⟩
    case measure => simp [intOf] <;> omega

theorem flat_take {α : Type} (f : α → List Value) (s : Nat) (hs : ∀ x, (f x).length = s) : ∀ (l : List α) (k : Nat), (l.flatMap f).take (k * s) = (l.take k).flatMap f
  | l, 0 => by simp
  | [], k + 1 => by simp
  | x :: l, k + 1 => by
    have ih := flat_take f s hs l k
    rw [List.flatMap_cons, List.take_append, hs, List.take_of_length_le (by rw [hs, Nat.add_mul]; omega), show (k + 1) * s - s = k * s from by rw [Nat.add_mul]; omega, ih, List.take_succ_cons, List.flatMap_cons]

theorem flat_set1 {α : Type} (f : α → List Value) (s : Nat) (hs : ∀ x, (f x).length = s) (h0 : 0 < s) (l : List α) (k j : Nat) (x x' : α) (v : Value) (hx : l[k]? = some x) (hj : j < s) (hf : f x' = (f x).set j v) :
    (l.flatMap f).set (k * s + j) v = (l.set k x').flatMap f := by
  have hk := (List.getElem?_eq_some_iff.1 hx).1
  have hl := flat_length f s hs l
  have hq : (k * s + j) / s = k := by rw [Nat.mul_comm, Nat.mul_add_div h0, Nat.div_eq_of_lt hj]; omega
  have hks : k * s + s ≤ l.length * s := by have := Nat.mul_le_mul_right s (Nat.succ_le_of_lt hk); rw [Nat.succ_mul] at this; exact this
  refine flat_set f s hs h0 l k x' hk _ (by simp [hl]) (fun i hi => ?_) (fun i hi => ?_)
  · exact List.getElem?_set_ne (fun e => hi (by rw [← e]; exact hq))
  · rw [hf]
    by_cases hij : i = j
    · subst hij
      rw [List.getElem?_set_self (by rw [hl]; omega), List.getElem?_set_self (by rw [hs]; exact hi)]
    · rw [List.getElem?_set_ne (by omega), List.getElem?_set_ne (fun e => hij e.symm)]
      exact flat_get f s hs l k i x hx hi

theorem own_take {w : World} {base : Nat} {E : TypeId} {size g n c : Nat} {xs : List Value} (h : w.ownsRow base E size (.slice (some ⟨g, 0, none⟩) n c) n xs) {k : Nat} (hk : k ≤ n) :
    w.ownsRow base E size (.slice (some ⟨g, 0, none⟩) k c) k (xs.take (k * size)) := by
  have hm : k * size ≤ n * size := Nat.mul_le_mul_right _ hk
  refine ⟨by rw [List.length_take, h.1]; omega, ?_⟩
  rcases h.2 with ⟨h1, _⟩ | ⟨g', cap, cur, hv, hg, hh, hn, hc, hz, hx⟩
  · cases h1
  · injection hv with h1 h2 h3
    injection h1 with h1
    injection h1 with h1 h4
    subst h1; subst h3
    exact .inr ⟨g, c, cur, rfl, hg, hh, by omega, hc, hz, by rw [← hx, List.take_take, Nat.min_eq_left hm]⟩

theorem own_addr {w : World} {base : Nat} {E : TypeId} {size : Nat} {L : Option Addr} {n c : Nat} {xs : List Value} (h : w.ownsRow base E size (.slice L n c) n xs) (hn : 0 < n) :
    ∃ g, L = some ⟨g, 0, none⟩ ∧ base ≤ g ∧ n ≤ c ∧ c ≤ maxLen := by
  rcases h.2 with ⟨_, h1⟩ | ⟨g', cap, cur, hv, hg, hh, hn', hc, hz, hx⟩
  · omega
  · injection hv with h1 h2 h3
    subst h1; subst h3
    exact ⟨g', rfl, hg, hn', hc⟩

theorem own_slice0 {w : World} {base : Nat} {E : TypeId} {size : Nat} {L : Option Addr} {n c : Nat} {xs : List Value} (h : w.ownsRow base E size (.slice L n c) n xs) : n ≤ c := by
  obtain ⟨A, c', e, hn⟩ := own_shape h
  injection e with _ _ e
  omega

theorem items_set (xs : List It) (k j : Nat) (x x' : It) (v : Value) (hx : xs[k]? = some x) (hj : j < 6) (hf : x'.cells = x.cells.set j v) : (items xs).set (k * 6 + j) v = items (xs.set k x') :=
  flat_set1 It.cells 6 It.cells_length (by omega) xs k j x x' v hx hj hf
theorem items_set0 (xs : List It) (k : Nat) (x x' : It) (v : Value) (hx : xs[k]? = some x) (hf : x'.cells = x.cells.set 0 v) : (items xs).set (k * 6) v = items (xs.set k x') :=
  items_set xs k 0 x x' v hx (by omega) hf

/-- A store into a list of the call's own: the reader stays as it is. -/
theorem its_store {w wr : World} {B g : Nat} {A : Option Addr} {n c : Nat} {bs : List Int} {p gl m d : Nat} {xs : List It} (hB : B ≤ w.heap.size)
    (ho : wr.ownsRow w.heap.size 29 6 (.slice (some ⟨gl, 0, none⟩) m d) m (items xs)) (hr : RdrAt wr B g A n c bs p) (hg : w.grownBy wr (some g)) (i : Nat) (u : Value) (hgl : w.heap.size ≤ gl) :
    (wr.setCell ⟨gl, i, none⟩ u).ownsRow w.heap.size 29 6 (.slice (some ⟨gl, 0, none⟩) m d) m ((items xs).set i u) ∧ RdrAt (wr.setCell ⟨gl, i, none⟩ u) B g A n c bs p ∧ w.grownBy (wr.setCell ⟨gl, i, none⟩ u) (some g) :=
  ⟨(ho.stored i u).1, hr.grown (gr_set0 wr gl i u) (fun k hk => by injection hk with hk; omega), gr_own hg (gr_set0 wr gl i u) (fun k hk => .inl (by injection hk with hk; omega))⟩

set_option maxHeartbeats 8000000 in
theorem anyItems_any (w : World) (B g : Nat) (A : Option Addr) (n c : Nat) (bs : List Int) (p : Nat) (hr : RdrAt w B g A n c bs p) (hp : p ≤ 900000) :
    Calls Tryd.prog 51 #[.pointer (some ⟨g, 0, none⟩)] w (MadeIts w B g A n c bs p 73 0 23) := by
  have hgs : g < w.heap.size := hr.blk.lt
  have hB := hr.size
  have HR := Lib.hid hr
  clear hr
  go_enter Tryd.func51, Tryd.ntmps51
  go_wp2_with fail
  refine (randomItems_any w B g A n c bs p HR.out hp).mono ?_
  rintro e w1 ⟨L, m, d, xs, p1, rfl, hm1, hm2, hown, hp1, hR, hG⟩
  obtain ⟨gl, rfl, hgl, hmd, hdm⟩ := own_addr hown (by omega)
  have Ra := Lib.hid hR
  have Oa := Lib.hid hown
  have Ga := Lib.hid hG
  clear hR hown hG
  go_wp2_with fail
  refine (pick_gr _ B g A n c bs _ (m : Int) Ra.out (by omega) (by omega)).mono ?_
  rintro e w2 ⟨v, rfl, hv0, hv1, _, hR, hG⟩
  have Rb := Lib.hid hR
  have Ob := Lib.hid (own_gr Oa.out hG hgs)
  have Gb := Lib.hid (gr_trans Ga.out hG)
  clear hR hG
  have hv1' := hv1 (by omega)
  clear hv1
  obtain ⟨k, rfl⟩ := Int.eq_ofNat_of_zero_le hv0
  have hkm : k < m := by omega
  have hxk : ∃ x, xs[k]? = some x := ⟨xs[k]'(by rw [(Rd.own Ob.out).item_len]; exact hkm), List.getElem?_eq_getElem _⟩
  obtain ⟨x, hx⟩ := hxk
  have HX := Lib.hid hx
  clear hx
  have hm6 : k * 6 + 6 ≤ m * 6 := by omega
  go_wp2_with fail
  refine (pick_gr _ B g A n c bs _ 22 Rb.out (by omega) (by omega)).mono ?_
  rintro e w3 ⟨u, rfl, hu0, hu1, _, hR, hG⟩
  have Rc := Lib.hid hR
  have Oc := Lib.hid (own_gr Ob.out hG hgs)
  have Gc := Lib.hid (gr_trans Gb.out hG)
  clear hR hG Ra Oa Ga Rb Ob Gb hu1 hu0
  by_cases s0 : u = 0
  · subst s0
    go_wp2_with fail
    refine (one_lit _ B g A n c bs _ [0, 4, 1, 2] _ 4 4 rfl Rc.out (by omega) rfl (by omega) (by omega) _).mono ?_
    rintro e w4 ⟨z, rfl, _, hR, hG⟩
    have Rd := Lib.hid hR
    have Od := Lib.hid (own_gr Oc.out hG hgs)
    have Gd := Lib.hid (gr_trans Gc.out hG)
    clear hR hG
    have d0 : w4.cell? ⟨gl, k * 6, none⟩ = some (.int .i64 x.k) := by rw [Od.out.cellAt _ (by omega)]; exact flat_get It.cells 6 It.cells_length xs k 0 x HX.out (by omega)
    have f0 := Od.out.frozenAt (k * 6)
    have ST := Lib.hid (its_store hB Od.out Rd.out Gd.out (k * 6) (.int .i64 z) hgl)
    go_wp2_with fail
    go_ret
    exact ⟨_, m, d, xs.set k { x with k := z }, _, rfl, by omega, by omega, by have h := ST.out.1; rw [items_set0 xs k x { x with k := z } _ HX.out rfl] at h; exact h, by omega, ST.out.2.1, ST.out.2.2⟩
  have s0' : (u == 0) = false := by simpa using s0
  by_cases s1 : u = 1
  · subst s1
    go_wp2_with fail
    refine (one_lit _ B g A n c bs _ [-1, 1001, 1000] _ 3 3 rfl Rc.out (by omega) rfl (by omega) (by omega) _).mono ?_
    rintro e w4 ⟨z, rfl, _, hR, hG⟩
    have Rd := Lib.hid hR
    have Od := Lib.hid (own_gr Oc.out hG hgs)
    have Gd := Lib.hid (gr_trans Gc.out hG)
    clear hR hG
    have d0 : w4.cell? ⟨gl, k * 6 + 1, none⟩ = some (.int .i64 x.w) := by rw [Od.out.cellAt _ (by omega)]; exact flat_get It.cells 6 It.cells_length xs k 1 x HX.out (by omega)
    have f0 := Od.out.frozenAt (k * 6 + 1)
    have ST := Lib.hid (its_store hB Od.out Rd.out Gd.out (k * 6 + 1) (.int .i64 z) hgl)
    go_wp2_with fail
    go_ret
    exact ⟨_, m, d, xs.set k { x with w := z }, _, rfl, by omega, by omega, by have h := ST.out.1; rw [items_set xs k 1 x { x with w := z } _ HX.out (by omega) rfl] at h; exact h, by omega, ST.out.2.1, ST.out.2.2⟩
  have s1' : (u == 1) = false := by simpa using s1
  by_cases s2 : u = 2
  · subst s2
    go_wp2_with fail
    refine (one_lit _ B g A n c bs _ [1001, -1001, 5] _ 3 3 rfl Rc.out (by omega) rfl (by omega) (by omega) _).mono ?_
    rintro e w4 ⟨z, rfl, _, hR, hG⟩
    have Rd := Lib.hid hR
    have Od := Lib.hid (own_gr Oc.out hG hgs)
    have Gd := Lib.hid (gr_trans Gc.out hG)
    clear hR hG
    have d0 : w4.cell? ⟨gl, k * 6 + 4, none⟩ = some (.int .i64 x.p) := by rw [Od.out.cellAt _ (by omega)]; exact flat_get It.cells 6 It.cells_length xs k 4 x HX.out (by omega)
    have f0 := Od.out.frozenAt (k * 6 + 4)
    have ST := Lib.hid (its_store hB Od.out Rd.out Gd.out (k * 6 + 4) (.int .i64 z) hgl)
    go_wp2_with fail
    go_ret
    exact ⟨_, m, d, xs.set k { x with p := z }, _, rfl, by omega, by omega, by have h := ST.out.1; rw [items_set xs k 4 x { x with p := z } _ HX.out (by omega) rfl] at h; exact h, by omega, ST.out.2.1, ST.out.2.2⟩
  have s2' : (u == 2) = false := by simpa using s2
  by_cases s3 : u = 3
  · subst s3
    have e1 : ((m : Int) - 1) = ((m - 1 : Nat) : Int) := by omega
    have e2 : (0 : Int) ≤ (m : Int) - 1 := by omega
    have e3 : (m : Int) - 1 ≤ (d : Int) := by omega
    go_wp2_with fail
    go_ret
    refine ⟨some ⟨gl, 0, none⟩, m - 1, d, xs.take (m - 1), _, ?_, by omega, by omega, ?_, by omega, Rc.out, Gc.out⟩
    · simp [e1]
    · have h := own_take Oc.out (k := m - 1) (by omega)
      rw [items, flat_take It.cells 6 It.cells_length] at h
      exact h
  have s3' : (u == 3) = false := by simpa using s3
  go_wp2_with fail
  go_ret
  exact ⟨_, m, d, xs, _, rfl, by omega, by omega, Oc.out, by omega, Rc.out, Gc.out⟩
end Go.Proofs.YtmnmdecbehfegaaDoor
