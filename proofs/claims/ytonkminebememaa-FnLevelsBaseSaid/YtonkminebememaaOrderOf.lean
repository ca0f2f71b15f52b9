/-
  Contracts of OrderOf (program) and reorder (reference): the order in which characters are shown.
-/
import Derived.Test.YtonkminebememaaOrder
namespace Go.Proofs.Ytonkminebememaa
open Go.RowKit
set_option linter.unusedVariables false

def OrdRes (ls : List Int) (w : World) (e : Ending) (w' : World) : Prop :=
  ∃ A k c, e = .returned (.slice A k c) ∧ k = ls.length ∧ w'.ownsRow w.heap.size 3 1 (.slice A k c) k (ints (nats (ordL ls))) ∧ Below w.heap.size w w'
theorem RowIs.below {w : World} {g n d : Nat} {base : Nat} {xs : List Int} {wr : World} (h : RowIs w base g n d xs wr) (hg : w.heap.size ≤ g) : Below w.heap.size w wr :=
  (Below.refl _ _).grown h.2 (Nat.le_refl _) (fun k hk => by injection hk with hk; omega)
theorem take_snoc {α : Type} {l : List α} {k : Nat} {x : α} (h : l[k]? = some x) : l.take (k + 1) = l.take k ++ [x] := by
  rw [List.take_add_one, h]; rfl
theorem topL_snoc {ls : List Int} {k : Nat} {l : Int} (h : ls[k]? = some l) : topL (ls.take (k + 1)) = max (topL (ls.take k)) l.toNat := by
  unfold topL
  rw [take_snoc h, List.foldl_append]
  rfl
theorem topL_le {ls : List Int} {B : Nat} (h : ∀ l ∈ ls, l ≤ (B : Int)) : topL ls ≤ B := by
  unfold topL
  have : ∀ (l : List Int) (t : Nat), t ≤ B → (∀ x ∈ l, x ≤ (B : Int)) → l.foldl (fun t l => max t l.toNat) t ≤ B := by
    intro l
    induction l with
    | nil => intro t ht _; exact ht
    | cons x l ih =>
      intro t ht hx
      rw [List.foldl_cons]
      refine ih _ ?_ (fun y hy => hx y (by simp [hy]))
      have := hx x (by simp)
      omega
  exact this ls 0 (Nat.zero_le _) h
theorem topL_take_le {ls : List Int} {B : Nat} (h : ∀ l ∈ ls, l ≤ (B : Int)) (k : Nat) : topL (ls.take k) ≤ B := topL_le (fun l hl => h l (List.mem_of_mem_take hl))

def O1Rel (ls : List Int) (n : Nat) (w : World) (i t : Value) (wr : World) : Prop :=
  ∃ (k : Nat) (xs : List Int), k ≤ n ∧ i = .int .i64 (k : Int) ∧ t = .int .i64 ((topL (ls.take k) : Nat) : Int) ∧ RowIs w w.heap.size w.heap.size n n xs wr ∧ ∀ j, j < k → xs[j]? = some (j : Int)
/-- Between two passes. -/
def Mid (ls : List Int) (w : World) (g d : Nat) (lev : Nat) (out : List Nat) (wr : World) : Prop :=
  out.length = ls.length ∧ (∀ x ∈ out, x < ls.length) ∧ ordL ls = ordUp ls out lev ∧ RowIs w w.heap.size g ls.length d (nats out) wr
def O2Rel (ls : List Int) (w : World) (g d : Nat) (l : Value) (wr : World) : Prop :=
  ∃ (lev : Nat) (out : List Nat), lev ≤ 6 ∧ l = .int .i64 (lev : Int) ∧ Mid ls w g d lev out wr
def O3Rel (ls : List Int) (w : World) (g d v : Nat) (out : List Nat) (i : Value) (wr : World) : Prop :=
  ∃ (f : Nat) (ys : List Nat), f ≤ ls.length + 1 ∧ i = .int .i64 (f : Int) ∧ Pass (atL ls (v + 1)) out (min f ls.length) ys ∧ RowIs w w.heap.size g ls.length d (nats ys) wr
def O4Rel (ls : List Int) (v f : Nat) (ys : List Nat) (u : World) (i : Value) (wr : World) : Prop :=
  ∃ t q : Nat, f ≤ t ∧ t ≤ ls.length ∧ i = .int .i64 (t : Int) ∧ (∀ j y, f ≤ j → j < t → ys[j]? = some y → atL ls (v + 1) y = true) ∧ wr = u.drewN q
theorem atL_yes {ls : List Int} {n y : Nat} {l : Int} (h : ls[y]? = some l) (hl : (n : Int) ≤ l) : atL ls n y = true := by simp [atL, h, hl]
theorem atL_no {ls : List Int} {n y : Nat} {l : Int} (h : ls[y]? = some l) (hl : ¬ (n : Int) ≤ l) : atL ls n y = false := by simp [atL, h]; omega
theorem revd_out {xs : List Nat} {f m x : Nat} (h : f + m ≤ xs.length) (hx : f + m ≤ x) : (revd xs f m)[x]? = xs[x]? := by rw [revd_get h, if_neg (by omega)]
theorem Pass.next {p : Nat → Bool} {xs ys : List Nat} {f t n : Nat} (h : Pass p xs (min f n) ys) (hn : n = xs.length) (hf : f < n) (hft : f ≤ t) (ht : t ≤ n) (hp : ∀ j y, f ≤ j → j < t → ys[j]? = some y → p y = true) (hs : ∀ y, ys[t]? = some y → p y = false) :
    Pass p xs (min (t + 1) n) (revd ys f (t - f)) := by
  subst hn
  rw [Nat.min_eq_left (by omega)] at h
  have h1 := h.run hft ht hp hs
  rcases Nat.lt_or_ge t xs.length with h2 | h2
  · rw [Nat.min_eq_left (by omega)]
    exact h1.skip h2 (fun y hy => hs y (by rwa [revd_out (by have := h.1; omega) (by omega)] at hy))
  · rw [Nat.min_eq_right (by omega)]
    obtain rfl : t = xs.length := by omega
    exact h1

set_option maxHeartbeats 16000000 in
set_option maxRecDepth 20000 in
theorem implOrder_any (A : Option Addr) (n c : Nat) (ls : List Int) (w : World) (hx : Rd w 1 A n (ints ls)) (hn : n ≤ 60) (hl : ∀ l ∈ ls, 0 ≤ l ∧ l ≤ 6) :
    Calls Try.prog 16 #[.slice A n c] w (OrdRes ls w) := by
  have HL := Lib.hid hx.len
  have HX := Lib.hid hx
  have LB := Lib.hid hl
  have hmk := run_make_row' (P := Try.prog) 25 3 (.int .i64 0) 8 Try.underlying25 infoInt rfl .i64 .i64 n (by omega) (by omega)
  clear hx hl
  go_enter Try.func16, Try.ntmps16
  go_wp2_with fail
  go_loopw [18, 3] (O1Rel ls n w) (fun i _ _ => n - (intOf i).toNat)
  case atStart =>
    refine ⟨0, List.replicate n 0, Nat.zero_le _, rfl, rfl, ⟨?_, World.grownBy_alloc w _ _⟩, fun j h => absurd h (by omega)⟩
    have h := World.ownsRow_lit (base := w.heap.size) (e := 3) (size := 1) w (madeCells #[.int .i64 0] n) n (Nat.le_refl _) (by unfold maxLen; omega) (by rw [size_madeCells]; omega)
    rw [toList_madeCells_one] at h
    simpa [ints] using h
  case round =>
    obtain ⟨k, xs, hk, rfl, rfl, hrow, hxs⟩ := hrel
    clear hmk
    by_cases hlt : k < n
    case pos =>
      obtain ⟨b, o, l, rfl, el, hcl⟩ := HX.out.int_at hlt
      obtain ⟨hl0, hl1⟩ := LB.out l (List.mem_of_getElem? el)
      have hcl' := cell_below (hrow.below (Nat.le_refl _)) hcl
      have TB := Lib.hid (inB_true hl0 hl1)
      have TS := Lib.hid (topL_snoc el)
      have hxk : xs[k]? = some (xs[k]'(by rw [hrow.len]; exact hlt)) := List.getElem?_eq_getElem _
      obtain ⟨xk, exk⟩ : ∃ x, xs[k]? = some x := ⟨_, hxk⟩
      clear hxk
      have hcx := hrow.at exk
      have hfx := hrow.free k
      have RS := Lib.hid (hrow.set k (k : Int))
      have XS : Hid (∀ j, j < k + 1 → (xs.set k (k : Int))[j]? = some (j : Int)) := fun j hj => by
        rcases Nat.decEq k j with h | h
        · rw [List.getElem?_set_ne h]; exact hxs j (by omega)
        · subst h; rw [List.getElem?_set_self (by rw [hrow.len]; exact hlt)]
      obtain ⟨T, hT⟩ : ∃ T, T = topL (ls.take k) := ⟨_, rfl⟩
      rw [← hT] at TS ⊢
      have hlt' : (k : Int) < (n : Int) := by omega
      have hk0 : (0 : Int) ≤ (k : Int) := by omega
      obtain ⟨L, rfl⟩ := Int.eq_ofNat_of_zero_le hl0
      rw [Int.toNat_natCast] at TS
      clear hT hxs hrow exk el
      by_cases hm : L ≤ T
      · rw [Nat.max_eq_left hm] at TS
        have hm' : (L : Int) ≤ (T : Int) := by omega
        go_wp2_with (go_at_call 21; refine (within_any _ _ _ _ TB.out _).mono ?_; rintro e w' ⟨rfl, rfl⟩)
        go_roundw
        case rel => exact ⟨k + 1, _, by omega, by go_num, by rw [TS.out]; first | rfl | (congr 1; omega), RS.out, XS.out⟩
        case measure => simp [intOf] <;> omega
      · rw [Nat.max_eq_right (by omega)] at TS
        have hm' : (T : Int) ≤ (L : Int) := by omega
        have hm2 : (T : Int) < (L : Int) := by omega
        go_wp2_with (go_at_call 21; refine (within_any _ _ _ _ TB.out _).mono ?_; rintro e w' ⟨rfl, rfl⟩)
        go_roundw
        case rel => exact ⟨k + 1, _, by omega, by go_num, by rw [TS.out]; first | rfl | (congr 1; omega), RS.out, XS.out⟩
        case measure => simp [intOf] <;> omega
    case neg =>
      obtain rfl : k = n := by omega
      have hr2 := hrow
      have hxe : xs = nats (List.range k) := ext_upto (n := k) hrow.len (by simp [nats]) (fun j hj => by rw [hxs j hj]; simp [nats, hj])
      have htk : ls.take k = ls := List.take_of_length_le (by rw [HL.out]; exact Nat.le_refl _)
      have hn2 := HL.out
      subst hn2
      have MI : Hid (Mid ls w w.heap.size ls.length (topL ls) (List.range ls.length) wr) := ⟨by simp, fun x hx => by simpa using hx, rfl, hxe ▸ hrow⟩
      have hT6 : topL ls ≤ 6 := topL_le (B := 6) (fun l hl => (LB.out l hl).2)
      rw [htk]
      obtain ⟨T, hT⟩ : ∃ T, T = topL ls := ⟨_, rfl⟩
      rw [← hT] at MI hT6 ⊢
      clear hr2 hrow hxs hxe htk hT xs
      go_wp2_with fail
      go_loopw [7] (O2Rel ls w w.heap.size ls.length) (fun i _ => (intOf i).toNat)
      case atStart => exact ⟨T, _, hT6, rfl, MI.out⟩
      case round =>
        clear MI hT6
        obtain ⟨lev, out, hlev, rfl, hmid⟩ := hrel
        by_cases hl0 : lev = 0
        case pos =>
          subst hl0
          have MI := Lib.hid hmid
          clear hmid
          go_wp2_with fail
          go_ret
          refine ⟨_, _, _, rfl, rfl, ?_, MI.out.2.2.2.below (Nat.le_refl _)⟩
          rw [MI.out.2.2.1]
          exact MI.out.2.2.2.1
        obtain ⟨v, rfl⟩ : ∃ v, lev = v + 1 := ⟨lev - 1, by omega⟩
        obtain ⟨V, hV⟩ : ∃ V : Int, V = ((v + 1 : Nat) : Int) := ⟨_, rfl⟩
        rw [← hV]
        have HV := Lib.hid hV
        have hv0 : (0 : Int) < V := by omega
        have hv1 : V - 1 = (v : Int) := by omega
        have HVm : Hid ((intOf (.int .i64 V)).toNat = v + 1) := by show (intOf (.int .i64 V)).toNat = v + 1; simp [intOf]; omega
        clear hV
        have MI := Lib.hid hmid
        clear hmid
        go_wp2_with fail
        go_loopw [8] (O3Rel ls w w.heap.size ls.length v out) (fun i _ => ls.length + 1 - (intOf i).toNat)
        case atStart => exact ⟨0, out, by omega, rfl, by rw [Nat.zero_min]; exact Pass.start _ _, MI.out.2.2.2⟩
        case round =>
          obtain ⟨f, ys, hf, rfl, hps, hrow⟩ := hrel
          have PS := Lib.hid hps
          have RW := Lib.hid hrow
          clear hps hrow
          by_cases hfl : f < ls.length
          case neg =>
            have HM : Hid (Mid ls w w.heap.size ls.length v ys wr) := by
              have hp := PS.out
              rw [Nat.min_eq_right (by omega), ← MI.out.1] at hp
              have he := hp.done
              refine ⟨hp.1.trans MI.out.1, fun x hx => MI.out.2.1 x (hp.mem.mem_iff.1 hx), ?_, RW.out⟩
              rw [MI.out.2.2.1, he]
              rfl
            have hfl' : ¬ (f : Int) < (ls.length : Int) := by omega
            go_wp2_with fail
            go_roundw
            case rel => exact ⟨v, ys, by omega, by first | rfl | (congr 1; omega), HM.out⟩
            case measure => simp [intOf] <;> omega
          have hfl' : (f : Int) < (ls.length : Int) := by omega
          have hnf : ¬ ls.length = f := by omega
          obtain ⟨u, hu⟩ : ∃ u, u = wr := ⟨_, rfl⟩
          subst hu
          go_wp2_with fail
          go_loopw [9] (O4Rel ls v f ys u) (fun i _ => ls.length - (intOf i).toNat)
          case atStart => exact ⟨f, 0, Nat.le_refl _, by omega, rfl, fun j y h1 h2 => absurd h1 (by omega), rfl⟩
          case round =>
            obtain ⟨t, q, hft, ht, rfl, hpt, rfl⟩ := hrel
            have PT := Lib.hid hpt
            clear hpt
            have hyl : ys.length = ls.length := by rw [PS.out.1, MI.out.1]
            have hft' : (f : Int) ≤ (t : Int) := by omega
            have hf0 : (0 : Int) ≤ (f : Int) := by omega
            have ht' : (t : Int) ≤ (ls.length : Int) := by omega
            by_cases htl : t < ls.length
            case pos =>
              have htl' : (t : Int) < (ls.length : Int) := by omega
              have ht0 : (0 : Int) ≤ (t : Int) := by omega
              have hyt : ys[t]? = some (ys[t]'(by omega)) := List.getElem?_eq_getElem _
              obtain ⟨y, ey⟩ : ∃ y, ys[t]? = some y := ⟨_, hyt⟩
              clear hyt
              have hy : y < ls.length := MI.out.2.1 y (PS.out.mem.mem_iff.1 (List.mem_of_getElem? ey))
              have hcy := RW.out.at (nats_get ey)
              obtain ⟨b, o, l, rfl, el, hcl⟩ := HX.out.int_at hy
              have hcl' := cell_below (RW.out.below (Nat.le_refl _)) hcl
              have hy' : (y : Int) < (ls.length : Int) := by omega
              have hy0 : (0 : Int) ≤ (y : Int) := by omega
              by_cases hle : V ≤ l
              case pos =>
                have PT2 : Hid (∀ j y, f ≤ j → j < t + 1 → ys[j]? = some y → atL ls (v + 1) y = true) := fun j z h1 h2 h3 => by
                  rcases Nat.lt_or_ge j t with h | h
                  · exact PT.out j z h1 h h3
                  · obtain rfl : j = t := by omega
                    rw [ey] at h3
                    injection h3 with h3
                    subst h3
                    exact atL_yes el (by rw [← HV.out]; exact hle)
                clear ey el
                go_wp2_with fail
                go_roundw
                case rel => exact ⟨t + 1, _, by omega, by omega, by go_num, PT2.out, rfl⟩
                case measure => simp [intOf] <;> omega
              have hd : decide (V ≤ l) = false := decide_eq_false hle
              have HN : Hid (∀ z, ys[t]? = some z → atL ls (v + 1) z = false) := fun z h3 => by
                rw [ey] at h3
                injection h3 with h3
                subst h3
                exact atL_no el (by rw [← HV.out]; exact hle)
              clear ey el
              have RQ := Lib.hid (RW.out.drewN q)
              go_wp2_with fail
              refine (reverse_any w w.heap.size w.heap.size ls.length ls.length f (t - f) _ (nats ys) _ RQ.out (by omega) (by omega)).mono ?_
              rintro e w' ⟨rfl, hr⟩
              have HP := Lib.hid (PS.out.next (by rw [MI.out.1]) hfl hft ht PT.out HN.out)
              have HR := Lib.hid hr
              rw [nats_revd] at HR
              clear hr
              go_wp2_with fail
              go_roundw
              case rel => exact ⟨t + 1, _, by omega, by first | go_num | (congr 1; omega), HP.out, HR.out⟩
              case measure => simp [intOf] <;> omega
            have HTS : Hid (t = ls.length) := by show t = ls.length; omega
            have hd : decide ((t : Int) < (ls.length : Int)) = false := decide_eq_false (by omega)
            have htl' : ¬ (t : Int) < (ls.length : Int) := by omega
            have HN : Hid (∀ z, ys[t]? = some z → atL ls (v + 1) z = false) := fun z h3 => by
              rw [List.getElem?_eq_none (by omega)] at h3
              cases h3
            have RQ := Lib.hid (RW.out.drewN q)
            go_wp2_with fail
            refine (reverse_any w w.heap.size w.heap.size ls.length ls.length f (t - f) _ (nats ys) _ RQ.out (by omega) (by omega)).mono ?_
            rintro e w' ⟨rfl, hr⟩
            have HP := Lib.hid (PS.out.next (by rw [MI.out.1]) hfl hft ht PT.out HN.out)
            have HR := Lib.hid hr
            rw [nats_revd] at HR
            clear hr
            go_wp2_with fail
            go_roundw
            case rel => exact ⟨t + 1, _, by omega, by first | go_num | (congr 1; omega), HP.out, HR.out⟩
            case measure => simp [intOf] <;> omega
def R1Rel (ls : List Int) (w : World) (v t i : Value) (wr : World) : Prop :=
  ∃ k : Nat, k ≤ ls.length ∧ i = .int .i64 (k : Int) ∧ t = .int .i64 ((topL (ls.take k) : Nat) : Int) ∧ wr.ownsRow w.heap.size 3 1 v k (ints (nats (List.range k))) ∧ Below w.heap.size w wr
def R3Rel (ls : List Int) (w : World) (g d v : Nat) (out : List Nat) (i : Value) (wr : World) : Prop :=
  ∃ (f : Nat) (ys : List Nat), f ≤ ls.length ∧ i = .int .i64 (f : Int) ∧ Pass (atL ls (v + 1)) out f ys ∧ RowIs w w.heap.size g ls.length d (nats ys) wr
def R5Rel (w : World) (g n d f t : Nat) (xs : List Int) (i j : Value) (wr : World) : Prop :=
  ∃ (a : Nat) (ys : List Int), 2 * a ≤ (t - f) + 1 ∧ i = .int .i64 ((f : Int) + (a : Int)) ∧ j = .int .i64 ((t : Int) - 1 - (a : Int)) ∧ RevTo xs f (t - f) a ys ∧ RowIs w w.heap.size g n d ys wr

set_option maxHeartbeats 16000000 in
set_option maxRecDepth 20000 in
theorem reorder_any (A : Option Addr) (n c : Nat) (ls : List Int) (w : World) (hx : Rd w 1 A n (ints ls)) (hn : n ≤ 60) (hl : ∀ l ∈ ls, 0 ≤ l ∧ l ≤ 6) :
    Calls Try.prog 28 #[.slice A n c] w (OrdRes ls w) := by
  have hn2 := hx.len
  subst hn2
  have HX := Lib.hid hx
  have LB := Lib.hid hl
  clear hx hl
  go_enter Try.func28, Try.ntmps28
  go_wp2_with fail
  go_loopw [3, 4, 5] (R1Rel ls w) (fun _ _ i _ => ls.length - (intOf i).toNat)
  case atStart =>
    refine ⟨0, Nat.zero_le _, rfl, rfl, ?_, (Below.refl _ _).alloc (Nat.le_refl _) _⟩
    exact ⟨by simp [ints, nats], .inr ⟨w.heap.size, 0, #[], rfl, Nat.le_refl _, heap_alloc_new w _, Nat.le_refl _, by unfold maxLen; omega, rfl, rfl⟩⟩
  case round =>
    obtain ⟨k, hk, rfl, rfl, hown, hbel⟩ := hrel
    obtain ⟨L, d, hv, hnd⟩ := own_shape hown
    subst hv
    have O1 := Lib.hid hown
    have B1 := Lib.hid hbel
    clear hown hbel
    by_cases hlt : k < ls.length
    case pos =>
      have hlt' : (k : Int) < (ls.length : Int) := by omega
      have hk0 : (0 : Int) ≤ (k : Int) := by omega
      obtain ⟨b, o, l, rfl, el, hcl⟩ := HX.out.int_at hlt
      obtain ⟨hl0, hl1⟩ := LB.out l (List.mem_of_getElem? el)
      have TS := Lib.hid (topL_snoc el)
      obtain ⟨T, hT⟩ : ∃ T, T = topL (ls.take k) := ⟨_, rfl⟩
      rw [← hT] at TS ⊢
      obtain ⟨l, rfl⟩ := Int.eq_ofNat_of_zero_le hl0
      rw [Int.toNat_natCast] at TS
      have hsz := B1.out.size
      clear hT el
      by_cases hm : l ≤ T
      · rw [Nat.max_eq_left hm] at TS
        have hm' : (l : Int) ≤ (T : Int) := by omega
        go_wp2_with (first
          | (at_builtin
             refine app_lit elemInt rfl _ _ rfl O1.out _ _ [.int .i64 (k : Int)] rfl rfl rfl (by simp [Value.oneCell']) (by omega) hsz ?_
             intro v2 w2 ho2 hg2
             have O2 := Lib.hid ho2
             have B2 := Lib.hid (below_app (B1.out.alloc hsz _) hg2 O1.out (Nat.le_refl _))
             have hcl2 := cell_below B2.out hcl
             clear ho2 hg2))
        go_roundw
        case rel => exact ⟨k + 1, by omega, by go_num, by rw [TS.out]; first | rfl | (congr 1; omega), by simpa [ints, nats, List.range_succ] using O2.out, B2.out⟩
        case measure => simp [intOf] <;> omega
      · rw [Nat.max_eq_right (by omega)] at TS
        have hm' : (T : Int) ≤ (l : Int) := by omega
        go_wp2_with (first
          | (at_builtin
             refine app_lit elemInt rfl _ _ rfl O1.out _ _ [.int .i64 (k : Int)] rfl rfl rfl (by simp [Value.oneCell']) (by omega) hsz ?_
             intro v2 w2 ho2 hg2
             have O2 := Lib.hid ho2
             have B2 := Lib.hid (below_app (B1.out.alloc hsz _) hg2 O1.out (Nat.le_refl _))
             have hcl2 := cell_below B2.out hcl
             clear ho2 hg2))
        go_roundw
        case rel => exact ⟨k + 1, by omega, by go_num, by rw [TS.out]; first | rfl | (congr 1; omega), by simpa [ints, nats, List.range_succ] using O2.out, B2.out⟩
        case measure => simp [intOf] <;> omega
    obtain rfl : k = ls.length := by omega
    rw [List.take_of_length_le (Nat.le_refl _)]
    by_cases hn0 : ls.length = 0
    case pos =>
      have hle : ls = [] := List.eq_nil_of_length_eq_zero hn0
      subst hle
      go_wp2_with fail
      go_loopw [6] (fun i w' => i = .int .i64 0 ∧ w' = wr) (fun i _ => (intOf i).toNat)
      case atStart => exact ⟨rfl, rfl⟩
      case round =>
        obtain ⟨rfl, rfl⟩ := hrel
        go_wp2_with fail
        go_ret
        exact ⟨_, _, _, rfl, rfl, O1.out, B1.out⟩
    obtain ⟨g, hL, hg, _⟩ := own_headI O1.out (by omega)
    subst hL
    have MI : Hid (Mid ls w g d (topL ls) (List.range ls.length) wr) := ⟨by simp, fun x hx => by simpa using hx, rfl, O1.out, B1.out.os, B1.out.tape, B1.out.output, B1.out.size, fun k hk _ => B1.out.block k hk⟩
    have hT6 : topL ls ≤ 6 := topL_le (B := 6) (fun l hl => (LB.out l hl).2)
    obtain ⟨T, hT⟩ : ∃ T, T = topL ls := ⟨_, rfl⟩
    rw [← hT] at MI hT6 ⊢
    clear hT O1 B1
    go_wp2_with fail
    go_loopw [6] (O2Rel ls w g d) (fun i _ => (intOf i).toNat)
    case atStart => exact ⟨T, _, hT6, rfl, MI.out⟩
    case round =>
      clear MI hT6
      obtain ⟨lev, out, hlev, rfl, hmid⟩ := hrel
      by_cases hl0 : lev = 0
      case pos =>
        subst hl0
        have MI := Lib.hid hmid
        clear hmid
        go_wp2_with fail
        go_ret
        refine ⟨_, _, _, rfl, rfl, ?_, MI.out.2.2.2.below hg⟩
        rw [MI.out.2.2.1]
        exact MI.out.2.2.2.1
      obtain ⟨v, rfl⟩ : ∃ v, lev = v + 1 := ⟨lev - 1, by omega⟩
      obtain ⟨V, hV⟩ : ∃ V : Int, V = ((v + 1 : Nat) : Int) := ⟨_, rfl⟩
      rw [← hV]
      have HV := Lib.hid hV
      have hv0 : (0 : Int) < V := by omega
      have hv1 : V - 1 = (v : Int) := by omega
      have HVm : Hid ((intOf (.int .i64 V)).toNat = v + 1) := by show (intOf (.int .i64 V)).toNat = v + 1; simp [intOf]; omega
      clear hV
      have MI := Lib.hid hmid
      clear hmid
      go_wp2_with fail
      go_loopw [7] (R3Rel ls w g d v out) (fun i _ => ls.length + 1 - (intOf i).toNat)
      case atStart => exact ⟨0, out, by omega, rfl, Pass.start _ _, MI.out.2.2.2⟩
      case round =>
        obtain ⟨f, ys, hf, rfl, hps, hrow⟩ := hrel
        have PS := Lib.hid hps
        have RW := Lib.hid hrow
        clear hps hrow
        by_cases hfl : f < ls.length
        case neg =>
          have HM : Hid (Mid ls w g d v ys wr) := by
            have hp := PS.out
            obtain rfl : f = ls.length := by omega
            rw [← MI.out.1] at hp
            have he := hp.done
            refine ⟨hp.1.trans MI.out.1, fun x hx => MI.out.2.1 x (hp.mem.mem_iff.1 hx), ?_, RW.out⟩
            rw [MI.out.2.2.1, he]
            rfl
          have hfl' : ¬ (f : Int) < (ls.length : Int) := by omega
          go_wp2_with fail
          go_roundw
          case rel => exact ⟨v, ys, by omega, by first | rfl | (congr 1; omega), HM.out⟩
          case measure => simp [intOf] <;> omega
        have hfl' : (f : Int) < (ls.length : Int) := by omega
        obtain ⟨u, hu⟩ : ∃ u, u = wr := ⟨_, rfl⟩
        subst hu
        go_wp2_with fail
        go_loopw [8] (O4Rel ls v f ys u) (fun i _ => ls.length - (intOf i).toNat)
        case atStart => exact ⟨f, 0, Nat.le_refl _, by omega, rfl, fun j y h1 h2 => absurd h1 (by omega), rfl⟩
        case round =>
          obtain ⟨t, q, hft, ht, rfl, hpt, rfl⟩ := hrel
          have PT := Lib.hid hpt
          clear hpt
          have hyl : ys.length = ls.length := by rw [PS.out.1, MI.out.1]
          have hft' : (f : Int) ≤ (t : Int) := by omega
          have hf0 : (0 : Int) ≤ (f : Int) := by omega
          have ht' : (t : Int) ≤ (ls.length : Int) := by omega
          by_cases htl : t < ls.length
          case pos =>
            have htl' : (t : Int) < (ls.length : Int) := by omega
            have ht0 : (0 : Int) ≤ (t : Int) := by omega
            have hyt : ys[t]? = some (ys[t]'(by omega)) := List.getElem?_eq_getElem _
            obtain ⟨y, ey⟩ : ∃ y, ys[t]? = some y := ⟨_, hyt⟩
            clear hyt
            have hy : y < ls.length := MI.out.2.1 y (PS.out.mem.mem_iff.1 (List.mem_of_getElem? ey))
            have hcy := RW.out.at (nats_get ey)
            obtain ⟨b, o, l, rfl, el, hcl⟩ := HX.out.int_at hy
            have hcl' := cell_below (RW.out.below hg) hcl
            have hy' : (y : Int) < (ls.length : Int) := by omega
            have hy0 : (0 : Int) ≤ (y : Int) := by omega
            by_cases hle : V ≤ l
            case pos =>
              have PT2 : Hid (∀ j y, f ≤ j → j < t + 1 → ys[j]? = some y → atL ls (v + 1) y = true) := fun j z h1 h2 h3 => by
                rcases Nat.lt_or_ge j t with h | h
                · exact PT.out j z h1 h h3
                · obtain rfl : j = t := by omega
                  rw [ey] at h3
                  injection h3 with h3
                  subst h3
                  exact atL_yes el (by rw [← HV.out]; exact hle)
              clear ey el
              go_wp2_with fail
              go_roundw
              case rel => exact ⟨t + 1, _, by omega, by omega, by go_num, PT2.out, rfl⟩
              case measure => simp [intOf] <;> omega
            have hd : decide (V ≤ l) = false := decide_eq_false hle
            have HN : Hid (∀ z, ys[t]? = some z → atL ls (v + 1) z = false) := fun z h3 => by
              rw [ey] at h3
              injection h3 with h3
              subst h3
              exact atL_no el (by rw [← HV.out]; exact hle)
            clear ey el
            have HPR := Lib.hid (PS.out.run hft (by rw [MI.out.1]; exact ht) PT.out HN.out)
            go_wp2_with fail
            go_loopw [9, 10] (R5Rel w g ls.length d f t (nats ys)) (fun i _ _ => t - (intOf i).toNat)
            case atStart => exact ⟨0, nats ys, by omega, by first | rfl | (congr 1; omega), by congr 1; omega, RevTo.start _ _ _, RW.out.drewN q⟩
            case round =>
              obtain ⟨a, zs, ha, rfl, rfl, hrv, hrow⟩ := hrel
              have hnl : (nats ys).length = ls.length := by rw [nats_length, hyl]
              have hfm : f + (t - f) ≤ (nats ys).length := by omega
              by_cases hlt2 : 2 * a + 1 < t - f
              case pos =>
                obtain ⟨i1, hi1⟩ : ∃ i1, i1 = f + a := ⟨_, rfl⟩
                obtain ⟨j1, hj1⟩ : ∃ j1, j1 = f + (t - f - 1 - a) := ⟨_, rfl⟩
                have hx1 : (nats ys)[i1]? = some ((nats ys)[i1]'(by omega)) := List.getElem?_eq_getElem _
                have hx2 : (nats ys)[j1]? = some ((nats ys)[j1]'(by omega)) := List.getElem?_eq_getElem _
                obtain ⟨x1, e1⟩ : ∃ x, (nats ys)[i1]? = some x := ⟨_, hx1⟩
                obtain ⟨x2, e2⟩ : ∃ x, (nats ys)[j1]? = some x := ⟨_, hx2⟩
                clear hx1 hx2
                have hz1 : zs[i1]? = some x1 := by rw [← e1, hi1]; exact hrv.low hlt2 hfm
                have hz2 : zs[j1]? = some x2 := by rw [← e2, hj1]; exact hrv.high hlt2 hfm
                have hc1 := hrow.at hz1
                have hc2 := hrow.at hz2
                have hf1 := hrow.free i1
                have hf2 := hrow.free j1
                have HS := Lib.hid ((hrow.set i1 x2).set j1 x1)
                have HR : Hid (RevTo (nats ys) f (t - f) (a + 1) ((zs.set i1 x2).set j1 x1)) := by
                  subst hi1; subst hj1
                  exact hrv.step hlt2 hfm e1 e2
                have hne : ¬ j1 = i1 := by omega
                have hne2 : ¬ i1 = j1 := by omega
                have hi2 : (f : Int) + (a : Int) = (i1 : Int) := by omega
                have hj2 : (t : Int) - 1 - (a : Int) = (j1 : Int) := by omega
                have hij : (i1 : Int) < (j1 : Int) := by omega
                have hi3 : (i1 : Int) < (ls.length : Int) := by omega
                have hj3 : (j1 : Int) < (ls.length : Int) := by omega
                have HIa : Hid (i1 = f + a) := hi1
                have HJa : Hid ((j1 : Int) = (t : Int) - 1 - (a : Int)) := hj2.symm
                rw [hi2, hj2]
                clear hrv hrow e1 e2 hz1 hz2 hi1 hj1 hi2 hj2
                go_wp2_with fail
                go_roundw
                case rel => exact ⟨a + 1, _, by omega, by have h1 := HIa.out; congr 1; omega, by have h1 := HJa.out; congr 1; omega, HR.out, HS.out⟩
                case measure => have h1 := HIa.out; simp [intOf] <;> omega
              have hze := hrv.done (by omega) hfm
              rw [nats_revd] at hze
              subst hze
              have HO := Lib.hid hrow
              clear hrv hrow
              have hge : ¬ (f : Int) + (a : Int) < (t : Int) - 1 - (a : Int) := by omega
              by_cases htf : t = f
              case pos =>
                have HP : Hid (Pass (atL ls (v + 1)) out (f + 1) (revd ys f (t - f))) := by
                  have h := HPR.out
                  rw [htf] at h ⊢
                  refine h.skip (by rw [MI.out.1]; omega) (fun y hy => HN.out y ?_)
                  rw [revd_out (by omega) (by omega)] at hy
                  rw [htf]; exact hy
                have HTF : Hid (t = f) := htf
                clear htf
                go_wp2_with fail
                go_roundw
                case rel => exact ⟨f + 1, _, by omega, by have h1 := HTF.out; first | go_num | (congr 1; omega), HP.out, HO.out⟩
                case measure => have h1 := HTF.out; simp [intOf] <;> omega
              have hft2 : (f : Int) + 1 ≤ (t : Int) := by omega
              go_wp2_with fail
              go_roundw
              case rel => exact ⟨t, _, by omega, by first | rfl | (congr 1; omega), HPR.out, HO.out⟩
              case measure => simp [intOf] <;> omega
          have hd : decide ((t : Int) < (ls.length : Int)) = false := decide_eq_false (by omega)
          have htl' : ¬ (t : Int) < (ls.length : Int) := by omega
          have HN : Hid (∀ z, ys[t]? = some z → atL ls (v + 1) z = false) := fun z h3 => by
            rw [List.getElem?_eq_none (by omega)] at h3
            cases h3
          have HPR := Lib.hid (PS.out.run hft (by rw [MI.out.1]; exact ht) PT.out HN.out)
          go_wp2_with fail
          go_loopw [9, 10] (R5Rel w g ls.length d f t (nats ys)) (fun i _ _ => t - (intOf i).toNat)
          case atStart => exact ⟨0, nats ys, by omega, by first | rfl | (congr 1; omega), by congr 1; omega, RevTo.start _ _ _, RW.out.drewN q⟩
          case round =>
            obtain ⟨a, zs, ha, rfl, rfl, hrv, hrow⟩ := hrel
            have hnl : (nats ys).length = ls.length := by rw [nats_length, hyl]
            have hfm : f + (t - f) ≤ (nats ys).length := by omega
            by_cases hlt2 : 2 * a + 1 < t - f
            case pos =>
              obtain ⟨i1, hi1⟩ : ∃ i1, i1 = f + a := ⟨_, rfl⟩
              obtain ⟨j1, hj1⟩ : ∃ j1, j1 = f + (t - f - 1 - a) := ⟨_, rfl⟩
              have hx1 : (nats ys)[i1]? = some ((nats ys)[i1]'(by omega)) := List.getElem?_eq_getElem _
              have hx2 : (nats ys)[j1]? = some ((nats ys)[j1]'(by omega)) := List.getElem?_eq_getElem _
              obtain ⟨x1, e1⟩ : ∃ x, (nats ys)[i1]? = some x := ⟨_, hx1⟩
              obtain ⟨x2, e2⟩ : ∃ x, (nats ys)[j1]? = some x := ⟨_, hx2⟩
              clear hx1 hx2
              have hz1 : zs[i1]? = some x1 := by rw [← e1, hi1]; exact hrv.low hlt2 hfm
              have hz2 : zs[j1]? = some x2 := by rw [← e2, hj1]; exact hrv.high hlt2 hfm
              have hc1 := hrow.at hz1
              have hc2 := hrow.at hz2
              have hf1 := hrow.free i1
              have hf2 := hrow.free j1
              have HS := Lib.hid ((hrow.set i1 x2).set j1 x1)
              have HR : Hid (RevTo (nats ys) f (t - f) (a + 1) ((zs.set i1 x2).set j1 x1)) := by
                subst hi1; subst hj1
                exact hrv.step hlt2 hfm e1 e2
              have hne : ¬ j1 = i1 := by omega
              have hne2 : ¬ i1 = j1 := by omega
              have hi2 : (f : Int) + (a : Int) = (i1 : Int) := by omega
              have hj2 : (t : Int) - 1 - (a : Int) = (j1 : Int) := by omega
              have hij : (i1 : Int) < (j1 : Int) := by omega
              have hi3 : (i1 : Int) < (ls.length : Int) := by omega
              have hj3 : (j1 : Int) < (ls.length : Int) := by omega
              have HIa : Hid (i1 = f + a) := hi1
              have HJa : Hid ((j1 : Int) = (t : Int) - 1 - (a : Int)) := hj2.symm
              rw [hi2, hj2]
              clear hrv hrow e1 e2 hz1 hz2 hi1 hj1 hi2 hj2
              go_wp2_with fail
              go_roundw
              case rel => exact ⟨a + 1, _, by omega, by have h1 := HIa.out; congr 1; omega, by have h1 := HJa.out; congr 1; omega, HR.out, HS.out⟩
              case measure => have h1 := HIa.out; simp [intOf] <;> omega
            have hze := hrv.done (by omega) hfm
            rw [nats_revd] at hze
            subst hze
            have HO := Lib.hid hrow
            clear hrv hrow
            have hge : ¬ (f : Int) + (a : Int) < (t : Int) - 1 - (a : Int) := by omega
            by_cases htf : t = f
            case pos =>
              have HP : Hid (Pass (atL ls (v + 1)) out (f + 1) (revd ys f (t - f))) := by
                have h := HPR.out
                rw [htf] at h ⊢
                refine h.skip (by rw [MI.out.1]; omega) (fun y hy => HN.out y ?_)
                rw [revd_out (by omega) (by omega)] at hy
                rw [htf]; exact hy
              have HTF : Hid (t = f) := htf
              clear htf
              go_wp2_with fail
              go_roundw
              case rel => exact ⟨f + 1, _, by omega, by have h1 := HTF.out; first | go_num | (congr 1; omega), HP.out, HO.out⟩
              case measure => have h1 := HTF.out; simp [intOf] <;> omega
            have hft2 : (f : Int) + 1 ≤ (t : Int) := by omega
            go_wp2_with fail
            go_roundw
            case rel => exact ⟨t, _, by omega, by first | rfl | (congr 1; omega), HPR.out, HO.out⟩
            case measure => simp [intOf] <;> omega
end Go.Proofs.Ytonkminebememaa
