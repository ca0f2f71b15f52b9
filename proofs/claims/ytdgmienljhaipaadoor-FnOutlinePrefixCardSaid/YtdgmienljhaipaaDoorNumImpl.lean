/-
  Contract of NumberHeadings, the program's.
-/
import Derived.Lib.SliceRun
import Derived.Test.YtdgmienljhaipaaDoorNumSpec
import Derived.Test.YtdgmienljhaipaaDoorOutline2
import Derived.Test.YtdgmienljhaipaaDoorReader
import Derived.Test.YtdgmienljhaipaaDoorCells
import Derived.Test.YtdgmienljhaipaaDoorShelf
namespace Go.Proofs.YtdgmienljhaipaaDoor
open Go.RowKit
set_option linter.unusedVariables false

theorem BlkIs.belowN {w w' : World} {G : Nat} {t : TypeId} {cs : Array Value} (h : BlkIs w G t cs) (hb : Below w.heap.size w w') : BlkIs w' G t cs := by
  have hlt := BlkIs.lt h
  unfold BlkIs at h ⊢
  rw [hb.block G hlt]
  exact h
theorem njoin_strs (p : List Nat) : (⟨(Lib.join ((p.map decB).map (fun s : ByteArray => s.data.toList)) (⟨#[46]⟩ : ByteArray).data.toList).toArray⟩ : ByteArray) = ⟨(njoin p).toArray⟩ := by
  rw [List.map_map]
  rfl
/-- The counts of the program: an array of five numbers. -/
def CntB (W : World) (G : Nat) (q : N4) : Prop := BlkIs W G 42 #[.int .i64 0, .int .i64 (q.a : Int), .int .i64 (q.b : Int), .int .i64 (q.c : Int), .int .i64 (q.d : Int)]
theorem CntB.cell {W : World} {G : Nat} {q : N4} (h : CntB W G q) {k n : Nat} (hn : q.list[k]? = some n) : W.cell? ⟨G, k + 1, none⟩ = some (.int .i64 (n : Int)) := by
  rw [BlkIs.cell h]
  match k, hn with
  | 0, hn => injection hn with hn; subst hn; rfl
  | 1, hn => injection hn with hn; subst hn; rfl
  | 2, hn => injection hn with hn; subst hn; rfl
  | 3, hn => injection hn with hn; subst hn; rfl
  | k + 4, hn => simp [N4.list] at hn
theorem cnt_step {W : World} {G : Nat} {q : N4} (h : CntB W G q) {x n : Nat} (h1 : 1 ≤ x) (h4 : x ≤ 4) (hn : (parts q (x : Int))[x - 1]? = some n) :
    CntB ((W.setCell ⟨G, x, none⟩ (.int .i64 ((n : Int) + 1))).setCells G (x + 1) (List.replicate (5 - (x + 1)) (.int .i64 0))) G (nst q (x : Int)) := by
  have hn2 : q.list[x - 1]? = some n := by
    unfold parts at hn
    rw [List.getElem?_take] at hn
    split at hn
    · exact hn
    · cases hn
  clear hn
  obtain ⟨a, b, c, d⟩ := q
  have hx : x = 1 ∨ x = 2 ∨ x = 3 ∨ x = 4 := by omega
  rcases hx with rfl | rfl | rfl | rfl
  · have e : n = a := by injection hn2 with h; exact h.symm
    subst e
    have r := (((BlkIs.store h 1 (.int .i64 ((n : Int) + 1))).store 2 (.int .i64 0)).store 3 (.int .i64 0)).store 4 (.int .i64 0)
    simpa [CntB, nst, World.setCells, List.replicate] using r
  · have e : n = b := by injection hn2 with h; exact h.symm
    subst e
    have r := ((BlkIs.store h 2 (.int .i64 ((n : Int) + 1))).store 3 (.int .i64 0)).store 4 (.int .i64 0)
    simpa [CntB, nst, World.setCells, List.replicate] using r
  · have e : n = c := by injection hn2 with h; exact h.symm
    subst e
    have r := (BlkIs.store h 3 (.int .i64 ((n : Int) + 1))).store 4 (.int .i64 0)
    simpa [CntB, nst, World.setCells, List.replicate] using r
  · have e : n = d := by injection hn2 with h; exact h.symm
    subst e
    have r := BlkIs.store h 4 (.int .i64 ((n : Int) + 1))
    simpa [CntB, nst, World.setCells, List.replicate] using r
theorem BlkIs.grown {w w' : World} {G : Nat} {t : TypeId} {cs : Array Value} {row : Option Nat} (h : BlkIs w G t cs) (hg : w.grownBy w' row) (hr : row ≠ some G) : BlkIs w' G t cs := by
  have hlt := BlkIs.lt h
  unfold BlkIs at h ⊢
  rw [hg.block G hlt (fun e => hr e.symm)]
  exact h
def NiOut (w : World) (l : List Int) (G : Nat) (v i : Value) (wr : World) : Prop :=
  ∃ (k m : Nat) (q : N4) (ys : List ByteArray), k ≤ l.length ∧ m = k ∧ i = .int .i64 (k : Int) ∧ q = nsts l k ∧ numF N4.zero l = ys ++ numF q (l.drop k) ∧
    wr.ownsRow (G + 1) 9 1 v m (strs' ys) ∧ CntB wr G q ∧ Below w.heap.size w wr
def NiIn (u : World) (xs : List ByteArray) (n : Nat) (i : Value) (wr : World) : Prop :=
  ∃ k : Nat, k ≤ n ∧ i = .int .i64 (k : Int) ∧ wr.ownsRow u.heap.size 9 1 (.slice (some ⟨u.heap.size, 0, none⟩) n n) n (strs' (xs.take k ++ List.replicate (xs.length - k) ⟨#[]⟩)) ∧ Below u.heap.size u wr
theorem strs_atN {xs : List ByteArray} {m : Nat} (h : m < xs.length) : (strs' (xs.take m ++ List.replicate (xs.length - m) ⟨#[]⟩))[m]? = some (.string ⟨#[]⟩) := by
  unfold strs'
  rw [List.getElem?_map, List.getElem?_append_right (by rw [List.length_take]; omega), List.getElem?_replicate, if_pos (by rw [List.length_take]; omega)]
  rfl
theorem strs_setN {xs : List ByteArray} {m : Nat} {s : ByteArray} (h : xs[m]? = some s) : (strs' (xs.take m ++ List.replicate (xs.length - m) ⟨#[]⟩)).set m (.string s) = strs' (xs.take (m + 1) ++ List.replicate (xs.length - (m + 1)) ⟨#[]⟩) := by
  have hm := (List.getElem?_eq_some_iff.1 h).1
  have hl : (strs' (xs.take m)).length = m := by rw [strs_length, List.length_take]; omega
  have e1 : ∀ a b : List ByteArray, strs' (a ++ b) = strs' a ++ strs' b := fun a b => by simp [strs']
  have e2 : strs' (xs.take (m + 1)) = strs' (xs.take m) ++ [.string s] := by rw [List.take_add_one, h, e1]; rfl
  rw [e1, e1, List.set_append_right _ _ (by omega), hl, Nat.sub_self, e2, List.append_assoc, show xs.length - m = (xs.length - (m + 1)) + 1 from by omega, List.replicate_succ]
  rfl
set_option maxRecDepth 8000 in
set_option maxHeartbeats 8000000 in
theorem implNum_any (A : Option Addr) (n c : Nat) (l : List Int) (w : World) (hx : Rd w 1 A n (ints l)) (hn : n ≤ 1048576) :
    Calls Tryd.prog 11 #[.slice A n c] w (NmRes l w) := by
  have HL := Lib.hid hx.len
  have C1 := Lib.hid (implOutline_any A n c l w hx hn)
  have HX := Lib.hid hx
  clear hx
  cases hv : vOutline l
  · rw [hv] at C1
    have HV : Hid (¬ vOutline l = true) := fun h => by rw [hv] at h; cases h
    clear hv
    go_enter Tryd.func11, Tryd.ntmps11
    go_wp2_with fail
    refine C1.out.mono ?_
    rintro e w' ⟨rfl, rfl⟩
    go_wp2_with fail
    go_ret
    exact NmRes.no HV.out (Below.refl _ _)
  have HV := Lib.hid hv
  have hn20 : n ≤ 20 := by rw [← HL.out]; exact vOutline_len hv
  rw [hv] at C1
  clear hv
  have HN : Hid (numT l = numF N4.zero l) := if_pos HV.out
  go_enter Tryd.func11, Tryd.ntmps11
  go_wp2_with fail
  refine C1.out.mono ?_
  rintro e w' ⟨rfl, rfl⟩
  go_wp2_with fail
  obtain ⟨G, hG⟩ : ∃ G, G = w.heap.size := ⟨_, rfl⟩
  have hCA : CntB (w.alloc (.cells #[.int .i64 0, .int .i64 0, .int .i64 0, .int .i64 0, .int .i64 0] 42)) G N4.zero := by rw [hG]; exact heap_alloc_new w _
  have CA := Lib.hid hCA
  have BA : Hid (Below w.heap.size w (w.alloc (.cells #[.int .i64 0, .int .i64 0, .int .i64 0, .int .i64 0, .int .i64 0] 42))) := (Below.refl _ _).alloc (Nat.le_refl _) _
  obtain ⟨W1, hW1⟩ : ∃ W1, W1 = w.alloc (.cells #[.int .i64 0, .int .i64 0, .int .i64 0, .int .i64 0, .int .i64 0] 42) := ⟨_, rfl⟩
  rw [← hW1] at CA BA
  rw [← hG]
  rw [← hW1]
  have HG := Lib.hid hG
  clear hCA hW1 hG
  go_loopw [4, 14] (NiOut w l G) (fun _ i _ => n - (intOf i).toNat)
  case atStart => exact ⟨0, 0, N4.zero, [], Nat.zero_le _, rfl, rfl, rfl, rfl, World.ownsRow_nil _ _ _ _, CA.out, BA.out⟩
  case round =>
    clear CA BA
    obtain ⟨k, m, q, ys, hk, hmk, rfl, hq, hnum, hown, hcnt, hbel⟩ := hrel
    subst hmk
    obtain ⟨L5, d5, e5, hd5⟩ := own_shape hown
    subst e5
    have OW := Lib.hid hown
    have CT := Lib.hid hcnt
    have BW := Lib.hid hbel
    have NF := Lib.hid hnum
    clear hown hcnt hbel hnum
    by_cases hlt : m < n
    case neg =>
      obtain rfl : m = n := by have := HL.out; omega
      have HF : Hid (numT l = ys) := by
        show numT l = ys
        rw [HN.out, NF.out, List.drop_of_length_le (by rw [HL.out]; exact Nat.le_refl _), numF, List.append_nil]
      clear hlt
      go_wp2_with fail
      go_ret
      exact ⟨L5, m, d5, rfl, by rw [HF.out]; exact own_base OW.out (by have := HG.out; omega), BW.out⟩
    have hb20 : q.a ≤ 20 ∧ q.b ≤ 20 ∧ q.c ≤ 20 ∧ q.d ≤ 20 := by
      have h := nsts_bound l m
      rw [← hq] at h
      omega
    obtain ⟨b, o, xi, rfl, ex, hcx⟩ := (HX.out.below BW.out).int_at hlt
    have bx := vOutline_at HV.out ex
    have EX := Lib.hid ex
    obtain ⟨x, rfl⟩ := Int.eq_ofNat_of_zero_le (show 0 ≤ xi by omega)
    have hx1 : 1 ≤ x := by have := bx.1; omega
    have hx4 : x ≤ 4 := by have := bx.2.1; omega
    have hm' : (m : Int) < (n : Int) := by omega
    have hm0 : (0 : Int) ≤ (m : Int) := by omega
    have hQN := nsts_next ex
    rw [← hq] at hQN
    have QN := Lib.hid hQN
    have NN := Lib.hid (numF_next (q := q) ex)
    have hml : m + 1 ≤ l.length := by rw [HL.out]; exact hlt
    obtain ⟨pn, hpn, _, _⟩ := parts_step q hx1 hx4
    have hpn20 := parts_bound hb20 _ hpn
    have CS := Lib.hid (cnt_step CT.out hx1 hx4 hpn)
    have hcv : wr.cell? ⟨G, x, none⟩ = some (.int .i64 (pn : Int)) := by
      have hn2 : q.list[x - 1]? = some pn := by
        unfold parts at hpn
        rw [List.getElem?_take] at hpn
        split at hpn
        · exact hpn
        · cases hpn
      have h := CT.out.cell hn2
      rw [show x - 1 + 1 = x from by omega] at h
      exact h
    have hfv : wr.frozen? ⟨G, x, none⟩ = false := BlkIs.free CT.out x
    have hxi0 : (0 : Int) ≤ (x : Int) := by omega
    have hxi5 : (x : Int) < 5 := by omega
    clear bx ex hQN hk hlt hq hpn
    by_cases hx44 : x < 4
    case pos =>
      have hclr := Lib.run_clear_slice (P := Tryd.prog) (wr.setCell ⟨G, x, none⟩ (.int .i64 ((pn : Int) + 1))) 23 3 0 (.int .i64 0) Tryd.underlying23 (fun w => Tryd.zeroValue3 w) rfl rfl G (x + 1) (5 - (x + 1)) (5 - (x + 1)) (by omega)
        (fun j hj => by
          have h := BlkIs.cell (BlkIs.store CT.out x (.int .i64 ((pn : Int) + 1))) (x + 1 + j)
          rw [h, Array.getElem?_eq_getElem (by simp; omega)]
          rfl)
        (fun j hj => BlkIs.free (BlkIs.store CT.out x (.int .i64 ((pn : Int) + 1))) (x + 1 + j))
      rw [show 5 - (x + 1) = 4 - x from by omega] at hclr CS
      have hx5 : (x : Int) + 1 ≤ 5 := by omega
      have hx50 : (0 : Int) ≤ (x : Int) + 1 := by omega
      have hxt : ((x : Int) + 1).toNat = x + 1 := by omega
      have hne5 : ¬ 5 = x + 1 := by omega
      have hgr : wr.grownBy ((wr.setCell ⟨G, x, none⟩ (.int .i64 ((pn : Int) + 1))).setCells G (x + 1) (List.replicate (4 - x) (.int .i64 0))) (some G) := gr_trans (gr_set0 wr G x _) (setCells_grown G _ _ _)
      obtain ⟨W3, hW3⟩ : ∃ W3, W3 = (wr.setCell ⟨G, x, none⟩ (.int .i64 ((pn : Int) + 1))).setCells G (x + 1) (List.replicate (4 - x) (.int .i64 0)) := ⟨_, rfl⟩
      rw [← hW3] at hclr CS hgr
      have C3 := Lib.hid CS.out
      have O3 := Lib.hid (own_gr OW.out hgr (Nat.lt_succ_self G))
      have B3 := Lib.hid (BW.out.grown hgr BW.out.size (fun k hk => by injection hk with hk; have := HG.out; omega))
      have hmk := run_make_row' (P := Tryd.prog) 26 9 (.string ⟨#[]⟩) 16 Tryd.underlying26 infoStr rfl .i64 .i64 x (by omega) (by omega)
      obtain ⟨P, hPe⟩ : ∃ P, P = parts (nst q (x : Int)) (x : Int) := ⟨_, rfl⟩
      obtain ⟨xs, hxs⟩ : ∃ xs, xs = P.map decB := ⟨_, rfl⟩
      clear hW3 hgr
      go_wp2_with fail
      have HPE := Lib.hid (show P = parts (nst q (x : Int)) (x : Int) from hPe)
      have HPL : Hid (xs.length = x) := by show xs.length = x; rw [hxs, List.length_map, hPe, parts_len (by omega) (by omega)]; rfl
      have HXS := Lib.hid hxs
      have HPB : Hid (∀ (k n : Nat), P[k]? = some n → n ≤ 20 + 1 ∧ (nst q (x : Int)).list[k]? = some n) := fun k n h => by
        rw [hPe] at h
        have h1 := nst_bound (q := q) (v := (x : Int)) (n := 20) hb20
        have h2 : n ∈ (nst q (x : Int)).list := List.mem_of_mem_take (List.mem_of_getElem? h)
        unfold N4.list at h2
        simp only [List.mem_cons, List.not_mem_nil, or_false] at h2
        refine ⟨by omega, ?_⟩
        unfold parts at h
        rw [List.getElem?_take] at h
        split at h
        · exact h
        · cases h
      clear hPe hxs
      go_loopw [30] (NiIn W3 xs x) (fun i _ => x - (intOf i).toNat)
      case atStart =>
        refine ⟨0, Nat.zero_le _, rfl, ?_, (Below.refl _ _).alloc (Nat.le_refl _) _⟩
        have h := World.ownsRow_lit (base := W3.heap.size) (e := 9) (size := 1) W3 (madeCells #[.string ⟨#[]⟩] x) x (Nat.le_refl _) (by unfold maxLen; omega) (by rw [size_madeCells]; omega)
        rw [toList_madeCells_one] at h
        have hl := HPL.out
        simpa [strs', hl] using h
      case round =>
        clear hmk
        obtain ⟨j, hj, rfl, hown, hbj⟩ := hrel
        have OX := Lib.hid hown
        have BJ := Lib.hid hbj
        clear hown hbj
        have hjl := HPL.out
        by_cases hjx : j < x
        case neg =>
          have hjx' : j = x := by omega
          have hjx2 : ¬ (j : Int) < (x : Int) := by omega
          have O5 := Lib.hid (own_below O3.out BJ.out)
          have C5 := Lib.hid (BlkIs.belowN C3.out BJ.out)
          have B5 := Lib.hid (B3.out.trans (BJ.out.mono B3.out.size))
          have hxt : xs.take j = xs := List.take_of_length_le (by omega)
          have RX : Hid (wr.ownsRow W3.heap.size 9 1 (.slice (some ⟨W3.heap.size, 0, none⟩) x x) x (strs' xs)) := by
            have h := OX.out
            rw [hxt, show xs.length - j = 0 from by omega, List.replicate_zero, List.append_nil] at h
            exact h
          have hlt5 : W3.heap.size < wr.heap.size := (RX.out.lt W3.heap.size rfl).2
          have hj0 := Tryd.strings_Join W3.heap.size 0 x xs ⟨#[46]⟩ wr (fun i s hs => by
            have hi := (List.getElem?_eq_some_iff.1 hs).1
            rw [Nat.zero_add, RX.out.cellAt i (by omega)]
            unfold strs'
            rw [List.getElem?_map, hs]
            rfl) hlt5 (by omega) (by omega) (by
            have h1 := congrArg ByteArray.size (njoin_strs P)
            rw [← HXS.out] at h1
            have h2 : (Lib.join (xs.map fun s : ByteArray => s.data.toList) (⟨#[46]⟩ : ByteArray).data.toList).length = (njoin P).length := h1
            rw [h2, HPE.out]
            have h3 := njoin_len (nst q (x : Int)).list x
            have h4 : (njoin (parts (nst q (x : Int)) (x : Int))).length ≤ 3 * x := h3
            omega)
          rw [HPL.out] at hj0
          have hje : (⟨(Lib.join (xs.map fun s : ByteArray => s.data.toList) (⟨#[46]⟩ : ByteArray).data.toList).toArray⟩ : ByteArray) = ntext (nst q (x : Int)) (x : Int) := by
            rw [HXS.out, njoin_strs, HPE.out]
            rfl
          have CJ : Hid (Calls Tryd.prog 30 #[.slice (some ⟨W3.heap.size, 0, none⟩) x x, .string ⟨#[46]⟩] wr fun e w' => e = .returned (.string (ntext (nst q (x : Int)) (x : Int))) ∧ Below wr.heap.size wr w') := by
            have h := hj0
            rw [hje] at h
            exact h
          obtain ⟨F, hF⟩ : ∃ F, F = ntext (nst q (x : Int)) (x : Int) := ⟨_, rfl⟩
          have HF := Lib.hid hF
          rw [← hF] at CJ
          clear hj0 hje hF hxt hjx hjx' hlt5
          go_wp2_with fail
          refine CJ.out.mono ?_
          rintro e w5 ⟨rfl, hb⟩
          have O6 := Lib.hid (own_below O5.out hb)
          have C6 := Lib.hid (BlkIs.belowN C5.out hb)
          have B6 := Lib.hid (B5.out.trans (hb.mono B5.out.size))
          have hszG : G + 1 ≤ w5.heap.size := BlkIs.lt C6.out
          clear hb
          go_wp2_with (at_builtin; refine app_lit elemStr rfl _ _ rfl O6.out _ _ [.string F] rfl rfl rfl (by simp [Value.oneCell']) (by omega) hszG ?_; intro v2 w2 ho hg; have O7 := Lib.hid ho; have B7 := Lib.hid (below_app (B6.out.alloc B6.out.size _) hg O6.out (by have := HG.out; omega)); have C7 := Lib.hid (BlkIs.grown (BlkIs.belowN C6.out ((Below.refl _ _).alloc (Nat.le_refl _) _)) hg (fun e => by have := (O6.out.lt G e).1; omega)); clear ho hg)
          go_roundw
          case rel => exact ⟨m + 1, m + 1, nst q (x : Int), ys ++ [F], hml, rfl, by go_num, QN.out.symm, by rw [NF.out, NN.out, HF.out]; simp, by simpa [strs'] using O7.out, C7.out, B7.out⟩
          case measure => simp [intOf] <;> omega
        have hpl : P.length = x := by have h := HPL.out; rw [HXS.out, List.length_map] at h; exact h
        obtain ⟨pj, hpj⟩ : ∃ pj, P[j]? = some pj := ⟨_, List.getElem?_eq_getElem (by omega)⟩
        have hpb := HPB.out j pj hpj
        obtain ⟨hp20, hpl4⟩ := hpb
        have hcj : wr.cell? ⟨G, j + 1, none⟩ = some (.int .i64 (pj : Int)) := CntB.cell (BlkIs.belowN C3.out BJ.out) hpl4
        have hxj : xs[j]? = some (decB pj) := by rw [HXS.out, List.getElem?_map, hpj]; rfl
        have HXJ := Lib.hid hxj
        obtain ⟨E, hE⟩ : ∃ E, E = decB pj := ⟨_, rfl⟩
        have CFI := Lib.hid (fun w => itoa_any pj (by omega) w)
        rw [← hE] at HXJ CFI
        have hc2 := OX.out.cellAt j (by omega)
        rw [strs_atN (by omega)] at hc2
        have hf2 := OX.out.frozenAt j
        have ST := Lib.hid (OX.out.stored j (.string E)).1
        rw [strs_setN HXJ.out] at ST
        have hj1 : (j : Int) < (x : Int) := by omega
        have hj2 : (0 : Int) ≤ (j : Int) + 1 := by omega
        have hj3 : (j : Int) + 1 < 5 := by omega
        have hj4 : ((j : Int) + 1).toNat = j + 1 := by omega
        have hj5 : (0 : Int) ≤ (j : Int) := by omega
        clear hE hxj hpl4 hpj hpl hjl
        go_wp2_with fail
        refine (CFI.out _).mono ?_
        rintro e w5 ⟨rfl, rfl⟩
        go_wp2_with fail
        go_roundw
        case rel => exact ⟨j + 1, by omega, by go_num, ST.out, BJ.out.setCell (Nat.le_refl _) _⟩
        case measure => simp [intOf] <;> omega
    have h5 : (5 = x + 1) = True := eq_true (by omega)
    have hx40 : 4 - x = 0 := by omega
    have HX40 := Lib.hid hx40
    have hx5 : (x : Int) + 1 ≤ 5 := by omega
    have hx50 : (0 : Int) ≤ (x : Int) + 1 := by omega
    have hxt : ((x : Int) + 1).toNat = x + 1 := by omega
    have hgr : wr.grownBy (wr.setCell ⟨G, x, none⟩ (.int .i64 ((pn : Int) + 1))) (some G) := gr_set0 wr G x _
    rw [show 5 - (x + 1) = 0 from by omega] at CS
    have CS2 : Hid (CntB (wr.setCell ⟨G, x, none⟩ (.int .i64 ((pn : Int) + 1))) G (nst q (x : Int))) := CS.out
    obtain ⟨W3, hW3⟩ : ∃ W3, W3 = wr.setCell ⟨G, x, none⟩ (.int .i64 ((pn : Int) + 1)) := ⟨_, rfl⟩
    rw [← hW3] at CS2 hgr
    have hclr : ∀ a : Addr, (Builtin.clear_ #[23] 0 #[.slice (some a) (4 - x) (4 - x)]).run Tryd.prog (wr.setCell ⟨G, x, none⟩ (.int .i64 ((pn : Int) + 1))) = .ok (.tuple #[]) W3 := by
      intro a
      rw [HX40.out, hW3]
      simp [Builtin.clear_, run_underlying Tryd.underlying23]
    clear hx40
    have C3 := Lib.hid CS2.out
    have O3 := Lib.hid (own_gr OW.out hgr (Nat.lt_succ_self G))
    have B3 := Lib.hid (BW.out.grown hgr BW.out.size (fun k hk => by injection hk with hk; have := HG.out; omega))
    have hmk := run_make_row' (P := Tryd.prog) 26 9 (.string ⟨#[]⟩) 16 Tryd.underlying26 infoStr rfl .i64 .i64 x (by omega) (by omega)
    obtain ⟨P, hPe⟩ : ∃ P, P = parts (nst q (x : Int)) (x : Int) := ⟨_, rfl⟩
    obtain ⟨xs, hxs⟩ : ∃ xs, xs = P.map decB := ⟨_, rfl⟩
    clear hW3 hgr
    go_wp2_with fail
    have HPE := Lib.hid (show P = parts (nst q (x : Int)) (x : Int) from hPe)
    have HPL : Hid (xs.length = x) := by show xs.length = x; rw [hxs, List.length_map, hPe, parts_len (by omega) (by omega)]; rfl
    have HXS := Lib.hid hxs
    have HPB : Hid (∀ (k n : Nat), P[k]? = some n → n ≤ 20 + 1 ∧ (nst q (x : Int)).list[k]? = some n) := fun k n h => by
      rw [hPe] at h
      have h1 := nst_bound (q := q) (v := (x : Int)) (n := 20) hb20
      have h2 : n ∈ (nst q (x : Int)).list := List.mem_of_mem_take (List.mem_of_getElem? h)
      unfold N4.list at h2
      simp only [List.mem_cons, List.not_mem_nil, or_false] at h2
      refine ⟨by omega, ?_⟩
      unfold parts at h
      rw [List.getElem?_take] at h
      split at h
      · exact h
      · cases h
    clear hPe hxs
    go_loopw [30] (NiIn W3 xs x) (fun i _ => x - (intOf i).toNat)
    case atStart =>
      refine ⟨0, Nat.zero_le _, rfl, ?_, (Below.refl _ _).alloc (Nat.le_refl _) _⟩
      have h := World.ownsRow_lit (base := W3.heap.size) (e := 9) (size := 1) W3 (madeCells #[.string ⟨#[]⟩] x) x (Nat.le_refl _) (by unfold maxLen; omega) (by rw [size_madeCells]; omega)
      rw [toList_madeCells_one] at h
      have hl := HPL.out
      simpa [strs', hl] using h
    case round =>
      clear hmk
      obtain ⟨j, hj, rfl, hown, hbj⟩ := hrel
      have OX := Lib.hid hown
      have BJ := Lib.hid hbj
      clear hown hbj
      have hjl := HPL.out
      by_cases hjx : j < x
      case neg =>
        have hjx' : j = x := by omega
        have hjx2 : ¬ (j : Int) < (x : Int) := by omega
        have O5 := Lib.hid (own_below O3.out BJ.out)
        have C5 := Lib.hid (BlkIs.belowN C3.out BJ.out)
        have B5 := Lib.hid (B3.out.trans (BJ.out.mono B3.out.size))
        have hxt : xs.take j = xs := List.take_of_length_le (by omega)
        have RX : Hid (wr.ownsRow W3.heap.size 9 1 (.slice (some ⟨W3.heap.size, 0, none⟩) x x) x (strs' xs)) := by
          have h := OX.out
          rw [hxt, show xs.length - j = 0 from by omega, List.replicate_zero, List.append_nil] at h
          exact h
        have hlt5 : W3.heap.size < wr.heap.size := (RX.out.lt W3.heap.size rfl).2
        have hj0 := Tryd.strings_Join W3.heap.size 0 x xs ⟨#[46]⟩ wr (fun i s hs => by
          have hi := (List.getElem?_eq_some_iff.1 hs).1
          rw [Nat.zero_add, RX.out.cellAt i (by omega)]
          unfold strs'
          rw [List.getElem?_map, hs]
          rfl) hlt5 (by omega) (by omega) (by
          have h1 := congrArg ByteArray.size (njoin_strs P)
          rw [← HXS.out] at h1
          have h2 : (Lib.join (xs.map fun s : ByteArray => s.data.toList) (⟨#[46]⟩ : ByteArray).data.toList).length = (njoin P).length := h1
          rw [h2, HPE.out]
          have h3 := njoin_len (nst q (x : Int)).list x
          have h4 : (njoin (parts (nst q (x : Int)) (x : Int))).length ≤ 3 * x := h3
          omega)
        rw [HPL.out] at hj0
        have hje : (⟨(Lib.join (xs.map fun s : ByteArray => s.data.toList) (⟨#[46]⟩ : ByteArray).data.toList).toArray⟩ : ByteArray) = ntext (nst q (x : Int)) (x : Int) := by
          rw [HXS.out, njoin_strs, HPE.out]
          rfl
        have CJ : Hid (Calls Tryd.prog 30 #[.slice (some ⟨W3.heap.size, 0, none⟩) x x, .string ⟨#[46]⟩] wr fun e w' => e = .returned (.string (ntext (nst q (x : Int)) (x : Int))) ∧ Below wr.heap.size wr w') := by
          have h := hj0
          rw [hje] at h
          exact h
        obtain ⟨F, hF⟩ : ∃ F, F = ntext (nst q (x : Int)) (x : Int) := ⟨_, rfl⟩
        have HF := Lib.hid hF
        rw [← hF] at CJ
        clear hj0 hje hF hxt hjx hjx' hlt5
        go_wp2_with fail
        refine CJ.out.mono ?_
        rintro e w5 ⟨rfl, hb⟩
        have O6 := Lib.hid (own_below O5.out hb)
        have C6 := Lib.hid (BlkIs.belowN C5.out hb)
        have B6 := Lib.hid (B5.out.trans (hb.mono B5.out.size))
        have hszG : G + 1 ≤ w5.heap.size := BlkIs.lt C6.out
        clear hb
        go_wp2_with (at_builtin; refine app_lit elemStr rfl _ _ rfl O6.out _ _ [.string F] rfl rfl rfl (by simp [Value.oneCell']) (by omega) hszG ?_; intro v2 w2 ho hg; have O7 := Lib.hid ho; have B7 := Lib.hid (below_app (B6.out.alloc B6.out.size _) hg O6.out (by have := HG.out; omega)); have C7 := Lib.hid (BlkIs.grown (BlkIs.belowN C6.out ((Below.refl _ _).alloc (Nat.le_refl _) _)) hg (fun e => by have := (O6.out.lt G e).1; omega)); clear ho hg)
        go_roundw
        case rel => exact ⟨m + 1, m + 1, nst q (x : Int), ys ++ [F], hml, rfl, by go_num, QN.out.symm, by rw [NF.out, NN.out, HF.out]; simp, by simpa [strs'] using O7.out, C7.out, B7.out⟩
        case measure => simp [intOf] <;> omega
      have hpl : P.length = x := by have h := HPL.out; rw [HXS.out, List.length_map] at h; exact h
      obtain ⟨pj, hpj⟩ : ∃ pj, P[j]? = some pj := ⟨_, List.getElem?_eq_getElem (by omega)⟩
      have hpb := HPB.out j pj hpj
      obtain ⟨hp20, hpl4⟩ := hpb
      have hcj : wr.cell? ⟨G, j + 1, none⟩ = some (.int .i64 (pj : Int)) := CntB.cell (BlkIs.belowN C3.out BJ.out) hpl4
      have hxj : xs[j]? = some (decB pj) := by rw [HXS.out, List.getElem?_map, hpj]; rfl
      have HXJ := Lib.hid hxj
      obtain ⟨E, hE⟩ : ∃ E, E = decB pj := ⟨_, rfl⟩
      have CFI := Lib.hid (fun w => itoa_any pj (by omega) w)
      rw [← hE] at HXJ CFI
      have hc2 := OX.out.cellAt j (by omega)
      rw [strs_atN (by omega)] at hc2
      have hf2 := OX.out.frozenAt j
      have ST := Lib.hid (OX.out.stored j (.string E)).1
      rw [strs_setN HXJ.out] at ST
      have hj1 : (j : Int) < (x : Int) := by omega
      have hj2 : (0 : Int) ≤ (j : Int) + 1 := by omega
      have hj3 : (j : Int) + 1 < 5 := by omega
      have hj4 : ((j : Int) + 1).toNat = j + 1 := by omega
      have hj5 : (0 : Int) ≤ (j : Int) := by omega
      clear hE hxj hpl4 hpj hpl hjl
      go_wp2_with fail
      refine (CFI.out _).mono ?_
      rintro e w5 ⟨rfl, rfl⟩
      go_wp2_with fail
      go_roundw
      case rel => exact ⟨j + 1, by omega, by go_num, ST.out, BJ.out.setCell (Nat.le_refl _) _⟩
      case measure => simp [intOf] <;> omega
end Go.Proofs.YtdgmienljhaipaaDoor
