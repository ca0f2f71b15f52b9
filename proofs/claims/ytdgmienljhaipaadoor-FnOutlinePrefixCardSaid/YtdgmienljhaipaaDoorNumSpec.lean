/-
  Contract of NumberHeadings, the reference's.
-/
import Derived.Test.YtdgmienljhaipaaDoorItoa
import Derived.Test.YtdgmienljhaipaaDoorMarks
import Derived.Test.YtdgmienljhaipaaDoorOutline
import Derived.Test.YtdgmienljhaipaaDoorOutDraw
namespace Go.Proofs.YtdgmienljhaipaaDoor
open Go.RowKit
set_option linter.unusedVariables false

theorem own_typesN {w w' : World} {base n base2 n2 : Nat} {v v2 : Value} {xs xs2 : List Value} {E E2 : TypeId} (ho : w.ownsRow base E 1 v n xs) (h2 : w.ownsRow base2 E2 1 v2 n2 xs2) (hE : E2 ≠ E) (o : Obj)
    (hg : (w.alloc o).grownBy w' v.ownBlock) : w'.ownsRow base2 E2 1 v2 n2 xs2 := by
  refine (h2.alloc o).kept hg ?_
  rcases h2.2 with ⟨hv, _⟩ | ⟨g, cap, cur, hv, _, hh, _⟩
  · left; rw [hv]; rfl
  · right
    rw [hv]
    exact fun e => Lib.ownBlock_ne ho hh hE e.symm
/-- A store into one row leaves a row of another kind as it was. -/
theorem own_storeN {w : World} {base n c base2 n2 g i : Nat} {v2 u : Value} {xs xs2 : List Value} {E E2 : TypeId} (ho : w.ownsRow base E 1 (.slice (some ⟨g, 0, none⟩) n c) n xs) (h2 : w.ownsRow base2 E2 1 v2 n2 xs2) (hE : E2 ≠ E) :
    (w.setCell ⟨g, i, none⟩ u).ownsRow base2 E2 1 v2 n2 xs2 := by
  have hg : w.grownBy (w.setCell ⟨g, i, none⟩ u) (some g) := ⟨rfl, rfl, rfl, by simp [World.setCell], fun k _ hk => Below.heap_setCell _ _ _ _ (fun e => hk (congrArg some e))⟩
  refine h2.kept hg ?_
  rcases h2.2 with ⟨hv, _⟩ | ⟨g2, cap, cur, hv, _, hh, _⟩
  · left; rw [hv]; rfl
  · right
    rw [hv]
    intro e
    exact Lib.ownBlock_ne ho hh hE (by rw [show (Value.slice (some ⟨g, 0, none⟩) n c).ownBlock = some g from rfl]; exact e.symm ▸ rfl)
theorem own_takeN {w : World} {base : Nat} {E : TypeId} {g n c m : Nat} {xs : List Value} (h : w.ownsRow base E 1 (.slice (some ⟨g, 0, none⟩) n c) n xs) (hm : m ≤ n) : w.ownsRow base E 1 (.slice (some ⟨g, 0, none⟩) m c) m (xs.take m) := by
  have hl := h.1
  refine ⟨by rw [List.length_take]; omega, ?_⟩
  rcases h.2 with ⟨hv, _⟩ | ⟨g', cap, cur, hv, hg, hh, hn', hc, hz, hx⟩
  · cases hv
  · injection hv with h1 _ h3
    refine .inr ⟨g', cap, cur, by rw [h1, h3], hg, hh, by omega, hc, hz, ?_⟩
    rw [← hx, List.take_take, Nat.mul_one, Nat.mul_one]
    congr 1
    omega
def NmRes (l : List Int) (w : World) (e : Ending) (w' : World) : Prop :=
  ∃ B k d, e = .returned (.slice B k d) ∧ w'.ownsRow w.heap.size 9 1 (.slice B k d) k (strs' (numT l)) ∧ Below w.heap.size w w'
theorem NmRes.no {l : List Int} {w w' : World} (h : ¬ vOutline l = true) (hb : Below w.heap.size w w') : NmRes l w (.returned (.slice none 0 0)) w' :=
  ⟨none, 0, 0, rfl, by rw [numT_no h]; exact World.ownsRow_nil _ _ _ _, hb⟩
def NsOut (w : World) (l : List Int) (v c i : Value) (wr : World) : Prop :=
  ∃ (k m z : Nat) (q : N4) (ys : List ByteArray), k ≤ l.length ∧ m = k ∧ i = .int .i64 (k : Int) ∧ z ≤ 4 ∧ (k = 0 → z = 0) ∧ (0 < k → l[k - 1]? = some (z : Int)) ∧ q.still z ∧ q = nsts l k ∧ numF N4.zero l = ys ++ numF q (l.drop k) ∧
    wr.ownsRow w.heap.size 9 1 v m (strs' ys) ∧ wr.ownsRow w.heap.size 3 1 c z (ints (natI (parts q (z : Int)))) ∧ Below w.heap.size w wr
def lenS (v : Value) : Nat := match v with | .slice _ n _ => n | _ => 0
def NsCut (u : World) (z x : Nat) (L : Option Addr) (d : Nat) (c : Value) (wr : World) : Prop :=
  ∃ y r : Nat, y ≤ z ∧ (y = z ∨ x ≤ y) ∧ c = .slice L y d ∧ wr = u.drewN r
def NsTxt (u : World) (p : List Nat) (t k : Value) (wr : World) : Prop :=
  ∃ j : Nat, j ≤ p.length ∧ k = .int .i64 (j : Int) ∧ t = .string ⟨(njoin (p.take j)).toArray⟩ ∧ Below u.heap.size u wr
theorem njB_zero {p : List Nat} {k n : Nat} (h : p[k]? = some n) (h0 : k = 0) : (⟨(njoin (p.take (k + 1))).toArray⟩ : ByteArray) = (⟨(njoin (p.take k)).toArray⟩ : ByteArray) ++ decB n := by
  rw [njoin_next h, if_neg (by omega)]
  apply ByteArray.ext
  rw [ByteArray.data_append]
  simp [decB]
theorem njB_next {p : List Nat} {k n : Nat} (h : p[k]? = some n) (h0 : 0 < k) : (⟨(njoin (p.take (k + 1))).toArray⟩ : ByteArray) = ((⟨(njoin (p.take k)).toArray⟩ : ByteArray) ++ ⟨#[46]⟩) ++ decB n := by
  rw [njoin_next h, if_pos h0]
  apply ByteArray.ext
  rw [ByteArray.data_append, ByteArray.data_append]
  simp [decB]
theorem njB_size (p : List Nat) (k : Nat) : (⟨(njoin (p.take k)).toArray⟩ : ByteArray).size ≤ 3 * k := njoin_len p k
theorem cnt_more {w : World} {base x : Nat} {v : Value} {E : TypeId} {p p' : List Nat} (h : p' = p ++ [0]) (ho : w.ownsRow base E 1 v x (ints (natI p) ++ [.int .i64 0])) : w.ownsRow base E 1 v x (ints (natI p')) := by
  rw [h]
  unfold ints natI at ho ⊢
  simpa using ho
theorem cnt_cell {w : World} {base x d g k n : Nat} {E : TypeId} {p : List Nat} (ho : w.ownsRow base E 1 (.slice (some ⟨g, 0, none⟩) x d) x (ints (natI p))) (h : p[k]? = some n) (hk : k < x) : w.cell? ⟨g, k, none⟩ = some (.int .i64 (n : Int)) := by
  have h2 := ho.cellAt k (by omega)
  rw [ints, List.getElem?_map, natI_get h] at h2
  exact h2
theorem ints_takeN (p : List Nat) (k : Nat) : (ints (natI p)).take k = ints (natI (p.take k)) := by
  unfold ints natI
  rw [List.map_take, List.map_take]
theorem ints_setN (p : List Nat) (k n : Nat) : (ints (natI p)).set k (.int .i64 (n : Int)) = ints (natI (p.set k n)) := by
  unfold ints natI
  rw [List.map_set, List.map_set]
set_option maxRecDepth 8000 in
set_option maxHeartbeats 8000000 in
theorem specNum_any (A : Option Addr) (n c : Nat) (l : List Int) (w : World) (hx : Rd w 1 A n (ints l)) (hn : n ≤ 1048576) :
    Calls Tryd.prog 17 #[.slice A n c] w (NmRes l w) := by
  have HL := Lib.hid hx.len
  have BA := Lib.hid (((Below.refl w.heap.size w).alloc (Nat.le_refl _) (.cells #[] 9)).alloc (by rw [World.size_alloc]; omega) (.cells #[] 3))
  obtain ⟨W2, hW2⟩ : ∃ W2, W2 = (w.alloc (.cells #[] 9)).alloc (.cells #[] 3) := ⟨_, rfl⟩
  have ON : Hid (W2.ownsRow w.heap.size 9 1 (.slice (some ⟨w.heap.size, 0, none⟩) 0 0) 0 (strs' [])) := by
    rw [hW2]
    exact World.ownsRow.alloc ⟨by simp [strs'], .inr ⟨w.heap.size, 0, #[], rfl, Nat.le_refl _, heap_alloc_new w _, Nat.le_refl _, by unfold maxLen; omega, rfl, rfl⟩⟩ _
  have OC : Hid (W2.ownsRow w.heap.size 3 1 (.slice (some ⟨w.heap.size + 1, 0, none⟩) 0 0) 0 (ints [])) := by
    rw [hW2]
    exact ⟨by simp [ints], .inr ⟨w.heap.size + 1, 0, #[], rfl, by omega, by have h := heap_alloc_new (w.alloc (.cells #[] 9)) (.cells #[] 3); rw [World.size_alloc] at h; exact h, Nat.le_refl _, by unfold maxLen; omega, rfl, rfl⟩⟩
  rw [← hW2] at BA
  have X2 := Lib.hid (hx.below BA.out)
  have X0 := Lib.hid hx
  have C1 := Lib.hid (specOutline_any A n c l W2 X2.out hn)
  clear hx
  cases hv : vOutline l
  · rw [hv] at C1
    have HV : Hid (¬ vOutline l = true) := fun h => by rw [hv] at h; cases h
    clear hv
    go_enter Tryd.func17, Tryd.ntmps17
    go_wp2_with fail
    rw [← hW2]
    clear hW2
    refine C1.out.mono ?_
    rintro e w' ⟨rfl, rfl⟩
    go_wp2_with fail
    go_ret
    exact NmRes.no HV.out BA.out
  have HV := Lib.hid hv
  have hn20 : n ≤ 20 := by rw [← HL.out]; exact vOutline_len hv
  rw [hv] at C1
  clear hv
  have HN : Hid (numT l = numF N4.zero l) := if_pos HV.out
  go_enter Tryd.func17, Tryd.ntmps17
  go_wp2_with fail
  rw [← hW2]
  clear hW2
  refine C1.out.mono ?_
  rintro e w' ⟨rfl, rfl⟩
  go_wp2_with fail
  go_loopw [3, 4, 5] (NsOut w l) (fun _ _ i _ => n - (intOf i).toNat)
  case atStart => exact ⟨0, 0, 0, N4.zero, [], Nat.zero_le _, rfl, rfl, by omega, fun _ => rfl, fun h => absurd h (by omega), ⟨fun _ => rfl, fun _ => rfl, fun _ => rfl, fun _ => rfl⟩, rfl, rfl, ON.out, OC.out, BA.out⟩
  case round =>
    obtain ⟨k, m, z, q, ys, hk, hmk, rfl, hz4, hz0, hzl, hst, hq, hnum, hown, hcnt, hbel⟩ := hrel
    subst hmk
    obtain ⟨L5, d5, e5, hd5⟩ := own_shape hown
    subst e5
    obtain ⟨L6, d6, e6, hd6⟩ := own_shape hcnt
    subst e6
    have OW := Lib.hid hown
    have OT := Lib.hid hcnt
    have BW := Lib.hid hbel
    have NF := Lib.hid hnum
    have ZS := Lib.hid hst
    clear hown hcnt hbel hnum hst
    by_cases hlt : m < n
    case neg =>
      obtain rfl : m = n := by have := HL.out; omega
      have HF : Hid (numT l = ys) := by
        show numT l = ys
        rw [HN.out, NF.out, List.drop_of_length_le (by rw [HL.out]; exact Nat.le_refl _), numF, List.append_nil]
      clear hzl hz0 hlt
      go_wp2_with fail
      go_ret
      exact ⟨L5, m, d5, rfl, by rw [HF.out]; exact OW.out, BW.out⟩
    have hb20 : q.a ≤ 20 ∧ q.b ≤ 20 ∧ q.c ≤ 20 ∧ q.d ≤ 20 := by
      have h := nsts_bound l m
      rw [← hq] at h
      omega
    obtain ⟨b, o, xi, rfl, ex, hcx⟩ := (X0.out.below BW.out).int_at hlt
    have bx := vOutline_at HV.out ex
    have EX := Lib.hid ex
    obtain ⟨x, rfl⟩ := Int.eq_ofNat_of_zero_le (show 0 ≤ xi by omega)
    have hxz : x ≤ z + 1 := by
      rcases Nat.eq_zero_or_pos m with h | h
      · have := bx.2.2.1 h
        omega
      · have := bx.2.2.2 (z : Int) h (hzl h)
        omega
    have hx1 : 1 ≤ x := by have := bx.1; omega
    have hx4 : x ≤ 4 := by have := bx.2.1; omega
    have hm' : (m : Int) < (n : Int) := by omega
    have hm0 : (0 : Int) ≤ (m : Int) := by omega
    have hQN := nsts_next ex
    rw [← hq] at hQN
    have QN := Lib.hid hQN
    have NN := Lib.hid (numF_next (q := q) ex)
    have hml : m + 1 ≤ l.length := by rw [HL.out]; exact hlt
    clear bx ex hQN hzl hz0 hk hlt hq
    go_wp2_with fail
    go_loopw [4] (NsCut wr z x L6 d6) (fun v _ => lenS v)
    case atStart => exact ⟨z, 0, Nat.le_refl _, .inl rfl, rfl, rfl⟩
    case round =>
      obtain ⟨y, r, hyz, hyx, rfl, rfl⟩ := hrel
      by_cases hlt : x < y
      case pos =>
        obtain ⟨g, hLg, _⟩ := own_cap OT.out (by omega)
        obtain ⟨y1, rfl⟩ : ∃ y1, y = y1 + 1 := ⟨y - 1, by omega⟩
        have hy1 : ((y1 + 1 : Nat) : Int) - 1 = (y1 : Int) := by omega
        have hy2 : (x : Int) < ((y1 + 1 : Nat) : Int) := by omega
        have hy3 : (y1 : Int) ≤ (d6 : Int) := by omega
        have hy0 : (0 : Int) ≤ (y1 : Int) := by omega
        subst hLg
        go_wp2_with fail
        go_roundw
        case rel => exact ⟨y1, r, by omega, .inr (by omega), rfl, rfl⟩
        case measure => simp [lenS] <;> omega
      have hlt' : ¬ (x : Int) < (y : Int) := by omega
      obtain ⟨pn, hpn, hpset, _⟩ := parts_step q hx1 hx4
      have hpn20 := parts_bound hb20 _ hpn
      obtain ⟨x1, hx11⟩ : ∃ x1, x = x1 + 1 := ⟨x - 1, by omega⟩
      have hx1i : (x : Int) - 1 = (x1 : Int) := by omega
      have hx1l : (x1 : Int) < (x : Int) := by omega
      have hx10 : (0 : Int) ≤ (x1 : Int) := by omega
      rw [show x - 1 = x1 from by omega] at hpn hpset
      have hx1n : x1 < x := by omega
      have HX11 := Lib.hid hx11
      clear hx11
      obtain ⟨P, hP⟩ : ∃ P, P = parts (nst q (x : Int)) (x : Int) := ⟨_, rfl⟩
      rw [← hP] at hpset
      have HP := Lib.hid hP
      clear hP
      by_cases hyx2 : y = x
      case pos =>
        have hyx3 : x = y := hyx2.symm
        subst hyx3
        obtain ⟨g, hLg, _⟩ := own_cap OT.out (by omega)
        subst hLg
        have T2 : Hid ((wr.drewN r).ownsRow w.heap.size 3 1 (.slice (some ⟨g, 0, none⟩) x d6) x (ints (natI (parts q (x : Int))))) := by
          have h := own_takeN (own_drewN OT.out r) hyz
          rw [ints_takeN, parts_take hyz] at h
          exact h
        have hcv : wr.cell? ⟨g, x1, none⟩ = some (.int .i64 (pn : Int)) := by
          have h := T2.out.cellAt x1 (by omega)
          rw [ints, List.getElem?_map, natI_get hpn] at h
          exact h
        have hfv : wr.frozen? ⟨g, x1, none⟩ = false := T2.out.frozenAt x1
        have T3 := Lib.hid (T2.out.stored x1 (.int .i64 ((pn : Int) + 1))).1
        have hsete : (ints (natI (parts q (x : Int)))).set x1 (.int .i64 ((pn : Int) + 1)) = ints (natI P) := by
          have h := ints_setN (parts q (x : Int)) x1 (pn + 1)
          rw [hpset] at h
          rw [← h]
          rfl
        rw [hsete] at T3
        have O3 := Lib.hid (own_storeN (i := x1) (u := .int .i64 ((pn : Int) + 1)) T2.out (own_drewN OW.out r) (by decide))
        have B3 := Lib.hid ((below_drewN' BW.out r).setCell (p := ⟨g, x1, none⟩) (by have := (OT.out.lt g rfl).1; exact this) (.int .i64 ((pn : Int) + 1)))
        obtain ⟨W3, hW3⟩ : ∃ W3, W3 = (wr.drewN r).setCell ⟨g, x1, none⟩ (.int .i64 ((pn : Int) + 1)) := ⟨_, rfl⟩
        rw [← hW3] at T3 O3 B3
        clear hpn hpset hsete hyx hlt
        go_wp2_with fail
        rw [← hW3]
        clear hW3 hcv hfv
        have HPL : Hid (P.length = x) := by show P.length = x; rw [HP.out, parts_len (by omega) (by omega)]; rfl
        have HPB : Hid (∀ (k n : Nat), P[k]? = some n → n ≤ 20 + 1) := fun k n h => by
          rw [HP.out] at h
          have h1 := nst_bound (q := q) (v := (x : Int)) (n := 20) hb20
          have h2 : n ∈ (nst q (x : Int)).list := List.mem_of_mem_take (List.mem_of_getElem? h)
          unfold N4.list at h2
          simp only [List.mem_cons, List.not_mem_nil, or_false] at h2
          omega
        go_loopw [6, 7] (NsTxt W3 P) (fun _ k _ => x - (intOf k).toNat)
        case atStart => exact ⟨0, Nat.zero_le _, rfl, rfl, Below.refl _ _⟩
        case round =>
          obtain ⟨j, hj, rfl, rfl, hbj⟩ := hrel
          have BJ := Lib.hid hbj
          clear hbj
          by_cases hjx : j < x
          case neg =>
            have hjx' : j = x := by have := HPL.out; omega
            have hjx2 : ¬ (j : Int) < (x : Int) := by omega
            have HTX : Hid ((⟨(njoin (P.take j)).toArray⟩ : ByteArray) = ntext (nst q (x : Int)) (x : Int)) := by
              show _ = _
              rw [hjx', List.take_of_length_le (by rw [HPL.out]; exact Nat.le_refl _), HP.out]
              rfl
            obtain ⟨F, hF⟩ : ∃ F, F = (⟨(njoin (P.take j)).toArray⟩ : ByteArray) := ⟨_, rfl⟩
            rw [← hF] at HTX
            rw [← hF]
            have O5 := Lib.hid (own_below O3.out BJ.out)
            have T5 := Lib.hid (own_below T3.out BJ.out)
            have B5 := Lib.hid (B3.out.trans (BJ.out.mono B3.out.size))
            have hsz5 : w.heap.size ≤ wr.heap.size := B5.out.size
            clear hF hjx hjx'
            go_wp2_with (at_builtin; refine app_lit elemStr rfl _ _ rfl O5.out _ _ [.string F] rfl rfl rfl (by simp [Value.oneCell']) (by omega) hsz5 ?_; intro v2 w2 ho hg; have O6 := Lib.hid ho; have B6 := Lib.hid (below_app (B5.out.alloc hsz5 _) hg O5.out (Nat.le_refl _)); have T6 := Lib.hid (own_typesN O5.out T5.out (by decide) _ hg); clear ho hg)
            go_roundw
            case rel => exact ⟨m + 1, m + 1, x, nst q (x : Int), ys ++ [F], hml, rfl, by go_num, hx4, by omega, fun _ => EX.out, nst_still q hx1 hx4, QN.out.symm, by rw [NF.out, NN.out, HTX.out]; simp, by simpa [strs'] using O6.out, by rw [← HP.out]; exact T6.out, B6.out⟩
            case measure => simp [intOf] <;> omega
          obtain ⟨b4, o4, pz, eP, ep, hcp⟩ := (Rd.own (own_below T3.out BJ.out)).int_at hjx
          have hpj : P[j]? = some (P[j]'(by rw [HPL.out]; exact hjx)) := List.getElem?_eq_getElem _
          obtain ⟨pj, hpje⟩ : ∃ pj, pj = P[j]'(by rw [HPL.out]; exact hjx) := ⟨_, rfl⟩
          rw [← hpje] at hpj
          rw [natI_get hpj] at ep
          injection ep with ep
          subst ep
          injection eP with eP
          injection eP with eP1 eP2
          subst eP1; subst eP2
          rw [Nat.zero_add] at hcp
          have hp20 := HPB.out j pj hpj
          have CFI := Lib.hid (fun w => formatInt_any pj w (by omega))
          have hds : (decB pj).size ≤ 2 := (dec_len pj).2
          have hss := njB_size P j
          have hjx2 : (j : Int) < (x : Int) := by omega
          have hj00 : (0 : Int) ≤ (j : Int) := by omega
          by_cases hj0 : j = 0
          case pos =>
            have HNJ := Lib.hid (njB_zero hpj hj0)
            obtain ⟨S, hS⟩ : ∃ S, S = (⟨(njoin (P.take j)).toArray⟩ : ByteArray) := ⟨_, rfl⟩
            obtain ⟨E, hE⟩ : ∃ E, E = decB pj := ⟨_, rfl⟩
            rw [← hS] at HNJ hss
            rw [← hE] at HNJ CFI hds
            rw [← hS]
            have hadd : ∀ W : World, (Op.stringOp .add S E).run Tryd.prog W = .ok (.string (S ++ E)) W := fun W => run_string_add_sum W _ _ (by omega)
            have hjn : ¬ (0 : Int) < (j : Int) := by omega
            clear hS hE hpje hpj hj0
            go_wp2_with fail
            refine (CFI.out _).mono ?_
            rintro e w5 ⟨rfl, hb⟩
            have B5 := Lib.hid (below_step BJ.out hb)
            clear hb
            go_wp2_with fail
            go_roundw
            case rel => exact ⟨j + 1, by have := HPL.out; omega, by go_num, by rw [HNJ.out], B5.out⟩
            case measure => simp [intOf] <;> omega
          have HNJ := Lib.hid (njB_next hpj (by omega))
          obtain ⟨S, hS⟩ : ∃ S, S = (⟨(njoin (P.take j)).toArray⟩ : ByteArray) := ⟨_, rfl⟩
          obtain ⟨E, hE⟩ : ∃ E, E = decB pj := ⟨_, rfl⟩
          rw [← hS] at HNJ hss
          rw [← hE] at HNJ CFI hds
          rw [← hS]
          have h46 : (⟨#[46]⟩ : ByteArray).size = 1 := rfl
          have hadd1 : ∀ W : World, (Op.stringOp .add S ⟨#[46]⟩).run Tryd.prog W = .ok (.string (S ++ ⟨#[46]⟩)) W := fun W => run_string_add_sum W _ _ (by omega)
          have hadd2 : ∀ W : World, (Op.stringOp .add (S ++ ⟨#[46]⟩) E).run Tryd.prog W = .ok (.string (S ++ ⟨#[46]⟩ ++ E)) W := fun W => run_string_add_sum W _ _ (by rw [ByteArray.size_append]; omega)
          have hjp : (0 : Int) < (j : Int) := by omega
          clear hS hE hpje hpj hj0 h46
          go_wp2_with fail
          refine (CFI.out _).mono ?_
          rintro e w5 ⟨rfl, hb⟩
          have B5 := Lib.hid (below_step BJ.out hb)
          clear hb
          go_wp2_with fail
          go_roundw
          case rel => exact ⟨j + 1, by have := HPL.out; omega, by go_num, by rw [HNJ.out], B5.out⟩
          case measure => simp [intOf] <;> omega
      have hyz2 : y = z := by rcases hyx with h | h <;> omega
      subst hyz2
      have hyx4 : x = y + 1 := by omega
      have hmore := parts_more ZS.out (show y < 4 by omega)
      rw [show (y : Int) + 1 = (x : Int) from by omega] at hmore
      have HMO := Lib.hid hmore
      have hlt2 : (y : Int) < (x : Int) := by omega
      have OTr := Lib.hid (own_drewN OT.out r)
      have OWr := Lib.hid (own_drewN OW.out r)
      have BWr := Lib.hid (below_drewN' BW.out r)
      have hszr : w.heap.size ≤ (wr.drewN r).heap.size := BW.out.size
      have HPN := Lib.hid hpn
      have HPS := Lib.hid hpset
      have HX4 := Lib.hid hyx4
      clear hlt hyx hyx2 hmore hpn hpset hyx4
      go_wp2_with (at_builtin; refine app_lit elemInt rfl _ _ rfl OTr.out _ _ [.int .i64 0] rfl rfl rfl (by simp [Value.oneCell']) (by omega) hszr ?_; intro v2 w2 ho hg; have O2 := Lib.hid (own_typesN OTr.out OWr.out (by decide) _ hg); have B2 := Lib.hid (below_app (BWr.out.alloc hszr _) hg OTr.out (Nat.le_refl _)); rw [← HX4.out] at ho; have T2 := Lib.hid (cnt_more HMO.out ho); clear ho hg; obtain ⟨Lb, db, eb, hxdb⟩ := own_shape T2.out; subst eb; obtain ⟨g, hLg, hgw, _⟩ := own_cap T2.out (by omega); subst hLg; have hcv := cnt_cell T2.out HPN.out hx1n; have hfv := T2.out.frozenAt x1)
      have T3 := Lib.hid (T2.out.stored x1 (.int .i64 ((pn : Int) + 1))).1
      have hsete : (ints (natI (parts q (x : Int)))).set x1 (.int .i64 ((pn : Int) + 1)) = ints (natI P) := by
        have h := ints_setN (parts q (x : Int)) x1 (pn + 1)
        rw [HPS.out] at h
        rw [← h]
        rfl
      rw [hsete] at T3
      have O3 := Lib.hid (own_storeN (i := x1) (u := .int .i64 ((pn : Int) + 1)) T2.out O2.out (by decide))
      have B3 := Lib.hid (B2.out.setCell (p := ⟨g, x1, none⟩) hgw (.int .i64 ((pn : Int) + 1)))
      obtain ⟨W3, hW3⟩ : ∃ W3, W3 = w2.setCell ⟨g, x1, none⟩ (.int .i64 ((pn : Int) + 1)) := ⟨_, rfl⟩
      rw [← hW3] at T3 O3 B3
      clear hsete
      first | rw [← hW3] | (go_wp2_with fail; rw [← hW3])
      clear hW3 hcv hfv
      have HPL : Hid (P.length = x) := by show P.length = x; rw [HP.out, parts_len (by omega) (by omega)]; rfl
      have HPB : Hid (∀ (k n : Nat), P[k]? = some n → n ≤ 20 + 1) := fun k n h => by
        rw [HP.out] at h
        have h1 := nst_bound (q := q) (v := (x : Int)) (n := 20) hb20
        have h2 : n ∈ (nst q (x : Int)).list := List.mem_of_mem_take (List.mem_of_getElem? h)
        unfold N4.list at h2
        simp only [List.mem_cons, List.not_mem_nil, or_false] at h2
        omega
      go_loopw [6, 7] (NsTxt W3 P) (fun _ k _ => x - (intOf k).toNat)
      case atStart => exact ⟨0, Nat.zero_le _, rfl, rfl, Below.refl _ _⟩
      case round =>
        obtain ⟨j, hj, rfl, rfl, hbj⟩ := hrel
        have BJ := Lib.hid hbj
        clear hbj
        by_cases hjx : j < x
        case neg =>
          have hjx' : j = x := by have := HPL.out; omega
          have hjx2 : ¬ (j : Int) < (x : Int) := by omega
          have HTX : Hid ((⟨(njoin (P.take j)).toArray⟩ : ByteArray) = ntext (nst q (x : Int)) (x : Int)) := by
            show _ = _
            rw [hjx', List.take_of_length_le (by rw [HPL.out]; exact Nat.le_refl _), HP.out]
            rfl
          obtain ⟨F, hF⟩ : ∃ F, F = (⟨(njoin (P.take j)).toArray⟩ : ByteArray) := ⟨_, rfl⟩
          rw [← hF] at HTX
          rw [← hF]
          have O5 := Lib.hid (own_below O3.out BJ.out)
          have T5 := Lib.hid (own_below T3.out BJ.out)
          have B5 := Lib.hid (B3.out.trans (BJ.out.mono B3.out.size))
          have hsz5 : w.heap.size ≤ wr.heap.size := B5.out.size
          clear hF hjx hjx'
          go_wp2_with (at_builtin; refine app_lit elemStr rfl _ _ rfl O5.out _ _ [.string F] rfl rfl rfl (by simp [Value.oneCell']) (by omega) hsz5 ?_; intro v2 w2 ho hg; have O6 := Lib.hid ho; have B6 := Lib.hid (below_app (B5.out.alloc hsz5 _) hg O5.out (Nat.le_refl _)); have T6 := Lib.hid (own_typesN O5.out T5.out (by decide) _ hg); clear ho hg)
          go_roundw
          case rel => exact ⟨m + 1, m + 1, x, nst q (x : Int), ys ++ [F], hml, rfl, by go_num, hx4, by omega, fun _ => EX.out, nst_still q hx1 hx4, QN.out.symm, by rw [NF.out, NN.out, HTX.out]; simp, by simpa [strs'] using O6.out, by rw [← HP.out]; exact T6.out, B6.out⟩
          case measure => simp [intOf] <;> omega
        obtain ⟨b4, o4, pz, eP, ep, hcp⟩ := (Rd.own (own_below T3.out BJ.out)).int_at hjx
        have hpj : P[j]? = some (P[j]'(by rw [HPL.out]; exact hjx)) := List.getElem?_eq_getElem _
        obtain ⟨pj, hpje⟩ : ∃ pj, pj = P[j]'(by rw [HPL.out]; exact hjx) := ⟨_, rfl⟩
        rw [← hpje] at hpj
        rw [natI_get hpj] at ep
        injection ep with ep
        subst ep
        injection eP with eP
        injection eP with eP1 eP2
        subst eP1; subst eP2
        rw [Nat.zero_add] at hcp
        have hp20 := HPB.out j pj hpj
        have CFI := Lib.hid (fun w => formatInt_any pj w (by omega))
        have hds : (decB pj).size ≤ 2 := (dec_len pj).2
        have hss := njB_size P j
        have hjx2 : (j : Int) < (x : Int) := by omega
        have hj00 : (0 : Int) ≤ (j : Int) := by omega
        by_cases hj0 : j = 0
        case pos =>
          have HNJ := Lib.hid (njB_zero hpj hj0)
          obtain ⟨S, hS⟩ : ∃ S, S = (⟨(njoin (P.take j)).toArray⟩ : ByteArray) := ⟨_, rfl⟩
          obtain ⟨E, hE⟩ : ∃ E, E = decB pj := ⟨_, rfl⟩
          rw [← hS] at HNJ hss
          rw [← hE] at HNJ CFI hds
          rw [← hS]
          have hadd : ∀ W : World, (Op.stringOp .add S E).run Tryd.prog W = .ok (.string (S ++ E)) W := fun W => run_string_add_sum W _ _ (by omega)
          have hjn : ¬ (0 : Int) < (j : Int) := by omega
          clear hS hE hpje hpj hj0
          go_wp2_with fail
          refine (CFI.out _).mono ?_
          rintro e w5 ⟨rfl, hb⟩
          have B5 := Lib.hid (below_step BJ.out hb)
          clear hb
          go_wp2_with fail
          go_roundw
          case rel => exact ⟨j + 1, by have := HPL.out; omega, by go_num, by rw [HNJ.out], B5.out⟩
          case measure => simp [intOf] <;> omega
        have HNJ := Lib.hid (njB_next hpj (by omega))
        obtain ⟨S, hS⟩ : ∃ S, S = (⟨(njoin (P.take j)).toArray⟩ : ByteArray) := ⟨_, rfl⟩
        obtain ⟨E, hE⟩ : ∃ E, E = decB pj := ⟨_, rfl⟩
        rw [← hS] at HNJ hss
        rw [← hE] at HNJ CFI hds
        rw [← hS]
        have h46 : (⟨#[46]⟩ : ByteArray).size = 1 := rfl
        have hadd1 : ∀ W : World, (Op.stringOp .add S ⟨#[46]⟩).run Tryd.prog W = .ok (.string (S ++ ⟨#[46]⟩)) W := fun W => run_string_add_sum W _ _ (by omega)
        have hadd2 : ∀ W : World, (Op.stringOp .add (S ++ ⟨#[46]⟩) E).run Tryd.prog W = .ok (.string (S ++ ⟨#[46]⟩ ++ E)) W := fun W => run_string_add_sum W _ _ (by rw [ByteArray.size_append]; omega)
        have hjp : (0 : Int) < (j : Int) := by omega
        clear hS hE hpje hpj hj0 h46
        go_wp2_with fail
        refine (CFI.out _).mono ?_
        rintro e w5 ⟨rfl, hb⟩
        have B5 := Lib.hid (below_step BJ.out hb)
        clear hb
        go_wp2_with fail
        go_roundw
        case rel => exact ⟨j + 1, by have := HPL.out; omega, by go_num, by rw [HNJ.out], B5.out⟩
        case measure => simp [intOf] <;> omega
end Go.Proofs.YtdgmienljhaipaaDoor
