/-
  Contract of the reference's DecodeItems.
-/
import Derived.Test.YtmnmdecbehfegaaDoorTxtDIs
import Derived.Test.YtmnmdecbehfegaaDoorItems4
namespace Go.Proofs.YtmnmdecbehfegaaDoor
open Go.RowKit
set_option linter.unusedVariables false

/-- What reading gave, in new memory. -/
def ReadsIs (w : World) (r : List It × Bool) (e : Ending) (w' : World) : Prop :=
  ∃ A n c, e = .returned (.tuple #[.slice A n c, .bool r.2]) ∧ w'.ownsRow w.heap.size 29 6 (.slice A n c) n (items r.1) ∧ n ≤ 61 ∧ Below w.heap.size w w'
theorem ReadsIs.no {w w' : World} {r : List It × Bool} (h : r = ([], false)) (hb : Below w.heap.size w w') : ReadsIs w r (.returned (.tuple #[.slice none 0 0, .bool false])) w' := by
  subst h
  exact ⟨none, 0, 0, rfl, World.ownsRow_nil _ _ _ _, by omega, hb⟩
theorem ReadsIs.yes {w w' : World} {r : List It × Bool} {l : List It} {A : Option Addr} {n c : Nat} (h : r = (l, true)) (ho : w'.ownsRow w.heap.size 29 6 (.slice A n c) n (items l)) (hn : n ≤ 61) (hb : Below w.heap.size w w') : ReadsIs w r (.returned (.tuple #[.slice A n c, .bool true])) w' := by
  subst h
  exact ⟨A, n, c, rfl, ho, hn, hb⟩
theorem pItems_get {s t : ByteArray} {k : Nat} (h : (cutB 59 60 s)[k]? = some t) : (pItems s)[k]? = some (pItem (pieceB k t)) := by
  rw [pItems, List.getElem?_map, List.getElem?_zipIdx, h]
  simp
theorem pItems_len (s : ByteArray) : (pItems s).length = (cutB 59 60 s).length := by simp [pItems]
theorem items_snoc {l : List It} {k : Nat} {x : It} (h : l[k]? = some x) : items (l.take k) ++ [.int .i64 x.k, .int .i64 x.w, .int .i64 x.st, .int .i64 x.sh, .int .i64 x.p, .bool x.f] = items (l.take (k + 1)) := by
  rw [List.take_add_one, h, items, items]
  simp [It.cells]
theorem own_other {w w' : World} {o : Obj} {a b n k s2 : Nat} {E1 E2 : TypeId} {v v' : Value} {xs ys : List Value} (h : w.ownsRow a E1 1 v n xs) (hv : w.ownsRow b E2 s2 v' k ys) (hne : E2 ≠ E1) (hg : (w.alloc o).grownBy w' v'.ownBlock) : w'.ownsRow a E1 1 v n xs := by
  refine (h.alloc o).kept hg ?_
  rcases hv.2 with ⟨rfl, _⟩ | ⟨g, cap, cur, rfl, _, hh, _⟩
  · cases hb : v.ownBlock
    · exact .inl rfl
    · exact .inr (by simp [Value.ownBlock])
  · exact .inr (Lib.ownBlock_ne h hh hne)
theorem decIs_yes {s : ByteArray} {l : List It} (h : ∀ m, vItems m = true → jI m = s.data.toList → l = m) (hv : vItems l = true) (he : baL (jI l) = s) : decIs s.data.toList = (l, true) := by
  rw [decIs_of h, if_pos ⟨hv, by rw [← he, baL_list]⟩]
theorem decIs_bad {s : ByteArray} {l : List It} (h : ∀ m, vItems m = true → jI m = s.data.toList → l = m) (hv : vItems l = false) : decIs s.data.toList = ([], false) := by
  rw [decIs_of h, if_neg (fun hh => by rw [hv] at hh; cases hh.1)]
theorem decIs_other {s : ByteArray} {l : List It} (h : ∀ m, vItems m = true → jI m = s.data.toList → l = m) (he : ¬ baL (jI l) = s) : decIs s.data.toList = ([], false) := by
  rw [decIs_of h, if_neg (fun hh => he (ba_ext (by rw [baL_list]; exact hh.2)))]

def DsR (w : World) (l : List It) (ps : List ByteArray) (A : Option Addr) (n d : Nat) (vo vi : Value) (wr : World) : Prop :=
  ∃ k : Nat, k ≤ n ∧ vi = .int .i64 k ∧ wr.ownsRow w.heap.size 29 6 vo k (items (l.take k)) ∧ wr.ownsRow 0 9 1 (.slice A n d) n (strs' ps) ∧ Below w.heap.size w wr
set_option maxHeartbeats 4000000 in
set_option maxRecDepth 8000 in
theorem specDecs_any (s : ByteArray) (w : World) (hs : s.size ≤ 4000000000) : Calls Tryd.prog 24 #[.string s] w (ReadsIs w (decIs s.data.toList)) := by
  have BA0 := Lib.hid ((Below.refl w.heap.size w).alloc (Nat.le_refl _) (.cells #[] 29))
  have ON0 : Hid ((w.alloc (.cells #[] 29)).ownsRow w.heap.size 29 6 (.slice (some ⟨w.heap.size, 0, none⟩) 0 0) 0 (items [])) :=
    ⟨by simp [items], .inr ⟨w.heap.size, 0, #[], rfl, Nat.le_refl _, heap_alloc_new w _, Nat.le_refl _, by unfold maxLen; omega, rfl, rfl⟩⟩
  have SP := Lib.hid (fun w1 => split_any s 59 60 w1 (by omega) (by omega))
  have PG := Lib.hid (fun k t (h : (cutB 59 60 s)[k]? = some t) => pItems_get h)
  have PO := Lib.hid (pItems_of (s := s))
  have PL := pItems_len s
  have hle := cutB_le 59 60 s
  have PS : Hid (∀ t ∈ cutB 59 60 s, t.size ≤ 4000000000) := fun t h => by have := cutB_small h; omega
  obtain ⟨ps, hps⟩ : ∃ ps, ps = cutB 59 60 s := ⟨_, rfl⟩
  rw [← hps] at SP PG PL PS hle
  clear hps
  obtain ⟨l, hl⟩ : ∃ l, l = pItems s := ⟨_, rfl⟩
  rw [← hl] at PG PO PL
  clear hl
  have HPL := Lib.hid PL
  clear PL
  have DB := Lib.hid (fun hv => decIs_bad PO.out hv)
  have DY := Lib.hid (fun hv he => decIs_yes PO.out hv he)
  have DO := Lib.hid (fun he => decIs_other PO.out he)
  obtain ⟨rr, hrr⟩ : ∃ rr, rr = decIs s.data.toList := ⟨_, rfl⟩
  rw [← hrr] at DB DY DO ⊢
  clear hrr
  go_enter Tryd.func24, Tryd.ntmps24
  go_wp2_with fail
  refine (SP.out _).mono ?_
  rintro e w1 ⟨v, rfl, ho, hb⟩
  obtain ⟨n, hn⟩ : ∃ n, n = ps.length := ⟨_, rfl⟩
  rw [← hn] at ho hle
  have HN := Lib.hid hn
  clear hn
  obtain ⟨A, d, hsh, hmd⟩ := own_shape ho
  subst hsh
  have OS1 := Lib.hid (own_base ho (Nat.zero_le _))
  have OI1 := Lib.hid (own_below ON0.out hb)
  have B1 := Lib.hid (BA0.out.trans (hb.mono (by simp)))
  clear ho hb
  go_wp2_with fail
  go_loopw [4, 6] (DsR w l ps A n d) (fun _ i _ => n - (intOf i).toNat)
  case atStart => exact ⟨0, Nat.zero_le _, rfl, OI1.out, OS1.out, B1.out⟩
  case round =>
    obtain ⟨k, hk, rfl, hoi, hos, hb⟩ := hrel
    have OI := Lib.hid hoi
    have OS := Lib.hid hos
    have B0 := Lib.hid hb
    have hsz := hb.size
    obtain ⟨IA, ic, hsh, hic⟩ := own_shape hoi
    subst hsh
    clear hoi hos hb
    by_cases hlt : k < n
    · obtain ⟨b, o, t, rfl, et, hc⟩ := (Rd.own OS.out).str_at hlt
      have NX := Lib.hid (items_snoc (PG.out k t et))
      have hts := PS.out t (List.mem_of_getElem? et)
      clear et
      by_cases hcut : 0 < k ∧ 0 < t.size
      · have hp : pieceB k t = t.extract 1 t.size := if_pos hcut
        rw [hp] at NX
        have PI := Lib.hid (fun w2 => parseItem_any (t.extract 1 t.size) w2 (by rw [ByteArray.size_extract]; omega))
        obtain ⟨x, hx⟩ : ∃ x, x = pItem (t.extract 1 t.size) := ⟨_, rfl⟩
        rw [← hx] at PI NX
        unfold ItemIs at PI
        clear hx hp
        obtain ⟨xk, xw, xst, xsh, xp, xf⟩ := x
        simp only at PI NX
        have h0k := hcut.1
        have h0t := hcut.2
        clear hcut
        go_wp2_with fail
        refine (PI.out _).mono ?_
        rintro e w2 ⟨rfl, hb⟩
        have OI2 := Lib.hid (own_below OI.out hb)
        have OS2 := Lib.hid (own_below OS.out hb)
        have B2 := Lib.hid (below_step B0.out hb)
        have hsz2 := B2.out.size
        clear hb
        go_wp2_with (at_builtin; refine app_lit elemItem rfl _ _ rfl OI2.out _ _ [.int .i64 xk, .int .i64 xw, .int .i64 xst, .int .i64 xsh, .int .i64 xp, .bool xf] rfl rfl rfl (by simp [Value.oneCell']) (by omega) hsz2 ?_; intro v3 w3 ho hg)
        rw [NX.out] at ho
        have OI3 := Lib.hid ho
        have OS3 := Lib.hid (own_other OS2.out OI2.out (by decide) hg)
        have B3 := Lib.hid (below_app (B2.out.alloc hsz2 _) hg OI2.out (Nat.le_refl _))
        clear ho hg
        go_wp2_with fail
        go_roundw
        case rel => exact ⟨k + 1, by omega, by go_num, OI3.out, OS3.out, B3.out⟩
        case measure => simp [intOf] <;> omega
      · have hp : pieceB k t = t := if_neg hcut
        rw [hp] at NX
        have PI := Lib.hid (fun w2 => parseItem_any t w2 (by omega))
        obtain ⟨x, hx⟩ : ∃ x, x = pItem t := ⟨_, rfl⟩
        rw [← hx] at PI NX
        unfold ItemIs at PI
        clear hx hp
        obtain ⟨xk, xw, xst, xsh, xp, xf⟩ := x
        simp only at PI NX
        by_cases h0k : 0 < k
        all_goals
          (try (have h0t : t.size = 0 := (by omega)))
          (try (have h0t' : decide (0 < t.size) = false := decide_eq_false (by omega)))
          (try (have h0t'' : decide ((0 : Int) < (t.size : Int)) = false := decide_eq_false (by omega)))
          (try (have h0k' : decide (0 < k) = false := decide_eq_false h0k))
          (try clear h0t)
          clear hcut
          go_wp2_with fail
          refine (PI.out _).mono ?_
          rintro e w2 ⟨rfl, hb⟩
          have OI2 := Lib.hid (own_below OI.out hb)
          have OS2 := Lib.hid (own_below OS.out hb)
          have B2 := Lib.hid (below_step B0.out hb)
          have hsz2 := B2.out.size
          clear hb
          go_wp2_with (at_builtin; refine app_lit elemItem rfl _ _ rfl OI2.out _ _ [.int .i64 xk, .int .i64 xw, .int .i64 xst, .int .i64 xsh, .int .i64 xp, .bool xf] rfl rfl rfl (by simp [Value.oneCell']) (by omega) hsz2 ?_; intro v3 w3 ho hg)
          rw [NX.out] at ho
          have OI3 := Lib.hid ho
          have OS3 := Lib.hid (own_other OS2.out OI2.out (by decide) hg)
          have B3 := Lib.hid (below_app (B2.out.alloc hsz2 _) hg OI2.out (Nat.le_refl _))
          clear ho hg
          go_wp2_with fail
          go_roundw
          case rel => exact ⟨k + 1, by omega, by go_num, OI3.out, OS3.out, B3.out⟩
          case measure => simp [intOf] <;> omega
    · have hlk : l.take k = l := by
        have h1 : k = n := by omega
        rw [h1, HN.out, ← HPL.out]; exact List.take_length
      rw [hlk] at OI
      clear hlk
      have VI := Lib.hid (specItems_any IA k ic l wr (Rd.own OI.out) (by omega))
      cases hv : vItems l
      · rw [hv] at VI
        have DE := Lib.hid (DB.out hv)
        clear hv
        go_wp2_with fail
        refine VI.out.mono ?_
        rintro e w2 ⟨rfl, hb⟩
        have B2 := Lib.hid (below_step B0.out hb)
        clear hb
        go_wp2_with fail
        go_ret2
        exact ReadsIs.no DE.out B2.out
      · rw [hv] at VI
        have FM := Lib.hid (fun w2 (h : Rd w2 6 IA k (items l)) => fmtsSpec_any IA k ic l w2 h (vItems_each hv).1 (by omega))
        by_cases he : baL (jI l) = s
        · have DE := Lib.hid (DY.out hv he)
          have c1 := str_same he
          have c2 := str_same he.symm
          obtain ⟨E, hE⟩ : ∃ E, E = baL (jI l) := ⟨_, rfl⟩
          rw [← hE] at FM c1 c2
          clear hE he hv
          go_wp2_with fail
          refine VI.out.mono ?_
          rintro e w2 ⟨rfl, hb⟩
          have OI2 := Lib.hid (own_below OI.out hb)
          have B2 := Lib.hid (below_step B0.out hb)
          clear hb
          go_wp2_with fail
          refine (FM.out _ (Rd.own OI2.out)).mono ?_
          rintro e w3 ⟨rfl, hb⟩
          have OI3 := Lib.hid (own_below OI2.out hb)
          have B3 := Lib.hid (below_step B2.out hb)
          clear hb
          go_wp2_with fail
          go_ret2
          exact ReadsIs.yes DE.out OI3.out (by omega) B3.out
        · have DE := Lib.hid (DO.out he)
          have c1 : ((baL (jI l)).toList == s.toList) = false := str_parts he
          have c2 : (s.toList == (baL (jI l)).toList) = false := str_parts (fun h => he h.symm)
          obtain ⟨E, hE⟩ : ∃ E, E = baL (jI l) := ⟨_, rfl⟩
          rw [← hE] at FM c1 c2
          clear hE he hv
          go_wp2_with fail
          refine VI.out.mono ?_
          rintro e w2 ⟨rfl, hb⟩
          have OI2 := Lib.hid (own_below OI.out hb)
          have B2 := Lib.hid (below_step B0.out hb)
          clear hb
          go_wp2_with fail
          refine (FM.out _ (Rd.own OI2.out)).mono ?_
          rintro e w3 ⟨rfl, hb⟩
          have B3 := Lib.hid (below_step B2.out hb)
          clear hb
          go_wp2_with fail
          go_ret2
          exact ReadsIs.no DE.out B3.out
end Go.Proofs.YtmnmdecbehfegaaDoor
