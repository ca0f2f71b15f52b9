/-
  The walk of FnFillLast: the last line of a filled text has its words separated by single spaces.
-/
import Derived.Test.YtagnfampdaeonaaFillTextImpl
import Derived.Test.YtagnfampdaeonaaDrawWords
namespace Go.Proofs.Ytagnfampdaeonaa
open Go.RowKit
set_option linter.unusedVariables false

/-- Where the last line begins. -/
def lastFr : Nat → List Nat → Nat
  | i, [] => i
  | i, [_] => i
  | _, e :: f :: es => lastFr e (f :: es)
theorem lastFr_get : ∀ (es : List Nat) (i : Nat), 2 ≤ es.length → es[es.length - 2]? = some (lastFr i es)
  | [], _, h => by simp at h
  | [_], _, h => by simp at h
  | [e, f], i, _ => rfl
  | e :: f :: g :: es, i, _ => by
    have h := lastFr_get (f :: g :: es) e (by simp)
    show (e :: f :: g :: es)[(f :: g :: es).length + 1 - 2]? = some (lastFr e (f :: g :: es))
    rw [← h]
    rfl
theorem ftL_last {l : List ByteArray} {W : Int} : ∀ (es : List Nat) (i : Nat), es ≠ [] → okE (sizes l) W i es → (ftL l W i es)[es.length - 1]? = some (jw (l.drop (lastFr i es))) ∧ lastFr i es ≤ l.length
  | [], _, h, _ => absurd rfl h
  | [e], i, _, hok => by
    have he : e = l.length := by have := hok.2.2.2; rw [okE, sizes_length] at this; exact this
    have hi := hok.1
    refine ⟨?_, ?_⟩
    · show (ftL l W i [e])[0]? = some (jw (l.drop i))
      rw [ftL, if_neg (by omega)]
      unfold wseg
      rw [List.take_of_length_le (by rw [List.length_drop]; omega)]
      rfl
    · show i ≤ l.length
      omega
  | e :: f :: es, i, _, hok => ftL_last (f :: es) e (by simp) hok.2.2.2

set_option maxHeartbeats 1000000 in
theorem DrawFillText_any (w : World) (a : Option Addr) (n c : Nat) (zs : List Int) (h : InBytes w a n c zs) :
    Calls Try.prog 39 #[.slice a n c] w (WordsW w) := by
  have HD := Lib.hid (DrawWrapWords_any w a n c zs h)
  clear h
  go_enter Try.func39, Try.ntmps39
  go_wp2_with fail
  refine HD.out.mono ?_
  rintro e w1 ⟨L, m, d, xs, wd, rfl, hm, hmd, hx, hxs, hw0, hw1, hB⟩
  have R := Lib.hid (And.intro hx (And.intro hxs hB))
  clear hx hxs hB HD
  go_wp2_with fail
  go_ret2
  exact ⟨L, m, d, xs, wd, rfl, hm, hmd, R.out.1, R.out.2.1, hw0, hw1, R.out.2.2⟩
theorem lastFr_lt {L : List Nat} {W : Int} : ∀ (es : List Nat) (i : Nat), es ≠ [] → okE L W i es → lastFr i es < L.length
  | [], _, h, _ => absurd rfl h
  | [e], i, _, hok => by
    have h1 : i < e := hok.1
    have h2 : e ≤ L.length := hok.2.1
    show i < L.length
    omega
  | e :: f :: es, i, _, hok => lastFr_lt (f :: es) e (by simp) hok.2.2.2
theorem fillT_parts {l : List ByteArray} {wd : Int} : (fillT l wd).length = (wEnds l wd).length ∧ (fillT l wd ≠ [] → ∃ es : List Nat, es ≠ [] ∧ wEnds l wd = es.map (fun x : Nat => (x : Int)) ∧ (fillT l wd)[es.length - 1]? = some (jw (l.drop (lastFr 0 es))) ∧ lastFr 0 es < l.length) := by
  by_cases hv : vWrap l wd = true
  · have hok := okE_wends hv
    have h1 : fillT l wd = ftL l wd 0 (wends (sizes l) wd) := if_pos hv
    rw [wEnds_good hv, h1]
    refine ⟨by rw [ftL_length, List.length_map], fun h => ⟨wends (sizes l) wd, ?_, rfl, ?_⟩⟩
    · intro h0
      rw [h0] at h
      exact h rfl
    · have hne : wends (sizes l) wd ≠ [] := by
        intro h0
        rw [h0] at h
        exact h rfl
      have h3 := lastFr_lt _ 0 hne hok
      rw [sizes_length] at h3
      exact ⟨(ftL_last _ 0 hne hok).1, h3⟩
  · have h1 : fillT l wd = [] := if_neg hv
    have h2 : wEnds l wd = [] := if_neg hv
    rw [h1, h2]
    exact ⟨rfl, fun h => absurd rfl h⟩
set_option maxHeartbeats 8000000 in
theorem FnFillLast_walk (w : World) (a0 : Option Addr) (n0 c0 : Nat) (x0 : List Int) (h0 : InBytes w a0 n0 c0 x0) :
    Calls Try.prog 15 #[.slice a0 n0 c0] w fun e w' => e = .returned (.bool true) ∧ Below w.heap.size w w' := by
  have HD := Lib.hid (DrawFillText_any w a0 n0 c0 x0 h0)
  clear h0
  by_cases g0 : n0 ≤ 1048576
  case neg =>
    go_enter Try.func15, Try.ntmps15
    go_wp2
    go_ret
    exact ⟨rfl, Below.refl _ _⟩
  go_enter Try.func15, Try.ntmps15
  go_wp2_with fail
  refine HD.out.mono ?_
  rintro e w1 ⟨L, m, d, xs, wd, rfl, hm, hmd, hx, hxs, hw0, hw1, hB⟩
  have B0 := Lib.hid hB
  have X0 := Lib.hid hx
  have XL := Lib.hid hx.slen
  have XS := Lib.hid hxs
  have Z0 : Hid (∀ s ∈ xs, s.size ≤ 9223372036854775807) := fun s hs => by have := hxs s hs; omega
  clear hB hx hxs HD
  have HP := Lib.hid (@fillT_parts xs wd)
  obtain ⟨V, hV⟩ : ∃ V, V = fillT xs wd := ⟨_, rfl⟩
  obtain ⟨E, hE⟩ : ∃ E, E = wEnds xs wd := ⟨_, rfl⟩
  have CI := Lib.hid (fun w (h : Rd w 1 L m (strs' xs)) => implFillText_any L m d xs wd w h (by omega) hmd Z0.out)
  have CS := Lib.hid (fun w (h : Rd w 1 L m (strs' xs)) => specFillText_any L m d xs wd w h (by omega) hmd Z0.out)
  have CW := Lib.hid (fun w (h : Rd w 1 L m (strs' xs)) => implWords_any L m d xs wd w h (by omega) hmd Z0.out)
  have hEl : E.length ≤ 40 := by rw [hE]; exact wEnds_len xs wd
  unfold FtRes at CI CS
  rw [← hV] at HP CI CS
  rw [← hE] at HP CW
  clear hV hE
  go_wp2_with fail
  refine (CI.out _ X0.out).mono ?_
  rintro e wa ⟨Ag, kg, dg, rfl, ho, hb⟩
  have Og := Lib.hid ho
  have B1 := Lib.hid hb
  have Kg := Lib.hid (Rd.own ho).slen
  clear ho hb
  go_wp2_with fail
  refine (CW.out _ (X0.out.below B1.out)).mono ?_
  rintro e wb ⟨Ae, ke, de, rfl, ho, hb⟩
  have Oe := Lib.hid ho
  have Og2 := Lib.hid (own_below Og.out hb)
  have B2 := Lib.hid (below_step B1.out hb)
  have hke : ke = kg := by have h := (Rd.own ho).len; rw [← h, ← HP.out.1, Kg.out]
  subst hke
  clear ho hb
  have hk40 : ke ≤ 40 := by have h := (Rd.own Oe.out).len; omega
  go_wp2_with fail
  refine (CS.out _ (X0.out.below B2.out)).mono ?_
  rintro e wc ⟨As, ks, ds, rfl, ho, hb⟩
  have hks : ks = ke := by have h := (Rd.own ho).slen; rw [← h, Kg.out]
  subst hks
  have Os := Lib.hid ho
  have Og3 := Lib.hid (own_below Og2.out hb)
  have Oe3 := Lib.hid (own_below Oe.out hb)
  have B3 := Lib.hid (below_step B2.out hb)
  clear ho hb
  go_wp2_with fail
  refine (equalTexts_any Ag As ks ks dg ds V V _ (Rd.own Og3.out) (Rd.own Os.out) (by omega) (by omega)).mono ?_
  rintro e wd2 ⟨rfl, hb⟩
  have B4 := Lib.hid (below_step B3.out (below_of_drew (B := wc.heap.size) hb))
  have Og4 := Lib.hid (own_below Og3.out (below_of_drew (B := wc.heap.size) hb))
  have Oe4 := Lib.hid (own_below Oe3.out (below_of_drew (B := wc.heap.size) hb))
  clear hb
  by_cases hk0 : ks = 0
  case pos =>
    have hk' : ((ks : Int) == 0) = true := by simp [hk0]
    clear hk0
    go_wp2_with fail
    refine (CS.out _ (X0.out.below B4.out)).mono ?_
    rintro e we ⟨At, kt, dt, rfl, ho, hb⟩
    have hkt : kt = ks := by have h := (Rd.own ho).slen; rw [← h, Kg.out]
    subst hkt
    have Ot := Lib.hid ho
    have Og5 := Lib.hid (own_below Og4.out hb)
    have B5 := Lib.hid (below_step B4.out hb)
    clear ho hb
    go_wp2_with fail
    refine (equalTexts_any Ag At kt kt dg dt V V _ (Rd.own Og5.out) (Rd.own Ot.out) (by omega) (by omega)).mono ?_
    rintro e wf ⟨rfl, hb⟩
    have B6 := Lib.hid (below_step B5.out (below_of_drew (B := we.heap.size) hb))
    clear hb
    go_wp2_with fail
    go_ret
    exact ⟨ret_bool (by simp), below_step B0.out B6.out⟩
  have hk' : ((ks : Int) == 0) = false := by simp; omega
  have hkk : ((ks : Int) != (ks : Int)) = false := by simp
  obtain ⟨es, hne, hEes, hlast, hfr⟩ := HP.out.2 (fun h => hk0 (by rw [← Kg.out, h]; rfl))
  have hel : es.length = ks := by have h := (Rd.own Oe.out).len; rw [hEes, List.length_map] at h; exact h
  obtain ⟨kk, hkk1⟩ : ∃ kk, kk = ks - 1 := ⟨_, rfl⟩
  obtain ⟨b1, o1, sl, eA, esl, hcl⟩ := (Rd.own Og4.out).str_at (k := kk) (by omega)
  rw [hel, ← hkk1] at hlast
  rw [hlast] at esl
  injection esl with esl
  obtain ⟨fr, hfrE⟩ : ∃ fr, fr = lastFr 0 es := ⟨_, rfl⟩
  rw [← hfrE] at esl hfr
  obtain ⟨b, o, rfl, _⟩ := X0.out.2 (by rw [XL.out] at hfr; omega)
  rw [XL.out] at hfr
  have RS : Hid (Rd wd2 1 (some ⟨b, o + fr, none⟩) (m - fr) (strs' (xs.drop fr))) := by
    have h := (X0.out.slice (i := fr) (j := m) (by omega) (Nat.le_refl _)).below B4.out
    rwa [List.take_of_length_le (by rw [List.length_drop, XL.out]; exact Nat.le_refl _)] at h
  have CJ := Lib.hid (fun q => Calls.quiet_of_same (n := q) ((joinWords_any (some ⟨b, o + fr, none⟩) (m - fr) (d - fr) (xs.drop fr) (wd2.drewN q) (RS.out.drewN q) (by omega) (fun s hs => XS.out s (List.mem_of_mem_drop hs))).mono fun _ _ h => ⟨h.1, h.2.symm⟩))
  rw [esl] at CJ
  have hfr0 : (0 : Int) ≤ (fr : Int) := by omega
  have hfrm : (fr : Int) ≤ (m : Int) := by omega
  have hmd' : (m : Int) ≤ (d : Int) := by omega
  have hdf : ¬ d = fr := by omega
  have hss : (sl.toList == sl.toList) = true := by simp
  have hki : (ks : Int) - 1 = (kk : Int) := by omega
  have hkks : (kk : Int) < (ks : Int) := by omega
  subst eA
  by_cases h1 : ks = 1
  case pos =>
    have hf0 : fr = 0 := by
      rw [hfrE]
      match es, hel with
      | [e], _ => rfl
      | [], h => simp at h; omega
      | _ :: _ :: _, h => simp at h; omega
    subst hf0
    have h1' : ¬ (1 : Int) < (ks : Int) := by omega
    clear hlast esl hfrE hel hEes hne hkk1 hk0 h1
    go_wp2_with fail
    go_quiet (first | (go_at_call 31; exact CJ.out _))
    go_wp2_with fail
    go_ret
    exact ⟨ret_bool (by simp), below_step B0.out (below_drewN' B4.out _)⟩
  have h1' : (1 : Int) < (ks : Int) := by omega
  obtain ⟨k2, hk2⟩ : ∃ k2, k2 = ks - 2 := ⟨_, rfl⟩
  have hg2 := lastFr_get es 0 (by omega)
  rw [hel, ← hk2, ← hfrE] at hg2
  obtain ⟨b3, o3, z, eE, ez, hcz⟩ := (Rd.own Oe4.out).int_at (k := k2) (by omega)
  rw [hEes, List.getElem?_map, hg2] at ez
  injection ez with ez
  subst ez
  subst eE
  have hk2i : (ks : Int) - 2 = (k2 : Int) := by omega
  have hk2s : (k2 : Int) < (ks : Int) := by omega
  clear hlast esl hfrE hel hEes hne hkk1 hk2 hg2 hk0 h1
  go_wp2_with fail
  go_quiet (first | (go_at_call 31; exact CJ.out _))
  go_wp2_with fail
  go_ret
  exact ⟨ret_bool (by simp), below_step B0.out (below_drewN' B4.out _)⟩
end Go.Proofs.Ytagnfampdaeonaa
