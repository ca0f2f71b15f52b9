/-
  Contracts of the reference's session: its lines, its numbers, its commands.
-/
import Derived.Test.YtmljofijeladoaaDoorSesBase
import Derived.Deep.RegionHeld3
namespace Go.Proofs.YtmljofijeladoaaDoor
open Go.RowKit
set_option linter.unusedVariables false

def LiR (w : World) (l : List ByteArray) (n : Nat) (v i : Value) (wr : World) : Prop := ∃ k : Nat, k ≤ n ∧ v = .string (baL (nlL (l.take k))) ∧ i = .int .i64 k ∧ w = wr
theorem nl_app (a : List UInt8) (t : ByteArray) : (baL a ++ t) ++ ⟨#[10]⟩ = baL (a ++ (t.data.toList ++ [10])) := by
  apply ba_ext
  simp [app_toList, baL]
set_option maxHeartbeats 4000000 in
theorem lines_any (A : Option Addr) (n c : Nat) (l : List ByteArray) (w : World) (hx : Rd w 1 A n (strs' l)) (hn : n ≤ 40) (hz : ∀ t ∈ l, t.size ≤ 60) :
    Calls Tryd.prog 47 #[.slice A n c] w fun e w' => e = .returned (.string (baL (nlL l))) ∧ w = w' := by
  have hl := hx.slen
  have HL := Lib.hid hl
  have HX := Lib.hid hx
  have HB : Hid (∀ k, (baL (nlL (l.take k))).size ≤ 3000) := fun k => by
    have h1 := nlL_len (l.take k) (fun t ht => hz t (List.mem_of_mem_take ht))
    have h2 : (l.take k).length ≤ 40 := by rw [List.length_take]; omega
    show (nlL (l.take k)).length ≤ 3000
    omega
  have HZ := Lib.hid hz
  clear hl hx hz
  go_enter Tryd.func47, Tryd.ntmps47
  go_wp2_with fail
  go_loopw [3, 4] (LiR w l n) (fun _ i _ => n - (intOf i).toNat)
  case atStart => exact ⟨0, Nat.zero_le _, by simp [nlL, baL], rfl, rfl⟩
  case round =>
    obtain ⟨k, hk, rfl, rfl, rfl⟩ := hrel
    by_cases hlt : k < n
    · obtain ⟨b, o, t, rfl, et, hc⟩ := HX.out.str_at hlt
      have NX := Lib.hid (nlL_snoc l k t et)
      have ht := HZ.out t (List.mem_of_getElem? et)
      have hs := HB.out k
      obtain ⟨P, hP⟩ : ∃ P, P = nlL (l.take k) := ⟨_, rfl⟩
      have HP := Lib.hid hP
      rw [← hP] at hs ⊢
      clear hP et
      have r1 : ∀ W : World, (Op.stringOp .add (baL P) t).run Tryd.prog W = .ok (.string (baL P ++ t)) W := sum_run _ _ (by omega) (by omega)
      have r2 : ∀ W : World, (Op.stringOp .add (baL P ++ t) ⟨#[10]⟩).run Tryd.prog W = .ok (.string ((baL P ++ t) ++ ⟨#[10]⟩)) W := sum_run _ _ (by rw [sz_two]; omega) (by decide)
      go_wp2_with fail
      go_roundw
      case rel => exact ⟨k + 1, by omega, by rw [NX.out, ← HP.out, ← nl_app], by go_num, rfl⟩
      case measure => simp [intOf] <;> omega
    · have hkn : k = n := by omega
      have E : Hid (l.take k = l) := by show _ = _; rw [hkn, ← HL.out]; exact List.take_length
      obtain ⟨P, hP⟩ : ∃ P, P = l.take k := ⟨_, rfl⟩
      rw [← hP] at E ⊢
      clear hkn hP
      go_wp2_with fail
      go_ret
      exact ⟨congrArg (fun z => Ending.returned (.string (baL (nlL z)))) E.out, rfl⟩

def NuR (w : World) (es : List Int) (n : Nat) (v i : Value) (wr : World) : Prop := ∃ k : Nat, k ≤ n ∧ v = .string (numsB (es.take k)) ∧ i = .int .i64 k ∧ Below w.heap.size w wr
set_option maxHeartbeats 4000000 in
theorem formatInts_any (A : Option Addr) (n c : Nat) (es : List Int) (w : World) (hx : Rd w 1 A n (ints es)) (hn : n ≤ 40) (hz : ∀ e ∈ es, 0 ≤ e ∧ e ≤ 40) :
    Calls Tryd.prog 48 #[.slice A n c] w (TextIs w (numsB es)) := by
  have HL := Lib.hid hx.len
  have HX := Lib.hid hx
  have HB : Hid (∀ k, (numsB (es.take k)).size ≤ 2000) := fun k => numsB_size (by have := hx.len; rw [List.length_take]; omega) (fun e he => hz e (List.mem_of_mem_take he))
  have HZ := Lib.hid hz
  clear hx hz
  go_enter Tryd.func48, Tryd.ntmps48
  go_wp2_with fail
  go_loopw [3, 4] (NuR w es n) (fun _ i _ => n - (intOf i).toNat)
  case atStart => exact ⟨0, Nat.zero_le _, rfl, rfl, Below.refl _ _⟩
  case round =>
    obtain ⟨k, hk, rfl, rfl, hb⟩ := hrel
    have B0 := Lib.hid hb
    have X0 := Lib.hid (HX.out.below hb)
    clear hb
    by_cases hlt : k < n
    · obtain ⟨b, o, x, rfl, ex, hc⟩ := X0.out.int_at hlt
      have NX := Lib.hid (numsB_next ex)
      have hx0 := HZ.out x (List.mem_of_getElem? ex)
      have hs := HB.out k
      have CF := Lib.hid (fun w1 => formatInt_any x w1 (by omega) (by omega))
      have hxs := itoaB_short (n := x) (by omega) (by omega)
      obtain ⟨P, hP⟩ : ∃ P, P = numsB (es.take k) := ⟨_, rfl⟩
      have HP := Lib.hid hP
      rw [← hP] at hs ⊢
      obtain ⟨T, hT⟩ : ∃ T, T = itoaB x := ⟨_, rfl⟩
      rw [← hT] at hxs NX CF
      clear hP ex hT
      by_cases hk0 : 0 < k
      · rw [if_pos hk0] at NX
        have r1 : ∀ W : World, (Op.stringOp .add P ⟨#[32]⟩).run Tryd.prog W = .ok (.string (P ++ ⟨#[32]⟩)) W := sum_run _ _ (by omega) (by decide)
        have r2 : ∀ W : World, (Op.stringOp .add (P ++ ⟨#[32]⟩) T).run Tryd.prog W = .ok (.string ((P ++ ⟨#[32]⟩) ++ T)) W := sum_run _ _ (by rw [sz_two]; have : (⟨#[32]⟩ : ByteArray).size = 1 := rfl; omega) (by omega)
        go_wp2_with fail
        refine (CF.out _).mono ?_
        rintro e w1 ⟨rfl, hb⟩
        have B1 := Lib.hid (below_step B0.out hb)
        clear hb
        go_wp2_with fail
        go_roundw
        case rel => exact ⟨k + 1, by omega, by rw [NX.out, ← HP.out], by go_num, B1.out⟩
        case measure => simp [intOf] <;> omega
      · rw [if_neg hk0] at NX
        have r1 : ∀ W : World, (Op.stringOp .add P T).run Tryd.prog W = .ok (.string (P ++ T)) W := sum_run _ _ (by omega) (by omega)
        go_wp2_with fail
        refine (CF.out _).mono ?_
        rintro e w1 ⟨rfl, hb⟩
        have B1 := Lib.hid (below_step B0.out hb)
        clear hb
        go_wp2_with fail
        go_roundw
        case rel => exact ⟨k + 1, by omega, by rw [NX.out, ← HP.out], by go_num, B1.out⟩
        case measure => simp [intOf] <;> omega
    · have hkn : k = n := by omega
      have E : Hid (es.take k = es) := by show _ = _; rw [hkn, ← HL.out]; exact List.take_length
      obtain ⟨P, hP⟩ : ∃ P, P = es.take k := ⟨_, rfl⟩
      rw [← hP] at E ⊢
      clear hkn hP
      go_wp2_with fail
      go_ret
      exact ⟨congrArg (fun z => Ending.returned (.string (numsB z))) E.out, B0.out⟩

set_option maxHeartbeats 4000000 in
theorem specSetWords_any (w : World) (g : Nat) (st : St) (t : ByteArray) (hS : SesAt 52 w g st) (ht : t.size ≤ 4000000000) :
    Calls Tryd.prog 45 #[.pointer (some ⟨g, 0, none⟩), .string t] w (Stepped 52 w g (if vWords (allB 32 t) = true then (okT, ⟨allB 32 t, st.wd⟩) else (noT, st))) := by
  have hw := vWrap_words hS.ok
  have S0 := Lib.hid hS
  have SP := Lib.hid (fun w1 => split_any t 32 40 w1 (by omega) (by omega))
  have hz : ∀ s ∈ cutB 32 40 t, s.size ≤ 9223372036854775807 := fun s hs => by have := cutB_small hs; omega
  have hpos := cutB_pos 32 40 t
  have hle := cutB_le 32 40 t
  obtain ⟨c1, c2⟩ := cut40 t
  have VW := Lib.hid (fun A n c w1 (h : Rd w1 1 A n (strs' (cutB 32 40 t))) (hn : n ≤ 100) => specWords_any A n c (cutB 32 40 t) w1 h (by omega) hz)
  rw [c1] at VW
  obtain ⟨l, hl⟩ : ∃ l, l = cutB 32 40 t := ⟨_, rfl⟩
  rw [← hl] at SP VW hpos hle c2
  clear hS hz c1 hl
  cases hv : vWords (allB 32 t)
  · rw [hv] at VW
    rw [if_neg (by decide)]
    clear hv c2
    go_enter Tryd.func45, Tryd.ntmps45
    go_wp2_with fail
    refine (SP.out _).mono ?_
    rintro e w1 ⟨v, rfl, ho, hb⟩
    obtain ⟨A, d, hsh, hmd⟩ := own_shape ho
    subst hsh
    have R1 := Lib.hid (Rd.own ho)
    have B1 := Lib.hid hb
    clear ho hb
    go_wp2_with fail
    refine (VW.out A _ d _ R1.out (by omega)).mono ?_
    rintro e w2 ⟨rfl, rfl⟩
    go_wp2_with fail
    go_ret
    exact ⟨rfl, S0.out.below B1.out, gr_of_below B1.out⟩
  · rw [hv] at VW
    rw [if_pos rfl]
    have HC := Lib.hid (c2 hv)
    have KO : Hid (okSt ⟨allB 32 t, st.wd⟩) := by show vWrap _ _ = true; rw [vWrap, hv, inB_true hw.2.2.1 hw.2.2.2]; rfl
    clear hv c2 hw
    go_enter Tryd.func45, Tryd.ntmps45
    go_wp2_with fail
    refine (SP.out _).mono ?_
    rintro e w1 ⟨v, rfl, ho, hb⟩
    obtain ⟨A, d, hsh, hmd⟩ := own_shape ho
    subst hsh
    have R1 := Lib.hid (Rd.own ho)
    have O1 := Lib.hid (own_base ho (Nat.zero_le _))
    have S1 := Lib.hid (S0.out.below hb)
    have B1 := Lib.hid hb
    obtain ⟨_, _, _, hc0, hc1, hf0, hf1, _⟩ := S1.out.cells
    clear ho hb
    go_wp2_with fail
    refine (VW.out A _ d _ R1.out (by omega)).mono ?_
    rintro e w2 ⟨rfl, rfl⟩
    go_wp2_with fail
    go_ret
    refine ⟨rfl, ?_, gr_trans (gr_of_below B1.out) (gr_set0 w1 g 0 _)⟩
    refine S1.out.setWords (by decide) KO.out ?_
    rw [← HC.out]
    exact O1.out

set_option maxHeartbeats 4000000 in
theorem specSetWidth_any (w : World) (g : Nat) (st : St) (t : ByteArray) (hS : SesAt 52 w g st) (ht : t.size ≤ 4000000000) :
    Calls Tryd.prog 46 #[.pointer (some ⟨g, 0, none⟩), .string t] w (Stepped 52 w g (if wOk t = true then (okT, ⟨st.ws, pIntL t.data.toList⟩) else (noT, st))) := by
  have hw := hS.ok
  have S0 := Lib.hid hS
  have PI := Lib.hid (fun w1 => parseInt_any t w1 (by omega))
  have hpb : -30000000000 ≤ pIntL t.data.toList ∧ pIntL t.data.toList ≤ 30000000000 := by
    have := psum_bound (l := unsign t.data.toList) (k := 9) (Nat.le_refl _)
    unfold pIntL signOf
    split
    · omega
    · split <;> omega
  have CF := Lib.hid (fun w1 => formatInt_any (pIntL t.data.toList) w1 (by omega) (by omega))
  have IR := Lib.hid (fun w1 => inRange_any (pIntL t.data.toList) 20 60 _ rfl w1)
  have HW : Hid (wOk t = (inB 20 60 (pIntL t.data.toList) && decide (itoaB (pIntL t.data.toList) = t))) := rfl
  obtain ⟨N, hN⟩ : ∃ N, N = pIntL t.data.toList := ⟨_, rfl⟩
  rw [← hN] at PI CF IR HW hpb ⊢
  clear hN hS
  obtain ⟨E, hE⟩ : ∃ E, E = itoaB N := ⟨_, rfl⟩
  rw [← hE] at CF HW
  clear hE
  by_cases he : E = t
  · have cm : (E.toList == t.toList) = true := str_same he
    have cm2 : (t.toList == E.toList) = true := str_same he.symm
    rw [decide_eq_true he, Bool.and_true] at HW
    clear he
    cases hr : inB 20 60 N
    · rw [hr] at IR HW
      rw [HW.out, if_neg (by decide)]
      clear hr
      go_enter Tryd.func46, Tryd.ntmps46
      go_wp2_with (first | (go_at_call 67; refine (PI.out _).mono ?_; rintro e w' ⟨rfl, rfl⟩) | (go_at_call 50; refine (CF.out _).mono ?_; rintro e w1 ⟨rfl, hb⟩; have B1 := Lib.hid hb; clear hb) | (go_at_call 20; refine (IR.out _).mono ?_; rintro e w' ⟨rfl, rfl⟩))
      go_ret
      exact ⟨rfl, S0.out.below B1.out, gr_of_below B1.out⟩
    · have hrr := inB_iff.1 hr
      rw [hr] at IR HW
      rw [HW.out, if_pos rfl]
      have KO : Hid (okSt ⟨st.ws, N⟩) := by
        have hv : vWords st.ws = true := by unfold okSt vWrap at hw; exact (Bool.and_eq_true _ _ ▸ hw).1
        show vWrap _ _ = true
        rw [vWrap, hv, hr]; rfl
      clear hr hw
      go_enter Tryd.func46, Tryd.ntmps46
      go_wp2_with fail
      refine (PI.out _).mono ?_
      rintro e w' ⟨rfl, rfl⟩
      go_wp2_with fail
      refine (CF.out _).mono ?_
      rintro e w1 ⟨rfl, hb⟩
      have B1 := Lib.hid hb
      have S1 := Lib.hid (S0.out.below hb)
      obtain ⟨_, _, _, hc0, hc1, hf0, hf1, _⟩ := S1.out.cells
      clear hb
      go_wp2_with (go_at_call 20; refine (IR.out _).mono ?_; rintro e w' ⟨rfl, rfl⟩)
      go_ret
      exact ⟨rfl, S1.out.setWidth (by decide) KO.out, gr_trans (gr_of_below B1.out) (gr_set0 w1 g 1 _)⟩
  · have cm : (E.toList == t.toList) = false := str_parts he
    have cm2 : (t.toList == E.toList) = false := str_parts (fun h => he h.symm)
    rw [decide_eq_false he, Bool.and_false] at HW
    rw [HW.out, if_neg (by decide)]
    clear he
    go_enter Tryd.func46, Tryd.ntmps46
    go_wp2_with (first | (go_at_call 67; refine (PI.out _).mono ?_; rintro e w' ⟨rfl, rfl⟩) | (go_at_call 50; refine (CF.out _).mono ?_; rintro e w1 ⟨rfl, hb⟩; have B1 := Lib.hid hb; clear hb))
    go_ret
    exact ⟨rfl, S0.out.below B1.out, gr_of_below B1.out⟩
end Go.Proofs.YtmljofijeladoaaDoor
