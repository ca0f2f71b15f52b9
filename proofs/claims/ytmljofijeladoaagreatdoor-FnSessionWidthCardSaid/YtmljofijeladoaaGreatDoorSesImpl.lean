/-
  Contracts of the program's session: setting the words, setting the width, cutting a command off.
-/
import Derived.Test.YtmljofijeladoaaGreatDoorSesRunS
namespace Go.Proofs.YtmljofijeladoaaGreatDoor
open Go.RowKit
set_option linter.unusedVariables false

def okS : ByteArray := ⟨#[111, 107]⟩
def noS : ByteArray := ⟨#[110, 111]⟩
/-- A setting has answered, without the newline. -/
def SetTo (t : TypeId) (w : World) (g : Nat) (s : ByteArray) (st : St) (e : Ending) (w' : World) : Prop := e = .returned (.string s) ∧ SesAt t w' g st ∧ w.grownBy w' (some g)

set_option maxHeartbeats 4000000 in
theorem implSetWords_any (w : World) (g : Nat) (st : St) (A : Option Addr) (n c : Nat) (l : List ByteArray) (hS : SesAt 35 w g st) (ho : w.ownsRow 0 9 1 (.slice A n c) n (strs' l)) (hn : n ≤ 1048576) (hz : ∀ s ∈ l, s.size ≤ 9223372036854775807) :
    Calls Tryz.prog 22 #[.pointer (some ⟨g, 0, none⟩), .slice A n c] w (SetTo 35 w g (if vWords l = true then okS else noS) (if vWords l = true then ⟨l, st.wd⟩ else st)) := by
  have hw := vWrap_words hS.ok
  have S0 := Lib.hid hS
  have O0 := Lib.hid ho
  obtain ⟨_, _, _, hc0, hc1, hf0, hf1, _⟩ := hS.cells
  have VW := Lib.hid (fun w1 (h : Rd w1 1 A n (strs' l)) => implWrap_any A n c l st.wd w1 h hn hz)
  have e : vWrap l st.wd = vWords l := by rw [vWrap, inB_true hw.2.2.1 hw.2.2.2, Bool.and_true]
  rw [e] at VW
  clear hS ho hz
  cases hv : vWords l
  · rw [hv] at VW
    rw [if_neg (by decide), if_neg (by decide)]
    clear hv e hw
    go_enter Tryz.func22, Tryz.ntmps22
    go_wp2_with (go_at_call 41; refine (VW.out _ (Rd.own O0.out)).mono ?_; rintro e w' ⟨rfl, rfl⟩)
    go_ret
    exact ⟨rfl, S0.out, World.grownBy.refl _ _⟩
  · rw [hv] at VW
    rw [if_pos rfl, if_pos rfl]
    have KO : Hid (okSt ⟨l, st.wd⟩) := by show vWrap _ _ = true; rw [e, hv]
    clear hv e hw
    go_enter Tryz.func22, Tryz.ntmps22
    go_wp2_with (go_at_call 41; refine (VW.out _ (Rd.own O0.out)).mono ?_; rintro e w' ⟨rfl, rfl⟩)
    go_ret
    exact ⟨rfl, S0.out.setWords (by decide) KO.out O0.out, gr_set0 _ g 0 _⟩

theorem atoi_ok (s : ByteArray) (v : Int) (h : Lib.atoiAll s.data.toList = .ok v) (w : World) (hs : s.size ≤ 4294967280) :
    Calls Tryz.prog 43 #[.string s] w fun e w' => e = .returned (.tuple #[.int .i64 v, .nilIface]) ∧ Below w.heap.size w w' := by
  refine (Tryz.strconv_Atoi_ok s (by omega) v h w).mono ?_
  rintro e w' ⟨rfl, hw⟩
  refine ⟨rfl, ?_⟩
  rcases hw with rfl | ⟨t, rfl⟩
  · exact Below.refl _ _
  · exact Lib.bytesWorld_below _ _ _
theorem atoi_err (s : ByteArray) (h : ∀ v, Lib.atoiAll s.data.toList ≠ .ok v) (w : World) (hs : s.size ≤ 4294967280) (ha : AT w) :
    Calls Tryz.prog 43 #[.string s] w fun e w' => ∃ z N, e = .returned (.tuple #[.int .i64 z, .iface 89 (.pointer (some ⟨N, 0, none⟩))]) ∧ Below w.heap.size w w' := by
  obtain ⟨⟨e0, h0, k0⟩, ⟨e1, h1, k1⟩⟩ := ha
  rcases hr : Lib.atoiAll s.data.toList with v | _ | _
  · exact absurd hr (h v)
  · refine (Tryz.strconv_Atoi_syntax s (by omega) h (fun e => by rw [hr] at e; cases e) e0 w h0 k0).mono ?_
    rintro e w' ⟨N, rfl, _, _, hb⟩
    exact ⟨_, N, rfl, hb⟩
  · refine (Tryz.strconv_Atoi_range s (by omega) hr e1 w h1 k1).mono ?_
    rintro e w' ⟨N, rfl, _, _, hb⟩
    exact ⟨_, N, rfl, hb⟩

set_option maxHeartbeats 4000000 in
theorem implSetWidth_any (w : World) (g : Nat) (st : St) (t : ByteArray) (hS : SesAt 35 w g st) (ht : t.size ≤ 1048576) (hT : ∀ w1, Below w.heap.size w w1 → TB w1) (hA : AT w) :
    Calls Tryz.prog 24 #[.pointer (some ⟨g, 0, none⟩), .string t] w (SetTo 35 w g (if wOk t = true then okS else noS) (if wOk t = true then ⟨st.ws, pIntL t.data.toList⟩ else st)) := by
  have S0 := Lib.hid hS
  have T0 := Lib.hid hT
  by_cases hv : ∃ v, Lib.atoiAll t.data.toList = .ok v
  · obtain ⟨v, hv⟩ := hv
    obtain ⟨e1, e2⟩ := wOk_val hv
    have AO := Lib.hid (fun w1 => atoi_ok t v hv w1 (by omega))
    have IR := Lib.hid (fun w1 => within_any v 20 60 _ rfl w1)
    clear hv hT hA
    cases hr : inB 20 60 v
    · rw [hr, Bool.false_and] at e1
      rw [e1, if_neg (by decide), if_neg (by decide)]
      rw [hr] at IR
      clear e1 e2 hr hS
      go_enter Tryz.func24, Tryz.ntmps24
      go_wp2_with (first | (go_at_call 43; refine (AO.out _).mono ?_; rintro e w1 ⟨rfl, hb⟩; have B1 := Lib.hid hb; clear hb) | (go_at_call 44; refine (IR.out _).mono ?_; rintro e w' ⟨rfl, rfl⟩))
      go_ret
      exact ⟨rfl, S0.out.below B1.out, gr_of_below B1.out⟩
    · have hrr := inB_iff.1 hr
      have CI := Lib.hid (fun w1 h => writesImpl v w1 (by omega) (by omega) h)
      obtain ⟨E, hE⟩ : ∃ E, E = itoaB v := ⟨_, rfl⟩
      rw [← hE] at CI e1
      clear hE
      rw [hr] at IR
      by_cases he : E = t
      · have cm : (E.toList == t.toList) = true := str_same he
        have cm2 : (t.toList == E.toList) = true := str_same he.symm
        rw [hr, decide_eq_true he, Bool.true_and] at e1
        rw [e1, if_pos rfl, if_pos rfl, e2 e1]
        have KO : Hid (okSt ⟨st.ws, v⟩) := by
          have hw := hS.ok
          have hv : vWords st.ws = true := by unfold okSt vWrap at hw; exact (Bool.and_eq_true _ _ ▸ hw).1
          show vWrap _ _ = true
          rw [vWrap, hv, hr]; rfl
        clear e1 e2 hr hS he
        go_enter Tryz.func24, Tryz.ntmps24
        go_wp2_with fail
        refine (AO.out _).mono ?_
        rintro e w1 ⟨rfl, hb⟩
        have B1 := Lib.hid hb
        clear hb
        go_wp2_with fail
        refine (IR.out _).mono ?_
        rintro e w' ⟨rfl, rfl⟩
        go_wp2_with fail
        refine (CI.out _ (T0.out _ B1.out)).mono ?_
        rintro e w2 ⟨rfl, hb⟩
        have B2 := Lib.hid (below_step B1.out hb)
        have S2 := Lib.hid (S0.out.below B2.out)
        obtain ⟨_, _, _, hc0, hc1, hf0, hf1, _⟩ := S2.out.cells
        clear hb
        go_wp2_with fail
        go_ret
        exact ⟨rfl, S2.out.setWidth (by decide) KO.out, gr_trans (gr_of_below B2.out) (gr_set0 w2 g 1 _)⟩
      · have cm : (E.toList == t.toList) = false := str_parts he
        have cm2 : (t.toList == E.toList) = false := str_parts (fun h => he h.symm)
        rw [hr, decide_eq_false he, Bool.and_false] at e1
        rw [e1, if_neg (by decide), if_neg (by decide)]
        clear e1 e2 hr hS he
        go_enter Tryz.func24, Tryz.ntmps24
        go_wp2_with fail
        refine (AO.out _).mono ?_
        rintro e w1 ⟨rfl, hb⟩
        have B1 := Lib.hid hb
        clear hb
        go_wp2_with fail
        refine (IR.out _).mono ?_
        rintro e w' ⟨rfl, rfl⟩
        go_wp2_with fail
        refine (CI.out _ (T0.out _ B1.out)).mono ?_
        rintro e w2 ⟨rfl, hb⟩
        have B2 := Lib.hid (below_step B1.out hb)
        clear hb
        go_wp2_with fail
        go_ret
        exact ⟨rfl, S0.out.below B2.out, gr_of_below B2.out⟩
  · have hv' : ∀ v, Lib.atoiAll t.data.toList ≠ .ok v := fun v h => hv ⟨v, h⟩
    rw [wOk_err hv', if_neg (by decide), if_neg (by decide)]
    have AE := Lib.hid (atoi_err t hv' w (by omega) hA)
    clear hv hv' hT hA hS
    go_enter Tryz.func24, Tryz.ntmps24
    go_wp2_with fail
    refine AE.out.mono ?_
    rintro e w1 ⟨z, N, rfl, hb⟩
    have B1 := Lib.hid hb
    clear hb
    go_wp2_with fail
    go_ret
    exact ⟨rfl, S0.out.below B1.out, gr_of_below B1.out⟩

theorem cut_yes (x p : ByteArray) (hp : p.data.toList.length = 6) (h : Lib.hasPrefix x.data.toList p.data.toList = true) (w : World) :
    Calls Tryz.prog 21 #[.string x, .string p] w fun e w' => e = .returned (.tuple #[.string (aft x), .bool true]) ∧ w = w' := by
  refine (Tryz.strings_CutPrefix x p w).mono ?_
  rintro e w' ⟨rfl, rfl⟩
  refine ⟨?_, rfl⟩
  rw [h, Lib.trimPrefix, if_pos h, hp]
  rfl
theorem cut_no (x p : ByteArray) (h : Lib.hasPrefix x.data.toList p.data.toList = false) (w : World) :
    Calls Tryz.prog 21 #[.string x, .string p] w fun e w' => e = .returned (.tuple #[.string x, .bool false]) ∧ w = w' := by
  refine (Tryz.strings_CutPrefix x p w).mono ?_
  rintro e w' ⟨rfl, rfl⟩
  refine ⟨?_, rfl⟩
  rw [h, Lib.trimPrefix, if_neg (by rw [h]; decide)]
end Go.Proofs.YtmljofijeladoaaGreatDoor
