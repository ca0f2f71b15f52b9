/-
  Contract of the program's RunSession.
-/
import Derived.Test.YtmljofijeladoaaGreatDoorSesExec
namespace Go.Proofs.YtmljofijeladoaaGreatDoor
open Go.RowKit
set_option linter.unusedVariables false

def IrR (w : World) (l : List ByteArray) (n : Nat) (i : Value) (wr : World) : Prop :=
  ∃ k : Nat, k ≤ n ∧ k ≤ 30 ∧ i = .int .i64 k ∧ Lib.IsBuilder 38 5 (w.heap.size + 1) (w.heap.size + 1) (Lib.byteCells (srun st0 (l.take k))) wr ∧ SesAt 35 wr w.heap.size (send st0 (l.take k)) ∧ Below w.heap.size w wr
set_option maxHeartbeats 4000000 in
theorem implRun_any (A : Option Addr) (n c : Nat) (l : List ByteArray) (w : World) (hx : Rd w 1 A n (strs' l)) (hn : n ≤ 1048576) (hz : ∀ t ∈ l, t.size ≤ 1048576) (hT : TB w) (hA : AT w) (hM : ML w) :
    Calls Tryz.prog 7 #[.slice A n c] w (TextIs w (baL (sess l))) := by
  have hl := hx.slen
  have HX := Lib.hid hx
  have HZ := Lib.hid hz
  have TT := Lib.hid (fun w1 (hb : Below w.heap.size w w1) => hT.below hb)
  have AA := Lib.hid (fun w1 (hb : Below w.heap.size w w1) => hA.below hb)
  have MM := Lib.hid (fun w1 (hb : Below w.heap.size w w1) => hM.below hb)
  have hbS : Below w.heap.size w (w.alloc (.cells #[.slice none 0 0, .int .i64 60] 35)) := (Below.refl w.heap.size w).alloc (Nat.le_refl _) _
  have BA := Lib.hid (hbS.alloc (by simp) (.cells #[.pointer none, .slice none 0 0] 38))
  have SA : Hid (SesAt 35 ((w.alloc (.cells #[.slice none 0 0, .int .i64 60] 35)).alloc (.cells #[.pointer none, .slice none 0 0] 38)) w.heap.size st0) := by
    refine SesAt.below (w := w.alloc (.cells #[.slice none 0 0, .int .i64 60] 35)) ?_ ((Below.refl _ _).alloc (Nat.le_refl _) _)
    exact ⟨okSt_zero, none, 0, 0, heap_alloc_new w _, World.ownsRow_nil _ _ _ _⟩
  have NA : Hid (Lib.IsBuilder 38 5 (w.heap.size + 1) (w.heap.size + 1) [] ((w.alloc (.cells #[.slice none 0 0, .int .i64 60] 35)).alloc (.cells #[.pointer none, .slice none 0 0] 38))) := by
    show Lib.IsBuilder _ _ _ _ _ _
    have h := builder_new (w.alloc (.cells #[.slice none 0 0, .int .i64 60] 35))
    rw [World.size_alloc] at h
    exact h
  have HE := Lib.hid (fun k (h : k = n ∨ k = 30) (hk : k ≤ 30) => sess_end (l := l) (by rw [hl]; exact h) hk)
  obtain ⟨T, hT'⟩ : ∃ T, T = sess l := ⟨_, rfl⟩
  rw [← hT'] at HE ⊢
  clear hT' hl hx hz hT hA hM hbS
  go_enter Tryz.func7, Tryz.ntmps7
  go_wp2_with fail
  go_loopw [10] (IrR w l n) (fun i _ => n - (intOf i).toNat)
  case atStart => exact ⟨0, Nat.zero_le _, Nat.zero_le _, rfl, NA.out, SA.out, BA.out⟩
  case round =>
    obtain ⟨k, hk, hk30, rfl, hbu, hs, hb⟩ := hrel
    have S0 := Lib.hid hs
    have N0 := Lib.hid hbu
    have B0 := Lib.hid hb
    have X0 := Lib.hid (HX.out.below hb)
    have hszr : w.heap.size + 1 ≤ wr.heap.size := hs.lt
    clear hs hb hbu
    by_cases hlt : k < n
    · obtain ⟨b, o, x, rfl, ex, hc⟩ := X0.out.str_at hlt
      by_cases h30 : k = 30
      · have E := HE.out k (.inr h30) hk30
        rw [E] at N0
        subst h30
        have SB := Lib.hid (Tryz.Builder_String_any (w.heap.size + 1) (w.heap.size + 1) T _ N0.out hszr)
        clear E ex
        go_wp2_with fail
        refine SB.out.mono ?_
        rintro e w5 ⟨rfl, hb⟩
        have B5 := Lib.hid (B0.out.trans (hb.mono (Nat.le_succ _)))
        clear hb
        go_wp2_with fail
        go_ret
        exact ⟨rfl, B5.out⟩
      · have hk' : k < 30 := by omega
        have h30' : ((k : Int) == 30) = false := by rw [beq_eq_false_iff_ne]; omega
        have N1 := Lib.hid (srun_next (st := st0) ex)
        have N2 := Lib.hid (send_next (st := st0) ex)
        have hxs := HZ.out x (List.mem_of_getElem? ex)
        have hps := srun_take (l := l) hk30
        have hss := sstep_size S0.out.ok x
        have CL := Lib.hid (execute_any wr w.heap.size (send st0 (l.take k)) x S0.out hxs (fun w1 hb => TT.out w1 (below_step B0.out hb)) (AA.out _ B0.out) (MM.out _ B0.out))
        obtain ⟨P, hP⟩ : ∃ P, P = srun st0 (l.take k) := ⟨_, rfl⟩
        obtain ⟨st, hst⟩ : ∃ st, st = send st0 (l.take k) := ⟨_, rfl⟩
        rw [← hP] at N1 hps N0
        rw [← hst] at N1 N2 S0 hss CL
        obtain ⟨r, hr⟩ : ∃ r, r = sstep st x := ⟨_, rfl⟩
        rw [← hr] at CL N1 N2 hss
        clear hP hst hr ex h30
        go_wp2_with fail
        refine CL.out.mono ?_
        rintro e w1 ⟨rfl, hs1, hg1⟩
        have S1 := Lib.hid hs1
        have B1 := Lib.hid (below_gr B0.out hg1 (Nat.le_refl _))
        have M1 := Lib.hid (builder_kept N0.out hg1 (Nat.lt_succ_self _))
        have hsz1 := hg1.size
        clear hs1 hg1
        go_wp2_with fail
        refine (writeString_keeps (w.heap.size + 1) (w.heap.size + 1) (Lib.byteCells P) r.1 _ M1.out (by rw [Lib.byteCells_length]; omega) (by omega)).mono ?_
        rintro e w2 ⟨rfl, ⟨hbu, hb⟩, hkp⟩
        rw [cells_app] at hbu
        have M2 : Hid (Lib.IsBuilder 38 5 (w.heap.size + 1) (w.heap.size + 1) (Lib.byteCells (P ++ r.1.data.toList)) w2) := .inr hbu
        have S2 := Lib.hid (hkp.ses (by decide) (by decide) S1.out)
        have B2 := Lib.hid (B1.out.trans (hb.mono (Nat.le_succ _)))
        clear hbu hb hkp
        go_wp2_with fail
        go_roundw
        case rel => exact ⟨k + 1, by omega, by omega, by go_num, by rw [N1.out]; exact M2.out, by rw [N2.out]; exact S2.out, B2.out⟩
        case measure => simp [intOf] <;> omega
    · have E := HE.out k (.inl (by omega)) hk30
      rw [E] at N0
      have SB := Lib.hid (Tryz.Builder_String_any (w.heap.size + 1) (w.heap.size + 1) T _ N0.out hszr)
      clear E
      go_wp2_with fail
      refine SB.out.mono ?_
      rintro e w5 ⟨rfl, hb⟩
      have B5 := Lib.hid (B0.out.trans (hb.mono (Nat.le_succ _)))
      clear hb
      go_wp2_with fail
      go_ret
      exact ⟨rfl, B5.out⟩
end Go.Proofs.YtmljofijeladoaaGreatDoor
