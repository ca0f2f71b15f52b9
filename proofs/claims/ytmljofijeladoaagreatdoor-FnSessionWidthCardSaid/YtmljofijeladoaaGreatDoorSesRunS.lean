/-
  Contract of the reference's RunSession; how a session's output grows by one command.
-/
import Derived.Test.YtmljofijeladoaaGreatDoorSesLine
namespace Go.Proofs.YtmljofijeladoaaGreatDoor
open Go.RowKit
set_option linter.unusedVariables false

theorem baL_app2 (a b : List UInt8) : baL a ++ baL b = baL (a ++ b) := by
  apply ba_ext
  rw [app_toList]; rfl
theorem srun_app (st : St) : ∀ (l r : List ByteArray), srun st (l ++ r) = srun st l ++ srun (send st l) r
  | [], r => by simp [srun, send]
  | x :: l, r => by
    have := srun_app (sstep st x).2 l r
    simp only [List.cons_append, srun, send, this, List.append_assoc]
theorem send_app (st : St) : ∀ (l r : List ByteArray), send st (l ++ r) = send (send st l) r
  | [], r => rfl
  | x :: l, r => by
    have := send_app (sstep st x).2 l r
    simp only [List.cons_append, send, this]
theorem srun_next {st : St} {l : List ByteArray} {k : Nat} {x : ByteArray} (h : l[k]? = some x) : srun st (l.take (k + 1)) = srun st (l.take k) ++ (sstep (send st (l.take k)) x).1.data.toList := by
  rw [List.take_add_one, h, srun_app]
  simp [srun]
theorem send_next {st : St} {l : List ByteArray} {k : Nat} {x : ByteArray} (h : l[k]? = some x) : send st (l.take (k + 1)) = (sstep (send st (l.take k)) x).2 := by
  rw [List.take_add_one, h, send_app]
  simp [send]
theorem send_ok {st : St} (h : okSt st) : ∀ (l : List ByteArray), okSt (send st l)
  | [] => h
  | x :: l => send_ok (okSt_step h x) l
theorem srun_len {st : St} (h : okSt st) : ∀ (l : List ByteArray), (srun st l).length ≤ 3000 * l.length
  | [] => by simp [srun]
  | x :: l => by
    have h1 := sstep_size h x
    have h2 := srun_len (okSt_step h x) l
    have e : (sstep st x).1.data.toList.length = (sstep st x).1.size := rfl
    simp only [srun, List.length_append, List.length_cons]
    omega
theorem srun_take {l : List ByteArray} {k : Nat} (h : k ≤ 30) : (srun st0 (l.take k)).length ≤ 90000 := by
  have := srun_len okSt_zero (l.take k)
  have : (l.take k).length ≤ 30 := by rw [List.length_take]; omega
  omega
theorem sess_end {l : List ByteArray} {k : Nat} (h : k = l.length ∨ k = 30) (hk : k ≤ 30) : srun st0 (l.take k) = sess l := by
  rcases h with rfl | rfl
  · rw [sess, List.take_length, List.take_of_length_le hk]
  · rfl
theorem sess_len (l : List ByteArray) : (sess l).length ≤ 90000 := srun_take (Nat.le_refl _)

def SrR (w : World) (l : List ByteArray) (n g : Nat) (vo vi : Value) (wr : World) : Prop :=
  ∃ k : Nat, k ≤ n ∧ k ≤ 30 ∧ vo = .string (baL (srun st0 (l.take k))) ∧ vi = .int .i64 k ∧ SesAt 47 wr g (send st0 (l.take k)) ∧ Below w.heap.size w wr
set_option maxHeartbeats 4000000 in
theorem specRun_any (A : Option Addr) (n c : Nat) (l : List ByteArray) (w : World) (hx : Rd w 1 A n (strs' l)) (hn : n ≤ 1048576) (hz : ∀ t ∈ l, t.size ≤ 4000000000) :
    Calls Tryz.prog 8 #[.slice A n c] w (TextIs w (baL (sess l))) := by
  have hl := hx.slen
  have HX := Lib.hid hx
  have HZ := Lib.hid hz
  have BA := Lib.hid (((Below.refl w.heap.size w).alloc (Nat.le_refl _) (.cells #[] 9)).alloc (by simp) (.cells #[.slice (some ⟨w.heap.size, 0, none⟩) 0 0, .int .i64 60] 47))
  have SA : Hid (SesAt 47 ((w.alloc (.cells #[] 9)).alloc (.cells #[.slice (some ⟨w.heap.size, 0, none⟩) 0 0, .int .i64 60] 47)) (w.heap.size + 1) st0) := by
    refine ⟨okSt_zero, some ⟨w.heap.size, 0, none⟩, 0, 0, ?_, ?_⟩
    · have h := heap_alloc_new (w.alloc (.cells #[] 9)) (.cells #[.slice (some ⟨w.heap.size, 0, none⟩) 0 0, .int .i64 60] 47)
      rw [World.size_alloc] at h
      exact h
    · exact (own_base (own_fresh w [] (by simp)) (Nat.zero_le _)).alloc _
  have HE := Lib.hid (fun k (h : k = n ∨ k = 30) (hk : k ≤ 30) => sess_end (l := l) (by rw [hl]; exact h) hk)
  obtain ⟨T, hT⟩ : ∃ T, T = sess l := ⟨_, rfl⟩
  rw [← hT] at HE ⊢
  clear hT hl hx hz
  go_enter Tryz.func8, Tryz.ntmps8
  go_wp2_with fail
  go_loopw [4, 5] (SrR w l n (w.heap.size + 1)) (fun _ i _ => n - (intOf i).toNat)
  case atStart => exact ⟨0, Nat.zero_le _, Nat.zero_le _, rfl, rfl, SA.out, BA.out⟩
  case round =>
    obtain ⟨k, hk, hk30, rfl, rfl, hs, hb⟩ := hrel
    have S0 := Lib.hid hs
    have B0 := Lib.hid hb
    have X0 := Lib.hid (HX.out.below hb)
    clear hs hb
    by_cases hlt : k < n
    · by_cases h30 : k < 30
      · obtain ⟨b, o, x, rfl, ex, hc⟩ := X0.out.str_at hlt
        have N1 := Lib.hid (srun_next (st := st0) ex)
        have N2 := Lib.hid (send_next (st := st0) ex)
        have hxs := HZ.out x (List.mem_of_getElem? ex)
        have hps := srun_take (l := l) hk30
        have hss := sstep_size S0.out.ok x
        obtain ⟨P, hP⟩ : ∃ P, P = srun st0 (l.take k) := ⟨_, rfl⟩
        obtain ⟨st, hst⟩ : ∃ st, st = send st0 (l.take k) := ⟨_, rfl⟩
        rw [← hP] at N1 hps ⊢
        rw [← hst] at N1 N2 S0 hss
        have CL := Lib.hid (specLine_any _ (w.heap.size + 1) st x S0.out hxs)
        obtain ⟨r, hr⟩ : ∃ r, r = sstep st x := ⟨_, rfl⟩
        rw [← hr] at CL N1 N2 hss
        clear hP hst hr ex
        have r1 : ∀ W : World, (Op.stringOp .add (baL P) r.1).run Tryz.prog W = .ok (.string (baL P ++ r.1)) W := sum_run _ _ (by show P.length ≤ _; omega) (by omega)
        go_wp2_with fail
        refine CL.out.mono ?_
        rintro e w1 ⟨rfl, hs1, hg1⟩
        have S1 := Lib.hid hs1
        have B1 := Lib.hid (below_gr B0.out hg1 (by omega))
        clear hs1 hg1
        go_wp2_with fail
        go_roundw
        case rel => exact ⟨k + 1, by omega, by omega, by rw [N1.out, ← baL_app2, baL_of], by go_num, by rw [N2.out]; exact S1.out, B1.out⟩
        case measure => simp [intOf] <;> omega
      · have E := Lib.hid (HE.out k (.inr (by omega)) hk30)
        obtain ⟨P, hP⟩ : ∃ P, P = srun st0 (l.take k) := ⟨_, rfl⟩
        rw [← hP] at E ⊢
        clear hP
        go_wp2_with fail
        go_ret
        exact ⟨congrArg (fun z => Ending.returned (.string (baL z))) E.out, B0.out⟩
    · have E := Lib.hid (HE.out k (.inl (by omega)) hk30)
      obtain ⟨P, hP⟩ : ∃ P, P = srun st0 (l.take k) := ⟨_, rfl⟩
      rw [← hP] at E ⊢
      clear hP
      go_wp2_with fail
      go_ret
      exact ⟨congrArg (fun z => Ending.returned (.string (baL z))) E.out, B0.out⟩
end Go.Proofs.YtmljofijeladoaaGreatDoor
