/-
  Decoding a word, the program's way: one error, two errors.
-/
import Derived.Test.YtemokfjnbmncbaaDoorDecP
namespace Go.Proofs.YtemokfjnbmncbaaDoor
open Go.RowKit T

theorem q_at {P : Program} {f : FuncId} {args : Array Value} {w : World} {a n : Nat} {v : Value}
    (h : Calls P f args (w.drewN (a + n)) fun e w' => e = .returned v ∧ ∃ m, w' = (w.drewN (a + n)).drewN m) : Calls P f args (w.drewN (a + n)) fun e w'' => e = .returned v ∧ ∃ m, w'' = w.drewN (a + m) :=
  h.mono fun _ _ ⟨he, m, hm⟩ => ⟨he, n + m, by rw [hm, World.drewN_drewN, Nat.add_assoc]⟩
theorem q_at_same {P : Program} {f : FuncId} {args : Array Value} {w : World} {a n : Nat} {v : Value}
    (h : Calls P f args (w.drewN (a + n)) fun e w' => e = .returned v ∧ w.drewN (a + n) = w') : Calls P f args (w.drewN (a + n)) fun e w'' => e = .returned v ∧ ∃ m, w'' = w.drewN (a + m) :=
  h.mono fun _ _ ⟨he, hm⟩ => ⟨he, n, hm.symm⟩
/-- the cells of four values -/
theorem four {B C g c : Nat} {w : World} {S : Nat → Nat} (h : Own B C w (.slice (some ⟨g, 0, none⟩) 4 c) (lsOf 4 S)) :
    w.cell? ⟨g, 0, none⟩ = some (.int .i64 (S 0 : Nat)) ∧ w.cell? ⟨g, 1, none⟩ = some (.int .i64 (S 1 : Nat)) ∧ w.cell? ⟨g, 2, none⟩ = some (.int .i64 (S 2 : Nat)) ∧ w.cell? ⟨g, 3, none⟩ = some (.int .i64 (S 3 : Nat)) := by
  have c0 := h.cell (k := 0) (by rw [ls_length]; decide)
  have c1 := h.cell (k := 1) (by rw [ls_length]; decide)
  have c2 := h.cell (k := 2) (by rw [ls_length]; decide)
  have c3 := h.cell (k := 3) (by rw [ls_length]; decide)
  rw [ls_getD (by decide)] at c0 c1 c2 c3
  exact ⟨c0, c1, c2, c3⟩
theorem four_lt {S : Nat → Nat} (h : El 4 S) : S 0 < 16 ∧ S 1 < 16 ∧ S 2 < 16 ∧ S 3 < 16 := ⟨h 0 (by omega), h 1 (by omega), h 2 (by omega), h 3 (by omega)⟩

set_option maxHeartbeats 2000000 in
theorem correctOne_no {B2 C2 g gs cap cs : Nat} {S : Nat → Nat} (w : World) (T1 : TpowersOfTwo w) (T2 : Tlogarithms w) (hS : El 4 S)
    (hs : Own B2 C2 w (.slice (some ⟨gs, 0, none⟩) 4 cs) (lsOf 4 S)) (h : d1 (S 0) (S 1) (S 2) (S 3) = none) :
    Calls Tryd.prog 42 #[.slice (some ⟨g, 0, none⟩) 15 cap, .slice (some ⟨gs, 0, none⟩) 4 cs] w fun e w' => e = .returned (.bool false) ∧ ∃ q, w' = w.drewN q := by
  obtain ⟨c0, c1, c2, c3⟩ := four hs
  obtain ⟨h0, h1, h2, h3⟩ := four_lt hS
  clear hs hS
  generalize S 0 = a at *
  generalize S 1 = b at *
  generalize S 2 = c at *
  generalize S 3 = d at *
  by_cases ha : a = 0
  · subst ha
    clear T1 T2 h
    go_enter Tryd.func42, Tryd.ntmps42
    go_wp2
    go_ret
    exact ⟨rfl, 0, rfl⟩
  have e0 : ((a : Int) == 0) = false := by simp; omega
  by_cases hb : b = 0
  · subst hb
    clear T1 T2 h ha
    go_enter Tryd.func42, Tryd.ntmps42
    go_wp2
    go_ret
    exact ⟨rfl, 0, rfl⟩
  have e1 : ((b : Int) == 0) = false := by simp; omega
  unfold d1 at h
  rw [if_neg (by omega)] at h
  by_cases n1 : gm b (gm b (gi a)) = c
  · have n2 : gm c (gm b (gi a)) ≠ d := fun e => by rw [if_neg (by simp [n1, e])] at h; cases h
    have k1 : (((gm b (gm b (gi a)) : Nat) : Int) != (c : Int)) = false := by simp; omega
    have k2 : (((gm c (gm b (gi a)) : Nat) : Int) != (d : Int)) = true := by simp; omega
    clear h n1 n2 ha hb
    go_enter Tryd.func42, Tryd.ntmps42
    go_wp2_with fail
    go_quiet (first | (go_at_call 44; first | exact Calls.quiet_of (FieldInverse_c _ _ (by first | assumption | exact gm_lt _ _ | exact gi_lt _) (T1.drewN _) (T2.drewN _)) | exact q_at (FieldInverse_c _ _ (by first | assumption | exact gm_lt _ _ | exact gi_lt _) (T1.drewN _) (T2.drewN _))) | (go_at_call 36; first | exact Calls.quiet_of (FieldMul_c _ _ _ (by first | assumption | exact gm_lt _ _ | exact gi_lt _) (by first | assumption | exact gm_lt _ _ | exact gi_lt _) (T1.drewN _) (T2.drewN _)) | exact q_at (FieldMul_c _ _ _ (by first | assumption | exact gm_lt _ _ | exact gi_lt _) (by first | assumption | exact gm_lt _ _ | exact gi_lt _) (T1.drewN _) (T2.drewN _))))
    revert nq
    intro na
    go_wp2_with fail
    go_quiet (first | (go_at_call 44; first | exact Calls.quiet_of (FieldInverse_c _ _ (by first | assumption | exact gm_lt _ _ | exact gi_lt _) (T1.drewN _) (T2.drewN _)) | exact q_at (FieldInverse_c _ _ (by first | assumption | exact gm_lt _ _ | exact gi_lt _) (T1.drewN _) (T2.drewN _))) | (go_at_call 36; first | exact Calls.quiet_of (FieldMul_c _ _ _ (by first | assumption | exact gm_lt _ _ | exact gi_lt _) (by first | assumption | exact gm_lt _ _ | exact gi_lt _) (T1.drewN _) (T2.drewN _)) | exact q_at (FieldMul_c _ _ _ (by first | assumption | exact gm_lt _ _ | exact gi_lt _) (by first | assumption | exact gm_lt _ _ | exact gi_lt _) (T1.drewN _) (T2.drewN _))))
    revert nq
    intro na
    go_wp2_with fail
    go_ret
    exact ⟨rfl, _, drawn_add _ _ _⟩
  · have k1 : (((gm b (gm b (gi a)) : Nat) : Int) != (c : Int)) = true := by simp; omega
    clear h n1 ha hb
    go_enter Tryd.func42, Tryd.ntmps42
    go_wp2_with fail
    go_quiet (first | (go_at_call 44; first | exact Calls.quiet_of (FieldInverse_c _ _ (by first | assumption | exact gm_lt _ _ | exact gi_lt _) (T1.drewN _) (T2.drewN _)) | exact q_at (FieldInverse_c _ _ (by first | assumption | exact gm_lt _ _ | exact gi_lt _) (T1.drewN _) (T2.drewN _))) | (go_at_call 36; first | exact Calls.quiet_of (FieldMul_c _ _ _ (by first | assumption | exact gm_lt _ _ | exact gi_lt _) (by first | assumption | exact gm_lt _ _ | exact gi_lt _) (T1.drewN _) (T2.drewN _)) | exact q_at (FieldMul_c _ _ _ (by first | assumption | exact gm_lt _ _ | exact gi_lt _) (by first | assumption | exact gm_lt _ _ | exact gi_lt _) (T1.drewN _) (T2.drewN _))))
    revert nq
    intro na
    go_wp2_with fail
    go_quiet (first | (go_at_call 44; first | exact Calls.quiet_of (FieldInverse_c _ _ (by first | assumption | exact gm_lt _ _ | exact gi_lt _) (T1.drewN _) (T2.drewN _)) | exact q_at (FieldInverse_c _ _ (by first | assumption | exact gm_lt _ _ | exact gi_lt _) (T1.drewN _) (T2.drewN _))) | (go_at_call 36; first | exact Calls.quiet_of (FieldMul_c _ _ _ (by first | assumption | exact gm_lt _ _ | exact gi_lt _) (by first | assumption | exact gm_lt _ _ | exact gi_lt _) (T1.drewN _) (T2.drewN _)) | exact q_at (FieldMul_c _ _ _ (by first | assumption | exact gm_lt _ _ | exact gi_lt _) (by first | assumption | exact gm_lt _ _ | exact gi_lt _) (T1.drewN _) (T2.drewN _))))
    revert nq
    intro na
    go_wp2_with fail
    go_ret
    exact ⟨rfl, _, drawn_add _ _ _⟩

set_option maxHeartbeats 2000000 in
theorem correctOne_yes {B C B2 C2 g gs cap cs p x : Nat} {W S : Nat → Nat} (w : World) (T1 : TpowersOfTwo w) (T2 : Tlogarithms w) (hS : El 4 S) (hW : El 15 W)
    (hs : Own B2 C2 w (.slice (some ⟨gs, 0, none⟩) 4 cs) (lsOf 4 S)) (ho : Own B C w (.slice (some ⟨g, 0, none⟩) 15 cap) (lsOf 15 W)) (h : d1 (S 0) (S 1) (S 2) (S 3) = some (p, x)) :
    Calls Tryd.prog 42 #[.slice (some ⟨g, 0, none⟩) 15 cap, .slice (some ⟨gs, 0, none⟩) 4 cs] w fun e w' => e = .returned (.bool true) ∧ Own B C w' (.slice (some ⟨g, 0, none⟩) 15 cap) (lsOf 15 (at1 W p x)) ∧ w.grownBy w' (some g) := by
  obtain ⟨c0, c1, c2, c3⟩ := four hs
  obtain ⟨h0, h1, h2, h3⟩ := four_lt hS
  clear hs hS
  generalize S 0 = a at *
  generalize S 1 = b at *
  generalize S 2 = c at *
  generalize S 3 = d at *
  unfold d1 at h
  by_cases hz : a = 0 ∨ b = 0
  · rw [if_pos hz] at h; cases h
  rw [if_neg hz] at h
  by_cases hn : gm b (gm b (gi a)) ≠ c ∨ gm c (gm b (gi a)) ≠ d
  · rw [if_pos hn] at h; cases h
  rw [if_neg hn] at h
  simp only [Option.some.injEq, Prod.mk.injEq] at h
  obtain ⟨hp, hx⟩ := h
  have e0 : ((a : Int) == 0) = false := by simp; omega
  have e1 : ((b : Int) == 0) = false := by simp; omega
  have k1 : (((gm b (gm b (gi a)) : Nat) : Int) != (c : Int)) = false := by simp; omega
  have k2 : (((gm c (gm b (gi a)) : Nat) : Int) != (d : Int)) = false := by simp; omega
  have hX : gm b (gi a) < 16 := gm_lt _ _
  have hP : p < 15 := by omega
  have cw := ho.cell (k := p) (by rw [ls_length]; exact hP)
  rw [ls_getD hP] at cw
  have cf := ho.free p
  have ho2 := ho.store p ((W p ^^^ x : Nat) : Int)
  rw [at1_set rfl] at ho2
  have hg2 := grown_set (World.grownBy.refl w (some g)) (i := p) (.int .i64 ((W p ^^^ x : Nat) : Int))
  have hwp := hW p hP
  have hx16 : x < 16 := by rw [← hx]; exact gm_lt _ _
  have x1 := i64_xor (W p) x (by omega) (by omega)
  have PL := hid (fun V (t : Tlogarithms V) => placeOf_c (gm b (gi a)) V hX t)
  rw [hp] at PL
  have FI := hid (fun V (t1 : TpowersOfTwo V) (t2 : Tlogarithms V) => FieldInverse_c (gm b (gi a)) V hX t1 t2)
  have FM := hid (fun V (t1 : TpowersOfTwo V) (t2 : Tlogarithms V) => FieldMul_c a (gi (gm b (gi a))) V h0 (gi_lt _) t1 t2)
  rw [hx] at FM
  have i1 : (p : Int) < 15 := by omega
  have HT1 := hid T1
  have HT2 := hid T2
  generalize W p = vp at *
  clear hp hx hz hn hW ho
  go_enter Tryd.func42, Tryd.ntmps42
  go_wp2_with fail
  go_quiet (first | (go_at_call 44; first | exact Calls.quiet_of (FieldInverse_c _ _ (by first | assumption | exact gm_lt _ _ | exact gi_lt _) (T1.drewN _) (T2.drewN _)) | exact q_at (FieldInverse_c _ _ (by first | assumption | exact gm_lt _ _ | exact gi_lt _) (T1.drewN _) (T2.drewN _))) | (go_at_call 36; first | exact Calls.quiet_of (FieldMul_c _ _ _ (by first | assumption | exact gm_lt _ _ | exact gi_lt _) (by first | assumption | exact gm_lt _ _ | exact gi_lt _) (T1.drewN _) (T2.drewN _)) | exact q_at (FieldMul_c _ _ _ (by first | assumption | exact gm_lt _ _ | exact gi_lt _) (by first | assumption | exact gm_lt _ _ | exact gi_lt _) (T1.drewN _) (T2.drewN _))))
  revert nq
  intro na
  go_wp2_with fail
  go_quiet (first | (go_at_call 44; first | exact Calls.quiet_of (FieldInverse_c _ _ (by first | assumption | exact gm_lt _ _ | exact gi_lt _) (T1.drewN _) (T2.drewN _)) | exact q_at (FieldInverse_c _ _ (by first | assumption | exact gm_lt _ _ | exact gi_lt _) (T1.drewN _) (T2.drewN _))) | (go_at_call 36; first | exact Calls.quiet_of (FieldMul_c _ _ _ (by first | assumption | exact gm_lt _ _ | exact gi_lt _) (by first | assumption | exact gm_lt _ _ | exact gi_lt _) (T1.drewN _) (T2.drewN _)) | exact q_at (FieldMul_c _ _ _ (by first | assumption | exact gm_lt _ _ | exact gi_lt _) (by first | assumption | exact gm_lt _ _ | exact gi_lt _) (T1.drewN _) (T2.drewN _))))
  revert nq
  intro na
  go_wp2_with fail
  rw [drawn_add]
  go_region_with (first | (go_at_call 55; refine (PL.out _ ?_).mono ?_; exact HT2.out; rintro e w' ⟨rfl, rfl⟩) | (go_at_call 44; refine (FI.out _ ?_ ?_).mono ?_; exact HT1.out; exact HT2.out; rintro e w' ⟨rfl, q, rfl⟩) | (go_at_call 36; refine (FM.out _ ?_ ?_).mono ?_; exact HT1.out; exact HT2.out; rintro e w' ⟨rfl, q, rfl⟩))
  all_goals
    go_wp2
    go_ret
    exact ⟨rfl, ho2.keep (fun _ _ => rfl), hg2.os, hg2.tape, hg2.output, hg2.size, hg2.block⟩

end Go.Proofs.YtemokfjnbmncbaaDoor
