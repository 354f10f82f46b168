/-
  The arithmetic of the field with 16 elements, the program's (by tables) and the reference's (by shifts): both are the product T.gm, the inverse T.gi, the powers T.gp.
-/
import Derived.Test.YtemokfjnbmncbaaDoorGf
import Derived.Test.YtemokfjnbmncbaaDoorHelp
import Derived.Test.YtemokfjnbmncbaaDoorTabs
import Derived.Test.YtemokfjnbmncbaaDoorDraw
namespace Go.Proofs.YtemokfjnbmncbaaDoor
open Go.RowKit T

theorem i64_xor (a b : Nat) (ha : a < 1000) (hb : b < 1000) : bits BinOp.xor IntKind.i64 (a : Int) (b : Int) = ((a ^^^ b : Nat) : Int) := i64_xor_nat a b (by omega) (by omega)
theorem el_yes {a : Nat} (h : a < 16) : inB (a : Int) 0 15 = true := inB_yes (by omega) (by omega)

set_option maxHeartbeats 400000 in
theorem isElement_c (a : Int) (w : World) : Calls Tryd.prog 48 #[.int .i64 a] w fun e w' => e = .returned (.bool (inB a 0 15)) ∧ w = w' := by
  by_cases h1 : 0 ≤ a
  · by_cases h2 : a < 16
    · have H := hid (inB_yes h1 (show a ≤ 15 by omega))
      go_enter Tryd.func48, Tryd.ntmps48
      go_wp2
      go_ret
      exact ⟨ret_bool H.out.symm, rfl⟩
    · have H := hid (inB_hi (lo := 0) (show ¬ a ≤ 15 by omega))
      go_enter Tryd.func48, Tryd.ntmps48
      go_wp2
      go_ret
      exact ⟨ret_bool H.out.symm, rfl⟩
  · have H := hid (inB_lo (hi := 15) h1)
    go_enter Tryd.func48, Tryd.ntmps48
    go_wp2
    go_ret
    exact ⟨ret_bool H.out.symm, rfl⟩
theorem isElement_y (a : Nat) (w : World) (h : a < 16) : Calls Tryd.prog 48 #[.int .i64 (a : Int)] w fun e w' => e = .returned (.bool true) ∧ w = w' := by
  have := isElement_c (a : Int) w
  rw [el_yes h] at this
  exact this

set_option maxHeartbeats 400000 in
theorem FieldAdd_c (a b : Nat) (w : World) (ha : a < 16) (hb : b < 16) : Calls Tryd.prog 26 #[.int .i64 a, .int .i64 b] w fun e w' => e = .returned (.int .i64 ((a ^^^ b : Nat) : Int)) ∧ w = w' := by
  have hx := i64_xor a b (by omega) (by omega)
  go_enter Tryd.func26, Tryd.ntmps26
  go_wp2_with (go_at_call 48; refine (isElement_y _ _ (by assumption)).mono ?_; rintro e w' ⟨rfl, rfl⟩)
  go_ret
  exact ⟨rfl, rfl⟩

theorem log_cell : ∀ a < 16, logarithmsL.getD a 0 = (gl a : Int) := by decide
theorem pow_cell : ∀ a < 15, powersOfTwoL.getD a 0 = (gp a : Int) := by decide
theorem gl_le : ∀ a < 16, gl a ≤ 14 := by decide
theorem mul_tab : ∀ a < 16, ∀ b < 16, a ≠ 0 → b ≠ 0 → gp ((gl a + gl b) % 15) = gm a b := by decide +kernel
theorem inv_tab : ∀ a < 16, a ≠ 0 → gp ((15 - gl a) % 15) = gi a := by decide +kernel
theorem gm_z {a b : Nat} (ha : a < 16) (hb : b < 16) (h : a = 0 ∨ b = 0) : gm a b = 0 := by
  rcases h with rfl | rfl
  · exact zero_gm _ hb
  · exact gm_zero _ ha

set_option maxHeartbeats 1000000 in
theorem FieldMul_c (a b : Nat) (w : World) (ha : a < 16) (hb : b < 16) (T1 : TpowersOfTwo w) (T2 : Tlogarithms w) :
    Calls Tryd.prog 36 #[.int .i64 a, .int .i64 b] w fun e w' => e = .returned (.int .i64 (gm a b : Nat)) ∧ ∃ q, w' = w.drewN q := by
  by_cases h0 : a = 0 ∨ b = 0
  · have H := hid (gm_z ha hb h0)
    by_cases ha0 : a = 0
    · subst ha0
      clear h0
      go_enter Tryd.func36, Tryd.ntmps36
      go_wp2_with (go_at_call 48; first | (refine (isElement_y _ _ hb).mono ?_; rintro e w' ⟨rfl, rfl⟩) | (refine (isElement_y 0 _ (by decide)).mono ?_; rintro e w' ⟨rfl, rfl⟩))
      go_ret
      exact ⟨ret_int (by rw [H.out]; rfl), 0, rfl⟩
    · obtain rfl : b = 0 := by omega
      have e0 : ((a : Int) == 0) = false := by simp; omega
      clear h0 ha0
      go_enter Tryd.func36, Tryd.ntmps36
      go_wp2_with (go_at_call 48; first | (refine (isElement_y _ _ ha).mono ?_; rintro e w' ⟨rfl, rfl⟩) | (refine (isElement_y 0 _ (by decide)).mono ?_; rintro e w' ⟨rfl, rfl⟩))
      go_ret
      exact ⟨ret_int (by rw [H.out]; rfl), 0, rfl⟩
  · have H := hid (mul_tab a ha b hb (by omega) (by omega))
    have e0 : ((a : Int) == 0) = false := by simp; omega
    have e1 : ((b : Int) == 0) = false := by simp; omega
    have ca := T2.at_ a (by simpa [logarithmsL] using ha)
    have cb := T2.at_ b (by simpa [logarithmsL] using hb)
    rw [log_cell a ha] at ca
    rw [log_cell b hb] at cb
    have la := gl_le a ha
    have lb := gl_le b hb
    have hk : (gl a + gl b) % 15 < 15 := Nat.mod_lt _ (by decide)
    have cp := T1.at_ ((gl a + gl b) % 15) (by simpa [powersOfTwoL] using hk)
    rw [pow_cell _ hk] at cp
    have q1 := tmod_nat (gl a + gl b) 15
    generalize hA : gl a = A at *
    generalize hB : gl b = B at *
    generalize hM : (A + B) % 15 = M at *
    have HA := hid hA
    have HB := hid hB
    have HM := hid hM
    have i1 : (a : Int) < 16 := by omega
    have i2 : (b : Int) < 16 := by omega
    have i3 : (M : Int) < 15 := by omega
    have s1 : IntKind.i64.wrap ((A : Int) + B) = (A : Int) + B := IntWalk.i64_in _ (by omega)
    have s2 : Int.tmod ((A : Int) + B) 15 = (M : Int) := by rw [← q1]; simp
    have s3 : IntKind.i64.wrap (M : Int) = (M : Int) := IntWalk.i64_in _ (by omega)
    clear hA hB hM h0 T1 T2 q1
    go_enter Tryd.func36, Tryd.ntmps36
    go_wp2_with (go_at_call 48; refine (isElement_y _ _ (by assumption)).mono ?_; rintro e w' ⟨rfl, rfl⟩)
    go_quiet (fail)
    clear s1 s2 s3
    go_wp2
    go_ret
    exact ⟨ret_int (by rw [← H.out]), _, rfl⟩

end Go.Proofs.YtemokfjnbmncbaaDoor
