/-
  The inverse, the place of a symbol, and the reference's product, inverse and power of the field with 16 elements.
-/
import Derived.Test.YtemokfjnbmncbaaDoorField
namespace Go.Proofs.YtemokfjnbmncbaaDoor
open Go.RowKit T

set_option maxHeartbeats 1000000 in
theorem FieldInverse_c (a : Nat) (w : World) (ha : a < 16) (T1 : TpowersOfTwo w) (T2 : Tlogarithms w) :
    Calls Tryd.prog 44 #[.int .i64 a] w fun e w' => e = .returned (.int .i64 (gi a : Nat)) ∧ ∃ q, w' = w.drewN q := by
  by_cases h0 : a = 0
  · subst h0
    clear T1 T2
    go_enter Tryd.func44, Tryd.ntmps44
    go_wp2_with (go_at_call 48; refine (isElement_y 0 _ (by decide)).mono ?_; rintro e w' ⟨rfl, rfl⟩)
    go_ret
    exact ⟨rfl, 0, rfl⟩
  · have H := hid (inv_tab a ha h0)
    have e0 : ((a : Int) == 0) = false := by simp; omega
    have ca := T2.at_ a (by simpa [logarithmsL] using ha)
    rw [log_cell a ha] at ca
    have la := gl_le a ha
    have hk : (15 - gl a) % 15 < 15 := Nat.mod_lt _ (by decide)
    have cp := T1.at_ ((15 - gl a) % 15) (by simpa [powersOfTwoL] using hk)
    rw [pow_cell _ hk] at cp
    have q1 := tmod_nat (15 - gl a) 15
    generalize hA : gl a = A at *
    generalize hM : (15 - A) % 15 = M at *
    have HA := hid hA
    have HM := hid hM
    have i1 : (a : Int) < 16 := by omega
    have i3 : (M : Int) < 15 := by omega
    have eq : (15 - (A : Int)) % 15 = (M : Int) := by omega
    have HE := hid eq
    clear hA hM h0 T1 T2 q1 eq
    obtain ⟨D, hD⟩ : ∃ D : Int, (15 - (A : Int)) % 15 = D := ⟨_, rfl⟩
    obtain rfl : D = (M : Int) := by rw [← hD, HE.out]
    go_enter Tryd.func44, Tryd.ntmps44
    go_wp2_with (go_at_call 48; refine (isElement_y _ _ (by assumption)).mono ?_; rintro e w' ⟨rfl, rfl⟩)
    go_ret
    exact ⟨ret_int (by rw [← H.out]), 0, rfl⟩

set_option maxHeartbeats 400000 in
theorem placeOf_c (a : Nat) (w : World) (ha : a < 16) (T2 : Tlogarithms w) :
    Calls Tryd.prog 55 #[.int .i64 a] w fun e w' => e = .returned (.int .i64 ((14 - gl a : Nat) : Int)) ∧ w = w' := by
  have ca := T2.at_ a (by simpa [logarithmsL] using ha)
  rw [log_cell a ha] at ca
  have la := gl_le a ha
  have i1 : (a : Int) < 16 := by omega
  clear T2
  go_enter Tryd.func55, Tryd.ntmps55
  go_wp2
  go_ret
  exact ⟨ret_int (by omega), rfl⟩

def xt (a : Nat) : Nat := if 16 ≤ 2 * a then 2 * a ^^^ 19 else 2 * a
theorem xt_lt : ∀ a < 16, xt a < 16 := by decide
theorem gm_step : ∀ a < 16, ∀ b < 16, gm a b = (if b % 2 = 1 then a else 0) ^^^ gm (xt a) (b / 2) := by decide +kernel
set_option maxHeartbeats 1000000 in
theorem l5Mul_c (a b : Nat) (w : World) (ha : a < 16) (hb : b < 16) : Calls Tryd.prog 34 #[.int .i64 a, .int .i64 b] w fun e w' => e = .returned (.int .i64 (gm a b : Nat)) ∧ w = w' := by
  generalize hG : gm a b = G
  have HG := hid hG
  clear hG
  go_enter Tryd.func34, Tryd.ntmps34
  go_wp2
  go_loop [0, 1, 5] (fun x y n => ∃ x' y' n' : Nat, x = .int .i64 x' ∧ y = .int .i64 y' ∧ n = .int .i64 n' ∧ x' < 16 ∧ y' < 16 ∧ n' < 16 ∧ Hid (n' ^^^ gm x' y' = G)) (fun _ y _ => (intOf y).toNat)
  case atStart => exact ⟨a, b, 0, rfl, rfl, rfl, ha, hb, by omega, by rw [Nat.zero_xor]; exact HG.out⟩
  case round =>
    obtain ⟨x, y, n, rfl, rfl, rfl, hx, hy, hn, hI⟩ := hrel
    by_cases h0 : y = 0
    · subst h0
      have e := hI.out
      rw [gm_zero x hx, Nat.xor_zero] at e
      have E := hid e
      clear e
      go_wp2
      go_ret
      exact ⟨ret_int (by rw [E.out]), rfl⟩
    · have hs := gm_step x hx y hy
      have l1 := xt_lt x hx
      have x1 := i64_xor n x (by omega) (by omega)
      have xc : ((2 * x : Nat) : Int) = 2 * (x : Int) := by omega
      have x2 : bits BinOp.xor IntKind.i64 (2 * (x : Int)) 19 = ((2 * x ^^^ 19 : Nat) : Int) := by have h := i64_xor (2 * x) 19 (by omega) (by omega); rw [xc] at h; exact h
      have n1 : n ^^^ x < 16 := xor_lt hn hx
      have HS : Hid (∀ n2 : Nat, n2 = n ^^^ (if y % 2 = 1 then x else 0) → n2 ^^^ gm (xt x) (y / 2) = G) := by
        rintro n2 rfl
        rw [Nat.xor_assoc, ← hs]; exact hI.out
      have hq : (y : Int) / 2 = ((y / 2 : Nat) : Int) := by omega
      have HQ := hid hq
      have y2 : y / 2 < 16 := by omega
      clear hs hq xc
      by_cases ho : y % 2 = 1
      · have b1 : ((y : Int) % 2 == 1) = true := by simp; omega
        by_cases h16 : 16 ≤ 2 * x
        · have l2 : 2 * x ^^^ 19 < 16 := by have := l1; unfold xt at this; rw [if_pos h16] at this; exact this
          have L : Hid (xt x = 2 * x ^^^ 19) := by show _ = _; unfold xt; rw [if_pos h16]
          clear l1
          go_wp2
          go_round
          case rel => exact ⟨_, _, _, rfl, by rw [HQ.out], rfl, l2, y2, n1, by rw [← L.out]; exact HS.out _ (by rw [if_pos ho])⟩
          case measure => simp [intOf]; omega
        · have L : Hid (xt x = 2 * x) := by show _ = _; unfold xt; rw [if_neg h16]
          clear l1
          go_wp2
          go_round
          case rel => exact ⟨2 * x, _, _, by go_num, by rw [HQ.out], rfl, by omega, y2, n1, by rw [← L.out]; exact HS.out _ (by rw [if_pos ho])⟩
          case measure => simp [intOf]; omega
      · have b1 : ((y : Int) % 2 == 1) = false := by simp; omega
        by_cases h16 : 16 ≤ 2 * x
        · have l2 : 2 * x ^^^ 19 < 16 := by have := l1; unfold xt at this; rw [if_pos h16] at this; exact this
          have L : Hid (xt x = 2 * x ^^^ 19) := by show _ = _; unfold xt; rw [if_pos h16]
          clear l1
          go_wp2
          go_round
          case rel => exact ⟨_, _, n, rfl, by rw [HQ.out], rfl, l2, y2, hn, by rw [← L.out]; exact HS.out _ (by rw [if_neg ho, Nat.xor_zero])⟩
          case measure => simp [intOf]; omega
        · have L : Hid (xt x = 2 * x) := by show _ = _; unfold xt; rw [if_neg h16]
          clear l1
          go_wp2
          go_round
          case rel => exact ⟨2 * x, _, n, by go_num, by rw [HQ.out], rfl, by omega, y2, hn, by rw [← L.out]; exact HS.out _ (by rw [if_neg ho, Nat.xor_zero])⟩
          case measure => simp [intOf]; omega

theorem gi_mul : ∀ a < 16, 1 ≤ a → gm a (gi a) = 1 ∧ 1 ≤ gi a ∧ gi a < 16 ∧ ∀ j < 16, gm a j = 1 → j = gi a := by decide +kernel
set_option maxHeartbeats 1000000 in
theorem specInv_c (a : Nat) (w : World) (ha : a < 16) (h1 : 1 ≤ a) : Calls Tryd.prog 54 #[.int .i64 a] w fun e w' => e = .returned (.int .i64 (gi a : Nat)) ∧ w = w' := by
  obtain ⟨g1, g2, g3, g4⟩ := gi_mul a ha h1
  have G1 := hid g1
  have G4 := hid g4
  have G2 := hid g2
  have G3 := hid g3
  clear g1 g2 g3 g4
  go_enter Tryd.func54, Tryd.ntmps54
  go_wp2
  go_loop [3] (fun i => ∃ k : Nat, 1 ≤ k ∧ k ≤ 16 ∧ i = .int .i64 k ∧ Hid (∀ j, 1 ≤ j → j < k → gm a j ≠ 1)) (fun i => 16 - (intOf i).toNat)
  case atStart => exact ⟨1, by omega, by omega, rfl, fun j h1 h2 => by omega⟩
  case round =>
    obtain ⟨k, hk1, hk, rfl, hall⟩ := hrel
    by_cases hlt : k < 16
    · have L := l1In_c (a : Int) 1 15
      rw [inB_yes (by omega) (by omega)] at L
      have L := hid L
      by_cases he : gm a k = 1
      · have HE := hid he
        have e1 : ((gm a k : Int) == 1) = true := by simp; omega
        clear he
        go_wp2_with (first | (go_at_call 52; refine (L.out _).mono ?_; rintro e w' ⟨rfl, rfl⟩) | (go_at_call 34; refine (l5Mul_c _ _ _ ha hlt).mono ?_; rintro e w' ⟨rfl, rfl⟩))
        go_ret
        exact ⟨ret_int (by rw [← G4.out k hlt HE.out]), rfl⟩
      · have HE := hid he
        have e1 : ((gm a k : Int) == 1) = false := by simp; omega
        clear he
        go_wp2_with (first | (go_at_call 52; refine (L.out _).mono ?_; rintro e w' ⟨rfl, rfl⟩) | (go_at_call 34; refine (l5Mul_c _ _ _ ha hlt).mono ?_; rintro e w' ⟨rfl, rfl⟩))
        go_round
        case rel => exact ⟨k + 1, by omega, by omega, by go_num, fun j h1 h2 => by
          by_cases h : j < k
          · exact hall.out j h1 h
          · obtain rfl : j = k := by omega
            exact HE.out⟩
        case measure => simp [intOf]; omega
    · exact absurd G1.out (hall.out _ G2.out (by have := G3.out; omega))

theorem gp_step : ∀ k < 14, gm (gp k) 2 = gp (k + 1) := by decide
set_option maxHeartbeats 1000000 in
theorem FieldPower_c (n : Nat) (w : World) (hn : n ≤ 14) : Calls Tryd.prog 53 #[.int .i64 2, .int .i64 n] w fun e w' => e = .returned (.int .i64 (gp n : Nat)) ∧ w = w' := by
  have L1 := l1In_c 2 0 15
  rw [inB_yes (by omega) (by omega)] at L1
  have L2 := l1In_c (n : Int) 0 1000
  rw [inB_yes (by omega) (by omega)] at L2
  have L1 := hid L1
  have L2 := hid L2
  go_enter Tryd.func53, Tryd.ntmps53
  go_wp2_with fail
  refine (L1.out _).mono ?_
  rintro e w' ⟨rfl, rfl⟩
  go_wp2_with fail
  refine (L2.out _).mono ?_
  rintro e w' ⟨rfl, rfl⟩
  go_wp2_with fail
  go_loop [5, 6] (fun p i => ∃ k : Nat, k ≤ n ∧ i = .int .i64 k ∧ p = .int .i64 (gp k : Nat)) (fun _ i => n - (intOf i).toNat)
  case atStart => exact ⟨0, by omega, rfl, rfl⟩
  case round =>
    obtain ⟨k, hk, rfl, rfl⟩ := hrel
    by_cases hlt : k < n
    · have M := l5Mul_c (gp k) 2 w (gp_lt _) (by decide)
      rw [gp_step k (by omega)] at M
      have M := hid M
      have i1 : (k : Int) < (n : Int) := by omega
      go_wp2_with (go_at_call 34; refine M.out.mono ?_; rintro e w' ⟨rfl, rfl⟩)
      go_round
      case rel => exact ⟨k + 1, by omega, by go_num, rfl⟩
      case measure => simp [intOf]; omega
    · obtain rfl : k = n := by omega
      go_wp2
      go_ret
      exact ⟨rfl, rfl⟩

end Go.Proofs.YtemokfjnbmncbaaDoor
