/-
  The law FnInterleaveBits, walked: for every input the call returns true, and nothing that was there has changed.
-/
import Derived.Test.YtdiloojdklkamaaInterLaw
import Derived.Test.YtdiloojdklkamaaDrawInter
namespace Go.Proofs.Ytdiloojdklkamaa
open Go.RowKit

theorem inter_len0 {xs : List Int} {n : Int} (h : tabOk xs n = true) : (inter xs n).length = xs.length := by rw [inter_yes h]; exact interN_length _ _
set_option maxHeartbeats 1000000 in
theorem FnInterleaveBits_walk (a0 : Option Addr) (len0 cap0 : Nat) (z0 : List Int) (w : World) (w0 : IsRow .u8 w a0 len0 cap0 z0) :
    Calls Try.prog 3 #[.slice a0 len0 cap0] w fun e w' => e = .returned (.bool true) ∧ Below w.heap.size w w' := by
  by_cases hl0 : len0 ≤ 1048576
  case neg =>
    have hl0' : 1048576 < len0 := by omega
    go_enter Try.func3, Try.ntmps3
    go_wp2
    go_ret
    exact ⟨rfl, Below.refl _ _⟩
  have B0 := w0.bytes
  clear w0
  go_enter Try.func3, Try.ntmps3
  go_wp2_with fail
  refine (DrawInterleaveBits_c _ B0 (Nat.le_refl _)).mono ?_
  rintro e w1 ⟨v1, xs, n, rfl, O, hl, ⟨n0, n1⟩, bb⟩
  have t1 := bb.size
  go_wp2_with fail
  refine (implInter_c w1 n O.rd (Nat.le_refl _)).mono ?_
  rintro e w2 ⟨v2, rfl, X, b2⟩
  have t2 := b2.size
  have O := O.below b2 (Nat.le_refl _)
  have bb := bb.trans (b2.mono (by omega))
  go_wp2_with fail
  refine (specInter_c w2 n O.rd (by omega)).mono ?_
  rintro e w3 ⟨v3, rfl, Y, b3⟩
  have t3 := b3.size
  have O := O.below b3 (by omega)
  have X := X.below b3 (by omega)
  have bb := bb.trans (b3.mono (by omega))
  go_wp2_with fail
  refine (sameInts_t _ X.rd Y.rd).mono ?_
  rintro e w4 ⟨rfl, b4⟩
  have t4 := b4.size
  have O := O.below b4 (by omega)
  have X := X.below b4 (by omega)
  have bb := bb.trans (b4.mono (by omega))
  clear b2 b3 b4 Y
  by_cases hz : (inter xs n).length = 0
  case pos =>
    obtain ⟨A, m, c, rfl, Q⟩ := X.rd
    obtain rfl : m = 0 := by rw [← Q.len]; exact hz
    clear Q hz
    go_wp2_with fail
    refine (alive_c _).mono ?_
    rintro e w5 ⟨rfl, b5⟩
    have bb := bb.trans (b5.mono (by omega))
    go_wp2_with fail
    go_ret
    exact ⟨rfl, bb⟩
  have ht : tabOk xs n = true := by
    cases h : tabOk xs n with
    | true => rfl
    | false => rw [inter_no h] at hz; simp at hz
  obtain ⟨r, c, rfl, r1, r2, hrc, hdiv, hb⟩ := tab_parts ht
  obtain ⟨e1, _, e2⟩ := inter_tab ht
  rw [inter_len0 ht] at hz
  obtain ⟨A, m, cA, rfl, Q⟩ := X.rd
  have hm : m = xs.length := by rw [← Q.len, inter_len0 ht]
  obtain ⟨A1, m1, c1, rfl, Q1⟩ := O.rd
  have hm1 : m1 = xs.length := by rw [← Q1.len]
  have hm0 : ((m : Int) == 0) = false := by simp; omega
  have hc1 : 1 ≤ c := by
    rcases Nat.eq_zero_or_pos c with h | h
    · subst h; rw [Nat.mul_zero] at hrc; omega
    · exact h
  have hq : (m1 : Int) / (r : Int) = (c : Int) := by
    rw [hm1, ← hdiv]; simp
  have hcle : c ≤ 1024 := by
    have := Nat.le_mul_of_pos_left c r1
    omega
  have rne : ¬ (r : Int) = 0 := by omega
  have r0 : ((r : Int) == 0) = false := by simp; omega
  have E1 := hid e1
  have E2 := hid e2
  have HB := hid hb
  have HRC := hid hrc
  have hml : m1 ≤ 1024 := by have := bitsOk_len hb; omega
  clear Q Q1 hz ht e1 e2 hb hrc hdiv hm hm1
  have H1 := implDeint_c w4 (r : Int) X.rd (by omega)
  rw [E1.out] at H1
  have H1 := hid H1
  go_wp2_with fail
  refine H1.out.mono ?_
  rintro e w5 ⟨v5, rfl, D, b5⟩
  have t5 := b5.size
  have O := O.below b5 (by omega)
  have X := X.below b5 (by omega)
  have bb := bb.trans (b5.mono (by omega))
  clear H1 b5
  go_wp2_with fail
  refine (sameInts_t _ D.rd O.rd).mono ?_
  rintro e w6 ⟨rfl, b6⟩
  have t6 := b6.size
  have O := O.below b6 (by omega)
  have X := X.below b6 (by omega)
  have bb := bb.trans (b6.mono (by omega))
  clear b6 D
  have H2 := implInter_c w6 1 O.rd (by omega)
  rw [E2.out] at H2
  have H2 := hid H2
  go_wp2_with fail
  refine H2.out.mono ?_
  rintro e w7 ⟨v7, rfl, D, b7⟩
  have t7 := b7.size
  have O := O.below b7 (by omega)
  have X := X.below b7 (by omega)
  have bb := bb.trans (b7.mono (by omega))
  clear H2 b7
  go_wp2_with fail
  refine (sameInts_t _ D.rd O.rd).mono ?_
  rintro e w8 ⟨rfl, b8⟩
  have t8 := b8.size
  have O := O.below b8 (by omega)
  have X := X.below b8 (by omega)
  have bb := bb.trans (b8.mono (by omega))
  clear b8 D
  by_cases hc32 : c ≤ 32
  case neg =>
    have h32 : (32 : Int) < (c : Int) := by omega
    go_wp2_with fail
    go_ret
    exact ⟨rfl, bb⟩
  have e3 := inter_cols HB.out r1 r2 HRC.out hc1 hc32
  have H3 := implInter_c w8 (c : Int) X.rd (by omega)
  rw [e3] at H3
  have H3 := hid H3
  clear e3
  go_wp2_with fail
  refine H3.out.mono ?_
  rintro e w9 ⟨v9, rfl, D, b9⟩
  have t9 := b9.size
  have O := O.below b9 (by omega)
  have bb := bb.trans (b9.mono (by omega))
  clear H3 b9
  go_wp2_with fail
  refine (sameInts_t _ D.rd O.rd).mono ?_
  rintro e w10 ⟨rfl, b10⟩
  have bb := bb.trans (b10.mono (by omega))
  go_wp2_with fail
  go_ret
  exact ⟨rfl, bb⟩

end Go.Proofs.Ytdiloojdklkamaa
