/-
  The law FnDeinterleaveBits, walked: for every input the call returns true, and nothing that was there has changed.
-/
import Derived.Test.YtdiloojdklkamaaInterLaw
import Derived.Test.YtdiloojdklkamaaDrawInter
namespace Go.Proofs.Ytdiloojdklkamaa
open Go.RowKit

theorem deinter_len0 {xs : List Int} {n : Int} (h : tabOk xs n = true) : (deinter xs n).length = xs.length := by rw [deinter_yes h]; exact deinterN_length _ _
set_option maxHeartbeats 1000000 in
theorem FnDeinterleaveBits_walk (a0 : Option Addr) (len0 cap0 : Nat) (z0 : List Int) (w : World) (w0 : IsRow .u8 w a0 len0 cap0 z0) :
    Calls Try.prog 4 #[.slice a0 len0 cap0] w fun e w' => e = .returned (.bool true) ∧ Below w.heap.size w w' := by
  by_cases hl0 : len0 ≤ 1048576
  case neg =>
    have hl0' : 1048576 < len0 := by omega
    go_enter Try.func4, Try.ntmps4
    go_wp2
    go_ret
    exact ⟨rfl, Below.refl _ _⟩
  have B0 := w0.bytes
  clear w0
  go_enter Try.func4, Try.ntmps4
  go_wp2_with fail
  refine (DrawDeinterleaveBits_c _ B0 (Nat.le_refl _)).mono ?_
  rintro e w1 ⟨v1, xs, n, rfl, O, hl, ⟨n0, n1⟩, bb⟩
  have t1 := bb.size
  go_wp2_with fail
  refine (implDeint_c w1 n O.rd (Nat.le_refl _)).mono ?_
  rintro e w2 ⟨v2, rfl, X, b2⟩
  have t2 := b2.size
  have O := O.below b2 (Nat.le_refl _)
  have bb := bb.trans (b2.mono (by omega))
  go_wp2_with fail
  refine (specDeint_c w2 n O.rd (by omega)).mono ?_
  rintro e w3 ⟨v3, rfl, Y, b3⟩
  have t3 := b3.size
  have O := O.below b3 (by omega)
  have X := X.below b3 (by omega)
  have bb := bb.trans (b3.mono (by omega))
  go_wp2_with fail
  refine (sameInts_t _ X.rd Y.rd).mono ?_
  rintro e w4 ⟨rfl, b4⟩
  have t4 := b4.size
  have O := O.below b4 (by omega)
  have X := X.below b4 (by omega)
  have bb := bb.trans (b4.mono (by omega))
  clear b2 b3 b4 Y
  by_cases hz : (deinter xs n).length = 0
  case pos =>
    obtain ⟨A, m, c, rfl, Q⟩ := X.rd
    obtain rfl : m = 0 := by rw [← Q.len]; exact hz
    clear Q hz
    go_wp2_with fail
    refine (alive_c _).mono ?_
    rintro e w5 ⟨rfl, b5⟩
    have bb := bb.trans (b5.mono (by omega))
    go_wp2_with fail
    go_ret
    exact ⟨rfl, bb⟩
  have ht : tabOk xs n = true := by
    cases h : tabOk xs n with
    | true => rfl
    | false => rw [deinter_no h] at hz; simp at hz
  have E1 := hid (deinter_tab ht)
  have E2 := hid (hd_deinter ht)
  have hlX := deinter_len0 ht
  rw [hlX] at hz
  obtain ⟨A, m, cA, rfl, Q⟩ := X.rd
  have hm : m = xs.length := by rw [← Q.len, hlX]
  obtain ⟨A1, m1, c1, rfl, Q1⟩ := O.rd
  have hm1 : m1 = xs.length := by rw [← Q1.len]
  have hm0 : ((m : Int) == 0) = false := by simp; omega
  have HM1 := hid hm1
  have hml : m1 ≤ 4194304 := by have := O.sm; omega
  clear Q Q1 hz hlX hm hm1
  go_wp2_with (refine wpl_make intSl _ rfl (.tmp 29) (.tmp 29) rfl _ _ m1 rfl rfl rfl rfl hml ?_; intro w5 Z b5 hlt5)
  have t5 := b5.size
  have O := O.below b5 (by omega)
  have X := X.below b5 (by omega)
  have bb := bb.trans (b5.mono (by omega))
  clear b5
  have H1 := implInter_c w5 n X.rd (by omega)
  rw [E1.out] at H1
  have H1 := hid H1
  go_wp2_with fail
  refine H1.out.mono ?_
  rintro e w6 ⟨v6, rfl, D, b6⟩
  have t6 := b6.size
  have O := O.below b6 (by omega)
  have X := X.below b6 (by omega)
  have Z := Z.below b6 (by omega)
  have bb := bb.trans (b6.mono (by omega))
  clear H1 b6
  go_wp2_with fail
  refine (sameInts_t _ D.rd O.rd).mono ?_
  rintro e w7 ⟨rfl, b7⟩
  have t7 := b7.size
  have O := O.below b7 (by omega)
  have X := X.below b7 (by omega)
  have Z := Z.below b7 (by omega)
  have bb := bb.trans (b7.mono (by omega))
  clear b7 D
  have H2 := b_drew (hamming_c w7 X.rd Z.rd)
  have H2 := hid H2
  go_wp2_with fail
  refine H2.out.mono ?_
  rintro e w8 ⟨rfl, b8⟩
  have t8 := b8.size
  have O := O.below b8 (by omega)
  have Z := Z.below b8 (by omega)
  have bb := bb.trans (b8.mono (by omega))
  clear H2 b8 X
  have H3 := b_drew (hamming_c w8 O.rd Z.rd)
  rw [HM1.out, ← E2.out] at H3
  have H3 := hid H3
  rw [HM1.out]
  generalize hd (deinter xs n) (List.replicate xs.length 0) = q at H3 ⊢
  go_wp2_with fail
  refine H3.out.mono ?_
  rintro e w9 ⟨rfl, b9⟩
  have bb := bb.trans (b9.mono (by omega))
  go_wp2_with fail
  go_ret
  exact ⟨rfl, bb⟩

end Go.Proofs.Ytdiloojdklkamaa
