/-
  The law FnTurnSamples, walked: for every input the call returns true, and nothing that was there has changed.
-/
import Derived.Test.YtmlgfiblfmfnbaaSigLaw
namespace Go.Proofs.Ytmlgfiblfmfnbaa
open Go.RowKit

set_option maxHeartbeats 1000000 in
theorem FnTurnSamples_walk (a0 : Option Addr) (len0 cap0 : Nat) (z0 : List Int) (w : World) (w0 : IsRow .u8 w a0 len0 cap0 z0) :
    Calls Try.prog 10 #[.slice a0 len0 cap0] w fun e w' => e = .returned (.bool true) ∧ Below w.heap.size w w' := by
  by_cases hl0 : len0 ≤ 1048576
  case neg =>
    have hl0' : 1048576 < len0 := by omega
    go_enter Try.func10, Try.ntmps10
    go_wp2
    go_ret
    exact ⟨rfl, Below.refl _ _⟩
  have B0 := w0.bytes
  clear w0
  go_enter Try.func10, Try.ntmps10
  go_wp2_with fail
  refine (DrawTurnSamples_c _ B0 (Nat.le_refl _)).mono ?_
  rintro e w1 ⟨v1, m, xs, q, rfl, O, hm, ⟨q0, q1⟩, bb⟩
  have t1 := bb.size
  go_wp2_with fail
  refine (implTurn_c _ q O.rd (Nat.le_refl _)).mono ?_
  rintro e w2 ⟨v2, m2, rfl, O2, b2⟩
  have t2 := b2.size
  have O := O.below b2 (Nat.le_refl _)
  have bb := bb.trans (b2.mono (by omega))
  go_wp2_with fail
  refine (specTurn_c _ q O.rd (by omega)).mono ?_
  rintro e w3 ⟨v3, m3, rfl, O3, b3⟩
  have t3 := b3.size
  have O := O.below b3 (by omega)
  have O2 := O2.below b3 (by omega)
  have bb := bb.trans (b3.mono (by omega))
  go_wp2_with fail
  refine (sameSignal_t _ O2.rd O3.rd).mono ?_
  rintro e w4 ⟨rfl, b4⟩
  have t4 := b4.size
  have O := O.below b4 (by omega)
  have O2 := O2.below b4 (by omega)
  have bb := bb.trans (b4.mono (by omega))
  clear b2 b3 b4 O3
  by_cases hz : (turn xs q).length = 0
  case pos =>
    obtain ⟨A, n, c, rfl, Q⟩ := O2.rd
    obtain rfl : n = 0 := by have := Q.len; omega
    clear Q hz
    go_wp2_with fail
    refine (alive_c _).mono ?_
    rintro e w5 ⟨rfl, b5⟩
    have bb := bb.trans (b5.mono (by omega))
    go_wp2_with fail
    go_ret
    exact ⟨rfl, bb⟩
  obtain ⟨hs, hq⟩ : sigOk xs = true ∧ inB q 0 3 = true := by
    cases h : (sigOk xs && inB q 0 3) with
    | true => simpa using h
    | false => rw [turn_no h] at hz; simp at hz
  have hin := inB_iff.1 hq
  rw [turn_yes hs hq] at O2 hz
  obtain ⟨q, rfl⟩ := Int.eq_ofNat_of_zero_le hin.1
  rw [Int.toNat_natCast] at O2 hz
  have hl := O.len
  have hl2 := O2.len
  rw [turnN_len] at hl2 hz
  obtain ⟨A, n, c, rfl, Q⟩ := O2.rd
  have hn : n = m := by have := Q.len; rw [turnN_len] at this; omega
  have hn0 : ((n : Int) == 0) = false := by simp; omega
  obtain ⟨p, hp⟩ : ∃ p, p = (4 - q) % 4 := ⟨_, rfl⟩
  have hpq : q + p = 4 ∨ q + p = 0 := by omega
  have ep : (4 - (q : Int)) % 4 = (p : Int) := by omega
  have hT := turn_yes (xs := turnN xs q) (q := (p : Int)) (turnN_ok hs) (inB_yes (by omega) (by omega))
  rw [Int.toNat_natCast, turn_turn hl hpq] at hT
  have hP := pwr_turn (q := q) hl hs
  have H1 := implTurn_c w4 (p : Int) O2.rd (by omega)
  rw [hT] at H1
  have H1 := hid H1
  have HP := hid hP
  have HS := hid hs
  clear hT hP hp hpq Q hl hl2 hn hs hq hz
  go_wp2_with fail
  refine H1.out.mono ?_
  rintro e w5 ⟨v5, m5, rfl, O5, b5⟩
  have t5 := b5.size
  have O := O.below b5 (by omega)
  have O2 := O2.below b5 (by omega)
  have bb := bb.trans (b5.mono (by omega))
  clear H1 b5
  go_wp2_with fail
  refine (sameSignal_t _ O5.rd O.rd).mono ?_
  rintro e w6 ⟨rfl, b6⟩
  have t6 := b6.size
  have O := O.below b6 (by omega)
  have O2 := O2.below b6 (by omega)
  have bb := bb.trans (b6.mono (by omega))
  clear b6 O5
  have H2 := implPow_c w6 O2.rd (by omega)
  rw [HP.out] at H2
  have H2 := hid H2
  go_wp2_with fail
  refine H2.out.mono ?_
  rintro e w7 ⟨rfl, b7⟩
  have t7 := b7.size
  have O := O.below b7 (by omega)
  have bb := bb.trans (b7.mono (by omega))
  clear b7 H2
  go_wp2_with fail
  refine (implPow_c w7 O.rd (by omega)).mono ?_
  rintro e w8 ⟨rfl, b8⟩
  have bb := bb.trans (b8.mono (by omega))
  go_wp2_with fail
  go_ret
  exact ⟨rfl, bb⟩

end Go.Proofs.Ytmlgfiblfmfnbaa
