/-
  The law FnLowerRate, walked: for every input the call returns true, and nothing that was there has changed.
-/
import Derived.Test.YtebbljgmliikfaaCorrLaw
namespace Go.Proofs.Ytebbljgmliikfaa
open Go.RowKit

set_option maxHeartbeats 2000000 in
theorem FnLowerRate_walk (a0 : Option Addr) (len0 cap0 : Nat) (z0 : List Int) (w : World) (w0 : IsRow .u8 w a0 len0 cap0 z0) :
    Calls Try.prog 5 #[.slice a0 len0 cap0] w fun e w' => e = .returned (.bool true) ∧ Below w.heap.size w w' := by
  by_cases hl0 : len0 ≤ 1048576
  case neg =>
    have hl0' : 1048576 < len0 := by omega
    go_enter Try.func5, Try.ntmps5
    go_wp2
    go_ret
    exact ⟨rfl, Below.refl _ _⟩
  have B0 := w0.bytes
  clear w0
  have bb := Below.refl w.heap.size w
  go_enter Try.func5, Try.ntmps5
  go_wp2_with fail
  refine (DrawLowerRate_c _ B0 (Nat.le_refl _)).mono ?_
  rintro e w1_ ⟨v1, xs, n, p, rfl, OX, ⟨hl, hx⟩, ⟨n0, n9⟩, ⟨p0, p10⟩, b1⟩
  have t1 := b1.size
  have bb := bb.trans (b1.mono (by omega))
  clear b1
  clear hx hl
  have hn : InI n := ⟨by omega, by omega⟩
  have hp : InI p := ⟨by omega, by omega⟩
  go_wp2_with fail
  refine (implLower_t _ OX.rd (by omega) hn hp).mono ?_
  rintro e w2_ ⟨v2, rfl, OU, b2⟩
  have t2 := b2.size
  have OX := OX.below b2 (by omega)
  have bb := bb.trans (b2.mono (by omega))
  clear b2
  go_wp2_with fail
  refine (specLower_t _ OX.rd (by omega) hn hp).mono ?_
  rintro e w3_ ⟨v3, rfl, OS, b3⟩
  have t3 := b3.size
  have OX := OX.below b3 (by omega)
  have OU := OU.below b3 (by omega)
  have bb := bb.trans (b3.mono (by omega))
  clear b3
  go_wp2_with fail
  refine (sameInts_t _ OU.rd OS.rd).mono ?_
  rintro e w4_ ⟨rfl, b4⟩
  have t4 := b4.size
  have OX := OX.below b4 (by omega)
  have OU := OU.below b4 (by omega)
  have OS := OS.below b4 (by omega)
  have bb := bb.trans (b4.mono (by omega))
  clear b4
  clear OS
  obtain ⟨Au, nu, cu, rfl, RU⟩ := OU.rd
  have lRU := hid RU.len
  obtain ⟨Ax, nx, cx, rfl, RX⟩ := OX.rd
  have lRX := hid RX.len
  clear hn hp
  by_cases s1 : seqOk xs = true
  case neg =>
    have s1' : seqOk xs = false := by simpa using s1
    clear s1
    have hz : lower xs n p = [] := lower_no (by simp [lowerOk, s1'])
    obtain rfl : nu = 0 := by rw [← lRU.out, hz]; rfl
    clear hz
    go_wp2_with fail
    refine (implSeq_t _ OX.rd (by omega)).mono ?_
    rintro e w5_ ⟨rfl, b5⟩
    have t5 := b5.size
    have OX := OX.below b5 (by omega)
    have OU := OU.below b5 (by omega)
    have RU := RU.below b5 (by omega)
    have RX := RX.below b5 (by omega)
    have bb := bb.trans (b5.mono (by omega))
    clear b5
    go_wp2_with fail
    refine (alive_c _).mono ?_
    rintro e w6_ ⟨rfl, b6⟩
    have t6 := b6.size
    have OX := OX.below b6 (by omega)
    have OU := OU.below b6 (by omega)
    have RU := RU.below b6 (by omega)
    have RX := RX.below b6 (by omega)
    have bb := bb.trans (b6.mono (by omega))
    clear b6
    go_wp2_with fail
    go_ret
    exact ⟨rfl, bb⟩
  go_wp2_with fail
  refine (implSeq_t _ OX.rd (by omega)).mono ?_
  rintro e w5_ ⟨rfl, b5⟩
  have t5 := b5.size
  have OX := OX.below b5 (by omega)
  have OU := OU.below b5 (by omega)
  have RU := RU.below b5 (by omega)
  have RX := RX.below b5 (by omega)
  have bb := bb.trans (b5.mono (by omega))
  clear b5
  by_cases g0 : n < 1
  case pos =>
    have hz : lower xs n p = [] := lower_no (by rw [lowerOk, inB_lo (by omega)]; simp)
    obtain rfl : nu = 0 := by rw [← lRU.out, hz]; rfl
    clear hz
    go_wp2_with fail
    refine (alive_c _).mono ?_
    rintro e w6_ ⟨rfl, b6⟩
    have t6 := b6.size
    have OX := OX.below b6 (by omega)
    have OU := OU.below b6 (by omega)
    have RU := RU.below b6 (by omega)
    have RX := RX.below b6 (by omega)
    have bb := bb.trans (b6.mono (by omega))
    clear b6
    go_wp2_with fail
    go_ret
    exact ⟨rfl, bb⟩
  by_cases g1 : 8 < n
  case pos =>
    have hz : lower xs n p = [] := lower_no (by rw [lowerOk, inB_hi (n := n) (by omega)]; simp)
    obtain rfl : nu = 0 := by rw [← lRU.out, hz]; rfl
    clear hz
    go_wp2_with fail
    refine (alive_c _).mono ?_
    rintro e w6_ ⟨rfl, b6⟩
    have t6 := b6.size
    have OX := OX.below b6 (by omega)
    have OU := OU.below b6 (by omega)
    have RU := RU.below b6 (by omega)
    have RX := RX.below b6 (by omega)
    have bb := bb.trans (b6.mono (by omega))
    clear b6
    go_wp2_with fail
    go_ret
    exact ⟨rfl, bb⟩
  obtain ⟨n, rfl⟩ := Int.eq_ofNat_of_zero_le (show 0 ≤ n by omega)
  have hn1 : 1 ≤ n := by omega
  have hn8 : n ≤ 8 := by omega
  have SX := hid s1
  have nx64 : nx ≤ 64 := by have := seqOk_len SX.out; have := lRX.out; omega
  clear OU RU
  go_wp2_with fail
  go_loopw [7, 8] (fun t i wr => ∃ k : Nat, k ≤ n ∧ i = .int .i64 k ∧ t = .int .i64 (lowTo nx n k) ∧ Below w5_.heap.size w5_ wr) (fun _ i _ => n - (intOf i).toNat)
  case atStart => exact ⟨0, Nat.zero_le _, rfl, rfl, Below.refl _ _⟩
  case round =>
    obtain ⟨k, hk, rfl, rfl, hb⟩ := hrel
    have hsz := hb.size
    have bt := lowTo_bound nx n k hn1 nx64 hn8
    have bl := lowerN_le nx n k hn1 nx64 hn8
    by_cases hlt : k < n
    case pos =>
      have LA := lower_at SX.out hn1 hn8 hlt
      rw [lRX.out] at LA
      have hs := hid (lowTo_succ nx n k)
      have RX1 := RX.below hb (by omega)
      generalize hT : lowTo nx n k = T at bt hs
      have hT' := hid hT
      clear hT
      generalize hM : lowerN nx n k = M at LA bl hs
      have hM' := hid hM
      clear hM
      have LA1 := hid LA.1
      have LA2 := hid LA.2
      clear LA
      go_wp2_with fail
      refine (implLower_t (n := n) (p := k) _ ⟨_, _, _, rfl, RX1⟩ (by omega) ⟨by omega, by omega⟩ ⟨by omega, by omega⟩).mono ?_
      rintro e wp ⟨vp, rfl, OP, bp⟩
      have RX2 := RX1.below bp (by omega)
      have hb2 := hb.trans (bp.mono hsz)
      have szp := bp.size
      obtain ⟨Ap, np, cp, rfl, RP⟩ := OP.rd
      obtain rfl : np = M := by rw [← RP.len]; exact LA1.out
      clear OP bp hb RX1
      have HS := hid hs.out
      go_wp2_with fail
      go_loopw [10] (fun i wr => ∃ j : Nat, j ≤ np ∧ i = .int .i64 j ∧ ∃ q, wr = wp.drewN q) (fun i _ => np - (intOf i).toNat)
      case atStart => exact ⟨0, Nat.zero_le _, rfl, 0, rfl⟩
      case round =>
        obtain ⟨j, hj, rfl, q, rfl⟩ := hrel
        by_cases hjl : j < np
        case pos =>
          have L2 := LA2.out j hjl
          obtain ⟨b, off, x, rfl, _, c1, hx⟩ := RP.at_ hjl
          obtain ⟨b2, off2, y, rfl, _, c2, hy⟩ := RX2.at_ L2.1
          obtain rfl : x = y := by rw [← hx.out, ← hy.out]; exact L2.2
          have l2 := L2.1
          clear L2
          have e5 : (j : Int) * (n : Int) = ((j * n : Nat) : Int) := by simp
          generalize j * n = P at *
          rw [Nat.add_comm k P] at c2
          have u2 : IntKind.i64.wrap ((P : Int)) = (P : Int) := IntWalk.i64_in _ (by omega)
          have u3 : IntKind.i64.wrap ((P : Int) + k) = (P : Int) + k := IntWalk.i64_in _ (by omega)
          have u4 : (0 : Int) ≤ (P : Int) + k := by omega
          have u5 : ((P : Int) + k).toNat = P + k := by omega
          have u6 : (P : Int) + k < (nx : Int) := by omega
          have u7 : (j : Int) < (np : Int) := by omega
          go_wp2
          go_quiet (fail)
          clear u2 u3 u4 u5 u6
          go_wp2
          go_roundw
          case rel => exact ⟨j + 1, by omega, by go_num, _, rfl⟩
          case measure => simp [intOf]; omega
        go_wp2
        go_roundw
        case rel => exact ⟨k + 1, by omega, by go_num, by rw [HS.out], below_drewN hb2 q⟩
        case measure => simp [intOf]; omega
    obtain rfl : n = k := by omega
    clear bt bl
    rw [lowTo_all hn1]
    obtain ⟨wq, rfl⟩ : ∃ wq, wq = wr := ⟨_, rfl⟩
    have OX := OX.below hb (by omega)
    have bb := bb.trans (hb.mono (by omega))
    clear hb RX
    obtain ⟨w6_, rfl⟩ : ∃ x, x = wq := ⟨_, rfl⟩
    have e1 := hid (lower_one SX.out)
    go_wp2_with fail
    refine (implLower_t (n := 1) (p := 0) _ OX.rd (by omega) ⟨by omega, by omega⟩ ⟨by omega, by omega⟩).mono ?_
    rintro e w7_ ⟨v7, rfl, OZ, b7⟩
    have t7 := b7.size
    have OX := OX.below b7 (by omega)
    have bb := bb.trans (b7.mono (by omega))
    clear b7
    rw [e1.out] at OZ
    go_wp2_with fail
    refine (sameInts_t _ OZ.rd OX.rd).mono ?_
    rintro e w8_ ⟨rfl, b8⟩
    have t8 := b8.size
    have OX := OX.below b8 (by omega)
    have OZ := OZ.below b8 (by omega)
    have bb := bb.trans (b8.mono (by omega))
    clear b8
    go_wp2_with fail
    go_ret
    exact ⟨rfl, bb⟩

end Go.Proofs.Ytebbljgmliikfaa
