/-
  The law FnFindPattern, walked: for every input the call returns true, and nothing that was there has changed.
-/
import Derived.Test.YtebbljgmliikfaaCorrLaw
namespace Go.Proofs.Ytebbljgmliikfaa
open Go.RowKit

set_option maxHeartbeats 1000000 in
theorem FnFindPattern_walk (a0 : Option Addr) (len0 cap0 : Nat) (z0 : List Int) (w : World) (w0 : IsRow .u8 w a0 len0 cap0 z0) :
    Calls Try.prog 8 #[.slice a0 len0 cap0] w fun e w' => e = .returned (.bool true) ∧ Below w.heap.size w w' := by
  by_cases hl0 : len0 ≤ 1048576
  case neg =>
    have hl0' : 1048576 < len0 := by omega
    go_enter Try.func8, Try.ntmps8
    go_wp2
    go_ret
    exact ⟨rfl, Below.refl _ _⟩
  have B0 := w0.bytes
  clear w0
  have bb := Below.refl w.heap.size w
  go_enter Try.func8, Try.ntmps8
  go_wp2_with fail
  refine (DrawFindPattern_c _ B0 (Nat.le_refl _)).mono ?_
  rintro e w1_ ⟨v1, xs, u1, ys, rfl, OX, ⟨hl, hx⟩, OY, ⟨hl2, hy⟩, b1⟩
  have t1 := b1.size
  have bb := bb.trans (b1.mono (by omega))
  clear b1
  clear hx hy
  go_wp2_with fail
  refine (implFind_t _ OX.rd OY.rd (by omega) (by omega)).mono ?_
  rintro e w2_ ⟨rfl, b2⟩
  have t2 := b2.size
  have OX := OX.below b2 (by omega)
  have OY := OY.below b2 (by omega)
  have bb := bb.trans (b2.mono (by omega))
  clear b2
  go_wp2_with fail
  refine (specFind_t _ OX.rd OY.rd (by omega) (by omega)).mono ?_
  rintro e w3_ ⟨rfl, b3⟩
  have t3 := b3.size
  have OX := OX.below b3 (by omega)
  have OY := OY.below b3 (by omega)
  have bb := bb.trans (b3.mono (by omega))
  clear b3
  obtain ⟨Ax, nx, cx, rfl, RX⟩ := OX.rd
  have lRX := hid RX.len
  obtain ⟨Ay, ny, cy, rfl, RY⟩ := OY.rd
  have lRY := hid RY.len
  have nx65 : nx ≤ 200 := by rw [← lRX.out]; exact hl
  have ny65 : ny ≤ 65 := by rw [← lRY.out]; exact hl2
  clear hl hl2
  generalize hN : fp xs ys = N
  have HN := hid hN
  clear hN
  by_cases s1 : seqOk xs = true
  case neg =>
    have s1' : seqOk xs = false := by simpa using s1
    clear s1
    obtain rfl : N = -1 := by rw [← HN.out]; exact fp_no (by simp [fpOk, s1'])
    go_wp2_with fail
    refine (implSeq_t _ OX.rd (by omega)).mono ?_
    rintro e w4_ ⟨rfl, b4⟩
    have t4 := b4.size
    have OX := OX.below b4 (by omega)
    have OY := OY.below b4 (by omega)
    have RX := RX.below b4 (by omega)
    have RY := RY.below b4 (by omega)
    have bb := bb.trans (b4.mono (by omega))
    clear b4
    go_wp2_with fail
    refine (alive_c _).mono ?_
    rintro e w5_ ⟨rfl, b5⟩
    have t5 := b5.size
    have OX := OX.below b5 (by omega)
    have OY := OY.below b5 (by omega)
    have RX := RX.below b5 (by omega)
    have RY := RY.below b5 (by omega)
    have bb := bb.trans (b5.mono (by omega))
    clear b5
    go_wp2_with fail
    go_ret
    exact ⟨rfl, bb⟩
  go_wp2_with fail
  refine (implSeq_t _ OX.rd (by omega)).mono ?_
  rintro e w4_ ⟨rfl, b4⟩
  have t4 := b4.size
  have OX := OX.below b4 (by omega)
  have OY := OY.below b4 (by omega)
  have RX := RX.below b4 (by omega)
  have RY := RY.below b4 (by omega)
  have bb := bb.trans (b4.mono (by omega))
  clear b4
  by_cases s2 : seqOk ys = true
  case neg =>
    have s2' : seqOk ys = false := by simpa using s2
    clear s2
    obtain rfl : N = -1 := by rw [← HN.out]; exact fp_no (by simp [fpOk, s2'])
    go_wp2_with fail
    refine (implSeq_t _ OY.rd (by omega)).mono ?_
    rintro e w5_ ⟨rfl, b5⟩
    have t5 := b5.size
    have OX := OX.below b5 (by omega)
    have OY := OY.below b5 (by omega)
    have RX := RX.below b5 (by omega)
    have RY := RY.below b5 (by omega)
    have bb := bb.trans (b5.mono (by omega))
    clear b5
    go_wp2_with fail
    refine (alive_c _).mono ?_
    rintro e w6_ ⟨rfl, b6⟩
    have t6 := b6.size
    have OX := OX.below b6 (by omega)
    have OY := OY.below b6 (by omega)
    have RX := RX.below b6 (by omega)
    have RY := RY.below b6 (by omega)
    have bb := bb.trans (b6.mono (by omega))
    clear b6
    go_wp2_with fail
    go_ret
    exact ⟨rfl, bb⟩
  go_wp2_with fail
  refine (implSeq_t _ OY.rd (by omega)).mono ?_
  rintro e w5_ ⟨rfl, b5⟩
  have t5 := b5.size
  have OX := OX.below b5 (by omega)
  have OY := OY.below b5 (by omega)
  have RX := RX.below b5 (by omega)
  have RY := RY.below b5 (by omega)
  have bb := bb.trans (b5.mono (by omega))
  clear b5
  by_cases g2 : ny = 0
  case pos =>
    subst g2
    obtain rfl : N = -1 := by rw [← HN.out]; exact fp_no (by simp [fpOk, lRY.out])
    go_wp2_with fail
    refine (alive_c _).mono ?_
    rintro e w6_ ⟨rfl, b6⟩
    have t6 := b6.size
    have OX := OX.below b6 (by omega)
    have OY := OY.below b6 (by omega)
    have RX := RX.below b6 (by omega)
    have RY := RY.below b6 (by omega)
    have bb := bb.trans (b6.mono (by omega))
    clear b6
    go_wp2_with fail
    go_ret
    exact ⟨rfl, bb⟩
  have g2' : ((ny : Int) == 0) = false := by simpa using g2
  have FOK : fpOk xs ys = true := by simp [fpOk, s1, s2, lRY.out, g2]
  have FY : N = fpTo xs ys (nx + 1 - ny) := by rw [← HN.out, fp_yes FOK, lRX.out, lRY.out]
  by_cases g1 : nx < ny
  case pos =>
    obtain rfl : N = -1 := by rw [← HN.out]; rw [HN.out, FY, show nx + 1 - ny = 0 by omega]; rfl
    clear FY
    go_wp2_with fail
    refine (alive_c _).mono ?_
    rintro e w6_ ⟨rfl, b6⟩
    have t6 := b6.size
    have OX := OX.below b6 (by omega)
    have OY := OY.below b6 (by omega)
    have RX := RX.below b6 (by omega)
    have RY := RY.below b6 (by omega)
    have bb := bb.trans (b6.mono (by omega))
    clear b6
    go_wp2_with fail
    go_ret
    exact ⟨rfl, bb⟩
  have BEST := fpTo_best xs ys (nx + 1 - ny)
  have FIN := fpTo_in xs ys (nx + 1 - ny)
  rw [← FY] at BEST FIN
  have B0_ := (BEST 0 (by omega)).1
  obtain ⟨a, rfl⟩ := Int.eq_ofNat_of_zero_le B0_
  have BEST := hid BEST
  have ha : a + ny ≤ nx := by omega
  clear FY FIN B0_
  have hc : ∀ k : Nat, k + ny ≤ nx → corr xs ys k = dotF xs ys k := fun k h => corr_dot s1 s2 lRX.out lRY.out h
  have HC := hid hc
  clear hc
  go_wp2_with fail
  refine (implCorr_t _ OX.rd OY.rd (by omega) (by omega) ⟨by omega, by omega⟩).mono ?_
  rintro e w6_ ⟨rfl, b6⟩
  have t6 := b6.size
  have OX := OX.below b6 (by omega)
  have OY := OY.below b6 (by omega)
  have RX := RX.below b6 (by omega)
  have RY := RY.below b6 (by omega)
  have bb := bb.trans (b6.mono (by omega))
  clear b6
  rw [HC.out a ha]
  generalize hD : dotF xs ys a = D
  have HD := hid hD
  clear hD
  go_wp2_with fail
  go_loopw [7] (fun i wr => ∃ k : Nat, k ≤ nx + 1 - ny ∧ i = .int .i64 k ∧ Below w6_.heap.size w6_ wr) (fun i _ => nx + 1 - ny - (intOf i).toNat)
  case atStart => exact ⟨0, Nat.zero_le _, rfl, Below.refl _ _⟩
  case round =>
    obtain ⟨k, hk, rfl, hb⟩ := hrel
    have hsz := hb.size
    by_cases hlt : k + ny ≤ nx
    case pos =>
      have RX1 := RX.below hb (by omega)
      have RY1 := RY.below hb (by omega)
      have bk := BEST.out k (by omega)
      rw [Int.toNat_natCast, HD.out] at bk
      have b1 := bk.2.1
      have b2 := hid bk.2.2
      clear bk
      have hck := hid (HC.out k hlt)
      have hcall : ∀ W, Hid (RdA w1_.heap.size W Ax nx cx xs) → Hid (RdA w1_.heap.size W Ay ny cy ys) → Hid (w1_.heap.size ≤ W.heap.size) → Calls Try.prog 22 #[.slice Ax nx cx, .slice Ay ny cy, .int .i64 (k : Nat)] W fun e w' => e = .returned (.int .i64 (dotF xs ys k)) ∧ Below W.heap.size W w' := by
        intro W r1 r2 r3
        have := implCorr_t (i := (k : Nat)) W ⟨_, _, _, rfl, r1.out⟩ ⟨_, _, _, rfl, r2.out⟩ r3.out r3.out ⟨by omega, by omega⟩
        rw [hck.out] at this
        exact this
      have HCALL := hid hcall
      clear hcall
      generalize dotF xs ys k = E at b1 b2 HCALL hck
      by_cases he : E = D
      case pos =>
        subst he
        have hka : ¬ (k : Int) < (a : Int) := fun h => by have := b2.out h; omega
        have hka2 : ¬ k < a := by omega
        have r1 := hid RX1
        have r2 := hid RY1
        have r3 : Hid (w1_.heap.size ≤ wr.heap.size) := by show _ ≤ _; omega
        go_wp2_with (go_at_call 22; (with_reducible refine (HCALL.out _ r1 r2 r3).mono ?_); rintro e wz ⟨rfl, bz⟩; have hb2 := hb.trans (bz.mono hsz))
        go_roundw
        case rel => exact ⟨k + 1, by omega, by go_num, hb2⟩
        case measure => simp [intOf]; omega
      have hlt2 : E < D := by omega
      have he2 : (E == D) = false := by simpa using he
      clear he
      have r1 := hid RX1
      have r2 := hid RY1
      have r3 : Hid (w1_.heap.size ≤ wr.heap.size) := by show _ ≤ _; omega
      go_wp2_with (go_at_call 22; (with_reducible refine (HCALL.out _ r1 r2 r3).mono ?_); rintro e wz ⟨rfl, bz⟩; have hb2 := hb.trans (bz.mono hsz))
      go_roundw
      case rel => exact ⟨k + 1, by omega, by go_num, hb2⟩
      case measure => simp [intOf]; omega
    have bb := bb.trans (hb.mono (by omega))
    clear hb
    go_wp2_with fail
    go_ret
    exact ⟨rfl, bb⟩

end Go.Proofs.Ytebbljgmliikfaa
