/-
  The law FnFilterSequence, walked: for every input the call returns true, and nothing that was there has changed.
-/
import Derived.Test.YtebbljgmliikfaaConv
namespace Go.Proofs.Ytebbljgmliikfaa
open Go.RowKit

set_option maxHeartbeats 1000000 in
theorem FnFilterSequence_walk (a0 : Option Addr) (len0 cap0 : Nat) (z0 : List Int) (w : World) (w0 : IsRow .u8 w a0 len0 cap0 z0) :
    Calls Try.prog 4 #[.slice a0 len0 cap0] w fun e w' => e = .returned (.bool true) ∧ Below w.heap.size w w' := by
  by_cases hl0 : len0 ≤ 1048576
  case neg =>
    have hl0' : 1048576 < len0 := by omega
    go_enter Try.func4, Try.ntmps4
    go_wp2
    go_ret
    exact ⟨rfl, Below.refl _ _⟩
  have B0 := w0.bytes
  clear w0
  have bb := Below.refl w.heap.size w
  go_enter Try.func4, Try.ntmps4
  go_wp2_with fail
  refine (DrawFilterSequence_c _ B0 (Nat.le_refl _)).mono ?_
  rintro e w1_ ⟨v1, xs, u1, ys, rfl, OX, ⟨hl, hx⟩, OY, ⟨hl2, hy⟩, b1⟩
  have t1 := b1.size
  have bb := bb.trans (b1.mono (by omega))
  clear b1
  clear hx hy
  clear hl hl2
  go_wp2_with fail
  refine (implFilt_c _ OX.rd OY.rd (by omega) (by omega)).mono ?_
  rintro e w2_ ⟨v2, rfl, OC, b2⟩
  have t2 := b2.size
  have OX := OX.below b2 (by omega)
  have OY := OY.below b2 (by omega)
  have bb := bb.trans (b2.mono (by omega))
  clear b2
  go_wp2_with fail
  refine (specFilt_c _ OX.rd OY.rd (by omega) (by omega)).mono ?_
  rintro e w3_ ⟨v3, rfl, OS, b3⟩
  have t3 := b3.size
  have OX := OX.below b3 (by omega)
  have OY := OY.below b3 (by omega)
  have OC := OC.below b3 (by omega)
  have bb := bb.trans (b3.mono (by omega))
  clear b3
  go_wp2_with fail
  refine (sameInts_t _ OC.rd OS.rd).mono ?_
  rintro e w4_ ⟨rfl, b4⟩
  have t4 := b4.size
  have OX := OX.below b4 (by omega)
  have OY := OY.below b4 (by omega)
  have OC := OC.below b4 (by omega)
  have OS := OS.below b4 (by omega)
  have bb := bb.trans (b4.mono (by omega))
  clear b4
  clear OS
  go_wp2_with fail
  refine (implFilt_c _ OY.rd OX.rd (by omega) (by omega)).mono ?_
  rintro e w5_ ⟨v5, rfl, OT, b5⟩
  have t5 := b5.size
  have OX := OX.below b5 (by omega)
  have OY := OY.below b5 (by omega)
  have OC := OC.below b5 (by omega)
  have bb := bb.trans (b5.mono (by omega))
  clear b5
  rw [filt_comm ys xs] at OT
  go_wp2_with fail
  refine (sameInts_t _ OC.rd OT.rd).mono ?_
  rintro e w6_ ⟨rfl, b6⟩
  have t6 := b6.size
  have OX := OX.below b6 (by omega)
  have OY := OY.below b6 (by omega)
  have OC := OC.below b6 (by omega)
  have OT := OT.below b6 (by omega)
  have bb := bb.trans (b6.mono (by omega))
  clear b6
  clear OT
  obtain ⟨Ac, nc, cc, rfl, RC⟩ := OC.rd
  have lRC := hid RC.len
  by_cases hc : nc = 0
  case pos =>
    subst hc
    go_wp2_with fail
    refine (alive_c _).mono ?_
    rintro e w7_ ⟨rfl, b7⟩
    have t7 := b7.size
    have OX := OX.below b7 (by omega)
    have OY := OY.below b7 (by omega)
    have OC := OC.below b7 (by omega)
    have RC := RC.below b7 (by omega)
    have bb := bb.trans (b7.mono (by omega))
    clear b7
    go_wp2_with fail
    go_ret
    exact ⟨rfl, bb⟩
  have hok : filtOk xs ys = true := by
    cases h : filtOk xs ys with
    | true => rfl
    | false => exact absurd (lRC.out.symm.trans (filt_nil h)) hc
  have hc' : ((nc : Int) == 0) = false := by simpa using hc
  have hlen := hid (filtOk_len hok)
  have htot := hid (show tot (filt xs ys) = tot xs * tot ys by rw [filt_yes hok]; exact conv_tot)
  have KK := filtOk_iff.1 hok
  have SX := hid KK.1.1.1
  have SY := hid KK.1.1.2
  have HXn := hid KK.1.2
  clear KK
  obtain ⟨Ax, nx, cx, rfl, RX⟩ := OX.rd
  have lRX := hid RX.len
  obtain ⟨Ay, ny, cy, rfl, RY⟩ := OY.rd
  have lRY := hid RY.len
  have nx64 : nx ≤ 64 := by have := seqOk_len SX.out; have := lRX.out; omega
  have ny64 : ny ≤ 64 := by have := seqOk_len SY.out; have := lRY.out; omega
  have nc128 : nc ≤ 128 := by have := hlen.out; have := lRC.out; have := lRX.out; have := lRY.out; omega
  have bc := hid (fun i => convcell_bound SX.out SY.out i (xs := xs) (ys := ys))
  generalize hZ : filt xs ys = zs at *
  have HZ := hid hZ
  clear hZ hok
  go_wp2_with fail
  go_loop [6, 9] (fun t i => ∃ k : Nat, k ≤ nx ∧ i = .int .i64 k ∧ t = .int .i64 (totTo xs k)) (fun _ i => nx - (intOf i).toNat)
  case atStart => exact ⟨0, Nat.zero_le _, rfl, rfl⟩
  case round =>
    obtain ⟨k, hk, rfl, rfl⟩ := hrel
    have bs := totTo_bound (xs := xs) (c := 1000) (fun i => seqOk_at SX.out i) k
    have bS : -10000000000 ≤ totTo xs k ∧ totTo xs k ≤ 10000000000 := by omega
    clear bs
    by_cases hlt : k < nx
    case pos =>
      obtain ⟨b, off, x, rfl, _, c1, hx⟩ := RX.at_ hlt
      have bb1 := seqOk_at SX.out k
      rw [hx.out] at bb1
      have hs := hid (totTo_succ hx.out)
      generalize hS : totTo xs k = S at bS hs
      have hS' := hid hS
      clear hS
      have i1 : (k : Int) < (nx : Int) := by omega
      go_wp2
      go_round
      case rel => exact ⟨k + 1, by omega, by go_num, by rw [hs.out]⟩
      case measure => simp [intOf]; omega
    obtain rfl : nx = k := by omega
    clear bS
    go_wp2_with fail
    go_loop [7, 10] (fun t i => ∃ k : Nat, k ≤ ny ∧ i = .int .i64 k ∧ t = .int .i64 (totTo ys k)) (fun _ i => ny - (intOf i).toNat)
    case atStart => exact ⟨0, Nat.zero_le _, rfl, rfl⟩
    case round =>
      obtain ⟨k, hk, rfl, rfl⟩ := hrel
      have bs := totTo_bound (xs := ys) (c := 1000) (fun i => seqOk_at SY.out i) k
      have bS : -10000000000 ≤ totTo ys k ∧ totTo ys k ≤ 10000000000 := by omega
      clear bs
      by_cases hlt : k < ny
      case pos =>
        obtain ⟨b, off, x, rfl, _, c1, hx⟩ := RY.at_ hlt
        have bb1 := seqOk_at SY.out k
        rw [hx.out] at bb1
        have hs := hid (totTo_succ hx.out)
        generalize hS : totTo ys k = S at bS hs
        have hS' := hid hS
        clear hS
        have i1 : (k : Int) < (ny : Int) := by omega
        go_wp2
        go_round
        case rel => exact ⟨k + 1, by omega, by go_num, by rw [hs.out]⟩
        case measure => simp [intOf]; omega
      obtain rfl : ny = k := by omega
      clear bS
      go_wp2_with fail
      go_loop [8, 11] (fun t i => ∃ k : Nat, k ≤ nc ∧ i = .int .i64 k ∧ t = .int .i64 (totTo zs k)) (fun _ i => nc - (intOf i).toNat)
      case atStart => exact ⟨0, Nat.zero_le _, rfl, rfl⟩
      case round =>
        obtain ⟨k, hk, rfl, rfl⟩ := hrel
        have bs := totTo_bound (xs := zs) (c := 65000000) (fun i => bc.out i) k
        have bS : -10000000000 ≤ totTo zs k ∧ totTo zs k ≤ 10000000000 := by omega
        clear bs
        by_cases hlt : k < nc
        case pos =>
          obtain ⟨b, off, x, rfl, _, c1, hx⟩ := RC.at_ hlt
          have bb1 := bc.out k
          rw [hx.out] at bb1
          have hs := hid (totTo_succ hx.out)
          generalize hS : totTo zs k = S at bS hs
          have hS' := hid hS
          clear hS
          have i1 : (k : Int) < (nc : Int) := by omega
          go_wp2
          go_round
          case rel => exact ⟨k + 1, by omega, by go_num, by rw [hs.out]⟩
          case measure => simp [intOf]; omega
        obtain rfl : nc = k := by omega
        clear bS
        have bx := totTo_bound (fun i => seqOk_at SX.out i) nx
        have by_ := totTo_bound (fun i => seqOk_at SY.out i) ny
        have tt : totTo xs nx * totTo ys ny = totTo zs nc := by rw [totTo_all lRX.out, totTo_all lRY.out, totTo_all lRC.out]; exact htot.out.symm
        have bz := totTo_bound (fun i => bc.out i) nc
        generalize totTo xs nx = TX at *
        generalize totTo ys ny = TY at *
        generalize totTo zs nc = TZ at *
        have bz1 : -10000000000 ≤ TZ ∧ TZ ≤ 10000000000 := by omega
        clear bx by_ bz
        have hl3 : nx + ny - 1 = nc := by have := hlen.out; rw [lRC.out, lRX.out, lRY.out] at this; exact this.symm
        have nx1 : 0 < nx := by have := HXn.out; rw [lRX.out] at this; omega
        have hl4 : ((nc : Int) == (nx : Int) + ny - 1) = true := by simp; omega
        have HL3 := hid hl3
        clear hl3
        have o1 := Own.made w6_ #[.int .i64 1] [1] rfl rfl (by omega : 1 ≤ 4194304)
        have k1 := (Below.refl w6_.heap.size w6_).alloc (Nat.le_refl _) (.cells #[.int .i64 1] 3)
        have RX1 := RX.below k1 (by omega)
        go_wp2_with fail
        refine (implFilt_c _ ⟨_, _, _, rfl, RX1⟩ o1.rd (by simp only [World.size_alloc]; omega) (by simp)).mono ?_
        rintro e wz ⟨vz, rfl, OZ, bz⟩
        have f1 : filt xs [1] = xs := by
          rw [filt_yes (filtOk_iff.2 ⟨⟨⟨SX.out, by decide⟩, HXn.out⟩, by simp⟩)]
          exact conv_one xs
        rw [f1] at OZ
        have bz2 := k1.trans (bz.mono (by simp))
        have RX2 := RX1.below bz (by simp only [World.size_alloc]; omega)
        go_wp2_with fail
        refine (sameInts_t _ OZ.rd ⟨_, _, _, rfl, RX2⟩).mono ?_
        rintro e wy ⟨rfl, bY⟩
        have bz3 := bz2.trans (bY.mono (by have := bz.size; simp at this; omega))
        have bb := bb.trans (bz3.mono (by omega))
        go_wp2_with fail
        go_ret
        exact ⟨rfl, bb⟩

end Go.Proofs.Ytebbljgmliikfaa
