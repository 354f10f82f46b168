/-
  The law FnCorrelateAt, walked: for every input the call returns true, and nothing that was there has changed.
-/
import Derived.Test.YtebbljgmliikfaaCorrLaw
namespace Go.Proofs.Ytebbljgmliikfaa
open Go.RowKit

set_option maxHeartbeats 1000000 in
theorem FnCorrelateAt_walk (a0 : Option Addr) (len0 cap0 : Nat) (z0 : List Int) (w : World) (w0 : IsRow .u8 w a0 len0 cap0 z0) :
    Calls Try.prog 6 #[.slice a0 len0 cap0] w fun e w' => e = .returned (.bool true) ∧ Below w.heap.size w w' := by
  by_cases hl0 : len0 ≤ 1048576
  case neg =>
    have hl0' : 1048576 < len0 := by omega
    go_enter Try.func6, Try.ntmps6
    go_wp2
    go_ret
    exact ⟨rfl, Below.refl _ _⟩
  have B0 := w0.bytes
  clear w0
  have bb := Below.refl w.heap.size w
  go_enter Try.func6, Try.ntmps6
  go_wp2_with fail
  refine (DrawCorrelateAt_c _ B0 (Nat.le_refl _)).mono ?_
  rintro e w1_ ⟨v1, xs, u1, ys, i, rfl, OX, ⟨hl, hx⟩, OY, ⟨hl2, hy⟩, ⟨i0, i1⟩, b1⟩
  have t1 := b1.size
  have bb := bb.trans (b1.mono (by omega))
  clear b1
  clear hx hy
  have hi : InI i := ⟨by omega, by omega⟩
  go_wp2_with fail
  refine (implCorr_t _ OX.rd OY.rd (by omega) (by omega) hi).mono ?_
  rintro e w2_ ⟨rfl, b2⟩
  have t2 := b2.size
  have OX := OX.below b2 (by omega)
  have OY := OY.below b2 (by omega)
  have bb := bb.trans (b2.mono (by omega))
  clear b2
  go_wp2_with fail
  refine (specCorr_t _ OX.rd OY.rd (by omega) (by omega) hi).mono ?_
  rintro e w3_ ⟨rfl, b3⟩
  have t3 := b3.size
  have OX := OX.below b3 (by omega)
  have OY := OY.below b3 (by omega)
  have bb := bb.trans (b3.mono (by omega))
  clear b3
  obtain ⟨Ax, nx, cx, rfl, RX⟩ := OX.rd
  have lRX := hid RX.len
  obtain ⟨Ay, ny, cy, rfl, RY⟩ := OY.rd
  have lRY := hid RY.len
  have nx65 : nx ≤ 65 := by rw [← lRX.out]; exact hl
  have ny65 : ny ≤ 65 := by rw [← lRY.out]; exact hl2
  clear hl hl2
  generalize hN : corr xs ys i = N
  have HN := hid hN
  clear hN
  by_cases s1 : seqOk xs = true
  case neg =>
    have s1' : seqOk xs = false := by simpa using s1
    clear s1
    obtain rfl : N = 0 := by rw [← HN.out]; exact corr_zero1 s1'
    go_wp2_with fail
    refine (implSeq_t _ OX.rd (by omega)).mono ?_
    rintro e w4_ ⟨rfl, b4⟩
    have t4 := b4.size
    have OX := OX.below b4 (by omega)
    have OY := OY.below b4 (by omega)
    have RX := RX.below b4 (by omega)
    have RY := RY.below b4 (by omega)
    have bb := bb.trans (b4.mono (by omega))
    clear b4
    go_wp2_with fail
    refine (alive_c _).mono ?_
    rintro e w5_ ⟨rfl, b5⟩
    have t5 := b5.size
    have OX := OX.below b5 (by omega)
    have OY := OY.below b5 (by omega)
    have RX := RX.below b5 (by omega)
    have RY := RY.below b5 (by omega)
    have bb := bb.trans (b5.mono (by omega))
    clear b5
    go_wp2_with fail
    go_ret
    exact ⟨rfl, bb⟩
  go_wp2_with fail
  refine (implSeq_t _ OX.rd (by omega)).mono ?_
  rintro e w4_ ⟨rfl, b4⟩
  have t4 := b4.size
  have OX := OX.below b4 (by omega)
  have OY := OY.below b4 (by omega)
  have RX := RX.below b4 (by omega)
  have RY := RY.below b4 (by omega)
  have bb := bb.trans (b4.mono (by omega))
  clear b4
  by_cases s2 : seqOk ys = true
  case neg =>
    have s2' : seqOk ys = false := by simpa using s2
    clear s2
    obtain rfl : N = 0 := by rw [← HN.out]; exact corr_zero2 s2'
    go_wp2_with fail
    refine (implSeq_t _ OY.rd (by omega)).mono ?_
    rintro e w5_ ⟨rfl, b5⟩
    have t5 := b5.size
    have OX := OX.below b5 (by omega)
    have OY := OY.below b5 (by omega)
    have RX := RX.below b5 (by omega)
    have RY := RY.below b5 (by omega)
    have bb := bb.trans (b5.mono (by omega))
    clear b5
    go_wp2_with fail
    refine (alive_c _).mono ?_
    rintro e w6_ ⟨rfl, b6⟩
    have t6 := b6.size
    have OX := OX.below b6 (by omega)
    have OY := OY.below b6 (by omega)
    have RX := RX.below b6 (by omega)
    have RY := RY.below b6 (by omega)
    have bb := bb.trans (b6.mono (by omega))
    clear b6
    go_wp2_with fail
    go_ret
    exact ⟨rfl, bb⟩
  go_wp2_with fail
  refine (implSeq_t _ OY.rd (by omega)).mono ?_
  rintro e w5_ ⟨rfl, b5⟩
  have t5 := b5.size
  have OX := OX.below b5 (by omega)
  have OY := OY.below b5 (by omega)
  have RX := RX.below b5 (by omega)
  have RY := RY.below b5 (by omega)
  have bb := bb.trans (b5.mono (by omega))
  clear b5
  by_cases g0 : i < 0
  case pos =>
    obtain rfl : N = 0 := by rw [← HN.out]; exact corr_zero3 g0
    go_wp2_with fail
    refine (alive_c _).mono ?_
    rintro e w6_ ⟨rfl, b6⟩
    have t6 := b6.size
    have OX := OX.below b6 (by omega)
    have OY := OY.below b6 (by omega)
    have RX := RX.below b6 (by omega)
    have RY := RY.below b6 (by omega)
    have bb := bb.trans (b6.mono (by omega))
    clear b6
    go_wp2_with fail
    go_ret
    exact ⟨rfl, bb⟩
  by_cases g1 : (nx : Int) - ny < i
  case pos =>
    obtain rfl : N = 0 := by rw [← HN.out]; exact corr_zero4 (by rw [lRX.out, lRY.out]; exact g1)
    go_wp2_with fail
    refine (alive_c _).mono ?_
    rintro e w6_ ⟨rfl, b6⟩
    have t6 := b6.size
    have OX := OX.below b6 (by omega)
    have OY := OY.below b6 (by omega)
    have RX := RX.below b6 (by omega)
    have RY := RY.below b6 (by omega)
    have bb := bb.trans (b6.mono (by omega))
    clear b6
    go_wp2_with fail
    go_ret
    exact ⟨rfl, bb⟩
  by_cases g2 : ny = 0
  case pos =>
    subst g2
    obtain rfl : N = 0 := by rw [← HN.out]; exact corr_zero5 lRY.out
    go_wp2_with fail
    refine (alive_c _).mono ?_
    rintro e w6_ ⟨rfl, b6⟩
    have t6 := b6.size
    have OX := OX.below b6 (by omega)
    have OY := OY.below b6 (by omega)
    have RX := RX.below b6 (by omega)
    have RY := RY.below b6 (by omega)
    have bb := bb.trans (b6.mono (by omega))
    clear b6
    go_wp2_with fail
    go_ret
    exact ⟨rfl, bb⟩
  have g2' : ((ny : Int) == 0) = false := by simpa using g2
  obtain ⟨a, rfl⟩ := Int.eq_ofNat_of_zero_le (show 0 ≤ i by omega)
  have CF := corr_filt (a := a) s1 s2 (by rw [lRY.out]; exact g2) (by rw [lRX.out, lRY.out]; omega)
  rw [HN.out] at CF
  have CF := hid CF
  have oe := Own.empty w5_
  have be := (Below.refl w5_.heap.size w5_).alloc (Nat.le_refl _) (.cells #[] 3)
  go_wp2_with fail
  go_loopw [7, 8] (fun out i wr => ∃ k : Nat, k ≤ ny ∧ i = .int .i64 ((ny : Int) - 1 - k) ∧ Own w5_.heap.size wr.heap.size wr out (rg k fun i => ys.getD (ny - 1 - i) 0) ∧ Below w5_.heap.size w5_ wr) (fun _ i _ => (intOf i + 1).toNat)
  case atStart => exact ⟨0, Nat.zero_le _, by simp, by simpa [rg] using oe, be⟩
  case round =>
    obtain ⟨k, hk, rfl, ho, hb⟩ := hrel
    clear oe be
    have hsz := hb.size
    by_cases hlt : k < ny
    case pos =>
      obtain ⟨b, off, x, rfl, hbC, hcell, hx⟩ := RY.at_ (k := ny - 1 - k) (by omega)
      have c1 := (hb.cell (p := ⟨b, off + (ny - 1 - k), none⟩) (by simp; omega)).trans hcell
      have hnext := rg_snoc k fun i => ys.getD (ny - 1 - i) 0
      simp only [hx.out] at hnext
      have Hn := hid hnext
      clear hnext hcell hx
      obtain ⟨j, hj⟩ : ∃ j : Nat, j = ny - 1 - k := ⟨_, rfl⟩
      have hj2 : (ny : Int) - 1 - k = (j : Int) := by omega
      have hj3 : ((j : Int) - 1) = (ny : Int) - 1 - ((k + 1 : Nat) : Int) := by omega
      rw [← hj] at c1
      have i3 : (j : Int) < (ny : Int) := by omega
      have hjm : j + k < ny := by omega
      have Hj := hid hj
      have Hj3 := hid hj3
      clear hj hj3
      rw [hj2]
      have Hj2 := hid hj2
      clear hj2
      go_wp2_with (at_builtin; refine wpl_appl intSl _ rfl (.tmp 68) (.tmp 73) rfl w5_.heap.size wr.heap.size _ _ _ [x] 1 rfl rfl rfl rfl ho (Nat.le_refl _) (by rw [rg_length]; omega) hsz ?_; intro v' w1 ho1 hg1)
      rw [Hn.out] at ho1
      have hb1 := hb.grown hg1 hsz (fun q hq => (ho.lt q hq).1)
      clear ho hb hg1
      go_wp2
      go_roundw
      case rel => exact ⟨k + 1, by omega, by rw [Hj3.out], ho1, hb1⟩
      case measure => simp only [intOf]; omega
    obtain rfl : ny = k := by omega
    have eT : (rg ny fun i => ys.getD (ny - 1 - i) 0) = ys.reverse := by rw [← lRY.out]; exact turned_eq ys
    rw [eT] at ho
    clear eT
    obtain ⟨wq, rfl⟩ : ∃ wq, wq = wr := ⟨_, rfl⟩
    have OX := OX.below hb (by omega)
    have RX := RX.below hb (by omega)
    have bb := bb.trans (hb.mono (by omega))
    have NG := ho
    clear ho hb
    obtain ⟨w6_, rfl⟩ : ∃ x, x = wq := ⟨_, rfl⟩
    have en : ¬ (0 : Int) ≤ (ny : Int) - 1 - ny := by omega
    have hle2 : a + ny ≤ nx := by omega
    have hny0 : 0 < ny := by omega
    clear g0 g1 g2 i0 i1 hi
    go_wp2_with fail
    refine (implFilt_c _ OX.rd NG.rd (by omega) (by omega)).mono ?_
    rintro e w7_ ⟨v7, rfl, OZ, b7⟩
    have t7 := b7.size
    have OX := OX.below b7 (by omega)
    have RX := RX.below b7 (by omega)
    have NG := NG.below b7 (by omega)
    have bb := bb.trans (b7.mono (by omega))
    clear b7
    obtain ⟨Az, nz, cz, rfl, RZ⟩ := OZ.rd
    have lRZ := hid RZ.len
    have hnz : nz = nx + ny - 1 := by have := filtOk_len CF.out.1; rw [lRZ.out, lRX.out, List.length_reverse, lRY.out] at this; exact this
    have hz1 : ((nz : Int) == (nx : Int) + ny - 1) = true := by simp; omega
    obtain ⟨b0, off0, f, rfl, hb0, cz0, hz0⟩ := RZ.at_ (k := a + ny - 1) (by omega)
    obtain rfl : f = N := by rw [← hz0.out, ← CF.out.2, lRY.out]
    obtain ⟨P, hP⟩ : ∃ P : Nat, P = a + ny - 1 := ⟨_, rfl⟩
    rw [← hP] at cz0
    have hP2 : (a : Int) + ny - 1 = (P : Int) := by omega
    have hP3 : (P : Int) < (nz : Int) := by omega
    have HP := hid hP
    have HZ := hid hnz
    clear hP hnz
    have ff : (f == f) = true := by simp
    go_wp2_with fail
    go_ret
    exact ⟨rfl, bb⟩

end Go.Proofs.Ytebbljgmliikfaa
