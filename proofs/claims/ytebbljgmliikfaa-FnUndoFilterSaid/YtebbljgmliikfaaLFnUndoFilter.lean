/-
  The law FnUndoFilter, walked: for every input the call returns true, and nothing that was there has changed.
-/
import Derived.Test.YtebbljgmliikfaaUndoLaw
namespace Go.Proofs.Ytebbljgmliikfaa
open Go.RowKit

set_option maxHeartbeats 1000000 in
theorem FnUndoFilter_walk (a0 : Option Addr) (len0 cap0 : Nat) (z0 : List Int) (w : World) (w0 : IsRow .u8 w a0 len0 cap0 z0) :
    Calls Try.prog 11 #[.slice a0 len0 cap0] w fun e w' => e = .returned (.bool true) ∧ Below w.heap.size w w' := by
  by_cases hl0 : len0 ≤ 1048576
  case neg =>
    have hl0' : 1048576 < len0 := by omega
    go_enter Try.func11, Try.ntmps11
    go_wp2
    go_ret
    exact ⟨rfl, Below.refl _ _⟩
  have B0 := w0.bytes
  clear w0
  have bb := Below.refl w.heap.size w
  go_enter Try.func11, Try.ntmps11
  go_wp2_with fail
  refine (DrawUndoFilter_c _ B0 (Nat.le_refl _)).mono ?_
  rintro e w1_ ⟨v1, xs, u1, fs, rfl, OX, ⟨hl, hx⟩, OY, ⟨hl2, hy⟩, b1⟩
  have t1 := b1.size
  have bb := bb.trans (b1.mono (by omega))
  clear b1
  clear hx hy hl hl2
  obtain ⟨us, ub, hu⟩ : ∃ us ub, undo xs fs = (us, ub) := ⟨_, _, rfl⟩
  have HU := hid hu
  clear hu
  go_wp2_with fail
  refine (implUndo_e _ HU.out OX.rd OY.rd (by omega) (by omega)).mono ?_
  rintro e w2_ ⟨v2, rfl, OU, b2⟩
  have t2 := b2.size
  have OX := OX.below b2 (by omega)
  have OY := OY.below b2 (by omega)
  have bb := bb.trans (b2.mono (by omega))
  clear b2
  go_wp2_with fail
  refine (specUndo_e _ HU.out OX.rd OY.rd (by omega) (by omega)).mono ?_
  rintro e w3_ ⟨v3, rfl, OS, b3⟩
  have t3 := b3.size
  have OX := OX.below b3 (by omega)
  have OY := OY.below b3 (by omega)
  have OU := OU.below b3 (by omega)
  have bb := bb.trans (b3.mono (by omega))
  clear b3
  go_wp2_with fail
  refine (sameInts_t _ OU.rd OS.rd).mono ?_
  rintro e w4_ ⟨rfl, b4⟩
  have t4 := b4.size
  have OX := OX.below b4 (by omega)
  have OY := OY.below b4 (by omega)
  have OU := OU.below b4 (by omega)
  have OS := OS.below b4 (by omega)
  have bb := bb.trans (b4.mono (by omega))
  clear b4
  clear OS
  obtain ⟨Au, nu, cu, rfl, RU⟩ := OU.rd
  have lRU := hid RU.len
  obtain ⟨Ax, nx, cx, rfl, RX⟩ := OX.rd
  have lRX := hid RX.len
  cases ub
  case false =>
    have hn : us = [] := by have := undo_fail (xs := xs) (fs := fs) (by rw [HU.out]); rw [HU.out] at this; exact this
    obtain rfl : nu = 0 := by rw [← lRU.out, hn]; rfl
    clear hn
    go_wp2_with fail
    refine (alive_c _).mono ?_
    rintro e w5_ ⟨rfl, b5⟩
    have t5 := b5.size
    have OX := OX.below b5 (by omega)
    have OY := OY.below b5 (by omega)
    have OU := OU.below b5 (by omega)
    have RU := RU.below b5 (by omega)
    have RX := RX.below b5 (by omega)
    have bb := bb.trans (b5.mono (by omega))
    clear b5
    go_wp2_with fail
    go_ret
    exact ⟨rfl, bb⟩
  by_cases hx0 : nx = 0
  case pos =>
    subst hx0
    have hn : us = [] := by
      have h1 : xs = [] := List.eq_nil_of_length_eq_zero lRX.out
      have := undo_empty (fs := fs)
      rw [← h1, HU.out] at this
      exact this.trans h1
    obtain rfl : nu = 0 := by rw [← lRU.out, hn]; rfl
    clear hn
    go_wp2_with fail
    refine (alive_c _).mono ?_
    rintro e w5_ ⟨rfl, b5⟩
    have t5 := b5.size
    have OX := OX.below b5 (by omega)
    have OY := OY.below b5 (by omega)
    have OU := OU.below b5 (by omega)
    have RU := RU.below b5 (by omega)
    have RX := RX.below b5 (by omega)
    have bb := bb.trans (b5.mono (by omega))
    clear b5
    go_wp2_with fail
    go_ret
    exact ⟨rfl, bb⟩
  have hx0' : ((nx : Int) == 0) = false := by simpa using hx0
  have BK := undo_back (xs := xs) (fs := fs) (by rw [HU.out]) (by rw [lRX.out]; exact hx0)
  rw [HU.out] at BK
  have BK := hid BK
  go_wp2_with fail
  refine (implFilt_c _ OU.rd OY.rd (by omega) (by omega)).mono ?_
  rintro e w5_ ⟨v5, rfl, OZ, b5⟩
  have t5 := b5.size
  have OX := OX.below b5 (by omega)
  have OY := OY.below b5 (by omega)
  have OU := OU.below b5 (by omega)
  have RU := RU.below b5 (by omega)
  have RX := RX.below b5 (by omega)
  have bb := bb.trans (b5.mono (by omega))
  clear b5
  obtain ⟨Az, nz, cz, rfl, RZ⟩ := OZ.rd
  have lRZ := hid RZ.len
  obtain rfl : nu = nx := by rw [← lRU.out, ← lRX.out]; exact BK.out.1
  have hge : nu ≤ nz := by rw [← lRZ.out, ← lRX.out]; exact BK.out.2.1
  have hcz : nu ≤ cz := by have := RZ.le; omega
  have R2 := RZ.take hge
  have e2 : (filt us fs).take nu = xs := by rw [← lRX.out]; exact BK.out.2.2
  rw [e2] at R2
  clear e2
  have i1 : (nu : Int) ≤ (nz : Int) := by omega
  have i2 : decide ((nu : Int) ≤ (nz : Int)) = true := by simpa using i1
  have i3 : decide (nu ≤ nz) = true := by simpa using hge
  go_wp2_with fail
  refine (sameInts_t _ ⟨_, _, _, rfl, R2⟩ OX.rd).mono ?_
  rintro e w6_ ⟨rfl, b6⟩
  have t6 := b6.size
  have OX := OX.below b6 (by omega)
  have OY := OY.below b6 (by omega)
  have OU := OU.below b6 (by omega)
  have RU := RU.below b6 (by omega)
  have RX := RX.below b6 (by omega)
  have OZ := OZ.below b6 (by omega)
  have RZ := RZ.below b6 (by omega)
  have R2 := R2.below b6 (by omega)
  have bb := bb.trans (b6.mono (by omega))
  clear b6
  go_wp2_with fail
  go_ret
  exact ⟨rfl, bb⟩

end Go.Proofs.Ytebbljgmliikfaa
