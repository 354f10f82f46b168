/-
  The law FnUndoExact, walked: for every input the call returns true, and nothing that was there has changed.
-/
import Derived.Test.YtebbljgmliikfaaUndoLaw
namespace Go.Proofs.Ytebbljgmliikfaa
open Go.RowKit

set_option maxHeartbeats 1000000 in
theorem FnUndoExact_walk (a0 : Option Addr) (len0 cap0 : Nat) (z0 : List Int) (w : World) (w0 : IsRow .u8 w a0 len0 cap0 z0) :
    Calls Try.prog 10 #[.slice a0 len0 cap0] w fun e w' => e = .returned (.bool true) ∧ Below w.heap.size w w' := by
  by_cases hl0 : len0 ≤ 1048576
  case neg =>
    have hl0' : 1048576 < len0 := by omega
    go_enter Try.func10, Try.ntmps10
    go_wp2
    go_ret
    exact ⟨rfl, Below.refl _ _⟩
  have B0 := w0.bytes
  clear w0
  have bb := Below.refl w.heap.size w
  go_enter Try.func10, Try.ntmps10
  go_wp2_with fail
  refine (DrawUndoFilter_c _ B0 (Nat.le_refl _)).mono ?_
  rintro e w1_ ⟨v1, xs, u1, fs, rfl, OX, ⟨hl, hx⟩, OY, ⟨hl2, hy⟩, b1⟩
  have t1 := b1.size
  have bb := bb.trans (b1.mono (by omega))
  clear b1
  clear hx hy hl hl2
  go_wp2_with fail
  refine (implFilt_c _ OX.rd OY.rd (by omega) (by omega)).mono ?_
  rintro e w2_ ⟨v2, rfl, OZ, b2⟩
  have t2 := b2.size
  have OX := OX.below b2 (by omega)
  have OY := OY.below b2 (by omega)
  have bb := bb.trans (b2.mono (by omega))
  clear b2
  go_wp2_with fail
  refine (specFilt_c _ OX.rd OY.rd (by omega) (by omega)).mono ?_
  rintro e w3_ ⟨v3, rfl, OS, b3⟩
  have t3 := b3.size
  have OX := OX.below b3 (by omega)
  have OY := OY.below b3 (by omega)
  have OZ := OZ.below b3 (by omega)
  have bb := bb.trans (b3.mono (by omega))
  clear b3
  go_wp2_with fail
  refine (sameInts_t _ OZ.rd OS.rd).mono ?_
  rintro e w4_ ⟨rfl, b4⟩
  have t4 := b4.size
  have OX := OX.below b4 (by omega)
  have OY := OY.below b4 (by omega)
  have OZ := OZ.below b4 (by omega)
  have OS := OS.below b4 (by omega)
  have bb := bb.trans (b4.mono (by omega))
  clear b4
  clear OS
  obtain ⟨Az, nz, cz, rfl, RZ⟩ := OZ.rd
  have lRZ := hid RZ.len
  obtain ⟨Ax, nx, cx, rfl, RX⟩ := OX.rd
  have lRX := hid RX.len
  obtain ⟨Ay, ny, cy, rfl, RY⟩ := OY.rd
  have lRY := hid RY.len
  by_cases hz : nz = 0
  case pos =>
    subst hz
    go_wp2_with fail
    refine (alive_c _).mono ?_
    rintro e w5_ ⟨rfl, b5⟩
    have t5 := b5.size
    have OX := OX.below b5 (by omega)
    have OY := OY.below b5 (by omega)
    have OZ := OZ.below b5 (by omega)
    have RZ := RZ.below b5 (by omega)
    have RX := RX.below b5 (by omega)
    have RY := RY.below b5 (by omega)
    have bb := bb.trans (b5.mono (by omega))
    clear b5
    go_wp2_with fail
    go_ret
    exact ⟨rfl, bb⟩
  have hz' : ((nz : Int) == 0) = false := by simpa using hz
  have ok1 : filtOk xs fs = true := by
    cases h : filtOk xs fs with
    | true => rfl
    | false => exact absurd (lRZ.out.symm.trans (filt_nil h)) hz
  have OK1 := hid ok1
  have KK := filtOk_iff.1 ok1
  clear ok1
  have hy0 : 0 < ny := by rw [← lRY.out]; exact Nat.pos_of_ne_zero KK.2
  have hy0' : ((ny : Int) == 0) = false := by simp; omega
  clear KK
  have hlen := filtOk_len OK1.out
  have hge : nx ≤ nz := by rw [← lRZ.out, hlen, lRX.out, lRY.out]; omega
  clear hlen
  obtain ⟨b0, off0, f, hA, hb0, cf0, hf0⟩ := RY.at_ hy0
  subst hA
  simp only [Nat.add_zero] at cf0
  by_cases hf : f = 1
  case neg =>
    have hf1 : (f == 1) = false := by simpa using hf
    have hf2 : (f != 1) = true := by simpa using hf
    clear hf
    go_wp2_with fail
    refine (alive_c _).mono ?_
    rintro e w5_ ⟨rfl, b5⟩
    have t5 := b5.size
    have OX := OX.below b5 (by omega)
    have OY := OY.below b5 (by omega)
    have OZ := OZ.below b5 (by omega)
    have RZ := RZ.below b5 (by omega)
    have RX := RX.below b5 (by omega)
    have RY := RY.below b5 (by omega)
    have bb := bb.trans (b5.mono (by omega))
    clear b5
    go_wp2_with fail
    go_ret
    exact ⟨rfl, bb⟩
  subst hf
  have hcz : nx ≤ cz := by have := RZ.le; omega
  have R2 := RZ.take hge
  have e2 : (filt xs fs).take nx = (filt xs fs).take xs.length := by rw [lRX.out]
  have UE := fun h => undo_exact OK1.out hf0.out h
  rw [← e2] at UE
  have UE := hid UE
  clear e2
  generalize (filt xs fs).take nx = zs at R2 UE
  by_cases sz : seqOk zs = true
  case neg =>
    have sz' : seqOk zs = false := by simpa using sz
    clear sz
    go_wp2_with fail
    refine (implSeq_t _ ⟨_, _, _, rfl, R2⟩ (by omega)).mono ?_
    rintro e w5_ ⟨rfl, b5⟩
    have t5 := b5.size
    have OX := OX.below b5 (by omega)
    have OY := OY.below b5 (by omega)
    have OZ := OZ.below b5 (by omega)
    have RZ := RZ.below b5 (by omega)
    have RX := RX.below b5 (by omega)
    have RY := RY.below b5 (by omega)
    have R2 := R2.below b5 (by omega)
    have bb := bb.trans (b5.mono (by omega))
    clear b5
    clear cf0
    go_wp2_with fail
    refine (alive_c _).mono ?_
    rintro e w6_ ⟨rfl, b6⟩
    have t6 := b6.size
    have OX := OX.below b6 (by omega)
    have OY := OY.below b6 (by omega)
    have OZ := OZ.below b6 (by omega)
    have RZ := RZ.below b6 (by omega)
    have RX := RX.below b6 (by omega)
    have RY := RY.below b6 (by omega)
    have R2 := R2.below b6 (by omega)
    have bb := bb.trans (b6.mono (by omega))
    clear b6
    go_wp2_with fail
    go_ret
    exact ⟨rfl, bb⟩
  go_wp2_with fail
  refine (implSeq_t _ ⟨_, _, _, rfl, R2⟩ (by omega)).mono ?_
  rintro e w5_ ⟨rfl, b5⟩
  have t5 := b5.size
  have OX := OX.below b5 (by omega)
  have OY := OY.below b5 (by omega)
  have OZ := OZ.below b5 (by omega)
  have RZ := RZ.below b5 (by omega)
  have RX := RX.below b5 (by omega)
  have RY := RY.below b5 (by omega)
  have R2 := R2.below b5 (by omega)
  have bb := bb.trans (b5.mono (by omega))
  clear b5
  clear cf0
  have HU := hid (UE.out sz)
  go_wp2_with fail
  refine (implUndo_e _ HU.out ⟨_, _, _, rfl, R2⟩ OY.rd (by omega) (by omega)).mono ?_
  rintro e w6_ ⟨v6, rfl, OU, b6⟩
  have t6 := b6.size
  have OX := OX.below b6 (by omega)
  have OY := OY.below b6 (by omega)
  have OZ := OZ.below b6 (by omega)
  have RZ := RZ.below b6 (by omega)
  have RX := RX.below b6 (by omega)
  have RY := RY.below b6 (by omega)
  have R2 := R2.below b6 (by omega)
  have bb := bb.trans (b6.mono (by omega))
  clear b6
  go_wp2_with fail
  refine (sameInts_t _ OU.rd OX.rd).mono ?_
  rintro e w7_ ⟨rfl, b7⟩
  have t7 := b7.size
  have OX := OX.below b7 (by omega)
  have OY := OY.below b7 (by omega)
  have OZ := OZ.below b7 (by omega)
  have RZ := RZ.below b7 (by omega)
  have RX := RX.below b7 (by omega)
  have RY := RY.below b7 (by omega)
  have R2 := R2.below b7 (by omega)
  have OU := OU.below b7 (by omega)
  have bb := bb.trans (b7.mono (by omega))
  clear b7
  go_wp2_with fail
  go_ret
  exact ⟨rfl, bb⟩

end Go.Proofs.Ytebbljgmliikfaa
