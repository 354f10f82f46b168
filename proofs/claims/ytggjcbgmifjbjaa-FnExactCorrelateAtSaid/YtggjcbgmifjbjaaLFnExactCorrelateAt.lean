/-
  The law FnExactCorrelateAt, walked: for every input the call returns true, and nothing that was there has changed.
-/
import Derived.Test.YtggjcbgmifjbjaaFiltT
namespace Go.Proofs.Ytggjcbgmifjbjaa
open Go.RowKit

set_option maxHeartbeats 1000000 in
theorem FnExactCorrelateAt_walk (a0 : Option Addr) (len0 cap0 : Nat) (z0 : List Int) (a1 : Option Addr) (len1 cap1 : Nat) (z1 : List Int) (a2 : Int) (w : World) (w0 : IsRow .i64 w a0 len0 cap0 z0) (w1 : IsRow .i64 w a1 len1 cap1 z1) (w2 : (Lit.int .i64 a2).wf = true) :
    Calls Try.prog 4 #[.slice a0 len0 cap0, .slice a1 len1 cap1, .int .i64 a2] w fun e w' => e = .returned (.bool true) ∧ Below w.heap.size w w' := by
  have i2 := bounds_i64 w2
  by_cases hl0 : len0 ≤ 1048576
  case neg =>
    have hl0' : 1048576 < len0 := by omega
    go_enter Try.func4, Try.ntmps4
    go_wp2
    go_ret
    exact ⟨rfl, Below.refl _ _⟩
  by_cases hl1 : len1 ≤ 1048576
  case neg =>
    have hl1' : 1048576 < len1 := by omega
    go_enter Try.func4, Try.ntmps4
    go_wp2
    go_ret
    exact ⟨rfl, Below.refl _ _⟩
  obtain ⟨h0, f0⟩ := w0.ok (by omega)
  clear w0
  generalize z0.take len0 = xs0 at h0 f0
  have R0 : Rd w.heap.size w (.slice a0 len0 cap0) xs0 := ⟨_, _, _, rfl, h0⟩
  clear h0
  obtain ⟨h1, f1⟩ := w1.ok (by omega)
  clear w1
  generalize z1.take len1 = xs1 at h1 f1
  have R1 : Rd w.heap.size w (.slice a1 len1 cap1) xs1 := ⟨_, _, _, rfl, h1⟩
  clear h1
  have bb := Below.refl w.heap.size w
  go_enter Try.func4, Try.ntmps4
  go_wp2_with fail
  refine (toIntS_c _ R0 (by omega)).mono ?_
  rintro e w1_ ⟨v1, rfl, c0, b1⟩
  have t1 := b1.size
  have R0 := R0.below b1 (by omega)
  have R1 := R1.below b1 (by omega)
  have bb := bb.trans (b1.mono (by omega))
  clear b1
  go_wp2_with fail
  refine (toIntS_c _ R1 (by omega)).mono ?_
  rintro e w2_ ⟨v2, rfl, c1, b2⟩
  have t2 := b2.size
  have R0 := R0.below b2 (by omega)
  have R1 := R1.below b2 (by omega)
  have c0 := c0.below b2 (by omega)
  have bb := bb.trans (b2.mono (by omega))
  clear b2
  go_wp2_with fail
  refine (specCorr_t _ c0.rd c1.rd (by omega) (by omega) i2).mono ?_
  rintro e w3_ ⟨rfl, b3⟩
  have t3 := b3.size
  have R0 := R0.below b3 (by omega)
  have R1 := R1.below b3 (by omega)
  have c0 := c0.below b3 (by omega)
  have c1 := c1.below b3 (by omega)
  have bb := bb.trans (b3.mono (by omega))
  clear b3
  clear c0
  clear c1
  go_wp2_with fail
  refine (toIntS_c _ R0 (by omega)).mono ?_
  rintro e w4_ ⟨v4, rfl, x0, b4⟩
  have t4 := b4.size
  have R0 := R0.below b4 (by omega)
  have R1 := R1.below b4 (by omega)
  have bb := bb.trans (b4.mono (by omega))
  clear b4
  go_wp2_with fail
  refine (toIntS_c _ R1 (by omega)).mono ?_
  rintro e w5_ ⟨v5, rfl, x1, b5⟩
  have t5 := b5.size
  have R0 := R0.below b5 (by omega)
  have R1 := R1.below b5 (by omega)
  have x0 := x0.below b5 (by omega)
  have bb := bb.trans (b5.mono (by omega))
  clear b5
  go_wp2_with fail
  refine (implCorr_t _ x0.rd x1.rd (by omega) (by omega) i2).mono ?_
  rintro e w6_ ⟨rfl, b6⟩
  have t6 := b6.size
  have R0 := R0.below b6 (by omega)
  have R1 := R1.below b6 (by omega)
  have x0 := x0.below b6 (by omega)
  have x1 := x1.below b6 (by omega)
  have bb := bb.trans (b6.mono (by omega))
  clear b6
  go_wp2_with fail
  refine (toIntS_c _ R0 (by omega)).mono ?_
  rintro e w7_ ⟨v7, rfl, cc, b7⟩
  have t7 := b7.size
  have R0 := R0.below b7 (by omega)
  have R1 := R1.below b7 (by omega)
  have x0 := x0.below b7 (by omega)
  have x1 := x1.below b7 (by omega)
  have bb := bb.trans (b7.mono (by omega))
  clear b7
  go_wp2_with fail
  refine (eqIntS_t _ x0.rd cc.rd).mono ?_
  rintro e w8_ ⟨rfl, b8⟩
  have t8 := b8.size
  have R0 := R0.below b8 (by omega)
  have R1 := R1.below b8 (by omega)
  have x0 := x0.below b8 (by omega)
  have x1 := x1.below b8 (by omega)
  have cc := cc.below b8 (by omega)
  have bb := bb.trans (b8.mono (by omega))
  clear b8
  clear cc
  go_wp2_with fail
  refine (toIntS_c _ R1 (by omega)).mono ?_
  rintro e w9_ ⟨v9, rfl, cc, b9⟩
  have t9 := b9.size
  have R0 := R0.below b9 (by omega)
  have R1 := R1.below b9 (by omega)
  have x0 := x0.below b9 (by omega)
  have x1 := x1.below b9 (by omega)
  have bb := bb.trans (b9.mono (by omega))
  clear b9
  go_wp2_with fail
  refine (eqIntS_t _ x1.rd cc.rd).mono ?_
  rintro e w10_ ⟨rfl, b10⟩
  have t10 := b10.size
  have R0 := R0.below b10 (by omega)
  have R1 := R1.below b10 (by omega)
  have x0 := x0.below b10 (by omega)
  have x1 := x1.below b10 (by omega)
  have cc := cc.below b10 (by omega)
  have bb := bb.trans (b10.mono (by omega))
  clear b10
  clear cc
  go_wp2_with fail
  go_ret
  exact ⟨rfl, bb⟩

end Go.Proofs.Ytggjcbgmifjbjaa
