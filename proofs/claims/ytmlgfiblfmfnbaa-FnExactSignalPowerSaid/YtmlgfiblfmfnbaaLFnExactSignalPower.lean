/-
  The law FnExactSignalPower, walked: for every input the call returns true, and nothing that was there has changed.
-/
import Derived.Test.YtmlgfiblfmfnbaaSig
namespace Go.Proofs.Ytmlgfiblfmfnbaa
open Go.RowKit

set_option maxHeartbeats 1000000 in
theorem FnExactSignalPower_walk (a0 : Option Addr) (len0 cap0 : Nat) (z0 : List Int) (w : World) (w0 : IsRowM w a0 len0 cap0 z0) :
    Calls Try.prog 4 #[.slice a0 len0 cap0] w fun e w' => e = .returned (.bool true) ∧ Below w.heap.size w w' := by
  by_cases hl0 : len0 ≤ 1048576
  case neg =>
    have hl0' : 1048576 < len0 := by omega
    have hc := w0.cap
    go_enter Try.func4, Try.ntmps4
    go_wp2_with (go_at_call 15; (with_reducible refine (szSampleS_no _ _ _ _ hl0' hc).mono ?_); rintro e w' ⟨rfl, rfl⟩)
    go_ret
    exact ⟨rfl, Below.refl _ _⟩
  have R0 : RdM w.heap.size w (.slice a0 len0 cap0) z0 := ⟨_, _, _, rfl, w0.ok hl0⟩
  clear w0
  have bb := Below.refl w.heap.size w
  have hpos : (0 : Int) ≤ 1048576 - (len0 : Int) := by omega
  go_enter Try.func4, Try.ntmps4
  go_wp2_with (go_at_call 15; (with_reducible refine (szSampleS_c _ _ _ _ hl0).mono ?_); rintro e w' ⟨rfl, rfl⟩)
  go_wp2_with fail
  refine (toSampleS_c _ R0 (by omega)).mono ?_
  rintro e w1_ ⟨v1, nc0, rfl, c0, b1⟩
  have t1 := b1.size
  have R0 := R0.below b1 (by omega)
  have bb := bb.trans (b1.mono (by omega))
  clear b1
  go_wp2_with fail
  refine (specPow_c _ c0.rd (by omega) ).mono ?_
  rintro e w2_ ⟨rfl, b2⟩
  have t2 := b2.size
  have R0 := R0.below b2 (by omega)
  have c0 := c0.below b2 (by omega)
  have bb := bb.trans (b2.mono (by omega))
  clear b2
  clear c0
  go_wp2_with fail
  refine (toSampleS_c _ R0 (by omega)).mono ?_
  rintro e w3_ ⟨v3, nx0, rfl, x0, b3⟩
  have t3 := b3.size
  have R0 := R0.below b3 (by omega)
  have bb := bb.trans (b3.mono (by omega))
  clear b3
  go_wp2_with fail
  refine (implPow_c _ x0.rd (by omega) ).mono ?_
  rintro e w4_ ⟨rfl, b4⟩
  have t4 := b4.size
  have R0 := R0.below b4 (by omega)
  have x0 := x0.below b4 (by omega)
  have bb := bb.trans (b4.mono (by omega))
  clear b4
  go_wp2_with fail
  refine (toSampleS_c _ R0 (by omega)).mono ?_
  rintro e w5_ ⟨v5, ncc, rfl, cc, b5⟩
  have t5 := b5.size
  have R0 := R0.below b5 (by omega)
  have x0 := x0.below b5 (by omega)
  have bb := bb.trans (b5.mono (by omega))
  clear b5
  go_wp2_with fail
  refine (eqSampleS_t _ x0.rd cc.rd (by omega) (by omega)).mono ?_
  rintro e w6_ ⟨rfl, b6⟩
  have t6 := b6.size
  have R0 := R0.below b6 (by omega)
  have x0 := x0.below b6 (by omega)
  have cc := cc.below b6 (by omega)
  have bb := bb.trans (b6.mono (by omega))
  clear b6
  clear cc
  go_wp2_with fail
  go_ret
  exact ⟨rfl, bb⟩

end Go.Proofs.Ytmlgfiblfmfnbaa
