/-
  The law FnExactStreamErrors, walked: for every input the call returns true, and nothing that was there has changed.
-/
import Derived.Test.YtnlacmbmmlmpjaaDoorDecS7
namespace Go.Proofs.YtnlacmbmmlmpjaaDoor
open Go.RowKit

set_option maxHeartbeats 1000000 in
theorem FnExactStreamErrors_walk (a0 : Option Addr) (len0 cap0 : Nat) (z0 : List Int) (w : World) (T0 : TtrellisNext w) (T1 : TtrellisOut w) (w0 : IsRow .i64 w a0 len0 cap0 z0) :
    Calls Tryd.prog 4 #[.slice a0 len0 cap0] w fun e w' => e = .returned (.bool true) ∧ Below w.heap.size w w' := by
  by_cases hl0 : len0 ≤ 1048576
  case neg =>
    have hl0' : 1048576 < len0 := by omega
    go_enter Tryd.func4, Tryd.ntmps4
    go_wp2
    go_ret
    exact ⟨rfl, Below.refl _ _⟩
  obtain ⟨h0, f0⟩ := w0.ok (by omega)
  clear w0
  generalize z0.take len0 = xs0 at h0 f0
  have R0 : Rd w.heap.size w (.slice a0 len0 cap0) xs0 := ⟨_, _, _, rfl, h0⟩
  clear h0
  have z0_ := T0.lt
  have z1_ := T1.lt
  have bb := Below.refl w.heap.size w
  go_enter Tryd.func4, Tryd.ntmps4
  go_wp2_with fail
  refine (toIntS_c _ R0 (by omega)).mono ?_
  rintro e w1_ ⟨v1, rfl, c0, b1⟩
  have t1 := b1.size
  have R0 := R0.below b1 (by omega)
  have T0 := T0.below b1 (by omega)
  have T1 := T1.below b1 (by omega)
  have bb := bb.trans (b1.mono (by omega))
  clear b1
  go_wp2_with fail
  refine (specErr_c _ c0.rd (by omega) ).mono ?_
  rintro e w2_ ⟨rfl, b2⟩
  have t2 := b2.size
  have R0 := R0.below b2 (by omega)
  have T0 := T0.below b2 (by omega)
  have T1 := T1.below b2 (by omega)
  have c0 := c0.below b2 (by omega)
  have bb := bb.trans (b2.mono (by omega))
  clear b2
  clear c0
  go_wp2_with fail
  refine (toIntS_c _ R0 (by omega)).mono ?_
  rintro e w3_ ⟨v3, rfl, x0, b3⟩
  have t3 := b3.size
  have R0 := R0.below b3 (by omega)
  have T0 := T0.below b3 (by omega)
  have T1 := T1.below b3 (by omega)
  have bb := bb.trans (b3.mono (by omega))
  clear b3
  go_wp2_with fail
  refine (implErr_c _ T0 T1 x0.rd (by omega) ).mono ?_
  rintro e w4_ ⟨rfl, b4⟩
  have t4 := b4.size
  have R0 := R0.below b4 (by omega)
  have T0 := T0.below b4 (by omega)
  have T1 := T1.below b4 (by omega)
  have x0 := x0.below b4 (by omega)
  have bb := bb.trans (b4.mono (by omega))
  clear b4
  go_wp2_with fail
  refine (toIntS_c _ R0 (by omega)).mono ?_
  rintro e w5_ ⟨v5, rfl, cc, b5⟩
  have t5 := b5.size
  have R0 := R0.below b5 (by omega)
  have T0 := T0.below b5 (by omega)
  have T1 := T1.below b5 (by omega)
  have x0 := x0.below b5 (by omega)
  have bb := bb.trans (b5.mono (by omega))
  clear b5
  go_wp2_with fail
  refine (eqIntS_t _ x0.rd cc.rd).mono ?_
  rintro e w6_ ⟨rfl, b6⟩
  have t6 := b6.size
  have R0 := R0.below b6 (by omega)
  have T0 := T0.below b6 (by omega)
  have T1 := T1.below b6 (by omega)
  have x0 := x0.below b6 (by omega)
  have cc := cc.below b6 (by omega)
  have bb := bb.trans (b6.mono (by omega))
  clear b6
  clear cc
  go_wp2_with fail
  go_ret
  exact ⟨rfl, bb⟩

end Go.Proofs.YtnlacmbmmlmpjaaDoor
