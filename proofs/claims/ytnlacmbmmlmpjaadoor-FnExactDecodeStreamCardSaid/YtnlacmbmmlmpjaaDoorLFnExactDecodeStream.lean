/-
  The law FnExactDecodeStream, walked: for every input the call returns true, and nothing that was there has changed.
-/
import Derived.Test.YtnlacmbmmlmpjaaDoorDecS7
namespace Go.Proofs.YtnlacmbmmlmpjaaDoor
open Go.RowKit

set_option maxHeartbeats 1000000 in
theorem FnExactDecodeStream_walk (a0 : Option Addr) (len0 cap0 : Nat) (z0 : List Int) (w : World) (T0 : TtrellisNext w) (T1 : TtrellisOut w) (w0 : IsRow .i64 w a0 len0 cap0 z0) :
    Calls Tryd.prog 5 #[.slice a0 len0 cap0] w fun e w' => e = .returned (.bool true) ∧ Below w.heap.size w w' := by
  by_cases hl0 : len0 ≤ 1048576
  case neg =>
    have hl0' : 1048576 < len0 := by omega
    go_enter Tryd.func5, Tryd.ntmps5
    go_wp2
    go_ret
    exact ⟨rfl, Below.refl _ _⟩
  obtain ⟨h0, f0⟩ := w0.ok (by omega)
  clear w0
  generalize z0.take len0 = xs0 at h0 f0
  have R0 : Rd w.heap.size w (.slice a0 len0 cap0) xs0 := ⟨_, _, _, rfl, h0⟩
  clear h0
  have z0_ := T0.lt
  have z1_ := T1.lt
  have bb := Below.refl w.heap.size w
  go_enter Tryd.func5, Tryd.ntmps5
  go_wp2_with fail
  refine (toIntS_c _ R0 (by omega)).mono ?_
  rintro e w1_ ⟨v1, rfl, c0, b1⟩
  have t1 := b1.size
  have R0 := R0.below b1 (by omega)
  have T0 := T0.below b1 (by omega)
  have T1 := T1.below b1 (by omega)
  have bb := bb.trans (b1.mono (by omega))
  clear b1
  go_wp2_with fail
  refine (specDecS_c _ c0.rd (by omega) ).mono ?_
  rintro e w2_ ⟨v2, rfl, OW, b2⟩
  have t2 := b2.size
  have R0 := R0.below b2 (by omega)
  have T0 := T0.below b2 (by omega)
  have T1 := T1.below b2 (by omega)
  have c0 := c0.below b2 (by omega)
  have bb := bb.trans (b2.mono (by omega))
  clear b2
  clear c0
  go_wp2_with fail
  refine (toIntS_c _ R0 (by omega)).mono ?_
  rintro e w3_ ⟨v3, rfl, x0, b3⟩
  have t3 := b3.size
  have R0 := R0.below b3 (by omega)
  have T0 := T0.below b3 (by omega)
  have T1 := T1.below b3 (by omega)
  have OW := OW.below b3 (by omega)
  have bb := bb.trans (b3.mono (by omega))
  clear b3
  go_wp2_with fail
  refine (implDecS_c _ T0 T1 x0.rd (by omega) ).mono ?_
  rintro e w4_ ⟨v4, rfl, OG, b4⟩
  have t4 := b4.size
  have R0 := R0.below b4 (by omega)
  have T0 := T0.below b4 (by omega)
  have T1 := T1.below b4 (by omega)
  have OW := OW.below b4 (by omega)
  have x0 := x0.below b4 (by omega)
  have bb := bb.trans (b4.mono (by omega))
  clear b4
  go_wp2_with fail
  refine (eqIntS_t _ OG.rd OW.rd).mono ?_
  rintro e w5_ ⟨rfl, b5⟩
  have t5 := b5.size
  have R0 := R0.below b5 (by omega)
  have T0 := T0.below b5 (by omega)
  have T1 := T1.below b5 (by omega)
  have OW := OW.below b5 (by omega)
  have x0 := x0.below b5 (by omega)
  have OG := OG.below b5 (by omega)
  have bb := bb.trans (b5.mono (by omega))
  clear b5
  go_wp2_with fail
  refine (toIntS_c _ R0 (by omega)).mono ?_
  rintro e w6_ ⟨v6, rfl, cc, b6⟩
  have t6 := b6.size
  have R0 := R0.below b6 (by omega)
  have T0 := T0.below b6 (by omega)
  have T1 := T1.below b6 (by omega)
  have OW := OW.below b6 (by omega)
  have x0 := x0.below b6 (by omega)
  have OG := OG.below b6 (by omega)
  have bb := bb.trans (b6.mono (by omega))
  clear b6
  go_wp2_with fail
  refine (eqIntS_t _ x0.rd cc.rd).mono ?_
  rintro e w7_ ⟨rfl, b7⟩
  have t7 := b7.size
  have R0 := R0.below b7 (by omega)
  have T0 := T0.below b7 (by omega)
  have T1 := T1.below b7 (by omega)
  have OW := OW.below b7 (by omega)
  have x0 := x0.below b7 (by omega)
  have OG := OG.below b7 (by omega)
  have cc := cc.below b7 (by omega)
  have bb := bb.trans (b7.mono (by omega))
  clear b7
  clear cc
  go_wp2_with fail
  refine (markIntS_c _ _ x0 (by omega) (by omega)).mono ?_
  rintro e w8_ ⟨rfl, o8, g8⟩
  have t8 := g8.size
  have R0 := R0.grown g8 (by omega) (fun k hk => by have := x0.lt k hk; omega)
  have T0 := T0.grown g8 (by omega) (fun k hk => by have := x0.lt k hk; omega)
  have T1 := T1.grown g8 (by omega) (fun k hk => by have := x0.lt k hk; omega)
  have OW := OW.apart g8 (fun k hk => by have := x0.lt k hk; omega)
  have OG := OG.apart g8 (fun k hk => by have := x0.lt k hk; omega)
  have bb := bb.trans (below_of_own x0 g8 (by omega) (by omega))
  have smx0 := x0.sm
  clear x0 g8
  have x0 := o8
  clear o8
  clear x0
  go_wp2_with fail
  refine (eqIntS_t _ OG.rd OW.rd).mono ?_
  rintro e w9_ ⟨rfl, b9⟩
  have t9 := b9.size
  have R0 := R0.below b9 (by omega)
  have T0 := T0.below b9 (by omega)
  have T1 := T1.below b9 (by omega)
  have OW := OW.below b9 (by omega)
  have OG := OG.below b9 (by omega)
  have bb := bb.trans (b9.mono (by omega))
  clear b9
  go_wp2_with fail
  refine (markIntS_c _ _ OG (by omega) (by omega)).mono ?_
  rintro e w10_ ⟨rfl, o10, g10⟩
  have t10 := g10.size
  have R0 := R0.grown g10 (by omega) (fun k hk => by have := OG.lt k hk; omega)
  have T0 := T0.grown g10 (by omega) (fun k hk => by have := OG.lt k hk; omega)
  have T1 := T1.grown g10 (by omega) (fun k hk => by have := OG.lt k hk; omega)
  have OW := OW.apart g10 (fun k hk => by have := OG.lt k hk; omega)
  have bb := bb.trans (below_of_own OG g10 (by omega) (by omega))
  have smOG := OG.sm
  clear OG g10
  have OG := o10
  clear o10
  go_wp2_with fail
  refine (heldIntS_t _ _ OG.rd (by omega) (by omega)).mono ?_
  rintro e w11_ ⟨rfl, b11⟩
  have t11 := b11.size
  have R0 := R0.below b11 (by omega)
  have T0 := T0.below b11 (by omega)
  have T1 := T1.below b11 (by omega)
  have OW := OW.below b11 (by omega)
  have OG := OG.below b11 (by omega)
  have bb := bb.trans (b11.mono (by omega))
  clear b11
  go_wp2_with fail
  refine (toIntS_c _ R0 (by omega)).mono ?_
  rintro e w12_ ⟨v12, rfl, c0, b12⟩
  have t12 := b12.size
  have R0 := R0.below b12 (by omega)
  have T0 := T0.below b12 (by omega)
  have T1 := T1.below b12 (by omega)
  have OW := OW.below b12 (by omega)
  have OG := OG.below b12 (by omega)
  have bb := bb.trans (b12.mono (by omega))
  clear b12
  go_wp2_with fail
  refine (implDecS_c _ T0 T1 c0.rd (by omega) ).mono ?_
  rintro e w13_ ⟨v13, rfl, OH, b13⟩
  have t13 := b13.size
  have R0 := R0.below b13 (by omega)
  have T0 := T0.below b13 (by omega)
  have T1 := T1.below b13 (by omega)
  have OW := OW.below b13 (by omega)
  have OG := OG.below b13 (by omega)
  have c0 := c0.below b13 (by omega)
  have bb := bb.trans (b13.mono (by omega))
  clear b13
  go_wp2_with fail
  refine (eqIntS_t _ OH.rd OW.rd).mono ?_
  rintro e w14_ ⟨rfl, b14⟩
  have t14 := b14.size
  have R0 := R0.below b14 (by omega)
  have T0 := T0.below b14 (by omega)
  have T1 := T1.below b14 (by omega)
  have OW := OW.below b14 (by omega)
  have OG := OG.below b14 (by omega)
  have c0 := c0.below b14 (by omega)
  have OH := OH.below b14 (by omega)
  have bb := bb.trans (b14.mono (by omega))
  clear b14
  go_wp2_with fail
  refine (heldIntS_t _ _ OG.rd (by omega) (by omega)).mono ?_
  rintro e w15_ ⟨rfl, b15⟩
  have t15 := b15.size
  have R0 := R0.below b15 (by omega)
  have T0 := T0.below b15 (by omega)
  have T1 := T1.below b15 (by omega)
  have OW := OW.below b15 (by omega)
  have OG := OG.below b15 (by omega)
  have c0 := c0.below b15 (by omega)
  have OH := OH.below b15 (by omega)
  have bb := bb.trans (b15.mono (by omega))
  clear b15
  go_wp2_with fail
  go_ret
  exact ⟨rfl, bb⟩

end Go.Proofs.YtnlacmbmmlmpjaaDoor
