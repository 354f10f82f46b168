/-
  The law FnExactCyclicProduct, walked: for every input the call returns true, and nothing that was there has changed.
-/
import Derived.Test.YtmjghkpijphfbaaTransF
namespace Go.Proofs.Ytmjghkpijphfbaa
open Go.RowKit

set_option maxHeartbeats 1000000 in
theorem FnExactCyclicProduct_walk (a0 : Option Addr) (len0 cap0 : Nat) (z0 : List Int) (a1 : Option Addr) (len1 cap1 : Nat) (z1 : List Int) (w : World) (w0 : IsRow .i64 w a0 len0 cap0 z0) (w1 : IsRow .i64 w a1 len1 cap1 z1) :
    Calls Try.prog 9 #[.slice a0 len0 cap0, .slice a1 len1 cap1] w fun e w' => e = .returned (.bool true) ∧ Below w.heap.size w w' := by
  by_cases hl0 : len0 ≤ 1048576
  case neg =>
    have hl0' : 1048576 < len0 := by omega
    go_enter Try.func9, Try.ntmps9
    go_wp2
    go_ret
    exact ⟨rfl, Below.refl _ _⟩
  by_cases hl1 : len1 ≤ 1048576
  case neg =>
    have hl1' : 1048576 < len1 := by omega
    go_enter Try.func9, Try.ntmps9
    go_wp2
    go_ret
    exact ⟨rfl, Below.refl _ _⟩
  obtain ⟨h0, f0⟩ := w0.ok (by omega)
  clear w0
  generalize z0.take len0 = xs0 at h0 f0
  have R0 : Rd w.heap.size w (.slice a0 len0 cap0) xs0 := ⟨_, _, _, rfl, h0⟩
  clear h0
  obtain ⟨h1, f1⟩ := w1.ok (by omega)
  clear w1
  generalize z1.take len1 = xs1 at h1 f1
  have R1 : Rd w.heap.size w (.slice a1 len1 cap1) xs1 := ⟨_, _, _, rfl, h1⟩
  clear h1
  have bb := Below.refl w.heap.size w
  go_enter Try.func9, Try.ntmps9
  go_wp2_with fail
  refine (toIntS_c _ R0 (by omega)).mono ?_
  rintro e w1_ ⟨v1, rfl, c0, b1⟩
  have t1 := b1.size
  have R0 := R0.below b1 (by omega)
  have R1 := R1.below b1 (by omega)
  have bb := bb.trans (b1.mono (by omega))
  clear b1
  go_wp2_with fail
  refine (toIntS_c _ R1 (by omega)).mono ?_
  rintro e w2_ ⟨v2, rfl, c1, b2⟩
  have t2 := b2.size
  have R0 := R0.below b2 (by omega)
  have R1 := R1.below b2 (by omega)
  have c0 := c0.below b2 (by omega)
  have bb := bb.trans (b2.mono (by omega))
  clear b2
  go_wp2_with fail
  refine (specCyc_t _ c0.rd c1.rd (by omega) (by omega) ).mono ?_
  rintro e w3_ ⟨v3, rfl, OW, b3⟩
  have t3 := b3.size
  have R0 := R0.below b3 (by omega)
  have R1 := R1.below b3 (by omega)
  have c0 := c0.below b3 (by omega)
  have c1 := c1.below b3 (by omega)
  have bb := bb.trans (b3.mono (by omega))
  clear b3
  clear c0
  clear c1
  go_wp2_with fail
  refine (toIntS_c _ R0 (by omega)).mono ?_
  rintro e w4_ ⟨v4, rfl, x0, b4⟩
  have t4 := b4.size
  have R0 := R0.below b4 (by omega)
  have R1 := R1.below b4 (by omega)
  have OW := OW.below b4 (by omega)
  have bb := bb.trans (b4.mono (by omega))
  clear b4
  go_wp2_with fail
  refine (toIntS_c _ R1 (by omega)).mono ?_
  rintro e w5_ ⟨v5, rfl, x1, b5⟩
  have t5 := b5.size
  have R0 := R0.below b5 (by omega)
  have R1 := R1.below b5 (by omega)
  have OW := OW.below b5 (by omega)
  have x0 := x0.below b5 (by omega)
  have bb := bb.trans (b5.mono (by omega))
  clear b5
  go_wp2_with fail
  refine (implCyc_t _ x0.rd x1.rd (by omega) (by omega) ).mono ?_
  rintro e w6_ ⟨v6, rfl, OG, b6⟩
  have t6 := b6.size
  have R0 := R0.below b6 (by omega)
  have R1 := R1.below b6 (by omega)
  have OW := OW.below b6 (by omega)
  have x0 := x0.below b6 (by omega)
  have x1 := x1.below b6 (by omega)
  have bb := bb.trans (b6.mono (by omega))
  clear b6
  go_wp2_with fail
  refine (eqIntS_t _ OG.rd OW.rd).mono ?_
  rintro e w7_ ⟨rfl, b7⟩
  have t7 := b7.size
  have R0 := R0.below b7 (by omega)
  have R1 := R1.below b7 (by omega)
  have OW := OW.below b7 (by omega)
  have x0 := x0.below b7 (by omega)
  have x1 := x1.below b7 (by omega)
  have OG := OG.below b7 (by omega)
  have bb := bb.trans (b7.mono (by omega))
  clear b7
  go_wp2_with fail
  refine (toIntS_c _ R0 (by omega)).mono ?_
  rintro e w8_ ⟨v8, rfl, cc, b8⟩
  have t8 := b8.size
  have R0 := R0.below b8 (by omega)
  have R1 := R1.below b8 (by omega)
  have OW := OW.below b8 (by omega)
  have x0 := x0.below b8 (by omega)
  have x1 := x1.below b8 (by omega)
  have OG := OG.below b8 (by omega)
  have bb := bb.trans (b8.mono (by omega))
  clear b8
  go_wp2_with fail
  refine (eqIntS_t _ x0.rd cc.rd).mono ?_
  rintro e w9_ ⟨rfl, b9⟩
  have t9 := b9.size
  have R0 := R0.below b9 (by omega)
  have R1 := R1.below b9 (by omega)
  have OW := OW.below b9 (by omega)
  have x0 := x0.below b9 (by omega)
  have x1 := x1.below b9 (by omega)
  have OG := OG.below b9 (by omega)
  have cc := cc.below b9 (by omega)
  have bb := bb.trans (b9.mono (by omega))
  clear b9
  clear cc
  go_wp2_with fail
  refine (toIntS_c _ R1 (by omega)).mono ?_
  rintro e w10_ ⟨v10, rfl, cc, b10⟩
  have t10 := b10.size
  have R0 := R0.below b10 (by omega)
  have R1 := R1.below b10 (by omega)
  have OW := OW.below b10 (by omega)
  have x0 := x0.below b10 (by omega)
  have x1 := x1.below b10 (by omega)
  have OG := OG.below b10 (by omega)
  have bb := bb.trans (b10.mono (by omega))
  clear b10
  go_wp2_with fail
  refine (eqIntS_t _ x1.rd cc.rd).mono ?_
  rintro e w11_ ⟨rfl, b11⟩
  have t11 := b11.size
  have R0 := R0.below b11 (by omega)
  have R1 := R1.below b11 (by omega)
  have OW := OW.below b11 (by omega)
  have x0 := x0.below b11 (by omega)
  have x1 := x1.below b11 (by omega)
  have OG := OG.below b11 (by omega)
  have cc := cc.below b11 (by omega)
  have bb := bb.trans (b11.mono (by omega))
  clear b11
  clear cc
  go_wp2_with fail
  refine (markIntS_c _ _ x0 (by omega) (by omega)).mono ?_
  rintro e w12_ ⟨rfl, o12, g12⟩
  have t12 := g12.size
  have R0 := R0.grown g12 (by omega) (fun k hk => by have := x0.lt k hk; omega)
  have R1 := R1.grown g12 (by omega) (fun k hk => by have := x0.lt k hk; omega)
  have OW := OW.apart g12 (fun k hk => by have := x0.lt k hk; omega)
  have x1 := x1.apart g12 (fun k hk => by have := x0.lt k hk; omega)
  have OG := OG.apart g12 (fun k hk => by have := x0.lt k hk; omega)
  have bb := bb.trans (below_of_own x0 g12 (by omega) (by omega))
  have smx0 := x0.sm
  clear x0 g12
  have x0 := o12
  clear o12
  clear x0
  go_wp2_with fail
  refine (markIntS_c _ _ x1 (by omega) (by omega)).mono ?_
  rintro e w13_ ⟨rfl, o13, g13⟩
  have t13 := g13.size
  have R0 := R0.grown g13 (by omega) (fun k hk => by have := x1.lt k hk; omega)
  have R1 := R1.grown g13 (by omega) (fun k hk => by have := x1.lt k hk; omega)
  have OW := OW.apart g13 (fun k hk => by have := x1.lt k hk; omega)
  have OG := OG.apart g13 (fun k hk => by have := x1.lt k hk; omega)
  have bb := bb.trans (below_of_own x1 g13 (by omega) (by omega))
  have smx1 := x1.sm
  clear x1 g13
  have x1 := o13
  clear o13
  clear x1
  go_wp2_with fail
  refine (eqIntS_t _ OG.rd OW.rd).mono ?_
  rintro e w14_ ⟨rfl, b14⟩
  have t14 := b14.size
  have R0 := R0.below b14 (by omega)
  have R1 := R1.below b14 (by omega)
  have OW := OW.below b14 (by omega)
  have OG := OG.below b14 (by omega)
  have bb := bb.trans (b14.mono (by omega))
  clear b14
  go_wp2_with fail
  refine (markIntS_c _ _ OG (by omega) (by omega)).mono ?_
  rintro e w15_ ⟨rfl, o15, g15⟩
  have t15 := g15.size
  have R0 := R0.grown g15 (by omega) (fun k hk => by have := OG.lt k hk; omega)
  have R1 := R1.grown g15 (by omega) (fun k hk => by have := OG.lt k hk; omega)
  have OW := OW.apart g15 (fun k hk => by have := OG.lt k hk; omega)
  have bb := bb.trans (below_of_own OG g15 (by omega) (by omega))
  have smOG := OG.sm
  clear OG g15
  have OG := o15
  clear o15
  go_wp2_with fail
  refine (heldIntS_t _ _ OG.rd (by omega) (by omega)).mono ?_
  rintro e w16_ ⟨rfl, b16⟩
  have t16 := b16.size
  have R0 := R0.below b16 (by omega)
  have R1 := R1.below b16 (by omega)
  have OW := OW.below b16 (by omega)
  have OG := OG.below b16 (by omega)
  have bb := bb.trans (b16.mono (by omega))
  clear b16
  go_wp2_with fail
  refine (toIntS_c _ R0 (by omega)).mono ?_
  rintro e w17_ ⟨v17, rfl, c0, b17⟩
  have t17 := b17.size
  have R0 := R0.below b17 (by omega)
  have R1 := R1.below b17 (by omega)
  have OW := OW.below b17 (by omega)
  have OG := OG.below b17 (by omega)
  have bb := bb.trans (b17.mono (by omega))
  clear b17
  go_wp2_with fail
  refine (toIntS_c _ R1 (by omega)).mono ?_
  rintro e w18_ ⟨v18, rfl, c1, b18⟩
  have t18 := b18.size
  have R0 := R0.below b18 (by omega)
  have R1 := R1.below b18 (by omega)
  have OW := OW.below b18 (by omega)
  have OG := OG.below b18 (by omega)
  have c0 := c0.below b18 (by omega)
  have bb := bb.trans (b18.mono (by omega))
  clear b18
  go_wp2_with fail
  refine (implCyc_t _ c0.rd c1.rd (by omega) (by omega) ).mono ?_
  rintro e w19_ ⟨v19, rfl, OH, b19⟩
  have t19 := b19.size
  have R0 := R0.below b19 (by omega)
  have R1 := R1.below b19 (by omega)
  have OW := OW.below b19 (by omega)
  have OG := OG.below b19 (by omega)
  have c0 := c0.below b19 (by omega)
  have c1 := c1.below b19 (by omega)
  have bb := bb.trans (b19.mono (by omega))
  clear b19
  go_wp2_with fail
  refine (eqIntS_t _ OH.rd OW.rd).mono ?_
  rintro e w20_ ⟨rfl, b20⟩
  have t20 := b20.size
  have R0 := R0.below b20 (by omega)
  have R1 := R1.below b20 (by omega)
  have OW := OW.below b20 (by omega)
  have OG := OG.below b20 (by omega)
  have c0 := c0.below b20 (by omega)
  have c1 := c1.below b20 (by omega)
  have OH := OH.below b20 (by omega)
  have bb := bb.trans (b20.mono (by omega))
  clear b20
  go_wp2_with fail
  refine (heldIntS_t _ _ OG.rd (by omega) (by omega)).mono ?_
  rintro e w21_ ⟨rfl, b21⟩
  have t21 := b21.size
  have R0 := R0.below b21 (by omega)
  have R1 := R1.below b21 (by omega)
  have OW := OW.below b21 (by omega)
  have OG := OG.below b21 (by omega)
  have c0 := c0.below b21 (by omega)
  have c1 := c1.below b21 (by omega)
  have OH := OH.below b21 (by omega)
  have bb := bb.trans (b21.mono (by omega))
  clear b21
  go_wp2_with fail
  go_ret
  exact ⟨rfl, bb⟩

end Go.Proofs.Ytmjghkpijphfbaa
