/-
  The law FnFilterGroups, walked: for every input the call returns true, and nothing that was there has changed.
-/
import Derived.Test.YtebbljgmliikfaaConv
namespace Go.Proofs.Ytebbljgmliikfaa
open Go.RowKit

set_option maxHeartbeats 1000000 in
theorem FnFilterGroups_walk (a0 : Option Addr) (len0 cap0 : Nat) (z0 : List Int) (w : World) (w0 : IsRow .u8 w a0 len0 cap0 z0) :
    Calls Try.prog 3 #[.slice a0 len0 cap0] w fun e w' => e = .returned (.bool true) ∧ Below w.heap.size w w' := by
  by_cases hl0 : len0 ≤ 1048576
  case neg =>
    have hl0' : 1048576 < len0 := by omega
    go_enter Try.func3, Try.ntmps3
    go_wp2
    go_ret
    exact ⟨rfl, Below.refl _ _⟩
  have B0 := w0.bytes
  clear w0
  have bb := Below.refl w.heap.size w
  go_enter Try.func3, Try.ntmps3
  go_wp2_with fail
  refine (DrawFilterSequence_c _ B0 (Nat.le_refl _)).mono ?_
  rintro e w1_ ⟨v1, xs, u1, ys, rfl, OX, ⟨hl, hx⟩, OY, ⟨hl2, hy⟩, b1⟩
  have t1 := b1.size
  have bb := bb.trans (b1.mono (by omega))
  clear b1
  clear hx hy
  clear hl hl2
  have OC := Own.made w1_ #[.int .i64 1, .int .i64 (-2), .int .i64 1] [1, -2, 1] rfl rfl (by omega : 3 ≤ 4194304)
  have kc := (Below.refl w1_.heap.size w1_).alloc (Nat.le_refl _) (.cells #[.int .i64 1, .int .i64 (-2), .int .i64 1] 3)
  have tc := kc.size
  have sc : (w1_.alloc (.cells #[.int .i64 1, .int .i64 (-2), .int .i64 1] 3)).heap.size = w1_.heap.size + 1 := by simp
  have OX := OX.below kc (by omega)
  have OY := OY.below kc (by omega)
  have bb := bb.trans (kc.mono (by omega))
  clear kc
  go_wp2_with fail
  refine (implFilt_c _ OX.rd OY.rd (by omega) (by omega)).mono ?_
  rintro e w2_ ⟨v2, rfl, OF, b2⟩
  have t2 := b2.size
  have OX := OX.below b2 (by omega)
  have OY := OY.below b2 (by omega)
  have OC := OC.below b2 (by omega)
  have bb := bb.trans (b2.mono (by omega))
  clear b2
  go_wp2_with fail
  refine (specFilt_c _ OX.rd OY.rd (by omega) (by omega)).mono ?_
  rintro e w3_ ⟨v3, rfl, OS, b3⟩
  have t3 := b3.size
  have OX := OX.below b3 (by omega)
  have OY := OY.below b3 (by omega)
  have OC := OC.below b3 (by omega)
  have OF := OF.below b3 (by omega)
  have bb := bb.trans (b3.mono (by omega))
  clear b3
  go_wp2_with fail
  refine (sameInts_t _ OF.rd OS.rd).mono ?_
  rintro e w4_ ⟨rfl, b4⟩
  have t4 := b4.size
  have OX := OX.below b4 (by omega)
  have OY := OY.below b4 (by omega)
  have OC := OC.below b4 (by omega)
  have OF := OF.below b4 (by omega)
  have OS := OS.below b4 (by omega)
  have bb := bb.trans (b4.mono (by omega))
  clear b4
  clear OS
  go_wp2_with fail
  refine (implFilt_c _ OY.rd OC.rd (by omega) (by omega)).mono ?_
  rintro e w5_ ⟨v5, rfl, OG, b5⟩
  have t5 := b5.size
  have OX := OX.below b5 (by omega)
  have OY := OY.below b5 (by omega)
  have OC := OC.below b5 (by omega)
  have OF := OF.below b5 (by omega)
  have bb := bb.trans (b5.mono (by omega))
  clear b5
  obtain ⟨Af, nf, cf, rfl, RF⟩ := OF.rd
  have lRF := hid RF.len
  obtain ⟨Ag, ng, cg, rfl, RG⟩ := OG.rd
  have lRG := hid RG.len
  by_cases hf : nf = 0
  case pos =>
    subst hf
    go_wp2_with fail
    refine (alive_c _).mono ?_
    rintro e w6_ ⟨rfl, b6⟩
    have t6 := b6.size
    have OX := OX.below b6 (by omega)
    have OY := OY.below b6 (by omega)
    have OC := OC.below b6 (by omega)
    have OF := OF.below b6 (by omega)
    have OG := OG.below b6 (by omega)
    have RF := RF.below b6 (by omega)
    have RG := RG.below b6 (by omega)
    have bb := bb.trans (b6.mono (by omega))
    clear b6
    go_wp2_with fail
    go_ret
    exact ⟨rfl, bb⟩
  have hf' : ((nf : Int) == 0) = false := by simpa using hf
  by_cases hg : ng = 0
  case pos =>
    subst hg
    go_wp2_with fail
    refine (alive_c _).mono ?_
    rintro e w6_ ⟨rfl, b6⟩
    have t6 := b6.size
    have OX := OX.below b6 (by omega)
    have OY := OY.below b6 (by omega)
    have OC := OC.below b6 (by omega)
    have OF := OF.below b6 (by omega)
    have OG := OG.below b6 (by omega)
    have RF := RF.below b6 (by omega)
    have RG := RG.below b6 (by omega)
    have bb := bb.trans (b6.mono (by omega))
    clear b6
    go_wp2_with fail
    go_ret
    exact ⟨rfl, bb⟩
  have hg' : ((ng : Int) == 0) = false := by simpa using hg
  have ok1 : filtOk xs ys = true := by
    cases h : filtOk xs ys with
    | true => rfl
    | false => exact absurd (lRF.out.symm.trans (filt_nil h)) hf
  have ok2 : filtOk ys [1, -2, 1] = true := by
    cases h : filtOk ys [1, -2, 1] with
    | true => rfl
    | false => exact absurd (lRG.out.symm.trans (filt_nil h)) hg
  have HG := hid (filt_groups ok1 ok2)
  clear ok1 ok2
  generalize hF : filt xs ys = fs at *
  generalize hGs : filt ys [1, -2, 1] = gs at *
  clear hF hGs
  by_cases sf : seqOk fs = true
  case neg =>
    have sf' : seqOk fs = false := by simpa using sf
    clear sf
    go_wp2_with fail
    refine (implSeq_t _ OF.rd (by omega)).mono ?_
    rintro e w6_ ⟨rfl, b6⟩
    have t6 := b6.size
    have OX := OX.below b6 (by omega)
    have OY := OY.below b6 (by omega)
    have OC := OC.below b6 (by omega)
    have OF := OF.below b6 (by omega)
    have OG := OG.below b6 (by omega)
    have RF := RF.below b6 (by omega)
    have RG := RG.below b6 (by omega)
    have bb := bb.trans (b6.mono (by omega))
    clear b6
    go_wp2_with fail
    refine (alive_c _).mono ?_
    rintro e w7_ ⟨rfl, b7⟩
    have t7 := b7.size
    have OX := OX.below b7 (by omega)
    have OY := OY.below b7 (by omega)
    have OC := OC.below b7 (by omega)
    have OF := OF.below b7 (by omega)
    have OG := OG.below b7 (by omega)
    have RF := RF.below b7 (by omega)
    have RG := RG.below b7 (by omega)
    have bb := bb.trans (b7.mono (by omega))
    clear b7
    go_wp2_with fail
    go_ret
    exact ⟨rfl, bb⟩
  go_wp2_with fail
  refine (implSeq_t _ OF.rd (by omega)).mono ?_
  rintro e w6_ ⟨rfl, b6⟩
  have t6 := b6.size
  have OX := OX.below b6 (by omega)
  have OY := OY.below b6 (by omega)
  have OC := OC.below b6 (by omega)
  have OF := OF.below b6 (by omega)
  have OG := OG.below b6 (by omega)
  have RF := RF.below b6 (by omega)
  have RG := RG.below b6 (by omega)
  have bb := bb.trans (b6.mono (by omega))
  clear b6
  by_cases sg : seqOk gs = true
  case neg =>
    have sg' : seqOk gs = false := by simpa using sg
    clear sg
    go_wp2_with fail
    refine (implSeq_t _ OG.rd (by omega)).mono ?_
    rintro e w7_ ⟨rfl, b7⟩
    have t7 := b7.size
    have OX := OX.below b7 (by omega)
    have OY := OY.below b7 (by omega)
    have OC := OC.below b7 (by omega)
    have OF := OF.below b7 (by omega)
    have OG := OG.below b7 (by omega)
    have RF := RF.below b7 (by omega)
    have RG := RG.below b7 (by omega)
    have bb := bb.trans (b7.mono (by omega))
    clear b7
    go_wp2_with fail
    refine (alive_c _).mono ?_
    rintro e w8_ ⟨rfl, b8⟩
    have t8 := b8.size
    have OX := OX.below b8 (by omega)
    have OY := OY.below b8 (by omega)
    have OC := OC.below b8 (by omega)
    have OF := OF.below b8 (by omega)
    have OG := OG.below b8 (by omega)
    have RF := RF.below b8 (by omega)
    have RG := RG.below b8 (by omega)
    have bb := bb.trans (b8.mono (by omega))
    clear b8
    go_wp2_with fail
    go_ret
    exact ⟨rfl, bb⟩
  go_wp2_with fail
  refine (implSeq_t _ OG.rd (by omega)).mono ?_
  rintro e w7_ ⟨rfl, b7⟩
  have t7 := b7.size
  have OX := OX.below b7 (by omega)
  have OY := OY.below b7 (by omega)
  have OC := OC.below b7 (by omega)
  have OF := OF.below b7 (by omega)
  have OG := OG.below b7 (by omega)
  have RF := RF.below b7 (by omega)
  have RG := RG.below b7 (by omega)
  have bb := bb.trans (b7.mono (by omega))
  clear b7
  have HE := hid (HG.out sf sg)
  go_wp2_with fail
  refine (implFilt_c _ OF.rd OC.rd (by omega) (by omega)).mono ?_
  rintro e w8_ ⟨v8, rfl, OU, b8⟩
  have t8 := b8.size
  have OX := OX.below b8 (by omega)
  have OY := OY.below b8 (by omega)
  have OC := OC.below b8 (by omega)
  have OF := OF.below b8 (by omega)
  have OG := OG.below b8 (by omega)
  have RF := RF.below b8 (by omega)
  have RG := RG.below b8 (by omega)
  have bb := bb.trans (b8.mono (by omega))
  clear b8
  go_wp2_with fail
  refine (implFilt_c _ OX.rd OG.rd (by omega) (by omega)).mono ?_
  rintro e w9_ ⟨v9, rfl, OV, b9⟩
  have t9 := b9.size
  have OX := OX.below b9 (by omega)
  have OY := OY.below b9 (by omega)
  have OC := OC.below b9 (by omega)
  have OF := OF.below b9 (by omega)
  have OG := OG.below b9 (by omega)
  have RF := RF.below b9 (by omega)
  have RG := RG.below b9 (by omega)
  have OU := OU.below b9 (by omega)
  have bb := bb.trans (b9.mono (by omega))
  clear b9
  rw [HE.out] at OU
  go_wp2_with fail
  refine (sameInts_t _ OU.rd OV.rd).mono ?_
  rintro e w10_ ⟨rfl, b10⟩
  have t10 := b10.size
  have OX := OX.below b10 (by omega)
  have OY := OY.below b10 (by omega)
  have OC := OC.below b10 (by omega)
  have OF := OF.below b10 (by omega)
  have OG := OG.below b10 (by omega)
  have RF := RF.below b10 (by omega)
  have RG := RG.below b10 (by omega)
  have OU := OU.below b10 (by omega)
  have OV := OV.below b10 (by omega)
  have bb := bb.trans (b10.mono (by omega))
  clear b10
  go_wp2_with fail
  go_ret
  exact ⟨rfl, bb⟩

end Go.Proofs.Ytebbljgmliikfaa
