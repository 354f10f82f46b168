/-
  The law FnFilterDelay, walked: for every input the call returns true, and nothing that was there has changed.
-/
import Derived.Test.YtggjcbgmifjbjaaSeqLaw
namespace Go.Proofs.Ytggjcbgmifjbjaa
open Go.RowKit

set_option maxHeartbeats 1000000 in
theorem FnFilterDelay_walk (a0 : Option Addr) (len0 cap0 : Nat) (z0 : List Int) (w : World) (w0 : IsRow .u8 w a0 len0 cap0 z0) :
    Calls Try.prog 11 #[.slice a0 len0 cap0] w fun e w' => e = .returned (.bool true) ∧ Below w.heap.size w w' := by
  by_cases hl0 : len0 ≤ 1048576
  case neg =>
    have hl0' : 1048576 < len0 := by omega
    go_enter Try.func11, Try.ntmps11
    go_wp2
    go_ret
    exact ⟨rfl, Below.refl _ _⟩
  have B0 := w0.bytes
  clear w0
  have bb := Below.refl w.heap.size w
  go_enter Try.func11, Try.ntmps11
  go_wp2_with fail
  refine (DrawFilterSequence_c _ B0 (Nat.le_refl _)).mono ?_
  rintro e w1_ ⟨v1, xs, u1, ys, rfl, OX, ⟨hl, hx⟩, OY, ⟨hl2, hy⟩, b1⟩
  have t1 := b1.size
  have bb := bb.trans (b1.mono (by omega))
  clear b1
  clear OY
  have oD := Own.made w1_ #[.int .i64 0, .int .i64 1] [0, 1] rfl rfl (by omega : 2 ≤ 4194304)
  have k1 := (Below.refl w1_.heap.size w1_).alloc (Nat.le_refl _) (.cells #[.int .i64 0, .int .i64 1] 3)
  have OX1 := OX.below k1 (by omega)
  go_wp2_with fail
  refine (implFilt_c _ OX1.rd oD.rd (by simp only [World.size_alloc]; omega) (by simp)).mono ?_
  rintro e w2_ ⟨vx, rfl, OF, bF⟩
  have bF2 := k1.trans (bF.mono (by simp))
  have t2 := bF2.size
  have OF := OF.less (show w1_.heap.size ≤ _ by simp)
  clear OX1 oD k1 bF
  have OX := OX.below bF2 (by omega)
  have bb := bb.trans (bF2.mono (by omega))
  clear bF2
  have oD := Own.made w2_ #[.int .i64 0, .int .i64 1] [0, 1] rfl rfl (by omega : 2 ≤ 4194304)
  have k1 := (Below.refl w2_.heap.size w2_).alloc (Nat.le_refl _) (.cells #[.int .i64 0, .int .i64 1] 3)
  have OX1 := OX.below k1 (by omega)
  go_wp2_with fail
  refine (specFilt_c _ OX1.rd oD.rd (by simp only [World.size_alloc]; omega) (by simp)).mono ?_
  rintro e w3_ ⟨vs, rfl, OS, bF⟩
  have bF2 := k1.trans (bF.mono (by simp))
  have t3 := bF2.size
  have OS := OS.less (show w2_.heap.size ≤ _ by simp)
  clear OX1 oD k1 bF
  have OX := OX.below bF2 (by omega)
  have OF := OF.below bF2 (by omega)
  have bb := bb.trans (bF2.mono (by omega))
  clear bF2
  go_wp2_with fail
  refine (sameInts_t _ OF.rd OS.rd).mono ?_
  rintro e w4_ ⟨rfl, b4⟩
  have t4 := b4.size
  have OX := OX.below b4 (by omega)
  have OF := OF.below b4 (by omega)
  have OS := OS.below b4 (by omega)
  have bb := bb.trans (b4.mono (by omega))
  clear b4
  by_cases hok : filtOk xs [0, 1] = true
  case neg =>
    rw [filt_no (by simpa using hok)] at OF
    obtain ⟨A, n, c, rfl, R⟩ := OF.rd
    obtain rfl : n = 0 := by rw [← R.len]; rfl
    go_wp2_with fail
    refine (alive_c _).mono ?_
    rintro e w5_ ⟨rfl, b5⟩
    have t5 := b5.size
    have OX := OX.below b5 (by omega)
    have OF := OF.below b5 (by omega)
    have OS := OS.below b5 (by omega)
    have bb := bb.trans (b5.mono (by omega))
    clear b5
    go_wp2_with fail
    go_ret
    exact ⟨rfl, bb⟩
  rw [filt_yes hok] at OF
  have hd0 := conv_delay hok
  rw [hd0] at OF
  rcases OF.form with ⟨h0, _⟩ | ⟨g, cap, rfl, hB, hC, hle, hcap⟩
  case inl => exact absurd h0 (by simp)
  have c0 := OF.cell (k := 0) (by simp)
  simp only [List.getD_cons_zero] at c0
  obtain ⟨A, n, c, hv, R⟩ := OF.rd
  obtain ⟨rfl, rfl, rfl⟩ : A = some ⟨g, 0, none⟩ ∧ n = (0 :: xs).length ∧ c = cap := by injection hv with a b c; exact ⟨a.symm, b.symm, c.symm⟩
  have R2 := R.cut (k := 1) (by simp)
  simp only [List.drop_succ_cons, List.drop_zero] at R2
  have hxl : xs.length ≠ 0 := by intro h; simp [filtOk, h] at hok
  rw [if_neg (by simp at hle; omega)] at R2
  simp only [Option.map_some] at R2
  have hcap1 : ¬ c = 1 := by simp at hle; omega
  simp only [List.length_cons, Nat.add_sub_cancel] at R2
  simp only [List.length_cons] at *
  have R3 : Rd _ _ _ xs := ⟨_, _, _, rfl, R2⟩
  go_wp2_with fail
  refine (sameInts_t _ R3 OX.rd).mono ?_
  rintro e wz ⟨rfl, bz⟩
  have bb := bb.trans (bz.mono (by omega))
  go_wp2_with fail
  go_ret
  exact ⟨rfl, bb⟩

end Go.Proofs.Ytggjcbgmifjbjaa
