/-
  The law FnTransformShift, walked: for every input the call returns true, and nothing that was there has changed.
-/
import Derived.Test.YtmjghkpijphfbaaTransF
import Derived.Test.YtmjghkpijphfbaaDrawPts
namespace Go.Proofs.Ytmjghkpijphfbaa
open Go.RowKit

/-- the list moved by one place -/
def moved (xs : List Int) : List Int := xs.getD 15 0 :: xs.take 15
theorem moved_at {xs : List Int} (j : Nat) (hj : j < 16) : gx (moved xs) j = if j = 0 then gx xs 15 else gx xs (j - 1) := by
  unfold gx moved
  cases j with
  | zero => simp
  | succ j =>
    rw [if_neg (by omega)]
    show (xs.take 15).getD j 0 = _
    rw [getD_take' (by omega)]; rfl
theorem moved_pts {xs : List Int} (h : ptsOk xs = true) : ptsOk (moved xs) = true := by
  refine ptsOk_iff.2 ⟨fun x hx => ?_, by unfold moved; rw [List.length_cons, List.length_take, ptsOk_len h]; rfl⟩
  rcases List.mem_cons.1 hx with rfl | hx
  · exact ptsOk_at h 15
  · exact (ptsOk_iff.1 h).1 _ (List.mem_of_mem_take hx)
theorem fwd_moved (xs : List Int) (k : Nat) : ft (gx (moved xs)) 2 16 k = ft (gx xs) 2 16 k * pw 2 k % 257 := by
  rw [← ft_shift]
  exact ft_congr fun i hi => moved_at i hi

set_option maxHeartbeats 2000000 in
theorem FnTransformShift_walk (a0 : Option Addr) (len0 cap0 : Nat) (z0 : List Int) (w : World) (w0 : IsRow .u8 w a0 len0 cap0 z0) :
    Calls Try.prog 10 #[.slice a0 len0 cap0] w fun e w' => e = .returned (.bool true) ∧ Below w.heap.size w w' := by
  by_cases hl0 : len0 ≤ 1048576
  case neg =>
    have hl0' : 1048576 < len0 := by omega
    go_enter Try.func10, Try.ntmps10
    go_wp2
    go_ret
    exact ⟨rfl, Below.refl _ _⟩
  have B0 := w0.bytes
  clear w0
  go_enter Try.func10, Try.ntmps10
  go_wp2_with fail
  refine (DrawForwardTransform_c _ B0 (Nat.le_refl _)).mono ?_
  rintro e w1 ⟨v1, xs, rfl, R, bb⟩
  have t1 := bb.size
  go_wp2_with fail
  by_cases hp : ptsOk xs = true
  case neg =>
    have hp' : ptsOk xs = false := by simpa using hp
    have E := hid (fwd_no hp')
    refine (implFwd_no _ R hp').mono ?_
    rintro e w' ⟨rfl, rfl⟩
    have HS := specFwd_t w1 R (Nat.le_refl _)
    rw [E.out] at HS
    have HS := hid HS
    clear hp hp'
    go_wp2_with fail
    refine HS.out.mono ?_
    rintro e w2 ⟨v2, rfl, o2, b2⟩
    have t2 := b2.size
    have bb := bb.trans (b2.mono (by omega))
    go_wp2_with fail
    refine (sameInts_t _ (Own.nil 0 0 _).rd o2.rd).mono ?_
    rintro e w3 ⟨rfl, b3⟩
    have t3 := b3.size
    have bb := bb.trans (b3.mono (by omega))
    go_wp2_with fail
    refine (alive_c _).mono ?_
    rintro e w4 ⟨rfl, b4⟩
    have bb := bb.trans (b4.mono (by omega))
    go_wp2_with fail
    go_ret
    exact ⟨rfl, bb⟩
  have hlen := ptsOk_len hp
  have HP := hid hp
  refine (calls16 (implFwd_yes _ R (Nat.le_refl _) hp)).mono ?_
  rintro e w2 ⟨g, cap, rfl, ⟨hB, hCg, hle, hcap⟩, O1, b2⟩
  have t2 := b2.size
  have R := R.below b2 (by omega)
  have bb := bb.trans (b2.mono (by omega))
  have HS := specFwd_t w2 R (by omega)
  rw [fwd_yes hp] at HS
  have HS := hid HS
  clear hp
  go_wp2_with fail
  refine HS.out.mono ?_
  rintro e w3 ⟨v3, rfl, o3, b3⟩
  have t3 := b3.size
  have R := R.below b3 (by omega)
  have O1 := O1.below b3 (Nat.le_refl _)
  have bb := bb.trans (b3.mono (by omega))
  clear HS b3 b2
  go_wp2_with fail
  refine (sameInts_t _ O1.rd o3.rd).mono ?_
  rintro e w4 ⟨rfl, b4⟩
  have t4 := b4.size
  have R := R.below b4 (by omega)
  have O1 := O1.below b4 (by omega)
  have bb := bb.trans (b4.mono (by omega))
  clear b4 o3
  obtain ⟨A, n, c, rfl, RR⟩ := R
  obtain rfl : n = 16 := by rw [← RR.len]; exact hlen
  have RT := RR.till (k := 15) (by omega)
  have RT : Rd w1.heap.size w4 (.slice A 15 c) (xs.take 15) := ⟨_, _, _, rfl, RT⟩
  obtain ⟨b, off, x, rfl, hbC, c15, hx⟩ := RR.at_ (k := 15) (by omega)
  have i15 : (15 : Int) < 16 := by omega
  have hcap2 := RR.le
  have ic : (15 : Int) ≤ (c : Int) := by omega
  have ic2 : 15 ≤ c := by omega
  have ox := Own.made w4 #[.int .i64 x] [x] rfl rfl (by omega : 1 ≤ 4194304)
  have bx := (Below.refl w4.heap.size w4).alloc (Nat.le_refl _) (.cells #[.int .i64 x] 3)
  have ox' : Own w4.heap.size (w4.heap.size + 1) (w4.alloc (.cells #[.int .i64 x] 3)).drew (.slice (some ⟨w4.heap.size, 0, none⟩) 1 1) [x] := ox.drewN 1
  have bx' : Below w4.heap.size w4 (w4.alloc (.cells #[.int .i64 x] 3)).drew := below_drewN bx 1
  have sx := hid (show (w4.alloc (.cells #[.int .i64 x] 3)).drew.heap.size = w4.heap.size + 1 by show (w4.alloc (.cells #[.int .i64 x] 3)).heap.size = _; simp)
  have RT' := RT.below bx' (by omega)
  have HL := hid (show (xs.take 15).length = 15 by rw [List.length_take, hlen]; rfl)
  have HM := hid (show [x] ++ xs.take 15 = moved xs by rw [← hx.out]; rfl)
  clear hlen hx ox bx RR RT
  go_wp2_with fail
  go_region_law (refine step_app intSl rfl (.tmp 29) (.tmp 31) rfl w4.heap.size _ _ _ _ [x] (xs.take 15) rfl rfl ox' RT' (by rw [HL.out]; simp) (by rw [sx.out]; omega) ?_; intro v5 w5 O5 g5)
  all_goals
    have s5 := g5.size
    rw [sx.out] at s5
    have b5 := bx'.grown g5 (by rw [sx.out]; omega) (fun q hq => (ox'.lt q hq).1)
    have O1 := O1.below b5 (by omega)
    have bb := bb.trans (b5.mono (by omega))
    rw [HM.out] at O5
    clear g5 ox' bx' RT' b5
    go_wp2_with fail
    refine (calls16 (implFwd_yes _ O5.rd (by omega) (moved_pts HP.out))).mono ?_
    rintro e w6 ⟨g6, cap6, rfl, ⟨hB6, hC6, hle6, hcap6⟩, O6, b6⟩
    have t6 := b6.size
    have O1 := O1.below b6 (by omega)
    have bb := bb.trans (b6.mono (by omega))
    clear b6 O5
    go_wp2_with fail
    refine (implRoot_c _).mono ?_
    rintro e w' ⟨rfl, rfl⟩
    have E := hid (fun k => fwd_moved xs k)
    have bF := hid (fun k => ft_in (gx xs) 2 16 k)
    have eF : fwdN xs = rg 16 (ft (gx xs) 2 16) := rfl
    rw [show rg 16 (ft (gx (moved xs)) 2 16) = rg 16 (fun k => ft (gx xs) 2 16 k * pw 2 k % 257) from rg_congr fun k _ => E.out k] at O6
    generalize ft (gx xs) 2 16 = F at O1 O6 bF
    clear HM HP E eF
    go_wp2
    go_loopw [8, 9] (fun p i wr => ∃ k : Nat, k ≤ 16 ∧ i = .int .i64 k ∧ p = .int .i64 (pw 2 k) ∧ ∃ q, wr = w6.drewN q) (fun _ i _ => 16 - (intOf i).toNat)
    case atStart => exact ⟨0, Nat.zero_le _, rfl, rfl, 0, rfl⟩
    case round =>
      obtain ⟨k, hk, rfl, rfl, q, rfl⟩ := hrel
      by_cases hlt : k < 16
      case pos =>
        have c1 := O1.cell (k := k) (by rw [rg_length]; exact hlt)
        have c2 := O6.cell (k := k) (by rw [rg_length]; exact hlt)
        rw [rg_getD hlt] at c1 c2
        have bf := bF.out k
        have bp := pw_in 2 k
        have nx := hid (show pw 2 (k + 1) = pw 2 k * 2 % 257 from rfl)
        generalize F k = x at c1 c2 bf
        generalize pw 2 k = p at c2 bp nx
        have m1 := mul_in bf bp
        have i1 : (k : Int) < 16 := by omega
        have u1 : IntKind.i64.wrap (x * p) = x * p := IntWalk.i64_in _ (by omega)
        have u2 : (x * p).tmod 257 = x * p % 257 := Int.tmod_eq_emod_of_nonneg (by omega)
        have u3 : IntKind.i64.wrap (x * p % 257) = x * p % 257 := IntWalk.i64_in _ (by omega)
        go_wp2
        go_quiet (fail)
        clear u1 u2 u3
        go_wp2
        go_roundw
        case rel => exact ⟨k + 1, by omega, by go_num, by rw [nx.out], _, rfl⟩
        case measure => simp [intOf]; omega
      case neg =>
        obtain rfl : k = 16 := by omega
        have bb2 := below_drewN bb q
        go_wp2
        go_ret
        exact ⟨rfl, bb2⟩

end Go.Proofs.Ytmjghkpijphfbaa
