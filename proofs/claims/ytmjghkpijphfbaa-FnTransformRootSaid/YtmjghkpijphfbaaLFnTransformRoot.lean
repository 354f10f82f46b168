/-
  The law FnTransformRoot, walked: for every input the call returns true, and nothing that was there has changed.
-/
import Derived.Test.YtmjghkpijphfbaaRoot
import Derived.Test.YtmjghkpijphfbaaDraw
namespace Go.Proofs.Ytmjghkpijphfbaa
open Go.RowKit

theorem pw2_ne : ∀ k, k < 16 → 1 ≤ k → pw 2 k ≠ 1 := by decide
set_option maxHeartbeats 1000000 in
theorem FnTransformRoot_walk (a0 : Option Addr) (len0 cap0 : Nat) (z0 : List Int) (w : World) (_w0 : IsRow .u8 w a0 len0 cap0 z0) :
    Calls Try.prog 4 #[.slice a0 len0 cap0] w fun e w' => e = .returned (.bool true) ∧ Below w.heap.size w w' := by
  by_cases hl0 : len0 ≤ 1048576
  case neg =>
    have hl0' : 1048576 < len0 := by omega
    go_enter Try.func4, Try.ntmps4
    go_wp2
    go_ret
    exact ⟨rfl, Below.refl _ _⟩
  have bb := Below.refl w.heap.size w
  go_enter Try.func4, Try.ntmps4
  go_wp2_with fail
  refine (implRoot_t _).mono ?_
  rintro e w1 ⟨rfl, b1⟩
  have t1 := b1.size
  have bb := bb.trans (b1.mono (by omega))
  clear b1
  go_wp2_with fail
  refine (specRoot_t _).mono ?_
  rintro e w2 ⟨rfl, b2⟩
  have t2 := b2.size
  have bb := bb.trans (b2.mono (by omega))
  clear b2
  go_wp2_with fail
  go_loop [4, 5] (fun p i => ∃ k : Nat, 1 ≤ k ∧ k ≤ 17 ∧ i = .int .i64 k ∧ p = .int .i64 (pw 2 (k - 1))) (fun _ i => 17 - (intOf i).toNat)
  case atStart => exact ⟨1, Nat.le_refl _, by omega, rfl, rfl⟩
  case round =>
    obtain ⟨k, hk1, hk, rfl, rfl⟩ := hrel
    have hb := pw_in 2 (k - 1)
    have hs := hid (show pw 2 (k - 1 + 1) = pw 2 (k - 1) * 2 % 257 from rfl)
    rw [show k - 1 + 1 = k by omega] at hs
    generalize pw 2 (k - 1) = P at hb hs
    by_cases hlt : k < 16
    · have hne := pw2_ne k hlt hk1
      rw [hs.out] at hne
      have q1 : (P * 2 % 257 == 1) = false := by simpa using hne
      have q2 : ((k : Int) == 16) = false := by simp; omega
      clear hne
      go_wp2_with fail
      go_round
      case rel => exact ⟨k + 1, by omega, by omega, by go_num, by rw [Nat.add_sub_cancel, hs.out]⟩
      case measure => simp [intOf]; omega
    · by_cases h16 : k = 16
      · subst h16
        have e := hs.out
        rw [pw_2_16] at e
        have q1 : (P * 2 % 257 == 1) = true := by rw [← e]; rfl
        clear e
        go_wp2_with fail
        go_round
        case rel => exact ⟨17, by omega, by omega, rfl, hs.out ▸ rfl⟩
        case measure => simp [intOf]
      · obtain rfl : k = 17 := by omega
        go_wp2_with fail
        refine (alive_c _).mono ?_
        rintro e w3 ⟨rfl, b3⟩
        have bb := bb.trans (b3.mono (by omega))
        go_wp2_with fail
        go_ret
        exact ⟨rfl, bb⟩

end Go.Proofs.Ytmjghkpijphfbaa
