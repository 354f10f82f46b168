/-
  The law FnBurstSpread, walked: for every input the call returns true, and nothing that was there has changed.
-/
import Derived.Test.YtfefkpjikjjjjaaDrawBurst
namespace Go.Proofs.Ytfefkpjikjjjjaa
open Go.RowKit

set_option maxHeartbeats 1000000 in
theorem FnBurstSpread_walk (a0 : Option Addr) (len0 cap0 : Nat) (z0 : List Int) (w : World) (w0 : IsRow .u8 w a0 len0 cap0 z0) :
    Calls Try.prog 4 #[.slice a0 len0 cap0] w fun e w' => e = .returned (.bool true) ∧ Below w.heap.size w w' := by
  by_cases hl0 : len0 ≤ 1048576
  case neg =>
    have hl0' : 1048576 < len0 := by omega
    go_enter Try.func4, Try.ntmps4
    go_wp2
    go_ret
    exact ⟨rfl, Below.refl _ _⟩
  have B0 := w0.bytes
  clear w0
  have bb := Below.refl w.heap.size w
  go_enter Try.func4, Try.ntmps4
  go_wp2_with fail
  refine (DrawBurstSpread_c _ B0 (Nat.le_refl _)).mono ?_
  rintro e w1_ ⟨r, c, a, n, rfl, ⟨⟨r0, r1⟩, ⟨c0, c1⟩, ⟨a0, a1⟩, ⟨n0, n1⟩⟩, b1⟩
  have t1 := b1.size
  have bb := bb.trans (b1.mono (by omega))
  clear b1
  go_wp2_with fail
  refine (implBurst_t _ ⟨by omega, by omega⟩ ⟨by omega, by omega⟩ ⟨by omega, by omega⟩ ⟨by omega, by omega⟩).mono ?_
  rintro e w2_ ⟨rfl, b2⟩
  have t2 := b2.size
  have bb := bb.trans (b2.mono (by omega))
  clear b2
  go_wp2_with fail
  refine (specBurst_t _ ⟨by omega, by omega⟩ ⟨by omega, by omega⟩ ⟨by omega, by omega⟩ ⟨by omega, by omega⟩).mono ?_
  rintro e w3_ ⟨rfl, b3⟩
  have t3 := b3.size
  have bb := bb.trans (b3.mono (by omega))
  clear b3
  cases hok : bsOk r c a n with
  | false =>
    rw [bs_no hok]
    clear hok
    go_wp2_with fail
    refine (alive_c _).mono ?_
    rintro e w4_ ⟨rfl, b4⟩
    have t4 := b4.size
    have bb := bb.trans (b4.mono (by omega))
    clear b4
    go_wp2_with fail
    go_ret
    exact ⟨rfl, bb⟩
  | true =>
    rw [bs_yes hok]
    have h1 : 1 ≤ r := by
      have : inB r 1 32 = true := by
        cases h : inB r 1 32 with
        | true => rfl
        | false => rw [bsOk, h] at hok; simp at hok
      exact (inB_iff.1 this).1
    clear hok
    have h2 : 0 ≤ (n + r - 1) / r := Int.ediv_nonneg (by omega) (by omega)
    go_wp2_with fail
    go_ret
    exact ⟨rfl, bb⟩

end Go.Proofs.Ytfefkpjikjjjjaa
