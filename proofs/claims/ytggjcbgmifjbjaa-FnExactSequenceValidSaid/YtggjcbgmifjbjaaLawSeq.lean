/-
  The law FnExactSequenceValid, walked: for every list the program's SequenceValid answers as the reference's, and the law returns true.
-/
import Derived.Test.YtggjcbgmifjbjaaSeq
namespace Go.Proofs.Ytggjcbgmifjbjaa
open Go.RowKit

set_option maxHeartbeats 400000 in
theorem FnExactSequenceValid_walk (a0 : Option Addr) (len0 cap0 : Nat) (z0 : List Int) (w : World) (w0 : IsRow .i64 w a0 len0 cap0 z0) :
    Calls Try.prog 3 #[.slice a0 len0 cap0] w fun e w' => e = .returned (.bool true) ∧ Below w.heap.size w w' := by
  by_cases hl : len0 ≤ 1048576
  · obtain ⟨h0, _⟩ := w0.ok (by omega)
    clear w0
    generalize z0.take len0 = xs at h0
    have R0 : Rd w.heap.size w (.slice a0 len0 cap0) xs := ⟨_, _, _, rfl, h0⟩
    clear h0
    go_enter Try.func3, Try.ntmps3
    go_wp2_with fail
    refine (toIntS_c _ R0 (Nat.le_refl _)).mono ?_
    rintro e w1 ⟨v1, rfl, o1, b1⟩
    have s1 := b1.size
    go_wp2_with fail
    refine (specSeq_c _ o1.rd).mono ?_
    rintro e w' ⟨rfl, rfl⟩
    go_wp2_with fail
    refine (toIntS_c _ (R0.below b1 (Nat.le_refl _)) s1).mono ?_
    rintro e w2 ⟨v2, rfl, o2, b2⟩
    have s2 := b2.size
    go_wp2_with fail
    refine (implSeq_c _ o2.rd).mono ?_
    rintro e w' ⟨rfl, rfl⟩
    go_wp2_with fail
    refine (toIntS_c _ ((R0.below b1 (Nat.le_refl _)).below b2 s1) (by omega)).mono ?_
    rintro e w3 ⟨v3, rfl, o3, b3⟩
    have s3 := b3.size
    go_wp2_with fail
    refine (eqIntS_c _ (o2.below b3 (Nat.le_refl _)).rd o3.rd).mono ?_
    rintro e w' ⟨rfl, q, rfl⟩
    have E := eqB_self xs
    go_wp2_with fail
    go_ret
    exact ⟨rfl, below_drewN ((b1.trans (b2.mono s1)).trans (b3.mono (by omega))) q⟩
  · have hl' : 1048576 < len0 := by omega
    go_enter Try.func3, Try.ntmps3
    go_wp2
    go_ret
    exact ⟨rfl, Below.refl _ _⟩

end Go.Proofs.Ytggjcbgmifjbjaa
