/-
  The law FnExactBurstSpread, walked: for every input the call returns true, and nothing that was there has changed.
-/
import Derived.Test.YtfefkpjikjjjjaaBurst
namespace Go.Proofs.Ytfefkpjikjjjjaa
open Go.RowKit

set_option maxHeartbeats 1000000 in
theorem FnExactBurstSpread_walk (a0 : Int) (a1 : Int) (a2 : Int) (a3 : Int) (w : World) (w0 : (Lit.int .i64 a0).wf = true) (w1 : (Lit.int .i64 a1).wf = true) (w2 : (Lit.int .i64 a2).wf = true) (w3 : (Lit.int .i64 a3).wf = true) :
    Calls Try.prog 3 #[.int .i64 a0, .int .i64 a1, .int .i64 a2, .int .i64 a3] w fun e w' => e = .returned (.bool true) ∧ Below w.heap.size w w' := by
  have i0 := bounds_i64 w0
  have i1 := bounds_i64 w1
  have i2 := bounds_i64 w2
  have i3 := bounds_i64 w3
  have bb := Below.refl w.heap.size w
  go_enter Try.func3, Try.ntmps3
  go_wp2_with fail
  refine (specBurst_t _   i0 i1 i2 i3).mono ?_
  rintro e w1_ ⟨rfl, b1⟩
  have t1 := b1.size
  have bb := bb.trans (b1.mono (by omega))
  clear b1
  go_wp2_with fail
  refine (implBurst_t _   i0 i1 i2 i3).mono ?_
  rintro e w2_ ⟨rfl, b2⟩
  have t2 := b2.size
  have bb := bb.trans (b2.mono (by omega))
  clear b2
  go_wp2_with fail
  go_ret
  exact ⟨rfl, bb⟩

end Go.Proofs.Ytfefkpjikjjjjaa
