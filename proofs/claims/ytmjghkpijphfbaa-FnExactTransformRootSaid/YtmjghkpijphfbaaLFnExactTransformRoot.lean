/-
  The law FnExactTransformRoot, walked: for every input the call returns true, and nothing that was there has changed.
-/
import Derived.Test.YtmjghkpijphfbaaRoot
namespace Go.Proofs.Ytmjghkpijphfbaa
open Go.RowKit

set_option maxHeartbeats 1000000 in
theorem FnExactTransformRoot_walk  (w : World)  :
    Calls Try.prog 3 #[] w fun e w' => e = .returned (.bool true) ∧ Below w.heap.size w w' := by
  have bb := Below.refl w.heap.size w
  go_enter Try.func3, Try.ntmps3
  go_wp2_with fail
  refine (specRoot_t _   ).mono ?_
  rintro e w1_ ⟨rfl, b1⟩
  have t1 := b1.size
  have bb := bb.trans (b1.mono (by omega))
  clear b1
  go_wp2_with fail
  refine (implRoot_t _   ).mono ?_
  rintro e w2_ ⟨rfl, b2⟩
  have t2 := b2.size
  have bb := bb.trans (b2.mono (by omega))
  clear b2
  go_wp2_with fail
  go_ret
  exact ⟨rfl, bb⟩

end Go.Proofs.Ytmjghkpijphfbaa
