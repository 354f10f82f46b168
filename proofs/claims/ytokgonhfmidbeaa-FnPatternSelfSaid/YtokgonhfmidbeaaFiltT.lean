/-
  The contracts of the filters in the form in which the laws use them.
-/
import Derived.Test.YtokgonhfmidbeaaFilt
import Derived.Test.YtokgonhfmidbeaaFind
import Derived.Test.YtokgonhfmidbeaaRate
import Derived.Test.YtokgonhfmidbeaaUndo
namespace Go.Proofs.Ytokgonhfmidbeaa
open Go.RowKit

section
variable {C D : Nat} {v v1 v2 : Value} {xs ys : List Int} {i n p : Int} (w : World)
def InI (i : Int) : Prop := -9223372036854775808 ≤ i ∧ i ≤ 9223372036854775807
theorem implCorr_t (h1 : Rd C w v1 xs) (h2 : Rd D w v2 ys) (_ : C ≤ w.heap.size) (_ : D ≤ w.heap.size) (hi : InI i) :
    Calls Try.prog 8 #[v1, v2, .int .i64 i] w fun e w' => e = .returned (.int .i64 (corr xs ys i)) ∧ Below w.heap.size w w' := b_drew (implCorr_c w i h1 h2 hi)
theorem specCorr_t (h1 : Rd C w v1 xs) (h2 : Rd D w v2 ys) (_ : C ≤ w.heap.size) (_ : D ≤ w.heap.size) (hi : InI i) :
    Calls Try.prog 28 #[v1, v2, .int .i64 i] w fun e w' => e = .returned (.int .i64 (corr xs ys i)) ∧ Below w.heap.size w w' := b_drew (specCorr_c w i h1 h2 hi)
theorem implFind_t (h1 : Rd C w v1 xs) (h2 : Rd D w v2 ys) (_ : C ≤ w.heap.size) (_ : D ≤ w.heap.size) :
    Calls Try.prog 10 #[v1, v2] w fun e w' => e = .returned (.int .i64 (fp xs ys)) ∧ Below w.heap.size w w' := b_drew (implFind_c w h1 h2)
theorem specFind_t (h1 : Rd C w v1 xs) (h2 : Rd D w v2 ys) (_ : C ≤ w.heap.size) (_ : D ≤ w.heap.size) :
    Calls Try.prog 11 #[v1, v2] w fun e w' => e = .returned (.int .i64 (fp xs ys)) ∧ Below w.heap.size w w' := b_drew (specFind_c w h1 h2)
theorem implSeq_t (h : Rd C w v xs) (_ : C ≤ w.heap.size) :
    Calls Try.prog 7 #[v] w fun e w' => e = .returned (.bool (seqOk xs)) ∧ Below w.heap.size w w' := b_same (implSeq_c w h)
theorem specSeq_t (h : Rd C w v xs) (_ : C ≤ w.heap.size) :
    Calls Try.prog 27 #[v] w fun e w' => e = .returned (.bool (seqOk xs)) ∧ Below w.heap.size w w' := b_same (specSeq_c w h)
end

end Go.Proofs.Ytokgonhfmidbeaa
