/-
  The contracts of the filters in the form in which the laws use them.
-/
import Derived.Test.YtebbljgmliikfaaFilt
import Derived.Test.YtebbljgmliikfaaFind
import Derived.Test.YtebbljgmliikfaaRate
import Derived.Test.YtebbljgmliikfaaUndo
namespace Go.Proofs.Ytebbljgmliikfaa
open Go.RowKit

section
variable {C D : Nat} {v v1 v2 : Value} {xs ys : List Int} {i n p : Int} (w : World)
def InI (i : Int) : Prop := -9223372036854775808 ≤ i ∧ i ≤ 9223372036854775807
theorem implCorr_t (h1 : Rd C w v1 xs) (h2 : Rd D w v2 ys) (_ : C ≤ w.heap.size) (_ : D ≤ w.heap.size) (hi : InI i) :
    Calls Try.prog 22 #[v1, v2, .int .i64 i] w fun e w' => e = .returned (.int .i64 (corr xs ys i)) ∧ Below w.heap.size w w' := b_drew (implCorr_c w i h1 h2 hi)
theorem specCorr_t (h1 : Rd C w v1 xs) (h2 : Rd D w v2 ys) (_ : C ≤ w.heap.size) (_ : D ≤ w.heap.size) (hi : InI i) :
    Calls Try.prog 23 #[v1, v2, .int .i64 i] w fun e w' => e = .returned (.int .i64 (corr xs ys i)) ∧ Below w.heap.size w w' := b_drew (specCorr_c w i h1 h2 hi)
theorem implFind_t (h1 : Rd C w v1 xs) (h2 : Rd D w v2 ys) (_ : C ≤ w.heap.size) (_ : D ≤ w.heap.size) :
    Calls Try.prog 28 #[v1, v2] w fun e w' => e = .returned (.int .i64 (fp xs ys)) ∧ Below w.heap.size w w' := b_drew (implFind_c w h1 h2)
theorem specFind_t (h1 : Rd C w v1 xs) (h2 : Rd D w v2 ys) (_ : C ≤ w.heap.size) (_ : D ≤ w.heap.size) :
    Calls Try.prog 29 #[v1, v2] w fun e w' => e = .returned (.int .i64 (fp xs ys)) ∧ Below w.heap.size w w' := b_drew (specFind_c w h1 h2)
theorem implSeq_t (h : Rd C w v xs) (_ : C ≤ w.heap.size) :
    Calls Try.prog 16 #[v] w fun e w' => e = .returned (.bool (seqOk xs)) ∧ Below w.heap.size w w' := b_same (implSeq_c w h)
theorem specSeq_t (h : Rd C w v xs) (_ : C ≤ w.heap.size) :
    Calls Try.prog 35 #[v] w fun e w' => e = .returned (.bool (seqOk xs)) ∧ Below w.heap.size w w' := b_same (specSeq_c w h)
theorem implRaise_t (h1 : Rd C w v xs) (hC : C ≤ w.heap.size) (hn : InI n) :
    Calls Try.prog 25 #[v, .int .i64 n] w fun e w' => ∃ v', e = .returned v' ∧ Own w.heap.size w'.heap.size w' v' (raise xs n) ∧ Below w.heap.size w w' := implRaise_c w n h1 hC hn
theorem implLower_t (h1 : Rd C w v xs) (hC : C ≤ w.heap.size) (hn : InI n) (hp : InI p) :
    Calls Try.prog 19 #[v, .int .i64 n, .int .i64 p] w fun e w' => ∃ v', e = .returned v' ∧ Own w.heap.size w'.heap.size w' v' (lower xs n p) ∧ Below w.heap.size w w' := implLower_c w n p h1 hC hn hp
theorem specRaise_t (h1 : Rd C w v xs) (hC : C ≤ w.heap.size) (hn : InI n) :
    Calls Try.prog 26 #[v, .int .i64 n] w fun e w' => ∃ v', e = .returned v' ∧ Own w.heap.size w'.heap.size w' v' (raise xs n) ∧ Below w.heap.size w w' := specRaise_c w n h1 hC hn
theorem specLower_t (h1 : Rd C w v xs) (hC : C ≤ w.heap.size) (hn : InI n) (hp : InI p) :
    Calls Try.prog 20 #[v, .int .i64 n, .int .i64 p] w fun e w' => ∃ v', e = .returned v' ∧ Own w.heap.size w'.heap.size w' v' (lower xs n p) ∧ Below w.heap.size w w' := specLower_c w n p h1 hC hn hp
end

end Go.Proofs.Ytebbljgmliikfaa
