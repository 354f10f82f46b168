/-
  The drawn input of the laws on UndoFilter: two lists of numbers in range.
-/
import Derived.Test.YtokgonhfmidbeaaDrawFilt
namespace Go.Proofs.Ytokgonhfmidbeaa
open Go.RowKit

def DrawUndoFilterd (w : World) (e : Ending) (w' : World) : Prop :=
  ∃ v o v2 o2, e = .returned (.tuple #[v, v2]) ∧ Own w.heap.size w'.heap.size w' v o ∧ (o.length ≤ 65 ∧ ∀ x ∈ o, (-1001 : Int) ≤ x ∧ x ≤ 1001) ∧ Own w.heap.size w'.heap.size w' v2 o2 ∧ (o2.length ≤ 65 ∧ ∀ x ∈ o2, (-1001 : Int) ≤ x ∧ x ≤ 1001) ∧ Below w.heap.size w w'

theorem tab3 {k : Nat} (h : k < 3) : -1001 ≤ ([0, 2, -1] : List Int).getD k 0 ∧ ([0, 2, -1] : List Int).getD k 0 ≤ 1001 := by
  match k, h with
  | 0, _ => decide
  | 1, _ => decide
  | 2, _ => decide
theorem set_in {o : List Int} {z c : Int} {k : Nat} (h : ∀ x ∈ o, -c ≤ x ∧ x ≤ c) (hz : -c ≤ z ∧ z ≤ c) : ∀ x ∈ o.set k z, -c ≤ x ∧ x ≤ c := by
  intro x hx
  rcases List.mem_or_eq_of_mem_set hx with hx | hx
  · exact h x hx
  · rw [hx]; exact hz


end Go.Proofs.Ytokgonhfmidbeaa
