/-
  An argument that is a slice of samples, opened: every number of every sample lies in its cell.
-/
import Derived.Test.YtmlgfiblfmfnbaaSig
import Derived.Deep.SlicePairs
namespace Go.Proofs.Ytmlgfiblfmfnbaa
open Go.RowKit Go.Deep Go.ChangeShapes Go.WideShapes

theorem cells54 : Try.prog.cellsOf 54 = 2 := by kernel_rfl
theorem cells3 : Try.prog.cellsOf 3 = 1 := by kernel_rfl
theorem open_samples {H : Type} {enc : TypeId × Value → H} {w : World} {base : Nat} {spare : Nat → Bool} {held : Bool} {fuel : Nat} {a : Option Addr} {len cap : Nat} {x : DataW H × List MemPlace}
    (h : DataW.trod enc Try.prog w base spare held fuel 22 [.slice a len cap] = some x) : ∃ z, IsRowM w a len cap z := by
  rcases open_slice_pairs Try.underlying22 Try.underlying54 cells54 rfl rfl cells3 cells3 h with ⟨hcs, _⟩ | ⟨b, l, c, m, n, V0, V1, D0, D1, P0, P1, hcs, _, hl, hm, hmm, _, hx⟩
  · simp at hcs
    obtain ⟨rfl, rfl, rfl⟩ := hcs
    exact ⟨[], .inl ⟨rfl, rfl, rfl, rfl⟩⟩
  · simp at hcs
    obtain ⟨rfl, rfl, rfl⟩ := hcs
    have hlm : len ≤ m := by rw [hmm]; split <;> omega
    have each : ∀ i, i < len → ∃ q : Int × Int, w.cell? (b.add (i * 2)) = some (.int .i64 q.1) ∧ w.cell? (b.add (i * 2 + 1)) = some (.int .i64 q.2) := by
      intro i hi
      obtain ⟨h1, h2, h3, h4⟩ := hx i (by omega)
      obtain ⟨x, e1, _⟩ := DataW.trod_int Try.underlying3 h3
      obtain ⟨y, e2, _⟩ := DataW.trod_int Try.underlying3 h4
      simp at e1 e2
      exact ⟨(x, y), by rw [h1, e1], by rw [h2, e2]⟩
    obtain ⟨q, hq⟩ := choose_lt each
    refine ⟨rg (len * 2) fun i => if i % 2 = 0 then (q (i / 2)).1 else (q (i / 2)).2, .inr ⟨_, rfl, hl, hm, rg_length _ _, fun i hi => ?_⟩⟩
    rw [rg_getD hi]
    have h1 := hq (i / 2) (by omega)
    by_cases h : i % 2 = 0
    · rw [if_pos h]
      have e : i / 2 * 2 = i := by omega
      have := h1.1
      rwa [e] at this
    · rw [if_neg h]
      have e : i / 2 * 2 + 1 = i := by omega
      have := h1.2
      rwa [e] at this

end Go.Proofs.Ytmlgfiblfmfnbaa
