/-
  UndoFilter, of the program and of the reference: number by number, what the filter added is taken away again; nothing where a number leaves the range.
-/
import Derived.Test.YtokgonhfmidbeaaFilt
namespace Go.Proofs.Ytokgonhfmidbeaa
open Go.RowKit

/-- number k of xs, less the first j products -/
def undS (xs fs out : List Int) (k : Nat) : Nat → Int
  | 0 => xs.getD k 0
  | j + 1 => undS xs fs out k j - fs.getD (j + 1) 0 * out.getD (k - (j + 1)) 0
def undN (xs fs out : List Int) (k : Nat) : Int := undS xs fs out k (min (fs.length - 1) k)
def undoTo (xs fs : List Int) : Nat → Option (List Int)
  | 0 => some []
  | k + 1 => (undoTo xs fs k).bind fun out => if inB (undN xs fs out k) (-1000) 1000 = true then some (out ++ [undN xs fs out k]) else none
def undoOk (xs fs : List Int) : Bool := seqOk xs && seqOk fs && !decide (fs.length = 0) && decide (fs.getD 0 0 = 1)
def undo (xs fs : List Int) : List Int × Bool :=
  if undoOk xs fs = true then (match undoTo xs fs xs.length with | some out => (out, true) | none => ([], false)) else ([], false)
theorem undo_no {xs fs : List Int} (h : undoOk xs fs = false) : undo xs fs = ([], false) := by simp [undo, h]
theorem undo_some {xs fs o : List Int} (h : undoOk xs fs = true) (ho : undoTo xs fs xs.length = some o) : undo xs fs = (o, true) := by simp [undo, h, ho]
theorem undo_none {xs fs : List Int} (h : undoOk xs fs = true) (ho : undoTo xs fs xs.length = none) : undo xs fs = ([], false) := by simp [undo, h, ho]
theorem undoTo_none {xs fs : List Int} {k : Nat} (h : undoTo xs fs k = none) : ∀ j, k ≤ j → undoTo xs fs j = none := by
  intro j hj
  induction j with
  | zero => obtain rfl : k = 0 := by omega
            exact h
  | succ j ih =>
    by_cases hk : k = j + 1
    · subst hk; exact h
    · simp only [undoTo, ih (by omega), Option.bind_none]
theorem getD_snoc (o : List Int) (y : Int) (i : Nat) : (o ++ [y]).getD i 0 = if i < o.length then o.getD i 0 else if i = o.length then y else 0 := by
  by_cases h : i < o.length
  · simp [List.getD, List.getElem?_append_left h, h]
  · rw [if_neg h]
    by_cases h2 : i = o.length
    · subst h2; simp [List.getD]
    · rw [if_neg h2]
      simp [List.getD, List.getElem?_eq_none (show (o ++ [y]).length ≤ i by simp; omega)]
theorem undoTo_ok {xs fs : List Int} {k : Nat} : ∀ {o : List Int}, undoTo xs fs k = some o → o.length = k ∧ ∀ i, -1000 ≤ o.getD i 0 ∧ o.getD i 0 ≤ 1000 := by
  induction k with
  | zero => intro o h; simp only [undoTo, Option.some.injEq] at h; subst h; simp
  | succ k ih =>
    intro o h
    simp only [undoTo, Option.bind_eq_some_iff] at h
    obtain ⟨p, hp, h⟩ := h
    obtain ⟨h1, h2⟩ := ih hp
    split at h
    · rename_i hin
      simp only [Option.some.injEq] at h
      subst h
      refine ⟨by simp [h1], fun i => ?_⟩
      rw [getD_snoc]
      split
      · exact h2 i
      · split
        · exact inB_iff.1 hin
        · omega
    · cases h
theorem undS_bound {xs fs o : List Int} (h1 : seqOk xs = true) (h2 : seqOk fs = true) (h3 : ∀ i, -1000 ≤ o.getD i 0 ∧ o.getD i 0 ≤ 1000) (k j : Nat) :
    -(1000 + 1000000 * (j : Int)) ≤ undS xs fs o k j ∧ undS xs fs o k j ≤ 1000 + 1000000 * (j : Int) := by
  induction j with
  | zero => have := seqOk_at h1 k; simp only [undS]; omega
  | succ j ih =>
    have := mul_bound (seqOk_at h2 (j + 1)) (h3 (k - (j + 1)))
    simp only [undS]
    omega



end Go.Proofs.Ytokgonhfmidbeaa
