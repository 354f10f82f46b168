/-
  Plain facts on undoing a filter, for the laws.
-/
import Derived.Test.YtokgonhfmidbeaaConv
import Derived.Test.YtokgonhfmidbeaaDrawUndo
namespace Go.Proofs.Ytokgonhfmidbeaa
open Go.RowKit

theorem undS_sum (xs fs out : List Int) (k j : Nat) : undS xs fs out k j = xs.getD k 0 - sm j fun i => fs.getD (i + 1) 0 * out.getD (k - (i + 1)) 0 := by
  induction j with
  | zero => simp [undS, sm]
  | succ j ih => simp only [undS, sm, ih]; omega
theorem undN_sum (xs fs out : List Int) (k : Nat) : undN xs fs out k = xs.getD k 0 - sm k fun i => fs.getD (i + 1) 0 * out.getD (k - (i + 1)) 0 := by
  unfold undN
  rw [undS_sum]
  congr 1
  by_cases h : fs.length - 1 ≤ k
  · rw [Nat.min_eq_left h]
    refine (sm_more h fun i h1 h2 => ?_).symm
    rw [getD_out (by omega)]; simp
  · rw [Nat.min_eq_right (by omega)]
theorem cv_first (fs o : List Int) (k : Nat) : cv (fun i => fs.getD i 0) (fun i => o.getD i 0) k = fs.getD 0 0 * o.getD k 0 + sm k fun i => fs.getD (i + 1) 0 * o.getD (k - (i + 1)) 0 := by
  unfold cv
  rw [sm_front]
  rfl
theorem undoTo_eq {xs fs : List Int} {n : Nat} : ∀ {o : List Int}, undoTo xs fs n = some o → ∀ k, k < n → o.getD k 0 = xs.getD k 0 - sm k fun i => fs.getD (i + 1) 0 * o.getD (k - (i + 1)) 0 := by
  induction n with
  | zero => intro o _ k hk; omega
  | succ n ih =>
    intro o h k hk
    simp only [undoTo, Option.bind_eq_some_iff] at h
    obtain ⟨p, hp, h⟩ := h
    have hl := (undoTo_ok hp).1
    split at h
    · simp only [Option.some.injEq] at h
      subst h
      have hsum : ∀ j, j ≤ n → (sm j fun i => fs.getD (i + 1) 0 * (p ++ [undN xs fs p n]).getD (j - (i + 1)) 0) = sm j fun i => fs.getD (i + 1) 0 * p.getD (j - (i + 1)) 0 := by
        intro j hj
        apply sm_congr
        intro i hi
        rw [getD_snoc, hl, if_pos (by omega)]
      rw [hsum k (by omega), getD_snoc, hl]
      by_cases hkn : k < n
      · rw [if_pos hkn]; exact ih hp k hkn
      · obtain rfl : k = n := by omega
        rw [if_neg (by omega), if_pos rfl, undN_sum]
    · cases h
theorem seqOk_of {o : List Int} (h : ∀ i, -1000 ≤ o.getD i 0 ∧ o.getD i 0 ≤ 1000) (hl : o.length ≤ 64) : seqOk o = true := by
  refine seqOk_iff.2 ⟨fun x hx => ?_, hl⟩
  obtain ⟨j, hj, rfl⟩ := List.getElem_of_mem hx
  have := h j
  simpa [List.getD, hj] using this
theorem undoOk_iff {xs fs : List Int} : undoOk xs fs = true ↔ ((seqOk xs = true ∧ seqOk fs = true) ∧ fs.length ≠ 0) ∧ fs.getD 0 0 = 1 := by simp [undoOk]
/-- what undoing gives, filtered again, begins with the list -/
theorem undo_back {xs fs : List Int} (h : (undo xs fs).2 = true) (hn : xs.length ≠ 0) :
    (undo xs fs).1.length = xs.length ∧ xs.length ≤ (filt (undo xs fs).1 fs).length ∧ (filt (undo xs fs).1 fs).take xs.length = xs := by
  cases hok : undoOk xs fs with
  | false => rw [undo_no hok] at h; cases h
  | true =>
    cases ho : undoTo xs fs xs.length with
    | none => rw [undo_none hok ho] at h; cases h
    | some o =>
      rw [undo_some hok ho]
      obtain ⟨⟨⟨s1, s2⟩, z2⟩, f0⟩ := undoOk_iff.1 hok
      obtain ⟨hl, hb⟩ := undoTo_ok ho
      have hf : filtOk o fs = true := filtOk_iff.2 ⟨⟨⟨seqOk_of hb (by have := seqOk_len s1; omega), s2⟩, by omega⟩, z2⟩
      have hlen := filtOk_len hf
      refine ⟨hl, by rw [hlen]; omega, ?_⟩
      apply list_ext_getD
      · rw [List.length_take, hlen]; omega
      · intro i hi
        rw [List.length_take, hlen] at hi
        have e : ((filt o fs).take xs.length).getD i 0 = (filt o fs).getD i 0 := by
          simp only [List.getD, List.getElem?_take]
          rw [if_pos (by omega)]
        rw [e, filt_yes hf, conv_getD, cv_comm, cv_first, f0, undoTo_eq ho i (by omega)]
        omega
theorem undo_fail {xs fs : List Int} (h : (undo xs fs).2 = false) : (undo xs fs).1 = [] := by
  cases hok : undoOk xs fs with
  | false => rw [undo_no hok]
  | true =>
    cases ho : undoTo xs fs xs.length with
    | none => rw [undo_none hok ho]
    | some o => rw [undo_some hok ho] at h; cases h
theorem undo_empty {fs : List Int} : (undo [] fs).1 = [] := by
  cases hok : undoOk [] fs with
  | false => rw [undo_no hok]
  | true => rw [undo_some hok (o := []) rfl]
/-- undoing returns what was filtered -/
theorem undo_exact {xs fs : List Int} (h : filtOk xs fs = true) (h0 : fs.getD 0 0 = 1) (hv : seqOk ((filt xs fs).take xs.length) = true) : undo ((filt xs fs).take xs.length) fs = (xs, true) := by
  obtain ⟨⟨⟨s1, s2⟩, z1⟩, z2⟩ := filtOk_iff.1 h
  have hlen := filtOk_len h
  have hok : undoOk ((filt xs fs).take xs.length) fs = true := undoOk_iff.2 ⟨⟨⟨hv, s2⟩, z2⟩, h0⟩
  have hl : ((filt xs fs).take xs.length).length = xs.length := by rw [List.length_take, hlen]; omega
  have hz : ∀ k, k < xs.length → ((filt xs fs).take xs.length).getD k 0 = xs.getD k 0 + sm k fun i => fs.getD (i + 1) 0 * xs.getD (k - (i + 1)) 0 := by
    intro k hk
    have e : ((filt xs fs).take xs.length).getD k 0 = (filt xs fs).getD k 0 := by
      simp only [List.getD, List.getElem?_take]
      rw [if_pos hk]
    rw [e, filt_yes h, conv_getD, cv_comm, cv_first, h0]
    omega
  have key : ∀ k, k ≤ xs.length → undoTo ((filt xs fs).take xs.length) fs k = some (xs.take k) := by
    intro k
    induction k with
    | zero => intro _; simp [undoTo]
    | succ k ih =>
      intro hk
      have hn : undN ((filt xs fs).take xs.length) fs (xs.take k) k = xs.getD k 0 := by
        rw [undN_sum, hz k (by omega)]
        have e : (sm k fun i => fs.getD (i + 1) 0 * (xs.take k).getD (k - (i + 1)) 0) = sm k fun i => fs.getD (i + 1) 0 * xs.getD (k - (i + 1)) 0 := by
          apply sm_congr
          intro i hi
          congr 1
          simp only [List.getD, List.getElem?_take]
          rw [if_pos (by omega)]
        rw [e]; omega
      have hb := seqOk_at s1 k
      rw [undoTo, ih (by omega), Option.bind_some, hn, if_pos (inB_yes hb.1 hb.2)]
      congr 1
      rw [List.take_add_one]
      congr 1
      simp [List.getD, List.getElem?_eq_getElem (show k < xs.length by omega)]
  rw [undo_some hok (o := xs)]
  have := key xs.length (Nat.le_refl _)
  rw [List.take_length] at this
  rw [hl]; exact this


end Go.Proofs.Ytokgonhfmidbeaa
