/-
  What the laws on streams say, in plain words: distances of codes by the cost of a way.
-/
import Derived.Test.YtnlacmbmmlmpjaaDoorStream
namespace Go.Proofs.YtnlacmbmmlmpjaaDoor
open Go.RowKit T

def gx (ys : List Int) : Nat → Int := fun i => ys.getD i 0
theorem encS_length {xs : List Int} (h : sOk xs = true) : (encS xs).length = 2 * (xs.length + 2) := by rw [encS_yes h, rg_length]
theorem encS_getD {xs : List Int} (h : sOk xs = true) {i : Nat} (hi : i < 2 * (xs.length + 2)) : (encS xs).getD i 0 = cdf (way xs) i := by rw [encS_yes h, rg_getD hi]
theorem sOk_iff {xs : List Int} : sOk xs = true ↔ bitsOk xs = true ∧ xs.length ≤ 40 := by simp [sOk]
theorem sOk_bits {xs : List Int} (h : sOk xs = true) : T.Bits xs := bits_of (sOk_iff.1 h).1
theorem bitsOk_mk {xs : List Int} (h : T.Bits xs) (hl : xs.length ≤ 1024) : bitsOk xs = true := bitsOk_iff.2 ⟨fun x hx => by have := h x hx; omega, hl⟩
theorem sOk_mk {xs : List Int} (h : T.Bits xs) (hl : xs.length ≤ 40) : sOk xs = true := sOk_iff.2 ⟨bitsOk_mk h (by omega), hl⟩
theorem encS_bits {xs : List Int} (h : sOk xs = true) : bitsOk (encS xs) = true := by
  refine bitsOk_mk (fun b hb => ?_) (by rw [encS_length h]; have := (sOk_iff.1 h).2; omega)
  rw [encS_yes h] at hb
  obtain ⟨k, hk, rfl⟩ := List.getElem_of_mem hb
  simp only [rg, List.getElem_map, List.getElem_range]
  exact cdf_bit _ _
/-- places in which a list that is p's code differs from ys -/
theorem hdTo_cost {L ys : List Int} : ∀ (p : List Int), (∀ i, i < 2 * p.length → L.getD i 0 = cdf p i) → hdTo L ys (2 * p.length) = cost (gx ys) p
  | [], _ => rfl
  | b :: r, h => by
    have h1 := h (2 * r.length) (by simp only [List.length_cons]; omega)
    have h2 := h (2 * r.length + 1) (by simp only [List.length_cons]; omega)
    rw [cdf_1] at h1
    rw [cdf_2] at h2
    have ih := hdTo_cost (ys := ys) r fun i hi => by
      rw [h i (by simp only [List.length_cons]; omega), cdf_lt hi]
    show hdTo L ys (2 * r.length + 1 + 1) = _
    simp only [hdTo, ih, cost, h1, h2]
    rfl
theorem hd_code {xs ys : List Int} (h : sOk xs = true) (hy : bitsOk ys = true) (hl : ys.length = 2 * (xs.length + 2)) : hd (encS xs) ys = cost (gx ys) (way xs) := by
  have ht : twinOk (encS xs) ys = true := by
    unfold twinOk
    rw [encS_bits h, hy, encS_length h, hl]; simp
  rw [hd, if_pos ht, encS_length h, ← way_length]
  exact hdTo_cost _ fun i hi => encS_getD h (by rw [way_length] at hi; exact hi)
theorem hd_comm (xs ys : List Int) : hd xs ys = hd ys xs := by
  have key : ∀ k, hdTo xs ys k = hdTo ys xs k := fun k => by
    induction k with
    | zero => rfl
    | succ k ih =>
      simp only [hdTo, ih]
      by_cases h : xs.getD k 0 = ys.getD k 0
      · rw [if_pos h, if_pos h.symm]
      · rw [if_neg h, if_neg (Ne.symm h)]
  have kt : twinOk xs ys = twinOk ys xs := by
    rw [Bool.eq_iff_iff]
    unfold twinOk
    simp only [Bool.and_eq_true, decide_eq_true_eq]
    constructor <;> rintro ⟨⟨a, b⟩, c⟩ <;> exact ⟨⟨b, a⟩, c.symm⟩
  unfold hd
  by_cases h : twinOk xs ys = true
  · have hl : xs.length = ys.length := by
      unfold twinOk at h
      simp only [Bool.and_eq_true, decide_eq_true_eq] at h
      exact h.2
    rw [if_pos h, if_pos (kt ▸ h), key, hl]
  · rw [if_neg h, if_neg (kt ▸ h)]
theorem gx_enc {xs : List Int} (h : sOk xs = true) (p : List Int) (hp : p.length ≤ xs.length + 2) : cost (gx (encS xs)) p = cost (cdf (way xs)) p :=
  cost_congr fun i hi => encS_getD h (by omega)
/-- codes of different lists of equal length -/
theorem code_far {xs ys : List Int} (h : sOk xs = true) (k : sOk ys = true) (hl : xs.length = ys.length) (hne : xs ≠ ys) : 5 ≤ hd (encS xs) (encS ys) := by
  rw [hd_code h (encS_bits k) (by rw [encS_length k, hl]), gx_enc k _ (by rw [way_length, hl]; exact Nat.le_refl _)]
  exact far_codes hl (sOk_bits h) (sOk_bits k) hne

end Go.Proofs.YtnlacmbmmlmpjaaDoor
