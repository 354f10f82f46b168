/-
  Codes of streams with a few bits inverted: what the decoder makes of them. Plain facts.
-/
import Derived.Test.YtnlacmbmmlmpjaaDoorDecSt
namespace Go.Proofs.YtnlacmbmmlmpjaaDoor
open Go.RowKit T

theorem cost_one {y z : Nat → Int} {i : Nat} (h : ∀ k, k ≠ i → z k = y k) : ∀ p : List Int, T.cost z p ≤ T.cost y p + 1
  | [] => by simp [T.cost]
  | b :: r => by
    have ih := cost_one h r
    simp only [T.cost]
    have d1 := dx_in (o1 b (sA r) (sC r)) (z (2 * r.length))
    have d2 := dx_in (o2 b (sC r)) (z (2 * r.length + 1))
    have d3 := dx_in (o1 b (sA r) (sC r)) (y (2 * r.length))
    have d4 := dx_in (o2 b (sC r)) (y (2 * r.length + 1))
    by_cases h1 : i < 2 * r.length
    · rw [h (2 * r.length) (by omega), h (2 * r.length + 1) (by omega)]; omega
    · have e : T.cost z r = T.cost y r := cost_congr fun k hk => h k (by omega)
      rw [e]
      by_cases h2 : i = 2 * r.length
      · rw [h (2 * r.length + 1) (by omega)]; omega
      · rw [h (2 * r.length) (by omega)]; omega
theorem gx_set {zs : List Int} {i : Nat} {v : Int} {k : Nat} (h : k ≠ i) : gx (zs.set i v) k = gx zs k := by
  unfold gx
  simp [List.getD_eq_getElem?_getD, List.getElem?_set_ne (Ne.symm h)]
theorem flip_cost (zs : List Int) (i : Nat) (v : Int) (p : List Int) : T.cost (gx (zs.set i v)) p ≤ T.cost (gx zs) p + 1 := cost_one (fun _ hk => gx_set hk) p
theorem flip_back (zs : List Int) (i : Nat) (v : Int) (p : List Int) : T.cost (gx zs) p ≤ T.cost (gx (zs.set i v)) p + 1 := cost_one (fun _ hk => (gx_set hk).symm) p
theorem set_bits {zs : List Int} {i : Nat} {v : Int} (h : bitsOk zs = true) (hv : 0 ≤ v ∧ v ≤ 1) : bitsOk (zs.set i v) = true := by
  obtain ⟨h1, h2⟩ := bitsOk_iff.1 h
  refine bitsOk_iff.2 ⟨fun x hx => ?_, by simpa using h2⟩
  rcases List.mem_or_eq_of_mem_set hx with hx | rfl
  · exact h1 x hx
  · exact hv
theorem enc_cost {xs : List Int} (h : sOk xs = true) : T.cost (gx (encS xs)) (way xs) = 0 :=
  cost_zero.2 fun i hi => encS_getD h (by rw [way_length] at hi; exact hi)
theorem lOk_mk {ys : List Int} {n : Nat} (h : bitsOk ys = true) (hl : ys.length = 2 * (n + 2)) (hn : n ≤ 40) : lOk ys = true := lOk_iff.2 ⟨h, by omega, by omega, by omega⟩
/-- a list with a code that is near is decoded to the code's bits -/
theorem dec_near {xs ys : List Int} (h : sOk xs = true) (hy : bitsOk ys = true) (hl : ys.length = 2 * (xs.length + 2)) (hc : T.cost (gx ys) (way xs) ≤ 2) : decS ys = xs := by
  rw [decS_yes (lOk_mk hy hl (sOk_iff.1 h).2) hl]
  exact bst_two (sOk_bits h) hc
theorem dec_enc {xs : List Int} (h : sOk xs = true) : decS (encS xs) = xs := dec_near h (encS_bits h) (encS_length h) (by rw [enc_cost h]; decide)
theorem err_enc {xs : List Int} (h : sOk xs = true) : errS (encS xs) = 0 := by
  rw [errS_yes (lOk_mk (encS_bits h) (encS_length h) (sOk_iff.1 h).2) (encS_length h), bst_two (sOk_bits h) (by rw [enc_cost h]; decide), enc_cost h]
theorem flip_bit {zs : List Int} (h : bitsOk zs = true) (i : Nat) : 0 ≤ 1 - zs.getD i 0 ∧ 1 - zs.getD i 0 ≤ 1 := by
  have := bitsOk_at h i; omega
/-- one and two inverted bits -/
theorem dec_one {xs : List Int} (h : sOk xs = true) (i : Nat) : decS ((encS xs).set i (1 - (encS xs).getD i 0)) = xs := by
  refine dec_near h (set_bits (encS_bits h) (flip_bit (encS_bits h) i)) (by rw [List.length_set, encS_length h]) ?_
  have := flip_cost (encS xs) i (1 - (encS xs).getD i 0) (way xs)
  rw [enc_cost h] at this
  omega
theorem dec_two {xs : List Int} (h : sOk xs = true) (i j : Nat) (u v : Int) (hu : 0 ≤ u ∧ u ≤ 1) (hv : 0 ≤ v ∧ v ≤ 1) : decS (((encS xs).set i u).set j v) = xs := by
  refine dec_near h (set_bits (set_bits (encS_bits h) hu) hv) (by rw [List.length_set, List.length_set, encS_length h]) ?_
  have h1 := flip_cost (encS xs) i u (way xs)
  have h2 := flip_cost ((encS xs).set i u) j v (way xs)
  rw [enc_cost h] at h1
  omega

end Go.Proofs.YtnlacmbmmlmpjaaDoor
