/-
  Interleaving is a permutation: deinterleaving undoes it; one row changes nothing; the number of ones stays.
-/
import Derived.Test.YtokgonhfmidbeaaDoorInter
import Derived.Test.YtokgonhfmidbeaaDoorSums
namespace Go.Proofs.YtokgonhfmidbeaaDoor
open Go.RowKit

theorem tab_parts {xs : List Int} {n : Int} (h : tabOk xs n = true) : ∃ r c : Nat, n = (r : Int) ∧ 1 ≤ r ∧ r ≤ 32 ∧ xs.length = r * c ∧ xs.length / r = c ∧ bitsOk xs = true := by
  simp only [tabOk, Bool.and_eq_true, decide_eq_true_eq] at h
  obtain ⟨⟨hb, hn⟩, hm⟩ := h
  have := inB_iff.1 hn
  obtain ⟨r, rfl⟩ := Int.eq_ofNat_of_zero_le (show 0 ≤ n by omega)
  exact ⟨r, xs.length / r, rfl, by omega, by omega, (tab_len hm).symm, rfl, hb⟩
theorem bitsOk_of {xs : List Int} (h : ∀ k, k < xs.length → xs.getD k 0 = 0 ∨ xs.getD k 0 = 1) (hl : xs.length ≤ 1024) : bitsOk xs = true := by
  refine bitsOk_iff.2 ⟨fun x hx => ?_, hl⟩
  obtain ⟨j, hj, rfl⟩ := List.getElem_of_mem hx
  have := h j hj
  rw [List.getD_eq_getElem?_getD, List.getElem?_eq_getElem hj] at this
  simp only [Option.getD_some] at this
  omega
theorem interN_length (xs : List Int) (r : Nat) : (interN xs r).length = xs.length := rg_length _ _
theorem deinterN_length (xs : List Int) (r : Nat) : (deinterN xs r).length = xs.length := rg_length _ _
theorem interN_bits {xs : List Int} (r : Nat) (h : bitsOk xs = true) : bitsOk (interN xs r) = true :=
  bitsOk_of (fun k hk => by
    rw [interN_length] at hk
    unfold interN
    rw [rg_getD hk]
    exact bitsOk_at h _) (by rw [interN_length]; exact bitsOk_len h)
theorem deinterN_bits {xs : List Int} (r : Nat) (h : bitsOk xs = true) : bitsOk (deinterN xs r) = true :=
  bitsOk_of (fun k hk => by
    rw [deinterN_length] at hk
    unfold deinterN
    rw [rg_getD hk]
    exact bitsOk_at h _) (by rw [deinterN_length]; exact bitsOk_len h)
theorem tabOk_of {xs : List Int} {r c : Nat} (hb : bitsOk xs = true) (h1 : 1 ≤ r) (h2 : r ≤ 32) (hl : xs.length = r * c) : tabOk xs (r : Int) = true := by
  simp only [tabOk, Bool.and_eq_true, decide_eq_true_eq]
  refine ⟨⟨hb, inB_yes (by omega) (by omega)⟩, ?_⟩
  rw [hl]
  have : ((r * c : Nat) : Int) % (r : Int) = ((r * c % r : Nat) : Int) := by simp
  rw [this, Nat.mul_mod_right]; rfl
/-- deinterleaving undoes interleaving -/
theorem deint_int {xs : List Int} {r c : Nat} (h1 : 1 ≤ r) (hl : xs.length = r * c) : deinterN (interN xs r) r = xs := by
  have hc : xs.length / r = c := by rw [hl]; exact Nat.mul_div_cancel_left c h1
  unfold deinterN
  rw [interN_length, hc]
  conv => rhs; rw [← rg_self xs]
  refine rg_congr fun k hk => ?_
  rw [hl] at hk
  rw [Nat.mul_comm] at hk
  have hlt : k % c * r + k / c < c * r := place_lt hk
  unfold interN
  rw [rg_getD (by rw [hl, Nat.mul_comm r c]; exact hlt), hc]
  rw [place_inv hk]
/-- interleaving undoes deinterleaving -/
theorem int_deint {xs : List Int} {r c : Nat} (h1 : 1 ≤ r) (hl : xs.length = r * c) : interN (deinterN xs r) r = xs := by
  have hc : xs.length / r = c := by rw [hl]; exact Nat.mul_div_cancel_left c h1
  unfold interN
  rw [deinterN_length, hc]
  conv => rhs; rw [← rg_self xs]
  refine rg_congr fun k hk => ?_
  rw [hl] at hk
  have hlt : k % r * c + k / r < r * c := place_lt hk
  unfold deinterN
  rw [rg_getD (by rw [hl]; exact hlt), hc]
  rw [place_inv hk]
/-- one row -/
theorem int_one (xs : List Int) : interN xs 1 = xs := by
  unfold interN
  conv => rhs; rw [← rg_self xs]
  refine rg_congr fun k hk => ?_
  rw [Nat.mod_one, Nat.zero_mul, Nat.zero_add, Nat.div_one]
/-- with as many rows as there were columns -/
theorem int_back {xs : List Int} {r c : Nat} (h1 : 1 ≤ r) (hc1 : 1 ≤ c) (hl : xs.length = r * c) : interN (interN xs r) c = xs := by
  have hc : xs.length / r = c := by rw [hl]; exact Nat.mul_div_cancel_left c h1
  have hr : xs.length / c = r := by rw [hl]; exact Nat.mul_div_cancel r hc1
  unfold interN
  rw [rg_length, hr, hc]
  conv => rhs; rw [← rg_self xs]
  refine rg_congr fun k hk => ?_
  rw [hl, Nat.mul_comm] at hk
  have hlt : k % c * r + k / c < c * r := place_lt hk
  rw [rg_getD (by rw [hl, Nat.mul_comm r c]; exact hlt), place_inv hk]
theorem inter_tab {xs : List Int} {n : Int} (h : tabOk xs n = true) : deinter (inter xs n) n = xs ∧ bitsOk xs = true ∧ inter xs 1 = xs := by
  obtain ⟨r, c, rfl, h1, h2, hl, _, hb⟩ := tab_parts h
  have hi : inter xs (r : Int) = interN xs r := inter_yes h
  have t1 : tabOk (interN xs r) (r : Int) = true := tabOk_of (c := c) (interN_bits r hb) h1 h2 (by rw [interN_length, hl])
  have t2 : tabOk xs 1 = true := tabOk_of (r := 1) (c := xs.length) hb (by omega) (by omega) (by omega)
  refine ⟨?_, hb, ?_⟩
  · rw [hi, deinter_yes t1]; exact deint_int h1 hl
  · rw [inter_yes t2]; exact int_one xs
theorem inter_cols {xs : List Int} {r c : Nat} (hb : bitsOk xs = true) (h1 : 1 ≤ r) (h2 : r ≤ 32) (hl : xs.length = r * c) (hc : 1 ≤ c) (hc2 : c ≤ 32) : inter (inter xs r) c = xs := by
  have hi : inter xs (r : Int) = interN xs r := inter_yes (tabOk_of hb h1 h2 hl)
  have t1 : tabOk (interN xs r) (c : Int) = true := tabOk_of (c := r) (interN_bits r hb) hc hc2 (by rw [interN_length, hl, Nat.mul_comm])
  rw [hi, inter_yes t1]; exact int_back h1 hc hl
theorem deinter_tab {xs : List Int} {n : Int} (h : tabOk xs n = true) : inter (deinter xs n) n = xs := by
  obtain ⟨r, c, rfl, h1, h2, hl, _, hb⟩ := tab_parts h
  have hi : deinter xs (r : Int) = deinterN xs r := deinter_yes h
  have t1 : tabOk (deinterN xs r) (r : Int) = true := tabOk_of (c := c) (deinterN_bits r hb) h1 h2 (by rw [deinterN_length, hl])
  rw [hi, inter_yes t1]; exact int_deint h1 hl

/-! ### the number of ones -/
theorem hd_zero {xs : List Int} (h : bitsOk xs = true) : hd xs (List.replicate xs.length 0) = sumN (fun k => if xs.getD k 0 = 0 then 0 else 1) xs.length := by
  have hz : bitsOk (List.replicate xs.length 0) = true := bitsOk_of (fun k hk => by simp at hk; simp [hk]) (by simpa using bitsOk_len h)
  have ht : twinOk xs (List.replicate xs.length 0) = true := by simp [twinOk, h, hz]
  unfold hd
  rw [if_pos ht]
  have key : ∀ k, hdTo xs (List.replicate xs.length 0) k = sumN (fun k => if xs.getD k 0 = 0 then 0 else 1) k := by
    intro k
    induction k with
    | zero => rfl
    | succ k ih =>
      simp only [hdTo, sumN, ih]
      have : (List.replicate xs.length (0 : Int)).getD k 0 = 0 := by
        by_cases h : k < xs.length
        · simp [h]
        · simp [List.getElem?_eq_none (show (List.replicate xs.length (0 : Int)).length ≤ k by simpa using h)]
      rw [this]
  exact key _
theorem hd_deinter {xs : List Int} {n : Int} (h : tabOk xs n = true) : hd (deinter xs n) (List.replicate xs.length 0) = hd xs (List.replicate xs.length 0) := by
  obtain ⟨r, c, rfl, h1, h2, hl, hc, hb⟩ := tab_parts h
  have hi : deinter xs (r : Int) = deinterN xs r := deinter_yes h
  rw [hi, hd_zero hb]
  have e := hd_zero (deinterN_bits r hb)
  rw [deinterN_length] at e
  rw [e]
  have e2 : sumN (fun k => if (deinterN xs r).getD k 0 = 0 then (0 : Int) else 1) xs.length = sumN (fun k => if xs.getD (k % c * r + k / c) 0 = 0 then 0 else 1) xs.length := by
    refine sumN_congr fun k hk => ?_
    unfold deinterN
    rw [rg_getD hk, hc]
  rw [e2, hl, sumN_table]
  conv => rhs; rw [Nat.mul_comm, sumN_table, sumN_swap]
  refine sumN_congr fun i hi => sumN_congr fun j hj => ?_
  have e1 : (i * c + j) % c = j := by rw [Nat.add_comm, Nat.add_mul_mod_self_right, Nat.mod_eq_of_lt hj]
  have e2 : (i * c + j) / c = i := by rw [Nat.add_comm, Nat.add_mul_div_right _ _ (by omega), Nat.div_eq_of_lt hj, Nat.zero_add]
  rw [e1, e2]
end Go.Proofs.YtokgonhfmidbeaaDoor
