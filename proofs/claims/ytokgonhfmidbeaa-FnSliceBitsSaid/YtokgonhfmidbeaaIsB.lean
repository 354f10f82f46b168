/-
  isBits: whether all elements are 0 or 1, and there are at most 1024 of them.
-/
import Derived.Test.YtokgonhfmidbeaaBits
namespace Go.Proofs.Ytokgonhfmidbeaa
open Go.RowKit

theorem not_bit {xs : List Int} {k : Nat} {x : Int} (h : xs.getD k 0 = x) (h0 : x ≠ 0) (h1 : x ≠ 1) : bitsOk xs = false := by
  cases hb : bitsOk xs with
  | false => rfl
  | true => have := bitsOk_at hb k; omega
theorem all_bits {xs : List Int} {n : Nat} (hn : xs.length = n) (h : ∀ j, j < n → xs.getD j 0 = 0 ∨ xs.getD j 0 = 1) : bitsOk xs = decide ((n : Int) ≤ 1024) := by
  have hm : ∀ x ∈ xs, 0 ≤ x ∧ x ≤ 1 := fun x hx => by
    obtain ⟨i, hi, rfl⟩ := List.mem_iff_getElem.1 hx
    have := h i (by omega)
    rw [List.getD_eq_getElem?_getD, List.getElem?_eq_getElem hi] at this
    simp at this
    omega
  by_cases hl : n ≤ 1024
  · rw [decide_eq_true (by omega)]
    exact bitsOk_iff.2 ⟨hm, by omega⟩
  · rw [decide_eq_false (by omega)]
    cases hb : bitsOk xs with
    | false => rfl
    | true => exact absurd (bitsOk_len hb) (by omega)
set_option maxHeartbeats 1000000 in
theorem isBits_c {C : Nat} {v : Value} {xs : List Int} (w : World) (h : Rd C w v xs) :
    Calls Try.prog 20 #[v] w fun e w' => e = .returned (.bool (bitsOk xs)) ∧ w = w' := by
  have hm := h.sm
  obtain ⟨A, n, c, rfl, h1⟩ := h
  have l1 := hid h1.len
  rw [h1.len] at hm
  go_enter Try.func20, Try.ntmps20
  go_wp2_with fail
  go_loopw [3] (fun i wr => ∃ k : Nat, k ≤ n ∧ i = .int .i64 k ∧ Hid (∀ j, j < k → xs.getD j 0 = 0 ∨ xs.getD j 0 = 1) ∧ w = wr) (fun i _ => n - (intOf i).toNat)
  case atStart => exact ⟨0, Nat.zero_le _, rfl, fun j hj => absurd hj (by omega), rfl⟩
  case round =>
    obtain ⟨k, hk, rfl, hb, rfl⟩ := hrel
    by_cases hlt : k < n
    · obtain ⟨b, off, x, rfl, _, c1, hx⟩ := h1.at_ hlt
      have i1 : (k : Int) < (n : Int) := by omega
      by_cases hx01 : x = 0 ∨ x = 1
      · have hb2 : Hid (∀ j, j < k + 1 → xs.getD j 0 = 0 ∨ xs.getD j 0 = 1) := fun j hj => by
          by_cases e : j = k
          · rw [e, hx.out]; exact hx01
          · exact hb.out j (by omega)
        clear hb h1 hx
        rcases hx01 with rfl | rfl
        all_goals
          go_wp2
          go_roundw
          case rel => exact ⟨k + 1, by omega, by go_num, hb2, trivial⟩
          case measure => simp [intOf]; omega
      · have HB := hid (not_bit hx.out (fun e => hx01 (.inl e)) (fun e => hx01 (.inr e)))
        have n0 : (x != 0) = true := by simpa using fun e => hx01 (.inl e)
        have n1 : (x != 1) = true := by simpa using fun e => hx01 (.inr e)
        clear hb h1 hx hx01
        go_wp2
        go_ret
        exact ⟨ret_bool HB.out.symm, rfl⟩
    · obtain rfl : k = n := by omega
      have HB := hid (all_bits l1.out hb.out)
      go_wp2
      go_ret
      exact ⟨ret_bool HB.out.symm, rfl⟩

end Go.Proofs.Ytokgonhfmidbeaa
