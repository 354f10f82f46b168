/-
  What the functions on sequences return: whether a sequence is valid; the products' sum at an index.
-/
import Derived.Test.YtokgonhfmidbeaaBits
namespace Go.Proofs.Ytokgonhfmidbeaa
open Go.RowKit

/-! ### seqOk: at most 64 numbers in -1000..1000 -/
def seqOk (xs : List Int) : Bool := inAll xs (-1000) 1000 && decide (xs.length ≤ 64)
theorem seqOk_iff {xs : List Int} : seqOk xs = true ↔ (∀ x ∈ xs, -1000 ≤ x ∧ x ≤ 1000) ∧ xs.length ≤ 64 := by
  simp [seqOk, inAll, inB]
theorem seqOk_at {xs : List Int} (h : seqOk xs = true) (k : Nat) : -1000 ≤ xs.getD k 0 ∧ xs.getD k 0 ≤ 1000 := by
  by_cases hk : k < xs.length
  · exact (seqOk_iff.1 h).1 _ (mem_getD hk)
  · simp [List.getD, List.getElem?_eq_none (by omega : xs.length ≤ k)]
theorem seqOk_len {xs : List Int} (h : seqOk xs = true) : xs.length ≤ 64 := (seqOk_iff.1 h).2

set_option maxHeartbeats 400000 in
theorem specSeq_c {C : Nat} {v : Value} {xs : List Int} (w : World) (h : Rd C w v xs) :
    Calls Try.prog 27 #[v] w fun e w' => e = .returned (.bool (seqOk xs)) ∧ w = w' := by
  obtain ⟨A, n, c, rfl, h⟩ := h
  have hlen := hid h.len
  have hm := h.sm
  go_enter Try.func27, Try.ntmps27
  go_wp2
  go_loop [3] (fun i => ∃ k : Nat, k ≤ n ∧ i = .int .i64 k ∧ Hid (∀ j, j < k → inB (xs.getD j 0) (-1000) 1000 = true)) (fun i => n - (intOf i).toNat)
  case atStart => exact ⟨0, Nat.zero_le _, rfl, fun j hj => absurd hj (by omega)⟩
  case round =>
    obtain ⟨k, hk, rfl, hall⟩ := hrel
    by_cases hlt : k < n
    · obtain ⟨b, off, x, rfl, _, c1, hx⟩ := h.at_ hlt
      by_cases hb : inB x (-1000) 1000 = true
      · go_wp2_with (go_at_call 38; refine (l1In_c _ _ _ _).mono ?_; rintro e w' ⟨rfl, rfl⟩)
        go_round
        case rel =>
          refine ⟨k + 1, by omega, by go_num, fun j hj => ?_⟩
          by_cases h : j < k
          · exact hall.out j h
          · obtain rfl : j = k := by omega
            rw [hx.out]; exact hb
        case measure => simp [intOf]; omega
      · have hb' : inB x (-1000) 1000 = false := by simpa using hb
        clear hb
        go_wp2_with (go_at_call 38; refine (l1In_c _ _ _ _).mono ?_; rintro e w' ⟨rfl, rfl⟩)
        go_ret
        refine ⟨ret_bool ?_, rfl⟩
        have := inAll_no (lo := -1000) (hi := 1000) (xs := xs) (j := k) (by have := hlen.out; omega) (by rw [hx.out]; exact hb')
        simp [seqOk, this]
    · obtain rfl : k = n := by omega
      have H : Hid (seqOk xs = decide (k ≤ 64)) := by
        have := inAll_yes (lo := -1000) (hi := 1000) (xs := xs) (fun j hj => hall.out j (by have := hlen.out; omega))
        show _ = _
        rw [seqOk, this, hlen.out, Bool.true_and]
      go_wp2
      go_ret
      exact ⟨ret_bool (by rw [H.out]; exact decide_eq_decide.2 (by omega)), rfl⟩

set_option maxHeartbeats 400000 in
theorem within_c {C : Nat} {v : Value} {xs : List Int} (w : World) (h : Rd C w v xs) :
    Calls Try.prog 24 #[v, .int .i64 64, .int .i64 1000] w fun e w' => e = .returned (.bool (seqOk xs)) ∧ w = w' := by
  obtain ⟨A, n, c, rfl, h⟩ := h
  have hlen := hid h.len
  have hm := h.sm
  by_cases h64 : n ≤ 64
  · go_enter Try.func24, Try.ntmps24
    go_wp2
    go_loop [8, 15] (fun _ i => ∃ k : Nat, k ≤ n ∧ i = .int .i64 k ∧ Hid (∀ j, j < k → inB (xs.getD j 0) (-1000) 1000 = true)) (fun _ i => n - (intOf i).toNat)
    case atStart => exact ⟨0, Nat.zero_le _, rfl, fun j hj => absurd hj (by omega)⟩
    case round =>
      obtain ⟨k, hk, rfl, hall⟩ := hrel
      by_cases hlt : k < n
      · obtain ⟨b, off, x, rfl, _, c1, hx⟩ := h.at_ hlt
        by_cases hb : -1000 ≤ x
        · by_cases hb2 : x ≤ 1000
          · go_wp2
            go_round
            case rel =>
              refine ⟨k + 1, by omega, by go_num, fun j hj => ?_⟩
              by_cases h : j < k
              · exact hall.out j h
              · obtain rfl : j = k := by omega
                rw [hx.out]; exact inB_yes hb hb2
            case measure => simp [intOf]; omega
          · go_wp2
            go_ret
            refine ⟨ret_bool ?_, rfl⟩
            have := inAll_no (lo := -1000) (hi := 1000) (xs := xs) (j := k) (by have := hlen.out; omega) (by rw [hx.out]; exact inB_hi (by omega))
            simp [seqOk, this]
        · go_wp2
          go_ret
          refine ⟨ret_bool ?_, rfl⟩
          have := inAll_no (lo := -1000) (hi := 1000) (xs := xs) (j := k) (by have := hlen.out; omega) (by rw [hx.out]; exact inB_lo (by omega))
          simp [seqOk, this]
      · obtain rfl : k = n := by omega
        go_wp2
        go_ret
        refine ⟨ret_bool ?_, rfl⟩
        have := inAll_yes (lo := -1000) (hi := 1000) (xs := xs) (fun j hj => hall.out j (by have := hlen.out; omega))
        rw [seqOk, this, hlen.out]
        simp [h64]
  · go_enter Try.func24, Try.ntmps24
    go_wp2
    go_ret
    refine ⟨ret_bool ?_, rfl⟩
    rw [seqOk, hlen.out]
    simp [h64]

set_option maxHeartbeats 400000 in
theorem implSeq_c {C : Nat} {v : Value} {xs : List Int} (w : World) (h : Rd C w v xs) :
    Calls Try.prog 7 #[v] w fun e w' => e = .returned (.bool (seqOk xs)) ∧ w = w' := by
  go_enter Try.func7, Try.ntmps7
  go_wp2_with (go_at_call 24; refine (within_c _ h).mono ?_; rintro e w' ⟨rfl, rfl⟩)
  go_ret
  exact ⟨rfl, rfl⟩

end Go.Proofs.Ytokgonhfmidbeaa
