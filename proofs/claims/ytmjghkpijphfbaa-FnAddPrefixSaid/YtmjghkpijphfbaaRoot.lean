/-
  The powers modulo 257 and the root of the transform; whether a list is one of 16 numbers in 0..256.
-/
import Derived.Test.YtmjghkpijphfbaaBits
import Derived.Test.YtmjghkpijphfbaaTransLaw
namespace Go.Proofs.Ytmjghkpijphfbaa
open Go.RowKit

set_option maxHeartbeats 400000 in
theorem specPower_c (a : Int) (n : Nat) (w : World) (h0 : 0 ≤ a) (h1 : a ≤ 256) (hn : n ≤ 1000) :
    Calls Try.prog 29 #[.int .i64 a, .int .i64 n] w fun e w' => e = .returned (.int .i64 (pw a n)) ∧ w = w' := by
  go_enter Try.func29, Try.ntmps29
  go_wp2
  go_loop [5, 6] (fun p i => ∃ k : Nat, k ≤ n ∧ i = .int .i64 k ∧ p = .int .i64 (pw a k)) (fun _ i => n - (intOf i).toNat)
  case atStart => exact ⟨0, Nat.zero_le _, rfl, rfl⟩
  case round =>
    obtain ⟨k, hk, rfl, rfl⟩ := hrel
    have hb := pw_in a k
    have hs := hid (show pw a (k + 1) = pw a k * a % 257 from rfl)
    generalize hP : pw a k = P at hb hs
    have HP := hid hP
    clear hP
    by_cases hlt : k < n
    · have hm : 0 ≤ P * a := Int.mul_nonneg hb.1 h0
      have hm2 : P * a ≤ 256 * 256 := Int.mul_le_mul hb.2 h1 h0 (by omega)
      go_wp2
      go_round
      case rel => exact ⟨k + 1, by omega, by go_num, by rw [hs.out]⟩
      case measure => simp [intOf]; omega
    · obtain rfl : k = n := by omega
      go_wp2
      go_ret
      exact ⟨ret_int HP.out.symm, rfl⟩

theorem pw_2_16 : pw 2 16 = 1 := by decide
theorem pw_2_8 : pw 2 8 = 256 := by decide

set_option maxHeartbeats 400000 in
theorem specRoot_c (w : World) :
    Calls Try.prog 11 #[] w fun e w' => e = .returned (.int .i64 2) ∧ w = w' := by
  have c1 : Hid (Calls Try.prog 29 #[.int .i64 2, .int .i64 16] w fun e w' => e = .returned (.int .i64 1) ∧ w = w') := by
    have := specPower_c 2 16 w (by omega) (by omega) (by omega)
    rw [pw_2_16] at this
    exact this
  have c2 : Hid (Calls Try.prog 29 #[.int .i64 2, .int .i64 8] w fun e w' => e = .returned (.int .i64 256) ∧ w = w') := by
    have := specPower_c 2 8 w (by omega) (by omega) (by omega)
    rw [pw_2_8] at this
    exact this
  go_enter Try.func11, Try.ntmps11
  go_wp2
  go_loop [1] (fun r => r = .int .i64 2) (fun _ => 0)
  case atStart => rfl
  case round =>
    subst hrel
    go_wp2_with (first | (go_at_call 29; (with_reducible refine c1.out.mono ?_); rintro e w' ⟨rfl, rfl⟩) | (go_at_call 29; (with_reducible refine c2.out.mono ?_); rintro e w' ⟨rfl, rfl⟩))
    go_ret
    exact ⟨rfl, rfl⟩

/-- the states of the loop, of which each gives the next -/
def pmS : List (Int × Int × Int) → Value → Value → Value → Prop
  | [], _, _, _ => False
  | (a, n, p) :: r, va, vn, vp => (va = .int .i64 a ∧ vn = .int .i64 n ∧ vp = .int .i64 p) ∨ pmS r va vn vp
set_option maxHeartbeats 1000000 in
theorem pow_2_8 (w : World) : Calls Try.prog 30 #[.int .i64 2, .int .i64 8] w fun e w' => e = .returned (.int .i64 256) ∧ w = w' := by
  go_enter Try.func30, Try.ntmps30
  go_wp2
  go_loop [0, 1, 5] (fun va vn vp => pmS [(2, 8, 1), (4, 4, 1), (16, 2, 1), (256, 1, 1), (1, 0, 256)] va vn vp) (fun _ n _ => (intOf n).toNat)
  case atStart => exact .inl ⟨rfl, rfl, rfl⟩
  case round =>
    rcases hrel with ⟨rfl, rfl, rfl⟩ | ⟨rfl, rfl, rfl⟩ | ⟨rfl, rfl, rfl⟩ | ⟨rfl, rfl, rfl⟩ | ⟨rfl, rfl, rfl⟩ | h
    · go_wp2
      go_round
      case rel => exact .inr (.inl ⟨rfl, rfl, rfl⟩)
      case measure => simp [intOf]
    · go_wp2
      go_round
      case rel => exact .inr (.inr (.inl ⟨rfl, rfl, rfl⟩))
      case measure => simp [intOf]
    · go_wp2
      go_round
      case rel => exact .inr (.inr (.inr (.inl ⟨rfl, rfl, rfl⟩)))
      case measure => simp [intOf]
    · go_wp2
      go_round
      case rel => exact .inr (.inr (.inr (.inr (.inl ⟨rfl, rfl, rfl⟩))))
      case measure => simp [intOf]
    · go_wp2
      go_ret
      exact ⟨rfl, rfl⟩
    · cases h
set_option maxHeartbeats 1000000 in
theorem pow_2_15 (w : World) : Calls Try.prog 30 #[.int .i64 2, .int .i64 15] w fun e w' => e = .returned (.int .i64 129) ∧ w = w' := by
  go_enter Try.func30, Try.ntmps30
  go_wp2
  go_loop [0, 1, 5] (fun va vn vp => pmS [(2, 15, 1), (4, 7, 2), (16, 3, 8), (256, 1, 128), (1, 0, 129)] va vn vp) (fun _ n _ => (intOf n).toNat)
  case atStart => exact .inl ⟨rfl, rfl, rfl⟩
  case round =>
    rcases hrel with ⟨rfl, rfl, rfl⟩ | ⟨rfl, rfl, rfl⟩ | ⟨rfl, rfl, rfl⟩ | ⟨rfl, rfl, rfl⟩ | ⟨rfl, rfl, rfl⟩ | h
    · go_wp2
      go_round
      case rel => exact .inr (.inl ⟨rfl, rfl, rfl⟩)
      case measure => simp [intOf]
    · go_wp2
      go_round
      case rel => exact .inr (.inr (.inl ⟨rfl, rfl, rfl⟩))
      case measure => simp [intOf]
    · go_wp2
      go_round
      case rel => exact .inr (.inr (.inr (.inl ⟨rfl, rfl, rfl⟩)))
      case measure => simp [intOf]
    · go_wp2
      go_round
      case rel => exact .inr (.inr (.inr (.inr (.inl ⟨rfl, rfl, rfl⟩))))
      case measure => simp [intOf]
    · go_wp2
      go_ret
      exact ⟨rfl, rfl⟩
    · cases h
set_option maxHeartbeats 1000000 in
theorem pow_16_255 (w : World) : Calls Try.prog 30 #[.int .i64 16, .int .i64 255] w fun e w' => e = .returned (.int .i64 241) ∧ w = w' := by
  go_enter Try.func30, Try.ntmps30
  go_wp2
  go_loop [0, 1, 5] (fun va vn vp => pmS [(16, 255, 1), (256, 127, 16), (1, 63, 241), (1, 31, 241), (1, 15, 241), (1, 7, 241), (1, 3, 241), (1, 1, 241), (1, 0, 241)] va vn vp) (fun _ n _ => (intOf n).toNat)
  case atStart => exact .inl ⟨rfl, rfl, rfl⟩
  case round =>
    rcases hrel with ⟨rfl, rfl, rfl⟩ | ⟨rfl, rfl, rfl⟩ | ⟨rfl, rfl, rfl⟩ | ⟨rfl, rfl, rfl⟩ | ⟨rfl, rfl, rfl⟩ | ⟨rfl, rfl, rfl⟩ | ⟨rfl, rfl, rfl⟩ | ⟨rfl, rfl, rfl⟩ | ⟨rfl, rfl, rfl⟩ | h
    · go_wp2
      go_round
      case rel => exact .inr (.inl ⟨rfl, rfl, rfl⟩)
      case measure => simp [intOf]
    · go_wp2
      go_round
      case rel => exact .inr (.inr (.inl ⟨rfl, rfl, rfl⟩))
      case measure => simp [intOf]
    · go_wp2
      go_round
      case rel => exact .inr (.inr (.inr (.inl ⟨rfl, rfl, rfl⟩)))
      case measure => simp [intOf]
    · go_wp2
      go_round
      case rel => exact .inr (.inr (.inr (.inr (.inl ⟨rfl, rfl, rfl⟩))))
      case measure => simp [intOf]
    · go_wp2
      go_round
      case rel => exact .inr (.inr (.inr (.inr (.inr (.inl ⟨rfl, rfl, rfl⟩)))))
      case measure => simp [intOf]
    · go_wp2
      go_round
      case rel => exact .inr (.inr (.inr (.inr (.inr (.inr (.inl ⟨rfl, rfl, rfl⟩))))))
      case measure => simp [intOf]
    · go_wp2
      go_round
      case rel => exact .inr (.inr (.inr (.inr (.inr (.inr (.inr (.inl ⟨rfl, rfl, rfl⟩)))))))
      case measure => simp [intOf]
    · go_wp2
      go_round
      case rel => exact .inr (.inr (.inr (.inr (.inr (.inr (.inr (.inr (.inl ⟨rfl, rfl, rfl⟩))))))))
      case measure => simp [intOf]
    · go_wp2
      go_ret
      exact ⟨rfl, rfl⟩
    · cases h

set_option maxHeartbeats 400000 in
theorem implRoot_c (w : World) :
    Calls Try.prog 12 #[] w fun e w' => e = .returned (.int .i64 2) ∧ w = w' := by
  go_enter Try.func12, Try.ntmps12
  go_wp2
  go_loop [1, 2] (fun r _ => r = .int .i64 2) (fun _ _ => 0)
  case atStart => rfl
  case round =>
    subst hrel
    go_wp2_with (go_at_call 30; (with_reducible refine (pow_2_8 _).mono ?_); rintro e w' ⟨rfl, rfl⟩)
    go_ret
    exact ⟨rfl, rfl⟩

/-! ### the lists of the transform -/
def ptsOk (xs : List Int) : Bool := inAll xs 0 256 && decide (xs.length = 16)
theorem ptsOk_iff {xs : List Int} : ptsOk xs = true ↔ (∀ x ∈ xs, 0 ≤ x ∧ x ≤ 256) ∧ xs.length = 16 := by
  simp [ptsOk, inAll, inB]
theorem ptsOk_at {xs : List Int} (h : ptsOk xs = true) (k : Nat) : 0 ≤ xs.getD k 0 ∧ xs.getD k 0 ≤ 256 := by
  by_cases hk : k < xs.length
  · exact (ptsOk_iff.1 h).1 _ (mem_getD hk)
  · simp [List.getD, List.getElem?_eq_none (by omega : xs.length ≤ k)]
theorem ptsOk_len {xs : List Int} (h : ptsOk xs = true) : xs.length = 16 := (ptsOk_iff.1 h).2

set_option maxHeartbeats 400000 in
theorem specPts_c {C : Nat} {v : Value} {xs : List Int} (w : World) (h : Rd C w v xs) :
    Calls Try.prog 32 #[v] w fun e w' => e = .returned (.bool (ptsOk xs)) ∧ w = w' := by
  obtain ⟨A, n, c, rfl, h⟩ := h
  have hlen := hid h.len
  have hm := h.sm
  go_enter Try.func32, Try.ntmps32
  go_wp2
  go_loop [3] (fun i => ∃ k : Nat, k ≤ n ∧ i = .int .i64 k ∧ Hid (∀ j, j < k → inB (xs.getD j 0) 0 256 = true)) (fun i => n - (intOf i).toNat)
  case atStart => exact ⟨0, Nat.zero_le _, rfl, fun j hj => absurd hj (by omega)⟩
  case round =>
    obtain ⟨k, hk, rfl, hall⟩ := hrel
    by_cases hlt : k < n
    · obtain ⟨b, off, x, rfl, _, c1, hx⟩ := h.at_ hlt
      by_cases hb : inB x 0 256 = true
      · go_wp2_with (go_at_call 33; refine (l1In_c _ _ _ _).mono ?_; rintro e w' ⟨rfl, rfl⟩)
        go_round
        case rel =>
          refine ⟨k + 1, by omega, by go_num, fun j hj => ?_⟩
          by_cases h : j < k
          · exact hall.out j h
          · obtain rfl : j = k := by omega
            rw [hx.out]; exact hb
        case measure => simp [intOf]; omega
      · have hb' : inB x 0 256 = false := by simpa using hb
        clear hb
        go_wp2_with (go_at_call 33; refine (l1In_c _ _ _ _).mono ?_; rintro e w' ⟨rfl, rfl⟩)
        go_ret
        refine ⟨ret_bool ?_, rfl⟩
        have := inAll_no (lo := 0) (hi := 256) (xs := xs) (j := k) (by have := hlen.out; omega) (by rw [hx.out]; exact hb')
        simp [ptsOk, this]
    · obtain rfl : k = n := by omega
      have H : Hid (ptsOk xs = decide (k = 16)) := by
        have := inAll_yes (lo := 0) (hi := 256) (xs := xs) (fun j hj => hall.out j (by have := hlen.out; omega))
        show _ = _
        rw [ptsOk, this, hlen.out, Bool.true_and]
      go_wp2
      go_ret
      refine ⟨ret_bool ?_, rfl⟩
      rw [H.out, Bool.eq_iff_iff]
      simp only [beq_iff_eq, decide_eq_true_eq]
      omega

set_option maxHeartbeats 400000 in
theorem implPts_c {C : Nat} {v : Value} {xs : List Int} (w : World) (h : Rd C w v xs) :
    Calls Try.prog 34 #[v] w fun e w' => e = .returned (.bool (ptsOk xs)) ∧ w = w' := by
  obtain ⟨A, n, c, rfl, h⟩ := h
  have hlen := hid h.len
  have hm := h.sm
  by_cases h16 : n = 16
  · subst h16
    go_enter Try.func34, Try.ntmps34
    go_wp2
    go_loop [4, 10] (fun _ i => ∃ k : Nat, k ≤ 16 ∧ i = .int .i64 k ∧ Hid (∀ j, j < k → inB (xs.getD j 0) 0 256 = true)) (fun _ i => 16 - (intOf i).toNat)
    case atStart => exact ⟨0, Nat.zero_le _, rfl, fun j hj => absurd hj (by omega)⟩
    case round =>
      obtain ⟨k, hk, rfl, hall⟩ := hrel
      by_cases hlt : k < 16
      · obtain ⟨b, off, x, rfl, _, c1, hx⟩ := h.at_ hlt
        by_cases hb : 0 ≤ x
        · by_cases hb2 : x ≤ 256
          · go_wp2
            go_round
            case rel =>
              refine ⟨k + 1, by omega, by go_num, fun j hj => ?_⟩
              by_cases h : j < k
              · exact hall.out j h
              · obtain rfl : j = k := by omega
                rw [hx.out]; exact inB_yes hb hb2
            case measure => simp [intOf]; omega
          · have hb3 : 257 ≤ x := by omega
            go_wp2
            go_ret
            refine ⟨ret_bool ?_, rfl⟩
            have := inAll_no (lo := 0) (hi := 256) (xs := xs) (j := k) (by have := hlen.out; omega) (by rw [hx.out]; exact inB_hi (by omega))
            simp [ptsOk, this]
        · go_wp2
          go_ret
          refine ⟨ret_bool ?_, rfl⟩
          have := inAll_no (lo := 0) (hi := 256) (xs := xs) (j := k) (by have := hlen.out; omega) (by rw [hx.out]; exact inB_lo (by omega))
          simp [ptsOk, this]
      · obtain rfl : k = 16 := by omega
        go_wp2
        go_ret
        refine ⟨ret_bool ?_, rfl⟩
        have := inAll_yes (lo := 0) (hi := 256) (xs := xs) (fun j hj => hall.out j (by have := hlen.out; omega))
        rw [ptsOk, this, hlen.out]
        rfl
  · have q : ((n : Int) != 16) = true := by simp; omega
    go_enter Try.func34, Try.ntmps34
    go_wp2
    go_ret
    refine ⟨ret_bool ?_, rfl⟩
    rw [ptsOk, hlen.out]
    simp [h16]

/-! ### the laws' form -/
theorem specRoot_t (w : World) : Calls Try.prog 11 #[] w fun e w' => e = .returned (.int .i64 2) ∧ Below w.heap.size w w' := b_same (specRoot_c w)
theorem implRoot_t (w : World) : Calls Try.prog 12 #[] w fun e w' => e = .returned (.int .i64 2) ∧ Below w.heap.size w w' := b_same (implRoot_c w)

end Go.Proofs.Ytmjghkpijphfbaa
