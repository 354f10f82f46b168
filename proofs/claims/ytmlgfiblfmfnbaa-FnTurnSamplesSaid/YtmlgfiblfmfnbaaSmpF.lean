/-
  Comparing, marking and re-reading slices of samples, and the validity of a signal.
-/
import Derived.Test.YtmlgfiblfmfnbaaSmp
import Derived.Test.YtmlgfiblfmfnbaaBits
import Derived.StillTailTactics
namespace Go.Proofs.Ytmlgfiblfmfnbaa
open Go.RowKit

set_option maxHeartbeats 400000 in
theorem eqSample_y (x y : Int) (w : World) :
    Calls Try.prog 47 #[.agg #[.int .i64 x, .int .i64 y], .agg #[.int .i64 x, .int .i64 y]] w fun e w' => e = .returned (.bool true) ∧ Below w.heap.size w w' := by
  go_enter Try.func47, Try.ntmps47
  go_wp2
  go_ret
  exact ⟨rfl, ((Below.refl _ _).alloc (Nat.le_refl _) _).alloc (by simp) _⟩

set_option maxHeartbeats 1000000 in
theorem eqSampleS_t {C D : Nat} {v1 v2 : Value} {xs : List Int} (w : World) (h1 : RdM C w v1 xs) (h2 : RdM D w v2 xs) (hC : C ≤ w.heap.size) (hD : D ≤ w.heap.size) :
    Calls Try.prog 19 #[v1, v2] w fun e w' => e = .returned (.bool true) ∧ Below w.heap.size w w' := by
  obtain ⟨A, n, c, rfl, h1⟩ := h1
  obtain ⟨B, m, d, rfl, h2⟩ := h2
  obtain rfl : n = m := by have := h1.len; have := h2.len; omega
  have hm := h1.sm
  go_enter Try.func19, Try.ntmps19
  go_wp2
  go_loopw [5] (fun i wr => ∃ k : Nat, k ≤ n ∧ i = .int .i64 k ∧ Below w.heap.size w wr) (fun i _ => n - (intOf i).toNat)
  case atStart => exact ⟨0, Nat.zero_le _, rfl, Below.refl _ _⟩
  case round =>
    obtain ⟨k, hk, rfl, hb⟩ := hrel
    by_cases hlt : k < n
    · obtain ⟨b, off, x, y, rfl, hbC, hc1, hc2, hx, hy⟩ := h1.at_ hlt
      obtain ⟨b', off', x', y', rfl, hbD, hc1', hc2', hx', hy'⟩ := h2.at_ hlt
      obtain rfl : x = x' := hx.out.symm.trans hx'.out
      obtain rfl : y = y' := hy.out.symm.trans hy'.out
      have c1 := (hb.cell (p := ⟨b, off + k * 2, none⟩) (by simp; omega)).trans hc1
      have c2 := (hb.cell (p := ⟨b, off + k * 2 + 1, none⟩) (by simp; omega)).trans hc2
      have c3 := (hb.cell (p := ⟨b', off' + k * 2, none⟩) (by simp; omega)).trans hc1'
      have c4 := (hb.cell (p := ⟨b', off' + k * 2 + 1, none⟩) (by simp; omega)).trans hc2'
      have i1 : (k : Int) < (n : Int) := by omega
      have hz := hb.size
      clear hc1 hc2 hc1' hc2' hx hy hx' hy'
      go_wp2
      go_still_tail 8, (by kernel_rfl)
      change wpList _ _ _ _ _ wr.drew
      go_wp2_with (go_at_call 47; (with_reducible refine (eqSample_y _ _ _).mono ?_); rintro e w1 ⟨rfl, b1⟩)
      have hb2 := (below_drewN hb 1).trans (b1.mono (show w.heap.size ≤ wr.drew.heap.size from hz))
      clear c1 c2 c3 c4
      go_roundw
      case rel => exact ⟨k + 1, by omega, by go_num, hb2⟩
      case measure => simp [intOf]; omega
    · obtain rfl : k = n := by omega
      go_wp2
      go_ret
      exact ⟨rfl, hb⟩

set_option maxHeartbeats 1000000 in
theorem sameSignal_t {C D : Nat} {v1 v2 : Value} {xs : List Int} (w : World) (h1 : RdM C w v1 xs) (h2 : RdM D w v2 xs) :
    Calls Try.prog 38 #[v1, v2] w fun e w' => e = .returned (.bool true) ∧ Below w.heap.size w w' := by
  obtain ⟨A, n, c, rfl, h1⟩ := h1
  obtain ⟨B, m, d, rfl, h2⟩ := h2
  obtain rfl : n = m := by have := h1.len; have := h2.len; omega
  have hm := h1.sm
  go_enter Try.func38, Try.ntmps38
  go_wp2
  go_loopw [5] (fun i wr => ∃ k : Nat, k ≤ n ∧ i = .int .i64 k ∧ ∃ q, wr = w.drewN q) (fun i _ => n - (intOf i).toNat)
  case atStart => exact ⟨0, Nat.zero_le _, rfl, 0, rfl⟩
  case round =>
    obtain ⟨k, hk, rfl, q, rfl⟩ := hrel
    by_cases hlt : k < n
    · obtain ⟨b, off, x, y, rfl, hbC, c1, c2, hx, hy⟩ := h1.at_ hlt
      obtain ⟨b', off', x', y', rfl, hbD, c3, c4, hx', hy'⟩ := h2.at_ hlt
      obtain rfl : x = x' := hx.out.symm.trans hx'.out
      obtain rfl : y = y' := hy.out.symm.trans hy'.out
      have i1 : (k : Int) < (n : Int) := by omega
      clear hx hy hx' hy'
      go_wp2
      go_quiet (fail)
      go_wp2
      go_roundw
      case rel => exact ⟨k + 1, by omega, by go_num, _, rfl⟩
      case measure => simp [intOf]; omega
    · obtain rfl : k = n := by omega
      go_wp2
      go_ret
      exact ⟨rfl, below_drewN (Below.refl _ _) q⟩

set_option maxHeartbeats 1000000 in
theorem markSampleS_c {B C : Nat} {v : Value} {m : Nat} {xs : List Int} (w : World) (k : Int) (h : OwnM B C w v m xs) (h0 : 0 ≤ k) (h1 : k ≤ 100000000) :
    Calls Try.prog 24 #[v, .int .i64 k] w fun e w' => e = .returned (.int .i64 (k + (m * 2 : Nat))) ∧ OwnM B C w' v m (marks k (m * 2)) ∧ w.grownBy w' v.ownBlock := by
  have hsm := h.sm
  have hl := h.len
  rcases h.form with ⟨rfl, rfl, rfl⟩ | ⟨g, cap, rfl, hB, hC, hle, hcap⟩
  · go_enter Try.func24, Try.ntmps24
    go_wp2
    go_loop [1, 5] (fun q i => i = .int .i64 0 ∧ q = .int .i64 k) (fun _ _ => 0)
    case atStart => exact ⟨rfl, rfl⟩
    case round =>
      obtain ⟨rfl, rfl⟩ := hrel
      go_wp2
      go_ret
      exact ⟨ret_int (by simp), by simpa [marks, rg] using h, World.grownBy.refl _ _⟩
  · have hlen := hid hl
    clear hl
    go_enter Try.func24, Try.ntmps24
    go_wp2
    go_loopw [1, 5] (fun q i wr => ∃ j : Nat, j ≤ m ∧ i = .int .i64 j ∧ q = .int .i64 (k + j * 2) ∧ OwnM B C wr (.slice (some ⟨g, 0, none⟩) m cap) m (rg (m * 2) fun i => if i < j * 2 then k + i else xs.getD i 0) ∧ w.grownBy wr (some g)) (fun _ i _ => m - (intOf i).toNat)
    case atStart =>
      refine ⟨0, Nat.zero_le _, rfl, by simp, ?_, World.grownBy.refl _ _⟩
      have e : (rg (m * 2) fun i => if i < 0 * 2 then k + i else xs.getD i 0) = xs := by
        rw [← hlen.out]
        simpa using rg_self xs
      rw [e]; exact h
    case round =>
      obtain ⟨j, hj, rfl, rfl, ho, hg⟩ := hrel
      by_cases hlt : j < m
      · have cA := ho.cell (k := j * 2) (by omega)
        have cB := ho.cell (k := j * 2 + 1) (by omega)
        have fA := ho.free (j * 2)
        have fB := ho.free (j * 2 + 1)
        have s1 := mark_step (n := m * 2) (j := j * 2) (f := fun i => xs.getD i 0) (k := k)
        have s2 := mark_step (n := m * 2) (j := j * 2 + 1) (f := fun i => xs.getD i 0) (k := k)
        have e1 : k + ((j * 2 : Nat) : Int) = k + (j : Int) * 2 := by omega
        have e2 : k + ((j * 2 + 1 : Nat) : Int) = k + (j : Int) * 2 + 1 := by omega
        rw [e1] at s1
        rw [e2] at s2
        have ho2 := (ho.store (j * 2) (k + (j : Int) * 2)).store (j * 2 + 1) (k + (j : Int) * 2 + 1)
        rw [s1, s2] at ho2
        have hg2 : w.grownBy ((wr.setCell ⟨g, j * 2, none⟩ (.int .i64 (k + (j : Int) * 2))).setCell ⟨g, j * 2 + 1, none⟩ (.int .i64 (k + (j : Int) * 2 + 1))) (some g) := grown_set (grown_set hg _) _
        clear s1 s2 e1 e2
        clear ho hg h
        go_wp2
        go_roundw
        case rel => exact ⟨j + 1, by omega, by go_num, by first | go_num | (congr 1; push_cast; omega), by simpa [Nat.add_mul] using ho2, hg2⟩
        case measure => simp [intOf]; omega
      · obtain rfl : j = m := by omega
        clear h
        go_wp2
        go_ret
        refine ⟨ret_int (by simp), ?_, hg⟩
        have e : (rg (j * 2) fun i => if i < j * 2 then k + i else xs.getD i 0) = marks k (j * 2) := rg_congr fun i hi => by rw [if_pos hi]
        rw [e] at ho
        exact ho

set_option maxHeartbeats 1000000 in
theorem heldSampleS_t {C : Nat} {v : Value} {m : Nat} (w : World) (k : Int) (h : RdM C w v (marks k (m * 2))) (h0 : 0 ≤ k) (h1 : k ≤ 100000000) :
    Calls Try.prog 25 #[v, .int .i64 k] w fun e w' => e = .returned (.int .i64 (k + (m * 2 : Nat))) ∧ Below w.heap.size w w' := by
  obtain ⟨A, n, c, rfl, h⟩ := h
  have hm := h.sm
  obtain rfl : m = n := by have := h.len; rw [marks_length] at this; omega
  go_enter Try.func25, Try.ntmps25
  go_wp2
  go_loop [1, 5] (fun q i => ∃ j : Nat, j ≤ m ∧ i = .int .i64 j ∧ q = .int .i64 (k + j * 2)) (fun _ i => m - (intOf i).toNat)
  case atStart => exact ⟨0, Nat.zero_le _, rfl, by simp⟩
  case round =>
    obtain ⟨j, hj, rfl, rfl⟩ := hrel
    by_cases hlt : j < m
    · obtain ⟨b, off, x, y, rfl, _, c1, c2, hx, hy⟩ := h.at_ hlt
      obtain rfl : k + (j : Int) * 2 = x := by rw [← hx.out, marks, rg_getD (by omega)]; omega
      obtain rfl : k + (j : Int) * 2 + 1 = y := by rw [← hy.out, marks, rg_getD (by omega)]; omega
      go_wp2
      go_round
      case rel => exact ⟨j + 1, by omega, by go_num, by first | go_num | (congr 1; push_cast; omega)⟩
      case measure => simp [intOf]; omega
    · obtain rfl : j = m := by omega
      go_wp2
      go_ret
      exact ⟨ret_int (by simp), Below.refl _ _⟩

end Go.Proofs.Ytmlgfiblfmfnbaa
