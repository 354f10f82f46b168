/-
  CorrelateAt and FindPattern, of the program and of the reference: the sums of products at an index; the first index at which that sum is greatest.
-/
import Derived.Test.YtokgonhfmidbeaaFilt
namespace Go.Proofs.Ytokgonhfmidbeaa
open Go.RowKit

def dotF (xs ys : List Int) (at' : Nat) : Int := sm ys.length fun k => xs.getD (at' + k) 0 * ys.getD k 0
theorem dot_bound {xs ys : List Int} (hx : seqOk xs = true) (hy : seqOk ys = true) (a : Nat) {k : Nat} (hk : k ≤ 64) :
    -64000000 ≤ sm k (fun k => xs.getD (a + k) 0 * ys.getD k 0) ∧ sm k (fun k => xs.getD (a + k) 0 * ys.getD k 0) ≤ 64000000 := by
  have h := sm_bound (n := k) (f := fun k => xs.getD (a + k) 0 * ys.getD k 0) (c := 1000000) fun i _ => mul_bound (seqOk_at hx _) (seqOk_at hy _)
  omega
def corrOk (xs ys : List Int) (i : Int) : Bool := seqOk xs && seqOk ys && inB i 0 (xs.length - ys.length)
def corr (xs ys : List Int) (i : Int) : Int := if corrOk xs ys i = true then dotF xs ys i.toNat else 0
theorem corr_yes {xs ys : List Int} {i : Int} (h : corrOk xs ys i = true) : corr xs ys i = dotF xs ys i.toNat := by simp [corr, h]
theorem corr_no {xs ys : List Int} {i : Int} (h : corrOk xs ys i = false) : corr xs ys i = 0 := by simp [corr, h]

theorem getD_drop (xs : List Int) (a k : Nat) : (xs.drop a).getD k 0 = xs.getD (a + k) 0 := by simp [List.getD, List.getElem?_drop]

theorem RdA.cut {C : Nat} {w : World} {A : Option Addr} {n c : Nat} {xs : List Int} (h : RdA C w A n c xs) {k : Nat} (hk : k ≤ n) :
    RdA C w (if c = k then A else A.map (·.add k)) (n - k) (c - k) (xs.drop k) := by
  refine ⟨by rw [List.length_drop, h.len], by have := h.le; omega, by have := h.cap; omega, by have := h.sm; omega, fun hn => ?_⟩
  obtain ⟨b, off, rfl, hb, hc⟩ := h.cells (by omega)
  rw [if_neg (by have := h.le; omega)]
  have hadd : (⟨b, off, none⟩ : Addr).add k = ⟨b, off + k, none⟩ := by unfold Addr.add; split <;> simp_all
  refine ⟨b, off + k, by simp [hadd], hb, fun i hi => ?_⟩
  rw [getD_drop, Nat.add_assoc]
  exact hc _ (by omega)

set_option maxHeartbeats 400000 in
theorem dot_c {C D : Nat} {v1 v2 : Value} {xs ys : List Int} (w : World) (a : Nat) (h1 : Rd C w v1 (xs.drop a)) (h2 : Rd D w v2 ys) (hx : seqOk xs = true) (hy : seqOk ys = true) (hl : a + ys.length ≤ xs.length) :
    Calls Try.prog 25 #[v1, v2] w fun e w' => e = .returned (.int .i64 (dotF xs ys a)) ∧ ∃ q, w' = w.drewN q := by
  obtain ⟨A, n, c, rfl, h1⟩ := h1
  obtain ⟨B, m, d, rfl, h2⟩ := h2
  have l1 := h1.len
  rw [List.length_drop] at l1
  have l2 := h2.len
  have hmn : m ≤ n := by omega
  have hm64 : m ≤ 64 := by have := seqOk_len hy; omega
  have L2 := hid l2
  clear l1 l2 hl
  have X := hid hx
  have Y := hid hy
  clear hx hy
  go_enter Try.func25, Try.ntmps25
  go_wp2
  go_loopw [5, 10] (fun t i wr => ∃ k : Nat, k ≤ m ∧ i = .int .i64 k ∧ t = .int .i64 (sm k fun k => xs.getD (a + k) 0 * ys.getD k 0) ∧ ∃ q, wr = w.drewN q) (fun _ i _ => m - (intOf i).toNat)
  case atStart => exact ⟨0, Nat.zero_le _, rfl, rfl, 0, rfl⟩
  case round =>
    obtain ⟨k, hk, rfl, rfl, q, rfl⟩ := hrel
    by_cases hlt : k < m
    · obtain ⟨b, off, x, rfl, _, c1, hx⟩ := h1.at_ (k := k) (by omega)
      obtain ⟨b', off', y, rfl, _, c2, hy⟩ := h2.at_ hlt
      rw [getD_drop] at hx
      have bx := seqOk_at X.out (a + k)
      have by' := seqOk_at Y.out k
      rw [hx.out] at bx
      rw [hy.out] at by'
      have bm := mul_bound by' bx
      have bs := dot_bound X.out Y.out a (k := k) (by omega)
      have hs : Hid (sm (k + 1) (fun k => xs.getD (a + k) 0 * ys.getD k 0) = sm k (fun k => xs.getD (a + k) 0 * ys.getD k 0) + y * x) := by
        show _ = _
        simp only [sm]
        rw [hx.out, hy.out, Int.mul_comm]
      generalize hS : sm k (fun k => xs.getD (a + k) 0 * ys.getD k 0) = S at bs hs
      have hS' := hid hS
      clear hS
      generalize hp : y * x = p at bm hs
      have i1 : (k : Int) < (n : Int) := by omega
      go_wp2
      go_roundw
      case rel => exact ⟨k + 1, by omega, by go_num, by rw [hs.out], _, rfl⟩
      case measure => simp [intOf]; omega
    · obtain rfl : k = m := by omega
      go_wp2
      go_ret
      exact ⟨ret_int (by rw [dotF, L2.out]), _, rfl⟩

set_option maxHeartbeats 400000 in
theorem implCorr_c {C D : Nat} {v1 v2 : Value} {xs ys : List Int} (w : World) (i : Int) (h1 : Rd C w v1 xs) (h2 : Rd D w v2 ys) (hi : -9223372036854775808 ≤ i ∧ i ≤ 9223372036854775807) :
    Calls Try.prog 8 #[v1, v2, .int .i64 i] w fun e w' => e = .returned (.int .i64 (corr xs ys i)) ∧ ∃ q, w' = w.drewN q := by
  obtain ⟨A, n, c, rfl, h1⟩ := h1
  obtain ⟨B, m, d, rfl, h2⟩ := h2
  have R1 : Rd C w (.slice A n c) xs := ⟨_, _, _, rfl, h1⟩
  have R2 : Rd D w (.slice B m d) ys := ⟨_, _, _, rfl, h2⟩
  have l1 := h1.len
  have l2 := h2.len
  have e1 := h1.sm
  have e2 := h2.sm
  have e3 := h1.le
  have e4 := h1.cap
  by_cases hok : corrOk xs ys i = true
  · have H := hid (corr_yes hok)
    obtain ⟨⟨s1, s2⟩, h0, hle⟩ : (seqOk xs = true ∧ seqOk ys = true) ∧ 0 ≤ i ∧ i ≤ xs.length - ys.length := by simpa [corrOk, inB_iff] using hok
    rw [l1, l2] at hle
    obtain ⟨a, rfl⟩ := Int.eq_ofNat_of_zero_le h0
    have hl : Hid (a + ys.length ≤ xs.length) := by show _ ≤ _; omega
    have hcut := RdA.cut h1 (k := a) (by omega)
    have hle1 : ¬ (n : Int) - m < a := by omega
    have hge0 : ¬ (a : Int) < 0 := by omega
    clear l1 l2 hok
    by_cases hca : c = a
    all_goals
      (first | rw [if_pos hca] at hcut | rw [if_neg hca] at hcut)
      have R3 : Rd C w (.slice _ (n - a) (c - a)) (xs.drop a) := ⟨_, _, _, rfl, hcut⟩
      clear hcut
      (try subst hca)
      go_enter Try.func8, Try.ntmps8
      go_wp2_with (first | (go_at_call 7; (with_reducible refine (implSeq_c _ R1).mono ?_); rintro e w' ⟨rfl, rfl⟩) | (go_at_call 7; (with_reducible refine (implSeq_c _ R2).mono ?_); rintro e w' ⟨rfl, rfl⟩))
      (try simp only [Nat.sub_self, show n - c = 0 by omega] at R3)
      refine (dot_c _ _ R3 R2 s1 s2 hl.out).mono ?_
      rintro e w' ⟨rfl, q, rfl⟩
      go_wp2
      go_ret
      exact ⟨ret_int (by rw [H.out]; rfl), _, rfl⟩
  · have hok' : corrOk xs ys i = false := by simpa using hok
    have H := hid (corr_no hok')
    clear hok
    by_cases s1 : seqOk xs = true
    · by_cases s2 : seqOk ys = true
      · have hin : inB i 0 (n - m) = false := by simpa [corrOk, s1, s2, l1, l2] using hok'
        clear hok' l1 l2
        by_cases g0 : 0 ≤ i
        · have g1 : (n : Int) - m < i := by
            have := hin
            simp [inB, g0] at this
            omega
          clear hin
          go_enter Try.func8, Try.ntmps8
          go_wp2_with (first | (go_at_call 7; (with_reducible refine (implSeq_c _ R1).mono ?_); rintro e w' ⟨rfl, rfl⟩) | (go_at_call 7; (with_reducible refine (implSeq_c _ R2).mono ?_); rintro e w' ⟨rfl, rfl⟩))
          go_ret
          exact ⟨ret_int H.out.symm, 0, rfl⟩
        · have g1 : i < 0 := by omega
          clear hin
          go_enter Try.func8, Try.ntmps8
          go_wp2_with (first | (go_at_call 7; (with_reducible refine (implSeq_c _ R1).mono ?_); rintro e w' ⟨rfl, rfl⟩) | (go_at_call 7; (with_reducible refine (implSeq_c _ R2).mono ?_); rintro e w' ⟨rfl, rfl⟩))
          go_ret
          exact ⟨ret_int H.out.symm, 0, rfl⟩
      · have s2' : seqOk ys = false := by simpa using s2
        clear s2 hok' l1 l2
        go_enter Try.func8, Try.ntmps8
        go_wp2_with (first | (go_at_call 7; (with_reducible refine (implSeq_c _ R1).mono ?_); rintro e w' ⟨rfl, rfl⟩) | (go_at_call 7; (with_reducible refine (implSeq_c _ R2).mono ?_); rintro e w' ⟨rfl, rfl⟩))
        go_ret
        exact ⟨ret_int H.out.symm, 0, rfl⟩
    · have s1' : seqOk xs = false := by simpa using s1
      clear s1 hok' l1 l2
      go_enter Try.func8, Try.ntmps8
      go_wp2_with (go_at_call 7; (with_reducible refine (implSeq_c _ R1).mono ?_); rintro e w' ⟨rfl, rfl⟩)
      go_ret
      exact ⟨ret_int H.out.symm, 0, rfl⟩

set_option maxHeartbeats 400000 in
theorem specCorr_c {C D : Nat} {v1 v2 : Value} {xs ys : List Int} (w : World) (i : Int) (h1 : Rd C w v1 xs) (h2 : Rd D w v2 ys) (hi : -9223372036854775808 ≤ i ∧ i ≤ 9223372036854775807) :
    Calls Try.prog 28 #[v1, v2, .int .i64 i] w fun e w' => e = .returned (.int .i64 (corr xs ys i)) ∧ ∃ q, w' = w.drewN q := by
  obtain ⟨A, n, c, rfl, h1⟩ := h1
  obtain ⟨B, m, d, rfl, h2⟩ := h2
  have R1 : Rd C w (.slice A n c) xs := ⟨_, _, _, rfl, h1⟩
  have R2 : Rd D w (.slice B m d) ys := ⟨_, _, _, rfl, h2⟩
  have l1 := h1.len
  have l2 := h2.len
  have e1 := h1.sm
  have e2 := h2.sm
  by_cases hok : corrOk xs ys i = true
  · have H := hid (corr_yes hok)
    obtain ⟨⟨s1, s2⟩, hin⟩ : (seqOk xs = true ∧ seqOk ys = true) ∧ inB i 0 (xs.length - ys.length) = true := by simpa [corrOk] using hok
    have hle := inB_iff.1 hin
    rw [l1, l2] at hle hin
    obtain ⟨h0, hle⟩ := hle
    obtain ⟨a, rfl⟩ := Int.eq_ofNat_of_zero_le h0
    have m64 : m ≤ 64 := by have := seqOk_len s2; omega
    have S1 := hid s1
    have S2 := hid s2
    have L2 := hid l2
    clear l1 l2 hok
    go_enter Try.func28, Try.ntmps28
    go_wp2_with (first | (go_at_call 27; (with_reducible refine (specSeq_c _ R1).mono ?_); rintro e w' ⟨rfl, rfl⟩) | (go_at_call 27; (with_reducible refine (specSeq_c _ R2).mono ?_); rintro e w' ⟨rfl, rfl⟩) | (go_at_call 38; refine (l1In_c _ _ _ _).mono ?_; rintro e w' ⟨rfl, rfl⟩))
    go_loopw [7, 8] (fun t i wr => ∃ k : Nat, k ≤ m ∧ i = .int .i64 k ∧ t = .int .i64 (sm k fun k => xs.getD (a + k) 0 * ys.getD k 0) ∧ ∃ q, wr = w.drewN q) (fun _ i _ => m - (intOf i).toNat)
    case atStart => exact ⟨0, Nat.zero_le _, rfl, rfl, 0, rfl⟩
    case round =>
      obtain ⟨k, hk, rfl, rfl, q, rfl⟩ := hrel
      by_cases hlt : k < m
      · obtain ⟨b, off, x, rfl, _, c1, hx⟩ := h1.at_ (k := a + k) (by omega)
        obtain ⟨b', off', y, rfl, _, c2, hy⟩ := h2.at_ hlt
        have bx := seqOk_at S1.out (a + k)
        have by' := seqOk_at S2.out k
        rw [hx.out] at bx
        rw [hy.out] at by'
        have bm := mul_bound bx by'
        have bs := dot_bound S1.out S2.out a (k := k) (by omega)
        have hs : Hid (sm (k + 1) (fun k => xs.getD (a + k) 0 * ys.getD k 0) = sm k (fun k => xs.getD (a + k) 0 * ys.getD k 0) + x * y) := by
          show _ = _
          simp only [sm]
          rw [hx.out, hy.out]
        generalize hS : sm k (fun k => xs.getD (a + k) 0 * ys.getD k 0) = S at bs hs
        have hS' := hid hS
        clear hS
        generalize hp : x * y = p at bm hs
        have u1 : IntKind.i64.wrap ((a : Int) + k) = (a : Int) + k := IntWalk.i64_in _ (by omega)
        have u2 : IntKind.i64.wrap (x * y) = p := by rw [hp]; exact IntWalk.i64_in _ (by omega)
        clear hp
        have u3 : IntKind.i64.wrap (S + p) = S + p := IntWalk.i64_in _ (by omega)
        have u4 : (0 : Int) ≤ (a : Int) + k := by omega
        have u5 : ((a : Int) + k).toNat = a + k := by omega
        have u6 : (a : Int) + k < (n : Int) := by omega
        have u7 : (k : Int) < (m : Int) := by omega
        go_wp2
        go_quiet (fail)
        clear u1 u2 u3 u4 u5 u6
        go_wp2
        go_roundw
        case rel => exact ⟨k + 1, by omega, by go_num, by rw [hs.out], _, rfl⟩
        case measure => simp [intOf]; omega
      · obtain rfl : k = m := by omega
        go_wp2
        go_ret
        exact ⟨ret_int (by rw [H.out, dotF, L2.out]; rfl), _, rfl⟩
  · have hok' : corrOk xs ys i = false := by simpa using hok
    have H := hid (corr_no hok')
    clear hok
    by_cases s1 : seqOk xs = true
    · by_cases s2 : seqOk ys = true
      · have hin : inB i 0 (n - m) = false := by simpa [corrOk, s1, s2, l1, l2] using hok'
        clear hok' l1 l2
        go_enter Try.func28, Try.ntmps28
        go_wp2_with (first | (go_at_call 27; (with_reducible refine (specSeq_c _ R1).mono ?_); rintro e w' ⟨rfl, rfl⟩) | (go_at_call 27; (with_reducible refine (specSeq_c _ R2).mono ?_); rintro e w' ⟨rfl, rfl⟩) | (go_at_call 38; refine (l1In_c _ _ _ _).mono ?_; rintro e w' ⟨rfl, rfl⟩))
        go_ret
        exact ⟨ret_int H.out.symm, 0, rfl⟩
      · have s2' : seqOk ys = false := by simpa using s2
        clear s2 hok' l1 l2
        go_enter Try.func28, Try.ntmps28
        go_wp2_with (first | (go_at_call 27; (with_reducible refine (specSeq_c _ R1).mono ?_); rintro e w' ⟨rfl, rfl⟩) | (go_at_call 27; (with_reducible refine (specSeq_c _ R2).mono ?_); rintro e w' ⟨rfl, rfl⟩))
        go_ret
        exact ⟨ret_int H.out.symm, 0, rfl⟩
    · have s1' : seqOk xs = false := by simpa using s1
      clear s1 hok' l1 l2
      go_enter Try.func28, Try.ntmps28
      go_wp2_with (go_at_call 27; (with_reducible refine (specSeq_c _ R1).mono ?_); rintro e w' ⟨rfl, rfl⟩)
      go_ret
      exact ⟨ret_int H.out.symm, 0, rfl⟩

end Go.Proofs.Ytokgonhfmidbeaa
